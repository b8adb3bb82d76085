/-
  THE EVALUATOR, third part: operands, loads, stores: what the passing style says is what the model does.
-/
import Derived.Test.YtjhognibibmeiaaGreatDoorEb
set_option linter.unusedVariables false
namespace Go.Proofs.YtjhognibibmeiaaGreatDoor
namespace E
open Go Go.RowKit

/-! ### Facts of a program's types -/
structure Facts (P : Program) (t : Nat) (d : TD) : Prop where
  u : P.underlying t = some d.desc
  i : ∃ i z, P.info? t = some i ∧ i.size = d.sz ∧ i.bytes = d.bytes ∧ i.zero = some z ∧ z.cells.toList = d.zero
  one : d.zero.all (·.oneCell') = true
  zl : d.zero.length = d.sz
  scalar : d.isAgg = true ∨ ∀ i, P.info? t = some i → ∀ cs, i.zero ≠ some (.agg cs)

section
variable {P : Program} {t : Nat} {d : TD}
theorem Facts.sizeOf (h : Facts P t d) (w : World) : (Go.sizeOf t).run P w = .ok d.sz w := by
  obtain ⟨i, z, h1, h2, _⟩ := h.i
  simp [Go.sizeOf, typeInfo, h1, h2]
theorem Facts.info (h : Facts P t d) (w : World) : ∃ i, (typeInfo t).run P w = .ok i w ∧ P.info? t = some i ∧ i.size = d.sz ∧ i.bytes = d.bytes := by
  obtain ⟨i, z, h1, h2, h3, _⟩ := h.i
  exact ⟨i, by simp [typeInfo, h1], h1, h2, h3⟩
theorem Facts.zeroV (h : Facts P t d) (w : World) : ∃ z, (zeroValue t).run P w = .ok z w ∧ z.cells.toList = d.zero := by
  obtain ⟨i, z, h1, h2, h3, h4, h5⟩ := h.i
  exact ⟨z, by simp [zeroValue, typeInfo, h1, h4], h5⟩
theorem Facts.under (h : Facts P t d) (w : World) : (underlying t).run P w = .ok d.desc w := run_underlying h.u w
theorem Facts.isAgg (h : Facts P t d) (w : World) : (Go.isAgg t).run P w = .ok d.isAgg w := by
  unfold Go.isAgg TD.isAgg
  rw [Sem.run_bind, h.under w]
  cases d.desc <;> rfl
end

/-- The variables that are laid read as they are laid. -/
def GlOK (gl : Nat → Option (List Value)) (G : Gh) (w : World) : Prop := ∀ g cs, gl g = some cs → G.R g ∧ ∀ (j : Nat) v, cs[j]? = some v → At w g j v

theorem GlOK.ext {gl : Nat → Option (List Value)} {m : Nat} {G G' : Gh} {w w' : World} {hp : List Blk} (h : GlOK gl G w) (hh : HRel G w hp) (he : Ext m G w G' w') : GlOK gl G' w' := by
  intro g cs hg
  obtain ⟨h1, h2⟩ := h g cs hg
  refine ⟨he.rd g h1, fun j v hv => ?_⟩
  obtain ⟨h3, h4⟩ := h2 j v hv
  exact ⟨(World.cell?_of_block (a := ⟨g, j, none⟩) (he.keepR hh g h1)).trans h3, h4⟩

/-- The call of function g with these values ends in Φ. -/
def Runs (P : Program) (g : Nat) (vals : Array Value) (w : World) (Φ : Value → World → Prop) : Prop :=
  ((callFunc g vals).run P w = .ok (.enter g vals) w ∧ Calls P g vals w fun e w' => ∃ v, e = .returned v ∧ Φ v w') ∨
  ∃ v w', (callFunc g vals).run P w = .ok (.value v) w' ∧ Φ v w'

/-- What a contract promises. -/
def CallOK (P : Program) (gl : Nat → Option (List Value)) (g : Nat) (S : Spec) : Prop :=
  ∀ args h K, S args h K → ∀ G vals w, HRel G w h → GlOK gl G w → Rels G w args vals →
    Runs P g vals.toArray w fun v w' => ∃ r h' G', K r h' ∧ Ext G.n G w G' w' ∧ HRel G' w' h' ∧ Rel G' w' r v

/-- Whole numbers as a value's cells. -/
def ints (ns : List Int) : Value := .agg (ns.map fun n => Value.int .i64 n).toArray

/-- '==' at a type of whole numbers alone (a struct, an array, or int itself), and such a key. -/
structure EqOK (P : Program) (t : Nat) : Prop where
  guard : P.eqGuardType P.depth t = false
  alt : P.underlying t = some (.int .i64) ∨
    ((∀ (xs ys : List Int) (w : World), xs.length = P.cellsOf t → ys.length = P.cellsOf t → (Op.equal t (ints xs) (ints ys)).run P w = .ok (xs == ys) w) ∧
      ∀ (b : Bool) (xs : List Int) (w : World), xs.length = P.cellsOf t → (Instr.checkKey b 10000 t (ints xs)).run P w = .ok () w)

structure OK (P : Program) (X : Ctx) : Prop where
  T : ∀ t d, X.T t = some d → Facts P t d
  eq : ∀ t, X.eq t = true → EqOK P t
  C : ∀ g, CallOK P X.glob g (X.C g)

/-! ### Values taken apart -/
section
variable {G : Gh} {w : World}
theorem rel_v {x y : Value} (h : Rel G w (.v x) y) : y = x := by
  cases h with
  | r _ _ h => cases h; rfl
theorem rel_agg {cs : List LV} {y : Value} (h : Rel G w (.agg cs) y) : ∃ vs, y = .agg vs.toArray ∧ Rels G w cs vs := by
  cases h with
  | r _ _ h => cases h with
    | agg _ vs hl h => exact ⟨vs, rfl, hl, fun i l x h1 h2 => .r _ _ (h i l x h1 h2)⟩
  | agg _ vs hl h => exact ⟨vs, rfl, hl, h⟩
theorem rel_tup {cs : List LV} {y : Value} (h : Rel G w (.tup cs) y) : ∃ vs, y = .tuple vs.toArray ∧ Rels G w cs vs := by
  cases h with
  | r _ _ h => cases h with
    | tup _ vs hl h => exact ⟨vs, rfl, hl, fun i l x h1 h2 => .r _ _ (h i l x h1 h2)⟩
  | tup _ vs hl h => exact ⟨vs, rfl, hl, h⟩
theorem rel_rd {es : List (List LV)} {y : Value} (h : Rel G w (.rd es) y) : RRel G.R w (.rd es) y := by
  cases h with
  | r _ _ h => exact h
theorem rel_sl {id off len : Nat} {cap : Option Nat} {y : Value} (h : Rel G w (.sl id off len cap) y) :
    id < G.n ∧ ∃ cp, y = .slice (some ⟨(G.ρ id).b, off * (G.ρ id).sz, none⟩) len cp ∧ len ≤ cp ∧ off + cp ≤ (G.ρ id).cap ∧ ∀ c, cap = some c → cp = c := by
  cases h with
  | r _ _ h => cases h
  | sl _ _ _ _ cp hn h1 h2 h3 => exact ⟨hn, cp, rfl, h1, h2, h3⟩
theorem rel_ptr {id i sub : Nat} {y : Value} (h : Rel G w (.ptr id i sub) y) : id < G.n ∧ y = .pointer (some ⟨(G.ρ id).b, i * (G.ρ id).sz + sub, none⟩) := by
  cases h with
  | r _ _ h => cases h
  | ptr _ _ _ hn => exact ⟨hn, rfl⟩
theorem rel_eptr {e : List LV} {sub : Nat} {y : Value} (h : Rel G w (.eptr e sub) y) :
    ∃ (b o : Nat) (val : Nat → Value), y = .pointer (some ⟨b, o + sub, none⟩) ∧ G.R b ∧ (∀ j, j < e.length → At w b (o + j) (val j)) ∧ ∀ (j : Nat) c, e[j]? = some c → RRel G.R w c (val j) := by
  cases h with
  | r _ _ h => cases h
  | eptr _ _ b o val hR hm h => exact ⟨b, o, val, rfl, hR, hm, h⟩
theorem rel_mp {id : Nat} {y : Value} (h : Rel G w (.mp id) y) : id < G.n ∧ y = .map (some (G.ρ id).b) := by
  cases h with
  | r _ _ h => cases h
  | mp _ hn => exact ⟨hn, rfl⟩
theorem rel_clo {f : Nat} {cs : List LV} {y : Value} (h : Rel G w (.clo f cs) y) : ∃ vs, y = .func (.func f) #[] vs.toArray ∧ Rels G w cs vs := by
  cases h with
  | r _ _ h => cases h with
    | clo _ => exact ⟨[], rfl, rfl, by simp⟩
  | clo _ _ vs hl h => exact ⟨vs, rfl, hl, h⟩
theorem rels_nil : Rels G w [] [] := ⟨rfl, by simp⟩
theorem rels_cons {l : LV} {x : Value} {ls : List LV} {xs : List Value} (h : Rel G w l x) (hs : Rels G w ls xs) : Rels G w (l :: ls) (x :: xs) := by
  refine ⟨by simp [hs.1], fun i l' x' h1 h2 => ?_⟩
  cases i with
  | zero => simp at h1 h2; subst h1 h2; exact h
  | succ i => exact hs.2 i l' x' (by simpa using h1) (by simpa using h2)
theorem rels_append {ls ls' : List LV} {xs xs' : List Value} (h : Rels G w ls xs) (h' : Rels G w ls' xs') : Rels G w (ls ++ ls') (xs ++ xs') := by
  refine ⟨by simp [h.1, h'.1], fun i l x h1 h2 => ?_⟩
  rcases Nat.lt_or_ge i ls.length with hi | hi
  · rw [List.getElem?_append_left hi] at h1
    rw [List.getElem?_append_left (h.1 ▸ hi)] at h2
    exact h.2 i l x h1 h2
  · rw [List.getElem?_append_right hi] at h1
    rw [List.getElem?_append_right (h.1 ▸ hi), ← h.1] at h2
    exact h'.2 _ l x h1 h2
theorem rels_get {ls : List LV} {xs : List Value} (h : Rels G w ls xs) {i : Nat} {l : LV} (hl : ls[i]? = some l) : ∃ x, xs[i]? = some x ∧ Rel G w l x := by
  have hi := (List.getElem?_eq_some_iff.1 hl).1
  have hi' : i < xs.length := h.1 ▸ hi
  exact ⟨xs[i], List.getElem?_eq_getElem hi', h.2 i l _ hl (List.getElem?_eq_getElem hi')⟩
theorem rels_take {ls : List LV} {xs : List Value} (h : Rels G w ls xs) (n : Nat) : Rels G w (ls.take n) (xs.take n) := by
  refine ⟨by simp [h.1], fun i l x h1 h2 => ?_⟩
  rw [List.getElem?_take] at h1 h2
  split at h1
  · rename_i hi
    rw [if_pos hi] at h2
    exact h.2 i l x h1 h2
  · cases h1
theorem rels_drop {ls : List LV} {xs : List Value} (h : Rels G w ls xs) (n : Nat) : Rels G w (ls.drop n) (xs.drop n) := by
  refine ⟨by simp [h.1], fun i l x h1 h2 => ?_⟩
  rw [List.getElem?_drop] at h1 h2
  exact h.2 _ l x h1 h2
theorem rels_set {ls : List LV} {xs : List Value} (h : Rels G w ls xs) (n : Nat) {l : LV} {x : Value} (hx : Rel G w l x) : Rels G w (ls.set n l) (xs.set n x) := by
  refine ⟨by simp [h.1], fun i l' x' h1 h2 => ?_⟩
  by_cases hi : n = i
  · subst hi
    have hn : n < (ls.set n l).length := (List.getElem?_eq_some_iff.1 h1).1
    rw [List.length_set] at hn
    rw [List.getElem?_set_self hn] at h1
    rw [List.getElem?_set_self (h.1 ▸ hn)] at h2
    injection h1 with h1
    injection h2 with h2
    subst h1 h2
    exact hx
  · rw [List.getElem?_set_ne hi] at h1 h2
    exact h.2 i l' x' h1 h2
theorem rels_v (xs : List Value) : Rels G w (xs.map .v) xs := by
  refine ⟨by simp, fun i l x h1 h2 => ?_⟩
  rw [List.getElem?_map, h2] at h1
  simp at h1
  subst h1
  exact .r _ _ (.v x)
theorem rel_ofValue (x : Value) : Rel G w (ofValue x) x := by
  cases x with
  | agg cs =>
    have hr : Rels G w (cs.toList.map .v) cs.toList := rels_v cs.toList
    have := Rel.agg (G := G) (w := w) (cs.toList.map .v) cs.toList hr.1 hr.2
    simpa [ofValue] using this
  | _ => exact .r _ _ (.v _)
end

/-! ### Operands -/
section
variable {X : Ctx} {G : Gh} {s : St} {a : Act} {w : World}
theorem opdK_ok {x : Operand} {k : LV → Prop} (h : opdK X s.t x k) (hg : GlOK X.glob G w) (ht : Rels G w s.t a.tmps.toList) : ∃ l, k l ∧ Rel G w l (a.eval x) := by
  cases x with
  | tmp i =>
    obtain ⟨l, h1, h2⟩ := getK_iff.1 h
    obtain ⟨y, h3, h4⟩ := rels_get ht h1
    refine ⟨l, h2, ?_⟩
    have : a.tmps[i]? = some y := by simpa using h3
    simp only [Act.eval, Array.getD_eq_getD_getElem?, this, Option.getD_some]
    exact h4
  | const x => exact ⟨_, h, rel_ofValue x⟩
  | global g =>
    simp only [opdK] at h
    split at h
    · rename_i cs hcs
      refine ⟨_, h, ?_⟩
      obtain ⟨h1, h2⟩ := hg g cs hcs
      have := Rel.eptr (G := G) (w := w) (cs.map .v) 0 g 0 (fun j => cs.getD j undef) h1 (fun j hj => by
        simp at hj
        have := h2 j cs[j] (List.getElem?_eq_getElem hj)
        simpa [List.getD_eq_getElem?_getD, List.getElem?_eq_getElem hj] using this) (fun j c hc => by
        rw [List.getElem?_map] at hc
        cases hx : cs[j]? with
        | none => simp [hx] at hc
        | some x =>
          simp [hx] at hc
          subst hc
          have : cs.getD j undef = x := by simp [List.getD_eq_getElem?_getD, hx]
          rw [this]
          exact .v x)
      simpa [Act.eval] using this
    · exact h.elim
  | func f => exact ⟨_, h, .r _ _ (.clo f)⟩

theorem opdsK_ok {xs : List Operand} {k : List LV → Prop} (h : opdsK X s.t xs k) (hg : GlOK X.glob G w) (ht : Rels G w s.t a.tmps.toList) : ∃ ls, k ls ∧ Rels G w ls (xs.map a.eval) := by
  induction xs generalizing k with
  | nil => exact ⟨[], h, rels_nil⟩
  | cons x xs ih =>
    obtain ⟨l, h1, h2⟩ := opdK_ok h hg ht
    obtain ⟨ls, h3, h4⟩ := ih h1
    exact ⟨l :: ls, h3, rels_cons h2 h4⟩
end

/-! ### Loads -/
section
variable {P : Program} {G : Gh} {w : World}
theorem addr_add (b o n : Nat) : (⟨b, o, none⟩ : Addr).add n = ⟨b, o + n, none⟩ := Addr.add_lit b o n

theorem run_loadVar_at {t : Nat} {d : TD} (hd : Facts P t d) (b o : Nat) (vs : List Value) (hl : vs.length = d.sz) (hc : ∀ (j : Nat) v, vs[j]? = some v → w.cell? ⟨b, o + j, none⟩ = some v) (ha : d.isAgg = true) :
    (loadVar t ⟨b, o, none⟩).run P w = .ok (.agg vs.toArray) w := by
  have hl' : (loadCells ⟨b, o, none⟩ d.sz).run P w = .ok vs.toArray w := by
    rw [← hl]
    exact run_loadCells_list (P := P) w ⟨b, o, none⟩ vs (fun j v hv => by rw [addr_add]; exact hc j v hv)
  simp [loadVar, hd.isAgg w, ha, hd.sizeOf w, hl']
theorem run_loadVar_one {t : Nat} {d : TD} (hd : Facts P t d) (a : Addr) (v : Value) (hc : w.cell? a = some v) (ha : d.isAgg = false) : (loadVar t a).run P w = .ok v w := by
  simp [loadVar, hd.isAgg w, ha, hc]

/-- Part of cells that lie in memory. -/
theorem partK_ok {t : Nat} {d : TD} {cs : List LV} {sub : Nat} {k : LV → Prop} (h : partK d cs sub k) (hd : Facts P t d) (b o : Nat)
    (hc : ∀ (j : Nat) c, cs[j]? = some c → ∃ x, w.cell? ⟨b, o + j, none⟩ = some x ∧ Rel G w c x) : ∃ l v, k l ∧ (loadVar t ⟨b, o + sub, none⟩).run P w = .ok v w ∧ Rel G w l v := by
  unfold partK at h
  split at h
  · rename_i ha
    obtain ⟨h1, h2⟩ := segK_iff.1 h
    have hex : ∀ n, ∃ vs : List Value, vs.length = n ∧ ∀ j, j < n → sub + j < cs.length → ∃ c x, cs[sub + j]? = some c ∧ vs[j]? = some x ∧ w.cell? ⟨b, o + (sub + j), none⟩ = some x ∧ Rel G w c x := by
      intro n
      induction n with
      | zero => exact ⟨[], rfl, fun j hj => by omega⟩
      | succ n ih =>
        obtain ⟨vs, h3, h4⟩ := ih
        by_cases hb : sub + n < cs.length
        · obtain ⟨x, h5, h6⟩ := hc (sub + n) _ (List.getElem?_eq_getElem hb)
          refine ⟨vs ++ [x], by simp [h3], fun j hj hs => ?_⟩
          rcases Nat.lt_or_ge j n with hjn | hjn
          · obtain ⟨c, y, h7, h8, h9⟩ := h4 j hjn hs
            exact ⟨c, y, h7, by rw [List.getElem?_append_left (by omega)]; exact h8, h9⟩
          · obtain rfl : j = n := by omega
            exact ⟨_, x, List.getElem?_eq_getElem hb, by rw [List.getElem?_append_right (by omega)]; simp [h3], h5, h6⟩
        · refine ⟨vs ++ [undef], by simp [h3], fun j hj hs => ?_⟩
          obtain ⟨c, y, h7, h8, h9⟩ := h4 j (by omega) hs
          exact ⟨c, y, h7, by rw [List.getElem?_append_left (by omega)]; exact h8, h9⟩
    obtain ⟨vs, h3, h4⟩ := hex d.sz
    refine ⟨_, _, h2, run_loadVar_at hd b (o + sub) vs h3 (fun j v hv => ?_) ha, .agg _ vs (by simp [h3]; omega) (fun i c x h5 h6 => ?_)⟩
    · have hj := (List.getElem?_eq_some_iff.1 hv).1
      obtain ⟨c, x, _, h6, h7, _⟩ := h4 j (by omega) (by omega)
      rw [h6] at hv
      injection hv with hv
      subst hv
      rw [Nat.add_assoc]
      exact h7
    · have hj := (List.getElem?_eq_some_iff.1 h6).1
      obtain ⟨c', x', h7, h8, _, h10⟩ := h4 i (by omega) (by omega)
      rw [List.getElem?_take, if_pos (by omega), List.getElem?_drop, h7] at h5
      rw [h8] at h6
      injection h5 with h5
      injection h6 with h6
      subst h5 h6
      exact h10
  · rename_i ha
    obtain ⟨c, h1, h2⟩ := getK_iff.1 h
    obtain ⟨x, h3, h4⟩ := hc sub c h1
    exact ⟨c, x, h2, run_loadVar_one hd _ x h3 ha, h4⟩

theorem tdK_iff {X : Ctx} {t : Nat} {k : TD → Prop} : tdK X t k ↔ ∃ d, X.T t = some d ∧ k d := by
  unfold tdK
  split
  · rename_i d hd; simp [hd]
  · rename_i hd; simp [hd]

theorem loadK_ok {X : Ctx} (hX : OK P X) {h : List Blk} {ty : Nat} {p : LV} {k : LV → Prop} (hk : loadK X h ty p k) (hh : HRel G w h) {pv : Value} (hp : Rel G w p pv) :
    ∃ l v, k l ∧ (Instr.loadAt ty pv).run P w = .ok v w ∧ Rel G w l v := by
  obtain ⟨d, hd, hk⟩ := tdK_iff.1 hk
  have hd := hX.T _ _ hd
  cases p with
  | ptr id i sub =>
    obtain ⟨hn, rfl⟩ := rel_ptr hp
    obtain ⟨b, hb, hk⟩ := getK_iff.1 hk
    have hbr := hh.blk id b hb
    cases b with
    | box cs =>
      cases i with
      | succ i => exact hk.elim
      | zero =>
        obtain ⟨_, hsz, cur, e, hcur, hsize, hcs⟩ := hbr
        obtain ⟨l, v, h1, h2, h3⟩ := partK_ok (G := G) (w := w) hk hd (G.ρ id).b 0 (fun j c hc => by
          obtain ⟨x, h4, _, h5⟩ := hcs j c hc
          exact ⟨x, by rw [Nat.zero_add, cell_of_row w _ j cur e _ hcur]; exact h4, h5⟩)
        refine ⟨l, v, h1, ?_, h3⟩
        have e0 : 0 * (G.ρ id).sz + sub = 0 + sub := by omega
        simp only [Instr.loadAt, Instr.sureAddr, Sem.run_bind, Sem.run_pure, Result.andThen_ok, e0, h2]
    | row sz ex es =>
      obtain ⟨_, hsz, hpos, hcap, _, _, cur, e, hcur, hsize, hlen, hcs⟩ := hbr
      simp only [eltK] at hk
      split at hk
      · rename_i el hel
        obtain ⟨l, v, h1, h2, h3⟩ := partK_ok (G := G) (w := w) hk hd (G.ρ id).b (i * sz) (fun j c hc => by
          obtain ⟨x, h4, _, h5⟩ := hcs i j el c hel hc
          exact ⟨x, by rw [cell_of_row w _ _ cur e _ hcur]; exact h4, .r _ _ h5⟩)
        refine ⟨l, v, h1, ?_, h3⟩
        simp [Instr.loadAt, Instr.sureAddr, hsz, h2]
      · exact hk.elim
    | map ag kn m => exact hk.elim
    | dead => exact hk.elim
  | eptr e sub =>
    obtain ⟨b, o, val, rfl, hR, hm, hc⟩ := rel_eptr hp
    obtain ⟨l, v, h1, h2, h3⟩ := partK_ok (G := G) (w := w) hk hd b o (fun j c hj => ⟨val j, (hm j (List.getElem?_eq_some_iff.1 hj).1).1, .r _ _ (hc j c hj)⟩)
    exact ⟨l, v, h1, by simp [Instr.loadAt, Instr.sureAddr, h2], h3⟩
  | _ => exact hk.elim
end
end E
end Go.Proofs.YtjhognibibmeiaaGreatDoor
