/-
  THE EVALUATOR, thirteenth part: forgetting and renaming at a loop's head; functions; contracts.
-/
import Derived.Test.YtjhognibibmeiaaGreatDoorEl
set_option linter.unusedVariables false
namespace Go.Proofs.YtjhognibibmeiaaGreatDoor
namespace E
open Go Go.RowKit

/-! ### A state that says less, its blocks under other names: σ: the old name of each new one -/
def cl0 : LV → Bool
  | .v _ | .rd _ | .unk => true
  | _ => false

def ren1 (σ : List Nat) (o n : LV) : Prop :=
  match n with
  | .unk => True
  | .sl j off len cap => (match o with | .sl i off' len' cap' => σ[j]? = some i ∧ off' = off ∧ len' = len ∧ cap' = cap | _ => False)
  | .ptr j a b => (match o with | .ptr i a' b' => σ[j]? = some i ∧ a' = a ∧ b' = b | _ => False)
  | .mp j => (match o with | .mp i => σ[j]? = some i | _ => False)
  | .v x => o = .v x
  | .rd es => o = .rd es
  | .eptr e s => o = .eptr e s
  | .agg cs => o = .agg cs ∧ cs.all cl0 = true
  | .tup cs => o = .tup cs ∧ cs.all cl0 = true
  | .clo f cs => o = .clo f [] ∧ cs = []

def rens (σ : List Nat) : List LV → List LV → Prop
  | [], [] => True
  | _ :: os, .unk :: ns => rens σ os ns
  | o :: os, n :: ns => ren1 σ o n ∧ rens σ os ns
  | _, _ => False

def renB (σ : List Nat) (o n : Blk) : Prop :=
  match n with
  | .dead => True
  | .row sz ex es => (match o with | .row sz' ex' es' => sz' = sz ∧ es' = es ∧ (ex = true → ex' = true) | _ => False)
  | .box cs => (match o with | .box ds => rens σ ds cs | _ => False)
  | .map ag kn m => o = .map ag kn m ∧ m.all (fun e => cl0 e.2) = true

/-- The blocks of the new state, each by its old name. -/
def renH (σ : List Nat) (h : List Blk) : List Nat → List Blk → Prop
  | [], [] => True
  | i :: is, n :: ns => (getK h i fun o => renB σ o n) ∧ renH σ h is ns
  | _, _ => False

/-- s2 says no more than s. m: the first m blocks keep their names. -/
structure Le (m : Nat) (σ : List Nat) (s s2 : St) : Prop where
  t : rens σ s.t s2.t
  h : renH σ s.h σ s2.h
  nodup : σ.Nodup
  keep : σ.take m = List.range m

section
variable {G : Gh} {w : World} {σ : List Nat}

def Gh.ren (G : Gh) (σ : List Nat) : Gh := { ρ := fun i => G.ρ (σ.getD i 0), n := σ.length, R := G.R, own := G.own }

theorem rel_cl0 {l : LV} {x : Value} {G' : Gh} (hR : G'.R = G.R) (hc : cl0 l = true) (h : Rel G w l x) : Rel G' w l x := by
  cases l with
  | v y => have e := rel_v h; subst e; exact .r _ _ (.v _)
  | rd es => have e := rel_rd h; exact .r _ _ (hR ▸ e)
  | unk => exact .unk x
  | _ => cases hc

theorem ren1_ok {o n : LV} {x : Value} (hr : ren1 σ o n) (h : Rel G w o x) : Rel (G.ren σ) w n x := by
  have get : ∀ (i j : Nat), σ[j]? = some i → j < (G.ren σ).n ∧ (G.ren σ).ρ j = G.ρ i := by
    intro i j hj
    exact ⟨(List.getElem?_eq_some_iff.1 hj).1, by simp [Gh.ren, List.getD_eq_getElem?_getD, hj]⟩
  unfold ren1 at hr
  split at hr
  · exact .unk x
  · split at hr
    · obtain ⟨h1, rfl, rfl, rfl⟩ := hr
      obtain ⟨h2, cp, rfl, h3, h4, h5⟩ := rel_sl h
      obtain ⟨h6, h7⟩ := get _ _ h1
      rw [← h7]
      exact .sl _ _ _ _ cp h6 h3 (by rw [h7]; exact h4) h5
    · exact hr.elim
  · split at hr
    · obtain ⟨h1, rfl, rfl⟩ := hr
      obtain ⟨h2, rfl⟩ := rel_ptr h
      obtain ⟨h6, h7⟩ := get _ _ h1
      rw [← h7]
      exact .ptr _ _ _ h6
    · exact hr.elim
  · split at hr
    · obtain ⟨h2, rfl⟩ := rel_mp h
      obtain ⟨h6, h7⟩ := get _ _ hr
      rw [← h7]
      exact .mp _ h6
    · exact hr.elim
  · subst hr; have e := rel_v h; subst e; exact .r _ _ (.v _)
  · subst hr; have e := rel_rd h; exact .r _ _ e
  · subst hr
    obtain ⟨b, of, val, rfl, h1, h2, h3⟩ := rel_eptr h
    exact .eptr _ _ b of val h1 h2 h3
  · rename_i cs
    obtain ⟨rfl, hc⟩ := hr
    obtain ⟨vs, rfl, h1⟩ := rel_agg h
    exact .agg cs vs h1.1 fun i c y h2 h3 => rel_cl0 (G := G) (G' := G.ren σ) rfl (List.all_eq_true.1 hc c (List.mem_of_getElem? h2)) (h1.2 i c y h2 h3)
  · rename_i cs
    obtain ⟨rfl, hc⟩ := hr
    obtain ⟨vs, rfl, h1⟩ := rel_tup h
    exact .tup cs vs h1.1 fun i c y h2 h3 => rel_cl0 (G := G) (G' := G.ren σ) rfl (List.all_eq_true.1 hc c (List.mem_of_getElem? h2)) (h1.2 i c y h2 h3)
  · obtain ⟨rfl, rfl⟩ := hr
    obtain ⟨vs, rfl, h1⟩ := rel_clo h
    have : vs = [] := List.eq_nil_of_length_eq_zero h1.1.symm
    subst this
    exact .r _ _ (.clo _)

theorem rens_iff : ∀ {os ns : List LV}, rens σ os ns → os.length = ns.length ∧ ∀ (i : Nat) o n, os[i]? = some o → ns[i]? = some n → ren1 σ o n
  | [], [], _ => ⟨rfl, by simp⟩
  | o :: os, .unk :: ns, h => by
    obtain ⟨h1, h2⟩ := rens_iff (os := os) (ns := ns) h
    refine ⟨by simp [h1], fun i o' n' h3 h4 => ?_⟩
    cases i with
    | zero => simp at h4; subst h4; trivial
    | succ i => exact h2 i o' n' (by simpa using h3) (by simpa using h4)
  | o :: os, n :: ns, h => by
    have : ren1 σ o n ∧ rens σ os ns := by
      cases n with
      | unk => exact ⟨trivial, h⟩
      | _ => exact h
    obtain ⟨h0, h⟩ := this
    obtain ⟨h1, h2⟩ := rens_iff (os := os) (ns := ns) h
    refine ⟨by simp [h1], fun i o' n' h3 h4 => ?_⟩
    cases i with
    | zero => simp at h3 h4; subst h3 h4; exact h0
    | succ i => exact h2 i o' n' (by simpa using h3) (by simpa using h4)
  | [], _ :: _, h => h.elim
  | _ :: _, [], h => h.elim

theorem rens_ok {os ns : List LV} {xs : List Value} (hr : rens σ os ns) (h : Rels G w os xs) : Rels (G.ren σ) w ns xs := by
  obtain ⟨h1, h2⟩ := rens_iff hr
  refine ⟨h1 ▸ h.1, fun i n x h3 h4 => ?_⟩
  have hi : i < os.length := by rw [h1]; exact (List.getElem?_eq_some_iff.1 h3).1
  exact ren1_ok (h2 i _ _ (List.getElem?_eq_getElem hi) h3) (h.2 i _ _ (List.getElem?_eq_getElem hi) h4)

theorem renB_ok {o n : Blk} {i j : Nat} (hr : renB σ o n) (hj : σ[j]? = some i) (h : BRel G w i o) : BRel (G.ren σ) w j n := by
  have e : (G.ren σ).ρ j = G.ρ i := by simp [Gh.ren, List.getD_eq_getElem?_getD, hj]
  unfold renB at hr
  split at hr
  · trivial
  · split at hr
    · obtain ⟨rfl, rfl, hex⟩ := hr
      obtain ⟨h1, h2, h3, h4, h5, h5', cur, el, h6, h7, h8, h9⟩ := h
      exact ⟨by rw [e]; exact h1, by rw [e]; exact h2, h3, by rw [e]; exact h4, fun hx => by rw [e]; exact h5 (hex hx), by rw [e]; exact h5', cur, el, by rw [e]; exact h6, by rw [e]; exact h7, h8, h9⟩
    · exact hr.elim
  · split at hr
    · rename_i cs ds
      obtain ⟨h1, h2, cur, el, h6, h7, h9⟩ := h
      obtain ⟨h3, h4⟩ := rens_iff hr
      refine ⟨by rw [e]; exact h1, by rw [e, h2, h3], cur, el, by rw [e]; exact h6, by rw [h7, h3], fun k c hc => ?_⟩
      have hk : k < ds.length := by rw [h3]; exact (List.getElem?_eq_some_iff.1 hc).1
      obtain ⟨x, h10, h11, h12⟩ := h9 k _ (List.getElem?_eq_getElem hk)
      exact ⟨x, h10, h11, ren1_ok (h4 k _ _ (List.getElem?_eq_getElem hk) hc) h12⟩
    · exact hr.elim
  · obtain ⟨rfl, hc⟩ := hr
    obtain ⟨h1, es, clock, h6, h7, h9⟩ := h
    refine ⟨by rw [e]; exact h1, es, clock, by rw [e]; exact h6, h7, fun k key v hv => ?_⟩
    obtain ⟨h10, en, h11, h12, h13⟩ := h9 k key v hv
    exact ⟨h10, en, h11, h12, rel_cl0 (G := G) (G' := G.ren σ) rfl (List.all_eq_true.1 hc (key, v) (List.mem_of_getElem? hv)) h13⟩

theorem renH_iff {h : List Blk} : ∀ {is : List Nat} {ns : List Blk}, renH σ h is ns → is.length = ns.length ∧ ∀ (j : Nat) i n, is[j]? = some i → ns[j]? = some n → ∃ o, h[i]? = some o ∧ renB σ o n
  | [], [], _ => ⟨rfl, by simp⟩
  | i :: is, n :: ns, hr => by
    obtain ⟨h0, hr⟩ := hr
    obtain ⟨o, h01, h02⟩ := getK_iff.1 h0
    obtain ⟨h1, h2⟩ := renH_iff hr
    refine ⟨by simp [h1], fun j i' n' h3 h4 => ?_⟩
    cases j with
    | zero => simp at h3 h4; subst h3 h4; exact ⟨o, h01, h02⟩
    | succ j => exact h2 j i' n' (by simpa using h3) (by simpa using h4)
  | [], _ :: _, h => h.elim
  | _ :: _, [], h => h.elim

theorem renB_live {o n : Blk} (hr : renB σ o n) (hn : n.live = true) : o.live = true := by
  unfold renB at hr
  split at hr
  · cases hn
  · split at hr
    · rfl
    · exact hr.elim
  · split at hr
    · rfl
    · exact hr.elim
  · obtain ⟨rfl, _⟩ := hr; rfl

theorem Le.at0 {X : Ctx} {m : Nat} {s s2 : St} {a : Act} (hle : Le m σ s s2) (hs : At0 X G s a w) (hm : m ≤ G.n) : At0 X (G.ren σ) s2 a w ∧ Ext m G w (G.ren σ) w := by
  obtain ⟨h1, h2⟩ := renH_iff hle.h
  have hmσ : m ≤ σ.length := by
    have := congrArg List.length hle.keep
    simp at this
    omega
  refine ⟨⟨⟨h1, hs.h.R, hs.h.own, fun j n hj => ?_, fun j k bj bk hj hk lj lk hne => ?_⟩, rens_ok hle.t hs.t, hs.g⟩, ?_⟩
  · have hjl : j < σ.length := by rw [h1]; exact (List.getElem?_eq_some_iff.1 hj).1
    obtain ⟨o, h3, h4⟩ := h2 j _ n (List.getElem?_eq_getElem hjl) hj
    exact renB_ok h4 (List.getElem?_eq_getElem hjl) (hs.h.blk _ o h3)
  · have hjl : j < σ.length := by rw [h1]; exact (List.getElem?_eq_some_iff.1 hj).1
    have hkl : k < σ.length := by rw [h1]; exact (List.getElem?_eq_some_iff.1 hk).1
    obtain ⟨o, h3, h4⟩ := h2 j _ bj (List.getElem?_eq_getElem hjl) hj
    obtain ⟨o', h5, h6⟩ := h2 k _ bk (List.getElem?_eq_getElem hkl) hk
    have e1 : (G.ren σ).ρ j = G.ρ σ[j] := by simp [Gh.ren, List.getD_eq_getElem?_getD, List.getElem?_eq_getElem hjl]
    have e2 : (G.ren σ).ρ k = G.ρ σ[k] := by simp [Gh.ren, List.getD_eq_getElem?_getD, List.getElem?_eq_getElem hkl]
    rw [e1, e2]
    refine hs.h.inj _ _ o o' h3 h5 (renB_live h4 lj) (renB_live h6 lk) fun he => hne ?_
    exact (List.getElem_inj hle.nodup).1 he
  · refine ⟨rfl, rfl, rfl, Nat.le_refl _, Nat.le_refl _, fun _ _ _ => rfl, fun b h => .inl h, fun b h => h, fun b h => .inl h, fun i hi => ?_, hm, hmσ⟩
    have h3 : σ[i]? = some i := by
      have h4 := congrArg (fun l => l[i]?) hle.keep
      simp only [List.getElem?_take, if_pos hi, List.getElem?_range hi] at h4
      exact h4
    simp [Gh.ren, List.getD_eq_getElem?_getD, h3]

theorem LoopP.weaken {P : Program} {X : Ctx} {m : Nat} {c : Code} {s s2 : St} {Q : Exit → St → Prop} (σ : List Nat) (hle : Le m σ s s2) (h : LoopP P X m c s2 Q) : LoopP P X m c s Q := by
  refine ⟨fun G a w hs hm b k cs => ?_⟩
  obtain ⟨hs2, he⟩ := hle.at0 hs hm
  obtain ⟨e2, a2, w2, ⟨G2, s3, h5, h6, h7, h8⟩, h9⟩ := h.out _ a w hs2 he.le' b k cs
  exact ⟨e2, a2, w2, ⟨G2, s3, h5, h6, he.trans h7, h8⟩, h9⟩
end

/-! ### Functions -/
def padK : List LV → Nat → (List LV → Prop) → Prop
  | [], 0, k => k []
  | [], n + 1, k => padK [] n fun r => k (.v undefV :: r)
  | _ :: _, 0, _ => False
  | a :: as, n + 1, k => padK as n fun r => k (a :: r)

def resK (X : Ctx) (s : St) : List ResultVar → (List LV → Prop) → Prop
  | [], k => k []
  | .tmp t :: r, k => getK s.t t fun v => resK X s r fun vs => k (v :: vs)
  | .cell a ty :: r, k => getK s.t a fun p => loadK X s.h ty p fun v => resK X s r fun vs => k (v :: vs)

def oneOf : List LV → LV
  | [v] => v
  | vs => .tup vs

def bodyK (P : Program) (X : Ctx) (u : Nat) (fn : Func) (args : List LV) (h : List Blk) (k : LV → List Blk → Prop) : Prop :=
  match fn.body with
  | none => False
  | some c => padK args fn.ntmps fun t => code P X h.length u c ⟨t, h⟩ fun e s =>
    (match e with
     | .normal | .ret => resK X s fn.results.toList fun vs => k (oneOf vs) s.h
     | _ => False)

section
variable {P : Program} {X : Ctx} {ord : Array Oper → Bool} {G : Gh} {w : World}

theorem padK_ok : ∀ {n : Nat} {ls : List LV} {xs : List Value} {k : List LV → Prop}, padK ls n k → Rels G w ls xs → ∃ t, k t ∧ Rels G w t (xs ++ List.replicate (n - xs.length) undef) ∧ xs.length ≤ n
  | 0, [], xs, k, h, hr => by
    have : xs = [] := List.eq_nil_of_length_eq_zero hr.1.symm
    subst this
    exact ⟨[], h, rels_nil, Nat.le_refl _⟩
  | n + 1, [], xs, k, h, hr => by
    have : xs = [] := List.eq_nil_of_length_eq_zero hr.1.symm
    subst this
    obtain ⟨t, h1, h2, _⟩ := padK_ok (n := n) (ls := []) h hr
    refine ⟨_, h1, ?_, by simp⟩
    have := rels_cons (G := G) (w := w) (l := .v undefV) (x := undef) (.r _ _ (.v _)) h2
    simpa [List.replicate_succ] using this
  | 0, _ :: _, xs, k, h, hr => h.elim
  | n + 1, l :: ls, xs, k, h, hr => by
    obtain ⟨x, ys, e1⟩ : ∃ x ys, xs = x :: ys := by
      cases xs with
      | nil => have := hr.1; simp at this
      | cons x ys => exact ⟨x, ys, rfl⟩
    subst e1
    have hr0 := hr.2 0 l x rfl rfl
    have hrs : Rels G w ls ys := ⟨by have := hr.1; simpa using this, fun i l z h1 h2 => hr.2 (i + 1) l z (by simpa using h1) (by simpa using h2)⟩
    obtain ⟨t, h1, h2, h3⟩ := padK_ok (n := n) h hrs
    refine ⟨_, h1, ?_, by simp; omega⟩
    have := rels_cons hr0 h2
    simpa using this

theorem asAddr_run {p : LV} {pv : Value} {ty : Nat} {h : List Blk} {k : LV → Prop} (hX : OK P X) (hk : loadK X h ty p k) (hh : HRel G w h) (hp : Rel G w p pv) :
    ∃ l v, k l ∧ (do loadVar ty (← asAddr pv) : Sem Value).run P w = .ok v w ∧ Rel G w l v := by
  obtain ⟨l, v, h1, h2, h3⟩ := loadK_ok hX hk hh hp
  refine ⟨l, v, h1, ?_, h3⟩
  have : ∃ a, pv = .pointer (some a) := by
    obtain ⟨d, _, hk⟩ := tdK_iff.1 hk
    cases p with
    | ptr id i sub => exact ⟨_, (rel_ptr hp).2⟩
    | eptr e sub => obtain ⟨b, o, val, rfl, _⟩ := rel_eptr hp; exact ⟨_, rfl⟩
    | _ => exact hk.elim
  obtain ⟨a, rfl⟩ := this
  simpa [Instr.loadAt, Instr.sureAddr, asAddr] using h2

theorem resK_ok (hX : OK P X) {s : St} {a : Act} (hs : At0 X G s a w) : ∀ {rs : List ResultVar} {k : List LV → Prop}, resK X s rs k →
    ∃ ls vs, k ls ∧ Rels G w ls vs ∧ (rs.mapM (m := Sem) fun | .tmp t => pure (a.tmps.getD t undef) | .cell x t => do loadVar t (← asAddr (a.tmps.getD x undef))).run P w = .ok vs w
  | [], k, h => ⟨[], [], h, rels_nil, rfl⟩
  | .tmp t :: r, k, h => by
    obtain ⟨v, h1, h2⟩ := getK_iff.1 h
    obtain ⟨y, h3, h4⟩ := rels_get hs.t h1
    obtain ⟨ls, vs, h5, h6, h7⟩ := resK_ok hX hs h2
    have e : a.tmps.getD t undef = y := by
      have : a.tmps[t]? = some y := by simpa using h3
      simp [Array.getD_eq_getD_getElem?, this]
    refine ⟨v :: ls, y :: vs, h5, rels_cons h4 h6, ?_⟩
    rw [List.mapM_cons]
    simp only [Sem.run_bind, Sem.run_pure, Result.andThen_ok, e, h7]
  | .cell x ty :: r, k, h => by
    obtain ⟨p, h1, h2⟩ := getK_iff.1 h
    obtain ⟨y, h3, h4⟩ := rels_get hs.t h1
    obtain ⟨l, v, h5, h6, h7⟩ := asAddr_run hX h2 hs.h h4
    obtain ⟨ls, vs, h8, h9, h10⟩ := resK_ok hX hs h5
    have e : a.tmps.getD x undef = y := by
      have : a.tmps[x]? = some y := by simpa using h3
      simp [Array.getD_eq_getD_getElem?, this]
    refine ⟨l :: ls, v :: vs, h8, rels_cons h7 h9, ?_⟩
    rw [List.mapM_cons]
    simp only [Sem.run_bind] at h6
    simp only [Sem.run_bind, Sem.run_pure, e, h10]
    rw [h6]
    simp only [Result.andThen_ok, h10]

theorem oneOf_ok {ls : List LV} {vs : List Value} (h : Rels G w ls vs) : Rel G w (oneOf ls) (if h : vs.toArray.size = 1 then vs.toArray[0] else .tuple vs.toArray) := by
  match ls, vs, h with
  | [], [], h => exact .tup [] [] rfl (by simp)
  | [l], [v], h => exact h.2 0 _ _ rfl rfl
  | l :: l2 :: ls, v :: v2 :: vs, h =>
    simp only [List.size_toArray, List.length_cons, oneOf]
    rw [dif_neg (by omega)]
    exact .tup _ _ h.1 h.2
  | [], _ :: _, h => have := h.1; simp at this
  | [_], [], h => have := h.1; simp at this
  | [_], _ :: _ :: _, h => have := h.1; simp at this
  | _ :: _ :: _, [], h => have := h.1; simp at this
  | _ :: _ :: _, [_], h => have := h.1; simp at this

theorem results_ok (hX : OK P X) {s : St} {a : Act} (hs : At0 X G s a w) {fn : Func} {k : List LV → Prop} (h : resK X s fn.results.toList k) :
    ∃ ls v, k ls ∧ (results fn a.tmps).run P w = .ok v w ∧ Rel G w (oneOf ls) v := by
  obtain ⟨ls, vs, h1, h2, h3⟩ := resK_ok hX hs h
  refine ⟨ls, _, h1, ?_, oneOf_ok h2⟩
  unfold results
  rw [Sem.run_bind, Array.mapM_eq_mapM_toList, Sem.run_map]
  exact (congrArg (fun (r : Result (List Value)) => (r.andThen fun a w' => Result.ok a.toArray w').andThen fun a w' => (pure (if h : a.size = 1 then a[0] else Value.tuple a) : Sem Value).run P w') h3).trans rfl

/-- The regions of a function that draw their order pass 'ord'. -/
def drawsF (ord : Array Oper → Bool) (fn : Func) : Bool :=
  match fn.body with
  | none => true
  | some c => draws ord c

/-- A body that was walked is a contract. -/
theorem callOK_body (u : Nat) (hX : OK P X) (hO : OrdOK P X ord) {g : Nat} {fn : Func} (hf : P.funcs[g]? = some fn) (hd : drawsF ord fn = true) (hn : (fn.name == "runtime.NumGoroutine") = false) {S : Spec} (hS : ∀ args h K, S args h K → bodyK P X u fn args h K) :
    CallOK P X.glob g S := by
  intro args h K hk G vals w hh hg hr
  have hb := hS args h K hk
  unfold bodyK at hb
  split at hb
  · exact hb.elim
  · rename_i c hc
    refine .inl ⟨?_, ?_⟩
    · have hn' : ¬ fn.name = "runtime.NumGoroutine" := by simpa using hn
      simp [callFunc, hf, hn', hc]
    · obtain ⟨t, h1, h2, h3⟩ := padK_ok hb hr
      refine calls_of_wp hf hc (wp_mono (code_ok hX hO c (by simpa [drawsF, hc] using hd) h1 ⟨hh, ?_, hg⟩ (Nat.le_of_eq hh.n.symm)) ?_)
      · have e : (vals.toArray ++ Array.replicate (fn.ntmps - vals.toArray.size) undef).toList = vals ++ List.replicate (fn.ntmps - vals.length) undef := by simp
        simpa [e] using h2
      · rintro e a' w' ⟨G', s', h4, h5, h6, h7⟩
        cases e with
        | normal =>
          obtain ⟨ls, v, h8, h9, h10⟩ := results_ok hX h5 h4
          exact ⟨h7, v, h9, v, rfl, _, _, G', h8, hh.n ▸ h6, h5.h, h10⟩
        | ret =>
          obtain ⟨ls, v, h8, h9, h10⟩ := results_ok hX h5 h4
          exact ⟨h7, v, h9, v, rfl, _, _, G', h8, hh.n ▸ h6, h5.h, h10⟩
        | exit id => exact h4.elim
        | goto l => exact h4.elim
        | panic ch => exact h4.elim
        | outgrown => exact h4.elim
end

/-! ### Contracts over values that name no block of the call's own -/
abbrev PSpec := List LV → (LV → Prop) → Prop

/-- One cell (or value) told without the call's own blocks; whether a row of the call's own was read for it. -/
def outCell (h : List Blk) (x : LV) (k : LV → Bool → Prop) : Prop :=
  match x with
  | .v (.slice none 0 0) => k (.rd []) false
  | .v y => k (.v y) false
  | .rd es => k (.rd es) false
  | .clo f [] => k (.clo f []) false
  | .sl id off len _ => getK h id fun b =>
    (match b with
     | .row _ _ es => (off + len ≤ es.length) ∧ k (.rd ((es.drop off).take len)) true
     | _ => False)
  | _ => False
def outCells (h : List Blk) : List LV → (List LV → Bool → Prop) → Prop
  | [], k => k [] false
  | x :: r, k => outCell h x fun y b => outCells h r fun ys c => k (y :: ys) (b || c)
def out1 (h : List Blk) (x : LV) (k : LV → Bool → Prop) : Prop :=
  match x with
  | .agg cs => outCells h cs fun ys b => k (.agg ys) b
  | x => outCell h x k
def outs (h : List Blk) : List LV → (List LV → Bool → Prop) → Prop
  | [], k => k [] false
  | x :: r, k => out1 h x fun y b => outs h r fun ys c => k (y :: ys) (b || c)
def out2 (h : List Blk) (x : LV) (k : LV → Bool → Prop) : Prop :=
  match x with
  | .tup cs => outs h cs fun ys b => k (.tup ys) b
  | x => out1 h x k

def isV : LV → Bool
  | .v _ => true
  | _ => false
def isVA : LV → Bool
  | .v _ => true
  | .agg cs => cs.all isV
  | _ => false
def flatL : LV → Bool
  | .v _ => true
  | .agg cs => cs.all isV
  | .tup cs => cs.all isVA
  | _ => false

/-- An answer that tells a truth: the reckoning goes on with each. -/
def normK (r : LV) (k : LV → Prop) : Prop :=
  match r with
  | .v (.bool b) => boolK b k
  | .tup [a, .v (.bool b)] => pickB b (k (.tup [a, .v (.bool true)])) (k (.tup [a, .v (.bool false)]))
  | r => k r
theorem normK_iff {r : LV} {k : LV → Prop} : normK r k ↔ k r := by
  unfold normK
  split
  · exact boolK_iff
  · rename_i a b
    cases b <;> simp [pickB]
  · exact Iff.rfl

def lift (S : PSpec) : Spec := fun args h K => outs h args fun as b => S as fun r =>
  match !b || flatL r with
  | true => normK r fun r => K r h
  | false => False

def GlR (gl : Nat → Option (List Value)) (R : Nat → Prop) (w : World) : Prop := ∀ g cs, gl g = some cs → R g ∧ ∀ (j : Nat) v, cs[j]? = some v → At w g j v

def SoundA (P : Program) (gl : Nat → Option (List Value)) (g : Nat) (S : PSpec) : Prop :=
  ∀ args K, S args K → ∀ R vals w, (∀ b, R b → b < w.heap.size) → GlR gl R w → RRels R w args vals →
    Runs P g vals.toArray w fun v w' => ∃ r, K r ∧ RRel (fun b => R b ∨ (w.heap.size ≤ b ∧ b < w'.heap.size)) w' r v ∧ Below w.heap.size w w' ∧ w.drawn ≤ w'.drawn

section
variable {P : Program} {X : Ctx} {ord : Array Oper → Bool} {G : Gh} {w : World} {h : List Blk}

/-- b: may rows of the call's own be among what is read? -/
def RowB (G : Gh) (h : List Blk) (x : Nat) : Prop := ∃ id sz ex es, h[id]? = some (Blk.row sz ex es) ∧ x = (G.ρ id).b
def RB (G : Gh) (h : List Blk) (b : Bool) : Nat → Prop := fun x => G.R x ∨ (b = true ∧ RowB G h x)

theorem RRel.rb {b c : Bool} {l : LV} {x : Value} (hr : RRel (RB G h b) w l x) (hbc : b = true → c = true) : RRel (RB G h c) w l x :=
  hr.mono (fun y hy => hy.imp id fun ⟨h1, h2⟩ => ⟨hbc h1, h2⟩) (fun _ _ => rfl)

theorem outCell_ok {x : LV} {xv : Value} {k : LV → Bool → Prop} (hk : outCell h x k) (hh : HRel G w h) (hx : Rel G w x xv) : ∃ l b, k l b ∧ RRel (RB G h b) w l xv := by
  unfold outCell at hk
  split at hk
  · have e := rel_v hx
    subst e
    exact ⟨_, _, hk, .nil _ _⟩
  · have e := rel_v hx
    subst e
    exact ⟨_, _, hk, .v _⟩
  · exact ⟨_, _, hk, (rel_rd hx).mono (fun b hb => .inl hb) (fun _ _ => rfl)⟩
  · obtain ⟨vs, rfl, h1⟩ := rel_clo hx
    have : vs = [] := List.eq_nil_of_length_eq_zero h1.1.symm
    subst this
    exact ⟨_, _, hk, .clo _⟩
  · rename_i id off len cap
    obtain ⟨hn, cp, rfl, h1, h2, h3⟩ := rel_sl hx
    obtain ⟨bk, hb, hk⟩ := getK_iff.1 hk
    cases bk with
    | row sz ex es =>
      obtain ⟨hle, hk⟩ := hk
      have hbr := hh.blk id _ hb
      obtain ⟨ho, hsz, hpos, hcap, _, _, cur, e, hcur, hsize, hlen, hat⟩ := hbr
      have hl : ((es.drop off).take len).length = len := by simp; omega
      have hget : ∀ (i : Nat) el, ((es.drop off).take len)[i]? = some el → i < len ∧ es[off + i]? = some el := by
        intro i el hel
        rw [List.getElem?_take] at hel
        split at hel
        · rename_i hi; rw [List.getElem?_drop] at hel; exact ⟨hi, hel⟩
        · cases hel
      refine ⟨_, _, hk, ?_⟩
      have := RRel.rd (R := RB G h true) (w := w) ((es.drop off).take len) (G.ρ id).b (off * (G.ρ id).sz) cp sz (fun i j => cur.getD ((off + i) * sz + j) undef) (.inr ⟨rfl, id, sz, ex, es, hb, rfl⟩) (by rw [hl]; exact h1)
        (fun i el hel => hlen _ el (hget i el hel).2) (fun i j el hel hj => ?_) (fun i j el c hel hc => ?_)
      · rwa [hl] at this
      · obtain ⟨hi, hel⟩ := hget i el hel
        have hlen' := hlen _ el hel
        obtain ⟨x, h4, h5, _⟩ := hat (off + i) j el el[j] hel (List.getElem?_eq_getElem (by omega))
        have e1 : off * (G.ρ id).sz + (i * sz + j) = (off + i) * sz + j := by rw [hsz, Nat.add_mul]; omega
        refine ⟨?_, ?_⟩
        · rw [e1, cell_of_row w _ _ cur e _ hcur]
          simp [Array.getD_eq_getD_getElem?, h4]
        · simp [Array.getD_eq_getD_getElem?, h4, h5]
      · obtain ⟨hi, hel⟩ := hget i el hel
        obtain ⟨x, h4, _, h6⟩ := hat (off + i) j el c hel hc
        have : RRel (RB G h true) w c x := h6.mono (fun b hb => .inl hb) (fun _ _ => rfl)
        simpa [Array.getD_eq_getD_getElem?, h4] using this
    | _ => exact hk.elim
  · exact hk.elim

theorem outCells_ok : ∀ {xs : List LV} {vs : List Value} {k : List LV → Bool → Prop}, outCells h xs k → HRel G w h → Rels G w xs vs → ∃ ls b, k ls b ∧ RRels (RB G h b) w ls vs
  | [], vs, k, hk, hh, hr => ⟨[], false, hk, hr.1, by simp⟩
  | x :: xs, vs, k, hk, hh, hr => by
    obtain ⟨v, ys, e1⟩ : ∃ v ys, vs = v :: ys := by
      cases vs with
      | nil => have := hr.1; simp at this
      | cons x ys => exact ⟨x, ys, rfl⟩
    subst e1
    have hr0 := hr.2 0 x v rfl rfl
    have hrs : Rels G w xs ys := ⟨by have := hr.1; simpa using this, fun i l z h1 h2 => hr.2 (i + 1) l z (by simpa using h1) (by simpa using h2)⟩
    obtain ⟨l, b, h1, h2⟩ := outCell_ok hk hh hr0
    obtain ⟨ls, c, h3, h4⟩ := outCells_ok h1 hh hrs
    refine ⟨l :: ls, b || c, h3, by simp [h4.1], fun i l' z h5 h6 => ?_⟩
    cases i with
    | zero => simp at h5 h6; subst h5 h6; exact h2.rb (by simp; exact .inl)
    | succ i => exact (h4.2 i l' z (by simpa using h5) (by simpa using h6)).rb (by simp; exact .inr)

theorem out1_ok {x : LV} {xv : Value} {k : LV → Bool → Prop} (hk : out1 h x k) (hh : HRel G w h) (hx : Rel G w x xv) : ∃ l b, k l b ∧ RRel (RB G h b) w l xv := by
  unfold out1 at hk
  split at hk
  · obtain ⟨vs, rfl, h1⟩ := rel_agg hx
    obtain ⟨ls, b, h2, h3⟩ := outCells_ok hk hh h1
    exact ⟨_, b, h2, .agg ls vs h3.1 h3.2⟩
  · exact outCell_ok hk hh hx

theorem outs_ok : ∀ {xs : List LV} {vs : List Value} {k : List LV → Bool → Prop}, outs h xs k → HRel G w h → Rels G w xs vs → ∃ ls b, k ls b ∧ RRels (RB G h b) w ls vs
  | [], vs, k, hk, hh, hr => ⟨[], false, hk, hr.1, by simp⟩
  | x :: xs, vs, k, hk, hh, hr => by
    obtain ⟨v, ys, e1⟩ : ∃ v ys, vs = v :: ys := by
      cases vs with
      | nil => have := hr.1; simp at this
      | cons x ys => exact ⟨x, ys, rfl⟩
    subst e1
    have hr0 := hr.2 0 x v rfl rfl
    have hrs : Rels G w xs ys := ⟨by have := hr.1; simpa using this, fun i l z h1 h2 => hr.2 (i + 1) l z (by simpa using h1) (by simpa using h2)⟩
    obtain ⟨l, b, h1, h2⟩ := out1_ok hk hh hr0
    obtain ⟨ls, c, h3, h4⟩ := outs_ok h1 hh hrs
    refine ⟨l :: ls, b || c, h3, by simp [h4.1], fun i l' z h5 h6 => ?_⟩
    cases i with
    | zero => simp at h5 h6; subst h5 h6; exact h2.rb (by simp; exact .inl)
    | succ i => exact (h4.2 i l' z (by simpa using h5) (by simpa using h6)).rb (by simp; exact .inr)

theorem out2_ok {x : LV} {xv : Value} {k : LV → Bool → Prop} (hk : out2 h x k) (hh : HRel G w h) (hx : Rel G w x xv) : ∃ l b, k l b ∧ RRel (RB G h b) w l xv := by
  unfold out2 at hk
  split at hk
  · obtain ⟨vs, rfl, h1⟩ := rel_tup hx
    obtain ⟨ls, b, h2, h3⟩ := outs_ok hk hh h1
    exact ⟨_, b, h2, .tup ls vs h3.1 h3.2⟩
  · exact out1_ok hk hh hx

theorem flat_any {R R' : Nat → Prop} {w w' : World} {l : LV} {x : Value} (hf : flatL l = true) (h : RRel R w l x) : RRel R' w' l x := by
  have one : ∀ (c : LV) (y : Value), isV c = true → RRel R w c y → RRel R' w' c y := by
    intro c y hc hy
    cases c with
    | v z => cases hy; exact .v _
    | _ => cases hc
  cases l with
  | v y => cases h; exact .v _
  | agg cs =>
    cases h with
    | agg _ vs hl h => exact .agg cs vs hl fun i c y h1 h2 => one c y (List.all_eq_true.1 hf c (List.mem_of_getElem? h1)) (h i c y h1 h2)
  | tup cs =>
    cases h with
    | tup _ vs hl h =>
      refine .tup cs vs hl fun i c y h1 h2 => ?_
      have hc := List.all_eq_true.1 hf c (List.mem_of_getElem? h1)
      have hy := h i c y h1 h2
      cases c with
      | v z => cases hy; exact .v _
      | agg ds =>
        cases hy with
        | agg _ us hl' h' => exact .agg ds us hl' fun j d z h3 h4 => one d z (List.all_eq_true.1 hc d (List.mem_of_getElem? h3)) (h' j d z h3 h4)
      | _ => cases hc
  | _ => cases hf

/-- A contract over values serves at every heap. -/
theorem callOK_lift {gl : Nat → Option (List Value)} {g : Nat} {S : PSpec} (hS : SoundA P gl g S) : CallOK P gl g (lift S) := by
  intro args h K hk G vals w hh hg hr
  obtain ⟨as, b, hk, has⟩ := outs_ok hk hh hr
  have hrun := hS as _ hk (RB G h b) vals w (fun x hx => by
    rcases hx with hx | ⟨_, id, sz, ex, es, hb, rfl⟩
    · exact (hh.R x hx).1
    · exact hh.own _ ((hh.blk id _ hb).own rfl)) (fun g cs hgc => ⟨.inl (hg g cs hgc).1, (hg g cs hgc).2⟩) has
  have fin : ∀ v w', (∃ r, (match !b || flatL r with | true => normK r (fun r => K r h) | false => False) ∧ RRel (fun x => RB G h b x ∨ (w.heap.size ≤ x ∧ x < w'.heap.size)) w' r v ∧ Below w.heap.size w w' ∧ w.drawn ≤ w'.drawn) →
      ∃ r h' G', K r h' ∧ Ext G.n G w G' w' ∧ HRel G' w' h' ∧ Rel G' w' r v := by
    rintro v w' ⟨r, h1, h2, h3, h3d⟩
    have hext : Ext G.n G w { G with R := fun x => G.R x ∨ (w.heap.size ≤ x ∧ x < w'.heap.size) } w' :=
      ⟨h3.os, h3.tape, h3.output, h3d, h3.size, fun x hx _ => h3.block x hx, fun x hx => .inl hx, fun x hx => .inl hx, fun x hx => by
        rcases hx with hx | hx
        · exact .inl hx
        · exact .inr (.inr hx.1), fun _ _ => rfl, Nat.le_refl _, Nat.le_refl _⟩
    refine ⟨r, h, { G with R := fun x => G.R x ∨ (w.heap.size ≤ x ∧ x < w'.heap.size) }, ?_, hext, ⟨hh.n, ?_, ?_, ?_, hh.inj⟩, .r _ _ ?_⟩
    · split at h1
      · exact normK_iff.1 h1
      · exact h1.elim
    · intro x hx
      rcases hx with hx | hx
      · exact ⟨Nat.lt_of_lt_of_le (hh.R x hx).1 h3.size, (hh.R x hx).2⟩
      · exact ⟨hx.2, fun ho => by have := hh.own x ho; omega⟩
    · intro x hx
      exact Nat.lt_of_lt_of_le (hh.own x hx) h3.size
    · intro id bk hb
      exact (hh.blk id bk hb).mono hh (hh.lt hb) hext (fun hl => h3.block _ (hh.own _ ((hh.blk id bk hb).own hl))) (fun _ h => h)
    · split at h1
      · rename_i hc
        cases b with
        | true => simp at hc; exact flat_any hc h2
        | false =>
          refine h2.mono (fun x hx => ?_) (fun _ _ => rfl)
          rcases hx with (hx | ⟨hx, _⟩) | hx
          · exact .inl hx
          · cases hx
          · exact .inr hx
      · exact h1.elim
  rcases hrun with ⟨h1, h2⟩ | ⟨v, w', h1, h2⟩
  · exact .inl ⟨h1, h2.mono fun e w' ⟨v, he, hv⟩ => ⟨v, he, fin v w' hv⟩⟩
  · exact .inr ⟨v, w', h1, fin v w' h2⟩

def killR : Blk → Blk
  | .row _ _ _ => .dead
  | b => b
/-- .. the rows of the call's own given away: what comes back may read them. -/
def liftD (S : PSpec) : Spec := fun args h K => outs h args fun as _ => S as fun r => normK r fun r => K r (h.map killR)
theorem killR_live {b : Blk} (h : (killR b).live = true) : killR b = b ∧ b.live = true := by
  cases b with
  | row _ _ _ => cases h
  | _ => exact ⟨rfl, h⟩
theorem callOK_liftD {gl : Nat → Option (List Value)} {g : Nat} {S : PSpec} (hS : SoundA P gl g S) : CallOK P gl g (liftD S) := by
  intro args h K hk G vals w hh hg hr
  obtain ⟨as, b, hk, has⟩ := outs_ok hk hh hr
  have hrow : ∀ x, RowB G h x → G.own x := fun x ⟨id, sz, ex, es, hb, e⟩ => e ▸ (hh.blk id _ hb).own rfl
  have hrun := hS as _ hk (RB G h b) vals w (fun x hx => by
    rcases hx with hx | ⟨_, hx⟩
    · exact (hh.R x hx).1
    · exact hh.own x (hrow x hx)) (fun g cs hgc => ⟨.inl (hg g cs hgc).1, (hg g cs hgc).2⟩) has
  have fin : ∀ v w', (∃ r, normK r (fun r => K r (h.map killR)) ∧ RRel (fun x => RB G h b x ∨ (w.heap.size ≤ x ∧ x < w'.heap.size)) w' r v ∧ Below w.heap.size w w' ∧ w.drawn ≤ w'.drawn) →
      ∃ r h' G', K r h' ∧ Ext G.n G w G' w' ∧ HRel G' w' h' ∧ Rel G' w' r v := by
    rintro v w' ⟨r, h1, h2, h3, h3d⟩
    let G' : Gh := { G with R := fun x => G.R x ∨ RowB G h x ∨ (w.heap.size ≤ x ∧ x < w'.heap.size), own := fun x => G.own x ∧ ¬ RowB G h x }
    have hext : Ext G.n G w G' w' :=
      ⟨h3.os, h3.tape, h3.output, h3d, h3.size, fun x hx _ => h3.block x hx, fun x hx => .inl hx.1, fun x hx => .inl hx, fun x hx => by
        rcases hx with hx | hx | hx
        · exact .inl hx
        · exact .inr (.inl (hrow x hx))
        · exact .inr (.inr hx.1), fun _ _ => rfl, Nat.le_refl _, Nat.le_refl _⟩
    have hmap : ∀ (id : Nat) bk, (h.map killR)[id]? = some bk → ∃ b0, h[id]? = some b0 ∧ killR b0 = bk := fun id bk hb => by
      rw [List.getElem?_map] at hb
      cases h0 : h[id]? with
      | none => rw [h0] at hb; cases hb
      | some b0 => rw [h0] at hb; injection hb with hb; exact ⟨b0, rfl, hb⟩
    refine ⟨r, h.map killR, G', normK_iff.1 h1, hext, ⟨by simp [G', hh.n], ?_, ?_, ?_, ?_⟩, .r _ _ (h2.mono (fun x hx => ?_) (fun _ _ => rfl))⟩
    · intro x hx
      rcases hx with hx | hx | hx
      · exact ⟨Nat.lt_of_lt_of_le (hh.R x hx).1 h3.size, fun h => (hh.R x hx).2 h.1⟩
      · exact ⟨Nat.lt_of_lt_of_le (hh.own x (hrow x hx)) h3.size, fun h => h.2 hx⟩
      · exact ⟨hx.2, fun ho => by have := hh.own x ho.1; omega⟩
    · intro x hx
      exact Nat.lt_of_lt_of_le (hh.own x hx.1) h3.size
    · intro id bk hb
      obtain ⟨b0, h4, h5⟩ := hmap id bk hb
      by_cases hl : bk.live = true
      · obtain ⟨e1, e2⟩ := killR_live (b := b0) (by rw [h5]; exact hl)
        rw [e1] at h5
        subst h5
        refine (hh.blk id b0 h4).mono hh (hh.lt h4) hext (fun hl => h3.block _ (hh.own _ ((hh.blk id b0 h4).own hl))) (fun _ ho => ⟨ho, ?_⟩)
        rintro ⟨id', sz, ex, es, h6, h7⟩
        by_cases hid : id = id'
        · subst hid
          rw [h4] at h6
          injection h6 with h6
          subst h6
          cases e1
        · exact hh.inj id id' b0 _ h4 h6 e2 rfl hid h7
      · cases bk with
        | dead => trivial
        | _ => exact absurd rfl hl
    · intro i j bi bj hi hj li lj hne
      obtain ⟨b1, h4, h5⟩ := hmap i bi hi
      obtain ⟨b2, h6, h7⟩ := hmap j bj hj
      exact hh.inj i j b1 b2 h4 h6 (killR_live (b := b1) (by rw [h5]; exact li)).2 (killR_live (b := b2) (by rw [h7]; exact lj)).2 hne
    · rcases hx with (hx | ⟨_, hx⟩) | hx
      · exact .inl hx
      · exact .inr (.inl hx)
      · exact .inr (.inr hx)
  rcases hrun with ⟨h1, h2⟩ | ⟨v, w', h1, h2⟩
  · exact .inl ⟨h1, h2.mono fun e w' ⟨v, he, hv⟩ => ⟨v, he, fin v w' hv⟩⟩
  · exact .inr ⟨v, w', h1, fin v w' h2⟩

/-- A body that was walked is a contract over values. -/
theorem soundA_body (u : Nat) (hX : OK P X) (hO : OrdOK P X ord) {g : Nat} {fn : Func} (hf : P.funcs[g]? = some fn) (hd : drawsF ord fn = true) (hn : (fn.name == "runtime.NumGoroutine") = false) {S : PSpec}
    (hS : ∀ args K, S args K → bodyK P X u fn args [] fun r h => out2 h r fun r' _ => K r') : SoundA P X.glob g S := by
  intro args K hk R vals w hR hg hr
  have hc := callOK_body u (S := fun args h K' => h = [] ∧ bodyK P X u fn args [] K') hX hO hf hd hn (fun args h K' ⟨h1, h2⟩ => by subst h1; exact h2)
  have hrun := hc args [] (fun r h => out2 h r fun r' _ => K r') ⟨rfl, hS args K hk⟩ ⟨fun _ => ⟨0, 0, 0⟩, 0, R, fun _ => False⟩ vals w
    ⟨rfl, fun b hb => ⟨hR b hb, fun h => h⟩, fun b hb => hb.elim, by simp, by simp⟩ (fun g cs hgc => hg g cs hgc) ⟨hr.1, fun i l x h1 h2 => .r _ _ (hr.2 i l x h1 h2)⟩
  have fin : ∀ v w', (∃ r h' G', (out2 h' r fun r' _ => K r') ∧ Ext 0 ⟨fun _ => ⟨0, 0, 0⟩, 0, R, fun _ => False⟩ w G' w' ∧ HRel G' w' h' ∧ Rel G' w' r v) →
      ∃ r, K r ∧ RRel (fun b => R b ∨ (w.heap.size ≤ b ∧ b < w'.heap.size)) w' r v ∧ Below w.heap.size w w' ∧ w.drawn ≤ w'.drawn := by
    rintro v w' ⟨r, h', G', h1, h2, h3, h4⟩
    obtain ⟨l, b, h5, h6⟩ := out2_ok h1 h3 h4
    refine ⟨l, h5, h6.mono (fun x hx => ?_) (fun _ _ => rfl), ⟨h2.os, h2.tape, h2.output, h2.size, fun x hx => h2.keep x hx (fun h => h)⟩, h2.drawn⟩
    rcases hx with hx | ⟨_, hx⟩
    · rcases h2.rd' x hx with h | h | h
      · exact .inl h
      · exact h.elim
      · exact .inr ⟨h, (h3.R x hx).1⟩
    · obtain ⟨id, sz, ex, es, hb, rfl⟩ := hx
      have hx := (h3.blk id _ hb).own rfl
      rcases h2.own _ hx with h | h
      · exact h.elim
      · exact .inr ⟨h, h3.own _ hx⟩
  rcases hrun with ⟨h1, h2⟩ | ⟨v, w', h1, h2⟩
  · exact .inl ⟨h1, h2.mono fun e w' ⟨v, he, hv⟩ => ⟨v, he, fin v w' hv⟩⟩
  · exact .inr ⟨v, w', h1, fin v w' h2⟩
end
end E
end Go.Proofs.YtjhognibibmeiaaGreatDoor
