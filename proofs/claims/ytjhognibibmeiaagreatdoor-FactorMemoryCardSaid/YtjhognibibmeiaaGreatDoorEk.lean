/-
  THE EVALUATOR, eleventh part: an operation, whichever; operations one behind the other.
-/
import Derived.Test.YtjhognibibmeiaaGreatDoorEj
set_option linter.unusedVariables false
namespace Go.Proofs.YtjhognibibmeiaaGreatDoor
namespace E
open Go Go.RowKit

/-- What an operation leaves. -/
def Left (k : LV → List Blk → Prop) (G : Gh) (w : World) (v : Value) (w' : World) : Prop := ∃ r h' G', k r h' ∧ Ext G.n G w G' w' ∧ HRel G' w' h' ∧ Rel G' w' r v

section
variable {P : Program} {X : Ctx} {w : World} {G : Gh} {s : St} {a : Act} {o : Oper} {k : LV → List Blk → Prop}

theorem left_same (hh : HRel G w s.h) {l : LV} {v : Value} (hk : k l s.h) (hr : Rel G w l v) : Left k G w v w := ⟨l, s.h, G, hk, Ext.refl (Nat.le_refl _), hh, hr⟩

theorem runs_gives {g : Nat} {args : Array Value} (ho : (execOp a.eval o).run P w = (callFunc g args).run P w) {Φ : Value → World → Prop} (h : Runs P g args w Φ) : Gives P o a w Φ := by
  intro next Q hn
  unfold Oper.wp
  rw [ho]
  rcases h with ⟨h1, h2⟩ | ⟨v, w', h1, h2⟩
  · rw [h1]
    exact h2.mono fun e w'' ⟨v, he, hv⟩ => by subst he; exact hn _ _ hv
  · rw [h1]
    exact hn _ _ h2

theorem partsK_ok {t : List LV} (ht : Rels G w t a.tmps.toList) (hg : GlOK X.glob G w) : ∀ {ps : List (Nat × Operand)} {k : List (Nat × LV) → Prop}, opVal.partsK X t ps k →
    ∃ l, k l ∧ PRels G w l (ps.map fun p => (p.1, a.eval p.2))
  | [], k, hk => ⟨[], hk, prels_nil⟩
  | (i, x) :: ps, k, hk => by
    obtain ⟨l, h1, h2⟩ := opdK_ok (s := ⟨t, []⟩) hk hg ht
    obtain ⟨ls, h3, h4⟩ := partsK_ok ht hg h1
    exact ⟨(i, l) :: ls, h3, prels_cons h2 h4⟩

theorem optK_ok {t : List LV} (ht : Rels G w t a.tmps.toList) (hg : GlOK X.glob G w) {x : Option Operand} {k : Option LV → Prop} (hk : opVal.optK X t x k) :
    ∃ l, k l ∧ ((l = none ∧ x.map a.eval = none) ∨ ∃ y v, l = some y ∧ x.map a.eval = some v ∧ Rel G w y v) := by
  cases x with
  | none => exact ⟨none, hk, .inl ⟨rfl, rfl⟩⟩
  | some x =>
    obtain ⟨l, h1, h2⟩ := opdK_ok (s := ⟨t, []⟩) hk hg ht
    exact ⟨some l, h1, .inr ⟨l, _, rfl, rfl, h2⟩⟩

theorem optK_none {t : List LV} {x : Option Operand} {k : Option LV → Prop} (hk : opVal.optK X t x k) {l : Option LV} : True := trivial

theorem makeSliceK_ok (hX : OK P X) {h : List Blk} {ty : Nat} {lv cv : LV} {x y : Value} (hk : makeSliceK X h ty lv cv k) (hh : HRel G w h) (hl : Rel G w lv x) (hc : Rel G w cv y) :
    ∃ v w', (Instr.makeSlice ty x y).run P w = .ok v w' ∧ Left k G w v w' := by
  obtain ⟨d, hd, hk⟩ := tdK_iff.1 hk
  have hf := hX.T _ _ hd
  split at hk
  · rename_i ka m kb n _
    have hlv := rel_v hl
    have hcv := rel_v hc
    subst hlv hcv
    split at hk
    · rename_i el hdesc
      obtain ⟨de, hde, hk⟩ := tdK_iff.1 hk
      have hfe := hX.T _ _ hde
      obtain ⟨h1, h2, hk⟩ := leB_iff.1 hk
      split at hk
      · rename_i h3
        have h3 : 0 < de.sz := by simpa using h3
        obtain ⟨h4, h5, hk⟩ := hk
        have hk := snocK_iff.1 hk
        obtain ⟨z, hz1, hz2⟩ := hfe.zeroV w
        obtain ⟨i, hi1, hi2, hi3, hi4⟩ := hfe.info w
        have hflat : Flat G.R w de.sz (List.replicate n.toNat (de.zero.map .v)) (List.replicate n.toNat de.zero).flatten := by
          refine ⟨by simp [hfe.zl], fun i e he => ?_, fun i j e c he hc => ?_⟩
          · have := List.mem_of_getElem? he
            rw [List.eq_of_mem_replicate this]
            simp [hfe.zl]
          · have hi := (List.getElem?_eq_some_iff.1 he).1
            rw [List.length_replicate] at hi
            have := List.mem_of_getElem? he
            rw [List.eq_of_mem_replicate this] at hc
            rw [List.getElem?_map] at hc
            cases hj : de.zero[j]? with
            | none => simp [hj] at hc
            | some x =>
              simp [hj] at hc
              subst hc
              have hjl : j < de.sz := by rw [← hfe.zl]; exact (List.getElem?_eq_some_iff.1 hj).1
              refine ⟨x, ?_, List.all_eq_true.1 hfe.one x (List.mem_of_getElem? hj), .v x⟩
              rw [flatten_replicate_get _ _ _ (by rw [hfe.zl]; exact mul_lt_of hi hjl), hfe.zl]
              have e2 : (i * de.sz + j) % de.sz = j := by
                rw [Nat.mul_comm, Nat.mul_add_mod, Nat.mod_eq_of_lt hjl]
              rw [e2]
              exact hj
        obtain ⟨h6, h7⟩ := new_row (el := el) (n := n.toNat) hh h3 hflat (by simp) (by omega)
        have hzr : ∀ zr : Array Value, ((n.toNat * de.sz = 0 ∧ zr = #[]) ∨ (¬ n.toNat * de.sz = 0 ∧ zr = z.cells)) → ((Array.range (n.toNat * de.sz)).map (zr[· % zr.size]!)) = (List.replicate n.toNat de.zero).flatten.toArray := by
          intro zr hzr
          apply Array.ext'
          rcases hzr with ⟨h0, rfl⟩ | ⟨h0, rfl⟩
          · have : n.toNat = 0 := by
              rcases Nat.eq_zero_or_pos n.toNat with h | h
              · exact h
              · have := Nat.mul_pos h h3; omega
            rw [this]
            simp
          · rw [range_zero z.cells n.toNat de.sz (by have := hfe.zl; rw [← hz2] at this; simpa using this), hz2]
        refine ⟨.slice (some ⟨w.heap.size, 0, none⟩) m.toNat n.toNat, w.alloc (.cells (List.replicate n.toNat de.zero).flatten.toArray el), ?_, _, _, _, hk, Ext.new (Grew.alloc w _) de.sz n.toNat, h6, ?_⟩
        · have hwm : IntKind.i64.wrap m = m := IntWalk.i64_in m (by omega)
          have hwn : IntKind.i64.wrap n = n := IntWalk.i64_in n (by omega)
          have hb1 : ¬ (n < 0) := by omega
          have hb3 : ¬ (m < 0) := by omega
          have hb4 : ¬ (n < m) := by omega
          have hb2 : ¬ (281474976710656 < (de.bytes : Int) * n) := by rw [Int.mul_comm]; omega
          simp only [Instr.makeSlice, Sem.run_bind, hf.under w, hdesc, Result.andThen_ok, asInt, asIntOf, Sem.run_pure, hi1, hi4, hwm, hwn]
          simp [hb1, hb2, hb3, hb4, hfe.sizeOf w]
          by_cases h0 : n.toNat * de.sz = 0
          · have h1 := hzr #[] (.inl ⟨h0, rfl⟩)
            simp only [h0, if_true] at h1 ⊢
            simp at h1
            simp [newRow, ← h1]
          · have h1 := hzr z.cells (.inr ⟨h0, rfl⟩)
            simp only [h0, if_false] at h1 ⊢
            simp only [hz1, Result.andThen_ok, h1]
            simp [newRow]
        · have hρ : (G.new w de.sz n.toNat).ρ G.n = ⟨w.heap.size, de.sz, n.toNat⟩ := by simp [Gh.new]
          have := Rel.sl (G := G.new w de.sz n.toNat) (w := w.alloc (.cells (List.replicate n.toNat de.zero).flatten.toArray el)) G.n 0 m.toNat (some n.toNat) n.toNat (by simp [Gh.new]) (by omega) (by rw [hρ]; simp) (by simp)
          rw [hρ] at this
          rw [← hh.n]
          simpa using this
      · exact hk.elim
    · exact hk.elim
  · exact hk.elim

theorem lenK_ok (hX : OK P X) {h : List Blk} {tl ty : Nat} {x : LV} {xv : Value} {k : LV → Prop} (hk : lenK X h tl x k) (hh : HRel G w h) (hx : Rel G w x xv) :
    ∃ n : Nat, k (.v (.int .i64 n)) ∧ (Builtin.len_ #[tl] ty #[xv]).run P w = .ok (goInt n) w := by
  obtain ⟨d, hd, hk⟩ := tdK_iff.1 hk
  have hfd := hX.T _ _ hd
  split at hk
  · rename_i n el hdesc _
    exact ⟨n, hk, by simp [Builtin.len_, hfd.under w, hdesc]⟩
  · rename_i el es hdesc _
    have hr := rel_rd hx
    have : ∃ A c, xv = .slice A es.length c := by cases hr <;> exact ⟨_, _, rfl⟩
    obtain ⟨A, c, hv⟩ := this
    exact ⟨es.length, hk, by simp [Builtin.len_, hfd.under w, hdesc, hv]⟩
  · rename_i el id off len cap hdesc _
    obtain ⟨_, cp, hv, _⟩ := rel_sl hx
    exact ⟨len, hk, by simp [Builtin.len_, hfd.under w, hdesc, hv]⟩
  · rename_i el hdesc _
    have hv := rel_v hx
    exact ⟨0, hk, by simp [Builtin.len_, hfd.under w, hdesc, hv]⟩
  · rename_i kt et id hdesc _
    obtain ⟨b, hb, hk⟩ := getK_iff.1 hk
    obtain ⟨_, hv⟩ := rel_mp hx
    cases b with
    | map ag kn m =>
      obtain ⟨_, es, clock, h1, h2, _⟩ := hh.blk id _ hb
      exact ⟨m.length, hk, by simp [Builtin.len_, hfd.under w, hdesc, hv, run_getObj_map h1, h2]⟩
    | _ => exact hk.elim
  · exact hk.elim

theorem clearK_ok {h : List Blk} {tl ty el : Nat} {de : TD} {x : LV} {xv : Value} {k : List Blk → Prop} (hk : clearK h de.sz x k) (hu : P.underlying tl = some (.slice el)) (hfe : Facts P el de) (hh : HRel G w h) (hx : Rel G w x xv) :
    ∃ w' h', (Builtin.clear_ #[tl] ty #[xv]).run P w = .ok (.tuple #[]) w' ∧ k h' ∧ Ext G.n G w G w' ∧ HRel G w' h' := by
  have h0 : ∀ A c, xv = .slice A 0 c → (Builtin.clear_ #[tl] ty #[xv]).run P w = .ok (.tuple #[]) w := by
    intro A c hv
    subst hv
    cases A <;> simp [Builtin.clear_, run_underlying hu]
  unfold clearK at hk
  split at hk
  · have hr := rel_rd hx
    have : ∃ A c, xv = .slice A 0 c := by cases hr <;> exact ⟨_, _, rfl⟩
    obtain ⟨A, c, hv⟩ := this
    exact ⟨w, h, h0 A c hv, hk, Ext.refl (Nat.le_refl _), hh⟩
  · exact ⟨w, h, h0 _ _ (rel_v hx), hk, Ext.refl (Nat.le_refl _), hh⟩
  · rename_i id off len cap
    obtain ⟨hid, cp, hv, hle, hcp, _⟩ := rel_sl hx
    obtain ⟨b, hb, hk⟩ := getK_iff.1 hk
    cases b with
    | row sz ex es =>
      replace hk : lenB sz de.sz (setK h id (.row de.sz false (es.take off)) k) := hk
      obtain ⟨hsz, hk1⟩ := lenB_iff.1 hk
      obtain ⟨_, hk2⟩ := setK_iff.1 hk1
      clear hk1 hk
      subst hsz
      obtain ⟨ho, hρsz, hpos, hlen, hexact, hmax, cur, e, hcur, hcs, hes, hat⟩ := hh.blk id _ hb
      have fin : ∀ (w' : World) (cur' : Array Value), Wrote w w' (G.ρ id).b → w'.heap[(G.ρ id).b]? = some (.cells cur' e (0, 0)) → cur'.size = (G.ρ id).cap * de.sz → (∀ n, n < off * de.sz → cur'[n]? = cur[n]?) →
          Ext G.n G w G w' ∧ HRel G w' (h.set id (.row de.sz false (es.take off))) := by
        intro w' cur' hwr hcur' hcs' hsame
        have he := Ext.wrote (G := G) hwr ho
        refine ⟨he, hh.wrote hb rfl hwr ⟨ho, hρsz, hpos, by simp; omega, by simp, hmax, cur', e, hcur', hcs', fun i e' h1 => ?_, fun i j e' c h1 hc => ?_⟩⟩
        · rw [List.getElem?_take] at h1
          split at h1
          · exact hes i e' h1
          · cases h1
        · rw [List.getElem?_take] at h1
          split at h1
          · rename_i hlt
            obtain ⟨x, h2, h3, h4⟩ := hat i j e' c h1 hc
            have hj : j < de.sz := by rw [← hes i e' h1]; exact (List.getElem?_eq_some_iff.1 hc).1
            exact ⟨x, (hsame _ (mul_lt_of hlt hj)).trans h2, h3, h4.mono he.rd (he.keepR hh)⟩
          · cases h1
      rcases Nat.eq_zero_or_pos len with hl0 | hl0
      · subst hl0
        obtain ⟨h1, h2⟩ := fin w cur ⟨rfl, rfl, rfl, Nat.le_refl _, rfl, fun _ _ => rfl⟩ hcur hcs (fun _ _ => rfl)
        exact ⟨w, _, h0 _ _ hv, hk2, h1, h2⟩
      · obtain ⟨z, hz1, hz2⟩ := hfe.zeroV w
        have hzs : z.cells.size = de.sz := by have := hfe.zl; rw [← hz2] at this; simpa using this
        generalize hvs : (Builtin.zeroCells z.cells len).toList = vs
        have hvl : vs.length = len * de.sz := by rw [← hvs]; simp [Builtin.zeroCells, hzs]
        have hone : ∀ v ∈ vs, v.oneCell' = true := by
          intro v hv
          rw [← hvs] at hv
          simp only [Builtin.zeroCells, Array.toList_map, List.mem_map] at hv
          obtain ⟨i, _, rfl⟩ := hv
          have hi : i % z.cells.size < z.cells.size := Nat.mod_lt _ (by omega)
          refine List.all_eq_true.1 hfe.one _ ?_
          rw [← hz2, getElem!_pos z.cells _ hi]
          simp
        have hfit : off * de.sz + vs.length ≤ cur.size := by
          rw [hvl, hcs, ← Nat.add_mul]
          exact Nat.mul_le_mul_right _ (by omega)
        have hst := run_storeCells_at P (G.ρ id).b (off * de.sz) e vs 0 cur w hcur (by simpa using hfit) hone
        simp only [Nat.add_zero] at hst
        generalize hcur' : (cur.toList.take (off * de.sz) ++ vs ++ cur.toList.drop (off * de.sz + vs.length)).toArray = cur' at hst
        obtain ⟨h1, h2⟩ := fin _ cur' (Wrote.setRow w (G.ρ id).b cur') (setRow_heap w _ cur _ e _ hcur) (by rw [← hcur', ← hcs]; simp; omega) (fun n hn => by
          rw [← hcur']
          have : n < cur.size := by omega
          simp [List.getElem?_append, hn, this]
          intro hmin
          omega)
        refine ⟨_, _, ?_, hk2, h1, h2⟩
        rw [hv, hρsz]
        obtain ⟨m, rfl⟩ : ∃ m, len = m + 1 := ⟨len - 1, by omega⟩
        simp [Builtin.clear_, run_underlying hu, hz1, hvs, hst]
    | _ => exact hk.elim
  · exact hk.elim

theorem builtinK_ok (hX : OK P X) {h : List Blk} {b : Builtin} {ls : List LV} {vs : List Value} {tys : List TypeId} {ty : Nat} {consts : Array Bool} (hk : builtinK X h b ls tys k) (hh : HRel G w h) (hr : Rels G w ls vs) :
    ∃ v w', (builtin b tys.toArray ty consts vs.toArray).run P w = .ok (.value v) w' ∧ Left k G w v w' := by
  unfold builtinK at hk
  have one : ∀ (x : LV), ls = [x] → ∃ v, vs = [v] ∧ Rel G w x v := by
    intro x hx
    subst hx
    match vs, hr with
    | [v], hr => exact ⟨v, rfl, hr.2 0 _ _ rfl rfl⟩
    | [], hr => have := hr.1; simp at this
    | _ :: _ :: _, hr => have := hr.1; simp at this
  have two : ∀ (x y : LV), ls = [x, y] → ∃ v u, vs = [v, u] ∧ Rel G w x v ∧ Rel G w y u := by
    intro x y hx
    subst hx
    match vs, hr with
    | [v, u], hr => exact ⟨v, u, rfl, hr.2 0 _ _ rfl rfl, hr.2 1 _ _ rfl rfl⟩
    | [], hr => have := hr.1; simp at this
    | [_], hr => have := hr.1; simp at this
    | _ :: _ :: _ :: _, hr => have := hr.1; simp at this
  split at hk
  · split at hk
    · rename_i s x ts tx
      obtain ⟨sv, xv, rfl, hs, hx⟩ := two _ _ rfl
      obtain ⟨d, hd, hk⟩ := tdK_iff.1 hk
      have hfd := hX.T _ _ hd
      split at hk
      · rename_i el hdesc htx
        have htx : tx = ts := by simpa using htx
        obtain ⟨de, hde, hk⟩ := tdK_iff.1 hk
        have hfe := hX.T _ _ hde
        split at hk
        · rename_i hc
          have hc : 0 < de.sz ∧ 0 < de.bytes := by simpa using hc
          obtain ⟨v, w', r, h', G', h2, h3, h4, h5, h6⟩ := appendK_ok (ty := ty) hk hfd hdesc hfe rfl rfl hc.1 hc.2 hfe.zl hh hs hx
          exact ⟨v, w', by simp [builtin, htx, h2], r, h', G', h3, h4, h5, h6⟩
        · exact hk.elim
      · exact hk.elim
    · exact hk.elim
  · split at hk
    · rename_i x tl
      obtain ⟨xv, rfl, hx⟩ := one _ rfl
      obtain ⟨n, h1, h2⟩ := lenK_ok (ty := ty) hX hk hh hx
      exact ⟨goInt n, w, by simp [builtin, h2], .v (.int .i64 n), h, G, h1, Ext.refl (Nat.le_refl _), hh, .r _ _ (.v _)⟩
    · exact hk.elim
  · split at hk
    · rename_i f m n
      obtain ⟨xv, rfl, hx⟩ := one _ rfl
      have hv := rel_v hx
      subst hv
      exact ⟨.float f m, w, rfl, .v (.float f m), h, G, hk, Ext.refl (Nat.le_refl _), hh, .r _ _ (.v _)⟩
    · exact hk.elim
  · split at hk
    · rename_i f m n
      obtain ⟨xv, rfl, hx⟩ := one _ rfl
      have hv := rel_v hx
      subst hv
      exact ⟨.float f n, w, rfl, .v (.float f n), h, G, hk, Ext.refl (Nat.le_refl _), hh, .r _ _ (.v _)⟩
    · exact hk.elim
  · split at hk
    · rename_i f m g n
      split at hk
      · rename_i hfg
        have hfg : f = g := by simpa using hfg
        subst hfg
        obtain ⟨xv, yv, rfl, hx, hy⟩ := two _ _ rfl
        have hv := rel_v hx
        subst hv
        have hv := rel_v hy
        subst hv
        have e : Builtin.complex_ tys.toArray ty #[.float f m, .float f n] = pure (.complex f m n) := (if_pos rfl : (if f = f then (pure (.complex f m n) : Sem Value) else stuck "complex: parts of different kinds") = _)
        exact ⟨.complex f m n, w, by simp [builtin, e], .v (.complex f m n), h, G, hk, Ext.refl (Nat.le_refl _), hh, .r _ _ (.v _)⟩
      · exact hk.elim
    · exact hk.elim
  · split at hk
    · rename_i x tl
      obtain ⟨xv, rfl, hx⟩ := one _ rfl
      obtain ⟨d, hd, hk⟩ := tdK_iff.1 hk
      have hfd := hX.T _ _ hd
      split at hk
      · rename_i el hdesc
        obtain ⟨de, hde, hk⟩ := tdK_iff.1 hk
        obtain ⟨w', h', h1, h2, h3, h4⟩ := clearK_ok (ty := ty) (tl := tl) hk (hdesc ▸ hfd.u) (hX.T _ _ hde) hh hx
        exact ⟨.tuple #[], w', by simp [builtin, h1], .v undefV, h', G, h2, h3, h4, .r _ _ (.v _)⟩
      · exact hk.elim
    · exact hk.elim
  · split at hk
    · rename_i s x ts tx
      obtain ⟨sv, xv, rfl, hs, hx⟩ := two _ _ rfl
      obtain ⟨d, hd, hk⟩ := tdK_iff.1 hk
      have hfd := hX.T _ _ hd
      split at hk
      · rename_i el hdesc htx
        have htx : tx = ts := by simpa using htx
        obtain ⟨de, hde, hk⟩ := tdK_iff.1 hk
        have hfe := hX.T _ _ hde
        split at hk
        · rename_i hc
          have hc : 0 < de.sz := by simpa using hc
          obtain ⟨v, w', r, h', h2, h3, h4, h5, h6⟩ := copyK_ok (ty := ty) hk hfd hdesc hfe rfl hc hh hs hx
          exact ⟨v, w', by simp [builtin, htx, h2], r, h', G, h3, h4, h5, h6⟩
        · exact hk.elim
      · exact hk.elim
    · exact hk.elim
  · exact hk.elim

set_option maxHeartbeats 1600000 in
theorem opVal_ok (hX : OK P X) (hk : opVal X s.t s.h o.op k) (hh : HRel G w s.h) (hg : GlOK X.glob G w) (ht : Rels G w s.t a.tmps.toList) : Gives P o a w (Left k G w) := by
  obtain ⟨dst, op, ty, pos, after, guard⟩ := o
  simp only at hk
  cases op with
  | move x =>
    obtain ⟨l, h1, h2⟩ := opdK_ok hk hg ht
    exact gives_value (by simp [execOp]) (left_same hh h1 h2)
  | assign x =>
    obtain ⟨l, h1, h2⟩ := opdK_ok hk hg ht
    exact gives_value (by simp [execOp]) (left_same hh h1 h2)
  | pick c x y =>
    obtain ⟨l, h1, h2⟩ := opdK_ok hk hg ht
    unfold condB at h1
    split at h1
    · have hc := rel_v h2
      obtain ⟨l2, h3, h4⟩ := opdK_ok h1 hg ht
      exact gives_value (v := a.eval x) (w' := w) (by simp [execOp, hc, asBool]) (left_same hh h3 h4)
    · have hc := rel_v h2
      obtain ⟨l2, h3, h4⟩ := opdK_ok h1 hg ht
      exact gives_value (v := a.eval y) (w' := w) (by simp [execOp, hc, asBool]) (left_same hh h3 h4)
    · exact h1.elim
  | alloc e =>
    have hq := tdK_iff.1 hk
    clear hk
    obtain ⟨d, hd, hk⟩ := hq
    have hf := hX.T _ _ hd
    have hk := snocK_iff.1 hk
    obtain ⟨z, hz1, hz2⟩ := hf.zeroV w
    have hgr := Grew.alloc w (.cells z.cells e)
    have he := Ext.new (G := G) hgr d.zero.length 1
    have hρ : (G.new w d.zero.length 1).ρ G.n = ⟨w.heap.size, d.zero.length, 1⟩ := by simp [Gh.new]
    refine gives_value (v := .pointer (some ⟨w.heap.size, 0, none⟩)) (w' := w.alloc (.cells z.cells e)) ?_ ⟨_, _, G.new w d.zero.length 1, hk, he, hh.new hgr _ _ ?_, ?_⟩
    · simp [execOp, Instr.alloc, hz1, newVar, newRow]
    · refine ⟨by rw [hρ]; exact .inr rfl, by rw [hρ]; simp, z.cells, e, by rw [hρ]; exact hgr.at_, by simp [← hz2], fun j c hc => ?_⟩
      rw [List.getElem?_map] at hc
      cases hj : d.zero[j]? with
      | none => simp [hj] at hc
      | some x =>
        simp [hj] at hc
        subst hc
        refine ⟨x, by rw [← hz2] at hj; simpa using hj, List.all_eq_true.1 hf.one x (List.mem_of_getElem? hj), .r _ _ (.v x)⟩
    · have := Rel.ptr (G := G.new w d.zero.length 1) (w := w.alloc (.cells z.cells e)) G.n 0 0 (by simp [Gh.new])
      rw [hρ] at this
      rw [← hh.n]
      simpa using this
  | box e x =>
    have hq := tdK_iff.1 hk
    clear hk
    obtain ⟨d, hd, hk⟩ := hq
    have hf := hX.T _ _ hd
    have hq := opdK_ok hk hg ht
    clear hk
    obtain ⟨l, hk, hl⟩ := hq
    have hq := cellsK_ok hk hl
    clear hk
    obtain ⟨cs, hk, hcs, hone⟩ := hq
    split at hk
    · have hk := snocK_iff.1 hk
      have hgr := Grew.alloc w (.cells (a.eval x).cells e)
      have he := Ext.new (G := G) hgr cs.length 1
      have hρ : (G.new w cs.length 1).ρ G.n = ⟨w.heap.size, cs.length, 1⟩ := by simp [Gh.new]
      refine gives_value (v := .pointer (some ⟨w.heap.size, 0, none⟩)) (w' := w.alloc (.cells (a.eval x).cells e)) ?_ ⟨_, _, G.new w cs.length 1, hk, he, hh.new hgr _ _ ?_, ?_⟩
      · simp [execOp, Instr.box, newVar, newRow]
      · refine ⟨by rw [hρ]; exact .inr rfl, by rw [hρ], (a.eval x).cells, e, by rw [hρ]; exact hgr.at_, by have := hcs.1; simpa using this.symm, fun j c hc => ?_⟩
        obtain ⟨y, h1, h2⟩ := rels_get hcs hc
        exact ⟨y, by simpa using h1, hone y (List.mem_of_getElem? h1), h2.ext hh he⟩
      · have := Rel.ptr (G := G.new w cs.length 1) (w := w.alloc (.cells (a.eval x).cells e)) G.n 0 0 (by simp [Gh.new])
        rw [hρ] at this
        rw [← hh.n]
        simpa using this
    · exact hk.elim
  | build t ps =>
    have hq := partsK_ok ht hg hk
    clear hk
    obtain ⟨l, hk, hps⟩ := hq
    obtain ⟨r, v, h1, h2, h3⟩ := buildK_ok (qs := ps.map fun p => (p.1, a.eval p.2)) hX hk (by simpa using hps)
    exact gives_value (v := v) (w' := w) (by simp [execOp, h2]) (left_same hh h1 h3)
  | buildSlice t len ps =>
    have hq := partsK_ok ht hg hk
    clear hk
    obtain ⟨l, hk, hps⟩ := hq
    obtain ⟨v, w', r, h', G', h1, h2, h3, h4, h5⟩ := buildSliceK_ok (qs := ps.map fun p => (p.1, a.eval p.2)) hX hk hh (by simpa using hps)
    exact gives_value (v := v) (w' := w') (by simp [execOp, h1]) ⟨r, h', G', h2, h3, h4, h5⟩
  | load t x =>
    have hq := opdK_ok hk hg ht
    clear hk
    obtain ⟨p, hk, hp⟩ := hq
    obtain ⟨l, v, h1, h2, h3⟩ := loadK_ok hX hk hh hp
    exact gives_value (v := v) (w' := w) (by simp [execOp, h2]) (left_same hh h1 h3)
  | store t x y =>
    have hq := opdK_ok hk hg ht
    clear hk
    obtain ⟨p, hk, hp⟩ := hq
    have hq := opdK_ok hk hg ht
    clear hk
    obtain ⟨l, hk, hl⟩ := hq
    obtain ⟨w', h', h1, h2, h3, h4⟩ := storeK_ok hX hk hh hp hl
    exact gives_skip (w' := w') (by simp [execOp, h1]) ⟨_, h', G, h2, h3, h4, .r _ _ (.v _)⟩
  | nilCheck x =>
    have hq := opdK_ok hk hg ht
    clear hk
    obtain ⟨p, hk, hp⟩ := hq
    split at hk
    · obtain ⟨_, hv⟩ := rel_ptr hp
      exact gives_value (v := a.eval x) (w' := w) (by simp [execOp, hv]) (left_same hh hk hp)
    · obtain ⟨b, of, val, hv, _⟩ := rel_eptr hp
      exact gives_value (v := a.eval x) (w' := w) (by simp [execOp, hv]) (left_same hh hk hp)
    · obtain ⟨vs, hv, _⟩ := rel_clo hp
      exact gives_value (v := a.eval x) (w' := w) (by simp [execOp, hv]) (left_same hh hk hp)
    · exact hk.elim
  | binOp op t x y ty2 =>
    have hq := opdK_ok hk hg ht
    clear hk
    obtain ⟨l, hk, hl⟩ := hq
    have hq := opdK_ok hk hg ht
    clear hk
    obtain ⟨m, hk, hm⟩ := hq
    obtain ⟨r, v, h1, h2, h3⟩ := binK_ok (ox := x) (oy := y) hX hk hl hm
    simp only [Sem.run_bind] at h2
    exact gives_value (v := v) (w' := w) (by simp only [execOp, Sem.run_bind]; rw [h2]; rfl) (left_same hh h1 h3)
  | unOp op t x =>
    have hq := opdK_ok hk hg ht
    clear hk
    obtain ⟨l, hk, hl⟩ := hq
    obtain ⟨r, v, h1, h2, h3⟩ := unK_ok (P := P) hk hl
    exact gives_value (v := v) (w' := w) (by simp [execOp, h2]) (left_same hh h1 h3)
  | convert src dst x =>
    have hq := opdK_ok hk hg ht
    clear hk
    obtain ⟨l, hk, hl⟩ := hq
    have hq := tdK_iff.1 hk
    clear hk
    obtain ⟨ds, hds, hk⟩ := hq
    obtain ⟨r, v, h1, h2, h3⟩ := convK_ok hX ⟨ds, hds⟩ hk hl
    exact gives_value (v := v) (w' := w) (by simp [execOp, h2]) (left_same hh h1 h3)
  | makeFunc fn first caps =>
    cases fn with
    | func f =>
      have hq := opdsK_ok hk hg ht
      clear hk
      obtain ⟨ls, hk, hls⟩ := hq
      split at hk
      · rename_i hfirst
        refine gives_value (v := .func (.func f) #[] (caps.map a.eval)) (w' := w) ?_ (left_same hh hk ?_)
        · have : first = #[] := by simpa using hfirst
          subst this
          simp [execOp, Instr.makeFunc]
        · have := Rel.clo (G := G) (w := w) f ls (caps.toList.map a.eval) hls.1 hls.2
          have e : (caps.toList.map a.eval).toArray = caps.map a.eval := by apply Array.ext'; simp
          rwa [e] at this
      · exact hk.elim
    | _ => exact hk.elim
  | makeMap t r =>
    cases r with
    | some r => exact hk.elim
    | none =>
      have hq := tdK_iff.1 hk
      clear hk
      obtain ⟨d, hd, hk⟩ := hq
      split at hk
      · rename_i kt et hdesc
        have hq := tdK_iff.1 hk
        clear hk
        obtain ⟨dk, hdk, hk⟩ := hq
        have hk := snocK_iff.1 hk
        have hgr := Grew.alloc w (.map #[] 0)
        have he := Ext.new (G := G) hgr 0 0
        have hρ : (G.new w 0 0).ρ G.n = ⟨w.heap.size, 0, 0⟩ := by simp [Gh.new]
        refine gives_value (v := .map (some w.heap.size)) (w' := w.alloc (.map #[] 0)) ?_ ⟨_, _, G.new w 0 0, hk, he, hh.new hgr _ _ ?_, ?_⟩
        · simp [execOp, Instr.makeMap]
        · exact ⟨by rw [hρ]; exact .inr rfl, #[], 0, by rw [hρ]; exact hgr.at_, rfl, by simp⟩
        · have := Rel.mp (G := G.new w 0 0) (w := w.alloc (.map #[] 0)) G.n (by simp [Gh.new])
          rw [hρ] at this
          rw [← hh.n]
          exact this
      · exact hk.elim
  | makeSlice t l c =>
    have hq := opdK_ok hk hg ht
    clear hk
    obtain ⟨lv, hk, hl⟩ := hq
    have hq := opdK_ok hk hg ht
    clear hk
    obtain ⟨cv, hk, hc⟩ := hq
    obtain ⟨v, w', h1, h2⟩ := makeSliceK_ok hX hk hh hl hc
    exact gives_value (v := v) (w' := w') (by simp [execOp, h1]) h2
  | slice t x lo hi mx =>
    have hq := opdK_ok hk hg ht
    clear hk
    obtain ⟨l, hk, hl⟩ := hq
    have hq := optK_ok ht hg hk
    clear hk
    obtain ⟨lo', hk, hlo⟩ := hq
    have hq := optK_ok ht hg hk
    clear hk
    obtain ⟨hi', hk, hhi⟩ := hq
    have hq := optK_ok ht hg hk
    clear hk
    obtain ⟨mx', hk, hmx⟩ := hq
    have hq := tdK_iff.1 hk
    clear hk
    obtain ⟨d, hd, hk⟩ := hq
    have hf := hX.T _ _ hd
    split at hk
    · rename_i el hdesc
      have hq := tdK_iff.1 hk
      clear hk
      obtain ⟨de, hde, hk⟩ := hq
      have hq := hk
      clear hk
      obtain ⟨hok, hk⟩ := hq
      obtain ⟨r, v, h1, h2, h3⟩ := sliceK_ok hX hk hf hdesc (hX.T _ _ hde) hh hl hlo hhi hmx hok
      exact gives_value (v := v) (w' := w) (by simp [execOp, h2]) (left_same hh h1 h3)
    · exact hk.elim
  | fieldAddr t x f =>
    have hq := opdK_ok hk hg ht
    clear hk
    obtain ⟨p, hk, hp⟩ := hq
    have hq := fieldK_ok hX hk
    clear hk
    obtain ⟨fs, fl, df, h1, h2, h3, hk⟩ := hq
    split at hk
    · exact hk.elim
    · rename_i hsz
      have hsz : 0 < df.sz := by simpa using hsz
      have hne : ¬ df.sz = 0 := by omega
      split at hk
      · rename_i id i sub
        obtain ⟨hid, hv⟩ := rel_ptr hp
        refine gives_value (v := .pointer (some ⟨(G.ρ id).b, i * (G.ρ id).sz + (sub + fl.offset), none⟩)) (w' := w) ?_ (left_same hh hk (.ptr id i _ hid))
        simp [execOp, Instr.fieldAt, run_underlying h1, h2, hv, Instr.sureAddr, fieldPlace, h3.sizeOf w, hne, addr_add, Nat.add_assoc]
      · rename_i e sub
        obtain ⟨b, of, val, hv, hR, hm, hc⟩ := rel_eptr hp
        refine gives_value (v := .pointer (some ⟨b, of + (sub + fl.offset), none⟩)) (w' := w) ?_ (left_same hh hk (.eptr e _ b of val hR hm hc))
        simp [execOp, Instr.fieldAt, run_underlying h1, h2, hv, Instr.sureAddr, fieldPlace, h3.sizeOf w, hne, addr_add, Nat.add_assoc]
      · exact hk.elim
  | field t x f =>
    have hq := opdK_ok hk hg ht
    clear hk
    obtain ⟨p, hk, hp⟩ := hq
    have hq := fieldK_ok hX hk
    clear hk
    obtain ⟨fs, fl, df, h1, h2, h3, hk⟩ := hq
    split at hk
    · obtain ⟨vs, hv, hvs⟩ := rel_agg hp
      obtain ⟨l, v, h4, h5, h6⟩ := partK_val hk h3 hvs
      exact gives_value (v := v) (w' := w) (by simp [execOp, Instr.field, run_underlying h1, h2, hv, asAgg, h5]) (left_same hh h4 h6)
    · exact hk.elim
  | indexAddr t x i =>
    have hq := opdK_ok hk hg ht
    clear hk
    obtain ⟨p, hk, hp⟩ := hq
    have hq := opdK_ok hk hg ht
    clear hk
    obtain ⟨iv, hk, hi⟩ := hq
    split at hk
    · rename_i ki n
      have hiv := rel_v hi
      obtain ⟨l, v, h1, h2, h3⟩ := idxAddrK_ok (ki := ki) hX hk hh hp
      exact gives_value (v := v) (w' := w) (by simp [execOp, hiv, h2]) (left_same hh h1 h3)
    · exact hk.elim
  | index t x i =>
    have hq := opdK_ok hk hg ht
    clear hk
    obtain ⟨p, hk, hp⟩ := hq
    have hq := opdK_ok hk hg ht
    clear hk
    obtain ⟨iv, hk, hi⟩ := hq
    split at hk
    · rename_i ki n
      have hiv := rel_v hi
      obtain ⟨l, v, h1, h2, h3⟩ := idxK_ok (ki := ki) hX hk hp
      exact gives_value (v := v) (w' := w) (by simp [execOp, hiv, h2]) (left_same hh h1 h3)
    · exact hk.elim
  | lookup t m ki ok =>
    have hq := opdK_ok hk hg ht
    clear hk
    obtain ⟨mv, hk, hm⟩ := hq
    have hq := opdK_ok hk hg ht
    clear hk
    obtain ⟨kv, hk, hkv⟩ := hq
    have hq := keyK_ok hk hkv
    clear hk
    obtain ⟨key, hkey, hk, h1⟩ := hq
    have hq := tdK_iff.1 hk
    clear hk
    obtain ⟨d, hd, hk⟩ := hq
    have hf := hX.T _ _ hd
    split at hk
    · rename_i kt et id hdesc
      obtain ⟨_, hmv⟩ := rel_mp hm
      have hq := tdK_iff.1 hk
      clear hk
      obtain ⟨dk, hdk, hk⟩ := hq
      have hq := tdK_iff.1 hk
      clear hk
      obtain ⟨de, hde, hk⟩ := hq
      have hfe := hX.T _ _ hde
      have hq := getK_iff.1 hk
      clear hk
      obtain ⟨b, hb, hk⟩ := hq
      split at hk
      · rename_i ag kn ms z hagg hzero
        split at hk
        · rename_i hc heq
          have hc : kn = key.length ∧ ag = isAggL kv ∧ keyTy dk ag = true ∧ dk.sz = key.length := by simpa using hc
          obtain ⟨hc1, hc2, hc3, hc4⟩ := hc
          obtain ⟨v, l, h2, h3, h4⟩ := lookup_ok (ok := ok) hX hf hdesc hdk hfe hagg hzero hh hb hc1 hc3 hc4 heq (by rw [hc2]; exact h1)
          rw [hc2, ← hkey] at h4
          cases ok with
          | true =>
            simp only [if_true] at h4 hk
            rcases h2 with h2 | ⟨h2, rfl⟩
            · rw [h2] at hk h4
              simp only [optB] at hk
              refine gives_value (v := .tuple #[v, .bool true]) (w' := w) (by simp [execOp, hmv, h4]) (left_same hh hk ?_)
              exact .tup [l, .v (.bool true)] [v, .bool true] rfl (rels_cons h3 (rels_cons (.r _ _ (.v _)) rels_nil)).2
            · rw [h2] at hk h4
              simp only [optB] at hk
              refine gives_value (v := .tuple #[v, .bool false]) (w' := w) (by simp [execOp, hmv, h4]) (left_same hh hk ?_)
              exact .tup [.v z, .v (.bool false)] [v, .bool false] rfl (rels_cons h3 (rels_cons (.r _ _ (.v _)) rels_nil)).2
          | false =>
            simp only [Bool.false_eq_true, if_false] at h4 hk
            rcases h2 with h2 | ⟨h2, rfl⟩
            · rw [h2] at hk
              exact gives_value (v := v) (w' := w) (by simp [execOp, hmv, h4]) (left_same hh hk h3)
            · rw [h2] at hk
              exact gives_value (v := v) (w' := w) (by simp [execOp, hmv, h4]) (left_same hh hk h3)
        · exact hk.elim
      · exact hk.elim
    · exact hk.elim
  | mapUpdate t m ki x =>
    have hq := opdK_ok hk hg ht
    clear hk
    obtain ⟨mv, hk, hm⟩ := hq
    have hq := opdK_ok hk hg ht
    clear hk
    obtain ⟨kv, hk, hkv⟩ := hq
    have hq := opdK_ok hk hg ht
    clear hk
    obtain ⟨xv, hk, hxv⟩ := hq
    have hq := keyK_ok hk hkv
    clear hk
    obtain ⟨key, hkey, hk, h1⟩ := hq
    have hq := tdK_iff.1 hk
    clear hk
    obtain ⟨d, hd, hk⟩ := hq
    have hf := hX.T _ _ hd
    split at hk
    · rename_i kty et id hdesc
      obtain ⟨_, hmv⟩ := rel_mp hm
      have hq := tdK_iff.1 hk
      clear hk
      obtain ⟨dk, hdk, hk⟩ := hq
      have hq := getK_iff.1 hk
      clear hk
      obtain ⟨b, hb, hk⟩ := hq
      split at hk
      · rename_i ag kn ms
        split at hk
        · rename_i hc heq
          have hc : kn = key.length ∧ ag = isAggL kv ∧ keyTy dk ag = true ∧ dk.sz = key.length := by simpa using hc
          obtain ⟨hc1, hc2, hc3, hc4⟩ := hc
          have hq := setK_iff.1 hk
          clear hk
          obtain ⟨_, hk⟩ := hq
          obtain ⟨w', h2, h3, h4⟩ := mapUpdate_ok hX hf hdesc hdk hh hb hc1 hc3 hc4 heq (by rw [hc2]; exact h1) hxv
          rw [hc2, ← hkey] at h2
          exact gives_skip (w' := w') (by simp [execOp, hmv, h2]) ⟨_, _, G, hk, h3, h4, .r _ _ (.v _)⟩
        · exact hk.elim
      · exact hk.elim
    · exact hk.elim
  | extract x i =>
    have hq := opdK_ok hk hg ht
    clear hk
    obtain ⟨l, hk, hl⟩ := hq
    split at hk
    · obtain ⟨vs, hv, hvs⟩ := rel_tup hl
      obtain ⟨r, h1, h2⟩ := getK_iff.1 hk
      obtain ⟨y, h3, h4⟩ := rels_get hvs h1
      exact gives_value (v := y) (w' := w) (by simp [execOp, hv, Instr.extract, h3]) (left_same hh h2 h4)
    · exact hk.elim
  | call c =>
    obtain ⟨callee, args, argTypes⟩ := c
    cases callee with
    | value f =>
      have hq := opdK_ok hk hg ht
      clear hk
      obtain ⟨fv, hk, hf⟩ := hq
      have hq := opdsK_ok hk hg ht
      clear hk
      obtain ⟨ls, hk, hls⟩ := hq
      split at hk
      · rename_i g caps
        obtain ⟨vs, hv, hvs⟩ := rel_clo hf
        have hr := hX.C g _ _ _ hk G _ w hh hg (rels_append hls hvs)
        refine runs_gives ?_ hr
        have e1 : (args.toList.map a.eval ++ vs).toArray = args.map a.eval ++ vs.toArray := by apply Array.ext'; simp
        rw [e1]
        simp [execOp, resolve, hv, Deferred.ofValue, invoke]
      · exact hk.elim
    | invoke recv m => exact hk.elim
    | builtin b =>
      have hq := opdsK_ok hk hg ht
      clear hk
      obtain ⟨ls, hk, hls⟩ := hq
      have hls : Rels G w ls (args.toList.map a.eval) := hls
      obtain ⟨v, w', h1, h2⟩ := builtinK_ok (ty := ty) (consts := args.map fun | .const _ => true | _ => false) hX hk hh hls
      have e1 : (args.toList.map a.eval).toArray = args.map a.eval := by apply Array.ext'; simp
      simp only [e1, Array.toArray_toList] at h1
      exact gives_value (v := v) (w' := w') (by simp only [execOp, resolve, Sem.run_bind, Sem.run_pure, Result.andThen_ok, invoke]; exact h1) h2
  | _ => exact hk.elim
end
end E
end Go.Proofs.YtjhognibibmeiaaGreatDoor
