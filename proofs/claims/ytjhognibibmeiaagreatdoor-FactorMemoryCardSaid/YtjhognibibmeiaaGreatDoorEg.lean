/-
  THE EVALUATOR, seventh part: one operation, whichever.
-/
import Derived.Test.YtjhognibibmeiaaGreatDoorEf
set_option linter.unusedVariables false
namespace Go.Proofs.YtjhognibibmeiaaGreatDoor
namespace E
open Go Go.RowKit

/-- The operation ends in Φ. -/
def Gives (P : Program) (o : Oper) (a : Act) (w : World) (Φ : Value → World → Prop) : Prop :=
  ∀ (next : Act → World → Prop) (Q : Exit → Act → World → Prop), (∀ v w', Φ v w' → next (a.put o.dst v) w') → o.wp P a w next Q

section
variable {P : Program} {o : Oper} {a : Act} {w w' : World} {Φ : Value → World → Prop} {v : Value}
theorem gives_value (h : (execOp a.eval o).run P w = .ok (.value v) w') (hΦ : Φ v w') : Gives P o a w Φ := by
  intro next Q hn
  unfold Oper.wp
  rw [h]
  exact hn v w' hΦ
theorem gives_skip (h : (execOp a.eval o).run P w = .ok .skip w') (hΦ : Φ undefV w') : Gives P o a w Φ := by
  intro next Q hn
  unfold Oper.wp
  rw [h]
  exact hn undefV w' hΦ
end

/-! ### Whole numbers, floats, bools -/
section
variable {P : Program} {w : World} {G : Gh}

theorem intK_ok {op : BinOp} {ty : TypeId} {ka kb : IntKind} {m n : Int} {k : LV → Prop} (h : intK op ka m kb n k) :
    ∃ v, k (.v v) ∧ (binOp op ty (.int ka m) (.int kb n)).run P w = .ok v w := by
  unfold intK at h
  simp only [boolK_iff] at h
  split at h
  · split at h
    · exact h.elim
    · rename_i hb
      have hb : ¬ n < 0 := by simpa using hb
      exact ⟨_, h, by simp [binOp_shl, Op.shift, hb]⟩
  · split at h
    · exact h.elim
    · rename_i hb
      have hb : ¬ n < 0 := by simpa using hb
      exact ⟨_, h, by simp [binOp_shr, Op.shift, hb]⟩
  · split at h
    · exact h.elim
    · rename_i hkk
      have hkk : ka = kb := by simpa using hkk
      subst hkk
      split at h
      · exact ⟨_, h, by simp [binOp_add, Op.intArith]⟩
      · exact ⟨_, h, by simp [binOp_sub, Op.intArith]⟩
      · exact ⟨_, h, by simp [binOp_mul, Op.intArith]⟩
      · unfold nzB at h
        split at h
        · exact h.elim
        · rename_i hb
          have hb : ¬ n = 0 := by simpa using hb
          exact ⟨_, h, by simp [binOp_quo, Op.intDiv, hb]⟩
      · unfold nzB at h
        split at h
        · exact h.elim
        · rename_i hb
          have hb : ¬ n = 0 := by simpa using hb
          exact ⟨_, h, by simp [binOp_rem, Op.intDiv, hb]⟩
      · exact ⟨_, h, by simp [binOp_and, Op.intBits]⟩
      · exact ⟨_, h, by simp [binOp_or, Op.intBits]⟩
      · exact ⟨_, h, by simp [binOp_xor, Op.intBits]⟩
      · exact ⟨_, h, by simp [binOp_eql]⟩
      · exact ⟨_, h, by simp [binOp_neq]⟩
      · exact ⟨_, h, by simp [binOp_lss]⟩
      · exact ⟨_, h, by simp [binOp_leq]⟩
      · exact ⟨_, h, by simp [binOp_gtr]⟩
      · exact ⟨_, h, by simp [binOp_geq]⟩
      · exact h.elim

theorem fltK_ok {op : BinOp} {f : FloatKind} {m n : Nat} {k : Nat → Prop} (h : fltK op f m n k) : ∃ r, k r ∧ (Op.floatArith op f m n).run P w = .ok (.float f r) w := by
  unfold fltK at h
  split at h
  · rename_i r hr
    refine ⟨r, h, ?_⟩
    unfold fltArith at hr
    split at hr
    · simp [Op.floatArith, hr]
    · simp [Op.floatArith, hr]
    · simp [Op.floatArith, hr]
    · simp [Op.floatArith, hr]
    · cases hr
  · exact h.elim

theorem beq_cons (a b : Int) (r s : List Int) : (a :: r == b :: s) = ((a == b) && (r == s)) := rfl

theorem eqCells_ok : ∀ {xs ys : List LV} {vs us : List Value} {k : Bool → Prop}, eqCells xs ys k → Rels G w xs vs → Rels G w ys us →
    ∃ as bs : List Int, vs = as.map (fun n => Value.int .i64 n) ∧ us = bs.map (fun n => Value.int .i64 n) ∧ k (as == bs)
  | [], [], vs, us, k, h, hx, hy => by
    have e1 : vs = [] := List.eq_nil_of_length_eq_zero hx.1.symm
    have e2 : us = [] := List.eq_nil_of_length_eq_zero hy.1.symm
    subst e1 e2
    exact ⟨[], [], rfl, rfl, h⟩
  | c :: r, [], vs, us, k, h, hx, hy => by simp [eqCells] at h
  | [], d :: s, vs, us, k, h, hx, hy => by simp [eqCells] at h
  | c :: r, d :: s, vs, us, k, h, hx, hy => by
    obtain ⟨x, xs, e1⟩ : ∃ x xs, vs = x :: xs := by
      cases vs with
      | nil => have := hx.1; simp at this
      | cons x xs => exact ⟨x, xs, rfl⟩
    obtain ⟨y, ys, e2⟩ : ∃ y ys, us = y :: ys := by
      cases us with
      | nil => have := hy.1; simp at this
      | cons y ys => exact ⟨y, ys, rfl⟩
    subst e1 e2
    have hx0 := hx.2 0 c x rfl rfl
    have hy0 := hy.2 0 d y rfl rfl
    have hxs : Rels G w r xs := ⟨by have := hx.1; simpa using this, fun i l z h1 h2 => hx.2 (i + 1) l z (by simpa using h1) (by simpa using h2)⟩
    have hys : Rels G w s ys := ⟨by have := hy.1; simpa using this, fun i l z h1 h2 => hy.2 (i + 1) l z (by simpa using h1) (by simpa using h2)⟩
    unfold eqCells at h
    split at h
    · rename_i h1 h2; cases h1
    · rename_i p r' q s' h1 h2
      injection h1 with h1 h1'
      injection h2 with h2 h2'
      subst h1 h2 h1' h2'
      have e1 := rel_v hx0
      have e2 := rel_v hy0
      subst e1 e2
      obtain ⟨as, bs, h3, h4, h5⟩ := eqCells_ok h hxs hys
      exact ⟨p :: as, q :: bs, by simp [h3], by simp [h4], h5⟩
    · exact h.elim

theorem binK_ok {X : Ctx} (hX : OK P X) {op : BinOp} {ty : Nat} {ox oy : Operand} {x y : LV} {xv yv : Value} {k : LV → Prop} (h : binK X op ty x y k) (hx : Rel G w x xv) (hy : Rel G w y yv) :
    ∃ l v, k l ∧ (do eqGuard op ty ox oy xv yv; binOp op ty xv yv : Sem Value).run P w = .ok v w ∧ Rel G w l v := by
  unfold binK at h
  simp only [boolK_iff] at h
  split at h
  · rename_i ka m kb n
    obtain rfl := rel_v hx
    obtain rfl := rel_v hy
    obtain ⟨v, h1, h2⟩ := intK_ok (P := P) (w := w) (ty := ty) h
    exact ⟨_, v, h1, by simp [eqGuard_at_int, h2], .r _ _ (.v v)⟩
  · rename_i ka m kb n
    obtain rfl := rel_v hx
    obtain rfl := rel_v hy
    split at h
    · exact h.elim
    · rename_i hkk
      have hkk : ka = kb := by simpa using hkk
      subst hkk
      have hb : ∀ (op : BinOp), (op = .add ∨ op = .sub ∨ op = .mul ∨ op = .quo) → binOp op ty (.float ka m) (.float ka n) = Op.floatArith op ka m n := by
        intro op hop
        rcases hop with rfl | rfl | rfl | rfl <;> simp [binOp]
      have hc : ∀ (op : BinOp), (op = .eql ∨ op = .neq ∨ op = .lss ∨ op = .leq ∨ op = .gtr ∨ op = .geq) → binOp op ty (.float ka m) (.float ka n) = Op.floatCmp op ka m n := by
        intro op hop
        rcases hop with rfl | rfl | rfl | rfl | rfl | rfl <;> simp [binOp]
      split at h
      iterate 4
        obtain ⟨r, h1, h2⟩ := fltK_ok (P := P) (w := w) h
        exact ⟨_, _, h1, by simp only [eqGuard_at_float, Sem.run_bind, Sem.run_pure, Result.andThen_ok]; rw [hb _ (by simp)]; exact h2, .r _ _ (.v _)⟩
      iterate 6
        exact ⟨_, _, h, by simp only [eqGuard_at_float, Sem.run_bind, Sem.run_pure, Result.andThen_ok]; rw [hc _ (by simp)]; simp [Op.floatCmp], .r _ _ (.v _)⟩
      exact h.elim
  · rename_i ka m n kb m' n'
    obtain rfl := rel_v hx
    obtain rfl := rel_v hy
    split at h
    · exact h.elim
    · rename_i hkk
      have hkk : ka = kb := by simpa using hkk
      subst hkk
      have hb : ∀ (op : BinOp), op ≠ .shl → op ≠ .shr → binOp op ty (.complex ka m n) (.complex ka m' n') = Op.complexOp op ka m n m' n' := by
        intro op h1 h2
        cases op <;> simp_all [binOp]
      split at h
      iterate 2
        obtain ⟨r, h1, h2⟩ := fltK_ok (P := P) (w := w) h
        obtain ⟨s, h3, h4⟩ := fltK_ok (P := P) (w := w) h1
        exact ⟨_, _, h3, by simp only [eqGuard_at_complex, Sem.run_bind, Sem.run_pure, Result.andThen_ok]; rw [hb _ (by simp) (by simp)]; simp [Op.complexOp, Op.Complex.arith, h2, h4], .r _ _ (.v _)⟩
      iterate 2
        exact ⟨_, _, h, by simp only [eqGuard_at_complex, Sem.run_bind, Sem.run_pure, Result.andThen_ok]; rw [hb _ (by simp) (by simp)]; simp [Op.complexOp, Op.Complex.cmp, Op.floatCmp, asBool], .r _ _ (.v _)⟩
      exact h.elim
  · rename_i xs ys
    obtain ⟨vs, rfl, hvs⟩ := rel_agg hx
    obtain ⟨us, rfl, hus⟩ := rel_agg hy
    obtain ⟨d, hd, h⟩ := tdK_iff.1 h
    have hf := hX.T _ _ hd
    split at h
    · rename_i h1 h2 h3
      have h3 : xs.length = d.sz ∧ ys.length = d.sz := by simpa using h3
      have heq := hX.eq _ h1
      have hsz : P.cellsOf ty = d.sz := by
        obtain ⟨i, z, hi, hisz, _⟩ := hf.i
        simp [Program.cellsOf, hi, hisz]
      have halt : ∀ (as bs : List Int) (w : World), as.length = P.cellsOf ty → bs.length = P.cellsOf ty → (Op.equal ty (ints as) (ints bs)).run P w = .ok (as == bs) w := by
        rcases heq.alt with h4 | h4
        · rw [hf.u] at h4
          injection h4 with h4
          rw [TD.isAgg, h4] at h2
          cases h2
        · exact h4.1
      have hg : ∀ op, (eqGuard op ty ox oy (.agg vs.toArray) (.agg us.toArray)).run P w = .ok () w := by
        intro op
        exact run_eqGuard_agg w op ty ox oy _ _ heq.guard
      split at h
      · obtain ⟨as, bs, h4, h5, h6⟩ := eqCells_ok h hvs hus
        refine ⟨_, _, h6, ?_, .r _ _ (.v _)⟩
        have h7 := halt as bs w (by rw [hsz, ← h3.1, hvs.1, h4]; simp) (by rw [hsz, ← h3.2, hus.1, h5]; simp)
        simp only [ints, ← h4, ← h5] at h7
        simp only [Sem.run_bind, hg, Result.andThen_ok, run_eql_struct]
        unfold Op.equal Op.maxDepth at h7
        rw [h7]
        rfl
      · obtain ⟨as, bs, h4, h5, h6⟩ := eqCells_ok h hvs hus
        refine ⟨_, _, h6, ?_, .r _ _ (.v _)⟩
        have h7 := halt as bs w (by rw [hsz, ← h3.1, hvs.1, h4]; simp) (by rw [hsz, ← h3.2, hus.1, h5]; simp)
        simp only [ints, ← h4, ← h5] at h7
        simp only [Sem.run_bind, hg, Result.andThen_ok, run_neq_struct]
        unfold Op.equal Op.maxDepth at h7
        rw [h7]
        rfl
      · exact h.elim
    · exact h.elim
  · exact h.elim

theorem unK_ok {op : UnOp} {x : LV} {xv : Value} {k : LV → Prop} (h : unK op x k) (hx : Rel G w x xv) : ∃ l v, k l ∧ (Op.unary op xv).run P w = .ok v w ∧ Rel G w l v := by
  unfold unK at h
  split at h <;> first
    | exact h.elim
    | (obtain rfl := rel_v hx
       exact ⟨_, _, h, by simp [Op.unary, Op.intArith], .r _ _ (.v _)⟩)

theorem convK_ok {X : Ctx} (hX : OK P X) {src dst : Nat} {x : LV} {xv : Value} {k : LV → Prop} (hs : ∃ d, X.T src = some d) (h : convK X src dst x k) (hx : Rel G w x xv) :
    ∃ l v, k l ∧ (convert src dst xv).run P w = .ok v w ∧ Rel G w l v := by
  obtain ⟨d, h1, h⟩ := tdK_iff.1 h
  obtain ⟨ds, h2⟩ := hs
  have hd := hX.T _ _ h1
  have hs := hX.T _ _ h2
  split at h
  · rename_i ki kj n hdesc hk0
    obtain rfl := rel_v hx
    refine ⟨_, _, h, ?_, .r _ _ (.v _)⟩
    simp [convert, hs.under w, hd.under w, hdesc, Conv.intToInt]
  · rename_i f kj n hdesc hk0
    obtain rfl := rel_v hx
    refine ⟨_, _, h, ?_, .r _ _ (.v _)⟩
    simp [convert, hs.under w, hd.under w, hdesc, Conv.intToFloat]
  · exact h.elim
end
end E
end Go.Proofs.YtjhognibibmeiaaGreatDoor
