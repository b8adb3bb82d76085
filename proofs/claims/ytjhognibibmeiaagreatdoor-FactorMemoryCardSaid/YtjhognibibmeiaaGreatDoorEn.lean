/-
  THE EVALUATOR, fourteenth part: '==' and keys at types of whole numbers alone.
-/
import Derived.Test.YtjhognibibmeiaaGreatDoorEm
import Derived.ChangeKeysEq
set_option linter.unusedVariables false
namespace Go.Proofs.YtjhognibibmeiaaGreatDoor
namespace E
open Go Go.RowKit

def vl (ag : Bool) (xs : List Int) : Value :=
  match ag with
  | true => ints xs
  | false => .int .i64 (xs.headD 0)

/-- A type of c whole numbers, n levels deep. -/
structure EqI (P : Program) (t c : Nat) (ag : Bool) (n : Nat) : Prop where
  size : ∀ w, (sizeOf t).run P w = .ok c w
  one : ag = false → c = 1
  part : ∀ (xs : List Int) (off : Nat) (w : World), off + c ≤ xs.length → (part t (xs.map fun n => Value.int .i64 n).toArray off).run P w = .ok (vl ag ((xs.drop off).take c)) w
  eq : ∀ d w (xs ys : List Int), xs.length = c → ys.length = c → (Op.equalIn (d + n) t (vl ag xs) (vl ag ys)).run P w = .ok (xs == ys) w
  ck : ∀ d (b : Bool) w (xs : List Int), xs.length = c → (Instr.checkKey b (d + n) t (vl ag xs)).run P w = .ok () w

inductive FieldsI (P : Program) (n : Nat) : List Field → Nat → Nat → Prop
  | nil (off : Nat) : FieldsI P n [] off off
  | cons (f : Field) (L : List Field) (c : Nat) (ag : Bool) (tot : Nat) : f.name ≠ "_" → EqI P f.type c ag n → FieldsI P n L (f.offset + c) tot → FieldsI P n (f :: L) f.offset tot

section
variable {P : Program}

theorem EqI.up {t c n : Nat} {ag : Bool} (h : EqI P t c ag n) : EqI P t c ag (n + 1) :=
  ⟨h.size, h.one, h.part, fun d w xs ys h1 h2 => by
    have := h.eq (d + 1) w xs ys h1 h2
    rwa [show d + 1 + n = d + (n + 1) by omega] at this, fun d b w xs h1 => by
    have := h.ck (d + 1) b w xs h1
    rwa [show d + 1 + n = d + (n + 1) by omega] at this⟩

theorem sizeOf_facts {t : Nat} {d : TD} (h : Facts P t d) (w : World) : (sizeOf t).run P w = .ok d.sz w := h.sizeOf w

theorem EqI.int {t : Nat} {d : TD} (h : Facts P t d) (hd : d.desc = .int .i64) (hs : d.sz = 1) : EqI P t 1 false 1 := by
  have hu : P.underlying t = some (.int .i64) := hd ▸ h.u
  refine ⟨fun w => hs ▸ h.sizeOf w, fun _ => rfl, fun xs off w hle => ?_, fun d w xs ys h1 h2 => ?_, fun d b w xs h1 => checkKey_int b d _ hu⟩
  · have hi : (isAgg t).run P w = .ok false w := by
      have := h.isAgg w
      simpa [TD.isAgg, hd] using this
    have hx : off < xs.length := by omega
    have : (xs.map fun n => Value.int .i64 n)[off]? = some (.int .i64 xs[off]) := by simp [hx]
    have e : (xs.drop off).take 1 = [xs[off]] := by
      rw [List.drop_eq_getElem_cons hx]; rfl
    rw [e]
    simp [Go.part, hi, hx, vl]
  · match xs, ys, h1, h2 with
    | [a], [b], _, _ =>
      refine (run_equalIn_int (P := P) w d t .i64 .i64 a b hu).trans ?_
      rw [beq_cons]
      simp

theorem part_agg {t : Nat} {d : TD} (h : Facts P t d) (ha : d.isAgg = true) (xs : List Int) (off : Nat) (w : World) :
    (part t (xs.map fun n => Value.int .i64 n).toArray off).run P w = .ok (vl true ((xs.drop off).take d.sz)) w := by
  have hi : (isAgg t).run P w = .ok true w := ha ▸ h.isAgg w
  simp [Go.part, hi, h.sizeOf w, vl, ints, List.map_take, List.map_drop]

theorem beq_append' {a b c d : List Int} (h : a.length = b.length) : (a ++ c == b ++ d) = ((a == b) && (c == d)) := by
  rw [Bool.eq_iff_iff]
  simp only [beq_iff_eq, Bool.and_eq_true]
  exact ⟨fun e => List.append_inj e h, fun ⟨e1, e2⟩ => by rw [e1, e2]⟩

theorem beq_drop {xs ys : List Int} {off c : Nat} (h1 : off + c ≤ xs.length) (h2 : off + c ≤ ys.length) :
    (xs.drop off == ys.drop off) = (((xs.drop off).take c == (ys.drop off).take c) && (xs.drop (off + c) == ys.drop (off + c))) := by
  rw [← beq_append' (by simp; omega)]
  have : ∀ zs : List Int, (zs.drop off).take c ++ zs.drop (off + c) = zs.drop off := by
    intro zs
    rw [← List.drop_drop]
    exact List.take_append_drop c _
  rw [this, this]

theorem eqItems_ints {e c n d : Nat} {ag : Bool} (h : EqI P e c ag n) (xs ys : List Int) (w : World) : ∀ (m j : Nat), xs.length = (j + m) * c → ys.length = (j + m) * c →
    (Op.eqItems (d + n) e c (xs.map fun n => Value.int .i64 n).toArray (ys.map fun n => Value.int .i64 n).toArray (List.range' j m)).run P w = .ok (xs.drop (j * c) == ys.drop (j * c)) w := by
  intro m
  induction m with
  | zero =>
    intro j h1 h2
    have e1 : xs.drop (j * c) = [] := by apply List.drop_eq_nil_of_le; simp at h1; omega
    have e2 : ys.drop (j * c) = [] := by apply List.drop_eq_nil_of_le; simp at h2; omega
    simp [Op.eqItems, e1, e2]
  | succ m ih =>
    intro j h1 h2
    have hb : j * c + c ≤ (j + (m + 1)) * c := by
      rw [← Nat.succ_mul]
      exact Nat.mul_le_mul_right _ (by omega)
    have p1 := h.part xs (j * c) w (by omega)
    have p2 := h.part ys (j * c) w (by omega)
    have p3 := h.eq d w ((xs.drop (j * c)).take c) ((ys.drop (j * c)).take c) (by simp; omega) (by simp; omega)
    have p4 := ih (j + 1) (by rw [h1]; congr 1; omega) (by rw [h2]; congr 1; omega)
    rw [beq_drop (c := c) (by omega) (by omega)]
    simp only [List.range'_succ, Op.eqItems, Sem.run_bind, p1, p2, p3, Result.andThen_ok]
    have e3 : j * c + c = (j + 1) * c := by rw [Nat.succ_mul]
    cases hh : ((xs.drop (j * c)).take c == (ys.drop (j * c)).take c) with
    | false => simp
    | true =>
      simp only [Bool.not_true, Bool.false_eq_true, if_false, Bool.true_and]
      rw [e3]
      exact p4

theorem ckItems_ints {e c n d : Nat} {ag b : Bool} (h : EqI P e c ag n) (xs : List Int) (w : World) (is : List Nat) (hi : ∀ i ∈ is, i * c + c ≤ xs.length) :
    (forIn (m := Sem) is PUnit.unit fun i (_ : PUnit) => do Instr.checkKey b (d + n) e (← part e (xs.map fun n => Value.int .i64 n).toArray (i * (← sizeOf e))); pure (ForInStep.yield PUnit.unit)).run P w = .ok PUnit.unit w := by
  induction is with
  | nil => simp
  | cons j is ih =>
    have p1 := h.part xs (j * c) w (hi j (by simp))
    have p2 := h.ck d b w ((xs.drop (j * c)).take c) (by have := hi j (by simp); simp; omega)
    simp only [List.forIn_cons, Sem.run_bind, h.size w, Result.andThen_ok, p1, p2, Sem.run_pure]
    exact ih fun i hi' => hi i (by simp [hi'])

theorem EqI.array {t e k c n : Nat} {ag : Bool} {d : TD} (hd : Facts P t d) (hdesc : d.desc = .array k e) (hsz : d.sz = k * c) {de : TD} (he : Facts P e de) (hes : de.sz = c) (h : EqI P e c ag n) : EqI P t (k * c) true (n + 1) := by
  have hu : P.underlying t = some (.array k e) := hdesc ▸ hd.u
  obtain ⟨i, z, hi, his, _⟩ := he.i
  have hc : P.cellsOf e = c := by simp [Program.cellsOf, hi, his, hes]
  refine ⟨fun w => hsz ▸ hd.sizeOf w, fun h => (by cases h), fun xs off w hle => hsz ▸ part_agg hd (by simp [TD.isAgg, hdesc]) xs off w, fun dd w xs ys h1 h2 => ?_, fun dd b w xs h1 => ?_⟩
  · show (Op.equalIn ((dd + n) + 1) t (.agg _) (.agg _)).run P w = _
    rw [run_equalIn_array w (dd + n) _ _ hu hi, List.range_eq_range', hc]
    have := eqItems_ints (d := dd) h xs ys w k 0 (by simpa using h1) (by simpa using h2)
    simpa using this
  · show (Instr.checkKey b ((dd + n) + 1) t (.agg _)).run P w = _
    rw [Instr.checkKey]
    simp only [Sem.run_bind, run_underlying hu, Result.andThen_ok]
    simp only [Std.Legacy.Range.forIn_eq_forIn_range', Std.Legacy.Range.size, Nat.sub_zero, Nat.add_one_sub_one, Nat.div_one]
    have := ckItems_ints (d := dd) (b := b) h xs w (List.range' 0 k) (fun i hi => by
      rw [List.mem_range'_1] at hi
      rw [h1, ← Nat.succ_mul]
      exact Nat.mul_le_mul_right _ (by omega))
    simp at this ⊢
    rw [this]
    rfl

theorem eqFields_ints {n d : Nat} (xs ys : List Int) (w : World) {L : List Field} {off tot : Nat} (hL : FieldsI P n L off tot) (h1 : xs.length = tot) (h2 : ys.length = tot) :
    off ≤ tot ∧ (Op.eqFields (d + n) (xs.map fun n => Value.int .i64 n).toArray (ys.map fun n => Value.int .i64 n).toArray L).run P w = .ok (xs.drop off == ys.drop off) w := by
  induction hL with
  | nil off =>
    refine ⟨Nat.le_refl _, ?_⟩
    have e1 : xs.drop off = [] := List.drop_eq_nil_of_le (by omega)
    have e2 : ys.drop off = [] := List.drop_eq_nil_of_le (by omega)
    simp [Op.eqFields, e1, e2]
  | cons f L c ag tot hn he hL ih =>
    obtain ⟨hle, ih⟩ := ih h1 h2
    refine ⟨by omega, ?_⟩
    have p1 := he.part xs f.offset w (by omega)
    have p2 := he.part ys f.offset w (by omega)
    have p3 := he.eq d w ((xs.drop f.offset).take c) ((ys.drop f.offset).take c) (by simp; omega) (by simp; omega)
    rw [beq_drop (c := c) (by omega) (by omega)]
    simp only [Op.eqFields, hn, ne_eq, not_false_eq_true, if_true, Sem.run_bind, p1, p2, p3, Result.andThen_ok]
    cases hh : ((xs.drop f.offset).take c == (ys.drop f.offset).take c) with
    | false => simp
    | true =>
      simp only [Bool.not_true, Bool.false_eq_true, if_false, Bool.true_and]
      exact ih

theorem ckFields_ints {n d : Nat} {b : Bool} (xs : List Int) (w : World) {L : List Field} {off tot : Nat} (hL : FieldsI P n L off tot) (h1 : xs.length = tot) :
    off ≤ tot ∧ (forIn (m := Sem) L PUnit.unit fun (f : Field) (_ : PUnit) => if f.name ≠ "_" then do Instr.checkKey b (d + n) f.type (← part f.type (xs.map fun n => Value.int .i64 n).toArray f.offset); pure (ForInStep.yield PUnit.unit) else pure (ForInStep.yield PUnit.unit)).run P w = .ok PUnit.unit w := by
  induction hL with
  | nil off => exact ⟨Nat.le_refl _, by simp⟩
  | cons f L c ag tot hn he hL ih =>
    obtain ⟨hle, ih⟩ := ih h1
    refine ⟨by omega, ?_⟩
    have p1 := he.part xs f.offset w (by omega)
    have p2 := he.ck d b w ((xs.drop f.offset).take c) (by simp; omega)
    simp only [List.forIn_cons, Sem.run_bind, hn, ne_eq, not_false_eq_true, if_true, Result.andThen_ok, p1, p2, Sem.run_pure]
    exact ih

theorem EqI.struct {t n tot : Nat} {d : TD} {fs : Array Field} (hd : Facts P t d) (hdesc : d.desc = .struct fs) (hsz : d.sz = tot) (hp : P.stoodInHeld t = false) (hL : FieldsI P n fs.toList 0 tot) : EqI P t tot true (n + 1) := by
  have hu : P.underlying t = some (.struct fs) := hdesc ▸ hd.u
  have hf : P.fieldsOf t = fs := by simp [Program.fieldsOf, hu]
  refine ⟨fun w => hsz ▸ hd.sizeOf w, fun h => (by cases h), fun xs off w hle => hsz ▸ part_agg hd (by simp [TD.isAgg, hdesc]) xs off w, fun dd w xs ys h1 h2 => ?_, fun dd b w xs h1 => ?_⟩
  · show (Op.equalIn ((dd + n) + 1) t (.agg _) (.agg _)).run P w = _
    rw [run_equalIn_struct w (dd + n) t _ _ (by rw [hf]; exact hu) hp, hf]
    exact (eqFields_ints (d := dd) xs ys w hL h1 h2).2
  · show (Instr.checkKey b ((dd + n) + 1) t (.agg _)).run P w = _
    rw [Instr.checkKey]
    simp only [Sem.run_bind, run_underlying hu, Result.andThen_ok]
    rw [← Array.forIn_toList]
    have := (ckFields_ints (d := dd) (b := b) xs w hL h1).2
    simp at this ⊢
    rw [this]
    rfl

theorem EqI.ok {t c n : Nat} (h : EqI P t c true n) (hn : n ≤ 10000) (hg : P.eqGuardType P.depth t = false) (hc : P.cellsOf t = c) : EqOK P t := by
  refine ⟨hg, .inr ⟨fun xs ys w h1 h2 => ?_, fun b xs w h1 => ?_⟩⟩
  · have := h.eq (10000 - n) w xs ys (hc ▸ h1) (hc ▸ h2)
    rw [Nat.sub_add_cancel hn] at this
    exact this
  · have := h.ck (10000 - n) b w xs (hc ▸ h1)
    rw [Nat.sub_add_cancel hn] at this
    exact this
end
end E
end Go.Proofs.YtjhognibibmeiaaGreatDoor
