/-
  WHAT IS PROVED: FactorAbsent: for every group, list of atoms and index: where the program says that the group makes the index absent, the exact wave that it reckons is nought; where it reports an error, the wave is the empty one; what was handed in reads as before. No condition.
-/
import Derived.Test.YtjhognibibmeiaaAe
set_option linter.unusedVariables false
set_option maxRecDepth 100000
set_option maxHeartbeats 4000000
namespace Go.Proofs.Ytjhognibibmeiaa
namespace E
open Go Go.RowKit Go.ChangeShapes Go.WideShapes Go.ChangeAt

section
variable {H : Type} {enc : TypeId × Value → H} {w : World} {base : Nat} {sp : Nat → Bool} {held : Bool}
theorem it3 : IT enc PR w base sp held 3 := IT.int Try.underlying3 (by kernel_rfl)
theorem it24 : IT enc PR w base sp held 24 := IT.array Try.underlying24 (k := 1) (by kernel_rfl) (by kernel_rfl) (by decide) it3
theorem it25 : IT enc PR w base sp held 25 := IT.array Try.underlying25 (k := 1) (by kernel_rfl) (by kernel_rfl) (by decide) it3
theorem it51 : IT enc PR w base sp held 51 := IT.array Try.underlying51 (k := 3) (by kernel_rfl) (by kernel_rfl) (by decide) it24
theorem c3 : PR.cellsOf 3 = 1 := by kernel_rfl
theorem c25 : PR.cellsOf 25 = 3 := by kernel_rfl
theorem c51 : PR.cellsOf 51 = 9 := by kernel_rfl
theorem c42 : PR.cellsOf 42 = 4 := by kernel_rfl
theorem c44 : PR.cellsOf 44 = 6 := by kernel_rfl
theorem c53 : PR.cellsOf 53 = 12 := by kernel_rfl
theorem it53 : IT enc PR w base sp held 53 := by
  refine IT.struct Try.underlying53 c53 (fun j hj => ?_) (fun i f hf => ?_)
  · rcases Nat.lt_or_ge j 9 with h | h
    · exact ⟨0, _, rfl, Nat.zero_le _, by show j < 0 + PR.cellsOf 51; rw [c51]; omega⟩
    · exact ⟨1, _, rfl, h, by show j < 9 + PR.cellsOf 25; rw [c25]; omega⟩
  · match i, hf with
    | 0, hf => cases hf; exact it51
    | 1, hf => cases hf; exact it25
theorem it42 : IT enc PR w base sp held 42 := by
  refine IT.struct Try.underlying42 c42 (fun j hj => ?_) (fun i f hf => ?_)
  · rcases Nat.lt_or_ge j 1 with h | h
    · exact ⟨0, _, rfl, Nat.zero_le _, by show j < 0 + PR.cellsOf 3; rw [c3]; omega⟩
    · exact ⟨1, _, rfl, h, by show j < 1 + PR.cellsOf 25; rw [c25]; omega⟩
  · match i, hf with
    | 0, hf => cases hf; exact it3
    | 1, hf => cases hf; exact it25
theorem it44 : IT enc PR w base sp held 44 := by
  refine IT.struct Try.underlying44 c44 (fun j hj => ?_) (fun i f hf => ?_)
  · rcases Nat.lt_or_ge j 4 with h | h
    · exact ⟨0, _, rfl, Nat.zero_le _, by show j < 0 + PR.cellsOf 42; rw [c42]; omega⟩
    · rcases Nat.lt_or_ge j 5 with h2 | h2
      · exact ⟨1, _, rfl, h, by show j < 4 + PR.cellsOf 3; rw [c3]; omega⟩
      · exact ⟨2, _, rfl, h2, by show j < 5 + PR.cellsOf 3; rw [c3]; omega⟩
  · match i, hf with
    | 0, hf => cases hf; exact it42
    | 1, hf => cases hf; exact it3
    | 2, hf => cases hf; exact it3
end

/-- A column handed in. -/
theorem vec_open {H : Type} {enc : TypeId × Value → H} {W : World} {base : Nat} {v : Value} {d : DataW H} {p : List MemPlace} (hv : Value.okWide PR W .any base 25 v) (h : DataW.Trod enc PR W 0 (fun _ => true) true 25 v d p) :
    ∃ x : V, RRel (fun b => b < W.heap.size) W (.agg (eV x)) v := by
  unfold Value.okWide at hv
  rw [Try.underlying25] at hv
  obtain ⟨cs, rfl, _, _⟩ := hv
  obtain ⟨fuel, hf⟩ := h
  obtain ⟨h1, h2, _⟩ := it25 _ _ _ hf
  rw [c25] at h1
  obtain ⟨ns, hns⟩ := all_ints h2
  have hl : ns.length = 3 := by rw [hns] at h1; simpa using h1
  match ns, hl with
  | [a, b, c], _ =>
    have hcs : cs = [Value.int .i64 a, Value.int .i64 b, Value.int .i64 c].toArray := by
      have h3 : cs.toList = [Value.int .i64 a, Value.int .i64 b, Value.int .i64 c] := hns
      rw [← h3]
    rw [hcs]
    refine ⟨⟨a, b, c⟩, .agg _ _ rfl fun i c x hc hx => ?_⟩
    match i, hc, hx with
    | 0, hc, hx => cases hc; cases hx; exact .v _
    | 1, hc, hx => cases hc; cases hx; exact .v _
    | 2, hc, hx => cases hc; cases hx; exact .v _
    | i + 3, hc, hx => cases hc

theorem own0 : ownKnob PR.godebug = none := by kernel_rfl
theorem laidOut0 : laidOutB PR = true := by kernel_rfl

theorem factor_run {W : World} {g : List O} {l : List Atm} {h : V} {v0 v1 v2 : Value} (hlen : l.length ≤ 4611686018427387904)
    (h0 : RRel (fun b => b < W.heap.size) W (.rd (eOs g)) v0) (h1 : RRel (fun b => b < W.heap.size) W (.rd (eAs l)) v1) (h2 : RRel (fun b => b < W.heap.size) W (.agg (eV h)) v2) :
    Calls PR 3 #[v0, v1, v2] W fun e W' => e = .returned (.bool true) ∧ Below W.heap.size W W' := by
  have hrun := s3a [.rd (eOs g), .rd (eAs l), .agg (eV h)] (fun r => r = Bo true) ⟨(g, l, h), rfl, hlen, rfl⟩ (fun b => b < W.heap.size) [v0, v1, v2] W (fun b hb => hb) (fun _ _ hg => by cases hg)
    ⟨rfl, fun i a x ha hx => by
      match i, ha, hx with
      | 0, ha, hx => cases ha; cases hx; exact h0
      | 1, ha, hx => cases ha; cases hx; exact h1
      | 2, ha, hx => cases ha; cases hx; exact h2
      | i + 3, ha, hx => cases ha⟩
  rcases hrun with ⟨_, h⟩ | ⟨v, w', hv, _⟩
  · refine h.mono ?_
    rintro e w' ⟨v, rfl, r, rfl, hr, hb, _⟩
    cases hr
    exact ⟨rfl, hb⟩
  · exfalso
    rw [enters_of Try.func3 (by kernel_rfl) rfl _ _] at hv
    cases hv

theorem contract (H : Type) (enc : TypeId × Value → H) (W : World) (base : Nat) (args : Array Value) (ds gs : List (DataW H)) (before : List MemPlace)
    (hval : ∀ (j : Nat) t v, Try.f3.params[j]? = some t → args[j]? = some v → Value.okWide PR W .any base t v)
    (hW : DataW.Whole enc PR Try.f3.params.toList Rows.factorAbsentSpec.vars false W args.toList ds gs before)
    (hsz : (DataW.weightsEach PR (Try.f3.params.toList ++ Rows.factorAbsentSpec.plain.varTypes PR) (ds ++ gs)).all (· ≤ reachBytes) = true) :
    Calls PR 3 args W fun e W' => ∃ v, e = .returned v ∧ Rows.factorAbsentSpec.post enc PR Try.f3 false true false false W args v W' := by
  have hW' := hW
  obtain ⟨p, q, hA0, hV, rfl, hfz, hnd⟩ := hW
  have hA : DataW.TrodAll enc PR W 0 (fun _ => true) true Try.f3.params.toList args.toList ds p := hA0
  rw [Try.params3] at hA hval hsz
  obtain ⟨v0, v1, v2, d0, d1, d2, p0, p1, p2, rfl, rfl, rfl, t0, t1, t2⟩ := trodAll_three hA
  obtain ⟨rfl, rfl⟩ := trodVars_none hV
  obtain ⟨a0, n0, k0, rfl⟩ := okWide_slice Try.underlying22 (hval 0 22 v0 rfl rfl)
  obtain ⟨a1, n1, k1, rfl⟩ := okWide_slice Try.underlying23 (hval 1 23 v1 rfl rfl)
  obtain ⟨rows0, r0, l0, _⟩ := rd_slice (enc := enc) (held := true) Try.underlying22 c53 (by decide) it53 t0
  obtain ⟨rows1, r1, l1, hd1⟩ := rd_slice (enc := enc) (held := true) Try.underlying23 c44 (by decide) it44 t1
  obtain ⟨g, hg, _⟩ := rows_ops l0
  obtain ⟨l, hl, hll⟩ := rows_atoms l1
  obtain ⟨h, r2⟩ := vec_open (hval 2 25 v2 rfl rfl) t2
  have hlen : l.length ≤ 4611686018427387904 := by
    rcases hd1 with rfl | ⟨el, spr, rfl, he⟩
    · rw [hll]; exact Nat.zero_le _
    · have hb := sized_slice hsz (j := 1) (t := 23) (elems := el) (spare := spr) rfl rfl Try.underlying23
      have hby : PR.bytesOf 44 = 48 := by kernel_rfl
      rw [hby] at hb
      unfold reachBytes at hb
      omega
  rw [← hg] at r0
  rw [← hl] at r1
  refine (factor_run hlen r0 r1 r2).mono fun e W' ⟨he, hb⟩ => ?_
  subst he
  have hlt : ∀ x ∈ p0 ++ p1 ++ p2, x.block < W.heap.size := fun x hx => hW'.lt x (by simpa using hx)
  have m0 : ∀ x ∈ p0, x ∈ p0 ++ p1 ++ p2 := fun x hx => by simp [hx]
  have m1 : ∀ x ∈ p1, x ∈ p0 ++ p1 ++ p2 := fun x hx => by simp [hx]
  have m2 : ∀ x ∈ p2, x ∈ p0 ++ p1 ++ p2 := fun x hx => by simp [hx]
  have e0 : DataW.Trod enc PR W' 0 (fun b => decide (b < W.heap.size)) true 22 (.slice a0 n0 k0) d0 p0 := Below.trod laidOut0 (by kernel_rfl) (of_decide_eq_true (by kernel_rfl)) t0 hb fun x hx => hlt x (m0 x hx)
  have e1 : DataW.Trod enc PR W' 0 (fun b => decide (b < W.heap.size)) true 23 (.slice a1 n1 k1) d1 p1 := Below.trod laidOut0 (by kernel_rfl) (of_decide_eq_true (by kernel_rfl)) t1 hb fun x hx => hlt x (m1 x hx)
  have e2 : DataW.Trod enc PR W' 0 (fun b => decide (b < W.heap.size)) true 25 v2 d2 p2 := Below.trod laidOut0 (by kernel_rfl) (of_decide_eq_true (by kernel_rfl)) t2 hb fun x hx => hlt x (m2 x hx)
  exact ⟨_, rfl, [d0, d1, d2], [], _, [], _, [], hW', trodAll_mk1 (shut_bool Try.underlying4 _), trodAll_mk3 e0 e1 e2, rfl, hb.frame _, fun h => by cases h⟩

theorem lifted (os : Os) (started : os.Started) (H : Type) (enc : TypeId × Value → H) :
    ReturnsInHanded {} Try.checked os 3 .any (Rows.factorAbsentSpec.pre6 enc PR Try.f3 Rows.factorAbsentRow.domain false) (Rows.factorAbsentSpec.post enc PR Try.f3 false true false false) := by
  refine returnsInHanded_of_change_sized (C := Try.checked) (s := Rows.factorAbsentSpec) own0 started (by kernel_rfl) Try.func3
    (ChangeSpec.witness6 (enc := enc) (C := Try.checked) (s := Rows.factorAbsentSpec) false ⟨#[], #[.slice none 0 0, .slice none 0 0, .agg #[.int .i64 0, .int .i64 0, .int .i64 0]], []⟩ 8 (by kernel_rfl) (by kernel_rfl) (by kernel_rfl) (by kernel_rfl)) ?_
  intro W base args ds gs before hval hW _ hsz _
  exact contract H enc W base args ds gs before hval hW hsz
end E

theorem factorAbsent : Rows.FactorAbsentSaid :=
  OpenClaim.holds_of_wide 3 Try.f3 rfl rfl rfl rfl rfl rfl rfl ⟨rfl, rfl, rfl, rfl, rfl⟩ rfl rfl rfl rfl rfl (by kernel_rfl) Try.func3 (by kernel_rfl)
    (of_decide_eq_true (by kernel_rfl)) (by unfold Func.isWrapper; first | (rw [if_pos (by decide +kernel)]; kernel_rfl) | (rw [if_neg (by decide +kernel)]; exact ⟨rfl, rfl⟩))
    (fun os started H enc _ => E.lifted os started H enc)
#print axioms factorAbsent
end Go.Proofs.Ytjhognibibmeiaa
