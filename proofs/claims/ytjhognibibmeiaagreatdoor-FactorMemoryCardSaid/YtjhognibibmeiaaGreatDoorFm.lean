/-
  WHAT IS PROVED: FactorMemory: for every group, list of atoms and list of indices: All, Exact and Whole leave what was handed in as it was, spare room too, they do not keep it, and their answers are new memory; the answers are the document's; what was handed in to the law reads as before. Its conditions: the package variable facetref17.quarter holds what the program's text lays (the card ties that).
-/
import Derived.Test.YtjhognibibmeiaaGreatDoorGd
set_option linter.unusedVariables false
set_option maxRecDepth 100000
set_option maxHeartbeats 4000000
namespace Go.Proofs.YtjhognibibmeiaaGreatDoor
namespace E
open Go Go.RowKit Go.ChangeShapes Go.WideShapes Go.ChangeAt

theorem memory_run {W : World} {g : List O} {l : List Atm} {hs : List V} {v0 v1 v2 : Value} (hG : GlR GL (fun b => b < W.heap.size) W) (hlen0 : g.length * 96 ≤ 140737488351232) (hlen : l.length * 48 ≤ 140737488351232) (hlen2 : hs.length * 24 ≤ 140737488351232)
    (h0 : RRel (fun b => b < W.heap.size) W (.rd (eOs g)) v0) (h1 : RRel (fun b => b < W.heap.size) W (.rd (eAs l)) v1) (h2 : RRel (fun b => b < W.heap.size) W (.rd (eVs hs)) v2) :
    Calls PR 5 #[v0, v1, v2] W fun e W' => e = .returned (.bool true) ∧ Below W.heap.size W W' := by
  have hrun := sL5 [.rd (eOs g), .rd (eAs l), .rd (eVs hs)] (fun r => r = Bo true) ⟨(g, l, hs), rfl, ⟨hlen0, hlen, hlen2⟩, rfl⟩ (fun b => b < W.heap.size) [v0, v1, v2] W (fun b hb => hb) hG
    ⟨rfl, fun i a x ha hx => by
      match i, ha, hx with
      | 0, ha, hx => cases ha; cases hx; exact h0
      | 1, ha, hx => cases ha; cases hx; exact h1
      | 2, ha, hx => cases ha; cases hx; exact h2
      | i + 3, ha, hx => cases ha⟩
  rcases hrun with ⟨_, h⟩ | ⟨v, w', hv, _⟩
  · refine h.mono ?_
    rintro e w' ⟨v, rfl, r, rfl, hr, hb, _⟩
    cases hr
    exact ⟨rfl, hb⟩
  · exfalso
    rw [enters_of Tryz.func5 (by kernel_rfl) rfl _ _] at hv
    cases hv

theorem contract (H : Type) (enc : TypeId × Value → H) (W : World) (base : Nat) (args : Array Value) (ds gs : List (DataW H)) (before : List MemPlace)
    (hval : ∀ (j : Nat) t v, Tryz.f5.params[j]? = some t → args[j]? = some v → Value.okWide PR W .any base t v)
    (hW : DataW.Whole enc PR Tryz.f5.params.toList Rows.factorMemorySpec.vars false W args.toList ds gs before)
    (hsz : (DataW.weightsEach PR (Tryz.f5.params.toList ++ Rows.factorMemorySpec.plain.varTypes PR) (ds ++ gs)).all (· ≤ reachBytes) = true)
    (hL : laidMetH PR Rows.factorMemoryRow.laid W) :
    Calls PR 5 args W fun e W' => ∃ v, e = .returned v ∧ Rows.factorMemorySpec.post enc PR Tryz.f5 false true false false W args v W' := by
  have hG : GlR GL (fun b => b < W.heap.size) W := gR_of rfl hL
  have hW' := hW
  obtain ⟨p, q, hA0, hV, rfl, hfz, hnd⟩ := hW
  have hA : DataW.TrodAll enc PR W 0 (fun _ => true) true Tryz.f5.params.toList args.toList ds p := hA0
  rw [Tryz.params5] at hA hval hsz
  obtain ⟨v0, v1, v2, d0, d1, d2, p0, p1, p2, rfl, rfl, rfl, t0, t1, t2⟩ := trodAll_three hA
  obtain ⟨rfl, rfl⟩ := trodVars_none hV
  obtain ⟨a0, n0, k0, rfl⟩ := okWide_slice Tryz.underlying22 (hval 0 22 v0 rfl rfl)
  obtain ⟨a1, n1, k1, rfl⟩ := okWide_slice Tryz.underlying23 (hval 1 23 v1 rfl rfl)
  obtain ⟨a2, n2, k2, rfl⟩ := okWide_slice Tryz.underlying41 (hval 2 41 v2 rfl rfl)
  obtain ⟨rows0, r0, l0, hd0⟩ := rd_slice (enc := enc) (held := true) Tryz.underlying22 c58 (by decide) it58 t0
  obtain ⟨rows1, r1, l1, hd1⟩ := rd_slice (enc := enc) (held := true) Tryz.underlying23 c60 (by decide) it60 t1
  obtain ⟨g, hg, hgl⟩ := rows_ops l0
  have hlen0 : g.length * 96 ≤ 140737488351232 := by
    rcases hd0 with rfl | ⟨el, spr, rfl, he⟩
    · rw [hgl]; simp
    · have hb := sized_slice hsz (j := 0) (t := 22) (elems := el) (spare := spr) rfl rfl Tryz.underlying22
      have hby : PR.bytesOf 58 = 96 := by kernel_rfl
      rw [hby] at hb
      unfold reachBytes at hb
      omega
  obtain ⟨l, hl, hll⟩ := rows_atoms l1
  obtain ⟨rows2, r2, l2, hd2⟩ := rd_slice (enc := enc) (held := true) Tryz.underlying41 c25 (by decide) it25 t2
  obtain ⟨hs, hhs, hhl⟩ := rows_vecs l2
  have hlen2 : hs.length * 24 ≤ 140737488351232 := by
    rcases hd2 with rfl | ⟨el, spr, rfl, he⟩
    · rw [hhl]; simp
    · have hb := sized_slice hsz (j := 2) (t := 41) (elems := el) (spare := spr) rfl rfl Tryz.underlying41
      have hby : PR.bytesOf 25 = 24 := by kernel_rfl
      rw [hby] at hb
      unfold reachBytes at hb
      omega
  have hlen : l.length * 48 ≤ 140737488351232 := by
    rcases hd1 with rfl | ⟨el, spr, rfl, he⟩
    · rw [hll]; simp
    · have hb := sized_slice hsz (j := 1) (t := 23) (elems := el) (spare := spr) rfl rfl Tryz.underlying23
      have hby : PR.bytesOf 60 = 48 := by kernel_rfl
      rw [hby] at hb
      unfold reachBytes at hb
      omega
  rw [← hg] at r0
  rw [← hl] at r1
  rw [← hhs] at r2
  refine (memory_run hG hlen0 hlen hlen2 r0 r1 r2).mono fun e W' ⟨he, hb⟩ => ?_
  subst he
  have hlt := fun x hx => hW'.lt x hx
  have e0 : DataW.Trod enc PR W' 0 (fun b => decide (b < W.heap.size)) true 22 (.slice a0 n0 k0) d0 p0 := Below.trod laidOut0 (by kernel_rfl) (of_decide_eq_true (by kernel_rfl)) t0 hb fun x hx => hlt x (by simp [hx])
  have e1 : DataW.Trod enc PR W' 0 (fun b => decide (b < W.heap.size)) true 23 (.slice a1 n1 k1) d1 p1 := Below.trod laidOut0 (by kernel_rfl) (of_decide_eq_true (by kernel_rfl)) t1 hb fun x hx => hlt x (by simp [hx])
  have e2 : DataW.Trod enc PR W' 0 (fun b => decide (b < W.heap.size)) true 41 (.slice a2 n2 k2) d2 p2 := Below.trod laidOut0 (by kernel_rfl) (of_decide_eq_true (by kernel_rfl)) t2 hb fun x hx => hlt x (by simp [hx])
  exact ⟨_, rfl, [d0, d1, d2], [], _, [], _, [], hW', trodAll_mk1 (shut_bool Tryz.underlying4 _), trodAll_mk3 e0 e1 e2, rfl, hb.frame _, fun h => by cases h⟩

/-- A world for the witness: the settled one, the variable holding what its initialiser lays. -/
noncomputable def laidWorld (os : Os) : World :=
  { World.holding PR os ⟨#[], #[], []⟩ with heap := (World.holding PR os ⟨#[], #[], []⟩).heap.modify 1 fun
      | .cells _ t frozen => .cells gl1.toArray t frozen
      | o => o }
noncomputable def wArgs : Array Value := #[.slice none 0 0, .slice none 0 0, .slice none 0 0]
theorem laid_met (os : Os) : laidMet PR Rows.factorMemoryRow.laid ((laidWorld os).forCall (fun _ _ => 0) ⟨#[], wArgs, []⟩).memory :=
  laidMet_of_run' 8 (by kernel_rfl) (by kernel_rfl)
theorem reads (os : Os) {H : Type} (enc : TypeId × Value → H) : ∃ places, DataW.whole enc PR ((laidWorld os).forCall (fun _ _ => 0) ⟨#[], wArgs, []⟩).memory Tryz.f5.params.toList Rows.factorMemorySpec.vars false wArgs.toList 8 = some ([.nil, .nil, .nil], [], places) :=
  ⟨[], by kernel_rfl⟩

theorem lifted (os : Os) (started : os.Started) (H : Type) (enc : TypeId × Value → H) (F : Stop.Interp) :
    ReturnsInHanded {} Tryz.checked os 5 .any ((OpenSpec.ofChange Rows.factorMemorySpec).preRow enc PR Tryz.f5 Rows.factorMemoryRow.domain false Rows.factorMemoryRow.laid) (((OpenSpec.ofChange Rows.factorMemorySpec).at F).post enc PR Tryz.f5 false true false false) := by
  obtain ⟨places, hx⟩ := reads os enc
  refine returnsInHanded_of_row (C := Tryz.checked) (s := OpenSpec.ofChange Rows.factorMemorySpec) own0 started (by kernel_rfl) Tryz.func5
    (witness_row_at (enc := enc) (C := Tryz.checked) false (laidWorld os) wArgs rfl (by kernel_rfl) (by kernel_rfl) (by kernel_rfl)
      (OpenSpec.preRow_of_cond 8 hx (by kernel_rfl) (fun k hk => by cases hk) (by kernel_rfl) (laid_met os))) ?_
  intro W base args ds gs before hval hW _ _ hsz hL _ _
  exact contract H enc W base args ds gs before hval hW hsz hL
theorem said : Rows.FactorMemorySaid :=
  OpenClaim.holds_of_cond 5 Tryz.f5 rfl rfl rfl rfl rfl rfl rfl ⟨rfl, rfl, rfl, rfl, rfl⟩ rfl rfl rfl rfl rfl (by kernel_rfl) Tryz.func5 (by kernel_rfl)
    (of_decide_eq_true (by kernel_rfl)) (by unfold Func.isWrapper; first | (rw [if_pos (by decide +kernel)]; kernel_rfl) | (rw [if_neg (by decide +kernel)]; exact ⟨rfl, rfl⟩))
    (fun os started H enc _ F => by rw [OpenClaim.pre_eq_preRow]; exact lifted os started H enc F)
theorem plain (f : FuncId) (fn : Func) (hf : Tryz.pinned.checked.prog.funcNamed "facet/facetlaw18.FactorMemory" = some f) (hfn : Tryz.pinned.checked.prog.funcs[f]? = some fn) :
    false = Tryz.pinned.checked.prog.looks [] ∧ ∀ (j : Nat) t, fn.params[j]? = some t → Tryz.pinned.checked.prog.wantsStandIn t = false := by
  obtain rfl : f = 5 := Option.some.inj ((show PR.funcNamed "facet/facetlaw18.FactorMemory" = some 5 by kernel_rfl).symm.trans hf) |>.symm
  obtain rfl : fn = Tryz.f5 := (Option.some.inj (Tryz.func5.symm.trans hfn)).symm
  refine ⟨by kernel_rfl, fun j t ht => ?_⟩
  rw [Tryz.params5] at ht
  have hm : t ∈ [22, 23, 41] := by simpa using Array.mem_of_getElem? ht
  have hall : ([22, 23, 41].all fun u => !PR.wantsStandIn u) = true := by kernel_rfl
  exact (show PR.wantsStandIn t = false by simpa using List.all_eq_true.1 hall t hm)
end E

theorem factorMemory : Rows.FactorMemoryCardSaid :=
  Claim7.holds_tied_plain_at .later [] _ _ _ _ E.said (fun _ h => by cases h) (by kernel_rfl) (fun _ h => by cases h) factorMemory_row_tie rfl ⟨rfl, rfl⟩ (by kernel_rfl) rfl E.plain (by kernel_rfl)
#print axioms factorMemory
end Go.Proofs.YtjhognibibmeiaaGreatDoor
