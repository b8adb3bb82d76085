/-
  THE FUNCTIONS, fifteenth part: the sort of places.
-/
import Derived.Test.YtjhognibibmeiaaGreatDoorHn
set_option linter.unusedVariables false
set_option maxRecDepth 100000
set_option maxHeartbeats 4000000
namespace Go.Proofs.YtjhognibibmeiaaGreatDoor
namespace E
open Go Go.RowKit Go.Sort

theorem enc4_get {m : Int} {v : VR m} {j : Nat} (h : j < 4) : (ePt ⟨m, v.1⟩)[j]? = some (.v (enc4 m v)[j]!) ∧ ((enc4 m v)[j]!).oneCell' = true := by
  match j, h with
  | 0, _ => exact ⟨rfl, rfl⟩
  | 1, _ => exact ⟨rfl, rfl⟩
  | 2, _ => exact ⟨rfl, rfl⟩
  | 3, _ => exact ⟨rfl, rfl⟩

theorem s55 : CallOK PR GL 77 S55 := by
  intro args h K hk G vals w hh hg hr
  obtain ⟨m, l, id, cap, h4, hl, hlen, rfl, ⟨ex, hid⟩, hk⟩ := hk
  obtain ⟨v1, v2, rfl, r1, r2⟩ : ∃ v1 v2, vals = [v1, v2] ∧ Rel G w (.sl id 0 l.length cap) v1 ∧ Rel G w (.clo 78 []) v2 := by
    match vals, hr with
    | [v, u], hr => exact ⟨v, u, rfl, hr.2 0 _ _ rfl rfl, hr.2 1 _ _ rfl rfl⟩
    | [], hr => have := hr.1; simp at this
    | [_], hr => have := hr.1; simp at this
    | _ :: _ :: _ :: _, hr => have := hr.1; simp at this
  obtain ⟨hidn, cp, rfl, hle, hcp, _⟩ := rel_sl r1
  obtain ⟨us, rfl, hus⟩ := rel_clo r2
  obtain rfl : us = [] := by
    have := hus.1
    cases us with
    | nil => rfl
    | cons _ _ => simp at this
  obtain ⟨ho, hρsz, hpos, hlen', hex, hmax, cur, e, hcur, hcs, hes, hat⟩ := hh.blk id _ hid
  have hm := h4.pos
  let _ : Inhabited (VR m) := ⟨⟨⟨0, 0, 0⟩, ⟨by simp, by simp; omega, by simp, by simp; omega, by simp, by simp; omega⟩⟩⟩
  generalize hL : l.attach.map (fun v => (⟨v.1, hl v.1 v.2⟩ : VR m)) = L
  have hLl : L.map Subtype.val = l := by rw [← hL]; simp
  have hLn : L.length = l.length := by rw [← hLl]; simp
  have hblk : (G.ρ id).b < w.heap.size := hh.own _ ho
  have hget : ∀ t, t < L.length * 4 → cur[t]? = some ((enc4 m L.toArray[t / 4]!)[t % 4]!) := by
    intro t ht
    have hi : t / 4 < L.length := by omega
    have e1 : L.toArray[t / 4]! = L[t / 4] := by rw [getElem!_pos L.toArray (t / 4) (by simpa using hi)]; simp
    have e2 : l[t / 4]? = some (L[t / 4]).1 := by rw [← hLl]; simp [hi]
    have e3 : (l.map fun v => ePt ⟨m, v⟩)[t / 4]? = some (ePt ⟨m, (L[t / 4]).1⟩) := by rw [List.getElem?_map, e2]; rfl
    obtain ⟨e4, _⟩ := enc4_get (m := m) (v := L[t / 4]) (j := t % 4) (by omega)
    obtain ⟨x, h1, _, h3⟩ := hat _ _ _ _ e3 e4
    have : t / 4 * 4 + t % 4 = t := by omega
    rw [this] at h1
    cases h3
    rw [h1, e1]
  have hH : HoldsK (enc4 m) 4 w (G.ρ id).b 0 L.toArray := by
    intro t ht
    have ht' : t < L.length * 4 := by simpa using ht
    rw [get_flatK _ _ _ _ (by simpa using ht'), Nat.zero_add]
    constructor
    · unfold World.cell?
      rw [hcur]
      exact hget t ht'
    · unfold World.frozen?
      rw [hcur]
      simp
  have hsort := AnyQ.slices_SortFunc_total Tryz.sortPt 4 Tryz.isAgg27 Tryz.sizeOf27 (enc4 m) (fun _ => rfl) (fun x v hv => by
      simp only [enc4, List.mem_cons, List.not_mem_nil, or_false] at hv
      rcases hv with rfl | rfl | rfl | rfl <;> rfl) (cf4 m) (swo4 m) 78 #[] (G.ρ id).b 0 cp L.toArray w
    (enters_of Tryz.func78 (by kernel_rfl) rfl) (cmp56 h4 hh hg ho _) hH hblk (by simp [hLn]; omega)
    (fun x y h1 h2 => Subtype.ext (cmpV_tot (of_decide_eq_false h1) (of_decide_eq_false h2)))
  have hS : (L.mergeSort fun x y => !(ltOf (cf4 m)) y x).map Subtype.val = sortV l := by
    unfold sortV
    rw [List.map_mergeSort (r := fun x y : VR m => !(ltOf (cf4 m)) y x) (f := Subtype.val) (s := fun a b => !decide (cmpV b a 0 < 0)) (fun a _ b _ => rfl), hLl]
  generalize hM : (L.mergeSort fun x y => !(ltOf (cf4 m)) y x) = M at hsort hS
  have hMn : M.length = L.length := by rw [← hM]; simp
  have hz : 0 * (G.ρ id).sz = 0 := Nat.zero_mul _
  rw [hz]
  refine .inl ⟨enters_of Tryz.func77 (by kernel_rfl) rfl _ _, ?_⟩
  have hsz : L.toArray.size = l.length := by simp [hLn]
  rw [← hsz]
  refine hsort.mono ?_
  rintro ev w' ⟨rfl, n, os, rfl⟩
  refine ⟨_, rfl, .tup [], _, G, hk, ?_⟩
  have hw1 : Wrote w (putRowK (enc4 m) 4 (Sort.ahead w n) (G.ρ id).b 0 M.toArray) (G.ρ id).b :=
    ⟨rfl, rfl, rfl, Nat.le_add_right _ _, by show (w.heap.modify _ _).size = _; simp, fun k hk => by
      show (w.heap.modify _ _)[k]? = _
      rw [Array.getElem?_modify, if_neg (Ne.symm hk)]⟩
  have hcur1 : (putRowK (enc4 m) 4 (Sort.ahead w n) (G.ρ id).b 0 M.toArray).heap[(G.ρ id).b]? = some (.cells (putCells _root_.id 0 (flatK (enc4 m) 4 M.toArray) cur) e (0, 0)) := by
    show (w.heap.modify _ _)[(G.ρ id).b]? = _
    rw [Array.getElem?_modify, if_pos rfl, hcur]
    rfl
  have hH1 := holdsK_putRowK (enc4 m) 4 (Sort.ahead w n) (G.ρ id).b 0 L.toArray M.toArray hH (by simp [hMn])
  have hb1 : BRel G (putRowK (enc4 m) 4 (Sort.ahead w n) (G.ρ id).b 0 M.toArray) id (.row 4 false ((sortV l).map fun v => ePt ⟨m, v⟩)) := by
    refine ⟨ho, hρsz, hpos, ?_, by simp, hmax, _, e, hcur1, ?_, fun i e' he => ?_, fun i j e' c he hc => ?_⟩
    · rw [← hS]
      simp only [List.length_map] at hlen' ⊢
      rw [hMn, hLn]; exact hlen'
    · rw [← hcs]; simp [putCells]
    · rw [List.getElem?_map] at he
      cases h5 : (sortV l)[i]? with
      | none => rw [h5] at he; cases he
      | some v => rw [h5] at he; injection he with he; subst he; rfl
    · rw [← hS, List.map_map, List.getElem?_map] at he
      cases h5 : M[i]? with
      | none => rw [h5] at he; cases he
      | some v =>
        rw [h5] at he; injection he with he; subst he
        have hi : i < M.length := (List.getElem?_eq_some_iff.1 h5).1
        have hj : j < 4 := (List.getElem?_eq_some_iff.1 hc).1
        obtain ⟨e4, e5⟩ := enc4_get (m := m) (v := v) hj
        have e6 : some (LV.v (enc4 m v)[j]!) = some c := e4.symm.trans hc
        injection e6 with e6
        subst e6
        have hc1 := (hH1.cell (i := i) (c := j) (by simpa using hi) hj).1
        unfold World.cell? at hc1
        rw [hcur1] at hc1
        have e7 : M.toArray[i]! = v := by
          rw [getElem!_pos M.toArray i (by simpa using hi)]
          have := (List.getElem?_eq_some_iff.1 h5).2
          simpa using this
        rw [e7, Nat.zero_add] at hc1
        exact ⟨_, hc1, e5, .v _⟩
  have h1 := hh.wrote hid rfl hw1 hb1
  obtain ⟨h2, h3⟩ := h1.grown os
  exact ⟨(Ext.wrote (G := G) hw1 ho).trans h3, h2, .tup [] [] rfl (fun i c x hc => by simp at hc)⟩
noncomputable def e55 : Ent := entC 4 s55 (cspec4 _)
end E
end Go.Proofs.YtjhognibibmeiaaGreatDoor
