/-
  THE FUNCTIONS, eighteenth part: factor's add.
-/
import Derived.Test.YtjhognibibmeiaaGreatDoorHq
set_option linter.unusedVariables false
set_option maxRecDepth 100000
set_option maxHeartbeats 4000000
namespace Go.Proofs.YtjhognibibmeiaaGreatDoor
namespace E
open Go Go.RowKit

def eNs (c : List Int) : List (List LV) := c.map fun n => [I n]
def addD (m n wt : Int) (c : List Int) : List Int :=
  bif decide (n < m / 3) then c.set n.toNat (w (c.getD n.toNat 0 + wt))
  else (c.set (n - m / 6).toNat (w (c.getD (n - m / 6).toNat 0 + wt))).set (n - m / 3).toNat (w ((c.set (n - m / 6).toNat (w (c.getD (n - m / 6).toNat 0 + wt))).getD (n - m / 3).toNat 0 - wt))
def addC (m n wt : Int) (c : List Int) : List Int := bif decide (n % m ≥ m / 2) then addD m (n % m - m / 2) (w (0 - wt)) c else addD m (n % m) wt c
theorem addD_len {m n wt : Int} {c : List Int} : (addD m n wt c).length = c.length := by
  unfold addD
  cases decide (n < m / 3) <;> simp
theorem addC_len {m n wt : Int} {c : List Int} : (addC m n wt c).length = c.length := by
  unfold addC
  cases decide (n % m ≥ m / 2) <;> simp [addD_len]
theorem eNs_get {c : List Int} {i k : Nat} (h : i < c.length) (hk : k = i) : (eNs c)[k]? = some [I (c.getD i 0)] := by
  subst hk
  unfold eNs
  rw [List.getElem?_map, List.getElem?_eq_getElem h, List.getD_eq_getElem?_getD, List.getElem?_eq_getElem h]
  rfl
theorem eNs_set {c : List Int} {i k : Nat} {x : Int} (hk : k = i) : (eNs c).set k [I x] = eNs (c.set i x) := by
  subst hk
  unfold eNs
  rw [List.map_set]
theorem eNs_len {c : List Int} : (eNs c).length = c.length := by simp [eNs]

structure Qs (m : Int) : Prop where
  a : w (m.tdiv 2) = m / 2
  b : w (m.tdiv 3) = m / 3
  c : w (m.tdiv 6) = m / 6
  d : w (m.tdiv 4) = m / 4
  e : m / 2 * 2 = m
  f : m / 3 * 3 = m
  g : m / 6 * 6 = m
  h : m / 4 * 4 = m
theorem Is4.qs {m : Int} (h : Is4 m) : Qs m := by cases h <;> exact ⟨by decide, by decide, by decide, by decide, by decide, by decide, by decide, by decide⟩

def S18 : Spec := fun args h K => ∃ (m n wt : Int) (c : List Int) (id : Nat) (cap : Option Nat) (ex : Bool), Is4 m ∧ 0 ≤ n ∧ n < 1000000 ∧ c.length = (m / 3).toNat ∧ args = [.sl id 0 c.length cap, I m, I n, I wt] ∧
  h[id]? = some (.row 1 ex (eNs c)) ∧ K (.tup []) (h.set id (.row 1 ex (eNs (addC m n wt c))))
theorem s18 : CallOK PR GL 38 S18 := mkC [] 0 Tryz.func38 (by kernel_rfl) (by kernel_rfl) fun args h K hk => by
  obtain ⟨m, n, wt, c, id, cap, ex, h4, hn0, hn1, hcl, rfl, hid, hk⟩ := hk
  have hp := h4.pos
  have hq := h4.qs
  have hidl : id < h.length := (List.getElem?_eq_some_iff.1 hid).1
  have hmod : n.tmod m = n % m := Int.tmod_eq_emod_of_nonneg hn0
  have hm0 : 0 ≤ n % m := Int.emod_nonneg _ (by omega)
  have hm1 : n % m < m := Int.emod_lt_of_pos _ (by omega)
  obtain ⟨qa, qb, qc, qd, qe, qf, qg, qh⟩ := hq
  unfold addC at hk
  conv => whnf
  refine nzB_iff.2 ⟨by omega, ?_⟩
  conv => whnf
  refine pickB_of (fun h1 => ?_) (fun h1 => ?_)
  · have h1' : decide (n % m ≥ m / 2) = true := by rw [← hmod, ← qa]; exact h1
    have h2 : m / 2 ≤ n % m := by simpa using h1'
    have hw : IntKind.i64.wrap (n.tmod m - IntKind.i64.wrap (m.tdiv 2)) = n % m - m / 2 := by
      show w (n.tmod m - w (m.tdiv 2)) = _
      rw [hmod, qa, wrap_i _ (by omega) (by omega)]
    rw [h1', cond_true] at hk
    clear h1 h1'
    have hk0 : 0 ≤ n % m - m / 2 ∧ n % m - m / 2 < m / 2 := by omega
    generalize n % m - m / 2 = k at hw hk hk0
    conv => whnf
    refine pickB_of (fun h3 => ?_) (fun h3 => ?_)
    · rw [hw] at h3
      have h4' : decide (k < m / 3) = true := by simp only [decide_eq_true_eq] at h3 ⊢; omega
      rw [addD, h4', cond_true] at hk
      have hkm : k < m / 3 := by simpa using h4'
      clear h3 h4'
      conv => whnf
      refine getK_iff.2 ⟨_, hid, ?_⟩
      conv => whnf
      refine idxB_iff.2 ⟨by rw [hw]; omega, by rw [hw]; omega, ?_⟩
      conv => whnf
      refine getK_iff.2 ⟨_, hid, ?_⟩
      conv => whnf
      refine eltK_iff.2 ⟨_, eNs_get (i := k.toNat) (by omega) (by rw [hw]; omega), ?_⟩
      conv => whnf
      refine getK_iff.2 ⟨_, hid, ?_⟩
      conv => whnf
      refine idxB_iff.2 ⟨by rw [hw]; omega, by rw [hw]; omega, ?_⟩
      conv => whnf
      refine getK_iff.2 ⟨_, hid, ?_⟩
      conv => whnf
      refine eltK_iff.2 ⟨_, eNs_get (i := k.toNat) (by omega) (by rw [hw]; omega), ?_⟩
      conv => whnf
      refine setK_iff.2 ⟨hidl, ?_⟩
      conv => whnf
      rw [← eNs_set (k := 0 + (IntKind.i64.wrap (n.tmod m - IntKind.i64.wrap (m.tdiv 2))).toNat) (by rw [hw]; omega)] at hk
      exact hk
    · rw [hw] at h3
      have h4' : decide (k < m / 3) = false := by simp only [decide_eq_false_iff_not] at h3 ⊢; omega
      rw [addD, h4', cond_false] at hk
      have hkm : m / 3 ≤ k := by simpa using h4'
      clear h3 h4'
      have hw6 : IntKind.i64.wrap (IntKind.i64.wrap (n.tmod m - IntKind.i64.wrap (m.tdiv 2)) - IntKind.i64.wrap (m.tdiv 6)) = k - m / 6 := by
        rw [hw]
        show w (k - w (m.tdiv 6)) = _
        rw [qc, wrap_i _ (by omega) (by omega)]
      have hw3 : IntKind.i64.wrap (IntKind.i64.wrap (n.tmod m - IntKind.i64.wrap (m.tdiv 2)) - IntKind.i64.wrap (m.tdiv 3)) = k - m / 3 := by
        rw [hw]
        show w (k - w (m.tdiv 3)) = _
        rw [qb, wrap_i _ (by omega) (by omega)]
      conv => whnf
      refine getK_iff.2 ⟨_, hid, ?_⟩
      conv => whnf
      refine idxB_iff.2 ⟨by rw [hw6]; omega, by rw [hw6]; omega, ?_⟩
      conv => whnf
      refine getK_iff.2 ⟨_, hid, ?_⟩
      conv => whnf
      refine eltK_iff.2 ⟨_, eNs_get (i := (k - m / 6).toNat) (by omega) (by rw [hw6]; omega), ?_⟩
      conv => whnf
      refine getK_iff.2 ⟨_, hid, ?_⟩
      conv => whnf
      refine idxB_iff.2 ⟨by rw [hw6]; omega, by rw [hw6]; omega, ?_⟩
      conv => whnf
      refine getK_iff.2 ⟨_, hid, ?_⟩
      conv => whnf
      refine eltK_iff.2 ⟨_, eNs_get (i := (k - m / 6).toNat) (by omega) (by rw [hw6]; omega), ?_⟩
      conv => whnf
      refine setK_iff.2 ⟨hidl, ?_⟩
      have hid2 : ∀ r : Blk, (h.set id r)[id]? = some r := fun r => List.getElem?_set_self hidl
      generalize hc1 : c.set (k - m / 6).toNat (w (c.getD (k - m / 6).toNat 0 + w (0 - wt))) = c1 at hk
      have hcl1 : c1.length = c.length := by rw [← hc1]; simp
      have hid3 : (h.set id (.row 1 ex ((eNs c).set (0 + (IntKind.i64.wrap (IntKind.i64.wrap (n.tmod m - IntKind.i64.wrap (m.tdiv 2)) - IntKind.i64.wrap (m.tdiv 6))).toNat) [I (w (c.getD (k - m / 6).toNat 0 + w (0 - wt)))])))[id]? = some (.row 1 ex (eNs c1)) := by
        rw [hid2, ← hc1, eNs_set (i := (k - m / 6).toNat) (by rw [hw6]; omega)]
      have hhid : (h.set id (.row 1 ex ((eNs c).set (0 + (IntKind.i64.wrap (IntKind.i64.wrap (n.tmod m - IntKind.i64.wrap (m.tdiv 2)) - IntKind.i64.wrap (m.tdiv 6))).toNat) [I (w (c.getD (k - m / 6).toNat 0 + w (0 - wt)))]))) = (h.set id (.row 1 ex (eNs c1))) := by
        rw [← hc1, eNs_set (i := (k - m / 6).toNat) (by rw [hw6]; omega)]
      conv => whnf
      refine getK_iff.2 ⟨_, hid3, ?_⟩
      conv => whnf
      refine idxB_iff.2 ⟨by rw [hw3]; omega, by rw [hw3]; omega, ?_⟩
      conv => whnf
      refine getK_iff.2 ⟨_, hid3, ?_⟩
      conv => whnf
      refine eltK_iff.2 ⟨_, eNs_get (i := (k - m / 3).toNat) (by omega) (by rw [hw3]; omega), ?_⟩
      conv => whnf
      refine getK_iff.2 ⟨_, hid3, ?_⟩
      conv => whnf
      refine idxB_iff.2 ⟨by rw [hw3]; omega, by rw [hw3]; omega, ?_⟩
      conv => whnf
      refine getK_iff.2 ⟨_, hid3, ?_⟩
      conv => whnf
      refine eltK_iff.2 ⟨_, eNs_get (i := (k - m / 3).toNat) (by omega) (by rw [hw3]; omega), ?_⟩
      conv => whnf
      refine setK_iff.2 ⟨by simpa using hidl, ?_⟩
      conv => whnf
      rw [← eNs_set (k := 0 + (IntKind.i64.wrap (IntKind.i64.wrap (n.tmod m - IntKind.i64.wrap (m.tdiv 2)) - IntKind.i64.wrap (m.tdiv 3))).toNat) (by rw [hw3]; omega)] at hk
      show K (.tup []) (List.set (h.set id (.row 1 ex ((eNs c).set (0 + (IntKind.i64.wrap (IntKind.i64.wrap (n.tmod m - IntKind.i64.wrap (m.tdiv 2)) - IntKind.i64.wrap (m.tdiv 6))).toNat) [I (w (c.getD (k - m / 6).toNat 0 + w (0 - wt)))]))) id _)
      rw [List.set_set]
      exact hk
  · have h1' : decide (n % m ≥ m / 2) = false := by rw [← hmod, ← qa]; exact h1
    have h2 : n % m < m / 2 := by simpa using h1'
    have hw : n.tmod m = n % m := hmod
    rw [h1', cond_false] at hk
    clear h1 h1' hmod
    have hk0 : 0 ≤ n % m ∧ n % m < m / 2 := by omega
    generalize n % m = k at hw hk hk0
    conv => whnf
    refine pickB_of (fun h3 => ?_) (fun h3 => ?_)
    · rw [hw] at h3
      have h4' : decide (k < m / 3) = true := by simp only [decide_eq_true_eq] at h3 ⊢; omega
      rw [addD, h4', cond_true] at hk
      have hkm : k < m / 3 := by simpa using h4'
      clear h3 h4'
      conv => whnf
      refine getK_iff.2 ⟨_, hid, ?_⟩
      conv => whnf
      refine idxB_iff.2 ⟨by rw [hw]; omega, by rw [hw]; omega, ?_⟩
      conv => whnf
      refine getK_iff.2 ⟨_, hid, ?_⟩
      conv => whnf
      refine eltK_iff.2 ⟨_, eNs_get (i := k.toNat) (by omega) (by rw [hw]; omega), ?_⟩
      conv => whnf
      refine getK_iff.2 ⟨_, hid, ?_⟩
      conv => whnf
      refine idxB_iff.2 ⟨by rw [hw]; omega, by rw [hw]; omega, ?_⟩
      conv => whnf
      refine getK_iff.2 ⟨_, hid, ?_⟩
      conv => whnf
      refine eltK_iff.2 ⟨_, eNs_get (i := k.toNat) (by omega) (by rw [hw]; omega), ?_⟩
      conv => whnf
      refine setK_iff.2 ⟨hidl, ?_⟩
      conv => whnf
      rw [← eNs_set (k := 0 + (n.tmod m).toNat) (by rw [hw]; omega)] at hk
      exact hk
    · rw [hw] at h3
      have h4' : decide (k < m / 3) = false := by simp only [decide_eq_false_iff_not] at h3 ⊢; omega
      rw [addD, h4', cond_false] at hk
      have hkm : m / 3 ≤ k := by simpa using h4'
      clear h3 h4'
      have hw6 : IntKind.i64.wrap (n.tmod m - IntKind.i64.wrap (m.tdiv 6)) = k - m / 6 := by
        rw [hw]
        show w (k - w (m.tdiv 6)) = _
        rw [qc, wrap_i _ (by omega) (by omega)]
      have hw3 : IntKind.i64.wrap (n.tmod m - IntKind.i64.wrap (m.tdiv 3)) = k - m / 3 := by
        rw [hw]
        show w (k - w (m.tdiv 3)) = _
        rw [qb, wrap_i _ (by omega) (by omega)]
      conv => whnf
      refine getK_iff.2 ⟨_, hid, ?_⟩
      conv => whnf
      refine idxB_iff.2 ⟨by rw [hw6]; omega, by rw [hw6]; omega, ?_⟩
      conv => whnf
      refine getK_iff.2 ⟨_, hid, ?_⟩
      conv => whnf
      refine eltK_iff.2 ⟨_, eNs_get (i := (k - m / 6).toNat) (by omega) (by rw [hw6]; omega), ?_⟩
      conv => whnf
      refine getK_iff.2 ⟨_, hid, ?_⟩
      conv => whnf
      refine idxB_iff.2 ⟨by rw [hw6]; omega, by rw [hw6]; omega, ?_⟩
      conv => whnf
      refine getK_iff.2 ⟨_, hid, ?_⟩
      conv => whnf
      refine eltK_iff.2 ⟨_, eNs_get (i := (k - m / 6).toNat) (by omega) (by rw [hw6]; omega), ?_⟩
      conv => whnf
      refine setK_iff.2 ⟨hidl, ?_⟩
      have hid2 : ∀ r : Blk, (h.set id r)[id]? = some r := fun r => List.getElem?_set_self hidl
      generalize hc1 : c.set (k - m / 6).toNat (w (c.getD (k - m / 6).toNat 0 + wt)) = c1 at hk
      have hcl1 : c1.length = c.length := by rw [← hc1]; simp
      have hid3 : (h.set id (.row 1 ex ((eNs c).set (0 + (IntKind.i64.wrap (n.tmod m - IntKind.i64.wrap (m.tdiv 6))).toNat) [I (w (c.getD (k - m / 6).toNat 0 + wt))])))[id]? = some (.row 1 ex (eNs c1)) := by
        rw [hid2, ← hc1, eNs_set (i := (k - m / 6).toNat) (by rw [hw6]; omega)]
      have hhid : (h.set id (.row 1 ex ((eNs c).set (0 + (IntKind.i64.wrap (n.tmod m - IntKind.i64.wrap (m.tdiv 6))).toNat) [I (w (c.getD (k - m / 6).toNat 0 + wt))]))) = (h.set id (.row 1 ex (eNs c1))) := by
        rw [← hc1, eNs_set (i := (k - m / 6).toNat) (by rw [hw6]; omega)]
      conv => whnf
      refine getK_iff.2 ⟨_, hid3, ?_⟩
      conv => whnf
      refine idxB_iff.2 ⟨by rw [hw3]; omega, by rw [hw3]; omega, ?_⟩
      conv => whnf
      refine getK_iff.2 ⟨_, hid3, ?_⟩
      conv => whnf
      refine eltK_iff.2 ⟨_, eNs_get (i := (k - m / 3).toNat) (by omega) (by rw [hw3]; omega), ?_⟩
      conv => whnf
      refine getK_iff.2 ⟨_, hid3, ?_⟩
      conv => whnf
      refine idxB_iff.2 ⟨by rw [hw3]; omega, by rw [hw3]; omega, ?_⟩
      conv => whnf
      refine getK_iff.2 ⟨_, hid3, ?_⟩
      conv => whnf
      refine eltK_iff.2 ⟨_, eNs_get (i := (k - m / 3).toNat) (by omega) (by rw [hw3]; omega), ?_⟩
      conv => whnf
      refine setK_iff.2 ⟨by simpa using hidl, ?_⟩
      conv => whnf
      rw [← eNs_set (k := 0 + (IntKind.i64.wrap (n.tmod m - IntKind.i64.wrap (m.tdiv 3))).toNat) (by rw [hw3]; omega)] at hk
      show K (.tup []) (List.set (h.set id (.row 1 ex ((eNs c).set (0 + (IntKind.i64.wrap (n.tmod m - IntKind.i64.wrap (m.tdiv 6))).toNat) [I (w (c.getD (k - m / 6).toNat 0 + wt))]))) id _)
      rw [List.set_set]
      exact hk
noncomputable def e18 : Ent := entC 4 s18 (cspec4 _)
end E
end Go.Proofs.YtjhognibibmeiaaGreatDoor
