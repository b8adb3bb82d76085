/-
  ABSENT INDICES, third part: the ring's coefficients: what an absent index sums to.
-/
import Derived.Test.YtjhognibibmeiaaAb
set_option linter.unusedVariables false
set_option maxRecDepth 100000
set_option maxHeartbeats 4000000
namespace Go.Proofs.Ytjhognibibmeiaa
namespace E
open Go Go.RowKit

/-! ### The coefficient of part t in the n-th part of a turn -/
def ind (a b : Int) : Int := if a = b then 1 else 0
def psi (m n t : Int) : Int := if n < m / 3 then ind t n else ind t (n - m / 6) - ind t (n - m / 3)
def phi (m n t : Int) : Int := if n % m < m / 2 then psi m (n % m) t else 0 - psi m (n % m - m / 2) t
theorem phi_mod (m n t : Int) : phi m (n % m) t = phi m n t := by unfold phi; rw [Int.emod_emod]
theorem phi_cong {m a b k : Int} (t : Int) (h : a = b + m * k) : phi m a t = phi m b t := by
  unfold phi; rw [emod_of h]
theorem phi_vals {m n q : Int} (h4 : Is4 m) (t : Int) (hq : 0 ≤ q ∧ q < m / 6) :
    (n % m = q → phi m n t = ind t q) ∧ (n % m = q + m / 6 → phi m n t = ind t (q + m / 6)) ∧ (n % m = q + 2 * (m / 6) → phi m n t = ind t (q + m / 6) - ind t q) ∧
    (n % m = q + 3 * (m / 6) → phi m n t = 0 - ind t q) ∧ (n % m = q + 4 * (m / 6) → phi m n t = 0 - ind t (q + m / 6)) ∧ (n % m = q + 5 * (m / 6) → phi m n t = 0 - (ind t (q + m / 6) - ind t q)) := by
  unfold phi psi ind
  refine ⟨?_, ?_, ?_, ?_, ?_, ?_⟩ <;> intro h <;> rw [h] <;> clear h <;> cases h4 <;> (repeat' split) <;> omega
theorem seg {m : Int} (h4 : Is4 m) (n : Int) : ∃ q, (0 ≤ q ∧ q < m / 6) ∧ (n % m = q ∨ n % m = q + m / 6 ∨ n % m = q + 2 * (m / 6) ∨ n % m = q + 3 * (m / 6) ∨ n % m = q + 4 * (m / 6) ∨ n % m = q + 5 * (m / 6)) := by
  refine ⟨n % m % (m / 6), ?_⟩
  cases h4 <;> omega
theorem phi_half {m : Int} (h4 : Is4 m) (n t : Int) : phi m (n + m / 2) t = 0 - phi m n t := by
  obtain ⟨q, hq, h⟩ := seg h4 n
  obtain ⟨a0, a1, a2, a3, a4, a5⟩ := phi_vals (n := n) h4 t hq
  obtain ⟨b0, b1, b2, b3, b4, b5⟩ := phi_vals (n := n + m / 2) h4 t hq
  rcases h with h | h | h | h | h | h
  · rw [a0 h, b3 (by clear a0 a1 a2 a3 a4 a5 b0 b1 b2 b3 b4 b5; cases h4 <;> omega)]
  · rw [a1 h, b4 (by clear a0 a1 a2 a3 a4 a5 b0 b1 b2 b3 b4 b5; cases h4 <;> omega)]
  · rw [a2 h, b5 (by clear a0 a1 a2 a3 a4 a5 b0 b1 b2 b3 b4 b5; cases h4 <;> omega)]
  · rw [a3 h, b0 (by clear a0 a1 a2 a3 a4 a5 b0 b1 b2 b3 b4 b5; cases h4 <;> omega)]; omega
  · rw [a4 h, b1 (by clear a0 a1 a2 a3 a4 a5 b0 b1 b2 b3 b4 b5; cases h4 <;> omega)]; omega
  · rw [a5 h, b2 (by clear a0 a1 a2 a3 a4 a5 b0 b1 b2 b3 b4 b5; cases h4 <;> omega)]; omega
theorem phi_third {m : Int} (h4 : Is4 m) (n t : Int) : phi m n t + phi m (n + m / 3) t + phi m (n + m / 3 + m / 3) t = 0 := by
  obtain ⟨q, hq, h⟩ := seg h4 n
  obtain ⟨a0, a1, a2, a3, a4, a5⟩ := phi_vals (n := n) h4 t hq
  obtain ⟨b0, b1, b2, b3, b4, b5⟩ := phi_vals (n := n + m / 3) h4 t hq
  obtain ⟨c0, c1, c2, c3, c4, c5⟩ := phi_vals (n := n + m / 3 + m / 3) h4 t hq
  rcases h with h | h | h | h | h | h
  · rw [a0 h, b2 (by clear a0 a1 a2 a3 a4 a5 b0 b1 b2 b3 b4 b5 c0 c1 c2 c3 c4 c5; cases h4 <;> omega), c4 (by clear a0 a1 a2 a3 a4 a5 b0 b1 b2 b3 b4 b5 c0 c1 c2 c3 c4 c5; cases h4 <;> omega)]; omega
  · rw [a1 h, b3 (by clear a0 a1 a2 a3 a4 a5 b0 b1 b2 b3 b4 b5 c0 c1 c2 c3 c4 c5; cases h4 <;> omega), c5 (by clear a0 a1 a2 a3 a4 a5 b0 b1 b2 b3 b4 b5 c0 c1 c2 c3 c4 c5; cases h4 <;> omega)]; omega
  · rw [a2 h, b4 (by clear a0 a1 a2 a3 a4 a5 b0 b1 b2 b3 b4 b5 c0 c1 c2 c3 c4 c5; cases h4 <;> omega), c0 (by clear a0 a1 a2 a3 a4 a5 b0 b1 b2 b3 b4 b5 c0 c1 c2 c3 c4 c5; cases h4 <;> omega)]; omega
  · rw [a3 h, b5 (by clear a0 a1 a2 a3 a4 a5 b0 b1 b2 b3 b4 b5 c0 c1 c2 c3 c4 c5; cases h4 <;> omega), c1 (by clear a0 a1 a2 a3 a4 a5 b0 b1 b2 b3 b4 b5 c0 c1 c2 c3 c4 c5; cases h4 <;> omega)]; omega
  · rw [a4 h, b0 (by clear a0 a1 a2 a3 a4 a5 b0 b1 b2 b3 b4 b5 c0 c1 c2 c3 c4 c5; cases h4 <;> omega), c2 (by clear a0 a1 a2 a3 a4 a5 b0 b1 b2 b3 b4 b5 c0 c1 c2 c3 c4 c5; cases h4 <;> omega)]; omega
  · rw [a5 h, b1 (by clear a0 a1 a2 a3 a4 a5 b0 b1 b2 b3 b4 b5 c0 c1 c2 c3 c4 c5; cases h4 <;> omega), c3 (by clear a0 a1 a2 a3 a4 a5 b0 b1 b2 b3 b4 b5 c0 c1 c2 c3 c4 c5; cases h4 <;> omega)]; omega

/-! ### What add does -/
theorem w_neg (a b p : Int) : w (a + w (0 - b) * p) = w (a - b * p) := by
  obtain ⟨k, h, _⟩ := w_def (0 - b)
  exact w_cong (k := k * p) (by rw [h]; grind)
theorem addD_get {m n wt : Int} (h4 : Is4 m) (hn : 0 ≤ n ∧ n < m / 2) {c : List Int} {C : Int → Int} (hc : c.length = (m / 3).toNat) (hC : ∀ t : Nat, t < c.length → c.getD t 0 = w (C t)) (t : Nat) (ht : t < c.length) :
    (addD m n wt c).getD t 0 = w (C t + wt * psi m n t) := by
  have hp := h4.pos
  have hm3 : m / 3 = 2 * (m / 6) := by cases h4 <;> decide
  have hm2 : m / 2 = 3 * (m / 6) := by cases h4 <;> decide
  have hm6 : 0 < m / 6 := by cases h4 <;> decide
  unfold addD psi ind
  by_cases h1 : n < m / 3
  · have hd : decide (n < m / 3) = true := by simpa using h1
    rw [hd, cond_true, getD_set, if_pos h1]
    have hl : n.toNat < c.length := by omega
    by_cases h2 : n.toNat = t
    · rw [if_pos ⟨h2, hl⟩, if_pos (by omega), h2, hC t ht, w_al, Int.mul_one]
    · rw [if_neg (fun h => h2 h.1), if_neg (by omega), Int.mul_zero, Int.add_zero]
      exact hC t ht
  · have hd : decide (n < m / 3) = false := by simpa using h1
    rw [hd, cond_false, if_neg h1, getD_set, getD_set, getD_set, List.length_set]
    have hl1 : (n - m / 6).toNat < c.length := by omega
    have hl2 : (n - m / 3).toNat < c.length := by omega
    have hne : (n - m / 6).toNat ≠ (n - m / 3).toNat := by omega
    by_cases h2 : (n - m / 3).toNat = t
    · rw [if_pos ⟨h2, hl2⟩, if_neg (fun h => hne h.1), h2, hC t ht, w_sl, if_neg (show ¬ ((t : Int) = n - m / 6) by omega), if_pos (show (t : Int) = n - m / 3 by omega)]
      congr 1
      omega
    · rw [if_neg (fun h => h2 h.1), if_neg (show ¬ ((t : Int) = n - m / 3) by omega)]
      by_cases h3 : (n - m / 6).toNat = t
      · rw [if_pos ⟨h3, hl1⟩, h3, hC t ht, w_al, if_pos (show (t : Int) = n - m / 6 by omega)]
        congr 1
        omega
      · rw [if_neg (fun h => h3 h.1), if_neg (show ¬ ((t : Int) = n - m / 6) by omega)]
        rw [hC t ht]
        congr 1
        omega
theorem addC_get {m n wt : Int} (h4 : Is4 m) (hn : 0 ≤ n) {c : List Int} {C : Int → Int} (hc : c.length = (m / 3).toNat) (hC : ∀ t : Nat, t < c.length → c.getD t 0 = w (C t)) (t : Nat) (ht : t < c.length) :
    (addC m n wt c).getD t 0 = w (C t + wt * phi m n t) := by
  have hp := h4.pos
  have hm2 : m / 2 * 2 = m := h4.qs.e
  have h0 := Int.emod_nonneg n (show m ≠ 0 by omega)
  have h1 := Int.emod_lt_of_pos n (show 0 < m by omega)
  unfold addC phi
  by_cases h2 : n % m < m / 2
  · have hd : decide (n % m ≥ m / 2) = false := by simp; omega
    rw [hd, cond_false, if_pos h2]
    exact addD_get h4 ⟨h0, h2⟩ hc hC t ht
  · have hd : decide (n % m ≥ m / 2) = true := by simp; omega
    rw [hd, cond_true, if_neg h2, addD_get h4 ⟨by omega, by omega⟩ hc hC t ht, w_neg]
    congr 1
    rw [Int.mul_sub]
    omega
end E
end Go.Proofs.Ytjhognibibmeiaa
