/-
  PLAIN LAWS, first part: wrapped sums; counts brought to the ring's shape are the ring's sums.
-/
import Derived.Test.YtjhognibibmeiaaGreatDoorHv
set_option linter.unusedVariables false
set_option maxRecDepth 100000
set_option maxHeartbeats 4000000
namespace Go.Proofs.YtjhognibibmeiaaGreatDoor
namespace E
open Go Go.RowKit

theorem w_bd (x : Int) : -9223372036854775808 ≤ w x ∧ w x < 9223372036854775808 := by
  simp only [w, IntKind.wrap, IntKind.bits, IntKind.signed]
  simp
  split <;> omega
theorem w_md (x : Int) : w x % 18446744073709551616 = x % 18446744073709551616 := by
  simp only [w, IntKind.wrap, IntKind.bits, IntKind.signed]
  simp
  split <;> omega
theorem w_def (x : Int) : ∃ k : Int, w x = x + 18446744073709551616 * k ∧ -9223372036854775808 ≤ w x ∧ w x < 9223372036854775808 := by
  have h1 := w_bd x
  have h2 := w_md x
  exact ⟨(w x - x) / 18446744073709551616, by omega, h1.1, h1.2⟩
theorem w_cong {a b k : Int} (h : a = b + 18446744073709551616 * k) : w a = w b := by
  obtain ⟨i, h1, h2, h3⟩ := w_def a
  obtain ⟨j, h4, h5, h6⟩ := w_def b
  omega
theorem w_w (a : Int) : w (w a) = w a := by obtain ⟨k, h, _⟩ := w_def a; exact w_cong (k := k) (by omega)
theorem w_al (a b : Int) : w (w a + b) = w (a + b) := by obtain ⟨k, h, _⟩ := w_def a; exact w_cong (k := k) (by omega)
theorem w_ar (a b : Int) : w (a + w b) = w (a + b) := by obtain ⟨k, h, _⟩ := w_def b; exact w_cong (k := k) (by omega)
theorem w_sl (a b : Int) : w (w a - b) = w (a - b) := by obtain ⟨k, h, _⟩ := w_def a; exact w_cong (k := k) (by omega)
theorem w_sr (a b : Int) : w (a - w b) = w (a - b) := by obtain ⟨k, h, _⟩ := w_def b; exact w_cong (k := -k) (by omega)

theorem getD_set (c : List Int) (i j : Nat) (v : Int) : (c.set i v).getD j 0 = if i = j ∧ i < c.length then v else c.getD j 0 := by
  simp only [List.getD_eq_getElem?_getD, List.getElem?_set]
  by_cases h : i = j
  · subst h
    by_cases h2 : i < c.length
    · simp [h2]
    · simp [h2]
  · simp [h]
theorem list_ext {a b : List Int} (hl : a.length = b.length) (h : ∀ t, t < a.length → a.getD t 0 = b.getD t 0) : a = b := by
  apply List.ext_getElem hl
  intro i h1 h2
  have := h i h1
  rwa [List.getD_eq_getElem?_getD, List.getD_eq_getElem?_getD, List.getElem?_eq_getElem h1, List.getElem?_eq_getElem h2] at this

theorem downN_len {D6 D3 : Nat} : ∀ {n : Nat} {a : List Int}, (downN D6 D3 n a).length = a.length
  | 0, a => rfl
  | n + 1, a => by rw [downN, downN_len, dstep_len]
theorem downN_get {D6 : Nat} : ∀ (n : Nat) (a : List Int), n ≤ D6 → a.length = 3 * D6 → ∀ t, t < 2 * D6 →
    (downN D6 (2 * D6) n a).getD t 0 = if t < n then w (a.getD t 0 - a.getD (t + 2 * D6) 0) else if D6 ≤ t ∧ t < D6 + n then w (a.getD t 0 + a.getD (t + D6) 0) else a.getD t 0
  | 0, a, _, _, t, ht => by
    rw [downN, if_neg (by omega), if_neg (by omega)]
  | n + 1, a, hn, hl, t, ht => by
    rw [downN, downN_get n _ (by omega) (by rw [dstep_len]; exact hl) t ht]
    have e1 : 2 * D6 + n - D6 = D6 + n := by omega
    have e2 : 2 * D6 + n - 2 * D6 = n := by omega
    have hd : ∀ k, (dstep D6 (2 * D6) (2 * D6 + n) a).getD k 0 = if n = k then w (a.getD n 0 - a.getD (2 * D6 + n) 0) else if D6 + n = k then w (a.getD (D6 + n) 0 + a.getD (2 * D6 + n) 0) else a.getD k 0 := by
      intro k
      unfold dstep
      rw [e1, e2, getD_set, List.length_set, getD_set, getD_set, getD_set]
      have h1 : ¬ (D6 + n = 2 * D6 + n ∧ D6 + n < a.length) := by omega
      have h2 : ¬ (D6 + n = n ∧ D6 + n < a.length) := by omega
      rw [if_neg h1, if_neg h2]
      by_cases hk : n = k
      · rw [if_pos ⟨hk, by omega⟩, if_pos hk]
      · rw [if_neg (fun h => hk h.1), if_neg hk]
        by_cases hk2 : D6 + n = k
        · rw [if_pos ⟨hk2, by omega⟩, if_pos hk2]
        · rw [if_neg (fun h => hk2 h.1), if_neg hk2]
    rw [hd, hd, hd]
    by_cases c1 : t < n
    · rw [if_pos c1, if_neg (by omega), if_neg (by omega), if_neg (by omega), if_neg (by omega), if_pos (by omega)]
    · rw [if_neg c1]
      by_cases c2 : D6 ≤ t ∧ t < D6 + n
      · rw [if_pos c2, if_neg (by omega), if_neg (by omega), if_neg (by omega), if_neg (by omega), if_neg (by omega), if_pos (by omega)]
      · rw [if_neg c2]
        by_cases c3 : n = t
        · subst c3
          rw [if_pos rfl, if_pos (by omega), Nat.add_comm n]
        · rw [if_neg c3]
          by_cases c4 : D6 + n = t
          · subst c4
            rw [if_pos rfl, if_neg (by omega), if_pos (by omega)]
            have : D6 + n + D6 = 2 * D6 + n := by omega
            rw [this]
          · rw [if_neg c4, if_neg (by omega), if_neg (by omega)]

theorem halfC_get {c : List Int} {H n j : Nat} (h : j < n) : (halfC c H n).getD j 0 = w (c.getD j 0 - c.getD (j + H) 0) := by
  unfold halfC
  rw [List.getD_eq_getElem?_getD, List.getElem?_map, List.getElem?_range h]
  rfl

/-- A whole's parts by its sixth. -/
structure Sx (m : Int) (d : Nat) : Prop where
  e : m = ((6 * d : Nat) : Int)
  a : (m / 6).toNat = d
  b : (m / 3).toNat = 2 * d
  c : (m / 2).toNat = 3 * d
  t : m.toNat = 6 * d
  p : 0 < d
theorem Is4.sx {m : Int} (h : Is4 m) : Sx m (m / 6).toNat := by cases h <;> exact ⟨by decide, by decide, by decide, by decide, by decide, by decide⟩
theorem take_getD {l : List Int} {n t : Nat} (h : t < n) : (l.take n).getD t 0 = l.getD t 0 := by
  rw [List.getD_eq_getElem?_getD, List.getD_eq_getElem?_getD, List.getElem?_take, if_pos h]
theorem brought_len {m : Int} {d : Nat} (hs : Sx m d) (c : List Int) : (broughtC m c).length = 2 * d := by
  unfold broughtC
  rw [List.length_take, downN_len, halfC_len, hs.b, hs.c]
  omega
theorem brought_get {m : Int} {d : Nat} (hs : Sx m d) (c : List Int) {t : Nat} (ht : t < 2 * d) :
    (broughtC m c).getD t 0 = if t < d then w (c.getD t 0 - c.getD (t + 3 * d) 0 - (c.getD (t + 2 * d) 0 - c.getD (t + 5 * d) 0)) else w (c.getD t 0 - c.getD (t + 3 * d) 0 + (c.getD (t + d) 0 - c.getD (t + 4 * d) 0)) := by
  have hp := hs.p
  unfold broughtC
  rw [hs.a, hs.b, hs.c, take_getD ht, downN_get d _ (Nat.le_refl _) halfC_len t ht]
  by_cases c1 : t < d
  · rw [if_pos c1, if_pos c1, halfC_get (by omega), halfC_get (by omega), w_sl, w_sr]
    have : t + 2 * d + 3 * d = t + 5 * d := by omega
    rw [this]
  · rw [if_neg c1, if_neg c1, if_pos (by omega), halfC_get (by omega), halfC_get (by omega), w_al, w_ar]
    have : t + d + 3 * d = t + 4 * d := by omega
    rw [this]

theorem bump_get {c : List Int} {k : Nat} {x : Int} (hk : k < c.length) (j : Nat) : (bump c k x).getD j 0 = if k = j then w (c.getD k 0 + x) else c.getD j 0 := by
  unfold bump
  rw [getD_set]
  by_cases h : k = j
  · rw [if_pos ⟨h, hk⟩, if_pos h]
  · rw [if_neg (fun h2 => h h2.1), if_neg h]

/-- What is counted more is added. -/
theorem brought_bump {m : Int} {d : Nat} (hs : Sx m d) (c : List Int) (hc : c.length = 6 * d) {p : Nat} (hp : p < 6 * d) (x : Int) (n : Int) (hn : n % m = (p : Int)) :
    broughtC m (bump c p x) = addC m n x (broughtC m c) := by
  have hd := hs.p
  refine list_ext (by rw [brought_len hs, addC_len, brought_len hs]) fun t ht => ?_
  rw [brought_len hs] at ht
  rw [brought_get hs _ ht]
  have hbl := brought_len hs c
  have hb := fun j => bump_get (c := c) (k := p) (x := x) (by omega) j
  simp only [hb]
  unfold addC
  rw [hn]
  have e2 : m / 2 = ((3 * d : Nat) : Int) := by rw [hs.e]; omega
  have e3 : m / 3 = ((2 * d : Nat) : Int) := by rw [hs.e]; omega
  have e6 : m / 6 = ((d : Nat) : Int) := by rw [hs.e]; omega
  have hD : ∀ (k : Nat) (y : Int), k < 3 * d → (addD m (k : Int) y (broughtC m c)).getD t 0 =
      if k < 2 * d then (if k = t then w ((broughtC m c).getD t 0 + y) else (broughtC m c).getD t 0)
      else (if k - 2 * d = t then w ((broughtC m c).getD t 0 - y) else if k - d = t then w ((broughtC m c).getD t 0 + y) else (broughtC m c).getD t 0) := by
    intro k y hk
    unfold addD
    rw [e3, e6]
    by_cases h1 : k < 2 * d
    · have : decide ((k : Int) < ((2 * d : Nat) : Int)) = true := by simp; omega
      rw [this, cond_true, if_pos h1, getD_set, Int.toNat_natCast]
      by_cases h2 : k = t
      · subst h2; rw [if_pos ⟨rfl, by omega⟩, if_pos rfl]
      · rw [if_neg (fun h => h2 h.1), if_neg h2]
    · have : decide ((k : Int) < ((2 * d : Nat) : Int)) = false := by simp; omega
      have i1 : ((k : Int) - ((d : Nat) : Int)).toNat = k - d := by omega
      have i2 : ((k : Int) - ((2 * d : Nat) : Int)).toNat = k - 2 * d := by omega
      rw [this, cond_false, if_neg h1, i1, i2, getD_set, List.length_set, getD_set, getD_set]
      by_cases h2 : k - 2 * d = t
      · subst h2
        rw [if_pos ⟨rfl, by omega⟩, if_neg (fun h => by omega), if_pos rfl]
      · rw [if_neg (fun h => h2 h.1), if_neg h2]
        by_cases h3 : k - d = t
        · subst h3
          rw [if_pos ⟨rfl, by omega⟩, if_pos rfl]
        · rw [if_neg (fun h => h3 h.1), if_neg h3]
  have hbr := brought_get hs c ht
  have fin : ∀ (k : Nat) (y : Int), k < 3 * d → ((p = k ∧ y = x) ∨ (p = k + 3 * d ∧ y = w (0 - x))) →
      (if t < d then w ((if p = t then w (c.getD p 0 + x) else c.getD t 0) - (if p = t + 3 * d then w (c.getD p 0 + x) else c.getD (t + 3 * d) 0) - ((if p = t + 2 * d then w (c.getD p 0 + x) else c.getD (t + 2 * d) 0) - (if p = t + 5 * d then w (c.getD p 0 + x) else c.getD (t + 5 * d) 0)))
        else w ((if p = t then w (c.getD p 0 + x) else c.getD t 0) - (if p = t + 3 * d then w (c.getD p 0 + x) else c.getD (t + 3 * d) 0) + ((if p = t + d then w (c.getD p 0 + x) else c.getD (t + d) 0) - (if p = t + 4 * d then w (c.getD p 0 + x) else c.getD (t + 4 * d) 0)))) =
      (addD m (k : Int) y (broughtC m c)).getD t 0 := by
    intro k y hk hpk
    rw [hD k y hk, hbr]
    obtain ⟨kp, hkp, _⟩ := w_def (c.getD p 0 + x)
    obtain ⟨kx, hkx, _⟩ := w_def (0 - x)
    have hy : ∃ z, y = (if p < 3 * d then x else 0 - x) + 18446744073709551616 * z := by
      rcases hpk with ⟨h1, h2⟩ | ⟨h1, h2⟩
      · exact ⟨0, by rw [if_pos (by omega), h2]; omega⟩
      · exact ⟨kx, by rw [if_neg (by omega), h2, hkx]⟩
    obtain ⟨z, hz⟩ := hy
    generalize w (c.getD p 0 + x) = X at hkp
    have hpk2 : p = k ∨ p = k + 3 * d := by rcases hpk with h | h; exact .inl h.1; exact .inr h.1
    clear hpk hkx hD hb hbl hbr
    by_cases c1 : t < d
    · simp only [if_pos c1]
      generalize hA : c.getD t 0 = A
      generalize hB : c.getD (t + 3 * d) 0 = B
      generalize hC : c.getD (t + 2 * d) 0 = C
      generalize hDD : c.getD (t + 5 * d) 0 = DD
      obtain ⟨kb, hkb, _⟩ := w_def (A - B - (C - DD))
      generalize hW : w (A - B - (C - DD)) = W at hkb
      by_cases q0 : p = t
      · have : k = t := by omega
        subst this
        rw [if_pos q0, if_neg (by omega), if_neg (by omega), if_neg (by omega), if_pos (by omega), if_pos rfl]
        rw [if_pos (by omega)] at hz
        rw [q0, hA] at hkp
        exact w_cong (k := kp - kb - z) (by omega)
      · by_cases q1 : p = t + 3 * d
        · have : k = t := by omega
          subst this
          rw [if_neg q0, if_pos q1, if_neg (by omega), if_neg (by omega), if_pos (by omega), if_pos rfl]
          rw [if_neg (by omega)] at hz
          rw [q1, hB] at hkp
          exact w_cong (k := -kp - kb - z) (by omega)
        · by_cases q2 : p = t + 2 * d
          · have : k = t + 2 * d := by omega
            subst this
            rw [if_neg q0, if_neg q1, if_pos q2, if_neg (by omega), if_neg (by omega), if_pos (by omega)]
            rw [if_pos (by omega)] at hz
            rw [q2, hC] at hkp
            exact w_cong (k := -kp - kb + z) (by omega)
          · by_cases q3 : p = t + 5 * d
            · have : k = t + 2 * d := by omega
              subst this
              rw [if_neg q0, if_neg q1, if_neg q2, if_pos q3, if_neg (by omega), if_pos (by omega)]
              rw [if_neg (by omega)] at hz
              rw [q3, hDD] at hkp
              exact w_cong (k := kp - kb + z) (by omega)
            · rw [if_neg q0, if_neg q1, if_neg q2, if_neg q3]
              by_cases c2 : k < 2 * d
              · rw [if_pos c2, if_neg (by omega), hW]
              · rw [if_neg c2, if_neg (by omega), if_neg (by omega), hW]
    · simp only [if_neg c1]
      generalize hA : c.getD t 0 = A
      generalize hB : c.getD (t + 3 * d) 0 = B
      generalize hC : c.getD (t + d) 0 = C
      generalize hDD : c.getD (t + 4 * d) 0 = DD
      obtain ⟨kb, hkb, _⟩ := w_def (A - B + (C - DD))
      generalize hW : w (A - B + (C - DD)) = W at hkb
      by_cases q0 : p = t
      · have : k = t := by omega
        subst this
        rw [if_pos q0, if_neg (by omega), if_neg (by omega), if_neg (by omega), if_pos (by omega), if_pos rfl]
        rw [if_pos (by omega)] at hz
        rw [q0, hA] at hkp
        exact w_cong (k := kp - kb - z) (by omega)
      · by_cases q1 : p = t + 3 * d
        · have : k = t := by omega
          subst this
          rw [if_neg q0, if_pos q1, if_neg (by omega), if_neg (by omega), if_pos (by omega), if_pos rfl]
          rw [if_neg (by omega)] at hz
          rw [q1, hB] at hkp
          exact w_cong (k := -kp - kb - z) (by omega)
        · by_cases q2 : p = t + d
          · have : k = t + d := by omega
            subst this
            rw [if_neg q0, if_neg q1, if_pos q2, if_neg (by omega), if_neg (by omega), if_neg (by omega), if_pos (by omega)]
            rw [if_pos (by omega)] at hz
            rw [q2, hC] at hkp
            exact w_cong (k := kp - kb - z) (by omega)
          · by_cases q3 : p = t + 4 * d
            · have : k = t + d := by omega
              subst this
              rw [if_neg q0, if_neg q1, if_neg q2, if_pos q3, if_neg (by omega), if_neg (by omega), if_pos (by omega)]
              rw [if_neg (by omega)] at hz
              rw [q3, hDD] at hkp
              exact w_cong (k := -kp - kb - z) (by omega)
            · rw [if_neg q0, if_neg q1, if_neg q2, if_neg q3]
              by_cases c2 : k < 2 * d
              · rw [if_pos c2, if_neg (by omega), hW]
              · rw [if_neg c2, if_neg (by omega), if_neg (by omega), hW]
  by_cases hneg : 3 * d ≤ p
  · have : decide ((p : Int) ≥ m / 2) = true := by rw [e2]; simp; omega
    have ek : (p : Int) - m / 2 = ((p - 3 * d : Nat) : Int) := by rw [e2]; omega
    rw [this, cond_true, ek]
    exact fin (p - 3 * d) _ (by omega) (.inr ⟨by omega, rfl⟩)
  · have : decide ((p : Int) ≥ m / 2) = false := by rw [e2]; simp; omega
    rw [this, cond_false]
    exact fin p x (by omega) (.inl ⟨rfl, rfl⟩)
end E
end Go.Proofs.YtjhognibibmeiaaGreatDoor
