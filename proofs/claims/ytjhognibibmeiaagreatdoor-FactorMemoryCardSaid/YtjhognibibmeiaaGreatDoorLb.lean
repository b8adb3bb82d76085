/-
  PLAIN LAWS, second part: the program's checks are the document's.
-/
import Derived.Test.YtjhognibibmeiaaGreatDoorLa
set_option linter.unusedVariables false
set_option maxRecDepth 100000
set_option maxHeartbeats 4000000
namespace Go.Proofs.YtjhognibibmeiaaGreatDoor
namespace E
open Go Go.RowKit

/-! ### Maps -/
theorem wneg1000 : w (0 - 1000) = -1000 := by decide
theorem bey_eq (v : V) : bey3 v 1000 = bad3 v 1000 := by
  unfold bey3 bad3 beyond bad1
  rw [wneg1000]
theorem bey9_eq (m : M) : bey9 m = out9 m := by
  unfold bey9 out9
  rw [bey_eq, bey_eq, bey_eq]
theorem det_eq (m : M) : detM m = detR m := by
  unfold detM detR term3 cof2
  simp only [w_al, w_ar, w_w, Int.zero_add]
theorem mod2_eq {n m : Int} (hm : 0 < m) (hm2 : m ≤ 192) : mod2 n m = n % m := by
  unfold mod2
  have h1 := Int.tmod_lt_of_pos n hm
  have h2 : -m < n.tmod m := Int.lt_tmod_of_pos n hm
  have h3 : n.tmod m % m = n % m := by
    rw [Int.tmod_def, Int.sub_mul_emod_self_left]
  cases hd : decide (n.tmod m < 0) with
  | true =>
    have hd : n.tmod m < 0 := of_decide_eq_true hd
    rw [cond_true, wrap_i _ (by omega) (by omega), ← h3]
    rw [← Int.add_emod_right (n.tmod m) m]
    exact (Int.emod_eq_of_lt (by omega) (by omega)).symm
  | false =>
    have hd : ¬ n.tmod m < 0 := of_decide_eq_false hd
    rw [cond_false, ← h3]
    exact (Int.emod_eq_of_lt (by omega) h1).symm
theorem modF_eq {n m : Int} (hm : 0 < m) (hm2 : m ≤ 192) : modF n m = n % m := by
  unfold modF
  have h1 := Int.tmod_lt_of_pos n hm
  have h2 : -m < n.tmod m := Int.lt_tmod_of_pos n hm
  have h3 : n.tmod m % m = n % m := by
    rw [Int.tmod_def, Int.sub_mul_emod_self_left]
  rw [wrap_i _ (by omega) (by omega), Int.tmod_eq_emod_of_nonneg (by omega), Int.add_emod_right, h3]
theorem outT_eq (t : V) : outT t = !(eqV t (bring2 t 24)) := by
  unfold eqV bring2
  simp only [mod2_eq (show (0 : Int) < 24 by decide) (show (24 : Int) ≤ 192 by decide)]
  have key : ∀ x : Int, (x == x % 24) = (!(decide (x < 0)) && !(decide (x ≥ 24))) := by
    intro x
    by_cases h : 0 ≤ x ∧ x < 24
    · rw [Int.emod_eq_of_lt h.1 h.2]
      have e1 : decide (x < 0) = false := by simp; omega
      have e2 : decide (x ≥ 24) = false := by simp; omega
      rw [e1, e2]; simp
    · have e0 : (x == x % 24) = false := by
        simp only [beq_eq_false_iff_ne]
        intro e
        have := Int.emod_nonneg x (show (24 : Int) ≠ 0 by decide)
        have := Int.emod_lt_of_pos x (show (0 : Int) < 24 by decide)
        omega
      rw [e0]
      by_cases h1 : x < 0
      · have : decide (x < 0) = true := by simpa using h1
        rw [this]; rfl
      · have : decide (x ≥ 24) = true := by simp; omega
        rw [this]; simp
  rw [key, key, key]
  unfold outT
  cases decide (t.x < 0) <;> cases decide (t.x ≥ 24) <;> cases decide (t.y < 0) <;> cases decide (t.y ≥ 24) <;> cases decide (t.z < 0) <;> cases decide (t.z ≥ 24) <;> rfl
theorem bad1_false {x m : Int} (h : bad1 x m = false) : -m ≤ x ∧ x ≤ m := by
  unfold bad1 at h
  cases h1 : decide (x < -m) with
  | true => rw [h1] at h; cases h
  | false =>
    rw [h1, cond_false] at h
    simp at h1 h
    omega
structure B3 (v : V) : Prop where
  x : -1000 ≤ v.x ∧ v.x ≤ 1000
  y : -1000 ≤ v.y ∧ v.y ≤ 1000
  z : -1000 ≤ v.z ∧ v.z ≤ 1000
theorem bad3_false {v : V} (h : bad3 v 1000 = false) : B3 v := by
  unfold bad3 at h
  cases h1 : bad1 v.x 1000 with
  | true => rw [h1] at h; cases h
  | false =>
    rw [h1, cond_false] at h
    cases h2 : bad1 v.y 1000 with
    | true => rw [h2] at h; cases h
    | false =>
      rw [h2, cond_false] at h
      exact ⟨bad1_false h1, bad1_false h2, bad1_false h⟩
structure B9 (m : M) : Prop where
  a : B3 m.a
  b : B3 m.b
  c : B3 m.c
theorem bey9_false {m : M} (h : bey9 m = false) : B9 m := by
  rw [bey9_eq] at h
  unfold out9 at h
  cases h1 : bad3 m.a 1000 with
  | true => rw [h1] at h; cases h
  | false =>
    rw [h1, cond_false] at h
    cases h2 : bad3 m.b 1000 with
    | true => rw [h2] at h; cases h
    | false =>
      rw [h2, cond_false] at h
      exact ⟨bad3_false h1, bad3_false h2, bad3_false h⟩
theorem dot3_w (a b c a' b' c' : Int) : dot3 a b c a' b' c' = w (a * a' + b * b' + c * c') := by
  unfold dot3
  simp only [w_al, w_ar]
theorem dotR_w (s a b c a' b' c' : Int) : dotR s a b c a' b' c' = w (s + a * a' + b * b' + c * c') := by
  unfold dotR
  simp only [w_al, w_ar]
theorem mulM_eq (a b : M) : mulM a b = mulRM a b := by
  unfold mulM mulRM rowR
  simp only [dot3_w, dotR_w, Int.zero_add]
theorem mulM_one {m : M} (h : B9 m) : mulM one3 m = m := by
  obtain ⟨⟨a1, a2, a3⟩, ⟨b1, b2, b3⟩, ⟨c1, c2, c3⟩⟩ := h
  have k : ∀ x : Int, -1000 ≤ x ∧ x ≤ 1000 → w x = x := fun x hx => wrap_i x (by omega) (by omega)
  unfold mulM one3
  simp only [dot3_w, Int.one_mul, Int.zero_mul, Int.add_zero, Int.zero_add]
  rw [k _ a1, k _ a2, k _ a3, k _ b1, k _ b2, k _ b3, k _ c1, k _ c2, k _ c3]
theorem opE_eq (o : O) : opE o = refE o := by
  unfold opE refE
  rw [outT_eq, bey9_eq]
  cases !(eqV o.t (bring2 o.t 24)) with
  | true => rfl
  | false =>
    simp only [cond_false]
    cases ho : out9 o.r with
    | true => rfl
    | false =>
      have hb : bey9 o.r = false := by rw [bey9_eq]; exact ho
      have h1 : bey9 (mulO oneO o).r = false := by
        show bey9 (mulM one3 o.r) = false
        rw [mulM_one (bey9_false hb)]; exact hb
      simp only [cond_false]
      rw [h1]
      unfold okD
      rw [det_eq]
      cases detR o.r != 1 with
      | false => rfl
      | true => cases detR o.r != -1 <;> rfl
theorem mapsG_eq : ∀ (g : List O) (a : Int), mapsG opE g a = mapsG refE g a
  | [], a => rfl
  | o :: r, a => by
    unfold mapsG
    rw [opE_eq, mapsG_eq r a, mapsG_eq r 4]

/-! ### Order -/
theorem cmpV_r (a b : V) (r : Int) : cmpV a b r = bif cmpV a b 0 != 0 then cmpV a b 0 else r := by
  unfold cmpV cmp2
  cases decide (a.x < b.x) <;> cases decide (a.x > b.x) <;> cases decide (a.y < b.y) <;> cases decide (a.y > b.y) <;> cases decide (a.z < b.z) <;> cases decide (a.z > b.z) <;> rfl
theorem cmpM_eq (a b : M) : cmpM a b 0 = cmpMR a b := by
  unfold cmpM cmpMR
  rw [cmpV_r a.a b.a, cmpV_r a.b b.b]
  have hc : (bif cmpV a.c b.c 0 != 0 then cmpV a.c b.c 0 else 0) = cmpV a.c b.c 0 := by
    cases h : cmpV a.c b.c 0 != 0 with
    | true => rfl
    | false => exact (by simpa using h : cmpV a.c b.c 0 = 0).symm
  rw [hc]
theorem cmpO_eq (a b : O) : cmpO a b = cmpOR a b := by
  unfold cmpO cmpOR
  rw [cmpM_eq]
theorem ascN_eq (g : List O) : ∀ (n i : Nat), ascN cmpO g n i = ascN cmpOR g n i
  | 0, i => rfl
  | n + 1, i => by
    unfold ascN
    split
    · rw [cmpO_eq, ascN_eq g n (i + 1)]
    · rfl

/-! ### Places of maps -/
theorem eqO_iff (a b : O) : eqO a b = true ↔ a = b := by
  obtain ⟨⟨⟨a1, a2, a3⟩, ⟨a4, a5, a6⟩, ⟨a7, a8, a9⟩⟩, ⟨a10, a11, a12⟩⟩ := a
  obtain ⟨⟨⟨b1, b2, b3⟩, ⟨b4, b5, b6⟩, ⟨b7, b8, b9⟩⟩, ⟨b10, b11, b12⟩⟩ := b
  unfold eqO
  simp only [Bool.and_eq_true, beq_iff_eq, and_true]
  constructor
  · rintro ⟨rfl, rfl, rfl, rfl, rfl, rfl, rfl, rfl, rfl, rfl, rfl, rfl⟩; rfl
  · intro h; cases h; simp
theorem keyO_inj {a b : O} (h : keyO a = keyO b) : a = b := by
  obtain ⟨⟨⟨a1, a2, a3⟩, ⟨a4, a5, a6⟩, ⟨a7, a8, a9⟩⟩, ⟨a10, a11, a12⟩⟩ := a
  obtain ⟨⟨⟨b1, b2, b3⟩, ⟨b4, b5, b6⟩, ⟨b7, b8, b9⟩⟩, ⟨b10, b11, b12⟩⟩ := b
  simp only [keyO, List.cons.injEq, and_true] at h
  obtain ⟨rfl, rfl, rfl, rfl, rfl, rfl, rfl, rfl, rfl, rfl, rfl, rfl⟩ := h
  rfl
theorem posO_iff (p : O) : ∀ (g : List O) (k : Nat), 0 ≤ posO p g k ↔ p ∈ g
  | [], k => by simp [posO]
  | x :: r, k => by
    unfold posO
    cases h : eqO x p with
    | true =>
      have := (eqO_iff x p).1 h
      subst this
      simp
    | false =>
      have hne : ¬ p = x := fun e => by subst e; rw [(eqO_iff p p).2 rfl] at h; cases h
      simp only [cond_false]
      rw [posO_iff p r (k + 1)]
      simp [hne]
theorem findE_put (k q : List Int) (v : LV) : ∀ (ms : List (List Int × LV)), (findE q (putE k v ms)).isSome = (k == q || (findE q ms).isSome)
  | [] => by
    unfold putE findE
    cases h : k == q <;> simp [findE]
  | (a, x) :: r => by
    unfold putE
    cases h : a == k with
    | true =>
      have : a = k := by simpa using h
      subst this
      simp only [cond_true]
      unfold findE
      cases h2 : a == q <;> simp
    | false =>
      simp only [cond_false]
      unfold findE
      cases h2 : a == q with
      | true => simp
      | false => simp only [cond_false]; exact findE_put k q v r
theorem plM_some (q : List Int) : ∀ (g : List O) (k : Nat) (ms : List (List Int × LV)), (findE q (plM g k ms)).isSome = (g.any (fun o => keyO o == q) || (findE q ms).isSome)
  | [], k, ms => by simp [plM]
  | o :: r, k, ms => by
    unfold plM
    rw [plM_some q r, findE_put, List.any_cons]
    cases keyO o == q <;> cases r.any (fun o => keyO o == q) <;> rfl
theorem hasO_iff (g : List O) (p : O) : hasO g p = true ↔ p ∈ g := by
  unfold hasO
  rw [plM_some]
  simp only [findE, Option.isSome_none, Bool.or_false, List.any_eq_true, beq_iff_eq]
  constructor
  · rintro ⟨x, h1, h2⟩; rw [← keyO_inj h2]; exact h1
  · intro h; exact ⟨p, h, rfl⟩
theorem hasO_pos (g : List O) (p : O) : hasO g p = !decide (posO p g 0 < 0) := by
  cases h : hasO g p with
  | true =>
    have := (posO_iff p g 0).2 ((hasO_iff g p).1 h)
    have : decide (posO p g 0 < 0) = false := by simp; omega
    rw [this]; rfl
  | false =>
    have h1 : ¬ 0 ≤ posO p g 0 := fun h2 => by
      have := (hasO_iff g p).2 ((posO_iff p g 0).1 h2)
      rw [h] at this; cases this
    have : decide (posO p g 0 < 0) = true := by simp; omega
    rw [this]; rfl
end E
end Go.Proofs.YtjhognibibmeiaaGreatDoor
