/-
  FLOATS, first part: what rounding leaves: bounds; nought and a number.
  FLOATS, second part: nought and a number.
  THE ROUNDED WAVE, first part: bits of floats, turns by their table. (The numbers of functions in the texts W.. are those of the seat ..Door.)
  THE ROUNDED WAVE, second part: turns, products, sums.
  THE ROUNDED WAVE, third part: sums; the wave.
-/
import Derived.Test.YtjhognibibmeiaaGreatDoorEt
import Derived.Test.YtjhognibibmeiaaGreatDoorLd
import Derived.Test.YtjhognibibmeiaaGreatDoorHw
section
set_option linter.unusedVariables false
set_option maxRecDepth 100000
set_option maxHeartbeats 4000000
namespace Go.Proofs.YtjhognibibmeiaaGreatDoor
namespace E
open Go Go.RowKit

abbrev FD : Ieee.Format := Ieee.double
theorem fdL : FD.leastPlace = -1074 := by decide
theorem fdB : FD.binade = 4503599627370496 := by decide
theorem fdI : FD.infRung = 2047 * 4503599627370496 := by decide
theorem fdS : FD.signWeight = 9223372036854775808 := by decide
theorem fdF : FD.fractionBits = 52 := rfl

/-- A number below 2^K. -/
def Bd (K : Int) (d : Ieee.Datum) : Prop := ∃ s m p, d = .number s m p ∧ (m = 0 ∨ (m.log2 : Int) + p < K)
def FB (K : Int) (x : Nat) : Prop := Bd K (FD.read x)
theorem Bd.mono {K K' : Int} {d : Ieee.Datum} (h : Bd K d) (hk : K ≤ K') : Bd K' d := by
  obtain ⟨s, m, p, h1, h2⟩ := h
  exact ⟨s, m, p, h1, h2.imp id fun h => by omega⟩
theorem lt_two {m k : Nat} (h : m ≠ 0) : m < 2 ^ k ↔ m.log2 < k := (Nat.log2_lt h).symm
theorem log2_le_of_lt {m k : Nat} (h : m < 2 ^ (k + 1)) : m.log2 ≤ k := by
  rcases Nat.eq_zero_or_pos m with h0 | h0
  · subst h0; exact Nat.zero_le _
  · have := (lt_two (by omega)).1 h; omega

/-- A rung read. -/
theorem read_word {neg : Bool} {r : Nat} (h : r < FD.infRung) : FD.read (FD.word neg r) = .number neg (if r < 4503599627370496 then r else 4503599627370496 + r % 4503599627370496) (-1074 + ((r / 4503599627370496 - 1 : Nat) : Int)) := by
  have hI := fdI
  rw [hI] at h
  unfold Ieee.Format.read
  simp only [fdS, fdB, fdI, fdL]
  have h1 : FD.word neg r / 9223372036854775808 % 2 = neg.toNat := by
    unfold Ieee.Format.word
    rw [fdS]
    cases neg <;> simp <;> omega
  have h2 : FD.word neg r % 9223372036854775808 = r := by
    unfold Ieee.Format.word
    rw [fdS]
    cases neg <;> simp <;> omega
  rw [h1, h2]
  have h3 : (neg.toNat == 1) = neg := by cases neg <;> rfl
  rw [h3]
  by_cases hr : r < 4503599627370496
  · rw [if_pos hr, if_pos hr]
    have : r / 4503599627370496 = 0 := Nat.div_eq_of_lt hr
    rw [this]
    rfl
  · rw [if_neg hr, if_neg hr, if_pos h]

theorem cut_le (neg : Bool) (n drop : Nat) : Ieee.Toward.even.cut neg n drop ≤ n / 2 ^ (min drop (n.log2 + 2)) + 1 := by
  unfold Ieee.Toward.cut
  simp only [Nat.one_shiftLeft]
  have : ∀ b : Bool, b.toNat ≤ 1 := fun b => by cases b <;> decide
  exact Nat.add_le_add_left (this _) _
theorem cut_zero (neg : Bool) (n : Nat) : Ieee.Toward.even.cut neg n 0 = n := by
  unfold Ieee.Toward.cut
  simp [Nat.mod_one]

theorem nearest_word {K : Int} (hK : -1000 ≤ K ∧ K ≤ 960) (neg : Bool) (m : Nat) (p : Int) (h : m = 0 ∨ (m.log2 : Int) + p < K) :
    ∃ r, FD.nearest neg m p = FD.word neg r ∧ r < FD.infRung ∧ Bd (K + 1) (FD.read (FD.word neg r)) ∧ (m ≠ 0 → -1074 ≤ p → r ≠ 0) := by
  unfold Ieee.Format.nearest
  by_cases hm : m = 0
  · rw [if_pos hm]
    refine ⟨0, rfl, by rw [fdI]; decide, ?_, fun h => absurd hm h⟩
    rw [read_word (by rw [fdI]; decide)]
    exact ⟨_, _, _, rfl, .inl rfl⟩
  · rw [if_neg hm]
    have hb : (m.log2 : Int) + p < K := h.resolve_left hm
    simp only [fdL, fdF, fdB, fdI]
    generalize hl : max (p + (m.log2 : Int) - ((52 : Nat) : Int)) (-1074) = last
    have hl1 : p + (m.log2 : Int) - 52 ≤ last := by omega
    have hl2 : -1074 ≤ last := by omega
    have hl3 : last ≤ K - 53 ∨ last = -1074 := by omega
    have hkept : Ieee.Toward.even.cut neg (m <<< (p - last).toNat) (last - p).toNat ≤ 9007199254740992 := by
      rcases Int.lt_or_le p last with hlt | hge
      · have e1 : (p - last).toNat = 0 := by omega
        rw [e1, Nat.shiftLeft_zero]
        refine Nat.le_trans (cut_le neg m _) ?_
        have h2 : m < 2 ^ (m.log2 + 1) := (lt_two hm).2 (Nat.lt_succ_self _)
        have h3 : m / 2 ^ (min (last - p).toNat (m.log2 + 2)) < 2 ^ 53 := by
          rw [Nat.div_lt_iff_lt_mul (Nat.two_pow_pos _), ← Nat.pow_add]
          refine Nat.lt_of_lt_of_le h2 (Nat.pow_le_pow_right (by decide) ?_)
          omega
        have h4 : (2 : Nat) ^ 53 = 9007199254740992 := by decide
        omega
      · have e1 : (last - p).toNat = 0 := by omega
        rw [e1, cut_zero, Nat.shiftLeft_eq]
        have h2 : m < 2 ^ (m.log2 + 1) := (lt_two hm).2 (Nat.lt_succ_self _)
        have h3 : m * 2 ^ (p - last).toNat < 2 ^ (m.log2 + 1) * 2 ^ (p - last).toNat := Nat.mul_lt_mul_of_pos_right h2 (Nat.two_pow_pos _)
        rw [← Nat.pow_add] at h3
        have h4 : 2 ^ (m.log2 + 1 + (p - last).toNat) ≤ 2 ^ 53 := Nat.pow_le_pow_right (by decide) (by omega)
        have h5 : (2 : Nat) ^ 53 = 9007199254740992 := by decide
        omega
    have hnz : last = -1074 → -1074 ≤ p → Ieee.Toward.even.cut neg (m <<< (p - last).toNat) (last - p).toNat ≠ 0 := by
      intro h1 h2
      have e1 : (last - p).toNat = 0 := by omega
      rw [e1, cut_zero, Nat.shiftLeft_eq]
      exact Nat.mul_ne_zero hm (Nat.pos_iff_ne_zero.1 (Nat.two_pow_pos _))
    generalize Ieee.Toward.even.cut neg (m <<< (p - last).toNat) (last - p).toNat = kept at hkept hnz
    have hq : (last - -1074).toNat = (last + 1074).toNat := by congr 1
    rw [hq]
    generalize hqq : (last + 1074).toNat = q
    have hq1 : q ≤ 1982 := by omega
    have hmin : min (q * 4503599627370496 + kept) (2047 * 4503599627370496) = q * 4503599627370496 + kept := by omega
    rw [hmin]
    refine ⟨_, rfl, by omega, ?_, fun _ hp => ?_⟩
    rotate_left
    · rcases hl3 with h4 | h4
      · rcases Nat.eq_zero_or_pos q with h5 | h5
        · have := hnz (by omega) hp
          omega
        · omega
      · have := hnz h4 hp
        omega
    rw [read_word (by rw [fdI]; omega)]
    refine ⟨_, _, _, rfl, ?_⟩
    by_cases hr : q * 4503599627370496 + kept < 4503599627370496
    · rw [if_pos hr]
      have h1 : (q * 4503599627370496 + kept).log2 ≤ 51 := log2_le_of_lt (by omega)
      have h2 : (q * 4503599627370496 + kept) / 4503599627370496 = 0 := Nat.div_eq_of_lt hr
      right
      rw [h2]
      omega
    · rw [if_neg hr]
      right
      have h1 : (4503599627370496 + (q * 4503599627370496 + kept) % 4503599627370496).log2 ≤ 52 := log2_le_of_lt (by omega)
      have h2 : (q * 4503599627370496 + kept) / 4503599627370496 ≤ q + 2 := by omega
      have h3 : 1 ≤ (q * 4503599627370496 + kept) / 4503599627370496 := by omega
      rcases hl3 with h4 | h4
      · omega
      · have : q = 0 := by omega
        omega

theorem nearest_bd {K : Int} (hK : -1000 ≤ K ∧ K ≤ 960) (neg : Bool) (m : Nat) (p : Int) (h : m = 0 ∨ (m.log2 : Int) + p < K) : FB (K + 1) (FD.nearest neg m p) := by
  obtain ⟨r, h1, _, h3, _⟩ := nearest_word hK neg m p h
  unfold FB
  rw [h1]; exact h3

theorem log2_add {a b : Nat} : (a + b).log2 ≤ max a.log2 b.log2 + 1 := by
  refine log2_le_of_lt ?_
  have h1 : a < 2 ^ (max a.log2 b.log2 + 1) := by
    rcases Nat.eq_zero_or_pos a with h | h
    · subst h; exact Nat.two_pow_pos _
    · exact (lt_two (by omega)).2 (by omega)
  have h2 : b < 2 ^ (max a.log2 b.log2 + 1) := by
    rcases Nat.eq_zero_or_pos b with h | h
    · subst h; exact Nat.two_pow_pos _
    · exact (lt_two (by omega)).2 (by omega)
  have h3 : 2 ^ (max a.log2 b.log2 + 1 + 1) = 2 ^ (max a.log2 b.log2 + 1) + 2 ^ (max a.log2 b.log2 + 1) := by rw [Nat.pow_succ]; omega
  omega
theorem log2_shl {m k : Nat} (h : m ≠ 0) : (m <<< k).log2 = m.log2 + k := by
  rw [Nat.shiftLeft_eq]
  have hne : m * 2 ^ k ≠ 0 := Nat.mul_ne_zero h (Nat.pos_iff_ne_zero.1 (Nat.two_pow_pos _))
  apply Nat.le_antisymm
  · refine log2_le_of_lt ?_
    rw [show m.log2 + k + 1 = (m.log2 + 1) + k by omega, Nat.pow_add]
    exact Nat.mul_lt_mul_of_pos_right ((lt_two h).2 (Nat.lt_succ_self _)) (Nat.two_pow_pos _)
  · rw [Nat.le_log2 hne, Nat.pow_add]
    exact Nat.mul_le_mul_right _ (Nat.log2_self_le h)
theorem natAbs_signed (s : Bool) (m u : Nat) : (Ieee.signed s m u).natAbs = m <<< u := by
  unfold Ieee.signed
  cases s
  · exact Int.natAbs_natCast (m <<< u)
  · exact (Int.natAbs_neg ((m <<< u : Nat) : Int)).trans (Int.natAbs_natCast (m <<< u))
/-- The sum of two numbers. -/
theorem sum_bd {K : Int} {x y : Ieee.Datum} (hx : Bd K x) (hy : Bd K y) : ∃ s m p, x.sum y = some (.number s m p) ∧ (m = 0 ∨ (m.log2 : Int) + p < K + 1) := by
  obtain ⟨s, m, i, rfl, h1⟩ := hx
  obtain ⟨t, n, j, rfl, h2⟩ := hy
  refine ⟨_, _, _, rfl, ?_⟩
  generalize hb : min i j = base
  generalize hT : Ieee.signed s m (i - base).toNat + Ieee.signed t n (j - base).toNat = T
  have habs : T.natAbs ≤ m <<< (i - base).toNat + n <<< (j - base).toNat := by
    rw [← hT]
    refine Nat.le_trans (Int.natAbs_add_le _ _) ?_
    rw [natAbs_signed, natAbs_signed]
    exact Nat.le_refl _
  rcases Nat.eq_zero_or_pos T.natAbs with h0 | h0
  · exact .inl h0
  · right
    have hm : ∀ (m : Nat) (i : Int), base ≤ i → (m = 0 ∨ (m.log2 : Int) + i < K) → m <<< (i - base).toNat = 0 ∨ ((m <<< (i - base).toNat).log2 : Int) + base < K := by
      intro m i hi h
      rcases Nat.eq_zero_or_pos m with h3 | h3
      · subst h3; exact .inl (Nat.zero_shiftLeft _)
      · right
        rw [log2_shl (by omega)]
        have := h.resolve_left (by omega)
        omega
    have e1 := hm m i (by omega) h1
    have e2 := hm n j (by omega) h2
    have hK : ∃ k : Nat, (k : Int) + base = K ∨ (K ≤ base ∧ k = 0) := by
      rcases Int.le_total base K with h | h
      · exact ⟨(K - base).toNat, .inl (by omega)⟩
      · exact ⟨0, .inr ⟨h, rfl⟩⟩
    obtain ⟨k, hk⟩ := hK
    have b1 : m <<< (i - base).toNat < 2 ^ k := by
      rcases e1 with e | e
      · rw [e]; exact Nat.two_pow_pos _
      · rcases Nat.eq_zero_or_pos (m <<< (i - base).toNat) with h3 | h3
        · rw [h3]; exact Nat.two_pow_pos _
        · refine (lt_two (by omega)).2 ?_
          omega
    have b2 : n <<< (j - base).toNat < 2 ^ k := by
      rcases e2 with e | e
      · rw [e]; exact Nat.two_pow_pos _
      · rcases Nat.eq_zero_or_pos (n <<< (j - base).toNat) with h3 | h3
        · rw [h3]; exact Nat.two_pow_pos _
        · refine (lt_two (by omega)).2 ?_
          omega
    have b3 : T.natAbs < 2 ^ (k + 1) := by rw [Nat.pow_succ]; omega
    have b4 : T.natAbs.log2 < k + 1 := (lt_two (by omega)).1 b3
    rcases hk with hk | ⟨hk, rfl⟩
    · omega
    · exfalso
      simp at b1 b2
      omega
theorem add_fb {K : Int} (hK : -1001 ≤ K ∧ K ≤ 959) {x y : Nat} (hx : FB K x) (hy : FB K y) : ∃ r, FD.add x y = some r ∧ FB (K + 2) r := by
  obtain ⟨s, m, p, h1, h2⟩ := sum_bd hx hy
  refine ⟨FD.nearest s m p, ?_, ?_⟩
  · unfold Ieee.Format.add; rw [h1]; rfl
  · have := nearest_bd (K := K + 1) (by omega) s m p h2
    rwa [show K + 1 + 1 = K + 2 by omega] at this
theorem Bd.opp {K : Int} {d : Ieee.Datum} (h : Bd K d) : Bd K d.opposite := by
  obtain ⟨s, m, p, rfl, h2⟩ := h
  exact ⟨_, _, _, rfl, h2⟩
theorem sub_fb {K : Int} (hK : -1001 ≤ K ∧ K ≤ 959) {x y : Nat} (hx : FB K x) (hy : FB K y) : ∃ r, FD.sub x y = some r ∧ FB (K + 2) r := by
  obtain ⟨s, m, p, h1, h2⟩ := sum_bd hx (Bd.opp hy)
  refine ⟨FD.nearest s m p, ?_, ?_⟩
  · unfold Ieee.Format.sub; rw [h1]; rfl
  · have := nearest_bd (K := K + 1) (by omega) s m p h2
    rwa [show K + 1 + 1 = K + 2 by omega] at this
theorem log2_mul {a b : Nat} (ha : a ≠ 0) (hb : b ≠ 0) : (a * b).log2 ≤ a.log2 + b.log2 + 1 := by
  refine log2_le_of_lt ?_
  have h1 := (lt_two ha).2 (Nat.lt_succ_self a.log2)
  have h2 := (lt_two hb).2 (Nat.lt_succ_self b.log2)
  rw [show a.log2 + b.log2 + 1 + 1 = a.log2.succ + b.log2.succ by omega, Nat.pow_add]
  exact Nat.mul_lt_mul'' h1 h2
theorem mul_fb {K J : Int} (hK : -1000 ≤ K + J ∧ K + J ≤ 960) {x y : Nat} (hx : FB K x) (hy : FB J y) : ∃ r, FD.mul x y = some r ∧ FB (K + J + 1) r := by
  obtain ⟨s, m, i, h1, h2⟩ := hx
  obtain ⟨t, n, j, h3, h4⟩ := hy
  refine ⟨FD.nearest (s ^^ t) (m * n) (i + j), ?_, ?_⟩
  · unfold Ieee.Format.mul; rw [h1, h3]; rfl
  · refine nearest_bd hK _ _ _ ?_
    rcases Nat.eq_zero_or_pos m with h5 | h5
    · left; rw [h5]; simp
    · rcases Nat.eq_zero_or_pos n with h6 | h6
      · left; rw [h6]; simp
      · right
        have h7 := log2_mul (a := m) (b := n) (by omega) (by omega)
        have h8 := h2.resolve_left (by omega)
        have h9 := h4.resolve_left (by omega)
        omega
end E
end Go.Proofs.YtjhognibibmeiaaGreatDoor
end

section
set_option linter.unusedVariables false
set_option maxHeartbeats 400000
namespace Go.Proofs.YtjhognibibmeiaaGreatDoor
namespace E
open Go Go.RowKit

/-! ### Nought and a number -/
/-- A finite number that is not -0. -/
def CF (x : Nat) : Prop := ∃ s r, x = FD.word s r ∧ r < FD.infRung ∧ (s = true → r ≠ 0)
theorem cut_exact (neg : Bool) (m k : Nat) (hm : m ≠ 0) : Ieee.Toward.even.cut neg (m <<< k) k = m := by
  have h1 : min k ((m <<< k).log2 + 2) = k := by rw [log2_shl hm]; omega
  have h0 : 1 <<< k = 2 ^ k := by rw [Nat.shiftLeft_eq, Nat.one_mul]
  have h2 : (m <<< k) / 2 ^ k = m := by rw [Nat.shiftLeft_eq]; exact Nat.mul_div_cancel _ (Nat.two_pow_pos _)
  have h3 : (m <<< k) % 2 ^ k = 0 := by rw [Nat.shiftLeft_eq]; exact Nat.mul_mod_left _ _
  unfold Ieee.Toward.cut
  simp only [h1, h0, h2, h3]
  have h5 : (2 ^ k == 2 * 0) = false := by
    have := Nat.two_pow_pos k
    rw [beq_eq_false_iff_ne]
    omega
  rw [h5]
  simp
theorem nearest_back (s : Bool) {r : Nat} (hr : r < FD.infRung) (h0 : r ≠ 0) :
    FD.nearest s ((if r < 4503599627370496 then r else 4503599627370496 + r % 4503599627370496) <<< (r / 4503599627370496 - 1)) (-1074) = FD.word s r := by
  have hI := fdI
  rw [hI] at hr
  have hm : (if r < 4503599627370496 then r else 4503599627370496 + r % 4503599627370496) ≠ 0 := by split <;> omega
  unfold Ieee.Format.nearest
  generalize hk : r / 4503599627370496 - 1 = k
  generalize hmm : (if r < 4503599627370496 then r else 4503599627370496 + r % 4503599627370496) = m at hm
  have hU : m <<< k ≠ 0 := by
    rw [Nat.shiftLeft_eq]
    exact Nat.mul_ne_zero hm (Nat.pos_iff_ne_zero.1 (Nat.two_pow_pos _))
  rw [if_neg hU]
  simp only [fdL, fdF, fdB, fdI]
  rw [log2_shl hm]
  have hlog : (r < 4503599627370496 ∧ m = r ∧ k = 0 ∧ m.log2 ≤ 51) ∨ (¬ r < 4503599627370496 ∧ m = 4503599627370496 + r % 4503599627370496 ∧ m.log2 = 52) := by
    by_cases h : r < 4503599627370496
    · rw [if_pos h] at hmm
      subst hmm
      exact .inl ⟨h, rfl, by rw [← hk, Nat.div_eq_of_lt h], log2_le_of_lt (by omega)⟩
    · rw [if_neg h] at hmm
      subst hmm
      refine .inr ⟨h, rfl, Nat.le_antisymm (log2_le_of_lt (by omega)) ?_⟩
      rw [Nat.le_log2 (by omega)]
      omega
  have hlast : max (-1074 + ((m.log2 + k : Nat) : Int) - ((52 : Nat) : Int)) (-1074) = -1074 + (k : Int) := by
    rcases hlog with ⟨h1, h2, h3, h4⟩ | ⟨h1, h2, h3⟩ <;> omega
  rw [hlast]
  have e1 : (-1074 - (-1074 + (k : Int))).toNat = 0 := by omega
  have e2 : (-1074 + (k : Int) - -1074).toNat = k := by omega
  have hc : Ieee.Toward.even.cut s (m <<< k <<< (-1074 - (-1074 + (k : Int))).toNat) (-1074 + (k : Int) - -1074).toNat = m := by
    rw [e1, e2, Nat.shiftLeft_zero]
    exact cut_exact s m k hm
  rw [hc, e2]
  clear hc e1 e2 hlast hU hmm
  have hfin : min (k * 4503599627370496 + m) (2047 * 4503599627370496) = r := by
    rcases hlog with ⟨h1, h2, h3, h4⟩ | ⟨h1, h2, h3⟩ <;> omega
  exact congrArg (FD.word s) hfin
theorem nearest_zero (s : Bool) (p : Int) : FD.nearest s 0 p = FD.word s 0 := by
  unfold Ieee.Format.nearest
  rw [if_pos rfl]
theorem read_zero : FD.read 0 = .number false 0 (-1074) := by
  have h := read_word (neg := false) (r := 0) (by rw [fdI]; decide)
  have hw : FD.word false 0 = 0 := by unfold Ieee.Format.word; rfl
  rw [hw, if_pos (by decide)] at h
  rw [h, show (0 / 4503599627370496 - 1 : Nat) = 0 by decide]
  rfl
theorem zero_add_f {y : Nat} (h : CF y) : FD.add 0 y = some y := by
  obtain ⟨s, r, rfl, hr, h0⟩ := h
  unfold Ieee.Format.add
  rw [read_zero, read_word hr]
  generalize hm : (if r < 4503599627370496 then r else 4503599627370496 + r % 4503599627370496) = m
  generalize hk : r / 4503599627370496 - 1 = k
  have hsum : (Ieee.Datum.number false 0 (-1074)).sum (.number s m (-1074 + (k : Int))) = some (.number (if Ieee.signed s m k = 0 then false && s else decide (Ieee.signed s m k < 0)) (m <<< k) (-1074)) := by
    unfold Ieee.Datum.sum
    have hbase : min (-1074 : Int) (-1074 + (k : Int)) = -1074 := by omega
    have e1 : (-1074 + (k : Int) - -1074).toNat = k := by omega
    have e2 : Ieee.signed false 0 (-1074 - -1074 : Int).toNat = 0 := by decide
    simp only [hbase, e1, e2, Int.zero_add, natAbs_signed]
  rw [hsum]
  show some (FD.nearest _ (m <<< k) (-1074)) = _
  by_cases hr0 : r = 0
  · have hs : s = false := by
      cases s with
      | false => rfl
      | true => exact absurd hr0 (h0 rfl)
    have hm0 : m = 0 := by rw [← hm, if_pos (by omega), hr0]
    rw [hs, hm0, hr0, Nat.zero_shiftLeft, nearest_zero]
    have : Ieee.signed false 0 k = 0 := by unfold Ieee.signed; simp
    rw [this, if_pos rfl]
    rfl
  · have hmne : m ≠ 0 := by rw [← hm]; split <;> omega
    have hpos : 0 < m <<< k := by
      rw [Nat.shiftLeft_eq]
      exact Nat.mul_pos (by omega) (Nat.two_pow_pos _)
    have hsg : (if Ieee.signed s m k = 0 then false && s else decide (Ieee.signed s m k < 0)) = s := by
      unfold Ieee.signed
      generalize m <<< k = u at hpos
      cases s with
      | false =>
        simp only [Bool.false_eq_true, if_false]
        rw [if_neg (by omega)]
        exact decide_eq_false (by omega)
      | true =>
        simp only [if_true]
        rw [if_neg (by omega)]
        exact decide_eq_true (by omega)
    have := nearest_back s hr hr0
    rw [hm, hk] at this
    rw [hsg, this]

theorem read_place {y : Nat} {s : Bool} {m : Nat} {p : Int} (h : FD.read y = .number s m p) : -1074 ≤ p := by
  unfold Ieee.Format.read at h
  simp only [fdL] at h
  split at h
  · injection h with _ _ h; omega
  · split at h
    · injection h with _ _ h; omega
    · split at h <;> cases h
theorem add_cf {K : Int} (hK : -1001 ≤ K ∧ K ≤ 959) {x y : Nat} (hc : CF x) (hx : FB K x) (hy : FB K y) : ∃ r, FD.add x y = some r ∧ FB (K + 2) r ∧ CF r := by
  obtain ⟨s0, m0, p0, e0, h2⟩ := sum_bd hx hy
  obtain ⟨r, h3, h4, h5, h6⟩ := nearest_word (K := K + 1) (by omega) s0 m0 p0 h2
  refine ⟨FD.word s0 r, ?_, ?_, s0, r, rfl, h4, fun hs => ?_⟩
  · unfold Ieee.Format.add
    rw [e0, ← h3]
    rfl
  · unfold FB
    rwa [show K + 2 = K + 1 + 1 by omega]
  · obtain ⟨s, rx, hxw, hrx, hsr⟩ := hc
    obtain ⟨t, n, j, hy1, hy2⟩ := hy
    have hj := read_place hy1
    rw [hxw, read_word hrx, hy1] at e0
    have hmx : rx ≠ 0 → (if rx < 4503599627370496 then rx else 4503599627370496 + rx % 4503599627370496) ≠ 0 := fun h => by split <;> omega
    generalize (if rx < 4503599627370496 then rx else 4503599627370496 + rx % 4503599627370496) = m at e0 hmx
    generalize hi : (-1074 + ((rx / 4503599627370496 - 1 : Nat) : Int)) = i at e0
    have hi2 : -1074 ≤ i := by omega
    clear hi
    unfold Ieee.Datum.sum at e0
    simp only [Option.some.injEq, Ieee.Datum.number.injEq] at e0
    obtain ⟨e1, e2, e3⟩ := e0
    refine h6 ?_ (by omega)
    intro hm0
    rw [hm0] at e2
    have hT : Ieee.signed s m (i - min i j).toNat + Ieee.signed t n (j - min i j).toNat = 0 := Int.natAbs_eq_zero.1 e2
    rw [hT, if_pos rfl] at e1
    rw [hs, Bool.and_eq_true] at e1
    obtain ⟨hs1, ht1⟩ := e1
    subst hs1 ht1
    have hne := hmx (hsr rfl)
    have esg : ∀ m u : Nat, Ieee.signed true m u = -((m <<< u : Nat) : Int) := fun _ _ => rfl
    rw [esg, esg] at hT
    have hpos : 0 < m <<< (i - min i j).toNat := by
      rw [Nat.shiftLeft_eq]
      exact Nat.mul_pos (by omega) (Nat.two_pow_pos _)
    generalize m <<< (i - min i j).toNat = u at hT hpos
    generalize n <<< (j - min i j).toNat = v at hT
    omega
theorem cf_zero : CF 0 := ⟨false, 0, by unfold Ieee.Format.word; rfl, by rw [fdI]; decide, fun h => by cases h⟩
theorem fb_zero {K : Int} : FB K 0 := ⟨_, _, _, read_zero, .inl rfl⟩
end E
end Go.Proofs.YtjhognibibmeiaaGreatDoor
end

section
set_option linter.unusedVariables false
set_option maxRecDepth 100000
set_option maxHeartbeats 4000000
namespace Go.Proofs.YtjhognibibmeiaaGreatDoor
namespace E
open Go Go.RowKit

def SD59 : PSpec := fun as0 K =>
  match as0 with
  | [.v (.float .f64 n)] => K (.v (.int .u64 n))
  | _ => False
theorem SD59_fun : PFun SD59 := by
  intro as0 k hk
  unfold SD59 at hk
  split at hk
  · exact ⟨_, hk, fun k' h' => h'⟩
  · exact hk.elim
theorem sD59 : SoundA PR GL 59 SD59 := by
  intro args K hk R vals w hR hg hr
  unfold SD59 at hk
  split at hk
  · rename_i n
    obtain ⟨v, rfl, hv⟩ : ∃ v, vals = [v] ∧ RRel R w (.v (.float .f64 n)) v := by
      match vals, hr with
      | [v], hr => exact ⟨v, rfl, hr.2 0 _ _ rfl rfl⟩
      | [], hr => have := hr.1; simp at this
      | _ :: _ :: _, hr => have := hr.1; simp at this
    cases hv
    refine .inr ⟨.int .u64 n, w, ?_, _, hk, .v _, Below.refl _ _, Nat.le_refl _⟩
    rw [run_callFunc_extern (e := Extern.MathFloatBits.float64bits) Tryz.func59 (by kernel_rfl) rfl (by kernel_rfl) (by kernel_rfl)]
    rfl
  · exact hk.elim
noncomputable def eD59 : Ent := entA sD59 SD59_fun
/-- Floats alike. -/
def SD32 : PSpec := espec (fun b : Nat => [Fl b, Fl b]) (fun _ => True) (fun _ => Bo true)
theorem sD32 : SoundA PR GL 32 SD32 := mkA [eD59] 0 Tryz.func32 (by kernel_rfl) (by kernel_rfl) fun args K hk => by
  obtain ⟨b, rfl, _, hk⟩ := hk
  conv => whnf
  refine pickB_yes (beq_self_eq_true _) ?_
  conv => whnf
  exact hk
noncomputable def eD32 : Ent := entA sD32 espec_fun
def SD9 : PSpec := espec (fun x : Nat × Nat => [Cx x.1 x.2, Cx x.1 x.2]) (fun _ => True) (fun _ => Bo true)
theorem sD9 : SoundA PR GL 9 SD9 := mkA [eD32] 0 Tryz.func9 (by kernel_rfl) (by kernel_rfl) fun args K hk => by
  obtain ⟨⟨a, b⟩, rfl, _, hk⟩ := hk
  conv => whnf
  refine ⟨a, rfl, trivial, ?_⟩
  conv => whnf
  refine ⟨b, rfl, trivial, ?_⟩
  conv => whnf
  exact hk
noncomputable def eD9 : Ent := entA sD9 espec_fun

/-! ### The cosines of parts of a turn -/
def cosQ (k : Nat) : Int :=
  match gl1[k]? with
  | some (.int _ n) => n
  | _ => 0
def cosLV : List LV := (gl1.take 48).map .v
def quaLV : List LV := gl1.map .v
theorem cosLV_eq : cosLV = (List.range 48).map fun k => LV.v (.int .u64 (cosQ k)) := by kernel_rfl
theorem quaLV_eq : quaLV = (List.range 49).map fun k => LV.v (.int .u64 (cosQ k)) := by kernel_rfl
theorem cos_get {k : Nat} (h : k < 48) : cosLV[k]? = some (.v (.int .u64 (cosQ k))) := by
  rw [cosLV_eq, List.getElem?_map, List.getElem?_range h]; rfl
theorem qua_get {k : Nat} (h : k < 49) : quaLV[k]? = some (.v (.int .u64 (cosQ k))) := by
  rw [quaLV_eq, List.getElem?_map, List.getElem?_range h]; rfl
theorem cos_get2 {i k : Nat} (h : k < 48) (hi : i = k) : cosLV[i]? = some (.v (.int .u64 (cosQ k))) := by rw [hi]; exact cos_get h
theorem qua_get2 {i k : Nat} (h : k < 49) (hi : i = k) : quaLV[i]? = some (.v (.int .u64 (cosQ k))) := by rw [hi]; exact qua_get h
def half (k : Nat) : Nat := if 96 < k then 192 - k else k
/-- The bits of the cosine of k of 192 parts. -/
def cosN (k : Nat) : Nat := if half k < 48 then (cosQ (half k)).toNat else if 48 < half k then Op.negFloat .f64 (cosQ (96 - half k)).toNat else 0
def SD73 : PSpec := espec (fun j : Nat => [I (j : Int)]) (fun j => j < 1000000) (fun j => Fl (cosN (j % 192)))
theorem sD73 : SoundA PR GL 73 SD73 := mkA [e86, e85] 0 Tryz.func73 (by kernel_rfl) (by kernel_rfl) fun args K hk => by
  obtain ⟨j, rfl, hj, hk⟩ := hk
  replace hk : K (Fl (cosN (j % 192))) := hk
  have hm : (j : Int).tmod 192 = ((j % 192 : Nat) : Int) := by rw [Int.tmod_eq_emod_of_nonneg (by omega)]; omega
  have hlt : j % 192 < 192 := Nat.mod_lt _ (by decide)
  have hN : ∀ q : Nat, half (j % 192) = q → q < 97 → q < 48 → K (Fl (cosQ q).toNat) := fun q h _ h2 => by
    rw [cosN, h, if_pos h2] at hk; exact hk
  have hM : ∀ q : Nat, half (j % 192) = q → 48 < q → K (Fl (Op.negFloat .f64 (cosQ (96 - q)).toNat)) := fun q h h2 => by
    rw [cosN, h, if_neg (by omega), if_pos h2] at hk; exact hk
  have hZ : half (j % 192) = 48 → K (Fl 0) := fun h => by
    rw [cosN, h] at hk; exact hk
  clear hk
  conv => whnf
  rw [hm]
  refine pickB_of (fun h1 => ?_) (fun h1 => ?_)
  all_goals
    have hh : half (j % 192) ≤ 96 := by unfold half; split <;> omega
  · have h1' : 96 < j % 192 := by simp at h1; omega
    have hR : IntKind.i64.wrap (192 - ((j % 192 : Nat) : Int)) = ((half (j % 192) : Nat) : Int) := by
      show w _ = _
      unfold half
      rw [if_pos h1', wrap_i _ (by omega) (by omega)]
      omega
    generalize half (j % 192) = q at hN hM hZ hh hR
    conv => whnf
    refine pickB_of (fun h2 => ?_) (fun h2 => ?_)
    · rw [hR] at h2
      have h2' : q < 48 := by simp at h2; omega
      conv => whnf
      refine idxB_iff.2 ⟨by rw [hR]; omega, by rw [hR]; omega, ?_⟩
      conv => whnf
      refine getK_iff.2 ⟨_, cos_get2 h2' (by rw [hR]; show ((q : Nat) : Int).toNat * 1 = q; simp), ?_⟩
      conv => whnf
      exact hN q rfl (by omega) h2'
    · rw [hR] at h2
      have h2' : 48 ≤ q := by simp at h2; omega
      conv => whnf
      refine pickB_of (fun h3 => ?_) (fun h3 => ?_)
      · rw [hR] at h3
        have h3' : 48 < q := by simp at h3; omega
        have hR2 : IntKind.i64.wrap (96 - IntKind.i64.wrap (192 - ((j % 192 : Nat) : Int))) = ((96 - q : Nat) : Int) := by
          rw [hR]
          show w _ = _
          rw [wrap_i _ (by omega) (by omega)]
          omega
        conv => whnf
        refine idxB_iff.2 ⟨by rw [hR2]; omega, by rw [hR2]; omega, ?_⟩
        conv => whnf
        refine getK_iff.2 ⟨_, cos_get2 (k := 96 - q) (by omega) (by rw [hR2]; show ((96 - q : Nat) : Int).toNat * 1 = 96 - q; simp), ?_⟩
        conv => whnf
        exact hM q rfl h3'
      · rw [hR] at h3
        have h3' : q = 48 := by simp at h3; omega
        conv => whnf
        exact hZ h3'
  · have h1' : ¬ 96 < j % 192 := by simp at h1; omega
    have hR : ((j % 192 : Nat) : Int) = ((half (j % 192) : Nat) : Int) := by
      unfold half
      rw [if_neg h1']
    generalize half (j % 192) = q at hN hM hZ hh hR
    conv => whnf
    refine pickB_of (fun h2 => ?_) (fun h2 => ?_)
    · rw [hR] at h2
      have h2' : q < 48 := by simp at h2; omega
      conv => whnf
      refine idxB_iff.2 ⟨by rw [hR]; omega, by rw [hR]; omega, ?_⟩
      conv => whnf
      refine getK_iff.2 ⟨_, cos_get2 h2' (by rw [hR]; show ((q : Nat) : Int).toNat * 1 = q; simp), ?_⟩
      conv => whnf
      exact hN q rfl (by omega) h2'
    · rw [hR] at h2
      have h2' : 48 ≤ q := by simp at h2; omega
      conv => whnf
      refine pickB_of (fun h3 => ?_) (fun h3 => ?_)
      · rw [hR] at h3
        have h3' : 48 < q := by simp at h3; omega
        have hR2 : IntKind.i64.wrap (96 - ((j % 192 : Nat) : Int)) = ((96 - q : Nat) : Int) := by
          rw [hR]
          show w _ = _
          rw [wrap_i _ (by omega) (by omega)]
          omega
        conv => whnf
        refine idxB_iff.2 ⟨by rw [hR2]; omega, by rw [hR2]; omega, ?_⟩
        conv => whnf
        refine getK_iff.2 ⟨_, cos_get2 (k := 96 - q) (by omega) (by rw [hR2]; show ((96 - q : Nat) : Int).toNat * 1 = 96 - q; simp), ?_⟩
        conv => whnf
        exact hM q rfl h3'
      · rw [hR] at h3
        have h3' : q = 48 := by simp at h3; omega
        conv => whnf
        exact hZ h3'
noncomputable def eD73 : Ent := entA sD73 espec_fun
/-- The reference's. -/
def SD86 : PSpec := espec (fun k : Nat => [I (k : Int)]) (fun k => k < 192) (fun k => Fl (cosN k))
theorem sD86 : SoundA PR GL 86 SD86 := mkA [e85] 0 Tryz.func86 (by kernel_rfl) (by kernel_rfl) fun args K hk => by
  obtain ⟨k, rfl, hlt, hk⟩ := hk
  replace hlt : k < 192 := hlt
  replace hk : K (Fl (cosN k)) := hk
  have hz : (cosQ 48).toNat = 0 := by kernel_rfl
  have hN : ∀ q : Nat, half k = q → q ≤ 48 → K (Fl (cosQ q).toNat) := fun q h h2 => by
    rw [cosN, h] at hk
    rcases Nat.lt_or_ge q 48 with h3 | h3
    · rw [if_pos h3] at hk; exact hk
    · have : q = 48 := by omega
      subst this
      rw [hz]; exact hk
  have hM : ∀ q : Nat, half k = q → 48 < q → K (Fl (Op.negFloat .f64 (cosQ (96 - q)).toNat)) := fun q h h2 => by
    rw [cosN, h, if_neg (by omega), if_pos h2] at hk; exact hk
  clear hk hz
  conv => whnf
  refine pickB_of (fun h1 => ?_) (fun h1 => ?_)
  all_goals
    have hh : half k ≤ 96 := by unfold half; split <;> omega
  · have h1' : 96 < k := by simp at h1; omega
    have hR : IntKind.i64.wrap (192 - (k : Int)) = ((half k : Nat) : Int) := by
      show w _ = _
      unfold half
      rw [if_pos h1', wrap_i _ (by omega) (by omega)]
      omega
    generalize half k = q at hN hM hh hR
    conv => whnf
    refine pickB_of (fun h2 => ?_) (fun h2 => ?_)
    · rw [hR] at h2
      have h2' : 48 < q := by simp at h2; omega
      have hR2 : IntKind.i64.wrap (96 - IntKind.i64.wrap (192 - (k : Int))) = ((96 - q : Nat) : Int) := by
        rw [hR]
        show w _ = _
        rw [wrap_i _ (by omega) (by omega)]
        omega
      conv => whnf
      refine idxB_iff.2 ⟨by rw [hR2]; omega, by rw [hR2]; omega, ?_⟩
      conv => whnf
      refine getK_iff.2 ⟨_, qua_get2 (k := 96 - q) (by omega) (by rw [hR2]; show 0 + ((96 - q : Nat) : Int).toNat * 1 = 96 - q; simp), ?_⟩
      conv => whnf
      exact hM q rfl h2'
    · rw [hR] at h2
      have h2' : q ≤ 48 := by simp at h2; omega
      conv => whnf
      refine idxB_iff.2 ⟨by rw [hR]; omega, by rw [hR]; omega, ?_⟩
      conv => whnf
      refine getK_iff.2 ⟨_, qua_get2 (k := q) (by omega) (by rw [hR]; show 0 + ((q : Nat) : Int).toNat * 1 = q; simp), ?_⟩
      conv => whnf
      exact hN q rfl h2'
  · have h1' : ¬ 96 < k := by simp at h1; omega
    have hR : (k : Int) = ((half k : Nat) : Int) := by
      unfold half
      rw [if_neg h1']
    generalize half k = q at hN hM hh hR
    conv => whnf
    refine pickB_of (fun h2 => ?_) (fun h2 => ?_)
    · rw [hR] at h2
      have h2' : 48 < q := by simp at h2; omega
      have hR2 : IntKind.i64.wrap (96 - (k : Int)) = ((96 - q : Nat) : Int) := by
        rw [hR]
        show w _ = _
        rw [wrap_i _ (by omega) (by omega)]
        omega
      conv => whnf
      refine idxB_iff.2 ⟨by rw [hR2]; omega, by rw [hR2]; omega, ?_⟩
      conv => whnf
      refine getK_iff.2 ⟨_, qua_get2 (k := 96 - q) (by omega) (by rw [hR2]; show 0 + ((96 - q : Nat) : Int).toNat * 1 = 96 - q; simp), ?_⟩
      conv => whnf
      exact hM q rfl h2'
    · rw [hR] at h2
      have h2' : q ≤ 48 := by simp at h2; omega
      conv => whnf
      refine idxB_iff.2 ⟨by rw [hR]; omega, by rw [hR]; omega, ?_⟩
      conv => whnf
      refine getK_iff.2 ⟨_, qua_get2 (k := q) (by omega) (by rw [hR]; show 0 + ((q : Nat) : Int).toNat * 1 = q; simp), ?_⟩
      conv => whnf
      exact hN q rfl h2'
noncomputable def eD86 : Ent := entA sD86 espec_fun
end E
end Go.Proofs.YtjhognibibmeiaaGreatDoor
end

section
set_option linter.unusedVariables false
set_option maxRecDepth 100000
set_option maxHeartbeats 4000000
namespace Go.Proofs.YtjhognibibmeiaaGreatDoor
namespace E
open Go Go.RowKit

def fadd (x y : Nat) : Nat := (FD.add x y).getD 0
def fsub (x y : Nat) : Nat := (FD.sub x y).getD 0
def fmul (x y : Nat) : Nat := (FD.mul x y).getD 0
theorem fadd_ok {K : Int} (hK : -1001 ≤ K ∧ K ≤ 959) {x y : Nat} (hx : FB K x) (hy : FB K y) : FD.add x y = some (fadd x y) ∧ FB (K + 2) (fadd x y) := by
  obtain ⟨r, h1, h2⟩ := add_fb hK hx hy
  unfold fadd; rw [h1]; exact ⟨rfl, h2⟩
theorem fsub_ok {K : Int} (hK : -1001 ≤ K ∧ K ≤ 959) {x y : Nat} (hx : FB K x) (hy : FB K y) : FD.sub x y = some (fsub x y) ∧ FB (K + 2) (fsub x y) := by
  obtain ⟨r, h1, h2⟩ := sub_fb hK hx hy
  unfold fsub; rw [h1]; exact ⟨rfl, h2⟩
theorem fmul_ok {K J : Int} (hK : -1000 ≤ K + J ∧ K + J ≤ 960) {x y : Nat} (hx : FB K x) (hy : FB J y) : FD.mul x y = some (fmul x y) ∧ FB (K + J + 1) (fmul x y) := by
  obtain ⟨r, h1, h2⟩ := mul_fb hK hx hy
  unfold fmul; rw [h1]; exact ⟨rfl, h2⟩
theorem FB.mono {K K' : Int} {x : Nat} (h : FB K x) (hk : K ≤ K') : FB K' x := Bd.mono h hk
theorem fltK_of {op : BinOp} {a b r : Nat} {k : Nat → Prop} (h : fltArith op .f64 a b = some r) (hk : k r) : fltK op .f64 a b k := by
  unfold fltK; rw [h]; exact hk

/-! ### Turns -/
def tk (p m : Int) : Nat := (p * (192 / m)).toNat
abbrev Cp (t : Nat × Nat) : LV := Cx t.1 t.2
def turnP (p m : Int) : Nat × Nat := (cosN (tk p m), cosN ((tk p m + 144) % 192))
theorem tk_lt {p m : Int} (h4 : Is4 m) (hp : 0 ≤ p ∧ p < m) : tk p m < 192 := by
  unfold tk
  cases h4 <;> omega
theorem turn_raw {p m : Int} (h4 : Is4 m) (hp : 0 ≤ p ∧ p < m) : w ((w (p.tmod m + m)).tmod m * w ((192 : Int).tdiv m)) = ((tk p m : Nat) : Int) := by
  have h1 : p.tmod m = p := Int.tmod_eq_of_lt hp.1 hp.2
  have hm := h4.pos
  rw [h1, wrap_i (p + m) (by omega) (by omega), Int.tmod_eq_emod_of_nonneg (by omega), Int.add_emod_right, Int.emod_eq_of_lt hp.1 hp.2]
  unfold tk
  have k1 : w ((192 : Int).tdiv 24) = 8 := by decide
  have k2 : w ((192 : Int).tdiv 48) = 4 := by decide
  have k3 : w ((192 : Int).tdiv 96) = 2 := by decide
  have k4 : w ((192 : Int).tdiv 192) = 1 := by decide
  cases h4
  · rw [k1, wrap_i _ (by omega) (by omega)]; omega
  · rw [k2, wrap_i _ (by omega) (by omega)]; omega
  · rw [k3, wrap_i _ (by omega) (by omega)]; omega
  · rw [k4, wrap_i _ (by omega) (by omega)]; omega
def SD49 : PSpec := espec (fun x : Int × Int => [I x.1, I x.2]) (fun x => Is4 x.2 ∧ 0 ≤ x.1 ∧ x.1 < x.2) (fun x => Er (Cp (turnP x.1 x.2)) 0)
theorem sD49 : SoundA PR GL 49 SD49 := mkA [eD73] 0 Tryz.func49 (by kernel_rfl) (by kernel_rfl) fun args K hk => by
  obtain ⟨⟨p, m⟩, rfl, ⟨h4, hp⟩, hk⟩ := hk
  replace h4 : Is4 m := h4
  replace hp : 0 ≤ p ∧ p < m := hp
  replace hk : K (Er (Cp (turnP p m)) 0) := hk
  have hr := turn_raw h4 hp
  have hlt := tk_lt h4 hp
  have hm := h4.pos
  have h192 : ((192 : Int).tmod m != 0) = false := by
    have : (192 : Int).tmod m = 0 := by cases h4 <;> rfl
    rw [this]; rfl
  have hr2 : w (((tk p m : Nat) : Int) + 144) = ((tk p m + 144 : Nat) : Int) := by rw [wrap_i _ (by omega) (by omega)]; omega
  unfold turnP at hk
  generalize tk p m = q at hr hr2 hlt hk
  have hmod : q % 192 = q := Nat.mod_eq_of_lt hlt
  conv => whnf
  refine pickB_no (by simp; omega) ?_
  conv => whnf
  refine pickB_no (by simp; omega) ?_
  conv => whnf
  refine nzB_iff.2 ⟨by omega, ?_⟩
  conv => whnf
  refine pickB_no h192 ?_
  conv => whnf
  refine nzB_iff.2 ⟨by omega, ?_⟩
  conv => whnf
  refine nzB_iff.2 ⟨by omega, ?_⟩
  conv => whnf
  refine nzB_iff.2 ⟨by omega, ?_⟩
  conv => whnf
  refine ⟨q, congrArg (fun x => [I x]) hr, by omega, ?_⟩
  conv => whnf
  refine ⟨q + 144, ?_, by omega, ?_⟩
  · show [I (w (w ((w (p.tmod m + m)).tmod m * w ((192 : Int).tdiv m)) + 144))] = _
    rw [hr, hr2]
  conv => whnf
  rw [hmod]
  exact hk
noncomputable def eD49 : Ent := entA sD49 espec_fun
def SD55 : PSpec := espec (fun x : Int × Int => [I x.1, I x.2]) (fun x => Is4 x.2 ∧ 0 ≤ x.1 ∧ x.1 < x.2) (fun x => Cp (turnP x.1 x.2))
theorem sD55 : SoundA PR GL 55 SD55 := mkA [eD86] 0 Tryz.func55 (by kernel_rfl) (by kernel_rfl) fun args K hk => by
  obtain ⟨⟨p, m⟩, rfl, ⟨h4, hp⟩, hk⟩ := hk
  replace h4 : Is4 m := h4
  replace hp : 0 ≤ p ∧ p < m := hp
  replace hk : K (Cp (turnP p m)) := hk
  have hr := turn_raw h4 hp
  have hlt := tk_lt h4 hp
  have hm := h4.pos
  have hr2 : (w (((tk p m : Nat) : Int) + 144)).tmod 192 = (((tk p m + 144) % 192 : Nat) : Int) := by rw [wrap_i _ (by omega) (by omega), Int.tmod_eq_emod_of_nonneg (by omega)]; omega
  unfold turnP at hk
  generalize tk p m = q at hr hr2 hlt hk
  conv => whnf
  refine nzB_iff.2 ⟨by omega, ?_⟩
  conv => whnf
  refine nzB_iff.2 ⟨by omega, ?_⟩
  conv => whnf
  refine nzB_iff.2 ⟨by omega, ?_⟩
  conv => whnf
  refine ⟨q, congrArg (fun x => [I x]) hr, by omega, ?_⟩
  conv => whnf
  refine ⟨(q + 144) % 192, ?_, Nat.mod_lt _ (by decide), ?_⟩
  · show [I ((w (w ((w (p.tmod m + m)).tmod m * w ((192 : Int).tdiv m)) + 144)).tmod 192)] = _
    rw [hr, hr2]
  conv => whnf
  exact hk
noncomputable def eD55 : Ent := entA sD55 espec_fun

/-! ### Products -/
def mulC (a b : Nat × Nat) : Nat × Nat := (fsub (fmul a.1 b.1) (fmul a.2 b.2), fadd (fmul a.1 b.2) (fmul a.2 b.1))
structure FB2 (K : Int) (t : Nat × Nat) : Prop where
  a : FB K t.1
  b : FB K t.2
theorem FB2.mono {K K' : Int} {t : Nat × Nat} (h : FB2 K t) (hk : K ≤ K') : FB2 K' t := ⟨h.a.mono hk, h.b.mono hk⟩
theorem mulC_ok {a b : Nat × Nat} (ha : FB2 21 a) (hb : FB2 385 b) : FB2 409 (mulC a b) := by
  have h1 := fmul_ok (by decide) ha.a hb.a
  have h2 := fmul_ok (by decide) ha.b hb.b
  have h3 := fmul_ok (by decide) ha.a hb.b
  have h4 := fmul_ok (by decide) ha.b hb.a
  exact ⟨(fsub_ok (by decide) h1.2 h2.2).2, (fadd_ok (by decide) h3.2 h4.2).2⟩
def SDm : PSpec := espec (fun x : (Nat × Nat) × (Nat × Nat) => [Cp x.1, Cp x.2]) (fun x => FB2 21 x.1 ∧ FB2 385 x.2) (fun x => Cp (mulC x.1 x.2))
theorem sD50 : SoundA PR GL 50 SDm := mkA [] 0 Tryz.func50 (by kernel_rfl) (by kernel_rfl) fun args K hk => by
  obtain ⟨⟨a, b⟩, rfl, ⟨ha, hb⟩, hk⟩ := hk
  have h1 := fmul_ok (by decide) ha.a hb.a
  have h2 := fmul_ok (by decide) ha.b hb.b
  have h3 := fmul_ok (by decide) ha.a hb.b
  have h4 := fmul_ok (by decide) ha.b hb.a
  conv => whnf
  refine fltK_of h1.1 ?_
  conv => whnf
  refine fltK_of h2.1 ?_
  conv => whnf
  refine fltK_of (fsub_ok (by decide) h1.2 h2.2).1 ?_
  conv => whnf
  refine fltK_of h3.1 ?_
  conv => whnf
  refine fltK_of h4.1 ?_
  conv => whnf
  refine fltK_of (fadd_ok (by decide) h3.2 h4.2).1 ?_
  conv => whnf
  exact hk
noncomputable def eD50 : Ent := entA sD50 espec_fun
theorem sD57 : SoundA PR GL 57 SDm := mkA [] 0 Tryz.func57 (by kernel_rfl) (by kernel_rfl) fun args K hk => by
  obtain ⟨⟨a, b⟩, rfl, ⟨ha, hb⟩, hk⟩ := hk
  have h1 := fmul_ok (by decide) ha.a hb.a
  have h2 := fmul_ok (by decide) ha.b hb.b
  have h3 := fmul_ok (by decide) ha.a hb.b
  have h4 := fmul_ok (by decide) ha.b hb.a
  conv => whnf
  refine fltK_of h1.1 ?_
  conv => whnf
  refine fltK_of h2.1 ?_
  conv => whnf
  refine fltK_of h3.1 ?_
  conv => whnf
  refine fltK_of h4.1 ?_
  conv => whnf
  refine fltK_of (fsub_ok (by decide) h1.2 h2.2).1 ?_
  conv => whnf
  refine fltK_of (fadd_ok (by decide) h3.2 h4.2).1 ?_
  conv => whnf
  exact hk
noncomputable def eD57 : Ent := entA sD57 espec_fun
end E
end Go.Proofs.YtjhognibibmeiaaGreatDoor
end

section
set_option linter.unusedVariables false
set_option maxRecDepth 100000
set_option maxHeartbeats 8000000
namespace Go.Proofs.YtjhognibibmeiaaGreatDoor
namespace E
open Go Go.RowKit

def addT (s t : Nat × Nat) : Nat × Nat := (fadd s.1 t.1, fadd s.2 t.2)
def sumC (l : List (Nat × Nat)) : Nat × Nat := l.foldl addT (0, 0)
def eCs (l : List (Nat × Nat)) : List (List LV) := l.map fun t => [Cp t]
theorem addT_ok {K : Int} (hK : -1001 ≤ K ∧ K ≤ 959) {s t : Nat × Nat} (hs : FB2 K s) (ht : FB2 K t) : FB2 (K + 2) (addT s t) :=
  ⟨(fadd_ok hK hs.a ht.a).2, (fadd_ok hK hs.b ht.b).2⟩
structure SumOK (K : Int) (l : List (Nat × Nat)) : Prop where
  k : -1000 ≤ K ∧ K + 2 * (l.length : Int) ≤ 955
  e : ∀ t ∈ l, FB2 K t
theorem fold_ok {K : Int} (hK : -1000 ≤ K) : ∀ (l : List (Nat × Nat)) (s : Nat × Nat) (J : Int), K ≤ J → J + 2 * (l.length : Int) ≤ 955 → FB2 J s → (∀ t ∈ l, FB2 K t) → FB2 (J + 2 * (l.length : Int)) (l.foldl addT s)
  | [], s, J, _, _, hs, _ => by simpa using hs
  | t :: r, s, J, hJ, hb, hs, hl => by
    have hb' : J + 2 * ((r.length : Int) + 1) ≤ 955 := by simpa using hb
    have h1 := addT_ok (K := J) (by omega) hs ((hl t (List.mem_cons_self ..)).mono hJ)
    have h2 := fold_ok hK r (addT s t) (J + 2) (by omega) (by omega) h1 fun u hu => hl u (List.mem_cons_of_mem _ hu)
    rw [List.foldl_cons]
    refine h2.mono ?_
    simp
    omega
theorem fb2_zero {K : Int} : FB2 K (0, 0) := ⟨fb_zero, fb_zero⟩
theorem sumC_ok {K : Int} {l : List (Nat × Nat)} (h : SumOK K l) : FB2 (K + 2 * (l.length : Int)) (sumC l) := fold_ok h.k.1 l (0, 0) K (Int.le_refl _) h.k.2 fb2_zero h.e

def SDs : PSpec := espec (fun x : Int × List (Nat × Nat) => [.rd (eCs x.2)]) (fun x => SumOK x.1 x.2) (fun x => Cp (sumC x.2))
theorem sD74 : SoundA PR GL 74 SDs := mkA [] 0 Tryz.func74 (by kernel_rfl) (by kernel_rfl) fun args K hk => by
  obtain ⟨⟨k, l⟩, rfl, hs, hk⟩ := hk
  replace hk : K (Cp (sumC l)) := hk
  obtain ⟨hk1, hk2⟩ := hs.k
  have he := hs.e
  replace hk1 : -1000 ≤ k := hk1
  replace hk2 : k + 2 * (l.length : Int) ≤ 955 := hk2
  replace he : ∀ t ∈ l, FB2 k t := he
  have hl : (eCs l).length = l.length := by simp [eCs]
  conv => whnf
  refine LoopP.weaken (s2 := ⟨[.unk, .unk, .unk, Cp (0, 0), .unk, .unk, .rd (eCs l), I ((eCs l).length : Int), I (0 : Nat), .unk, .unk, .unk, .unk, .unk, .unk, .unk, .unk], []⟩) [] ⟨?_, trivial, List.nodup_nil, rfl⟩ ?_
  · repeat' (first | exact trivial | rfl | ((conv => whnf); refine And.intro ?_ ?_))
  refine loopInd 0 (by kernel_rfl) l.length (fun i (s : Nat × Nat) => ⟨[.unk, .unk, .unk, Cp s, .unk, .unk, .rd (eCs l), I ((eCs l).length : Int), I (i : Nat), .unk, .unk, .unk, .unk, .unk, .unk, .unk, .unk], []⟩) (fun i s => (l.drop i).foldl addT s = sumC l ∧ FB2 (k + 2 * (i : Int)) s) ?_ 0 (0, 0) (Nat.zero_le _) ⟨rfl, fb2_zero⟩
  rintro i ⟨s1, s2⟩ hi ⟨hJ, hf⟩
  rcases Nat.lt_or_ge i l.length with hlt | hge
  · obtain ⟨⟨t1, t2⟩, ht⟩ : ∃ o, l[i]? = some o := ⟨_, List.getElem?_eq_getElem hlt⟩
    rw [drop_get ht, List.foldl_cons] at hJ
    have hft := (he _ (List.mem_of_getElem? ht)).mono (show k ≤ k + 2 * (i : Int) by omega)
    have hcond : decide ((i : Int) < ((eCs l).length : Int)) = true := by rw [hl]; exact lt_dec hlt
    have a1 := fadd_ok (K := k + 2 * (i : Int)) (by omega) hf.a hft.a
    have a2 := fadd_ok (K := k + 2 * (i : Int)) (by omega) hf.b hft.b
    have hnx : k + 2 * (i : Int) + 2 = k + 2 * ((i + 1 : Nat) : Int) := by omega
    conv => whnf
    refine pickB_yes hcond ?_
    conv => whnf
    refine eltK_iff.2 ⟨_, get_map ht, ?_⟩
    conv => whnf
    refine fltK_of a1.1 ?_
    conv => whnf
    refine fltK_of a2.1 ?_
    conv => whnf
    refine' ⟨addT (s1, s2) (t1, t2), [], hlt, ⟨hJ, ?b⟩, ⟨?t, trivial, List.nodup_nil, rfl⟩⟩
    case b => rw [← hnx]; exact ⟨a1.2, a2.2⟩
    case t => repeat' (first | exact trivial | exact congrArg (fun x => LV.v (Value.int .i64 x)) (wrapS (by omega)) | rfl | ((conv => whnf); refine And.intro ?_ ?_))
  · have hcond : decide ((i : Int) < ((eCs l).length : Int)) = false := by rw [hl]; exact ge_dec hge
    rw [List.drop_eq_nil_of_le hge] at hJ
    replace hJ : (s1, s2) = sumC l := hJ
    rw [← hJ] at hk
    conv => whnf
    refine pickB_no hcond ?_
    conv => whnf
    exact hk
noncomputable def eD74 : Ent := entA sD74 espec_fun
theorem sD51 : SoundA PR GL 51 SDs := mkA [eD74] 0 Tryz.func51 (by kernel_rfl) (by kernel_rfl) fun args K hk => by
  obtain ⟨⟨k, l⟩, rfl, hs, hk⟩ := hk
  conv => whnf
  refine ⟨(k, l), rfl, hs, ?_⟩
  conv => whnf
  exact hk
noncomputable def eD51 : Ent := entA sD51 espec_fun
theorem sD56 : SoundA PR GL 56 SDs := mkA [] 0 Tryz.func56 (by kernel_rfl) (by kernel_rfl) fun args K hk => by
  obtain ⟨⟨k, l⟩, rfl, hs, hk⟩ := hk
  replace hk : K (Cp (sumC l)) := hk
  obtain ⟨hk1, hk2⟩ := hs.k
  have he := hs.e
  replace hk1 : -1000 ≤ k := hk1
  replace hk2 : k + 2 * (l.length : Int) ≤ 955 := hk2
  replace he : ∀ t ∈ l, FB2 k t := he
  have hl : (eCs l).length = l.length := by simp [eCs]
  conv => whnf
  refine LoopP.weaken (s2 := ⟨[.unk, .unk, .unk, Fl 0, Fl 0, .unk, .unk, .rd (eCs l), I ((eCs l).length : Int), I (0 : Nat), .unk, .unk, .unk, .unk, .unk, .unk, .unk, .unk, .unk, .unk, .unk, .unk, .unk, .unk, .unk], []⟩) [] ⟨?_, trivial, List.nodup_nil, rfl⟩ ?_
  · repeat' (first | exact trivial | rfl | ((conv => whnf); refine And.intro ?_ ?_))
  refine loopInd 0 (by kernel_rfl) l.length (fun i (s : Nat × Nat) => ⟨[.unk, .unk, .unk, Fl s.1, Fl s.2, .unk, .unk, .rd (eCs l), I ((eCs l).length : Int), I (i : Nat), .unk, .unk, .unk, .unk, .unk, .unk, .unk, .unk, .unk, .unk, .unk, .unk, .unk, .unk, .unk], []⟩) (fun i s => (l.drop i).foldl addT s = sumC l ∧ FB2 (k + 2 * (i : Int)) s) ?_ 0 (0, 0) (Nat.zero_le _) ⟨rfl, fb2_zero⟩
  rintro i ⟨s1, s2⟩ hi ⟨hJ, hf⟩
  rcases Nat.lt_or_ge i l.length with hlt | hge
  · obtain ⟨⟨t1, t2⟩, ht⟩ : ∃ o, l[i]? = some o := ⟨_, List.getElem?_eq_getElem hlt⟩
    rw [drop_get ht, List.foldl_cons] at hJ
    have hft := (he _ (List.mem_of_getElem? ht)).mono (show k ≤ k + 2 * (i : Int) by omega)
    have hcond : decide ((i : Int) < ((eCs l).length : Int)) = true := by rw [hl]; exact lt_dec hlt
    have a1 := fadd_ok (K := k + 2 * (i : Int)) (by omega) hf.a hft.a
    have a2 := fadd_ok (K := k + 2 * (i : Int)) (by omega) hf.b hft.b
    have hnx : k + 2 * (i : Int) + 2 = k + 2 * ((i + 1 : Nat) : Int) := by omega
    conv => whnf
    refine pickB_yes hcond ?_
    conv => whnf
    refine eltK_iff.2 ⟨_, get_map ht, ?_⟩
    conv => whnf
    refine fltK_of a1.1 ?_
    conv => whnf
    refine fltK_of a2.1 ?_
    conv => whnf
    refine' ⟨addT (s1, s2) (t1, t2), [], hlt, ⟨hJ, ?b⟩, ⟨?t, trivial, List.nodup_nil, rfl⟩⟩
    case b => rw [← hnx]; exact ⟨a1.2, a2.2⟩
    case t => repeat' (first | exact trivial | exact congrArg (fun x => LV.v (Value.int .i64 x)) (wrapS (by omega)) | rfl | ((conv => whnf); refine And.intro ?_ ?_))
  · have hcond : decide ((i : Int) < ((eCs l).length : Int)) = false := by rw [hl]; exact ge_dec hge
    rw [List.drop_eq_nil_of_le hge] at hJ
    replace hJ : (s1, s2) = sumC l := hJ
    rw [← hJ] at hk
    conv => whnf
    refine pickB_no hcond ?_
    conv => whnf
    exact hk
noncomputable def eD56 : Ent := entA sD56 espec_fun

/-! ### What stands in a wave -/
def goodT (x : Nat) : Bool :=
  match FD.read x with
  | .number _ m p => m == 0 || decide ((m.log2 : Int) + p < 1)
  | _ => false
theorem goodT_fb {x : Nat} (h : goodT x = true) : FB 1 x := by
  unfold goodT at h
  unfold FB
  split at h
  · rename_i s m p hr
    rw [hr]
    refine ⟨s, m, p, rfl, ?_⟩
    simp only [Bool.or_eq_true, beq_iff_eq, decide_eq_true_eq] at h
    exact h
  · cases h
theorem cosN_all : (List.range 192).all (fun k => goodT (cosN k)) = true := by kernel_rfl
theorem cosN_fb {k : Nat} (h : k < 192) : FB 1 (cosN k) := goodT_fb (List.all_eq_true.1 cosN_all k (List.mem_range.2 h))
theorem turnP_fb {p m : Int} (h4 : Is4 m) (hp : 0 ≤ p ∧ p < m) : FB2 1 (turnP p m) := ⟨cosN_fb (tk_lt h4 hp), cosN_fb (Nat.mod_lt _ (by decide))⟩
def wtF (n : Int) : Nat := FloatKind.f64.nearest n
theorem wtF_fb {n : Int} (h : bad1 n 1000000 = false) : FB 21 (wtF n) := by
  have hb := bad1_false h
  have : FB (20 + 1) (FD.nearest (n < 0) n.natAbs 0) := nearest_bd (by decide) _ _ _ (by
    rcases Nat.eq_zero_or_pos n.natAbs with h0 | h0
    · exact .inl h0
    · right
      have : n.natAbs < 2 ^ 20 := by omega
      have := (lt_two (by omega)).1 this
      omega)
  exact this
def turnsO (h : V) (m : Int) (O : List V) : List (Nat × Nat) := O.map fun v => turnP (phF h m v) m
theorem turnsO_ok {h : V} {m : Int} (h4 : Is4 m) {O : List V} (hl : O.length ≤ 192) : SumOK 1 (turnsO h m O) :=
  ⟨⟨by decide, by simp [turnsO]; omega⟩, fun t ht => by
    obtain ⟨v, _, rfl⟩ := List.mem_map.1 ht
    exact turnP_fb h4 (phF_rng h4)⟩
def termW (h : V) (m : Int) (a : Atm) (O : List V) : Nat × Nat := mulC (wtF a.w, wtF a.o) (sumC (turnsO h m O))
theorem termW_ok {h : V} {m : Int} (h4 : Is4 m) {a : Atm} (ha : heavyA a = false) {O : List V} (hl : O.length ≤ 192) : FB2 21 (wtF a.w, wtF a.o) ∧ FB2 385 (sumC (turnsO h m O)) ∧ FB2 409 (termW h m a O) := by
  unfold heavyA at ha
  cases hw : bad1 a.w 1000000 with
  | true => rw [hw] at ha; cases ha
  | false =>
    rw [hw, cond_false] at ha
    have h1 : FB2 21 (wtF a.w, wtF a.o) := ⟨wtF_fb hw, wtF_fb ha⟩
    have h2 : FB2 385 (sumC (turnsO h m O)) := (sumC_ok (turnsO_ok h4 hl)).mono (by simp [turnsO]; omega)
    exact ⟨h1, h2, mulC_ok h1 h2⟩
def waveF (h : V) (m : Int) (l : List (Atm × List V)) (s : Nat × Nat) : Nat × Nat := l.foldl (fun s x => addT s (termW h m x.1 x.2)) s
end E
end Go.Proofs.YtjhognibibmeiaaGreatDoor
end
