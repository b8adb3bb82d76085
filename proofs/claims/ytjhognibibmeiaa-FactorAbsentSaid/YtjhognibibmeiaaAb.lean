/-
  ABSENT INDICES, second part: what a map of a group does to the places of an orbit.
-/
import Derived.Test.YtjhognibibmeiaaAa
set_option linter.unusedVariables false
set_option maxRecDepth 100000
set_option maxHeartbeats 4000000
namespace Go.Proofs.Ytjhognibibmeiaa
namespace E
open Go Go.RowKit

/-! ### Maps, exactly -/
theorem emod_of {x y m k : Int} (h : x = y + m * k) : x % m = y % m := by rw [h, Int.add_mul_emod_self_left]
theorem emod_sub (x m : Int) : ∃ q, x % m = x - m * q := ⟨x / m, by rw [Int.emod_def]⟩
structure U (m u : Int) : Prop where
  e : m = 24 * u
  r : 1 ≤ u ∧ u ≤ 8
  w : w (m.tdiv 24) = u
theorem Is4.u {m : Int} (h : Is4 m) : ∃ u, U m u := by
  cases h
  · exact ⟨1, by decide, by decide, by decide⟩
  · exact ⟨2, by decide, by decide, by decide⟩
  · exact ⟨4, by decide, by decide, by decide⟩
  · exact ⟨8, by decide, by decide, by decide⟩
theorem mul_bd2 {t u : Int} (ht : 0 ≤ t ∧ t < 24) (hu : 1 ≤ u ∧ u ≤ 8) : 0 ≤ t * u ∧ t * u ≤ 184 := by
  have h1 := Int.mul_nonneg ht.1 (show 0 ≤ u by omega)
  have h2 := mul_bd (x := t) (v := u) (B := 23) (C := 8) ⟨by omega, by omega⟩ ⟨by omega, hu.2⟩ (by decide)
  omega
theorem imgP {m u t : Int} {a v : V} (hp : 24 ≤ m ∧ m ≤ 192) (hu : U m u) (ht : 0 ≤ t ∧ t < 24) (ha : B3 a) (hv : Rng m v) : mod2 (dotT t m a v) m = (t * u + a.x * v.x + a.y * v.y + a.z * v.z) % m := by
  have px := mul_bd (B := 1000) (C := 191) ha.x ⟨hv.x0, by have := hv.x1; omega⟩ (by decide)
  have py := mul_bd (B := 1000) (C := 191) ha.y ⟨hv.y0, by have := hv.y1; omega⟩ (by decide)
  have pz := mul_bd (B := 1000) (C := 191) ha.z ⟨hv.z0, by have := hv.z1; omega⟩ (by decide)
  have pt := mul_bd2 ht hu.r
  unfold dotT
  rw [dotR_w, mod2_eq (by omega) (by omega), hu.w, wrap_i (t * u) (by omega) (by omega), wrap_i _ (by omega) (by omega)]
theorem img_v {m u : Int} (h4 : Is4 m) (hu : U m u) {o : O} (ho : OkO o) {v : V} (hv : Rng m v) : imgV o m v =
    ⟨(o.t.x * u + o.r.a.x * v.x + o.r.a.y * v.y + o.r.a.z * v.z) % m, (o.t.y * u + o.r.b.x * v.x + o.r.b.y * v.y + o.r.b.z * v.z) % m, (o.t.z * u + o.r.c.x * v.x + o.r.c.y * v.y + o.r.c.z * v.z) % m⟩ := by
  have ht := outT_false ho.t
  have hr := bey9_false ho.b
  have hp := h4.pos
  rw [img_eq h4 ho hv]
  unfold imgR bring2
  simp only
  rw [imgP ⟨by omega, by omega⟩ hu ht.x hr.a hv, imgP ⟨by omega, by omega⟩ hu ht.y hr.b hv, imgP ⟨by omega, by omega⟩ hu ht.z hr.c hv]
theorem img_rng {m u : Int} (h4 : Is4 m) (hu : U m u) {o : O} (ho : OkO o) {v : V} (hv : Rng m v) : Rng m (imgV o m v) := by
  have hp := h4.pos
  rw [img_v h4 hu ho hv]
  exact ⟨Int.emod_nonneg _ (by omega), Int.emod_lt_of_pos _ (by omega), Int.emod_nonneg _ (by omega), Int.emod_lt_of_pos _ (by omega), Int.emod_nonneg _ (by omega), Int.emod_lt_of_pos _ (by omega)⟩

/-! ### Products -/
theorem pr_bd {x y : Int} (hx : -1000 ≤ x ∧ x ≤ 1000) (hy : -1000 ≤ y ∧ y ≤ 1000) : -1000000 ≤ x * y ∧ x * y ≤ 1000000 := by
  rcases Int.lt_or_le y 0 with h | h
  · have h1 := mul_bd (x := x) (v := -y) (B := 1000) (C := 1000) hx ⟨by omega, by omega⟩ (by decide)
    rw [Int.mul_neg] at h1
    omega
  · have h1 := mul_bd (x := x) (v := y) (B := 1000) (C := 1000) hx ⟨by omega, by omega⟩ (by decide)
    omega
theorem pr_bd2 {x y : Int} (hx : -1000 ≤ x ∧ x ≤ 1000) (hy : -2000000 ≤ y ∧ y ≤ 2000000) : -2000000000 ≤ x * y ∧ x * y ≤ 2000000000 := by
  rcases Int.lt_or_le y 0 with h | h
  · have h1 := mul_bd (x := x) (v := -y) (B := 1000) (C := 2000000) hx ⟨by omega, by omega⟩ (by decide)
    rw [Int.mul_neg] at h1
    omega
  · have h1 := mul_bd (x := x) (v := y) (B := 1000) (C := 2000000) hx ⟨by omega, by omega⟩ (by decide)
    omega
theorem w_mr (a b : Int) : w (a * w b) = w (a * b) := by
  obtain ⟨k, h, _⟩ := w_def b
  exact w_cong (k := a * k) (by rw [h]; grind)
theorem row_v {a : V} {b : M} (ha : B3 a) (hb : B9 b) : rowR a b = ⟨a.x * b.a.x + a.y * b.b.x + a.z * b.c.x, a.x * b.a.y + a.y * b.b.y + a.z * b.c.y, a.x * b.a.z + a.y * b.b.z + a.z * b.c.z⟩ := by
  have k : ∀ p q r : Int, -1000000 ≤ p ∧ p ≤ 1000000 → -1000000 ≤ q ∧ q ≤ 1000000 → -1000000 ≤ r ∧ r ≤ 1000000 → w (0 + p + q + r) = p + q + r := fun p q r hp hq hr => by
    rw [Int.zero_add]; exact wrap_i _ (by omega) (by omega)
  unfold rowR
  rw [dotR_w, dotR_w, dotR_w, k _ _ _ (pr_bd ha.x hb.a.x) (pr_bd ha.y hb.b.x) (pr_bd ha.z hb.c.x), k _ _ _ (pr_bd ha.x hb.a.y) (pr_bd ha.y hb.b.y) (pr_bd ha.z hb.c.y), k _ _ _ (pr_bd ha.x hb.a.z) (pr_bd ha.y hb.b.z) (pr_bd ha.z hb.c.z)]
theorem tr_v {t : Int} {a v : V} (ht : 0 ≤ t ∧ t < 24) (ha : B3 a) (hv : T3 v) : trR t a v = (t + a.x * v.x + a.y * v.y + a.z * v.z) % 24 := by
  have px := mul_bd (B := 1000) (C := 23) ha.x ⟨hv.x.1, by have := hv.x.2; omega⟩ (by decide)
  have py := mul_bd (B := 1000) (C := 23) ha.y ⟨hv.y.1, by have := hv.y.2; omega⟩ (by decide)
  have pz := mul_bd (B := 1000) (C := 23) ha.z ⟨hv.z.1, by have := hv.z.2; omega⟩ (by decide)
  unfold trR
  rw [dotR_w, mod2_eq (by decide) (by decide), wrap_i _ (by omega) (by omega)]
theorem part_mul {m u : Int} (hu : U m u) {t : Int} {a bt v : V} {b : M} :
    ((t + a.x * bt.x + a.y * bt.y + a.z * bt.z) % 24 * u + (a.x * b.a.x + a.y * b.b.x + a.z * b.c.x) * v.x + (a.x * b.a.y + a.y * b.b.y + a.z * b.c.y) * v.y + (a.x * b.a.z + a.y * b.b.z + a.z * b.c.z) * v.z) % m =
    (t * u + a.x * ((bt.x * u + b.a.x * v.x + b.a.y * v.y + b.a.z * v.z) % m) + a.y * ((bt.y * u + b.b.x * v.x + b.b.y * v.y + b.b.z * v.z) % m) + a.z * ((bt.z * u + b.c.x * v.x + b.c.y * v.y + b.c.z * v.z) % m)) % m := by
  obtain ⟨q0, h0⟩ := emod_sub (t + a.x * bt.x + a.y * bt.y + a.z * bt.z) 24
  obtain ⟨q1, h1⟩ := emod_sub (bt.x * u + b.a.x * v.x + b.a.y * v.y + b.a.z * v.z) m
  obtain ⟨q2, h2⟩ := emod_sub (bt.y * u + b.b.x * v.x + b.b.y * v.y + b.b.z * v.z) m
  obtain ⟨q3, h3⟩ := emod_sub (bt.z * u + b.c.x * v.x + b.c.y * v.y + b.c.z * v.z) m
  rw [h0, h1, h2, h3]
  refine emod_of (k := a.x * q1 + a.y * q2 + a.z * q3 - q0) ?_
  have := hu.e
  clear h0 h1 h2 h3 hu
  grind
theorem img_mul {m : Int} (h4 : Is4 m) {a b : O} (ha : OkO a) (hb : OkO b) (hab : OkO (mulO a b)) {v : V} (hv : Rng m v) : imgV (mulO a b) m v = imgV a m (imgV b m v) := by
  obtain ⟨u, hu⟩ := h4.u
  have ta := outT_false ha.t
  have tb := outT_false hb.t
  have ra := bey9_false ha.b
  have rb := bey9_false hb.b
  rw [img_v h4 hu hab hv, img_v h4 hu ha (img_rng h4 hu hb hv), img_v h4 hu hb hv, mulO_eq ha hb]
  unfold mulR mulRM
  simp only
  rw [row_v ra.a rb, row_v ra.b rb, row_v ra.c rb, tr_v ta.x ra.a tb, tr_v ta.y ra.b tb, tr_v ta.z ra.c tb]
  simp only
  rw [part_mul hu, part_mul hu, part_mul hu]

/-! ### A map takes unlike places to unlike ones -/
theorem det_v {r : M} (h : okD r = true) (hb : B9 r) : r.a.x * (r.b.y * r.c.z - r.b.z * r.c.y) - r.a.y * (r.b.x * r.c.z - r.b.z * r.c.x) + r.a.z * (r.b.x * r.c.y - r.b.y * r.c.x) = 1 ∨ r.a.x * (r.b.y * r.c.z - r.b.z * r.c.y) - r.a.y * (r.b.x * r.c.z - r.b.z * r.c.x) + r.a.z * (r.b.x * r.c.y - r.b.y * r.c.x) = -1 := by
  have c1 := pr_bd2 hb.a.x (y := r.b.y * r.c.z - r.b.z * r.c.y) (by have := pr_bd hb.b.y hb.c.z; have := pr_bd hb.b.z hb.c.y; omega)
  have c2 := pr_bd2 hb.a.y (y := r.b.z * r.c.x - r.b.x * r.c.z) (by have := pr_bd hb.b.z hb.c.x; have := pr_bd hb.b.x hb.c.z; omega)
  have c3 := pr_bd2 hb.a.z (y := r.b.x * r.c.y - r.b.y * r.c.x) (by have := pr_bd hb.b.x hb.c.y; have := pr_bd hb.b.y hb.c.x; omega)
  have hd : detM r = r.a.x * (r.b.y * r.c.z - r.b.z * r.c.y) + r.a.y * (r.b.z * r.c.x - r.b.x * r.c.z) + r.a.z * (r.b.x * r.c.y - r.b.y * r.c.x) := by
    unfold detM cof2
    simp only [w_al, w_ar, w_sl, w_sr, w_mr]
    exact wrap_i _ (by omega) (by omega)
  have hn : r.a.x * (r.b.y * r.c.z - r.b.z * r.c.y) - r.a.y * (r.b.x * r.c.z - r.b.z * r.c.x) + r.a.z * (r.b.x * r.c.y - r.b.y * r.c.x) = detM r := by
    rw [hd]; clear h hb c1 c2 c3 hd; grind
  rw [hn]
  unfold okD at h
  cases h1 : detM r != 1 with
  | false => left; simpa using h1
  | true =>
    right
    rw [h1, cond_true] at h
    cases h2 : detM r != -1 with
    | false => simpa using h2
    | true => rw [h2] at h; cases h
theorem emod_eq_sub {x y m : Int} (h : x % m = y % m) : ∃ k, x - y = m * k := by
  obtain ⟨q1, h1⟩ := emod_sub x m
  obtain ⟨q2, h2⟩ := emod_sub y m
  exact ⟨q1 - q2, by rw [Int.mul_sub]; omega⟩
theorem dvd_zero {d m k : Int} (hm : 0 < m) (hd : -m < d ∧ d < m) (h : d = m * k) : d = 0 := by
  have h1 : d % m = 0 := by rw [h]; exact Int.mul_emod_right m k
  rcases Int.lt_or_le d 0 with hn | hn
  · have h2 : (d + m) % m = d + m := Int.emod_eq_of_lt (by omega) (by omega)
    rw [Int.add_emod_right, h1] at h2
    omega
  · rw [Int.emod_eq_of_lt hn hd.2] at h1
    exact h1
theorem img_inj {m : Int} (h4 : Is4 m) {o : O} (ho : OkO o) {v v' : V} (hv : Rng m v) (hv' : Rng m v') (h : imgV o m v = imgV o m v') : v = v' := by
  obtain ⟨u, hu⟩ := h4.u
  have hp := h4.pos
  have hb := bey9_false ho.b
  rw [img_v h4 hu ho hv, img_v h4 hu ho hv'] at h
  injection h with h1 h2 h3
  obtain ⟨k1, e1⟩ := emod_eq_sub h1
  obtain ⟨k2, e2⟩ := emod_eq_sub h2
  obtain ⟨k3, e3⟩ := emod_eq_sub h3
  have hD := det_v ho.d hb
  generalize o.r = r at *
  obtain ⟨⟨a11, a12, a13⟩, ⟨a21, a22, a23⟩, ⟨a31, a32, a33⟩⟩ := r
  obtain ⟨vx, vy, vz⟩ := v
  obtain ⟨wx, wy, wz⟩ := v'
  obtain ⟨x0, x1, y0, y1, z0, z1⟩ := hv
  obtain ⟨x0', x1', y0', y1', z0', z1'⟩ := hv'
  simp only at *
  generalize hdx : vx - wx = dx
  generalize hdy : vy - wy = dy
  generalize hdz : vz - wz = dz
  have s1 : a11 * dx + a12 * dy + a13 * dz = m * k1 := by rw [← hdx, ← hdy, ← hdz]; grind
  have s2 : a21 * dx + a22 * dy + a23 * dz = m * k2 := by rw [← hdx, ← hdy, ← hdz]; grind
  have s3 : a31 * dx + a32 * dy + a33 * dz = m * k3 := by rw [← hdx, ← hdy, ← hdz]; grind
  generalize hDD : a11 * (a22 * a33 - a23 * a32) - a12 * (a21 * a33 - a23 * a31) + a13 * (a21 * a32 - a22 * a31) = D at hD
  have q1 : D * dx = m * (k1 * (a22 * a33 - a23 * a32) - k2 * (a12 * a33 - a13 * a32) + k3 * (a12 * a23 - a13 * a22)) := by rw [← hDD]; clear hD e1 e2 e3 h1 h2 h3; grind
  have q2 : D * dy = m * (k2 * (a11 * a33 - a13 * a31) - k1 * (a21 * a33 - a23 * a31) - k3 * (a11 * a23 - a13 * a21)) := by rw [← hDD]; clear hD e1 e2 e3 h1 h2 h3; grind
  have q3 : D * dz = m * (k1 * (a21 * a32 - a22 * a31) - k2 * (a11 * a32 - a12 * a31) + k3 * (a11 * a22 - a12 * a21)) := by rw [← hDD]; clear hD e1 e2 e3 h1 h2 h3; grind
  have fin : ∀ d k : Int, -m < d ∧ d < m → D * d = m * k → d = 0 := fun d k hd hk => by
    rcases hD with rfl | rfl
    · exact dvd_zero (by omega) hd (by rw [← hk, Int.one_mul])
    · refine dvd_zero (k := -k) (by omega) hd ?_
      rw [Int.mul_neg, ← hk]; omega
  have f1 := fin _ _ ⟨by omega, by omega⟩ q1
  have f2 := fin _ _ ⟨by omega, by omega⟩ q2
  have f3 := fin _ _ ⟨by omega, by omega⟩ q3
  obtain rfl : vx = wx := by omega
  obtain rfl : vy = wy := by omega
  obtain rfl : vz = wz := by omega
  rfl
end E
end Go.Proofs.Ytjhognibibmeiaa
