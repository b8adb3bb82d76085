/-
  ABSENT INDICES, fourth part: an absent index sums to nought over every orbit.
-/
import Derived.Test.YtjhognibibmeiaaAc
set_option linter.unusedVariables false
set_option maxRecDepth 100000
set_option maxHeartbeats 4000000
namespace Go.Proofs.Ytjhognibibmeiaa
namespace E
open Go Go.RowKit

/-! ### Sums over lists -/
def sumF (f : V → Int) : List V → Int
  | [] => 0
  | v :: r => f v + sumF f r
theorem sumF_perm {f : V → Int} {a b : List V} (h : a.Perm b) : sumF f a = sumF f b := by
  induction h with
  | nil => rfl
  | cons x _ ih => unfold sumF; rw [ih]
  | swap x y l => simp only [sumF]; omega
  | trans _ _ h1 h2 => rw [h1, h2]
theorem sumF_map {f : V → Int} {g : V → V} : ∀ l : List V, sumF f (l.map g) = sumF (fun v => f (g v)) l
  | [] => rfl
  | v :: r => by rw [List.map_cons]; unfold sumF; rw [sumF_map r]
theorem sumF_congr {f g : V → Int} : ∀ {l : List V}, (∀ v ∈ l, f v = g v) → sumF f l = sumF g l
  | [], _ => rfl
  | v :: r, h => by unfold sumF; rw [h v (List.mem_cons_self ..), sumF_congr fun x hx => h x (List.mem_cons_of_mem _ hx)]
theorem sumF_neg {f : V → Int} : ∀ l : List V, sumF (fun v => 0 - f v) l = 0 - sumF f l
  | [] => rfl
  | v :: r => by unfold sumF; rw [sumF_neg r]; omega
theorem sumF_three {f g k : V → Int} (h : ∀ v, f v + g v + k v = 0) : ∀ l : List V, sumF f l + sumF g l + sumF k l = 0
  | [] => rfl
  | v :: r => by unfold sumF; have := sumF_three h r; have := h v; omega
theorem perm_of {l : List V} : ∀ {a : List V}, a.Nodup → (∀ v ∈ a, v ∈ l) → a.length = l.length → a.Perm l := by
  haveI : DecidableEq V := fun _ _ => Classical.propDecidable _
  induction l with
  | nil => intro a _ _ h; rw [List.length_eq_zero_iff.1 h]
  | cons x r ih =>
    intro a hn hs hl
    by_cases hx : x ∈ a
    · have hp := List.perm_cons_erase hx
      refine hp.trans (List.Perm.cons _ (ih (hn.erase x) (fun v hv => ?_) ?_))
      · have h1 := (List.Nodup.mem_erase_iff hn).1 hv
        rcases List.mem_cons.1 (hs v h1.2) with e | e
        · exact absurd e h1.1
        · exact e
      · rw [List.length_erase_of_mem hx, hl]; rfl
    · exfalso
      have hs' : ∀ v ∈ a, v ∈ r := fun v hv => by
        rcases List.mem_cons.1 (hs v hv) with e | e
        · subst e; exact absurd hv hx
        · exact e
      have h2 : ∀ {a r : List V}, a.Nodup → (∀ v ∈ a, v ∈ r) → a.length ≤ r.length := by
        intro a
        induction a with
        | nil => intro r _ _; exact Nat.zero_le _
        | cons y b ihb =>
          intro r hn hs
          have hy := hs y (List.mem_cons_self ..)
          have hn' := List.nodup_cons.1 hn
          have := ihb (r := r.erase y) hn'.2 fun v hv => (List.mem_erase_of_ne (fun e => hn'.1 (by rw [← e]; exact hv))).2 (hs v (List.mem_cons_of_mem _ hv))
          rw [List.length_erase_of_mem hy] at this
          have : 0 < r.length := List.length_pos_of_mem hy
          simp; omega
      have := h2 hn hs'
      simp at hl
      omega
theorem nodup_map {f : V → V} : ∀ {l : List V}, l.Nodup → (∀ a ∈ l, ∀ b ∈ l, f a = f b → a = b) → (l.map f).Nodup
  | [], _, _ => List.nodup_nil
  | x :: r, h, hi => by
    have h' := List.nodup_cons.1 h
    rw [List.map_cons]
    refine List.nodup_cons.2 ⟨fun hm => ?_, nodup_map h'.2 fun a ha b hb => hi a (List.mem_cons_of_mem _ ha) b (List.mem_cons_of_mem _ hb)⟩
    obtain ⟨y, hy, e⟩ := List.mem_map.1 hm
    have := hi y (List.mem_cons_of_mem _ hy) x (List.mem_cons_self ..) e
    exact h'.1 (this ▸ hy)

/-! ### A sum that a shift leaves as it is -/
theorem shift_zero {m u p : Int} (hu : U m u) (S : Int → Int) (per : ∀ s k, S (s + m * k) = S s) (half : ∀ s, S (s + m / 2) = 0 - S s) (third : ∀ s, S s + S (s + m / 3) + S (s + m / 3 + m / 3) = 0)
    (sh : ∀ s, S (s + p * u) = S s) (hp : 1 ≤ p ∧ p < 24) (s : Int) : S s = 0 := by
  have it : ∀ (k : Nat) s, S (s + (k : Int) * (p * u)) = S s := by
    intro k
    induction k with
    | zero => intro s; congr 1; simp
    | succ k ih =>
      intro s
      have : s + ((k + 1 : Nat) : Int) * (p * u) = s + p * u + (k : Int) * (p * u) := by
        rw [Int.natCast_add, Int.add_mul]; simp; omega
      rw [this, ih, sh]
  have e2 : m / 2 = 12 * u := by rw [hu.e]; omega
  have e3 : m / 3 = 8 * u := by rw [hu.e]; omega
  have by2 : ∀ (k : Nat) (j : Int), (k : Int) * p = 12 + 24 * j → S s = 0 := fun k j h => by
    have h1 := it k s
    have h2 : s + (k : Int) * (p * u) = s + m / 2 + m * j := by
      rw [← Int.mul_assoc, h, e2, hu.e]; grind
    rw [h2, per, half] at h1
    omega
  have by3 : ∀ (k : Nat) (j : Int), (k : Int) * p = 8 + 24 * j → S s = 0 := fun k j h => by
    have h3 : ∀ s, S (s + m / 3) = S s := fun s => by
      have h1 := it k s
      have h2 : s + (k : Int) * (p * u) = s + m / 3 + m * j := by
        rw [← Int.mul_assoc, h, e3, hu.e]; grind
      rw [h2, per] at h1
      exact h1
    have := third s
    rw [h3 s, h3 (s + m / 3), h3 s] at this
    omega
  by_cases h1 : p % 2 = 1
  · exact by2 12 ((p - 1) / 2) (by omega)
  by_cases h2 : p % 4 = 2
  · exact by2 6 ((p - 2) / 4) (by omega)
  by_cases h3 : p % 8 = 4
  · exact by2 3 ((p - 4) / 8) (by omega)
  by_cases h4 : p = 8
  · exact by3 1 0 (by omega)
  · exact by3 2 1 (by omega)

/-! ### Groups are closed -/
theorem clos1_mem {f : O → O → Bool} {a : O} : ∀ {l : List O}, clos1 f a l = true → ∀ b ∈ l, f a b = true
  | [], _, b, hb => by cases hb
  | c :: r, h, b, hb => by
    unfold clos1 at h
    cases hf : f a c with
    | false => rw [hf] at h; cases h
    | true =>
      rw [hf, cond_true] at h
      rcases List.mem_cons.1 hb with rfl | hb
      · exact hf
      · exact clos1_mem h b hb
theorem clos2_mem {f : O → O → Bool} {g : List O} : ∀ {l : List O}, clos2 f g l = true → ∀ a ∈ l, ∀ b ∈ g, f a b = true
  | [], _, a, ha => by cases ha
  | c :: r, h, a, ha => by
    unfold clos2 at h
    cases hf : clos1 f c g with
    | false => rw [hf] at h; cases h
    | true =>
      rw [hf, cond_true] at h
      rcases List.mem_cons.1 ha with rfl | ha
      · exact clos1_mem hf
      · exact clos2_mem h a ha
theorem closed {g : List O} (h : chkG g = 0) {a b : O} (ha : a ∈ g) (hb : b ∈ g) : mulO a b ∈ g := by
  unfold chkG at h
  cases hd : (bif decide ((g.length : Int) > 192) then 2 else mapsG opE g 0) != 0 with
  | true =>
    rw [hd, cond_true] at h
    rw [h] at hd
    cases hd
  | false =>
    rw [hd, cond_false] at h
    unfold chkT0 at h
    cases h1 : ascN cmpO g (g.length - 1) 1 with
    | false => rw [h1] at h; cases h
    | true =>
      rw [h1, cond_true] at h
      cases h2 : hasO g oneO with
      | false => rw [h2] at h; cases h
      | true =>
        rw [h2, cond_true] at h
        cases h3 : clos2 (inP g) g g with
        | false => rw [h3] at h; cases h
        | true =>
          have h4 := clos2_mem h3 a ha b hb
          unfold inP at h4
          cases h5 : okM a b with
          | false => rw [h5] at h4; cases h4
          | true =>
            rw [h5, cond_true] at h4
            exact (hasO_iff g _).1 h4

/-! ### A map of the group permutes an orbit -/
theorem orb_mem {g : List O} {m : Int} {x v : V} : v ∈ orbV g m x ↔ ∃ o ∈ g, v = imgV o m x := by
  obtain ⟨h1, h2⟩ := sortV_ok (imgs g m x)
  obtain ⟨h3, h4⟩ := ddV_ok _ h1
  refine (h4 v).trans ((h2 v).trans ?_)
  unfold imgs
  rw [List.mem_map]
  constructor
  · rintro ⟨o, ho, e⟩; exact ⟨o, ho, e.symm⟩
  · rintro ⟨o, ho, e⟩; exact ⟨o, ho, e.symm⟩
theorem orb_nodup {g : List O} {m : Int} {x : V} : (orbV g m x).Nodup := by
  obtain ⟨h1, h2⟩ := sortV_ok (imgs g m x)
  obtain ⟨h3, h4⟩ := ddV_ok _ h1
  exact h3.imp fun {a b} hab e => by subst e; exact Lt.irr hab
theorem orb_perm {g : List O} (hg : chkG g = 0) {m : Int} (h4 : Is4 m) {x : V} (hx : Rng m x) {o : O} (ho : o ∈ g) : ((orbV g m x).map (imgV o m)).Perm (orbV g m x) := by
  obtain ⟨u, hu⟩ := h4.u
  have hG := (chkG_ok hg).ok
  have hr : ∀ v ∈ orbV g m x, Rng m v := fun v hv => by
    obtain ⟨o', ho', rfl⟩ := orb_mem.1 hv
    exact img_rng h4 hu (hG o' ho') hx
  refine perm_of (nodup_map orb_nodup fun a ha b hb e => img_inj h4 (hG o ho) (hr a ha) (hr b hb) e) (fun v hv => ?_) (by simp)
  obtain ⟨y, hy, rfl⟩ := List.mem_map.1 hv
  obtain ⟨o', ho', rfl⟩ := orb_mem.1 hy
  have hm := closed hg ho ho'
  exact orb_mem.2 ⟨mulO o o', hm, (img_mul h4 (hG o ho) (hG o' ho') (hG _ hm) hx).symm⟩

/-! ### Phases along an orbit -/
structure H3 (h : V) : Prop where
  x : -512 ≤ h.x ∧ h.x ≤ 512
  y : -512 ≤ h.y ∧ h.y ≤ 512
  z : -512 ≤ h.z ∧ h.z ≤ 512
theorem h3_of {h : V} (hb : bad3 h 512 = false) : H3 h := by
  unfold bad3 at hb
  cases h1 : bad1 h.x 512 with
  | true => rw [h1] at hb; cases hb
  | false =>
    rw [h1, cond_false] at hb
    cases h2 : bad1 h.y 512 with
    | true => rw [h2] at hb; cases hb
    | false =>
      rw [h2, cond_false] at hb
      exact ⟨bad1_false h1, bad1_false h2, bad1_false hb⟩
theorem dotH_w (h v : V) : w (w (w (h.x * v.x) + w (h.y * v.y)) + w (h.z * v.z)) = w (h.x * v.x + h.y * v.y + h.z * v.z) := by
  simp only [w_al, w_ar]
theorem ph_eq {m : Int} (hm : 0 < m ∧ m ≤ 192) {h v : V} (hh : H3 h) (hv : Rng m v) : phF h m v = (h.x * v.x + h.y * v.y + h.z * v.z) % m := by
  have px := mul_bd (B := 512) (C := 191) hh.x ⟨hv.x0, by have := hv.x1; omega⟩ (by decide)
  have py := mul_bd (B := 512) (C := 191) hh.y ⟨hv.y0, by have := hv.y1; omega⟩ (by decide)
  have pz := mul_bd (B := 512) (C := 191) hh.z ⟨hv.z0, by have := hv.z1; omega⟩ (by decide)
  unfold phF
  rw [modF_eq hm.1 hm.2, dotH_w, wrap_i _ (by omega) (by omega)]
theorem phO_eq {o : O} (ho : OkO o) {h : V} (hh : H3 h) : phO o h = (h.x * o.t.x + h.y * o.t.y + h.z * o.t.z) % 24 := by
  have ht := outT_false ho.t
  have px := mul_bd (B := 512) (C := 23) hh.x ⟨ht.x.1, by have := ht.x.2; omega⟩ (by decide)
  have py := mul_bd (B := 512) (C := 23) hh.y ⟨ht.y.1, by have := ht.y.2; omega⟩ (by decide)
  have pz := mul_bd (B := 512) (C := 23) hh.z ⟨ht.z.1, by have := ht.z.2; omega⟩ (by decide)
  unfold phO
  rw [modF_eq (by decide) (by decide), dotH_w h o.t, wrap_i _ (by omega) (by omega)]
theorem turn1_eq {h : V} (hh : H3 h) {a b c : Int} (ha : -1000 ≤ a ∧ a ≤ 1000) (hb : -1000 ≤ b ∧ b ≤ 1000) (hc : -1000 ≤ c ∧ c ≤ 1000) : turn1 h a b c = h.x * a + h.y * b + h.z * c := by
  have px := pr_bd (x := h.x) (y := a) ⟨by have := hh.x; omega, by have := hh.x; omega⟩ ha
  have py := pr_bd (x := h.y) (y := b) ⟨by have := hh.y; omega, by have := hh.y; omega⟩ hb
  have pz := pr_bd (x := h.z) (y := c) ⟨by have := hh.z; omega, by have := hh.z; omega⟩ hc
  unfold turn1
  simp only [w_al, w_ar, Int.zero_add]
  exact wrap_i _ (by omega) (by omega)
theorem turnV_eq {h : V} (hh : H3 h) {r : M} (hr : B9 r) : turnV r h = ⟨h.x * r.a.x + h.y * r.b.x + h.z * r.c.x, h.x * r.a.y + h.y * r.b.y + h.z * r.c.y, h.x * r.a.z + h.y * r.b.z + h.z * r.c.z⟩ := by
  unfold turnV
  rw [turn1_eq hh hr.a.x hr.b.x hr.c.x, turn1_eq hh hr.a.y hr.b.y hr.c.y, turn1_eq hh hr.a.z hr.b.z hr.c.z]
theorem ph_shift {m u : Int} (h4 : Is4 m) (hu : U m u) {o : O} (ho : OkO o) {h v : V} (hh : H3 h) (hv : Rng m v) (ht : turnV o.r h = h) : ∃ k, phF h m (imgV o m v) = phF h m v + phO o h * u + m * k := by
  have hp := h4.pos
  have hb := bey9_false ho.b
  have hi := img_rng h4 hu ho hv
  rw [ph_eq ⟨by omega, by omega⟩ hh hi, ph_eq ⟨by omega, by omega⟩ hh hv, phO_eq ho hh]
  rw [turnV_eq hh hb] at ht
  rw [img_v h4 hu ho hv] at hi ⊢
  obtain ⟨q0, h0⟩ := emod_sub (h.x * o.t.x + h.y * o.t.y + h.z * o.t.z) 24
  obtain ⟨q1, h1⟩ := emod_sub (o.t.x * u + o.r.a.x * v.x + o.r.a.y * v.y + o.r.a.z * v.z) m
  obtain ⟨q2, h2⟩ := emod_sub (o.t.y * u + o.r.b.x * v.x + o.r.b.y * v.y + o.r.b.z * v.z) m
  obtain ⟨q3, h3⟩ := emod_sub (o.t.z * u + o.r.c.x * v.x + o.r.c.y * v.y + o.r.c.z * v.z) m
  simp only
  rw [h0, h1, h2, h3]
  have tx := congrArg V.x ht
  have ty := congrArg V.y ht
  have tz := congrArg V.z ht
  simp only at tx ty tz
  have he := hu.e
  obtain ⟨q4, h4'⟩ := emod_sub (h.x * v.x + h.y * v.y + h.z * v.z) m
  obtain ⟨q5, h5⟩ := emod_sub (h.x * (o.t.x * u + o.r.a.x * v.x + o.r.a.y * v.y + o.r.a.z * v.z - m * q1) + h.y * (o.t.y * u + o.r.b.x * v.x + o.r.b.y * v.y + o.r.b.z * v.z - m * q2) + h.z * (o.t.z * u + o.r.c.x * v.x + o.r.c.y * v.y + o.r.c.z * v.z - m * q3)) m
  rw [h4', h5]
  have key : h.x * (o.t.x * u + o.r.a.x * v.x + o.r.a.y * v.y + o.r.a.z * v.z - m * q1) + h.y * (o.t.y * u + o.r.b.x * v.x + o.r.b.y * v.y + o.r.b.z * v.z - m * q2) + h.z * (o.t.z * u + o.r.c.x * v.x + o.r.c.y * v.y + o.r.c.z * v.z - m * q3)
      = (h.x * o.t.x + h.y * o.t.y + h.z * o.t.z) * u + (h.x * o.r.a.x + h.y * o.r.b.x + h.z * o.r.c.x) * v.x + (h.x * o.r.a.y + h.y * o.r.b.y + h.z * o.r.c.y) * v.y + (h.x * o.r.a.z + h.y * o.r.b.z + h.z * o.r.c.z) * v.z - m * (h.x * q1 + h.y * q2 + h.z * q3) := by grind
  rw [key, tx, ty, tz]
  refine ⟨q4 - q5 + q0 - (h.x * q1 + h.y * q2 + h.z * q3), ?_⟩
  rw [he]
  clear key tx ty tz h0 h1 h2 h3 h4' h5 he hi hv hh hb ho
  grind

/-! ### The sum over an orbit -/
theorem orb_zero {g : List O} (hg : chkG g = 0) {m : Int} (h4 : Is4 m) {x : V} (hx : Rng m x) {o : O} (ho : o ∈ g) {h : V} (hh : H3 h) (ht : turnV o.r h = h) (hp : phO o h ≠ 0) (s t : Int) :
    sumF (fun v => phi m (phF h m v + s) t) (orbV g m x) = 0 := by
  obtain ⟨u, hu⟩ := h4.u
  have hG := (chkG_ok hg).ok
  have hr : ∀ v ∈ orbV g m x, Rng m v := fun v hv => by
    obtain ⟨o', ho', rfl⟩ := orb_mem.1 hv
    exact img_rng h4 hu (hG o' ho') hx
  have hpr : 1 ≤ phO o h ∧ phO o h < 24 := by
    have := phO_eq (hG o ho) hh
    have := Int.emod_nonneg (h.x * o.t.x + h.y * o.t.y + h.z * o.t.z) (show (24 : Int) ≠ 0 by decide)
    have := Int.emod_lt_of_pos (h.x * o.t.x + h.y * o.t.y + h.z * o.t.z) (show (0 : Int) < 24 by decide)
    omega
  refine shift_zero hu (fun s => sumF (fun v => phi m (phF h m v + s) t) (orbV g m x)) (fun s k => ?_) (fun s => ?_) (fun s => ?_) (fun s => ?_) hpr s
  · refine sumF_congr fun v _ => phi_cong (k := k) t (by omega)
  · rw [← sumF_neg]
    refine sumF_congr fun v _ => ?_
    rw [← phi_half h4, Int.add_assoc]
  · refine sumF_three (fun v => ?_) _
    have := phi_third h4 (phF h m v + s) t
    rw [← Int.add_assoc, ← Int.add_assoc, ← Int.add_assoc]
    exact this
  · show _ = sumF (fun v => phi m (phF h m v + s) t) (orbV g m x)
    rw [← sumF_perm (f := fun v => phi m (phF h m v + s) t) (orb_perm hg h4 hx ho), sumF_map]
    refine sumF_congr fun v hv => ?_
    obtain ⟨k, hk⟩ := ph_shift h4 hu (hG o ho) hh (hr v hv) ht
    exact (phi_cong (k := k) t (by rw [hk]; omega)).symm

/-! ### The exact wave at an absent index -/
theorem addP_get {m : Int} (h4 : Is4 m) (h : V) (a : Atm) {c : List Int} {C : Int → Int} (hc : c.length = (m / 3).toNat) (hC : ∀ t : Nat, t < c.length → c.getD t 0 = w (C t)) (v : V) (t : Nat) (ht : t < c.length) :
    (addP m h a c v).getD t 0 = w (C t + a.w * phi m (phF h m v + 0) t + a.o * phi m (phF h m v + m / 4) t) := by
  have hp := h4.pos
  have hq := h4.qs
  obtain ⟨p0, p1⟩ := phF_rng (h := h) (x := v) h4
  have hw : w (phF h m v + w (m.tdiv 4)) = phF h m v + m / 4 := by rw [hq.d, wrap_i _ (by omega) (by omega)]
  unfold addP
  rw [hw]
  have hl : (addC m (phF h m v) a.w c).length = c.length := addC_len
  exact addC_get h4 (by omega) (C := fun t => C t + a.w * phi m (phF h m v + 0) t) (by rw [hl]; exact hc) (fun t ht => by rw [Int.add_zero]; exact addC_get h4 p0 hc hC t (by rw [hl] at ht; exact ht)) t (by rw [hl]; exact ht)
theorem addP_len {m : Int} {h : V} {a : Atm} {c : List Int} {v : V} : (addP m h a c v).length = c.length := by unfold addP; rw [addC_len, addC_len]
theorem addPs_get {m : Int} (h4 : Is4 m) (h : V) (a : Atm) : ∀ (O : List V) {c : List Int} {C : Int → Int}, c.length = (m / 3).toNat → (∀ t : Nat, t < c.length → c.getD t 0 = w (C t)) →
    (O.foldl (addP m h a) c).length = c.length ∧ ∀ t : Nat, t < c.length → (O.foldl (addP m h a) c).getD t 0 = w (C t + a.w * sumF (fun v => phi m (phF h m v + 0) t) O + a.o * sumF (fun v => phi m (phF h m v + m / 4) t) O)
  | [], c, C, hc, hC => ⟨rfl, fun t ht => by rw [List.foldl_nil, hC t ht]; congr 1; simp [sumF]⟩
  | v :: r, c, C, hc, hC => by
    rw [List.foldl_cons]
    have hl : (addP m h a c v).length = c.length := addP_len
    obtain ⟨h1, h2⟩ := addPs_get h4 h a r (c := addP m h a c v) (C := fun t => C t + a.w * phi m (phF h m v + 0) t + a.o * phi m (phF h m v + m / 4) t) (by rw [hl]; exact hc) (fun t ht => addP_get h4 h a hc hC v t (by rw [hl] at ht; exact ht))
    refine ⟨h1.trans hl, fun t ht => ?_⟩
    rw [h2 t (by rw [hl]; exact ht)]
    congr 1
    simp only [sumF]
    rw [Int.mul_add, Int.mul_add]
    omega
theorem exC_zero {g : List O} (hg : chkG g = 0) {m : Int} (h4 : Is4 m) {o : O} (ho : o ∈ g) {h : V} (hh : H3 h) (ht : turnV o.r h = h) (hp : phO o h ≠ 0) : ∀ (l : List Atm), (∀ a ∈ l, OkA m a) → ∀ {c : List Int}, c.length = (m / 3).toNat → (∀ t : Nat, t < c.length → c.getD t 0 = 0) →
    (l.foldl (addO g m h) c).length = c.length ∧ ∀ t : Nat, t < c.length → (l.foldl (addO g m h) c).getD t 0 = 0
  | [], _, c, _, hC => ⟨rfl, hC⟩
  | a :: r, hl, c, hc, hC => by
    rw [List.foldl_cons]
    have hx := (hl a (List.mem_cons_self ..)).r
    obtain ⟨h1, h2⟩ := addPs_get h4 h a (orbV g m a.p.x) (c := c) (C := fun _ => 0) hc (fun t ht => by rw [hC t ht]; decide)
    have e : (addO g m h c a).length = c.length := h1
    obtain ⟨h3, h5⟩ := exC_zero hg h4 ho hh ht hp r (fun b hb => hl b (List.mem_cons_of_mem _ hb)) (c := addO g m h c a) (by rw [e]; exact hc) (fun t hT => by
      rw [e] at hT
      show ((orbV g m a.p.x).foldl (addP m h a) c).getD t 0 = 0
      rw [h2 t hT, orb_zero hg h4 hx ho hh ht hp 0 t, orb_zero hg h4 hx ho hh ht hp (m / 4) t, Int.mul_zero, Int.mul_zero]
      decide)
    exact ⟨h3.trans e, fun t hT => h5 t (by rw [e]; exact hT)⟩
theorem allZ_of : ∀ {c : List Int}, (∀ t : Nat, t < c.length → c.getD t 0 = 0) → allZ c = true
  | [], _ => rfl
  | a :: r, h => by
    have h0 : a = 0 := h 0 (by simp)
    subst h0
    unfold allZ
    exact allZ_of fun t ht => by
      have := h (t + 1) (by simp; omega)
      simpa using this
theorem findO_hit {h : V} : ∀ {g : List O}, (findO h g).2.2 = true → ∃ o ∈ g, turnV o.r h = h ∧ phO o h ≠ 0
  | [], e => by cases e
  | o :: r, e => by
    unfold findO at e
    cases hh : hitO h o with
    | false =>
      rw [hh, cond_false] at e
      obtain ⟨o', ho', h1⟩ := findO_hit e
      exact ⟨o', List.mem_cons_of_mem _ ho', h1⟩
    | true =>
      unfold hitO at hh
      cases hq : eqV (turnV o.r h) h with
      | false => rw [hq] at hh; cases hh
      | true =>
        rw [hq, cond_true] at hh
        refine ⟨o, List.mem_cons_self .., ?_, by simpa using hh⟩
        revert hq
        generalize turnV o.r h = k
        obtain ⟨a, b, c⟩ := k
        obtain ⟨a', b', c'⟩ := h
        intro hq
        unfold eqV at hq
        simp only [Bool.and_eq_true, beq_iff_eq, and_true] at hq
        obtain ⟨rfl, rfl, rfl⟩ := hq
        rfl
theorem absent_zero {g : List O} {l : List Atm} {h : V} (he : errX g l h = 0) (hf : (findO h g).2.2 = true) : allZ (exC g (m0A l) h l) = true := by
  obtain ⟨hg, hA, hi⟩ := least3_zero he
  have hL := chkA_ok hA
  have hb : bad3 h 512 = false := by
    unfold idxV at hi
    cases hc : bad3 h 512 with
    | false => rfl
    | true => rw [hc] at hi; cases hi
  obtain ⟨o, ho, h1, h2⟩ := findO_hit hf
  obtain ⟨h3, h4⟩ := exC_zero hg hL.m ho (h3_of hb) h1 h2 l hL.a (c := List.replicate (m0A l / 3).toNat 0) (by simp) (fun t ht => by
    rw [List.getD_eq_getElem?_getD, List.getElem?_replicate]
    split <;> rfl)
  exact allZ_of fun t ht => h4 t (by unfold exC at ht; rw [h3] at ht; exact ht)
end E
end Go.Proofs.Ytjhognibibmeiaa
