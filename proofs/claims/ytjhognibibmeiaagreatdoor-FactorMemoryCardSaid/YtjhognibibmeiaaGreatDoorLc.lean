/-
  PLAIN LAWS, third part: the program's group check is the document's; so are the atoms' and the whole.
-/
import Derived.Test.YtjhognibibmeiaaGreatDoorLb
set_option linter.unusedVariables false
set_option maxRecDepth 100000
set_option maxHeartbeats 4000000
namespace Go.Proofs.YtjhognibibmeiaaGreatDoor
namespace E
open Go Go.RowKit

/-! ### Products of maps -/
structure T3 (v : V) : Prop where
  x : 0 ≤ v.x ∧ v.x < 24
  y : 0 ≤ v.y ∧ v.y < 24
  z : 0 ≤ v.z ∧ v.z < 24
theorem outT_false {t : V} (h : outT t = false) : T3 t := by
  unfold outT at h
  cases h1 : decide (t.x < 0) with
  | true => rw [h1] at h; cases h
  | false =>
    cases h2 : decide (t.x ≥ 24) with
    | true => rw [h1, h2] at h; cases h
    | false =>
      cases h3 : decide (t.y < 0) with
      | true => rw [h1, h2, h3] at h; cases h
      | false =>
        cases h4 : decide (t.y ≥ 24) with
        | true => rw [h1, h2, h3, h4] at h; cases h
        | false =>
          cases h5 : decide (t.z < 0) with
          | true => rw [h1, h2, h3, h4, h5] at h; cases h
          | false =>
            rw [h1, h2, h3, h4, h5] at h
            simp at h h1 h2 h3 h4 h5
            exact ⟨by omega, by omega, by omega⟩
theorem mul_bd {x v B C : Int} (hx : -B ≤ x ∧ x ≤ B) (hv : 0 ≤ v ∧ v ≤ C) (hB : 0 ≤ B) : -(B * C) ≤ x * v ∧ x * v ≤ B * C := by
  have h1 : x * v ≤ B * v := Int.mul_le_mul_of_nonneg_right hx.2 hv.1
  have h2 : B * v ≤ B * C := Int.mul_le_mul_of_nonneg_left hv.2 hB
  have h3 : -B * v ≤ x * v := Int.mul_le_mul_of_nonneg_right hx.1 hv.1
  have h4 : -B * v = -(B * v) := Int.neg_mul _ _
  omega
theorem dot24 {x v : Int} (hx : -1000 ≤ x ∧ x ≤ 1000) (hv : 0 ≤ v ∧ v < 24) : ∃ q, x * v = 24 * q + x % 24 * v ∧ 0 ≤ x % 24 * v ∧ x % 24 * v ≤ 552 ∧ -23000 ≤ x * v ∧ x * v ≤ 23000 := by
  have h0 := Int.emod_nonneg x (show (24 : Int) ≠ 0 by decide)
  have h1 := Int.emod_lt_of_pos x (show (0 : Int) < 24 by decide)
  have h2 := mul_bd (B := 1000) (C := 23) hx ⟨hv.1, by omega⟩ (by decide)
  have h3 := mul_bd (x := x % 24) (v := v) (B := 24) (C := 23) ⟨by omega, by omega⟩ ⟨hv.1, by omega⟩ (by decide)
  have h4 := Int.mul_nonneg h0 hv.1
  refine ⟨x / 24 * v, ?_, h4, by omega, by omega, by omega⟩
  have h5 : 24 * (x / 24) + x % 24 = x := Int.mul_ediv_add_emod x 24
  have h6 : (24 * (x / 24) + x % 24) * v = x * v := by rw [h5]
  rw [Int.add_mul, Int.mul_assoc] at h6
  omega
theorem stepS_eq {s x t : Int} (hs : 0 ≤ s ∧ s < 24) (h : 0 ≤ x % 24 * t ∧ x % 24 * t ≤ 552) : stepS s x t = (s + x % 24 * t) % 24 := by
  unfold stepS
  rw [modF_eq (n := x) (by decide) (by decide), modF_eq (by decide) (by decide), wrap_i (x % 24 * t) (by omega) (by omega), wrap_i _ (by omega) (by omega)]
theorem mod24 (n : Int) : 0 ≤ n % 24 ∧ n % 24 < 24 := ⟨Int.emod_nonneg _ (by decide), Int.emod_lt_of_pos _ (by decide)⟩
theorem tr_eq {t : Int} {a v : V} (ht : 0 ≤ t ∧ t < 24) (ha : B3 a) (hv : T3 v) : addF (stepS (stepS (stepS 0 a.x v.x) a.y v.y) a.z v.z) t = trR t a v := by
  obtain ⟨qx, x1, x2, x3, x4, x5⟩ := dot24 ha.x hv.x
  obtain ⟨qy, y1, y2, y3, y4, y5⟩ := dot24 ha.y hv.y
  obtain ⟨qz, z1, z2, z3, z4, z5⟩ := dot24 ha.z hv.z
  rw [stepS_eq (s := 0) ⟨by decide, by decide⟩ ⟨x2, x3⟩, stepS_eq (mod24 _) ⟨y2, y3⟩, stepS_eq (mod24 _) ⟨z2, z3⟩]
  unfold trR addF
  rw [dotR_w, mod2_eq (by decide) (by decide), modF_eq (by decide) (by decide)]
  generalize a.x % 24 * v.x = rx at *
  generalize a.y % 24 * v.y = ry at *
  generalize a.z % 24 * v.z = rz at *
  generalize a.x * v.x = px at *
  generalize a.y * v.y = py at *
  generalize a.z * v.z = pz at *
  rw [wrap_i (t + px + py + pz) (by omega) (by omega)]
  generalize hA : ((0 + rx) % 24 + ry) % 24 = A
  have hA2 := mod24 ((0 + rx) % 24 + ry)
  have hB := mod24 (A + rz)
  rw [Int.tmod_eq_emod_of_nonneg hB.1, Int.tmod_eq_emod_of_nonneg ht.1, wrap_i _ (by omega) (by omega)]
  omega
theorem mulO_eq {a b : O} (ha : OkO a) (hb : OkO b) : mulO a b = mulR a b := by
  have ta := outT_false ha.t
  have tb := outT_false hb.t
  have ra := bey9_false ha.b
  unfold mulO mulR addV shiftV
  simp only
  rw [mulM_eq, tr_eq ta.x ra.a tb, tr_eq ta.y ra.b tb, tr_eq ta.z ra.c tb]
theorem inP_eq {g : List O} (hg : ∀ o ∈ g, OkO o) {a b : O} (ha : a ∈ g) (hb : b ∈ g) : inP g a b = inR g a b := by
  have oa := hg a ha
  have ob := hg b hb
  have hR : inR g a b = hasO g (mulR a b) := (hasO_pos g _).symm
  rw [hR]
  unfold inP okM
  rw [oa.t, oa.b, oa.d, ob.t, ob.b, ob.d]
  simp only [cond_true, cond_false]
  rw [mulO_eq oa ob]
  cases h : bey9 (mulR a b).r with
  | false => rfl
  | true =>
    simp only [cond_true, cond_false]
    cases h2 : hasO g (mulR a b) with
    | false => rfl
    | true =>
      have := (hg _ ((hasO_iff g _).1 h2)).b
      rw [h] at this; cases this
theorem clos1_congr {f f' : O → O → Bool} {a : O} : ∀ {l : List O}, (∀ b ∈ l, f a b = f' a b) → clos1 f a l = clos1 f' a l
  | [], h => rfl
  | b :: r, h => by
    unfold clos1
    rw [h b (List.mem_cons_self ..), clos1_congr fun c hc => h c (List.mem_cons_of_mem _ hc)]
theorem clos2_congr {f f' : O → O → Bool} {g : List O} : ∀ {l : List O}, (∀ a ∈ l, ∀ b ∈ g, f a b = f' a b) → clos2 f g l = clos2 f' g l
  | [], h => rfl
  | a :: r, h => by
    unfold clos2
    rw [clos1_congr (h a (List.mem_cons_self ..)), clos2_congr fun c hc => h c (List.mem_cons_of_mem _ hc)]
theorem chkG_eq (g : List O) : chkG g = docC g := by
  unfold chkG docC
  cases hd : decide ((g.length : Int) > 192) with
  | true => rfl
  | false =>
    simp only [cond_false]
    rw [mapsG_eq]
    cases hm : mapsG refE g 0 != 0 with
    | true => rfl
    | false =>
      simp only [cond_false]
      have hm0 : mapsG opE g 0 = 0 := by rw [mapsG_eq]; simpa using hm
      have hg : ∀ o ∈ g, OkO o := fun o ho => by
        obtain ⟨h3, h4⟩ := (mapsG_zero hm0).2 o ho
        exact opE_ok h3 h4
      unfold chkT0 docT
      rw [ascN_eq, clos2_congr fun a ha b hb => inP_eq hg ha hb, hasO_pos]
      cases decide (posO oneO g 0 < 0) <;> rfl

/-! ### Atoms -/
def badF (a : Atm) : Bool := !formP a.p
theorem badP_eq : badP = badF := by
  funext a
  unfold badP badF
  rw [placeR_eq]
theorem chkAs_eq {m0 : Int} : ∀ (l : List Atm) (e : Int), (e = 0 ∨ e = 2 ∨ e = 3 ∨ e = 6) →
    chkAs m0 l e = bif anyB heavyA l then 1 else least2 (least2 e (bif anyB badF l then 3 else 0)) (bif anyB (neM m0) l then 6 else 0)
  | [], e, he => by
    rcases he with rfl | rfl | rfl | rfl <;> rfl
  | a :: r, e, he => by
    have hs : stepA m0 e a = least2 (least2 e (bif badF a then 3 else 0)) (bif neM m0 a then 6 else 0) := by
      unfold stepA badF neM
      cases a.p.m != m0 <;> cases formP a.p <;> rcases he with rfl | rfl | rfl | rfl <;> rfl
    unfold chkAs anyB
    cases heavyA a with
    | true => rfl
    | false =>
      simp only [cond_false]
      rw [hs, chkAs_eq r _ (by cases badF a <;> cases neM m0 a <;> rcases he with rfl | rfl | rfl | rfl <;> decide)]
      cases anyB heavyA r with
      | true => rfl
      | false =>
        cases badF a <;> cases neM m0 a <;> cases anyB badF r <;> cases anyB (neM m0) r <;> rcases he with rfl | rfl | rfl | rfl <;> rfl
theorem chkA_eq (l : List Atm) : chkA l = docA l := by
  unfold chkA docA
  rw [badP_eq, chkAs_eq]
  · cases anyB heavyA l with
    | true => rfl
    | false => cases decide ((l.length : Int) > 256) <;> cases anyB badF l <;> cases anyB (neM (m0A l)) l <;> rfl
  · cases decide ((l.length : Int) > 256)
    · exact .inl rfl
    · exact .inr (.inl rfl)

/-! ### The error -/
theorem mapsG_rng {E : O → Int} : ∀ (g : List O) (a : Int), 0 ≤ a → 0 ≤ mapsG E g a
  | [], a, h => h
  | o :: r, a, h => by
    unfold mapsG
    cases E o == 3 with
    | true => exact (by decide : (0 : Int) ≤ 3)
    | false =>
      cases E o == 4 with
      | true => exact mapsG_rng r 4 (by decide)
      | false => exact mapsG_rng r a h
theorem docC_nn (g : List O) : 0 ≤ docC g := by
  unfold docC docT
  have := mapsG_rng (E := refE) g 0 (by decide)
  cases decide ((g.length : Int) > 192) with
  | true => exact (by decide : (0 : Int) ≤ 2)
  | false =>
    cases mapsG refE g 0 != 0 with
    | true => exact this
    | false =>
      cases ascN cmpOR g (g.length - 1) 1 <;> cases decide (posO oneO g 0 < 0) <;> cases clos2 (inR g) g g <;> first | exact Int.le_refl 0 | exact (by decide : (0 : Int) ≤ 5)
theorem docA_nn (l : List Atm) : 0 ≤ docA l := by
  unfold docA
  cases anyB heavyA l <;> cases decide ((l.length : Int) > 256) <;> cases anyB badP l <;> cases anyB (neM (m0A l)) l <;> decide
theorem lst {e x : Int} (he : 0 ≤ e) (hx : 0 ≤ x) : lstep e x = mixE e x := by
  unfold lstep mixE
  cases h1 : x != 0 with
  | false =>
    have hx0 : x = 0 := by simpa using h1
    subst hx0
    cases h2 : e == 0 with
    | false => rfl
    | true => have : e = 0 := by simpa using h2
              subst this; rfl
  | true => cases e == 0 <;> rfl
theorem errX_eq (g : List O) (l : List Atm) (h : V) : errX g l h = chkR g l h := by
  unfold errX chkR least3 least2 idxV
  rw [chkG_eq, chkA_eq]
  have ha := docC_nn g
  have hb := docA_nn l
  generalize docC g = a at ha
  generalize docA l = b at hb
  have h0 : lstep 0 a = a := by
    unfold lstep
    cases h1 : a != 0 with
    | true => rfl
    | false => have : a = 0 := by simpa using h1
               subst this; rfl
  rw [h0, lst ha hb]
  have hmx : 0 ≤ mixE a b := by
    unfold mixE
    cases a == 0 <;> cases b != 0 <;> cases decide (b < a) <;> simp <;> omega
  generalize mixE a b = e at hmx
  cases bad3 h 512 with
  | false => rfl
  | true =>
    simp only [cond_true]
    unfold lstep
    cases h2 : e == 0 with
    | true => rfl
    | false =>
      have he : e ≠ 0 := by simpa using h2
      cases h3 : decide ((1 : Int) < e) with
      | true => rfl
      | false => simp at h3; simp; omega
end E
end Go.Proofs.YtjhognibibmeiaaGreatDoor
