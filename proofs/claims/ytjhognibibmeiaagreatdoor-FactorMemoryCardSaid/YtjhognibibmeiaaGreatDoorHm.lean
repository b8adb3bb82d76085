/-
  THE FUNCTIONS, thirteenth part: places that are right: brought, ordered.
-/
import Derived.Test.YtjhognibibmeiaaGreatDoorHl
set_option linter.unusedVariables false
set_option maxRecDepth 100000
set_option maxHeartbeats 4000000
namespace Go.Proofs.YtjhognibibmeiaaGreatDoor
namespace E
open Go Go.RowKit

structure Rng (m : Int) (v : V) : Prop where
  x0 : 0 ≤ v.x
  x1 : v.x < m
  y0 : 0 ≤ v.y
  y1 : v.y < m
  z0 : 0 ≤ v.z
  z1 : v.z < m
inductive Is4 : Int → Prop
  | a : Is4 24
  | b : Is4 48
  | c : Is4 96
  | d : Is4 192
theorem is4_iff {m : Int} : is4 m = true ↔ Is4 m := by
  constructor
  · intro h
    unfold is4 at h
    cases h1 : m == 24 with
    | true => have : m = 24 := by simpa using h1
              subst this; exact .a
    | false =>
      cases h2 : m == 48 with
      | true => have : m = 48 := by simpa using h2
                subst this; exact .b
      | false =>
        cases h3 : m == 96 with
        | true => have : m = 96 := by simpa using h3
                  subst this; exact .c
        | false =>
          rw [h1, h2, h3] at h
          have : m = 192 := by simpa using h
          subst this; exact .d
  · intro h; cases h <;> rfl
theorem Is4.pos {m : Int} (h : Is4 m) : 24 ≤ m ∧ m ≤ 192 := by cases h <;> omega
theorem formP_iff {p : Pt} : formP p = true ↔ Is4 p.m ∧ Rng p.m p.x := by
  obtain ⟨m, x, y, z⟩ := p
  unfold formP
  cases h : is4 m with
  | true =>
    have h4 := is4_iff.1 h
    simp only [cond_true]
    constructor
    · intro h
      refine ⟨h4, ?_⟩
      simp only [Bool.cond_eq_ite, decide_eq_true_eq] at h
      split at h
      · cases h
      · split at h
        · cases h
        · split at h
          · cases h
          · split at h
            · cases h
            · split at h
              · cases h
              · split at h
                · cases h
                · constructor <;> simp only <;> omega
    · rintro ⟨_, h1, h2, h3, h4, h5, h6⟩
      replace h1 : 0 ≤ x := h1
      replace h2 : x < m := h2
      replace h3 : 0 ≤ y := h3
      replace h4 : y < m := h4
      replace h5 : 0 ≤ z := h5
      replace h6 : z < m := h6
      simp only [Bool.cond_eq_ite, decide_eq_true_eq]
      rw [if_neg (by omega), if_neg (by omega), if_neg (by omega), if_neg (by omega), if_neg (by omega), if_neg (by omega)]
  | false =>
    simp only [cond_false]
    constructor
    · intro h; cases h
    · rintro ⟨h4, _⟩
      have h5 : is4 m = true := is4_iff.2 h4
      rw [h] at h5; cases h5
theorem modF_rng {n m : Int} (h : 24 ≤ m ∧ m ≤ 192) : 0 ≤ modF n m ∧ modF n m < m := by
  have h1 := Int.tmod_lt_of_pos n (show 0 < m by omega)
  have h2 : -m < n.tmod m := by
    have := Int.lt_tmod_of_pos n (show 0 < m by omega)
    exact this
  unfold modF
  rw [wrap_i _ (by omega) (by omega)]
  exact ⟨Int.tmod_nonneg _ (by omega), Int.tmod_lt_of_pos _ (by omega)⟩
theorem modV_rng {v : V} {m : Int} (h : Is4 m) : Rng m (modV v m) :=
  have p := h.pos
  ⟨(modF_rng p).1, (modF_rng p).2, (modF_rng p).1, (modF_rng p).2, (modF_rng p).1, (modF_rng p).2⟩
theorem formP_mod {v : V} {m : Int} (h : Is4 m) : formP ⟨m, modV v m⟩ = true := formP_iff.2 ⟨h, modV_rng h⟩
theorem Rng.right {m : Int} {v : V} (h : Rng m v) (hm : Is4 m) : rightV v = true := by
  have p := hm.pos
  obtain ⟨h1, h2, h3, h4, h5, h6⟩ := h
  have hb : ∀ x : Int, 0 ≤ x → x < m → beyond x 2147483648 = false := by
    intro x hx hx2
    have hw : w (0 - 2147483648) = -2147483648 := by decide
    simp only [beyond, hw]
    have e1 : decide (x < -2147483648) = false := by simp; omega
    have e2 : decide (x > 2147483648) = false := by simp; omega
    rw [e1, e2]; rfl
  unfold rightV bey3
  rw [hb _ h1 h2, hb _ h3 h4, hb _ h5 h6]; rfl

structure OkO (o : O) : Prop where
  t : outT o.t = false
  b : bey9 o.r = false
  d : okD o.r = true
/-- Where a map sends a place. -/
def imgV (o : O) (m : Int) (x : V) : V := modV (shV ⟨m, modV (appV o.r x) m⟩ o.t) m
def S75b : PSpec := espec (fun x : O × Int × V => [.agg (eO x.1), .agg (ePt ⟨x.2.1, x.2.2⟩)]) (fun x => OkO x.1 ∧ Is4 x.2.1 ∧ Rng x.2.1 x.2.2) (fun x => Er (.agg (ePt ⟨x.2.1, imgV x.1 x.2.1 x.2.2⟩)) 0)
theorem s75b : SoundA PR GL 98 S75b := s75.mono fun args K hk => by
  obtain ⟨⟨o, m, x⟩, rfl, ⟨ho, h4, hr⟩, hk⟩ := hk
  replace hk : K (Er (.agg (ePt ⟨m, imgV o m x⟩)) 0) := hk
  show runT (chkT o (eP0 3) (C (formP ⟨m, x⟩) (eP0 4) (eP0 3)) (C (formP ⟨m, x⟩) (C (rightV x) (placeT m (appV o.r x) o.t) (placeT m vec0 o.t)) (eP0 3))) K
  have f1 : formP ⟨m, x⟩ = true := formP_iff.2 ⟨h4, hr⟩
  have f2 : is4 m = true := is4_iff.2 h4
  have f3 : formP ⟨m, modV (appV o.r x) m⟩ = true := formP_mod h4
  simp only [chkT, C, runT, placeT, shiftT, ho.t, ho.b, ho.d, hr.right h4, f1, f2, f3, pickB_t, pickB_f]
  exact hk
noncomputable def e75b : Ent := entA s75b espec_fun

def S78b : PSpec := espec (fun x : Int × V × V => [.agg (ePt ⟨x.1, x.2.1⟩), .agg (ePt ⟨x.1, x.2.2⟩)]) (fun x => Is4 x.1 ∧ Rng x.1 x.2.1 ∧ Rng x.1 x.2.2) (fun x => Er (I (cmpV x.2.1 x.2.2 0)) 0)
theorem ordF_lt {m a b : Int} (h : Is4 m) (ha : 0 ≤ a ∧ a < m) (hb : 0 ≤ b ∧ b < m) (r : Int) : cmp2 (ordF a m) (ordF b m) r = cmp2 a b r := by
  have e : ∀ x, 0 ≤ x ∧ x < m → ordF x m = x * (192 : Int).tdiv m := by
    intro x hx
    have hw : w ((192 : Int).tdiv m) = (192 : Int).tdiv m := by cases h <;> decide
    unfold ordF
    rw [hw]
    have e1 : (192 : Int).tdiv 24 = 8 := rfl
    have e2 : (192 : Int).tdiv 48 = 4 := rfl
    have e3 : (192 : Int).tdiv 96 = 2 := rfl
    have e4 : (192 : Int).tdiv 192 = 1 := rfl
    cases h <;> (simp only [e1, e2, e3, e4]; rw [wrap_i] <;> omega)
  rw [e a ha, e b hb]
  unfold cmp2
  have k : 0 < (192 : Int).tdiv m := by cases h <;> decide
  have e1 : decide (a * (192 : Int).tdiv m < b * (192 : Int).tdiv m) = decide (a < b) := by
    rw [decide_eq_decide]
    exact ⟨fun h => Int.lt_of_mul_lt_mul_right h (Int.le_of_lt k), fun h => Int.mul_lt_mul_of_pos_right h k⟩
  have e2 : decide (a * (192 : Int).tdiv m > b * (192 : Int).tdiv m) = decide (a > b) := by
    rw [decide_eq_decide]
    exact ⟨fun h => Int.lt_of_mul_lt_mul_right h (Int.le_of_lt k), fun h => Int.mul_lt_mul_of_pos_right h k⟩
  rw [e1, e2]
theorem ordP_cmp {m : Int} {a b : V} (h : Is4 m) (ha : Rng m a) (hb : Rng m b) : ordP ⟨m, a⟩ ⟨m, b⟩ = cmpV a b 0 := by
  unfold ordP cmpV
  rw [ordF_lt h ⟨ha.z0, ha.z1⟩ ⟨hb.z0, hb.z1⟩, ordF_lt h ⟨ha.y0, ha.y1⟩ ⟨hb.y0, hb.y1⟩, ordF_lt h ⟨ha.x0, ha.x1⟩ ⟨hb.x0, hb.x1⟩]
theorem s78b : SoundA PR GL 101 S78b := s78.mono fun args K hk => by
  obtain ⟨⟨m, a, b⟩, rfl, ⟨h4, ha, hb⟩, hk⟩ := hk
  replace hk : K (Er (I (cmpV a b 0)) 0) := hk
  show runT (C (formP ⟨m, a⟩) (C (formP ⟨m, b⟩) (Er (I (ordP ⟨m, a⟩ ⟨m, b⟩)) 0) (Er (I 0) 3)) (Er (I 0) 3)) K
  have f1 : formP ⟨m, a⟩ = true := formP_iff.2 ⟨h4, ha⟩
  have f2 : formP ⟨m, b⟩ = true := formP_iff.2 ⟨h4, hb⟩
  simp only [C, runT, f1, f2, pickB_t, ordP_cmp h4 ha hb]
  exact hk
noncomputable def e78b : Ent := entA s78b espec_fun
def S56 : PSpec := espec (fun x : Int × V × V => [.agg (ePt ⟨x.1, x.2.1⟩), .agg (ePt ⟨x.1, x.2.2⟩)]) (fun x => Is4 x.1 ∧ Rng x.1 x.2.1 ∧ Rng x.1 x.2.2) (fun x => I (cmpV x.2.1 x.2.2 0))
theorem s56 : SoundA PR GL 78 S56 := mkA [e78b] 0 Tryz.func78 (by kernel_rfl) (by kernel_rfl) fun args K hk => by
  obtain ⟨⟨m, a, b⟩, rfl, hp, hk⟩ := hk
  conv => whnf
  refine ⟨⟨m, a, b⟩, rfl, hp, ?_⟩
  conv => whnf
  exact hk
noncomputable def e56 : Ent := entA s56 espec_fun
end E
end Go.Proofs.YtjhognibibmeiaaGreatDoor
