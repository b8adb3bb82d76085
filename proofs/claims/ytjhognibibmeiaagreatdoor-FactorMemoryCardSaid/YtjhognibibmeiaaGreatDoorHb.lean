/-
  THE FUNCTIONS, second part: the rest of vec; frac; op's small ones.
-/
import Derived.Test.YtjhognibibmeiaaGreatDoorHa
set_option linter.unusedVariables false
set_option maxRecDepth 100000
set_option maxHeartbeats 4000000
namespace Go.Proofs.YtjhognibibmeiaaGreatDoor
namespace E
open Go Go.RowKit

def rightV (v : V) : Bool := bif bey3 v 2147483648 then false else true
def S108 : PSpec := p1 encV fun v => Bo (rightV v)
theorem s108 : SoundA PR GL 128 S108 := mkA [e88] 4 Tryz.func128 (by kernel_rfl) (by kernel_rfl) fun args K hk => by
  have hk1 := p1_inv hk
  clear hk
  obtain ⟨v, rfl, hk⟩ := hk1
  conv => whnf
  repeat' ((first
            | refine pickB_yes (by assumption) ?_
            | refine pickB_no (by assumption) ?_
            | refine pickB_of (fun _ => ?_) (fun _ => ?_)
            | refine And.intro (Nat.le_refl _) ?_) <;> (conv => whnf))
  all_goals (repeat (first | replace hk := pickB_gt hk (by assumption) | replace hk := pickB_gf hk (by assumption)))
  all_goals first | exact hk | (simp only [rightV, bey3, C, runT, pickB_t, pickB_f, *, cond_true, cond_false] at hk; exact hk)
noncomputable def e108 : Ent := entA s108 (pspec_fun _)
def dot3 (a b c a' b' c' : Int) : Int := w (w (w (a * a') + w (b * b')) + w (c * c'))
def mulM (a b : M) : M :=
  ⟨⟨dot3 a.a.x a.a.y a.a.z b.a.x b.b.x b.c.x, dot3 a.a.x a.a.y a.a.z b.a.y b.b.y b.c.y, dot3 a.a.x a.a.y a.a.z b.a.z b.b.z b.c.z⟩,
   ⟨dot3 a.b.x a.b.y a.b.z b.a.x b.b.x b.c.x, dot3 a.b.x a.b.y a.b.z b.a.y b.b.y b.c.y, dot3 a.b.x a.b.y a.b.z b.a.z b.b.z b.c.z⟩,
   ⟨dot3 a.c.x a.c.y a.c.z b.a.x b.b.x b.c.x, dot3 a.c.x a.c.y a.c.z b.a.y b.b.y b.c.y, dot3 a.c.x a.c.y a.c.z b.a.z b.b.z b.c.z⟩⟩
def S89 : PSpec := p2 encM encM fun a b => LV.agg (eM (mulM a b))
theorem s89 : SoundA PR GL 109 S89 := mkA [] 4 Tryz.func109 (by kernel_rfl) (by kernel_rfl) fun args K hk => by
  have hk1 := p2_inv hk
  clear hk
  obtain ⟨a, b, rfl, hk⟩ := hk1
  conv => whnf
  repeat' ((first
            | refine pickB_yes (by assumption) ?_
            | refine pickB_no (by assumption) ?_
            | refine pickB_of (fun _ => ?_) (fun _ => ?_)
            | refine And.intro (Nat.le_refl _) ?_) <;> (conv => whnf))
  all_goals (repeat (first | replace hk := pickB_gt hk (by assumption) | replace hk := pickB_gf hk (by assumption)))
  all_goals first | exact hk | (simp only [mulM, C, runT, pickB_t, pickB_f, *, cond_true, cond_false] at hk; exact hk)
noncomputable def e89 : Ent := entA s89 (pspec_fun _)
def mulE (a b : M) : T := C (bey9 a) (Er (.agg (eM mat0)) 4) (C (bey9 b) (Er (.agg (eM mat0)) 4) (Er (.agg (eM (mulM a b))) 0))
def S72 : PSpec := p2 encM encM mulE
theorem s72 : SoundA PR GL 93 S72 := mkA [e71, e89] 4 Tryz.func93 (by kernel_rfl) (by kernel_rfl) fun args K hk => by
  have hk1 := p2_inv hk
  clear hk
  obtain ⟨a, b, rfl, hk⟩ := hk1
  conv => whnf
  repeat' ((first
            | refine pickB_yes (by assumption) ?_
            | refine pickB_no (by assumption) ?_
            | refine pickB_of (fun _ => ?_) (fun _ => ?_)
            | refine And.intro (Nat.le_refl _) ?_) <;> (conv => whnf))
  all_goals (repeat (first | replace hk := pickB_gt hk (by assumption) | replace hk := pickB_gf hk (by assumption)))
  all_goals first | exact hk | (simp only [mulE, C, runT, pickB_t, pickB_f, *, cond_true, cond_false] at hk; exact hk)
noncomputable def e72 : Ent := entA s72 (pspec_fun _)
def cof2 (a b c d : Int) : Int := w (w (a * d) - w (b * c))
def cofM (m : M) (i j : Int) : Option T :=
  bif i == 0 then (bif j == 0 then some (T.r <| I (cof2 m.b.y m.b.z m.c.y m.c.z)) else bif j == 1 then some (T.r <| I (cof2 m.b.z m.b.x m.c.z m.c.x)) else bif j == 2 then some (T.r <| I (cof2 m.b.x m.b.y m.c.x m.c.y)) else none) else none
def S116 : PSpec := pspec fun | [a, b, c] => (encM.dec a).bind fun m => (encI.dec b).bind fun i => (encI.dec c).bind fun j => cofM m i j | _ => none
theorem s116 : SoundA PR GL 136 S116 := mkA [] 4 Tryz.func136 (by kernel_rfl) (by kernel_rfl) fun args K hk => by
  have h : ∃ m i j r, args = [encM.enc m, I i, I j] ∧ cofM m i j = some r ∧ runT r K := by
    unfold S116 pspec at hk
    split at hk
    · rename_i r hr
      dsimp only at hr
      split at hr
      · simp only [Option.bind_eq_some_iff] at hr
        obtain ⟨m, h1, i, h2, j, h3, h4⟩ := hr
        exact ⟨m, i, j, r, by rw [encM.inv h1, encI.inv h2, encI.inv h3]; rfl, h4, hk⟩
      · cases hr
    · exact hk.elim
  clear hk
  obtain ⟨m, i, j, r, rfl, h1, hk⟩ := h
  unfold cofM at h1
  cases hi : i == 0 with
  | false => rw [hi] at h1; cases h1
  | true =>
    have hi : i = 0 := by simpa using hi
    subst hi
    cases hj : j == 0 with
    | true =>
      have hj : j = 0 := by simpa using hj
      subst hj
      injection h1 with h1
      subst h1
      conv => whnf
      exact hk
    | false =>
      cases hj1 : j == 1 with
      | true =>
        have hj : j = 1 := by simpa using hj1
        subst hj
        injection h1 with h1
        subst h1
        conv => whnf
        exact hk
      | false =>
        cases hj2 : j == 2 with
        | true =>
          have hj : j = 2 := by simpa using hj2
          subst hj
          injection h1 with h1
          subst h1
          conv => whnf
          exact hk
        | false => rw [hj, hj1, hj2] at h1; cases h1
noncomputable def e116 : Ent := entA s116 (pspec_fun _)
def detM (m : M) : Int := w (w (w (m.a.x * cof2 m.b.y m.b.z m.c.y m.c.z) + w (m.a.y * cof2 m.b.z m.b.x m.c.z m.c.x)) + w (m.a.z * cof2 m.b.x m.b.y m.c.x m.c.y))
def S107 : PSpec := p1 encM fun m => I (detM m)
theorem s107 : SoundA PR GL 127 S107 := mkA [e116] 4 Tryz.func127 (by kernel_rfl) (by kernel_rfl) fun args K hk => by
  have hk1 := p1_inv hk
  clear hk
  obtain ⟨m, rfl, hk⟩ := hk1
  conv => whnf
  repeat' ((first
            | refine pickB_yes (by assumption) ?_
            | refine pickB_no (by assumption) ?_
            | refine pickB_of (fun _ => ?_) (fun _ => ?_)
            | refine And.intro (Nat.le_refl _) ?_) <;> (conv => whnf))
  all_goals (repeat (first | replace hk := pickB_gt hk (by assumption) | replace hk := pickB_gf hk (by assumption)))
  all_goals first | exact hk | (simp only [C, runT, pickB_t, pickB_f, *, cond_true, cond_false] at hk; exact hk)
noncomputable def e107 : Ent := entA s107 (pspec_fun _)
def S87 : PSpec := p1 encM fun m => C (bey9 m) (Er (I 0) 4) (Er (I (detM m)) 0)
theorem s87 : SoundA PR GL 107 S87 := mkA [e71, e107] 4 Tryz.func107 (by kernel_rfl) (by kernel_rfl) fun args K hk => by
  have hk1 := p1_inv hk
  clear hk
  obtain ⟨m, rfl, hk⟩ := hk1
  conv => whnf
  repeat' ((first
            | refine pickB_yes (by assumption) ?_
            | refine pickB_no (by assumption) ?_
            | refine pickB_of (fun _ => ?_) (fun _ => ?_)
            | refine And.intro (Nat.le_refl _) ?_) <;> (conv => whnf))
  all_goals (repeat (first | replace hk := pickB_gt hk (by assumption) | replace hk := pickB_gf hk (by assumption)))
  all_goals first | exact hk | (simp only [C, runT, pickB_t, pickB_f, *, cond_true, cond_false] at hk; exact hk)
noncomputable def e87 : Ent := entA s87 (pspec_fun _)
def vec0 : V := ⟨0, 0, 0⟩
def appV (m : M) (v : V) : V := ⟨dot3 m.a.x m.a.y m.a.z v.x v.y v.z, dot3 m.b.x m.b.y m.b.z v.x v.y v.z, dot3 m.c.x m.c.y m.c.z v.x v.y v.z⟩
def S94 : PSpec := p2 encM encV fun m v => C (bey9 m) (Er (.agg (eV vec0)) 4) (C (rightV v) (Er (.agg (eV (appV m v))) 0) (Er (.agg (eV vec0)) 4))
theorem s94 : SoundA PR GL 114 S94 := mkA [e71, e108] 4 Tryz.func114 (by kernel_rfl) (by kernel_rfl) fun args K hk => by
  have hk1 := p2_inv hk
  clear hk
  obtain ⟨m, v, rfl, hk⟩ := hk1
  conv => whnf
  repeat' ((first
            | refine pickB_yes (by assumption) ?_
            | refine pickB_no (by assumption) ?_
            | refine pickB_of (fun _ => ?_) (fun _ => ?_)
            | refine And.intro (Nat.le_refl _) ?_) <;> (conv => whnf))
  all_goals (repeat (first | replace hk := pickB_gt hk (by assumption) | replace hk := pickB_gf hk (by assumption)))
  all_goals first | exact hk | (simp only [C, runT, pickB_t, pickB_f, *, cond_true, cond_false] at hk; exact hk)
noncomputable def e94 : Ent := entA s94 (pspec_fun _)
def cmp2 (a b r : Int) : Int := bif decide (a < b) then -1 else bif decide (a > b) then 1 else r
def cmpV (a b : V) (r : Int) : Int := cmp2 a.x b.x (cmp2 a.y b.y (cmp2 a.z b.z r))
def cmpM (a b : M) (r : Int) : Int := cmpV a.a b.a (cmpV a.b b.b (cmpV a.c b.c r))
def S47 : PSpec := p2 encM encM fun a b => I (cmpM a b 0)
theorem s47 : SoundA PR GL 68 S47 := mkA [] 4 Tryz.func68 (by kernel_rfl) (by kernel_rfl) fun args K hk => by
  have hk1 := p2_inv hk
  clear hk
  obtain ⟨a, b, rfl, hk⟩ := hk1
  conv => whnf
  repeat' ((first
            | refine pickB_yes (by assumption) ?_
            | refine pickB_no (by assumption) ?_
            | refine pickB_of (fun _ => ?_) (fun _ => ?_)
            | refine And.intro (Nat.le_refl _) ?_) <;> (conv => whnf))
  all_goals (repeat (first | replace hk := pickB_gt hk (by assumption) | replace hk := pickB_gf hk (by assumption)))
  all_goals first | exact hk | (simp only [cmpM, cmpV, cmp2, C, runT, pickB_t, pickB_f, *, cond_true, cond_false] at hk; exact hk)
noncomputable def e47 : Ent := entA s47 (pspec_fun _)
def S69 : PSpec := p1 encI fun _ => Bo false
def S48 : PSpec := p2 encI encI fun a b => C (decide (a < b)) (I (-1)) (C (decide (a > b)) (I 1) (I 0))
/-! ### frac -/
def is4 (m : Int) : Bool := bif m == 24 then true else bif m == 48 then true else bif m == 96 then true else m == 192
def S52 : PSpec := p1 encI fun m => Bo (is4 m)
theorem s52 : SoundA PR GL 61 S52 := mkA [] 4 Tryz.func61 (by kernel_rfl) (by kernel_rfl) fun args K hk => by
  have hk1 := p1_inv hk
  clear hk
  obtain ⟨m, rfl, hk⟩ := hk1
  conv => whnf
  repeat' ((first
            | refine pickB_yes (by assumption) ?_
            | refine pickB_no (by assumption) ?_
            | refine pickB_of (fun _ => ?_) (fun _ => ?_)
            | refine And.intro (Nat.le_refl _) ?_) <;> (conv => whnf))
  all_goals (repeat (first | replace hk := pickB_gt hk (by assumption) | replace hk := pickB_gf hk (by assumption)))
  all_goals first | exact hk | (simp only [is4, C, runT, pickB_t, pickB_f, *, cond_true, cond_false] at hk; exact hk)
noncomputable def e52 : Ent := entA s52 (pspec_fun _)
def out1P (x m r : Int) (k : Bool) : Bool := bif decide (x < 0) then false else bif decide (x ≥ m) then false else k
def formP (p : Pt) : Bool := bif is4 p.m then (bif decide (p.x.x < 0) then false else bif decide (p.x.x ≥ p.m) then false else bif decide (p.x.y < 0) then false else bif decide (p.x.y ≥ p.m) then false else bif decide (p.x.z < 0) then false else bif decide (p.x.z ≥ p.m) then false else true) else false
def S33 : PSpec := p1 encP fun p => Bo (formP p)
theorem s33 : SoundA PR GL 33 S33 := mkA [e52] 4 Tryz.func33 (by kernel_rfl) (by kernel_rfl) fun args K hk => by
  have hk1 := p1_inv hk
  clear hk
  obtain ⟨p, rfl, hk⟩ := hk1
  conv => whnf
  repeat' ((first
            | refine pickB_yes (by assumption) ?_
            | refine pickB_no (by assumption) ?_
            | refine pickB_of (fun _ => ?_) (fun _ => ?_)
            | refine And.intro (Nat.le_refl _) ?_) <;> (conv => whnf))
  all_goals (repeat (first | replace hk := pickB_gt hk (by assumption) | replace hk := pickB_gf hk (by assumption)))
  all_goals first | exact hk | (simp only [formP, C, runT, pickB_t, pickB_f, *, cond_true, cond_false] at hk; exact hk)
noncomputable def e33 : Ent := entA s33 (pspec_fun _)
end E
end Go.Proofs.YtjhognibibmeiaaGreatDoor
