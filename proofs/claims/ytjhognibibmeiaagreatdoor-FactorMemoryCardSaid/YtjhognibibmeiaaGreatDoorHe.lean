/-
  THE FUNCTIONS, fifth part: op's great ones.
-/
import Derived.Test.YtjhognibibmeiaaGreatDoorHd
set_option linter.unusedVariables false
set_option maxRecDepth 100000
set_option maxHeartbeats 4000000
namespace Go.Proofs.YtjhognibibmeiaaGreatDoor
namespace E
open Go Go.RowKit

def S49b : PSpec := p1 enc2O fun o => chkT o.1 (I 3) (chkT o.2 (I 3) (I 4) (I 4)) (chkT o.2 (I 3) (I 4) (I 0))
theorem s49b : SoundA PR GL 70 S49b := mkA [e70] 5 Tryz.func70 (by kernel_rfl) (by kernel_rfl) fun args K hk => by
  have hk1 := p1_inv hk
  clear hk
  obtain ⟨o, rfl, hk⟩ := hk1
  conv => whnf
  repeat' ((first
            | refine pickB_yes (by assumption) ?_
            | refine pickB_no (by assumption) ?_
            | refine pickB_of (fun _ => ?_) (fun _ => ?_)) <;> (conv => whnf))
  all_goals (repeat (first | replace hk := pickB_gt hk (by assumption) | replace hk := pickB_gf hk (by assumption)))
  all_goals first | exact hk | (simp only [chkT, outT, C, runT, pickB_t, pickB_f, *, cond_true, cond_false] at hk; exact hk)
noncomputable def e49b : Ent := entA s49b (pspec_fun _)

def eO0 (e : Int) : T := Er (.agg (eO op0)) e
def madeT (o : O) : T := C (bey9 o.r) (eO0 4) (Er (.agg (eO o)) 0)
def S31 : PSpec := p2 encO encO fun a b => chkT a (eO0 3) (chkT b (eO0 3) (eO0 4) (eO0 4)) (chkT b (eO0 3) (eO0 4) (madeT (mulO a b)))
theorem s31 : SoundA PR GL 47 S31 := mkA [e49b, e51, e50] 0 Tryz.func47 (by kernel_rfl) (by kernel_rfl) fun args K hk => by
  have hk1 := p2_inv hk
  clear hk
  obtain ⟨a, b, rfl, hk⟩ := hk1
  conv => whnf
  repeat' ((first
            | refine pickB_yes (by assumption) ?_
            | refine pickB_no (by assumption) ?_
            | refine pickB_of (fun _ => ?_) (fun _ => ?_)
            | refine And.intro (Nat.le_refl _) ?_) <;> (conv => whnf))
  all_goals (repeat (first | replace hk := pickB_gt hk (by assumption) | replace hk := pickB_gf hk (by assumption)))
  all_goals first | exact hk | (simp only [chkT, madeT, eO0, mulO, C, runT, pickB_t, pickB_f, *, cond_true, cond_false] at hk; exact hk)
noncomputable def e31 : Ent := entA s31 (pspec_fun _)
def eP0 (e : Int) : T := Er (.agg (ePt pt0)) e
def shiftT (q : Pt) (t : V) : T := C (formP q) (C (is4 q.m) (Er (.agg (ePt ⟨q.m, modV (shV q t) q.m⟩)) 0) (eP0 1)) (eP0 3)
def placeT (m : Int) (v : V) (t : V) : T := C (is4 m) (shiftT ⟨m, modV v m⟩ t) (shiftT pt0 t)
def S75 : PSpec := p2 encO encP fun o p => chkT o (eP0 3) (C (formP p) (eP0 4) (eP0 3)) (C (formP p) (C (rightV p.x) (placeT p.m (appV o.r p.x) o.t) (placeT p.m vec0 o.t)) (eP0 3))
theorem s75 : SoundA PR GL 98 S75 := mkA [e49, e33, e94, e95, e96] 0 Tryz.func98 (by kernel_rfl) (by kernel_rfl) fun args K hk => by
  have hk1 := p2_inv hk
  clear hk
  obtain ⟨o, p, rfl, hk⟩ := hk1
  conv => whnf
  repeat' ((first
            | refine pickB_yes (by assumption) ?_
            | refine pickB_no (by assumption) ?_
            | refine pickB_of (fun _ => ?_) (fun _ => ?_)
            | refine And.intro (Nat.le_refl _) ?_) <;> (conv => whnf))
  all_goals (repeat (first | replace hk := pickB_gt hk (by assumption) | replace hk := pickB_gf hk (by assumption)))
  all_goals first | exact hk | (simp only [chkT, eP0, placeT, shiftT, C, runT, pickB_t, pickB_f, *, cond_true, cond_false] at hk; exact hk)
noncomputable def e75 : Ent := entA s75 (pspec_fun _)
def cmpO (a b : O) : Int := bif cmpM a.r b.r 0 != 0 then cmpM a.r b.r 0 else cmpV a.t b.t 0
def S29 : PSpec := p2 encO encO fun a b => I (cmpO a b)
theorem s29 : SoundA PR GL 45 S29 := mkA [e47, e48] 4 Tryz.func45 (by kernel_rfl) (by kernel_rfl) fun args K hk => by
  have hk1 := p2_inv hk
  clear hk
  obtain ⟨a, b, rfl, hk⟩ := hk1
  conv => whnf
  repeat' ((first
            | refine pickB_yes (by assumption) ?_
            | refine pickB_no (by assumption) ?_
            | refine pickB_of (fun _ => ?_) (fun _ => ?_)
            | refine And.intro (Nat.le_refl _) ?_) <;> (conv => whnf))
  all_goals (repeat (first | replace hk := pickB_gt hk (by assumption) | replace hk := pickB_gf hk (by assumption)))
  all_goals first | exact hk | (simp only [cmpO, cmpV, cmp2, C, runT, pickB_t, pickB_f, *, cond_true, cond_false] at hk; exact hk)
noncomputable def e29 : Ent := entA s29 (pspec_fun _)
end E
end Go.Proofs.YtjhognibibmeiaaGreatDoor
