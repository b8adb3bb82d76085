/-
  THE FUNCTIONS, twelfth part: the least of three; a place's check; maps of a group bring places to places.
-/
import Derived.Test.YtjhognibibmeiaaGreatDoorHk
set_option linter.unusedVariables false
set_option maxRecDepth 100000
set_option maxHeartbeats 4000000
namespace Go.Proofs.YtjhognibibmeiaaGreatDoor
namespace E
open Go Go.RowKit

/-- A contract that asks more. -/
theorem SoundA.mono {g : Nat} {S S' : PSpec} (h : SoundA PR GL g S) (hs : ∀ args K, S' args K → S args K) : SoundA PR GL g S' :=
  fun args K hk => h args K (hs args K hk)

def S12c : PSpec := p1 encL3 fun x => I (least3 x.1 x.2.1 x.2.2)
theorem s12c : SoundA PR GL 23 S12c := mkA [] 4 Tryz.func23 (by kernel_rfl) (by kernel_rfl) fun args K hk => by
  have hk1 := p1_inv hk
  clear hk
  obtain ⟨⟨a, b, c⟩, rfl, hk⟩ := hk1
  replace hk : K (I (least3 a b c)) := hk
  conv => whnf
  repeat' ((first
            | refine pickB_yes (by assumption) ?_
            | refine pickB_no (by assumption) ?_
            | refine pickB_of (fun _ => ?_) (fun _ => ?_)) <;> (conv => whnf))
  all_goals (refine Eq.mp (congrArg K ?_) hk; clear hk; simp_all [least3, least2, lstep, Bool.cond_eq_ite]; try omega)
noncomputable def e12c : Ent := entA s12c (pspec_fun _)

def chkP (g : List O) (p : Pt) : Int := bif formP p then chkG g else bif chkG g == 0 then 3 else bif decide (chkG g > 3) then 3 else chkG g
def S53 : PSpec := espec (fun x : List O × Pt => [.rd (eOs x.1), .rd [ePt x.2]]) (fun _ => True) (fun x => I (chkP x.1 x.2))
theorem s53 : SoundA PR GL 75 S53 := mkA [e13, e33] 2 Tryz.func75 (by kernel_rfl) (by kernel_rfl) fun args K hk => by
  obtain ⟨⟨g, p⟩, rfl, _, hk⟩ := hk
  replace hk : K (I (chkP g p)) := hk
  conv => whnf
  refine ⟨g, rfl, trivial, ?_⟩
  conv => whnf
  repeat' ((first
            | refine pickB_yes (by assumption) ?_
            | refine pickB_no (by assumption) ?_
            | refine pickB_of (fun _ => ?_) (fun _ => ?_)) <;> (conv => whnf))
  all_goals (simp only [chkP, *, cond_true, cond_false] at hk; exact hk)
noncomputable def e53 : Ent := entA s53 espec_fun
end E
end Go.Proofs.YtjhognibibmeiaaGreatDoor
