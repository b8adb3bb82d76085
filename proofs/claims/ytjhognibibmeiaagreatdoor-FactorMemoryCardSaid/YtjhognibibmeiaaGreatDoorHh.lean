/-
  THE FUNCTIONS, eighth part: the reference's group check.
-/
import Derived.Test.YtjhognibibmeiaaGreatDoorHg
set_option linter.unusedVariables false
set_option maxRecDepth 100000
set_option maxHeartbeats 4000000
namespace Go.Proofs.YtjhognibibmeiaaGreatDoor
namespace E
open Go Go.RowKit

def refE (o : O) : Int := bif !(eqV o.t (bring2 o.t 24)) then 3 else bif out9 o.r then 4 else bif detR o.r != 1 then (bif detR o.r != -1 then 3 else 0) else 0
def S58 : PSpec := espec (fun g : List O => [.rd (eOs g)]) (fun g => g.length ≤ 4611686018427387904) (fun g => I (mapsG refE g 0))
theorem s58 : SoundA PR GL 80 S58 := mkA [e79, e80, e81] 0 Tryz.func80 (by kernel_rfl) (by kernel_rfl) fun args K hk => by
  obtain ⟨g, rfl, hlen, hk⟩ := hk
  have hl : (eOs g).length = g.length := by simp [eOs]
  replace hk : K (I (mapsG refE g 0)) := hk
  conv => whnf
  refine LoopP.weaken (s2 := ⟨[.unk, .unk, .unk, I 0, .unk, .unk, .unk, .rd (eOs g), I ((eOs g).length : Int), I (0 : Nat), .unk, .unk, .unk, .unk, .unk, .unk, .unk, .unk, .unk, .unk, .unk, .unk, .unk, .unk, .unk, .unk, .unk, .unk, .unk, .unk, .unk, .unk, .unk, .unk, .unk, .unk, .unk, .unk, .unk, .unk, .unk, .unk, .unk, .unk, .unk, .unk], []⟩) [] ⟨?_, trivial, by decide, rfl⟩ ?_
  · repeat' (first | exact trivial | rfl | ((conv => whnf); refine And.intro ?_ ?_))
  refine loopInd 0 (by kernel_rfl) g.length (fun i (a : Int) => ⟨[.unk, .unk, .unk, I a, .unk, .unk, .unk, .rd (eOs g), I ((eOs g).length : Int), I (i : Nat), .unk, .unk, .unk, .unk, .unk, .unk, .unk, .unk, .unk, .unk, .unk, .unk, .unk, .unk, .unk, .unk, .unk, .unk, .unk, .unk, .unk, .unk, .unk, .unk, .unk, .unk, .unk, .unk, .unk, .unk, .unk, .unk, .unk, .unk, .unk, .unk], []⟩) (fun i a => mapsG refE (g.drop i) a = mapsG refE g 0) ?_ 0 0 (Nat.zero_le _) (by simp)
  intro i a hi hJ
  rcases Nat.lt_or_ge i g.length with hlt | hge
  · obtain ⟨o, ho⟩ : ∃ o, g[i]? = some o := ⟨_, List.getElem?_eq_getElem hlt⟩
    rw [mapsG_drop ho] at hJ
    have hcond : decide ((i : Int) < ((eOs g).length : Int)) = true := by rw [hl]; exact lt_dec hlt
    conv => whnf
    refine pickB_yes hcond ?_
    conv => whnf
    refine eltK_iff.2 ⟨_, get_map ho, ?_⟩
    conv => whnf
    repeat' ((first
          | refine pickB_yes (by assumption) ?_
          | refine pickB_no (by assumption) ?_
          | refine pickB_of (fun _ => ?_) (fun _ => ?_)) <;> (conv => whnf))
    all_goals try (simp only [refE, eqV, *, cond_true, cond_false, int_33, int_43, int_44, int_03, int_04] at hJ; rw [← hJ] at hk; exact hk)
    all_goals
      refine' ⟨_, [], hlt, ?j, ⟨?t, trivial, List.nodup_nil, rfl⟩⟩
      case t => repeat' (first | exact trivial | exact congrArg (fun x => LV.v (Value.int .i64 x)) (wrapS (by omega)) | rfl | ((conv => whnf); refine And.intro ?_ ?_))
      case j => simp only [refE, eqV, *, cond_true, cond_false, int_33, int_43, int_44, int_03, int_04] at hJ; exact hJ
  · have hcond : decide ((i : Int) < ((eOs g).length : Int)) = false := by rw [hl]; exact ge_dec hge
    have : g.drop i = [] := List.drop_eq_nil_of_le hge
    rw [this] at hJ
    conv => whnf
    refine pickB_no hcond ?_
    conv => whnf
    rw [← hJ] at hk
    exact hk
noncomputable def e58 : Ent := entA s58 espec_fun

def eqO (a b : O) : Bool := (a.r.a.x == b.r.a.x && (a.r.a.y == b.r.a.y && (a.r.a.z == b.r.a.z && (a.r.b.x == b.r.b.x && (a.r.b.y == b.r.b.y && (a.r.b.z == b.r.b.z && (a.r.c.x == b.r.c.x && (a.r.c.y == b.r.c.y && (a.r.c.z == b.r.c.z && (a.t.x == b.t.x && (a.t.y == b.t.y && (a.t.z == b.t.z && true))))))))))))
def posO (o : O) : List O → Nat → Int
  | [], _ => -1
  | x :: r, k => bif eqO x o then (k : Int) else posO o r (k + 1)
theorem posO_drop {o : O} {g : List O} {i : Nat} {x : O} (h : g[i]? = some x) (k : Nat) : posO o (g.drop i) k = bif eqO x o then (k : Int) else posO o (g.drop (i + 1)) (k + 1) := by
  have hlt := (List.getElem?_eq_some_iff.1 h).1
  rw [List.drop_eq_getElem_cons hlt]
  have : g[i] = x := (List.getElem?_eq_some_iff.1 h).2
  rw [this]
  rfl
def S60 : PSpec := espec (fun x : List O × O => [.rd (eOs x.1), .agg (eO x.2)]) (fun x => x.1.length ≤ 4611686018427387904) (fun x => I (posO x.2 x.1 0))
theorem s60 : SoundA PR GL 82 S60 := mkA [] 0 Tryz.func82 (by kernel_rfl) (by kernel_rfl) fun args K hk => by
  obtain ⟨⟨g, o⟩, rfl, hlen, hk⟩ := hk
  have hl : (eOs g).length = g.length := by simp [eOs]
  replace hk : K (I (posO o g 0)) := hk
  replace hlen : g.length ≤ 4611686018427387904 := hlen
  conv => whnf
  refine LoopP.weaken (s2 := ⟨[.unk, .unk, .unk, .ptr 0 0 0, .unk, .unk, .unk, .rd (eOs g), I ((eOs g).length : Int), I (0 : Nat), .unk, .unk, .unk, .unk, .unk, .unk, .unk, .unk, .unk], [.box (eO o)]⟩) [0] ⟨?_, ?_, by decide, rfl⟩ ?_
  · repeat' (first | exact trivial | rfl | ((conv => whnf); refine And.intro ?_ ?_))
  · repeat' (first | exact trivial | rfl | ((conv => whnf); refine And.intro ?_ ?_))
  refine loopInd 0 (by kernel_rfl) g.length (fun i (_ : Unit) => ⟨[.unk, .unk, .unk, .ptr 0 0 0, .unk, .unk, .unk, .rd (eOs g), I ((eOs g).length : Int), I (i : Nat), .unk, .unk, .unk, .unk, .unk, .unk, .unk, .unk, .unk], [.box (eO o)]⟩) (fun i _ => posO o (g.drop i) i = posO o g 0) ?_ 0 () (Nat.zero_le _) (by simp)
  intro i a hi hJ
  rcases Nat.lt_or_ge i g.length with hlt | hge
  · obtain ⟨x, ho⟩ : ∃ o, g[i]? = some o := ⟨_, List.getElem?_eq_getElem hlt⟩
    rw [posO_drop ho] at hJ
    have hcond : decide ((i : Int) < ((eOs g).length : Int)) = true := by rw [hl]; exact lt_dec hlt
    conv => whnf
    refine pickB_yes hcond ?_
    conv => whnf
    refine eltK_iff.2 ⟨_, get_map ho, ?_⟩
    conv => whnf
    refine pickB_of (fun h => ?_) (fun h => ?_)
    · conv => whnf
      have h' : eqO x o = true := h
      rw [h', cond_true] at hJ
      rw [← hJ] at hk
      exact hk
    · conv => whnf
      have h' : eqO x o = false := h
      rw [h', cond_false] at hJ
      refine' ⟨(), [0], hlt, hJ, ⟨?t, ?h, by decide, rfl⟩⟩
      case t => repeat' (first | exact trivial | exact congrArg (fun x => LV.v (Value.int .i64 x)) (wrapS (by omega)) | rfl | ((conv => whnf); refine And.intro ?_ ?_))
      case h => repeat' (first | exact trivial | rfl | ((conv => whnf); refine And.intro ?_ ?_))
  · have hcond : decide ((i : Int) < ((eOs g).length : Int)) = false := by rw [hl]; exact ge_dec hge
    have : g.drop i = [] := List.drop_eq_nil_of_le hge
    rw [this] at hJ
    conv => whnf
    refine pickB_no hcond ?_
    conv => whnf
    rw [← hJ] at hk
    exact hk
noncomputable def e60 : Ent := entA s60 espec_fun
end E
end Go.Proofs.YtjhognibibmeiaaGreatDoor
