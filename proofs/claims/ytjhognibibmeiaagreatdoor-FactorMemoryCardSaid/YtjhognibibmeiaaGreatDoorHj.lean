/-
  THE FUNCTIONS, tenth part: group.Check.
-/
import Derived.Test.YtjhognibibmeiaaGreatDoorHi
set_option linter.unusedVariables false
set_option maxRecDepth 100000
set_option maxHeartbeats 4000000
namespace Go.Proofs.YtjhognibibmeiaaGreatDoor
namespace E
open Go Go.RowKit

def keyO (o : O) : List Int := [o.r.a.x, o.r.a.y, o.r.a.z, o.r.b.x, o.r.b.y, o.r.b.z, o.r.c.x, o.r.c.y, o.r.c.z, o.t.x, o.t.y, o.t.z]
/-- The places of each map. -/
def plM : List O → Nat → List (List Int × LV) → List (List Int × LV)
  | [], _, ms => ms
  | o :: r, k, ms => plM r (k + 1) (putE (keyO o) (I (k : Int)) ms)
theorem plM_drop {g : List O} {i : Nat} {o : O} (h : g[i]? = some o) (ms : List (List Int × LV)) : plM (g.drop i) i ms = plM (g.drop (i + 1)) (i + 1) (putE (keyO o) (I (i : Int)) ms) := by
  have hlt := (List.getElem?_eq_some_iff.1 h).1
  rw [List.drop_eq_getElem_cons hlt, (List.getElem?_eq_some_iff.1 h).2]
  rfl
theorem putE_cl {k : List Int} {n : Int} : ∀ {ms : List (List Int × LV)}, ms.all (fun e => cl0 e.2) = true → (putE k (I n) ms).all (fun e => cl0 e.2) = true
  | [], _ => rfl
  | (a, v) :: r, h => by
    rw [List.all_cons, Bool.and_eq_true] at h
    unfold putE
    cases a == k with
    | true => rw [cond_true, List.all_cons, Bool.and_eq_true]; exact ⟨rfl, h.2⟩
    | false => rw [cond_false, List.all_cons, Bool.and_eq_true]; exact ⟨h.1, putE_cl h.2⟩
theorem optB_some {α : Type} {o : Option α} {v : α} {A : α → Prop} {B : Prop} (h : o = some v) (hA : A v) : optB o A B := by rw [h]; exact hA
theorem optB_none {α : Type} {o : Option α} {A : α → Prop} {B : Prop} (h : o = none) (hB : B) : optB o A B := by rw [h]; exact hB

def S30 : Spec := fun args h K => bodyK PR (XC []) 0 Tryz.f46 args h K
theorem s30 : CallOK PR GL 46 S30 := mkC [] 0 Tryz.func46 (by kernel_rfl) (by kernel_rfl) fun args h K hk => hk
noncomputable def e30 : Ent := entC 4 s30 (cspec4 _)
def hasO (g : List O) (p : O) : Bool := (findE (keyO p) (plM g 0 [])).isSome
def okM (a b : O) : Bool :=
  bif outT a.t then false else bif bey9 a.r then false else bif okD a.r then (bif outT b.t then false else bif bey9 b.r then false else bif okD b.r then (bif bey9 (mulO a b).r then false else true) else false) else false
def inP (g : List O) (a b : O) : Bool := bif okM a b then hasO g (mulO a b) else false
def chkT0 (g : List O) : Int :=
  bif ascN cmpO g (g.length - 1) 1 then (bif hasO g oneO then (bif clos2 (inP g) g g then 0 else 5) else 5) else 5
def chkG (g : List O) : Int := bif (bif decide ((g.length : Int) > 192) then 2 else mapsG opE g 0) != 0 then (bif decide ((g.length : Int) > 192) then 2 else mapsG opE g 0) else chkT0 g
def S13 : PSpec := espec (fun g : List O => [.rd (eOs g)]) (fun _ => True) (fun g => I (chkG g))

theorem s13 : SoundA PR GL 24 S13 := mkA [e28, e29, e30, e24, e31] 0 Tryz.func24 (by kernel_rfl) (by kernel_rfl) fun args K hk => by
  obtain ⟨g, rfl, _, hk⟩ := hk
  have hl : (eOs g).length = g.length := by simp [eOs]
  replace hk : K (I (chkG g)) := hk
  conv => whnf
  refine ⟨g, rfl, trivial, ?_⟩
  conv => whnf
  refine pickB_of (fun h => ?_) (fun h => ?_)
  · conv => whnf
    have h' : ((bif decide ((g.length : Int) > 192) then 2 else mapsG opE g 0) != 0) = true := h
    rw [chkG, h', cond_true] at hk
    exact hk
  · have h' : ((bif decide ((g.length : Int) > 192) then 2 else mapsG opE g 0) != 0) = false := h
    have hlen : g.length ≤ 192 := by
      cases hd : decide ((g.length : Int) > 192) with
      | true => rw [hd] at h'; cases h'
      | false => simp at hd; omega
    rw [chkG, h', cond_false] at hk
    conv => whnf
    refine LoopP.weaken (s2 := ⟨[.rd (eOs g), .unk, .unk, .unk, I ((0 + 1 : Nat) : Int), .unk, .unk, .unk, .unk, .unk, .unk, .unk, .unk, .unk, .unk, .unk, .unk, .unk, .unk, .unk, .unk, .unk, .unk, .unk, .unk, .unk, .unk, .unk, .unk, .unk, .unk, .unk, .unk, .unk, .unk, .unk, .unk, .unk, .unk, .unk, .unk, .unk, .unk, .unk, .unk, .unk, .unk, .unk, .unk, .unk, .unk, .unk, .unk, .unk, .unk, .unk, .unk, .unk, .unk, .unk, .unk, .unk, .unk, .unk, .unk, .unk, .unk, .unk, .unk, .unk, .unk, .unk, .unk, .unk, .unk, .unk, .unk, .unk, .unk, .unk], []⟩) [] ⟨?_, trivial, List.nodup_nil, rfl⟩ ?_
    · repeat' (first | exact trivial | rfl | ((conv => whnf); refine And.intro ?_ ?_))
    refine loopInd 0 (by kernel_rfl) (g.length - 1) (fun j (_ : Unit) => ⟨[.rd (eOs g), .unk, .unk, .unk, I ((j + 1 : Nat) : Int), .unk, .unk, .unk, .unk, .unk, .unk, .unk, .unk, .unk, .unk, .unk, .unk, .unk, .unk, .unk, .unk, .unk, .unk, .unk, .unk, .unk, .unk, .unk, .unk, .unk, .unk, .unk, .unk, .unk, .unk, .unk, .unk, .unk, .unk, .unk, .unk, .unk, .unk, .unk, .unk, .unk, .unk, .unk, .unk, .unk, .unk, .unk, .unk, .unk, .unk, .unk, .unk, .unk, .unk, .unk, .unk, .unk, .unk, .unk, .unk, .unk, .unk, .unk, .unk, .unk, .unk, .unk, .unk, .unk, .unk, .unk, .unk, .unk, .unk, .unk], []⟩) (fun j _ => ascN cmpO g (g.length - 1 - j) (j + 1) = ascN cmpO g (g.length - 1) 1) ?_ 0 () (Nat.zero_le _) rfl
    intro j _ hj hJ
    rcases Nat.lt_or_ge (j + 1) g.length with hlt | hge
    · obtain ⟨a, ha⟩ : ∃ o, g[j]? = some o := ⟨_, List.getElem?_eq_getElem (by omega)⟩
      obtain ⟨b, hb⟩ : ∃ o, g[j + 1]? = some o := ⟨_, List.getElem?_eq_getElem hlt⟩
      have hn : g.length - 1 - j = (g.length - 1 - (j + 1)) + 1 := by omega
      rw [hn, ascN_step ha hb] at hJ
      have hcond : decide (((j + 1 : Nat) : Int) < ((eOs g).length : Int)) = true := by rw [hl]; exact lt_dec hlt
      have hw : w (((j + 1 : Nat) : Int) - 1) = (j : Int) := wrapP (by omega)
      conv => whnf
      refine pickB_yes hcond ?_
      conv => whnf
      refine nnB_iff.2 ⟨by show (0 : Int) ≤ w _; rw [hw]; omega, ?_⟩
      refine eltK_iff.2 ⟨eO a, by show (eOs g)[(w _).toNat]? = _; rw [hw]; exact get_map ha, ?_⟩
      conv => whnf
      refine eltK_iff.2 ⟨eO b, get_map hb, ?_⟩
      conv => whnf
      refine pickB_of (fun hc => ?_) (fun hc => ?_)
      · conv => whnf
        have hc' : decide (cmpO a b ≥ 0) = true := hc
        rw [hc', cond_true] at hJ
        rw [chkT0, ← hJ, cond_false] at hk
        exact hk
      · conv => whnf
        have hc' : decide (cmpO a b ≥ 0) = false := hc
        rw [hc', cond_false] at hJ
        refine' ⟨(), [], by omega, hJ, ⟨?t, trivial, List.nodup_nil, rfl⟩⟩
        case t => repeat' (first | exact trivial | exact congrArg (fun x => LV.v (Value.int .i64 x)) (wrapS (by omega)) | rfl | ((conv => whnf); refine And.intro ?_ ?_))
    · have hcond : decide (((j + 1 : Nat) : Int) < ((eOs g).length : Int)) = false := by rw [hl]; exact ge_dec hge
      have hn : g.length - 1 - j = 0 := by omega
      rw [hn] at hJ
      rw [chkT0, ← hJ] at hk
      replace hk : K (I (bif hasO g oneO then (bif clos2 (inP g) g g then 0 else 5) else 5)) := hk
      clear hJ
      conv => whnf
      refine pickB_no hcond ?_
      conv => whnf
      refine LoopP.weaken (s2 := ⟨[.unk, .unk, .unk, .mp 0, .unk, .unk, .unk, .rd (eOs g), I ((eOs g).length : Int), I (0 : Nat), .unk, .unk, .unk, .unk, .unk, .unk, .unk, .unk, .unk], [.map true 12 []]⟩) [0] ⟨?_, ?_, by decide, rfl⟩ ?_
      · repeat' (first | exact trivial | rfl | ((conv => whnf); refine And.intro ?_ ?_))
      · repeat' (first | exact trivial | rfl | ((conv => whnf); refine And.intro ?_ ?_))
      refine loopInd 0 (by kernel_rfl) g.length (fun i (ms : List (List Int × LV)) => ⟨[.unk, .unk, .unk, .mp 0, .unk, .unk, .unk, .rd (eOs g), I ((eOs g).length : Int), I (i : Nat), .unk, .unk, .unk, .unk, .unk, .unk, .unk, .unk, .unk], [.map true 12 ms]⟩) (fun i ms => plM (g.drop i) i ms = plM g 0 [] ∧ ms.all (fun e => cl0 e.2) = true) ?_ 0 [] (Nat.zero_le _) ⟨rfl, rfl⟩
      intro i ms hi hJ
      obtain ⟨hJ, hcl⟩ := hJ
      rcases Nat.lt_or_ge i g.length with hlt | hge
      · obtain ⟨x, hx⟩ : ∃ o, g[i]? = some o := ⟨_, List.getElem?_eq_getElem hlt⟩
        rw [plM_drop hx] at hJ
        have hcond : decide ((i : Int) < ((eOs g).length : Int)) = true := by rw [hl]; exact lt_dec hlt
        conv => whnf
        refine pickB_yes hcond ?_
        conv => whnf
        refine eltK_iff.2 ⟨_, get_map hx, ?_⟩
        conv => whnf
        refine' ⟨putE (keyO x) (I (i : Int)) ms, [0], hlt, ⟨hJ, putE_cl hcl⟩, ⟨?t, ⟨⟨rfl, putE_cl hcl⟩, trivial⟩, by decide, rfl⟩⟩
        case t => repeat' (first | exact trivial | exact congrArg (fun x => LV.v (Value.int .i64 x)) (wrapS (by omega)) | rfl | ((conv => whnf); refine And.intro ?_ ?_))
      · have hcond : decide ((i : Int) < ((eOs g).length : Int)) = false := by rw [hl]; exact ge_dec hge
        have : g.drop i = [] := List.drop_eq_nil_of_le hge
        rw [this] at hJ
        replace hJ : ms = plM g 0 [] := hJ
        subst hJ
        conv => whnf
        refine pickB_no hcond ?_
        conv => whnf
        cases hf1 : findE (keyO oneO) (plM g 0 []) with
        | none =>
          have hh : hasO g oneO = false := by unfold hasO; rw [hf1]; rfl
          refine optB_none hf1 ?_
          conv => whnf
          rw [hh, cond_false] at hk
          exact hk
        | some v1 =>
          have hh : hasO g oneO = true := by unfold hasO; rw [hf1]; rfl
          rw [hh, cond_true] at hk
          refine optB_some hf1 ?_
          conv => whnf
          clear hh hf1
          refine LoopP.weaken (s2 := ⟨[.rd (eOs g), .unk, .unk, .unk, .unk, .mp 0, .unk, .unk, .unk, .unk, .unk, .unk, .unk, .unk, .unk, .unk, .unk, .unk, .unk, .unk, .unk, .unk, .unk, .unk, .unk, .unk, .unk, .unk, .unk, .unk, .unk, .unk, .unk, .unk, .unk, .unk, .unk, .unk, .unk, .unk, .unk, .unk, .unk, .unk, .unk, .unk, .unk, .unk, .rd (eOs g), I ((eOs g).length : Int), I (0 : Nat), .unk, .unk, .unk, .unk, .unk, .unk, .unk, .unk, .unk, .unk, .unk, .unk, .unk, .unk, .unk, .unk, .unk, .unk, .unk, .unk, .unk, .unk, .unk, .unk, .unk, .unk, .unk, .unk, .unk], [.map true 12 (plM g 0 [])]⟩) [0] ⟨?_, ⟨⟨rfl, hcl⟩, trivial⟩, by decide, rfl⟩ ?_
          · repeat' (first | exact trivial | rfl | ((conv => whnf); refine And.intro ?_ ?_))
          refine loopInd 0 (by kernel_rfl) g.length (fun i (_ : Unit) => ⟨[.rd (eOs g), .unk, .unk, .unk, .unk, .mp 0, .unk, .unk, .unk, .unk, .unk, .unk, .unk, .unk, .unk, .unk, .unk, .unk, .unk, .unk, .unk, .unk, .unk, .unk, .unk, .unk, .unk, .unk, .unk, .unk, .unk, .unk, .unk, .unk, .unk, .unk, .unk, .unk, .unk, .unk, .unk, .unk, .unk, .unk, .unk, .unk, .unk, .unk, .rd (eOs g), I ((eOs g).length : Int), I (i : Nat), .unk, .unk, .unk, .unk, .unk, .unk, .unk, .unk, .unk, .unk, .unk, .unk, .unk, .unk, .unk, .unk, .unk, .unk, .unk, .unk, .unk, .unk, .unk, .unk, .unk, .unk, .unk, .unk, .unk], [.map true 12 (plM g 0 [])]⟩) (fun i _ => clos2 (inP g) g (g.drop i) = clos2 (inP g) g g) ?_ 0 () (Nat.zero_le _) (by simp)
          intro i _ hi hJ
          rcases Nat.lt_or_ge i g.length with hlt | hge
          · obtain ⟨a, ha⟩ : ∃ o, g[i]? = some o := ⟨_, List.getElem?_eq_getElem hlt⟩
            rw [clos2_drop ha] at hJ
            have hcond : decide ((i : Int) < ((eOs g).length : Int)) = true := by rw [hl]; exact lt_dec hlt
            conv => whnf
            refine pickB_yes hcond ?_
            conv => whnf
            refine eltK_iff.2 ⟨_, get_map ha, ?_⟩
            conv => whnf
            refine LoopP.weaken (s2 := ⟨[.rd (eOs g), .unk, .unk, .unk, .unk, .mp 0, .unk, .unk, .unk, .ptr 1 0 0, .unk, .unk, .unk, .unk, .unk, .unk, .unk, .unk, .unk, .unk, .unk, .unk, .unk, .unk, .unk, .unk, .unk, .unk, .unk, .unk, .unk, .unk, .unk, .unk, .unk, .unk, .unk, .unk, .unk, .unk, .unk, .unk, .unk, .unk, .unk, .unk, .unk, .unk, .rd (eOs g), I ((eOs g).length : Int), I (i : Nat), .unk, .unk, .unk, .rd (eOs g), I ((eOs g).length : Int), I (0 : Nat), .unk, .unk, .unk, .unk, .unk, .unk, .unk, .unk, .unk, .unk, .unk, .unk, .unk, .unk, .unk, .unk, .unk, .unk, .unk, .unk, .unk, .unk, .unk], [.map true 12 (plM g 0 []), .box (eO a)]⟩) [0, 1] ⟨?_, ?_, by decide, rfl⟩ ?_
            · repeat' (first | exact trivial | rfl | ((conv => whnf); refine And.intro ?_ ?_))
            · refine ⟨⟨rfl, hcl⟩, ?_⟩
              repeat' (first | exact trivial | rfl | ((conv => whnf); refine And.intro ?_ ?_))
            refine loopInd 0 (by kernel_rfl) g.length (fun j (_ : Unit) => ⟨[.rd (eOs g), .unk, .unk, .unk, .unk, .mp 0, .unk, .unk, .unk, .ptr 1 0 0, .unk, .unk, .unk, .unk, .unk, .unk, .unk, .unk, .unk, .unk, .unk, .unk, .unk, .unk, .unk, .unk, .unk, .unk, .unk, .unk, .unk, .unk, .unk, .unk, .unk, .unk, .unk, .unk, .unk, .unk, .unk, .unk, .unk, .unk, .unk, .unk, .unk, .unk, .rd (eOs g), I ((eOs g).length : Int), I (i : Nat), .unk, .unk, .unk, .rd (eOs g), I ((eOs g).length : Int), I (j : Nat), .unk, .unk, .unk, .unk, .unk, .unk, .unk, .unk, .unk, .unk, .unk, .unk, .unk, .unk, .unk, .unk, .unk, .unk, .unk, .unk, .unk, .unk, .unk], [.map true 12 (plM g 0 []), .box (eO a)]⟩) (fun j _ => (bif clos1 (inP g) a (g.drop j) then clos2 (inP g) g (g.drop (i + 1)) else false) = clos2 (inP g) g g) ?_ 0 () (Nat.zero_le _) (by simpa using hJ)
            clear hJ
            intro j _ hj hJ
            rcases Nat.lt_or_ge j g.length with hlt2 | hge2
            · obtain ⟨b, hb⟩ : ∃ o, g[j]? = some o := ⟨_, List.getElem?_eq_getElem hlt2⟩
              rw [clos1_drop hb] at hJ
              have hcond : decide ((j : Int) < ((eOs g).length : Int)) = true := by rw [hl]; exact lt_dec hlt2
              have hbad : inP g a b = false → K (I 5) := fun h => by
                rw [h, cond_false, cond_false] at hJ
                rw [← hJ, cond_false] at hk
                exact hk
              have hgood : inP g a b = true → (bif clos1 (inP g) a (g.drop (j + 1)) then clos2 (inP g) g (g.drop (i + 1)) else false) = clos2 (inP g) g g := fun h => by
                rw [h, cond_true] at hJ
                exact hJ
              clear hJ hk
              conv => whnf
              refine pickB_yes hcond ?_
              conv => whnf
              refine eltK_iff.2 ⟨_, get_map hb, ?_⟩
              conv => whnf
              have hf : ∀ p, (findE (keyO p) (plM g 0 []) = none → hasO g p = false) ∧ ∀ v, findE (keyO p) (plM g 0 []) = some v → hasO g p = true := fun p => ⟨fun h => by unfold hasO; rw [h]; rfl, fun v h => by unfold hasO; rw [h]; rfl⟩
              rcases hz : findE (keyO op0) (plM g 0 []) with _ | vz <;> rcases hm : findE (keyO (mulO a b)) (plM g 0 []) with _ | vm
              all_goals first | have hh := (hf _).1 hm | have hh := (hf _).2 _ hm
              all_goals clear hf
              all_goals
                repeat' ((first
                  | refine optB_none hz ?_
                  | refine optB_some hz ?_
                  | refine optB_none hm ?_
                  | refine optB_some hm ?_
                  | refine pickB_yes (by assumption) ?_
                  | refine pickB_no (by assumption) ?_
                  | refine pickB_of (fun _ => ?_) (fun _ => ?_)) <;> (conv => whnf))
              all_goals first
                | (refine hbad ?_; simp only [inP, okM, *, cond_true, cond_false]; done)
                | (refine' ⟨(), [0, 1], hlt2, hgood ?g, ⟨?t, ⟨⟨rfl, hcl⟩, ?h⟩, by decide, rfl⟩⟩
                   case g => simp only [inP, okM, *, cond_true, cond_false]
                   case t => repeat' (first | exact trivial | exact congrArg (fun x => LV.v (Value.int .i64 x)) (wrapS (by omega)) | rfl | ((conv => whnf); refine And.intro ?_ ?_))
                   case h => repeat' (first | exact trivial | rfl | ((conv => whnf); refine And.intro ?_ ?_)))
            · have hcond : decide ((j : Int) < ((eOs g).length : Int)) = false := by rw [hl]; exact ge_dec hge2
              have : g.drop j = [] := List.drop_eq_nil_of_le hge2
              rw [this] at hJ
              replace hJ : clos2 (inP g) g (g.drop (i + 1)) = clos2 (inP g) g g := hJ
              conv => whnf
              refine pickB_no hcond ?_
              conv => whnf
              refine' ⟨(), [0], hlt, hJ, ⟨?t, ⟨⟨rfl, hcl⟩, trivial⟩, by decide, rfl⟩⟩
              case t => repeat' (first | exact trivial | exact congrArg (fun x => LV.v (Value.int .i64 x)) (wrapS (by omega)) | rfl | ((conv => whnf); refine And.intro ?_ ?_))
          · have hcond : decide ((i : Int) < ((eOs g).length : Int)) = false := by rw [hl]; exact ge_dec hge
            have : g.drop i = [] := List.drop_eq_nil_of_le hge
            rw [this] at hJ
            replace hJ : true = clos2 (inP g) g g := hJ
            conv => whnf
            refine pickB_no hcond ?_
            conv => whnf
            rw [← hJ, cond_true] at hk
            exact hk
noncomputable def e13 : Ent := entA s13 espec_fun
end E
end Go.Proofs.YtjhognibibmeiaaGreatDoor
