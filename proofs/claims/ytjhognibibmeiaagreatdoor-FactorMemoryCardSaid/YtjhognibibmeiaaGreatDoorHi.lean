/-
  THE FUNCTIONS, ninth part: DocCheck.
-/
import Derived.Test.YtjhognibibmeiaaGreatDoorHh
set_option linter.unusedVariables false
set_option maxRecDepth 100000
set_option maxHeartbeats 4000000
namespace Go.Proofs.YtjhognibibmeiaaGreatDoor
namespace E
open Go Go.RowKit

/-- In order from place i on, for n places? -/
def ascN (c : O → O → Int) (g : List O) : Nat → Nat → Bool
  | 0, _ => true
  | n + 1, i =>
    match g[i - 1]?, g[i]? with
    | some a, some b => bif decide (c a b ≥ 0) then false else ascN c g n (i + 1)
    | _, _ => true
def clos1 (f : O → O → Bool) (a : O) : List O → Bool
  | [] => true
  | b :: r => bif f a b then clos1 f a r else false
def clos2 (f : O → O → Bool) (g : List O) : List O → Bool
  | [] => true
  | a :: r => bif clos1 f a g then clos2 f g r else false
def inR (g : List O) (a b : O) : Bool := !decide (posO (mulR a b) g 0 < 0)
def docT (g : List O) : Int :=
  bif ascN cmpOR g (g.length - 1) 1 then (bif decide (posO oneO g 0 < 0) then 5 else bif clos2 (inR g) g g then 0 else 5) else 5
def docC (g : List O) : Int := bif decide ((g.length : Int) > 192) then 2 else bif mapsG refE g 0 != 0 then mapsG refE g 0 else docT g
def S35 : PSpec := espec (fun g : List O => [.rd (eOs g)]) (fun _ => True) (fun g => I (docC g))

theorem clos2_drop {f : O → O → Bool} {g l : List O} {i : Nat} {a : O} (h : l[i]? = some a) : clos2 f g (l.drop i) = bif clos1 f a g then clos2 f g (l.drop (i + 1)) else false := by
  have hlt := (List.getElem?_eq_some_iff.1 h).1
  rw [List.drop_eq_getElem_cons hlt, (List.getElem?_eq_some_iff.1 h).2]
  rfl
theorem clos1_drop {f : O → O → Bool} {a : O} {l : List O} {i : Nat} {b : O} (h : l[i]? = some b) : clos1 f a (l.drop i) = bif f a b then clos1 f a (l.drop (i + 1)) else false := by
  have hlt := (List.getElem?_eq_some_iff.1 h).1
  rw [List.drop_eq_getElem_cons hlt, (List.getElem?_eq_some_iff.1 h).2]
  rfl

theorem ascN_step {c : O → O → Int} {g : List O} {n j : Nat} {a b : O} (ha : g[j]? = some a) (hb : g[j + 1]? = some b) : ascN c g (n + 1) (j + 1) = bif decide (c a b ≥ 0) then false else ascN c g n (j + 2) := by
  have : j + 1 - 1 = j := rfl
  simp only [ascN, this, ha, hb]
theorem wrapP {j : Nat} (h : j + 1 < 9223372036854775808) : w (((j + 1 : Nat) : Int) - 1) = (j : Int) := by
  rw [wrap_i _ (by omega) (by omega)]
  omega

theorem s35 : SoundA PR GL 53 S35 := mkA [e58, e59, e60, e61, e62] 0 Tryz.func53 (by kernel_rfl) (by kernel_rfl) fun args K hk => by
  obtain ⟨g, rfl, _, hk⟩ := hk
  have hl : (eOs g).length = g.length := by simp [eOs]
  replace hk : K (I (docC g)) := hk
  conv => whnf
  refine pickB_of (fun h => ?_) (fun h => ?_)
  · rw [hl] at h
    conv => whnf
    simp only [docC, h, cond_true] at hk
    exact hk
  · have hlen : g.length ≤ 192 := by rw [hl] at h; simp at h; omega
    have h192 : decide ((g.length : Int) > 192) = false := by rw [hl] at h; exact h
    simp only [docC, h192, cond_false] at hk
    conv => whnf
    refine ⟨g, rfl, (by omega), ?_⟩
    conv => whnf
    refine pickB_of (fun h => ?_) (fun h => ?_)
    · conv => whnf
      rw [h, cond_true] at hk
      exact hk
    · rw [h, cond_false] at hk
      conv => whnf
      refine LoopP.weaken (s2 := ⟨[.rd (eOs g), .unk, .unk, .unk, I ((0 + 1 : Nat) : Int), .unk, .unk, .unk, .unk, .unk, .unk, .unk, .unk, .unk, .unk, .unk, .unk, .unk, .unk, .unk, .unk, .unk, .unk, .unk, .unk, .unk, .unk, .unk, .unk, .unk, .unk, .unk, .unk, .unk, .unk, .unk, .unk, .unk, .unk, .unk, .unk, .unk, .unk, .unk, .unk, .unk, .unk, .unk, .unk, .unk, .unk, .unk, .unk, .unk, .unk, .unk, .unk, .unk], []⟩) [] ⟨?_, trivial, List.nodup_nil, rfl⟩ ?_
      · repeat' (first | exact trivial | rfl | ((conv => whnf); refine And.intro ?_ ?_))
      refine loopInd 0 (by kernel_rfl) (g.length - 1) (fun j (_ : Unit) => ⟨[.rd (eOs g), .unk, .unk, .unk, I ((j + 1 : Nat) : Int), .unk, .unk, .unk, .unk, .unk, .unk, .unk, .unk, .unk, .unk, .unk, .unk, .unk, .unk, .unk, .unk, .unk, .unk, .unk, .unk, .unk, .unk, .unk, .unk, .unk, .unk, .unk, .unk, .unk, .unk, .unk, .unk, .unk, .unk, .unk, .unk, .unk, .unk, .unk, .unk, .unk, .unk, .unk, .unk, .unk, .unk, .unk, .unk, .unk, .unk, .unk, .unk, .unk], []⟩) (fun j _ => ascN cmpOR g (g.length - 1 - j) (j + 1) = ascN cmpOR g (g.length - 1) 1) ?_ 0 () (Nat.zero_le _) rfl
      intro j _ hj hJ
      rcases Nat.lt_or_ge (j + 1) g.length with hlt | hge
      · obtain ⟨a, ha⟩ : ∃ o, g[j]? = some o := ⟨_, List.getElem?_eq_getElem (by omega)⟩
        obtain ⟨b, hb⟩ : ∃ o, g[j + 1]? = some o := ⟨_, List.getElem?_eq_getElem hlt⟩
        have hn : g.length - 1 - j = (g.length - 1 - (j + 1)) + 1 := by omega
        rw [hn, ascN_step ha hb] at hJ
        have hcond : decide (((j + 1 : Nat) : Int) < ((eOs g).length : Int)) = true := by rw [hl]; exact lt_dec hlt
        have hw : w (((j + 1 : Nat) : Int) - 1) = (j : Int) := wrapP (by omega)
        conv => whnf
        refine pickB_yes hcond ?_
        conv => whnf
        refine nnB_iff.2 ⟨by show (0 : Int) ≤ w _; rw [hw]; omega, ?_⟩
        refine eltK_iff.2 ⟨eO a, by show (eOs g)[(w _).toNat]? = _; rw [hw]; exact get_map ha, ?_⟩
        conv => whnf
        refine eltK_iff.2 ⟨eO b, get_map hb, ?_⟩
        conv => whnf
        refine pickB_of (fun hc => ?_) (fun hc => ?_)
        · conv => whnf
          have hc' : decide (cmpOR a b ≥ 0) = true := hc
          rw [hc', cond_true] at hJ
          rw [docT, ← hJ, cond_false] at hk
          exact hk
        · conv => whnf
          have hc' : decide (cmpOR a b ≥ 0) = false := hc
          rw [hc', cond_false] at hJ
          refine' ⟨(), [], by omega, hJ, ⟨?t, trivial, List.nodup_nil, rfl⟩⟩
          case t => repeat' (first | exact trivial | exact congrArg (fun x => LV.v (Value.int .i64 x)) (wrapS (by omega)) | rfl | ((conv => whnf); refine And.intro ?_ ?_))
      · have hcond : decide (((j + 1 : Nat) : Int) < ((eOs g).length : Int)) = false := by rw [hl]; exact ge_dec hge
        have hn : g.length - 1 - j = 0 := by omega
        rw [hn] at hJ
        rw [docT, ← hJ] at hk
        replace hk : K (I (bif decide (posO oneO g 0 < 0) then 5 else bif clos2 (inR g) g g then 0 else 5)) := hk
        clear hJ
        conv => whnf
        refine pickB_no hcond ?_
        conv => whnf
        refine ⟨(g, oneO), rfl, (show g.length ≤ 4611686018427387904 by omega), ?_⟩
        conv => whnf
        refine pickB_of (fun hc => ?_) (fun hc => ?_)
        · conv => whnf
          have hc' : decide (posO oneO g 0 < 0) = true := hc
          rw [hc', cond_true] at hk
          exact hk
        · have hc' : decide (posO oneO g 0 < 0) = false := hc
          rw [hc', cond_false] at hk
          conv => whnf
          refine LoopP.weaken (s2 := ⟨[.rd (eOs g), .unk, .unk, .unk, .unk, .unk, .unk, .unk, .unk, .unk, .unk, .unk, .unk, .unk, .unk, .unk, .unk, .unk, .unk, .unk, .unk, .unk, .unk, .unk, .unk, .unk, .unk, .unk, .unk, .unk, .unk, .unk, .unk, .unk, .unk, .unk, .unk, .unk, .rd (eOs g), I ((eOs g).length : Int), I (0 : Nat), .unk, .unk, .unk, .unk, .unk, .unk, .unk, .unk, .unk, .unk, .unk, .unk, .unk, .unk, .unk, .unk, .unk], []⟩) [] ⟨?_, trivial, List.nodup_nil, rfl⟩ ?_
          · repeat' (first | exact trivial | rfl | ((conv => whnf); refine And.intro ?_ ?_))
          refine loopInd 0 (by kernel_rfl) g.length (fun i (_ : Unit) => ⟨[.rd (eOs g), .unk, .unk, .unk, .unk, .unk, .unk, .unk, .unk, .unk, .unk, .unk, .unk, .unk, .unk, .unk, .unk, .unk, .unk, .unk, .unk, .unk, .unk, .unk, .unk, .unk, .unk, .unk, .unk, .unk, .unk, .unk, .unk, .unk, .unk, .unk, .unk, .unk, .rd (eOs g), I ((eOs g).length : Int), I (i : Nat), .unk, .unk, .unk, .unk, .unk, .unk, .unk, .unk, .unk, .unk, .unk, .unk, .unk, .unk, .unk, .unk, .unk], []⟩) (fun i _ => clos2 (inR g) g (g.drop i) = clos2 (inR g) g g) ?_ 0 () (Nat.zero_le _) (by simp)
          intro i _ hi hJ
          rcases Nat.lt_or_ge i g.length with hlt | hge
          · obtain ⟨a, ha⟩ : ∃ o, g[i]? = some o := ⟨_, List.getElem?_eq_getElem hlt⟩
            rw [clos2_drop ha] at hJ
            have hcond : decide ((i : Int) < ((eOs g).length : Int)) = true := by rw [hl]; exact lt_dec hlt
            conv => whnf
            refine pickB_yes hcond ?_
            conv => whnf
            refine eltK_iff.2 ⟨_, get_map ha, ?_⟩
            conv => whnf
            refine LoopP.weaken (s2 := ⟨[.rd (eOs g), .unk, .unk, .unk, .unk, .unk, .ptr 0 0 0, .unk, .unk, .unk, .unk, .unk, .unk, .unk, .unk, .unk, .unk, .unk, .unk, .unk, .unk, .unk, .unk, .unk, .unk, .unk, .unk, .unk, .unk, .unk, .unk, .unk, .unk, .unk, .unk, .unk, .unk, .unk, .rd (eOs g), I ((eOs g).length : Int), I (i : Nat), .unk, .unk, .unk, .rd (eOs g), I ((eOs g).length : Int), I (0 : Nat), .unk, .unk, .unk, .unk, .unk, .unk, .unk, .unk, .unk, .unk, .unk], [.box (eO a)]⟩) [0] ⟨?_, ?_, by decide, rfl⟩ ?_
            · repeat' (first | exact trivial | rfl | ((conv => whnf); refine And.intro ?_ ?_))
            · repeat' (first | exact trivial | rfl | ((conv => whnf); refine And.intro ?_ ?_))
            refine loopInd 0 (by kernel_rfl) g.length (fun j (_ : Unit) => ⟨[.rd (eOs g), .unk, .unk, .unk, .unk, .unk, .ptr 0 0 0, .unk, .unk, .unk, .unk, .unk, .unk, .unk, .unk, .unk, .unk, .unk, .unk, .unk, .unk, .unk, .unk, .unk, .unk, .unk, .unk, .unk, .unk, .unk, .unk, .unk, .unk, .unk, .unk, .unk, .unk, .unk, .rd (eOs g), I ((eOs g).length : Int), I (i : Nat), .unk, .unk, .unk, .rd (eOs g), I ((eOs g).length : Int), I (j : Nat), .unk, .unk, .unk, .unk, .unk, .unk, .unk, .unk, .unk, .unk, .unk], [.box (eO a)]⟩) (fun j _ => (bif clos1 (inR g) a (g.drop j) then clos2 (inR g) g (g.drop (i + 1)) else false) = clos2 (inR g) g g) ?_ 0 () (Nat.zero_le _) (by simpa using hJ)
            clear hJ
            intro j _ hj hJ
            rcases Nat.lt_or_ge j g.length with hlt2 | hge2
            · obtain ⟨b, hb⟩ : ∃ o, g[j]? = some o := ⟨_, List.getElem?_eq_getElem hlt2⟩
              rw [clos1_drop hb] at hJ
              have hcond : decide ((j : Int) < ((eOs g).length : Int)) = true := by rw [hl]; exact lt_dec hlt2
              conv => whnf
              refine pickB_yes hcond ?_
              conv => whnf
              refine eltK_iff.2 ⟨_, get_map hb, ?_⟩
              conv => whnf
              refine ⟨(g, mulR a b), rfl, (show g.length ≤ 4611686018427387904 by omega), ?_⟩
              conv => whnf
              refine pickB_of (fun hc => ?_) (fun hc => ?_)
              · conv => whnf
                have hc' : inR g a b = false := by
                  have : decide (posO (mulR a b) g 0 < 0) = true := hc
                  simp only [inR, this, Bool.not_true]
                rw [hc', cond_false, cond_false] at hJ
                rw [← hJ, cond_false] at hk
                exact hk
              · conv => whnf
                have hc' : inR g a b = true := by
                  have : decide (posO (mulR a b) g 0 < 0) = false := hc
                  simp only [inR, this, Bool.not_false]
                rw [hc', cond_true] at hJ
                refine' ⟨(), [0], hlt2, hJ, ⟨?t, ?h, by decide, rfl⟩⟩
                case t => repeat' (first | exact trivial | exact congrArg (fun x => LV.v (Value.int .i64 x)) (wrapS (by omega)) | rfl | ((conv => whnf); refine And.intro ?_ ?_))
                case h => repeat' (first | exact trivial | rfl | ((conv => whnf); refine And.intro ?_ ?_))
            · have hcond : decide ((j : Int) < ((eOs g).length : Int)) = false := by rw [hl]; exact ge_dec hge2
              have : g.drop j = [] := List.drop_eq_nil_of_le hge2
              rw [this] at hJ
              replace hJ : clos2 (inR g) g (g.drop (i + 1)) = clos2 (inR g) g g := hJ
              conv => whnf
              refine pickB_no hcond ?_
              conv => whnf
              refine' ⟨(), [], hlt, hJ, ⟨?t, trivial, List.nodup_nil, rfl⟩⟩
              case t => repeat' (first | exact trivial | exact congrArg (fun x => LV.v (Value.int .i64 x)) (wrapS (by omega)) | rfl | ((conv => whnf); refine And.intro ?_ ?_))
          · have hcond : decide ((i : Int) < ((eOs g).length : Int)) = false := by rw [hl]; exact ge_dec hge
            have : g.drop i = [] := List.drop_eq_nil_of_le hge
            rw [this] at hJ
            replace hJ : true = clos2 (inR g) g g := hJ
            conv => whnf
            refine pickB_no hcond ?_
            conv => whnf
            rw [← hJ, cond_true] at hk
            exact hk
noncomputable def e35 : Ent := entA s35 espec_fun
end E
end Go.Proofs.YtjhognibibmeiaaGreatDoor
