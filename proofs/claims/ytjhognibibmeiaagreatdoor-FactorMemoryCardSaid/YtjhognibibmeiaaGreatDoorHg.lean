/-
  THE FUNCTIONS, seventh part: loops over lists; group.maps.
-/
import Derived.Test.YtjhognibibmeiaaGreatDoorHf
set_option linter.unusedVariables false
set_option maxRecDepth 100000
set_option maxHeartbeats 4000000
namespace Go.Proofs.YtjhognibibmeiaaGreatDoor
namespace E
open Go Go.RowKit

/-- A loop by rounds: 'inv i a' at the head of round i. -/
theorem loopInd {l : List Ent} (u : Nat) {m : Nat} {c : Code} {Q : Exit → St → Prop} (hd : draws (ordL l) c = true) {α : Type} (n : Nat) (inv : Nat → α → St) (J : Nat → α → Prop)
    (hstep : ∀ i a, i ≤ n → J i a → code PR (XC l) m u c (inv i a) fun e s' => match e with | .normal => ∃ a' σ, i < n ∧ J (i + 1) a' ∧ Le m σ s' (inv (i + 1) a') | e => Q e s')
    (i : Nat) (a : α) (hi : i ≤ n) (hJ : J i a) : LoopP PR (XC l) m c (inv i a) Q := by
  have main : ∀ (k i : Nat) (a : α), i + k = n → J i a → LoopP PR (XC l) m c (inv i a) Q := by
    intro k
    induction k with
    | zero =>
      intro i a hik hJ
      refine LoopP.step2 (XC_ok l) (XC_ord l) u hd (hstep i a (by omega) hJ) (fun s' h => ?_) (fun e s' he h => ?_)
      · obtain ⟨a', σ, h1, _⟩ := h; omega
      · cases e <;> first | exact absurd rfl he | exact h
    | succ k ih =>
      intro i a hik hJ
      refine LoopP.step2 (XC_ok l) (XC_ord l) u hd (hstep i a (by omega) hJ) (fun s' h => ?_) (fun e s' he h => ?_)
      · obtain ⟨a', σ, h1, h2, h3⟩ := h
        exact LoopP.weaken σ h3 (ih (i + 1) a' (by omega) h2)
      · cases e <;> first | exact absurd rfl he | exact h
  exact main (n - i) i a (by omega) hJ

theorem wrap_i (n : Int) (h0 : -9223372036854775808 ≤ n) (h1 : n < 9223372036854775808) : w n = n := by
  simp only [w, IntKind.wrap, IntKind.bits, IntKind.signed]
  simp
  split <;> omega
theorem wrapS {i : Nat} (h : i + 1 < 9223372036854775808) : w ((i : Int) + 1) = ((i + 1 : Nat) : Int) := by
  rw [wrap_i _ (by omega) (by omega)]
  omega
theorem lt_dec {a b : Nat} (h : a < b) : decide ((a : Int) < (b : Int)) = true := by simp; exact h
theorem ge_dec {a b : Nat} (h : b ≤ a) : decide ((a : Int) < (b : Int)) = false := by simp; omega
theorem get_map {α : Type} {f : α → List LV} {g : List α} {i : Nat} {o : α} (h : g[i]? = some o) : (g.map f)[(i : Int).toNat]? = some (f o) := by
  simp [h]

theorem int_33 : ((3 : Int) == 3) = true := rfl
theorem int_43 : ((4 : Int) == 3) = false := rfl
theorem int_44 : ((4 : Int) == 4) = true := rfl
theorem int_03 : ((0 : Int) == 3) = false := rfl
theorem int_04 : ((0 : Int) == 4) = false := rfl

/-! ### group.maps -/
def oneO : O := ⟨one3, vec0⟩
def opE (o : O) : Int := bif outT o.t then 3 else bif bey9 o.r then 4 else bif okD o.r then (bif bey9 (mulO oneO o).r then 4 else 0) else 3
def mapsG (E : O → Int) : List O → Int → Int
  | [], a => a
  | o :: r, a => bif E o == 3 then 3 else bif E o == 4 then mapsG E r 4 else mapsG E r a
def eOs (g : List O) : List (List LV) := g.map eO
def S28 : PSpec := espec (fun g : List O => [.rd (eOs g)]) (fun _ => True) (fun g => I (bif decide ((g.length : Int) > 192) then 2 else mapsG opE g 0))
theorem mapsG_drop {E : O → Int} {g : List O} {i : Nat} {o : O} (h : g[i]? = some o) (a : Int) : mapsG E (g.drop i) a = bif E o == 3 then 3 else bif E o == 4 then mapsG E (g.drop (i + 1)) 4 else mapsG E (g.drop (i + 1)) a := by
  have hlt := (List.getElem?_eq_some_iff.1 h).1
  rw [List.drop_eq_getElem_cons hlt]
  have : g[i] = o := (List.getElem?_eq_some_iff.1 h).2
  rw [this]
  rfl
theorem s28 : SoundA PR GL 44 S28 := mkA [e24, e31] 0 Tryz.func44 (by kernel_rfl) (by kernel_rfl) fun args K hk => by
  obtain ⟨g, rfl, _, hk⟩ := hk
  have hl : (eOs g).length = g.length := by simp [eOs]
  conv => whnf
  refine pickB_of (fun h => ?_) (fun h => ?_)
  · conv => whnf
    rw [hl] at h
    simp only [h, cond_true] at hk
    exact hk
  · have hlen : g.length ≤ 192 := by rw [hl] at h; simp at h; omega
    have h192 : decide ((g.length : Int) > 192) = false := by rw [hl] at h; exact h
    simp only [h192, cond_false] at hk
    conv => whnf
    refine LoopP.weaken (s2 := ⟨[.unk, .unk, .unk, I 0, .unk, .unk, .unk, .unk, .unk, .unk, .unk, .rd (eOs g), I ((eOs g).length : Int), I (0 : Nat), .unk, .unk, .unk, .unk, .unk, .unk, .unk, .unk, .unk, .unk, .unk, .unk, .unk, .unk, .unk, .unk, .unk, .unk], []⟩) [] ⟨?_, trivial, by decide, rfl⟩ ?_
    · repeat' (first | exact trivial | rfl | ((conv => whnf); refine And.intro ?_ ?_))
    refine loopInd 0 (by kernel_rfl) g.length (fun i (a : Int) => ⟨[.unk, .unk, .unk, I a, .unk, .unk, .unk, .unk, .unk, .unk, .unk, .rd (eOs g), I ((eOs g).length : Int), I (i : Nat), .unk, .unk, .unk, .unk, .unk, .unk, .unk, .unk, .unk, .unk, .unk, .unk, .unk, .unk, .unk, .unk, .unk, .unk], []⟩) (fun i a => mapsG opE (g.drop i) a = mapsG opE g 0) ?_ 0 0 (Nat.zero_le _) (by simp)
    intro i a hi hJ
    rcases Nat.lt_or_ge i g.length with hlt | hge
    · obtain ⟨o, ho⟩ : ∃ o, g[i]? = some o := ⟨_, List.getElem?_eq_getElem hlt⟩
      rw [mapsG_drop ho] at hJ
      have hcond : decide ((i : Int) < ((eOs g).length : Int)) = true := by rw [hl]; exact lt_dec hlt
      conv => whnf
      refine pickB_yes hcond ?_
      conv => whnf
      refine eltK_iff.2 ⟨_, get_map ho, ?_⟩
      conv => whnf
      repeat' ((first
            | refine pickB_yes (by assumption) ?_
            | refine pickB_no (by assumption) ?_
            | refine pickB_of (fun _ => ?_) (fun _ => ?_)) <;> (conv => whnf))
      all_goals try (simp only [opE, oneO, *, cond_true, cond_false, int_33, int_43, int_44, int_03, int_04] at hJ; rw [← hJ] at hk; exact hk)
      all_goals
        refine' ⟨_, [], hlt, ?j, ⟨?t, trivial, List.nodup_nil, rfl⟩⟩
        case t => repeat' (first | exact trivial | exact congrArg (fun x => LV.v (Value.int .i64 x)) (wrapS (by omega)) | rfl | ((conv => whnf); refine And.intro ?_ ?_))
        case j => simp only [opE, oneO, *, cond_true, cond_false, int_33, int_43, int_44, int_03, int_04] at hJ; exact hJ
    · have hcond : decide ((i : Int) < ((eOs g).length : Int)) = false := by rw [hl]; exact ge_dec hge
      have : g.drop i = [] := List.drop_eq_nil_of_le hge
      rw [this] at hJ
      conv => whnf
      refine pickB_no hcond ?_
      conv => whnf
      rw [← hJ] at hk
      exact hk
noncomputable def e28 : Ent := entA s28 espec_fun
end E
end Go.Proofs.YtjhognibibmeiaaGreatDoor
