/-
  THE FUNCTIONS, eleventh part: factor's checks.
-/
import Derived.Test.YtjhognibibmeiaaGreatDoorHj
set_option linter.unusedVariables false
set_option maxRecDepth 100000
set_option maxHeartbeats 4000000
namespace Go.Proofs.YtjhognibibmeiaaGreatDoor
namespace E
open Go Go.RowKit

def lstep (e x : Int) : Int := bif x != 0 then (bif e == 0 then x else bif decide (x < e) then x else e) else e
def least2 (a b : Int) : Int := lstep (lstep 0 a) b
def least3 (a b c : Int) : Int := lstep (least2 a b) c
def encL2 : Enc (Int × Int) := ⟨fun x => .rd [[I x.1], [I x.2]], fun | .rd [[.v (.int .i64 a)], [.v (.int .i64 b)]] => some (a, b) | _ => none, fun {a x} h => by
  split at h
  · injection h with h; subst h; rfl
  · cases h⟩
def encL3 : Enc (Int × Int × Int) := ⟨fun x => .rd [[I x.1], [I x.2.1], [I x.2.2]], fun | .rd [[.v (.int .i64 a)], [.v (.int .i64 b)], [.v (.int .i64 c)]] => some (a, b, c) | _ => none, fun {a x} h => by
  split at h
  · injection h with h; subst h; rfl
  · cases h⟩
def S12b : PSpec := p1 encL2 fun x => I (least2 x.1 x.2)
theorem s12b : SoundA PR GL 23 S12b := mkA [] 4 Tryz.func23 (by kernel_rfl) (by kernel_rfl) fun args K hk => by
  have hk1 := p1_inv hk
  clear hk
  obtain ⟨⟨a, b⟩, rfl, hk⟩ := hk1
  replace hk : K (I (least2 a b)) := hk
  conv => whnf
  repeat' ((first
            | refine pickB_yes (by assumption) ?_
            | refine pickB_no (by assumption) ?_
            | refine pickB_of (fun _ => ?_) (fun _ => ?_)) <;> (conv => whnf))
  all_goals (refine Eq.mp (congrArg K ?_) hk; clear hk; simp_all [least2, lstep, Bool.cond_eq_ite]; try omega)
noncomputable def e12b : Ent := entA s12b (pspec_fun _)
def S15 : PSpec := p1 encV fun v => C (bad3 v 512) (I 1) (I 0)
theorem s15 : SoundA PR GL 26 S15 := mkA [] 4 Tryz.func26 (by kernel_rfl) (by kernel_rfl) fun args K hk => by
  have hk1 := p1_inv hk
  clear hk
  obtain ⟨v, rfl, hk⟩ := hk1
  conv => whnf
  repeat' ((first
            | refine pickB_yes (by assumption) ?_
            | refine pickB_no (by assumption) ?_
            | refine pickB_of (fun _ => ?_) (fun _ => ?_)
            | refine And.intro (Nat.le_refl _) ?_) <;> (conv => whnf))
  all_goals (repeat (first | replace hk := pickB_gt hk (by assumption) | replace hk := pickB_gf hk (by assumption)))
  all_goals first | exact hk | (simp only [bad3, bad1, C, runT, pickB_t, pickB_f, *, cond_true, cond_false] at hk; exact hk)
noncomputable def e15 : Ent := entA s15 (pspec_fun _)
def S32 : PSpec := p1 encI fun n => Bo (bad1 n 1000000)
theorem s32 : SoundA PR GL 48 S32 := mkA [] 0 Tryz.func48 (by kernel_rfl) (by kernel_rfl) fun args K hk => by
  have hk1 := p1_inv hk
  clear hk
  obtain ⟨n, rfl, hk⟩ := hk1
  conv => whnf
  repeat' ((first
            | refine pickB_yes (by assumption) ?_
            | refine pickB_no (by assumption) ?_
            | refine pickB_of (fun _ => ?_) (fun _ => ?_)
            | refine And.intro (Nat.le_refl _) ?_) <;> (conv => whnf))
  all_goals (repeat (first | replace hk := pickB_gt hk (by assumption) | replace hk := pickB_gf hk (by assumption)))
  all_goals first | exact hk | (simp only [bad1, C, runT, pickB_t, pickB_f, *, cond_true, cond_false] at hk; exact hk)
noncomputable def e32 : Ent := entA s32 (pspec_fun _)
def eAs (l : List Atm) : List (List LV) := l.map eAt
/-- What an atom adds to the error that was found. -/
def stepA (m0 e : Int) (a : Atm) : Int := bif a.p.m != m0 then least2 (bif formP a.p then e else least2 e 3) 6 else (bif formP a.p then e else least2 e 3)
def heavyA (a : Atm) : Bool := bif bad1 a.w 1000000 then true else bad1 a.o 1000000
def chkAs (m0 : Int) : List Atm → Int → Int
  | [], e => e
  | a :: r, e => bif heavyA a then 1 else chkAs m0 r (stepA m0 e a)
def m0A (l : List Atm) : Int :=
  match l with
  | [] => 24
  | a :: _ => a.p.m
def chkA (l : List Atm) : Int := chkAs (m0A l) l (bif decide ((l.length : Int) > 256) then 2 else 0)
theorem chkAs_drop {m0 : Int} {l : List Atm} {i : Nat} {a : Atm} (h : l[i]? = some a) (e : Int) : chkAs m0 (l.drop i) e = bif heavyA a then 1 else chkAs m0 (l.drop (i + 1)) (stepA m0 e a) := by
  have hlt := (List.getElem?_eq_some_iff.1 h).1
  rw [List.drop_eq_getElem_cons hlt, (List.getElem?_eq_some_iff.1 h).2]
  rfl
theorem m0A_get {l : List Atm} {i : Nat} {a : Atm} (h : l[i]? = some a) : ∃ b, l[0]? = some b ∧ m0A l = b.p.m := by
  cases l with
  | nil => simp at h
  | cons b r => exact ⟨b, rfl, rfl⟩
def S14 : PSpec := espec (fun l : List Atm => [.rd (eAs l)]) (fun l => l.length ≤ 4611686018427387904) (fun l => I (chkA l))
theorem s14 : SoundA PR GL 25 S14 := mkA [e32, e33, e12b] 0 Tryz.func25 (by kernel_rfl) (by kernel_rfl) fun args K hk => by
  obtain ⟨l, rfl, hlen, hk⟩ := hk
  have hl : (eAs l).length = l.length := by simp [eAs]
  replace hk : K (I (chkA l)) := hk
  replace hlen : l.length ≤ 4611686018427387904 := hlen
  conv => whnf
  refine pickB_of (fun h => ?_) (fun h => ?_)
  all_goals
    rw [hl] at h
    conv => whnf
    refine LoopP.weaken (s2 := ⟨[.rd (eAs l), .unk, .unk, I (bif decide ((l.length : Int) > 256) then 2 else 0), .unk, .unk, .unk, .unk, .unk, .rd (eAs l), I ((eAs l).length : Int), I (0 : Nat), .unk, .unk, .unk, .unk, .unk, .unk, .unk, .unk, .unk, .unk, .unk, .unk, .unk, .unk, .unk, .unk, .unk, .unk, .unk, .unk, .unk, .unk, .unk, .unk, .unk, .unk, .unk, .unk, .unk, .unk, .unk, .unk], []⟩) [] ⟨?_, trivial, List.nodup_nil, rfl⟩ ?_
    · repeat' (first | exact trivial | rfl | exact congrArg (fun x => LV.v (Value.int .i64 x)) (by rw [h]; rfl) | ((conv => whnf); refine And.intro ?_ ?_))
    refine loopInd 0 (by kernel_rfl) l.length (fun i (e : Int) => ⟨[.rd (eAs l), .unk, .unk, I e, .unk, .unk, .unk, .unk, .unk, .rd (eAs l), I ((eAs l).length : Int), I (i : Nat), .unk, .unk, .unk, .unk, .unk, .unk, .unk, .unk, .unk, .unk, .unk, .unk, .unk, .unk, .unk, .unk, .unk, .unk, .unk, .unk, .unk, .unk, .unk, .unk, .unk, .unk, .unk, .unk, .unk, .unk, .unk, .unk], []⟩) (fun i e => chkAs (m0A l) (l.drop i) e = chkA l) ?_ 0 _ (Nat.zero_le _) rfl
    clear h
    intro i e hi hJ
    rcases Nat.lt_or_ge i l.length with hlt | hge
    · obtain ⟨a, ha⟩ : ∃ o, l[i]? = some o := ⟨_, List.getElem?_eq_getElem hlt⟩
      obtain ⟨b, hb, hm0⟩ := m0A_get ha
      rw [chkAs_drop ha, hm0] at hJ
      have hcond : decide ((i : Int) < ((eAs l).length : Int)) = true := by rw [hl]; exact lt_dec hlt
      have hb0 : (eAs l)[0]? = some (eAt b) := get_map (i := 0) hb
      conv => whnf
      refine pickB_yes hcond ?_
      conv => whnf
      refine eltK_iff.2 ⟨_, get_map ha, ?_⟩
      conv => whnf
      repeat' ((first
            | refine eltK_iff.2 ⟨_, hb0, ?_⟩
            | refine And.intro (Nat.le_refl _) ?_
            | refine pickB_yes (by assumption) ?_
            | refine pickB_no (by assumption) ?_
            | refine pickB_of (fun _ => ?_) (fun _ => ?_)) <;> (conv => whnf))
      all_goals try (simp only [heavyA, *, cond_true, cond_false] at hJ; rw [← hJ] at hk; exact hk)
      all_goals
        refine' ⟨_, [], hlt, ?j, ⟨?t, trivial, List.nodup_nil, rfl⟩⟩
        case t => repeat' (first | exact trivial | exact congrArg (fun x => LV.v (Value.int .i64 x)) (wrapS (by omega)) | rfl | ((conv => whnf); refine And.intro ?_ ?_))
        case j => simp only [heavyA, stepA, *, cond_true, cond_false] at hJ; rw [hm0]; exact hJ
    · have hcond : decide ((i : Int) < ((eAs l).length : Int)) = false := by rw [hl]; exact ge_dec hge
      have : l.drop i = [] := List.drop_eq_nil_of_le hge
      rw [this] at hJ
      conv => whnf
      refine pickB_no hcond ?_
      conv => whnf
      rw [← hJ] at hk
      exact hk
noncomputable def e14 : Ent := entA s14 espec_fun
end E
end Go.Proofs.YtjhognibibmeiaaGreatDoor
