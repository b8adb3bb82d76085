/-
  THE FUNCTIONS, twenty-first part: the reference's orbits, phase, checks; Same.
-/
import Derived.Test.YtjhognibibmeiaaGreatDoorHt
set_option linter.unusedVariables false
set_option maxRecDepth 100000
set_option maxHeartbeats 4000000
namespace Go.Proofs.YtjhognibibmeiaaGreatDoor
namespace E
open Go Go.RowKit

def orbR (g : List O) (m : Int) (x : V) : List V := insAll (imgsR g m x)
def orbsR (g : List O) (m : Int) (l : List Atm) : List (List LV) := l.map fun a => [.rd (ptsE m (orbR g m a.p.x))]
theorem orbsR_snoc (g : List O) (m : Int) (l : List Atm) (a : Atm) : orbsR g m (l ++ [a]) = orbsR g m l ++ [[.rd (ptsE m (orbR g m a.p.x))]] := by simp [orbsR]
def S20 : PSpec := espec (fun x : List O × List Atm × Int => [.rd (eOs x.1), .rd (eAs x.2.1)]) (fun x => x.1.length ≤ 192 ∧ Is4 x.2.2 ∧ (∀ a ∈ x.2.1, OkA x.2.2 a) ∧ x.2.1.length ≤ 256) (fun x => .rd (orbsR x.1 x.2.2 x.2.1))
theorem s20 : SoundA PR GL 31 S20 := mkA [e38] 0 Tryz.func31 (by kernel_rfl) (by kernel_rfl) fun args K hk => by
  obtain ⟨⟨g, l, m⟩, rfl, ⟨hg, h4, hla, hlen⟩, hk⟩ := hk
  replace hg : g.length ≤ 192 := hg
  replace h4 : Is4 m := h4
  replace hla : ∀ a ∈ l, OkA m a := hla
  replace hlen : l.length ≤ 256 := hlen
  have hl : (eAs l).length = l.length := by simp [eAs]
  replace hk : K (.rd (orbsR g m l)) := hk
  conv => whnf
  refine LoopP.weaken (s2 := ⟨[.rd (eOs g), .unk, .unk, .unk, .unk, .v (.slice none 0 0), .unk, .unk, .rd (eAs l), I ((eAs l).length : Int), I (0 : Nat), .unk, .unk, .unk, .unk, .unk, .unk, .unk, .unk, .unk, .unk, .unk, .unk], []⟩) [] ⟨?_, trivial, List.nodup_nil, rfl⟩ ?_
  · repeat' (first | exact trivial | rfl | ((conv => whnf); refine And.intro ?_ ?_))
  refine loopInd 0 (by kernel_rfl) l.length (fun i (a : List Atm) => match a with
        | [] => ⟨[.rd (eOs g), .unk, .unk, .unk, .unk, .v (.slice none 0 0), .unk, .unk, .rd (eAs l), I ((eAs l).length : Int), I (i : Nat), .unk, .unk, .unk, .unk, .unk, .unk, .unk, .unk, .unk, .unk, .unk, .unk], []⟩
        | v :: r => ⟨[.rd (eOs g), .unk, .unk, .unk, .unk, .sl 0 0 (v :: r).length none, .unk, .unk, .rd (eAs l), I ((eAs l).length : Int), I (i : Nat), .unk, .unk, .unk, .unk, .unk, .unk, .unk, .unk, .unk, .unk, .unk, .unk], [.row 1 false (orbsR g m (v :: r))]⟩)
      (fun i a => a = l.take i) ?_ 0 [] (Nat.zero_le _) rfl
  intro i a hi hJ
  rcases Nat.lt_or_ge i l.length with hlt | hge
  · obtain ⟨b, hb⟩ : ∃ o, l[i]? = some o := ⟨_, List.getElem?_eq_getElem hlt⟩
    obtain ⟨hbm, hbr⟩ := hla b (List.mem_of_getElem? hb)
    have hcond : decide ((i : Int) < ((eAs l).length : Int)) = true := by rw [hl]; exact lt_dec hlt
    have hnext : l.take (i + 1) = a ++ [b] := by rw [hJ]; exact take_snocA hb
    have hal : a.length = i := by rw [hJ]; simp; omega
    have hbe : (eAs l)[(i : Int).toNat]? = some (eAt ⟨⟨m, b.p.x⟩, b.w, b.o⟩) := by
      have := get_map (f := eAt) hb
      rw [← hbm]; exact this
    cases a with
    | nil =>
      conv => whnf
      refine pickB_yes hcond ?_
      conv => whnf
      refine eltK_iff.2 ⟨_, hbe, ?_⟩
      conv => whnf
      refine ⟨(g, m, b.p.x), rfl, ⟨(by show m ≠ 0; have := h4.pos; omega), hg⟩, ?_⟩
      conv => whnf
      refine And.intro (Nat.le_refl _) ?_
      conv => whnf
      refine ⟨(by show (1 : Nat) * 24 ≤ 140737488355328; decide), all1 rfl, ?_⟩
      conv => whnf
      refine' ⟨[b], [2], hlt, ?j, ⟨?t, ?h, by decide, rfl⟩⟩
      case t => repeat' (first | exact trivial | exact congrArg (fun x => LV.v (Value.int .i64 x)) (wrapS (by omega)) | rfl | ((conv => whnf); refine And.intro ?_ ?_))
      case h => repeat' (first | exact trivial | rfl | (exact fun h => h) | ((conv => whnf); refine And.intro ?_ ?_))
      case j => rw [hnext]; rfl
    | cons v r =>
      conv => whnf
      refine pickB_yes hcond ?_
      conv => whnf
      refine eltK_iff.2 ⟨_, hbe, ?_⟩
      conv => whnf
      refine ⟨(g, m, b.p.x), rfl, ⟨(by show m ≠ 0; have := h4.pos; omega), hg⟩, ?_⟩
      conv => whnf
      refine And.intro (Nat.le_refl _) ?_
      conv => whnf
      have hpl : (orbsR g m (v :: r)).length = (v :: r).length := by simp [orbsR]
      have hil : (v :: r).length ≤ 256 := by omega
      refine ⟨rfl, hpl, ?_, all1 rfl, ?_⟩
      · show ((v :: r).length + 1) * 24 ≤ 140737488355328
        omega
      conv => whnf
      refine' ⟨(v :: r) ++ [b], [3], hlt, ?j, ⟨?t, ?h, by decide, rfl⟩⟩
      case t => repeat' (first | exact trivial | exact congrArg (fun x => LV.v (Value.int .i64 x)) (wrapS (by omega)) | rfl | (exact (len_snocA (v :: r) b).symm) | ((conv => whnf); refine And.intro ?_ ?_))
      case h => repeat' (first | exact trivial | rfl | (exact fun h => h) | (exact (orbsR_snoc g m (v :: r) b).symm) | ((conv => whnf); refine And.intro ?_ ?_))
      case j => rw [hnext]
  · have hcond : decide ((i : Int) < ((eAs l).length : Int)) = false := by rw [hl]; exact ge_dec hge
    have hall : a = l := by
      rw [hJ]
      exact List.take_of_length_le hge
    clear hJ
    rw [← hall] at hk
    cases a with
    | nil =>
      conv => whnf
      refine pickB_no hcond ?_
      conv => whnf
      exact hk
    | cons v r =>
      conv => whnf
      refine pickB_no hcond ?_
      conv => whnf
      refine And.intro (by simp [orbsR]) ?_
      conv => whnf
      have e : List.take (v :: r).length (List.drop 0 (orbsR g m (v :: r))) = orbsR g m (v :: r) := by
        rw [List.drop_zero]
        exact List.take_of_length_le (by simp [orbsR])
      rw [e]
      exact hk
noncomputable def e20 : Ent := entA s20 espec_fun

def S21 : PSpec := espec (fun x : V × Int × V => [.agg (eV x.1), .agg (ePt ⟨x.2.1, x.2.2⟩)]) (fun x => x.2.1 ≠ 0) (fun x => I (phF x.1 x.2.1 x.2.2))
theorem s21 : SoundA PR GL 37 S21 := mkA [e39] 0 Tryz.func37 (by kernel_rfl) (by kernel_rfl) fun args K hk => by
  obtain ⟨⟨h, m, x⟩, rfl, hm, hk⟩ := hk
  conv => whnf
  refine nzB_iff.2 ⟨hm, ?_⟩
  conv => whnf
  exact hk
noncomputable def e21 : Ent := entA s21 espec_fun

/-! ### Atoms -/
def anyB (f : Atm → Bool) : List Atm → Bool
  | [] => false
  | a :: r => bif f a then true else anyB f r
theorem anyB_drop {f : Atm → Bool} {l : List Atm} {i : Nat} {a : Atm} (h : l[i]? = some a) : anyB f (l.drop i) = bif f a then true else anyB f (l.drop (i + 1)) := by
  rw [drop_get h]; rfl
def placeR (p : Pt) : Bool := bif is4n p.m then eqV p.x (modV p.x p.m) else false
def badP (a : Atm) : Bool := !placeR a.p
def neM (m : Int) (a : Atm) : Bool := a.p.m != m
def docA (l : List Atm) : Int :=
  bif anyB heavyA l then 1 else bif decide ((l.length : Int) > 256) then 2 else bif anyB badP l then 3 else bif anyB (neM (m0A l)) l then 6 else 0
def S36 : PSpec := espec (fun l : List Atm => [.rd (eAs l)]) (fun l => l.length ≤ 4611686018427387904) (fun l => I (docA l))
theorem s36 : SoundA PR GL 54 S36 := mkA [e63, e64] 0 Tryz.func54 (by kernel_rfl) (by kernel_rfl) fun args K hk => by
  obtain ⟨l, rfl, hlen, hk⟩ := hk
  have hl : (eAs l).length = l.length := by simp [eAs]
  replace hk : K (I (docA l)) := hk
  replace hlen : l.length ≤ 4611686018427387904 := hlen
  unfold docA at hk
  conv => whnf
  refine LoopP.weaken (s2 := ⟨[.rd (eAs l), .unk, .unk, .unk, .unk, .unk, .unk, .unk, .unk, .rd (eAs l), I ((eAs l).length : Int), I (0 : Nat), .unk, .unk, .unk, .unk, .unk, .unk, .unk, .unk, .unk, .unk, .unk, .unk, .unk, .unk, .unk, .unk, .unk, .unk, .unk, .unk, .unk, .unk, .unk, .unk, .unk, .unk, .unk, .unk, .unk, .unk, .unk, .unk, .unk, .unk, .unk, .unk, .unk, .unk, .unk, .unk, .unk, .unk], []⟩) [] ⟨?_, trivial, List.nodup_nil, rfl⟩ ?_
  · repeat' (first | exact trivial | rfl | ((conv => whnf); refine And.intro ?_ ?_))
  refine loopInd 0 (by kernel_rfl) l.length (fun i (_ : Unit) => ⟨[.rd (eAs l), .unk, .unk, .unk, .unk, .unk, .unk, .unk, .unk, .rd (eAs l), I ((eAs l).length : Int), I (i : Nat), .unk, .unk, .unk, .unk, .unk, .unk, .unk, .unk, .unk, .unk, .unk, .unk, .unk, .unk, .unk, .unk, .unk, .unk, .unk, .unk, .unk, .unk, .unk, .unk, .unk, .unk, .unk, .unk, .unk, .unk, .unk, .unk, .unk, .unk, .unk, .unk, .unk, .unk, .unk, .unk, .unk, .unk], []⟩) (fun i _ => anyB heavyA (l.drop i) = anyB heavyA l) ?_ 0 () (Nat.zero_le _) rfl
  rintro i - hi hJ
  rcases Nat.lt_or_ge i l.length with hlt | hge
  · obtain ⟨a, ha⟩ : ∃ o, l[i]? = some o := ⟨_, List.getElem?_eq_getElem hlt⟩
    rw [anyB_drop ha] at hJ
    have hcond : decide ((i : Int) < ((eAs l).length : Int)) = true := by rw [hl]; exact lt_dec hlt
    have hyes : heavyA a = true → K (I 1) := fun h => by rw [h, cond_true] at hJ; rw [← hJ, cond_true] at hk; exact hk
    have hno : heavyA a = false → anyB heavyA (l.drop (i + 1)) = anyB heavyA l := fun h => by rw [h, cond_false] at hJ; exact hJ
    clear hk hJ
    conv => whnf
    refine pickB_yes hcond ?_
    conv => whnf
    refine eltK_iff.2 ⟨_, get_map ha, ?_⟩
    conv => whnf
    repeat' ((first
            | refine pickB_yes (by assumption) ?_
            | refine pickB_no (by assumption) ?_
            | refine pickB_of (fun _ => ?_) (fun _ => ?_)) <;> (conv => whnf))
    all_goals first
      | exact hyes (by simp only [heavyA, *, cond_true, cond_false])
      | (refine' ⟨(), [], hlt, hno (by simp only [heavyA, *, cond_true, cond_false]), ⟨?t, trivial, List.nodup_nil, rfl⟩⟩
         case t => repeat' (first | exact trivial | exact congrArg (fun x => LV.v (Value.int .i64 x)) (wrapS (by omega)) | rfl | ((conv => whnf); refine And.intro ?_ ?_)))
  · have hcond : decide ((i : Int) < ((eAs l).length : Int)) = false := by rw [hl]; exact ge_dec hge
    rw [List.drop_eq_nil_of_le hge] at hJ
    replace hJ : false = anyB heavyA l := hJ
    rw [← hJ, cond_false] at hk
    clear hJ
    conv => whnf
    refine pickB_no hcond ?_
    conv => whnf
    clear hcond hge hi
    refine pickB_of (fun h => ?_) (fun h => ?_)
    · rw [hl] at h
      rw [h, cond_true] at hk
      conv => whnf
      exact hk
    · rw [hl] at h
      rw [h, cond_false] at hk
      conv => whnf
      refine LoopP.weaken (s2 := ⟨[.rd (eAs l), .unk, .unk, .unk, .unk, .unk, .unk, .unk, .unk, .unk, .unk, .unk, .unk, .unk, .unk, .unk, .unk, .unk, .unk, .unk, .unk, .unk, .unk, .unk, .unk, .unk, .unk, .rd (eAs l), I ((eAs l).length : Int), I (0 : Nat), .unk, .unk, .unk, .unk, .unk, .unk, .unk, .unk, .unk, .unk, .unk, .unk, .unk, .unk, .unk, .unk, .unk, .unk, .unk, .unk, .unk, .unk, .unk, .unk], []⟩) [] ⟨?_, trivial, List.nodup_nil, rfl⟩ ?_
      · repeat' (first | exact trivial | rfl | ((conv => whnf); refine And.intro ?_ ?_))
      refine loopInd 0 (by kernel_rfl) l.length (fun i (_ : Unit) => ⟨[.rd (eAs l), .unk, .unk, .unk, .unk, .unk, .unk, .unk, .unk, .unk, .unk, .unk, .unk, .unk, .unk, .unk, .unk, .unk, .unk, .unk, .unk, .unk, .unk, .unk, .unk, .unk, .unk, .rd (eAs l), I ((eAs l).length : Int), I (i : Nat), .unk, .unk, .unk, .unk, .unk, .unk, .unk, .unk, .unk, .unk, .unk, .unk, .unk, .unk, .unk, .unk, .unk, .unk, .unk, .unk, .unk, .unk, .unk, .unk], []⟩) (fun i _ => anyB badP (l.drop i) = anyB badP l) ?_ 0 () (Nat.zero_le _) rfl
      clear i
      rintro i - hi hJ
      rcases Nat.lt_or_ge i l.length with hlt | hge
      · obtain ⟨a, ha⟩ : ∃ o, l[i]? = some o := ⟨_, List.getElem?_eq_getElem hlt⟩
        rw [anyB_drop ha] at hJ
        have hcond : decide ((i : Int) < ((eAs l).length : Int)) = true := by rw [hl]; exact lt_dec hlt
        have hyes : badP a = true → K (I 3) := fun h => by rw [h, cond_true] at hJ; rw [← hJ, cond_true] at hk; exact hk
        have hno : badP a = false → anyB badP (l.drop (i + 1)) = anyB badP l := fun h => by rw [h, cond_false] at hJ; exact hJ
        clear hk hJ
        conv => whnf
        refine pickB_yes hcond ?_
        conv => whnf
        refine eltK_iff.2 ⟨_, get_map ha, ?_⟩
        conv => whnf
        repeat' ((first
                | refine pickB_yes (by assumption) ?_
                | refine pickB_no (by assumption) ?_
                | refine pickB_of (fun _ => ?_) (fun _ => ?_)) <;> (conv => whnf))
        all_goals first
          | exact hyes (by simp only [badP, placeR, *, cond_true, cond_false, Bool.not_true, Bool.not_false])
          | (refine' ⟨(), [], hlt, hno (by simp only [badP, placeR, *, cond_true, cond_false, Bool.not_true, Bool.not_false]), ⟨?t, trivial, List.nodup_nil, rfl⟩⟩
             case t => repeat' (first | exact trivial | exact congrArg (fun x => LV.v (Value.int .i64 x)) (wrapS (by omega)) | rfl | ((conv => whnf); refine And.intro ?_ ?_)))
      · have hcond : decide ((i : Int) < ((eAs l).length : Int)) = false := by rw [hl]; exact ge_dec hge
        rw [List.drop_eq_nil_of_le hge] at hJ
        replace hJ : false = anyB badP l := hJ
        rw [← hJ, cond_false] at hk
        clear hJ
        conv => whnf
        refine pickB_no hcond ?_
        conv => whnf
        clear hcond hge hi
        refine LoopP.weaken (s2 := ⟨[.rd (eAs l), .unk, .unk, .unk, .unk, .unk, .unk, .unk, .unk, .unk, .unk, .unk, .unk, .unk, .unk, .unk, .unk, .unk, .unk, .unk, .unk, .unk, .unk, .unk, .unk, .unk, .unk, .unk, .unk, .unk, .unk, .unk, .unk, .unk, .unk, .unk, .unk, .unk, .rd (eAs l), I ((eAs l).length : Int), I (0 : Nat), .unk, .unk, .unk, .unk, .unk, .unk, .unk, .unk, .unk, .unk, .unk, .unk, .unk], []⟩) [] ⟨?_, trivial, List.nodup_nil, rfl⟩ ?_
        · repeat' (first | exact trivial | rfl | ((conv => whnf); refine And.intro ?_ ?_))
        refine loopInd 0 (by kernel_rfl) l.length (fun i (_ : Unit) => ⟨[.rd (eAs l), .unk, .unk, .unk, .unk, .unk, .unk, .unk, .unk, .unk, .unk, .unk, .unk, .unk, .unk, .unk, .unk, .unk, .unk, .unk, .unk, .unk, .unk, .unk, .unk, .unk, .unk, .unk, .unk, .unk, .unk, .unk, .unk, .unk, .unk, .unk, .unk, .unk, .rd (eAs l), I ((eAs l).length : Int), I (i : Nat), .unk, .unk, .unk, .unk, .unk, .unk, .unk, .unk, .unk, .unk, .unk, .unk, .unk], []⟩) (fun i _ => anyB (neM (m0A l)) (l.drop i) = anyB (neM (m0A l)) l) ?_ 0 () (Nat.zero_le _) rfl
        clear i
        rintro i - hi hJ
        rcases Nat.lt_or_ge i l.length with hlt | hge
        · obtain ⟨a, ha⟩ : ∃ o, l[i]? = some o := ⟨_, List.getElem?_eq_getElem hlt⟩
          obtain ⟨b, hb, hm0⟩ := m0A_get ha
          rw [anyB_drop ha] at hJ
          have hb0 : (eAs l)[(0 : Int).toNat]? = some (eAt b) := get_map (i := 0) hb
          have hcond : decide ((i : Int) < ((eAs l).length : Int)) = true := by rw [hl]; exact lt_dec hlt
          have hyes : neM (m0A l) a = true → K (I 6) := fun h => by rw [h, cond_true] at hJ; rw [← hJ, cond_true] at hk; exact hk
          have hno : neM (m0A l) a = false → anyB (neM (m0A l)) (l.drop (i + 1)) = anyB (neM (m0A l)) l := fun h => by rw [h, cond_false] at hJ; exact hJ
          clear hk hJ
          conv => whnf
          refine pickB_yes hcond ?_
          conv => whnf
          refine eltK_iff.2 ⟨_, get_map ha, ?_⟩
          conv => whnf
          refine eltK_iff.2 ⟨_, hb0, ?_⟩
          conv => whnf
          refine pickB_of (fun h => ?_) (fun h => ?_)
          · have h' : neM (m0A l) a = true := by unfold neM; rw [hm0]; exact h
            conv => whnf
            exact hyes h'
          · have h' : neM (m0A l) a = false := by unfold neM; rw [hm0]; exact h
            conv => whnf
            refine' ⟨(), [], hlt, hno h', ⟨?t, trivial, List.nodup_nil, rfl⟩⟩
            case t => repeat' (first | exact trivial | exact congrArg (fun x => LV.v (Value.int .i64 x)) (wrapS (by omega)) | rfl | ((conv => whnf); refine And.intro ?_ ?_))
        · have hcond : decide ((i : Int) < ((eAs l).length : Int)) = false := by rw [hl]; exact ge_dec hge
          rw [List.drop_eq_nil_of_le hge] at hJ
          replace hJ : false = anyB (neM (m0A l)) l := hJ
          rw [← hJ, cond_false] at hk
          conv => whnf
          refine pickB_no hcond ?_
          conv => whnf
          exact hk
noncomputable def e36 : Ent := entA s36 espec_fun

def mixE (e f : Int) : Int := bif e == 0 then f else bif f != 0 then (bif decide (f < e) then f else e) else e
def chkR (g : List O) (l : List Atm) (h : V) : Int := bif bad3 h 512 then 1 else mixE (docC g) (docA l)
def S19 : PSpec := espec (fun x : List O × List Atm × V => [.rd (eOs x.1), .rd (eAs x.2.1), .rd [eV x.2.2]]) (fun x => x.2.1.length ≤ 4611686018427387904) (fun x => I (chkR x.1 x.2.1 x.2.2))
theorem s19 : SoundA PR GL 29 S19 := mkA [e35, e36, e37] 2 Tryz.func29 (by kernel_rfl) (by kernel_rfl) fun args K hk => by
  obtain ⟨⟨g, l, h⟩, rfl, hlen, hk⟩ := hk
  replace hlen : l.length ≤ 4611686018427387904 := hlen
  replace hk : K (I (chkR g l h)) := hk
  conv => whnf
  refine ⟨g, rfl, trivial, ?_⟩
  conv => whnf
  refine ⟨l, rfl, hlen, ?_⟩
  conv => whnf
  repeat' ((first
            | refine pickB_yes (by assumption) ?_
            | refine pickB_no (by assumption) ?_
            | refine pickB_of (fun _ => ?_) (fun _ => ?_)) <;> (conv => whnf))
  all_goals (simp only [chkR, mixE, *, cond_true, cond_false] at hk; exact hk)
noncomputable def e19 : Ent := entA s19 espec_fun

/-! ### Two rings -/
def eqL2 : List Int → List Int → Bool
  | a :: r, b :: s => bif a != b then false else eqL2 r s
  | _, _ => true
def sameR (a b : Int × List Int) : Bool := bif a.1 != b.1 then false else bif (a.2.length : Int) != (b.2.length : Int) then false else eqL2 a.2 b.2
def S7 : PSpec := espec (fun x : (Int × List Int) × (Int × List Int) => [.agg [I x.1.1, .rd (eNs x.1.2)], .agg [I x.2.1, .rd (eNs x.2.2)]]) (fun x => x.1.2.length ≤ 4611686018427387904) (fun x => Bo (sameR x.1 x.2))
theorem s7 : SoundA PR GL 20 S7 := mkA [] 0 Tryz.func20 (by kernel_rfl) (by kernel_rfl) fun args K hk => by
  obtain ⟨⟨⟨m, c⟩, n, d⟩, rfl, hlen, hk⟩ := hk
  replace hlen : c.length ≤ 4611686018427387904 := hlen
  replace hk : K (Bo (sameR (m, c) (n, d))) := hk
  have hcl : (eNs c).length = c.length := eNs_len
  have hdl : (eNs d).length = d.length := eNs_len
  conv => whnf
  refine pickB_of (fun h => ?_) (fun h => ?_)
  · have h' : (m != n) = true := h
    rw [sameR, h', cond_true] at hk
    conv => whnf
    exact hk
  · have h' : (m != n) = false := h
    simp only [sameR, h', cond_false] at hk
    clear h h'
    conv => whnf
    refine pickB_of (fun h => ?_) (fun h => ?_)
    · have h' : ((c.length : Int) != (d.length : Int)) = true := by rw [← hcl, ← hdl]; exact h
      rw [h', cond_true] at hk
      conv => whnf
      exact hk
    · have h' : ((c.length : Int) != (d.length : Int)) = false := by rw [← hcl, ← hdl]; exact h
      rw [h', cond_false] at hk
      have hcd : c.length = d.length := by
        have h2 : ((c.length : Int) == (d.length : Int)) = true := by rw [bne, Bool.not_eq_false'] at h'; exact h'
        have h3 := eq_of_beq h2
        omega
      clear h h'
      conv => whnf
      refine LoopP.weaken (s2 := ⟨[.unk, .unk, .ptr 0 0 0, .ptr 1 0 0, .unk, .unk, .unk, .unk, .unk, .unk, .unk, .unk, .unk, .unk, .unk, .unk, .unk, .unk, .unk, .unk, .unk, .unk, I ((eNs c).length : Int), I (0 : Nat), .unk, .unk, .unk, .unk, .unk, .unk, .unk, .unk, .unk, .unk, .unk, .unk, .unk, .unk], [.box [I m, .rd (eNs c)], .box [I n, .rd (eNs d)]]⟩) [0, 1] ⟨?_, ?_, by decide, rfl⟩ ?_
      · repeat' (first | exact trivial | rfl | ((conv => whnf); refine And.intro ?_ ?_))
      · repeat' (first | exact trivial | rfl | ((conv => whnf); refine And.intro ?_ ?_))
      refine loopInd 0 (by kernel_rfl) c.length (fun i (_ : Unit) => ⟨[.unk, .unk, .ptr 0 0 0, .ptr 1 0 0, .unk, .unk, .unk, .unk, .unk, .unk, .unk, .unk, .unk, .unk, .unk, .unk, .unk, .unk, .unk, .unk, .unk, .unk, I ((eNs c).length : Int), I (i : Nat), .unk, .unk, .unk, .unk, .unk, .unk, .unk, .unk, .unk, .unk, .unk, .unk, .unk, .unk], [.box [I m, .rd (eNs c)], .box [I n, .rd (eNs d)]]⟩) (fun i _ => eqL2 (c.drop i) (d.drop i) = eqL2 c d) ?_ 0 () (Nat.zero_le _) rfl
      rintro i - hi hJ
      rcases Nat.lt_or_ge i c.length with hlt | hge
      · obtain ⟨a, ha⟩ : ∃ o, c[i]? = some o := ⟨_, List.getElem?_eq_getElem hlt⟩
        obtain ⟨b, hb⟩ : ∃ o, d[i]? = some o := ⟨_, List.getElem?_eq_getElem (by omega)⟩
        rw [drop_get ha, drop_get hb, eqL2] at hJ
        have hcond : decide ((i : Int) < ((eNs c).length : Int)) = true := by rw [hcl]; exact lt_dec hlt
        conv => whnf
        refine pickB_yes hcond ?_
        conv => whnf
        refine eltK_iff.2 ⟨_, get_map ha, ?_⟩
        conv => whnf
        refine eltK_iff.2 ⟨_, get_map hb, ?_⟩
        conv => whnf
        refine pickB_of (fun h => ?_) (fun h => ?_)
        · have h' : (a != b) = true := h
          rw [h', cond_true] at hJ
          rw [← hJ] at hk
          conv => whnf
          exact hk
        · have h' : (a != b) = false := h
          rw [h', cond_false] at hJ
          conv => whnf
          refine' ⟨(), [0, 1], hlt, hJ, ⟨?t, ?h, by decide, rfl⟩⟩
          case t => repeat' (first | exact trivial | exact congrArg (fun x => LV.v (Value.int .i64 x)) (wrapS (by omega)) | rfl | ((conv => whnf); refine And.intro ?_ ?_))
          case h => repeat' (first | exact trivial | rfl | (exact fun h => h) | ((conv => whnf); refine And.intro ?_ ?_))
      · have hcond : decide ((i : Int) < ((eNs c).length : Int)) = false := by rw [hcl]; exact ge_dec hge
        rw [List.drop_eq_nil_of_le hge, show List.drop i d = [] from List.drop_eq_nil_of_le (by omega)] at hJ
        replace hJ : true = eqL2 c d := hJ
        rw [← hJ] at hk
        conv => whnf
        refine pickB_no hcond ?_
        conv => whnf
        exact hk
noncomputable def e7 : Ent := entA s7 espec_fun
end E
end Go.Proofs.YtjhognibibmeiaaGreatDoor
