/-
  LISTS OF INDICES, first part: errors of lists; All.
  LISTS OF INDICES, second part: All, the document's too.
  LISTS OF INDICES, third part: lists of waves compared; sums of weights.
  LISTS OF INDICES, fourth part: the law of lists.
-/
import Derived.Test.YtjhognibibmeiaaGreatDoorRd
section
set_option linter.unusedVariables false
set_option maxRecDepth 100000
set_option maxHeartbeats 8000000
namespace Go.Proofs.YtjhognibibmeiaaGreatDoor
namespace E
open Go Go.RowKit

def foldE (hs : List V) (e : Int) : Int := hs.foldl (fun e h => least2 e (idxV h)) e
def lenE (n : Nat) (e : Int) : Int := bif decide ((n : Int) > 4096) then least2 e 2 else e
def errL (g : List O) (l : List Atm) (hs : List V) : Int := foldE hs (lenE hs.length (least2 (chkG g) (chkA l)))
def anyV : List V → Bool
  | [] => false
  | h :: r => bif bad3 h 512 then true else anyV r
def longE (n : Nat) (e : Int) : Int := bif decide ((n : Int) > 4096) then (bif e == 0 then 2 else bif decide (e > 2) then 2 else e) else e
def chkL (g : List O) (l : List Atm) (hs : List V) : Int := bif anyV hs then 1 else longE hs.length (mixE (docC g) (docA l))
theorem lstep_nn {e x : Int} (he : 0 ≤ e) (hx : 0 ≤ x) : 0 ≤ lstep e x := by
  unfold lstep
  cases x != 0 <;> cases e == 0 <;> cases decide (x < e) <;> simp [he, hx]
theorem lstep0 (e : Int) : lstep 0 e = e := by
  unfold lstep
  cases h : e != 0 with
  | true => rfl
  | false => have : e = 0 := by simpa using h
             subst this; rfl
theorem least2_step (e x : Int) : least2 e x = lstep e x := by unfold least2; rw [lstep0]
theorem step1 {e : Int} (he : 0 ≤ e) : lstep e 1 = 1 := by
  unfold lstep
  simp only [Bool.cond_eq_ite]
  split
  · split
    · rfl
    · split
      · rfl
      · rename_i h1 h2
        simp at h1 h2
        omega
  · rename_i h; simp at h
theorem fold1 : ∀ hs : List V, foldE hs 1 = 1
  | [] => rfl
  | h :: r => by
    unfold foldE
    rw [List.foldl_cons]
    have : least2 1 (idxV h) = 1 := by
      rw [least2_step]
      unfold idxV
      cases bad3 h 512 <;> rfl
    rw [this]
    exact fold1 r
theorem fold_any : ∀ (hs : List V) {e : Int}, 0 ≤ e → foldE hs e = bif anyV hs then 1 else e
  | [], e, _ => rfl
  | h :: r, e, he => by
    unfold foldE anyV
    rw [List.foldl_cons]
    show foldE r (least2 e (idxV h)) = _
    rw [least2_step]
    unfold idxV
    cases bad3 h 512 with
    | true =>
      rw [cond_true, cond_true, step1 he]
      exact fold1 r
    | false =>
      rw [cond_false, cond_false]
      have : lstep e 0 = e := rfl
      rw [this]
      exact fold_any r he
theorem step2 {e : Int} (he : 0 ≤ e) : least2 e 2 = bif e == 0 then 2 else bif decide (e > 2) then 2 else e := by
  rw [least2_step]
  unfold lstep
  have h1 : ((2 : Int) != 0) = true := rfl
  rw [h1, cond_true]
theorem errL_eq (g : List O) (l : List Atm) (hs : List V) : errL g l hs = chkL g l hs := by
  have hc := docC_nn g
  have ha := docA_nn l
  unfold errL chkL
  rw [chkG_eq, chkA_eq, least2_step, lst hc ha]
  have hm : 0 ≤ mixE (docC g) (docA l) := by rw [← lst hc ha]; exact lstep_nn hc ha
  generalize mixE (docC g) (docA l) = e at hm
  have hl : lenE hs.length e = longE hs.length e := by
    unfold lenE longE
    cases decide ((hs.length : Int) > 4096) with
    | true => rw [cond_true, cond_true]; exact step2 hm
    | false => rfl
  rw [← hl]
  refine fold_any hs ?_
  unfold lenE
  cases decide ((hs.length : Int) > 4096) with
  | true => rw [cond_true, least2_step]; exact lstep_nn hm (by decide)
  | false => exact hm
theorem anyV_false : ∀ {hs : List V}, anyV hs = false → ∀ h ∈ hs, bad3 h 512 = false
  | [], _, h, hm => by cases hm
  | a :: r, h, x, hx => by
    unfold anyV at h
    cases hb : bad3 a 512 with
    | true => rw [hb] at h; cases h
    | false =>
      rw [hb] at h
      rcases List.mem_cons.1 hx with rfl | hx
      · exact hb
      · exact anyV_false h x hx
structure OkH (G : List O) (L : List Atm) (hs : List V) : Prop where
  g : chkG G = 0
  a : chkA L = 0
  len : hs.length ≤ 4096
  h : ∀ h ∈ hs, errX G L h = 0
theorem errL_ok {g : List O} {l : List Atm} {hs : List V} (h : errL g l hs = 0) : OkH g l hs := by
  rw [errL_eq] at h
  unfold chkL at h
  cases hb : anyV hs with
  | true => rw [hb] at h; cases h
  | false =>
    rw [hb, cond_false] at h
    unfold longE at h
    cases hl : decide ((hs.length : Int) > 4096) with
    | true =>
      rw [hl, cond_true] at h
      cases h1 : mixE (docC g) (docA l) == 0 with
      | true => rw [h1] at h; cases h
      | false =>
        rw [h1, cond_false] at h
        cases h2 : decide (mixE (docC g) (docA l) > 2) with
        | true => rw [h2] at h; cases h
        | false =>
          rw [h2, cond_false] at h
          rw [h] at h1
          cases h1
    | false =>
      rw [hl, cond_false] at h
      obtain ⟨hg, hA⟩ := mixE_zero h
      have hg' : chkG g = 0 := by rw [chkG_eq]; exact hg
      have hA' : chkA l = 0 := by rw [chkA_eq]; exact hA
      refine ⟨hg', hA', by simp at hl; omega, fun x hx => ?_⟩
      unfold errX idxV
      rw [hg', hA', anyV_false hb x hx]
      rfl

/-! ### The reference's check -/
theorem get_vec {hs : List V} {i : Nat} {h : V} (hh : hs[i]? = some h) : (eVs hs)[(i : Int).toNat]? = some (eV h) := get_map (f := eV) hh
def SD29 : PSpec := espec (fun x : List O × List Atm × List V => [.rd (eOs x.1), .rd (eAs x.2.1), .rd (eVs x.2.2)]) (fun x => x.2.1.length ≤ 4611686018427387904 ∧ x.2.2.length ≤ 4611686018427387904) (fun x => I (chkL x.1 x.2.1 x.2.2))
theorem sD29 : SoundA PR GL 29 SD29 := mkA [e35, e36, e37] 0 Tryz.func29 (by kernel_rfl) (by kernel_rfl) fun args K hk => by
  obtain ⟨⟨g, l, hs⟩, rfl, hlens, hk⟩ := hk
  obtain ⟨hlen, hlen2⟩ := hlens
  replace hlen : l.length ≤ 4611686018427387904 := hlen
  replace hlen2 : hs.length ≤ 4611686018427387904 := hlen2
  replace hk : K (I (chkL g l hs)) := hk
  have hl : (eVs hs).length = hs.length := by simp [eVs]
  unfold chkL at hk
  conv => whnf
  refine ⟨g, rfl, trivial, ?_⟩
  conv => whnf
  refine ⟨l, rfl, hlen, ?_⟩
  rw [← hl] at hk
  have key : ∀ e0 : Int, e0 = longE (eVs hs).length (mixE (docC g) (docA l)) → K (I (bif anyV hs then 1 else e0)) := by
    rintro e0 rfl; exact hk
  clear hk
  generalize docC g = c at key
  conv => whnf
  generalize docA l = a at key
  repeat' ((first
            | refine pickB_yes (by assumption) ?_
            | refine pickB_no (by assumption) ?_
            | refine pickB_of (fun _ => ?_) (fun _ => ?_)
            | fail) <;> (conv => whnf))
  all_goals first
    | (have hk := key (a) (by clear hl; simp only [longE, mixE, *, cond_true, cond_false] <;> rfl)
       clear key
       refine LoopP.weaken (s2 := ⟨[.unk, .unk, .unk, .unk, .unk, .unk, .unk, I (a), .unk, .unk, .unk, .unk, .unk, .unk, .unk, .unk, .unk, .unk, .unk, .unk, .unk, .unk, .unk, .unk, .unk, .unk, .unk, .unk, .unk, .unk, .unk, .unk, .unk, .unk, .unk, .unk, .unk, .unk, .rd (eVs hs), I ((eVs hs).length : Int), I (0 : Nat), .unk, .unk, .unk, .unk, .unk, .unk, .unk, .unk], []⟩) [] ⟨?_, trivial, List.nodup_nil, rfl⟩ ?_
       · repeat' (first | exact trivial | exact congrArg (fun x => LV.v (Value.int .i64 x)) (wrapS (by omega)) | rfl | ((conv => whnf); refine And.intro ?_ ?_))
       refine loopInd 0 (by kernel_rfl) hs.length (fun i (s : Unit) => ⟨[.unk, .unk, .unk, .unk, .unk, .unk, .unk, I (a), .unk, .unk, .unk, .unk, .unk, .unk, .unk, .unk, .unk, .unk, .unk, .unk, .unk, .unk, .unk, .unk, .unk, .unk, .unk, .unk, .unk, .unk, .unk, .unk, .unk, .unk, .unk, .unk, .unk, .unk, .rd (eVs hs), I ((eVs hs).length : Int), I (i : Nat), .unk, .unk, .unk, .unk, .unk, .unk, .unk, .unk], []⟩) (fun i _ => anyV (hs.drop i) = anyV hs) ?_ 0 () (Nat.zero_le _) rfl
       rintro i _ hi hJ
       rcases Nat.lt_or_ge i hs.length with hlt | hge
       · obtain ⟨h, hh⟩ : ∃ o, hs[i]? = some o := ⟨_, List.getElem?_eq_getElem hlt⟩
         rw [drop_get hh, anyV] at hJ
         have hcond : decide ((i : Int) < ((eVs hs).length : Int)) = true := by rw [hl]; exact lt_dec hlt
         conv => whnf
         refine pickB_yes hcond ?_
         conv => whnf
         refine eltK_iff.2 ⟨_, get_vec hh, ?_⟩
         conv => whnf
         refine pickB_of (fun hb => ?_) (fun hb => ?_)
         · have hb' : bad3 h 512 = true := hb
           rw [hb', cond_true] at hJ
           rw [← hJ, cond_true] at hk
           conv => whnf
           exact hk
         · have hb' : bad3 h 512 = false := hb
           rw [hb', cond_false] at hJ
           conv => whnf
           refine' ⟨(), [], hlt, hJ, ⟨?t, trivial, List.nodup_nil, rfl⟩⟩
           case t => repeat' (first | exact trivial | exact congrArg (fun x => LV.v (Value.int .i64 x)) (wrapS (by omega)) | rfl | ((conv => whnf); refine And.intro ?_ ?_))
       · have hcond : decide ((i : Int) < ((eVs hs).length : Int)) = false := by rw [hl]; exact ge_dec hge
         rw [List.drop_eq_nil_of_le hge] at hJ
         replace hJ : false = anyV hs := hJ
         rw [← hJ, cond_false] at hk
         conv => whnf
         refine pickB_no hcond ?_
         conv => whnf
         exact hk)
    | (have hk := key (c) (by clear hl; simp only [longE, mixE, *, cond_true, cond_false] <;> rfl)
       clear key
       refine LoopP.weaken (s2 := ⟨[.unk, .unk, .unk, .unk, .unk, .unk, .unk, I (c), .unk, .unk, .unk, .unk, .unk, .unk, .unk, .unk, .unk, .unk, .unk, .unk, .unk, .unk, .unk, .unk, .unk, .unk, .unk, .unk, .unk, .unk, .unk, .unk, .unk, .unk, .unk, .unk, .unk, .unk, .rd (eVs hs), I ((eVs hs).length : Int), I (0 : Nat), .unk, .unk, .unk, .unk, .unk, .unk, .unk, .unk], []⟩) [] ⟨?_, trivial, List.nodup_nil, rfl⟩ ?_
       · repeat' (first | exact trivial | exact congrArg (fun x => LV.v (Value.int .i64 x)) (wrapS (by omega)) | rfl | ((conv => whnf); refine And.intro ?_ ?_))
       refine loopInd 0 (by kernel_rfl) hs.length (fun i (s : Unit) => ⟨[.unk, .unk, .unk, .unk, .unk, .unk, .unk, I (c), .unk, .unk, .unk, .unk, .unk, .unk, .unk, .unk, .unk, .unk, .unk, .unk, .unk, .unk, .unk, .unk, .unk, .unk, .unk, .unk, .unk, .unk, .unk, .unk, .unk, .unk, .unk, .unk, .unk, .unk, .rd (eVs hs), I ((eVs hs).length : Int), I (i : Nat), .unk, .unk, .unk, .unk, .unk, .unk, .unk, .unk], []⟩) (fun i _ => anyV (hs.drop i) = anyV hs) ?_ 0 () (Nat.zero_le _) rfl
       rintro i _ hi hJ
       rcases Nat.lt_or_ge i hs.length with hlt | hge
       · obtain ⟨h, hh⟩ : ∃ o, hs[i]? = some o := ⟨_, List.getElem?_eq_getElem hlt⟩
         rw [drop_get hh, anyV] at hJ
         have hcond : decide ((i : Int) < ((eVs hs).length : Int)) = true := by rw [hl]; exact lt_dec hlt
         conv => whnf
         refine pickB_yes hcond ?_
         conv => whnf
         refine eltK_iff.2 ⟨_, get_vec hh, ?_⟩
         conv => whnf
         refine pickB_of (fun hb => ?_) (fun hb => ?_)
         · have hb' : bad3 h 512 = true := hb
           rw [hb', cond_true] at hJ
           rw [← hJ, cond_true] at hk
           conv => whnf
           exact hk
         · have hb' : bad3 h 512 = false := hb
           rw [hb', cond_false] at hJ
           conv => whnf
           refine' ⟨(), [], hlt, hJ, ⟨?t, trivial, List.nodup_nil, rfl⟩⟩
           case t => repeat' (first | exact trivial | exact congrArg (fun x => LV.v (Value.int .i64 x)) (wrapS (by omega)) | rfl | ((conv => whnf); refine And.intro ?_ ?_))
       · have hcond : decide ((i : Int) < ((eVs hs).length : Int)) = false := by rw [hl]; exact ge_dec hge
         rw [List.drop_eq_nil_of_le hge] at hJ
         replace hJ : false = anyV hs := hJ
         rw [← hJ, cond_false] at hk
         conv => whnf
         refine pickB_no hcond ?_
         conv => whnf
         exact hk)
    | (have hk := key (2) (by clear hl; simp only [longE, mixE, *, cond_true, cond_false] <;> rfl)
       clear key
       refine LoopP.weaken (s2 := ⟨[.unk, .unk, .unk, .unk, .unk, .unk, .unk, I (2), .unk, .unk, .unk, .unk, .unk, .unk, .unk, .unk, .unk, .unk, .unk, .unk, .unk, .unk, .unk, .unk, .unk, .unk, .unk, .unk, .unk, .unk, .unk, .unk, .unk, .unk, .unk, .unk, .unk, .unk, .rd (eVs hs), I ((eVs hs).length : Int), I (0 : Nat), .unk, .unk, .unk, .unk, .unk, .unk, .unk, .unk], []⟩) [] ⟨?_, trivial, List.nodup_nil, rfl⟩ ?_
       · repeat' (first | exact trivial | exact congrArg (fun x => LV.v (Value.int .i64 x)) (wrapS (by omega)) | rfl | ((conv => whnf); refine And.intro ?_ ?_))
       refine loopInd 0 (by kernel_rfl) hs.length (fun i (s : Unit) => ⟨[.unk, .unk, .unk, .unk, .unk, .unk, .unk, I (2), .unk, .unk, .unk, .unk, .unk, .unk, .unk, .unk, .unk, .unk, .unk, .unk, .unk, .unk, .unk, .unk, .unk, .unk, .unk, .unk, .unk, .unk, .unk, .unk, .unk, .unk, .unk, .unk, .unk, .unk, .rd (eVs hs), I ((eVs hs).length : Int), I (i : Nat), .unk, .unk, .unk, .unk, .unk, .unk, .unk, .unk], []⟩) (fun i _ => anyV (hs.drop i) = anyV hs) ?_ 0 () (Nat.zero_le _) rfl
       rintro i _ hi hJ
       rcases Nat.lt_or_ge i hs.length with hlt | hge
       · obtain ⟨h, hh⟩ : ∃ o, hs[i]? = some o := ⟨_, List.getElem?_eq_getElem hlt⟩
         rw [drop_get hh, anyV] at hJ
         have hcond : decide ((i : Int) < ((eVs hs).length : Int)) = true := by rw [hl]; exact lt_dec hlt
         conv => whnf
         refine pickB_yes hcond ?_
         conv => whnf
         refine eltK_iff.2 ⟨_, get_vec hh, ?_⟩
         conv => whnf
         refine pickB_of (fun hb => ?_) (fun hb => ?_)
         · have hb' : bad3 h 512 = true := hb
           rw [hb', cond_true] at hJ
           rw [← hJ, cond_true] at hk
           conv => whnf
           exact hk
         · have hb' : bad3 h 512 = false := hb
           rw [hb', cond_false] at hJ
           conv => whnf
           refine' ⟨(), [], hlt, hJ, ⟨?t, trivial, List.nodup_nil, rfl⟩⟩
           case t => repeat' (first | exact trivial | exact congrArg (fun x => LV.v (Value.int .i64 x)) (wrapS (by omega)) | rfl | ((conv => whnf); refine And.intro ?_ ?_))
       · have hcond : decide ((i : Int) < ((eVs hs).length : Int)) = false := by rw [hl]; exact ge_dec hge
         rw [List.drop_eq_nil_of_le hge] at hJ
         replace hJ : false = anyV hs := hJ
         rw [← hJ, cond_false] at hk
         conv => whnf
         refine pickB_no hcond ?_
         conv => whnf
         exact hk)
noncomputable def eD29 : Ent := entA sD29 espec_fun
end E
end Go.Proofs.YtjhognibibmeiaaGreatDoor
end

section
set_option linter.unusedVariables false
set_option maxRecDepth 100000
set_option maxHeartbeats 8000000
namespace Go.Proofs.YtjhognibibmeiaaGreatDoor
namespace E
open Go Go.RowKit

abbrev Wv := V × (Nat × Nat)
def eWv (x : Wv) : List LV := [I x.1.x, I x.1.y, I x.1.z, Cp x.2]
def eWs (l : List Wv) : List (List LV) := l.map eWv
theorem eWs_len (l : List Wv) : (eWs l).length = l.length := by simp [eWs]
theorem eWs_nil : ([] : List (List LV)) = eWs [] := rfl
theorem eWs_snoc (l : List Wv) (t : Wv) : eWs (l ++ [t]) = eWs l ++ [eWv t] := by simp [eWs]
theorem len_snocW (r : List Wv) (a : Wv) : (r ++ [a]).length = r.length + 1 := by simp
def wavO (g : List O) (l : List Atm) (h : V) : Nat × Nat := waveF h (m0A l) (orbZ g (m0A l) l) (0, 0)
def wavL (g : List O) (l : List Atm) (hs : List V) : List Wv := hs.map fun h => (h, wavO g l h)
def allA (g : List O) (l : List Atm) (hs : List V) : List Wv × Int := bif errL g l hs != 0 then ([], errL g l hs) else (wavL g l hs, 0)
theorem wavL_len (g : List O) (l : List Atm) (hs : List V) : (wavL g l hs).length = hs.length := by simp [wavL]
theorem wavL_get {g : List O} {l : List Atm} {hs : List V} {i : Nat} {h : V} (hh : hs[i]? = some h) : (wavL g l hs)[i]? = some (h, wavO g l h) := by
  unfold wavL; rw [List.getElem?_map, hh]; rfl
theorem eVs_len (hs : List V) : (eVs hs).length = hs.length := by simp [eVs]
def SD12 : PSpec := espec (fun x : List O × List Atm × List V => [.rd (eOs x.1), .rd (eAs x.2.1), .rd (eVs x.2.2)]) (fun x => x.2.1.length ≤ 4611686018427387904 ∧ x.2.2.length ≤ 4611686018427387904)
  (fun x => Er (.rd (eWs (allA x.1 x.2.1 x.2.2).1)) (allA x.1 x.2.1 x.2.2).2)
theorem foldE_drop {hs : List V} {i : Nat} {h : V} (hh : hs[i]? = some h) (e : Int) : foldE (hs.drop i) e = foldE (hs.drop (i + 1)) (least2 e (idxV h)) := by
  rw [drop_get hh]; rfl
theorem sD12 : SoundA PR GL 12 SD12 := mkA [e13, e14, e15, e12b, e16, eD27] 0 Tryz.func12 (by kernel_rfl) (by kernel_rfl) fun args K hk => by
  obtain ⟨⟨g, l, hs⟩, rfl, hlens, hk⟩ := hk
  obtain ⟨hlen, hlen2⟩ := hlens
  replace hlen : l.length ≤ 4611686018427387904 := hlen
  replace hlen2 : hs.length ≤ 4611686018427387904 := hlen2
  replace hk : K (Er (.rd (eWs (allA g l hs).1)) (allA g l hs).2) := hk
  have hl : (eVs hs).length = hs.length := eVs_len hs
  have fin : ∀ e1 : Int, e1 = errL g l hs → (e1 ≠ 0 → K (Er (.rd []) e1)) ∧ (e1 = 0 → K (Er (.rd (eWs (wavL g l hs))) 0)) := by
    rintro e1 rfl
    unfold allA at hk
    refine ⟨fun he => ?_, fun he => ?_⟩
    · have : (errL g l hs != 0) = true := by simpa using he
      rw [this] at hk; exact hk
    · rw [he] at hk; exact hk
  clear hk
  have hE : errL g l hs = foldE hs (lenE hs.length (least2 (chkG g) (chkA l))) := rfl
  conv => whnf
  refine ⟨g, rfl, trivial, ?_⟩
  conv => whnf
  refine ⟨l, rfl, hlen, ?_⟩
  conv => whnf
  refine And.intro (Nat.le_refl _) ?_
  conv => whnf
  rw [← hl] at hE
  have key : ∀ e0 : Int, e0 = lenE (eVs hs).length (least2 (chkG g) (chkA l)) → errL g l hs = foldE hs e0 := by
    rintro e0 rfl; exact hE
  clear hE
  refine pickB_of (fun hgt => ?_) (fun hgt => ?_)
  · have hE := key (least2 (least2 (chkG g) (chkA l)) 2) (by unfold lenE; rw [show decide (((eVs hs).length : Int) > 4096) = true from hgt]; rfl)
    conv => whnf
    refine And.intro (Nat.le_refl _) ?_
    clear key
    conv => whnf
    refine LoopP.weaken (s2 := ⟨[.rd (eOs g), .rd (eAs l), .rd (eVs hs), .unk, .unk, .unk, .v (.slice none 0 0), I 0, I (least2 (least2 (chkG g) (chkA l)) 2), .unk, .unk, .unk, .unk, .unk, .unk, .unk, .unk, .unk, .unk, .unk, .unk, .unk, .unk, .unk, .unk, .unk, .unk, .rd (eVs hs), I ((eVs hs).length : Int), I (0 : Nat), .unk, .unk, .unk, .unk, .unk, .unk, .unk, .unk, .unk, .unk, .unk, .unk, .unk, .unk, .unk, .unk, .unk, .unk, .unk, .unk, .unk, .unk, .unk, .unk, .unk, .unk, .unk, .unk, .unk, .unk, .unk, .unk], []⟩) [] ⟨?_, trivial, List.nodup_nil, rfl⟩ ?_
    · repeat' (first | exact trivial | exact congrArg (fun x => LV.v (Value.int .i64 x)) (wrapS (by omega)) | rfl | ((conv => whnf); refine And.intro ?_ ?_))
    generalize least2 (least2 (chkG g) (chkA l)) 2 = e0 at hE
    refine loopInd 0 (by kernel_rfl) hs.length (fun i (e : Int) => ⟨[.rd (eOs g), .rd (eAs l), .rd (eVs hs), .unk, .unk, .unk, .v (.slice none 0 0), I 0, I e, .unk, .unk, .unk, .unk, .unk, .unk, .unk, .unk, .unk, .unk, .unk, .unk, .unk, .unk, .unk, .unk, .unk, .unk, .rd (eVs hs), I ((eVs hs).length : Int), I (i : Nat), .unk, .unk, .unk, .unk, .unk, .unk, .unk, .unk, .unk, .unk, .unk, .unk, .unk, .unk, .unk, .unk, .unk, .unk, .unk, .unk, .unk, .unk, .unk, .unk, .unk, .unk, .unk, .unk, .unk, .unk, .unk, .unk], []⟩) (fun i e => foldE (hs.drop i) e = errL g l hs) ?_ 0 e0 (Nat.zero_le _) hE.symm
    clear hE
    rintro i e hi hJ
    rcases Nat.lt_or_ge i hs.length with hlt | hge
    · obtain ⟨h, hh⟩ : ∃ o, hs[i]? = some o := ⟨_, List.getElem?_eq_getElem hlt⟩
      have hcond : decide ((i : Int) < ((eVs hs).length : Int)) = true := by rw [hl]; exact lt_dec hlt
      rw [foldE_drop hh] at hJ
      conv => whnf
      refine pickB_yes hcond ?_
      conv => whnf
      refine eltK_iff.2 ⟨_, get_vec hh, ?_⟩
      conv => whnf
      refine pickB_of (fun hb => ?_) (fun hb => ?_)
      · rw [show idxV h = 1 by unfold idxV; rw [show bad3 h 512 = true from hb]; rfl] at hJ
        conv => whnf
        refine And.intro (Nat.le_refl _) ?_
        conv => whnf
        refine' ⟨least2 e 1, [], hlt, hJ, ⟨?t1, trivial, List.nodup_nil, rfl⟩⟩
        case t1 => repeat' (first | exact trivial | exact congrArg (fun x => LV.v (Value.int .i64 x)) (wrapS (by omega)) | rfl | ((conv => whnf); refine And.intro ?_ ?_))
      · rw [show idxV h = 0 by unfold idxV; rw [show bad3 h 512 = false from hb]; rfl] at hJ
        conv => whnf
        refine And.intro (Nat.le_refl _) ?_
        conv => whnf
        refine' ⟨least2 e 0, [], hlt, hJ, ⟨?t2, trivial, List.nodup_nil, rfl⟩⟩
        case t2 => repeat' (first | exact trivial | exact congrArg (fun x => LV.v (Value.int .i64 x)) (wrapS (by omega)) | rfl | ((conv => whnf); refine And.intro ?_ ?_))
    · have hcond : decide ((i : Int) < ((eVs hs).length : Int)) = false := by rw [hl]; exact ge_dec hge
      rw [List.drop_eq_nil_of_le hge] at hJ
      replace hJ : e = errL g l hs := hJ
      obtain ⟨hk1, hk2⟩ := fin e hJ
      clear fin
      conv => whnf
      refine pickB_no hcond ?_
      conv => whnf
      refine pickB_of (fun he => ?_) (fun he => ?_)
      · have he' : e ≠ 0 := by have : (e != 0) = true := he; simpa using this
        have hk := hk1 he'
        conv => whnf
        exact hk
      · have he' : e = 0 := by have : (e != 0) = false := he; simpa using this
        have hk := hk2 he'
        rw [he'] at hJ
        have hH := errL_ok hJ.symm
        have hg := hH.g
        have hA := hH.a
        have hLn := hH.len
        have hL := chkA_ok hA
        have hW := orbZ_ok hg hA
        have e1 := orbZ_a g (m0A l) l
        have e2 := orbZ_o g (m0A l) l
        clear he hk1 hk2 hH hJ he' hcond hge hi
        conv => whnf
        refine ⟨(g, l, m0A l), rfl, ⟨hg, hL.m, hL.a, hL.len⟩, ?_⟩
        conv => whnf
        refine LoopP.weaken (s2 := ⟨[.rd (eOs g), .rd (eAs l), .rd (eVs hs), .unk, .unk, .unk, .unk, .unk, .unk, .unk, .unk, .rd (orbsE g (m0A l) l), .v (.slice none 0 0), .unk, .unk, .unk, .unk, .unk, .unk, .unk, .unk, .unk, .unk, .unk, .unk, .unk, .unk, .unk, .unk, .unk, .unk, .unk, .unk, .unk, .unk, .unk, .unk, .unk, .unk, .unk, .unk, .unk, .unk, .unk, .unk, .rd (eVs hs), I ((eVs hs).length : Int), I (0 : Nat), .unk, .unk, .unk, .unk, .unk, .unk, .unk, .unk, .unk, .unk, .unk, .unk, .unk, .unk], []⟩) [] ⟨?_, trivial, List.nodup_nil, rfl⟩ ?_
        · repeat' (first | exact trivial | exact congrArg (fun x => LV.v (Value.int .i64 x)) (wrapS (by omega)) | rfl | ((conv => whnf); refine And.intro ?_ ?_))
        refine loopInd 0 (by kernel_rfl) hs.length (fun i (ws : List Wv) => match ws with
            | [] => ⟨[.rd (eOs g), .rd (eAs l), .rd (eVs hs), .unk, .unk, .unk, .unk, .unk, .unk, .unk, .unk, .rd (orbsE g (m0A l) l), .v (.slice none 0 0), .unk, .unk, .unk, .unk, .unk, .unk, .unk, .unk, .unk, .unk, .unk, .unk, .unk, .unk, .unk, .unk, .unk, .unk, .unk, .unk, .unk, .unk, .unk, .unk, .unk, .unk, .unk, .unk, .unk, .unk, .unk, .unk, .rd (eVs hs), I ((eVs hs).length : Int), I (i : Nat), .unk, .unk, .unk, .unk, .unk, .unk, .unk, .unk, .unk, .unk, .unk, .unk, .unk, .unk], []⟩
            | v :: r => ⟨[.rd (eOs g), .rd (eAs l), .rd (eVs hs), .unk, .unk, .unk, .unk, .unk, .unk, .unk, .unk, .rd (orbsE g (m0A l) l), .sl 0 0 (v :: r).length none, .unk, .unk, .unk, .unk, .unk, .unk, .unk, .unk, .unk, .unk, .unk, .unk, .unk, .unk, .unk, .unk, .unk, .unk, .unk, .unk, .unk, .unk, .unk, .unk, .unk, .unk, .unk, .unk, .unk, .unk, .unk, .unk, .rd (eVs hs), I ((eVs hs).length : Int), I (i : Nat), .unk, .unk, .unk, .unk, .unk, .unk, .unk, .unk, .unk, .unk, .unk, .unk, .unk, .unk], [.row 4 false (eWs (v :: r))]⟩)
          (fun i ws => ws = (wavL g l hs).take i) ?_ 0 [] (Nat.zero_le _) rfl
        intro i ws hi hT
        rcases Nat.lt_or_ge i hs.length with hlt | hge
        · obtain ⟨h, hh⟩ : ∃ o, hs[i]? = some o := ⟨_, List.getElem?_eq_getElem hlt⟩
          have hcond : decide ((i : Int) < ((eVs hs).length : Int)) = true := by rw [hl]; exact lt_dec hlt
          have hnext : (wavL g l hs).take (i + 1) = ws ++ [(h, wavO g l h)] := by rw [hT]; exact take_snocT (wavL_get hh)
          have htl : ws.length = i := by rw [hT, List.length_take, wavL_len]; omega
          have hwo : wavO g l h = waveF h (m0A l) (orbZ g (m0A l) l) (0, 0) := rfl
          generalize wavO g l h = wo at hnext hwo
          clear hT
          cases ws with
          | nil =>
            conv => whnf
            refine pickB_yes hcond ?_
            conv => whnf
            refine eltK_iff.2 ⟨_, get_vec hh, ?_⟩
            conv => whnf
            refine ⟨(orbZ g (m0A l) l, m0A l, h), ?_, hW, ?_⟩
            · show [LV.rd (eAs l), LV.rd (orbsE g (m0A l) l), LV.agg (eV h)] = [LV.rd (atE1 (orbZ g (m0A l) l)), LV.rd (orE1 (m0A l) (orbZ g (m0A l) l)), LV.agg (eV h)]
              rw [e1, e2]
            conv => whnf
            refine And.intro (Nat.le_refl _) ?_
            conv => whnf
            refine ⟨(by show (1 : Nat) * 40 ≤ 140737488355328; decide), all1 rfl, ?_⟩
            conv => whnf
            refine' ⟨[(h, wo)], [2], hlt, ?jn, ⟨?tn, ?hn, by decide, rfl⟩⟩
            case tn => repeat' (first | exact trivial | exact congrArg (fun x => LV.v (Value.int .i64 x)) (wrapS (by omega)) | rfl | ((conv => whnf); refine And.intro ?_ ?_))
            case hn => rw [hwo]; repeat' (first | exact trivial | rfl | exact fun h => h | ((conv => whnf); refine And.intro ?_ ?_))
            case jn => rw [hnext]; rfl
          | cons v r =>
            conv => whnf
            refine pickB_yes hcond ?_
            conv => whnf
            refine eltK_iff.2 ⟨_, get_vec hh, ?_⟩
            conv => whnf
            refine ⟨(orbZ g (m0A l) l, m0A l, h), ?_, hW, ?_⟩
            · show [LV.rd (eAs l), LV.rd (orbsE g (m0A l) l), LV.agg (eV h)] = [LV.rd (atE1 (orbZ g (m0A l) l)), LV.rd (orE1 (m0A l) (orbZ g (m0A l) l)), LV.agg (eV h)]
              rw [e1, e2]
            conv => whnf
            refine And.intro (Nat.le_refl _) ?_
            conv => whnf
            have hpl2 : (eWs (v :: r)).length = (v :: r).length := eWs_len _
            have hil : (v :: r).length ≤ 4096 := by omega
            refine ⟨rfl, hpl2, ?_, all1 rfl, ?_⟩
            · show ((v :: r).length + 1) * 40 ≤ 140737488355328
              omega
            conv => whnf
            refine' ⟨(v :: r) ++ [(h, wo)], [3], hlt, ?jc, ⟨?tc, ?hc2, by decide, rfl⟩⟩
            case tc => repeat' (first | exact trivial | exact congrArg (fun x => LV.v (Value.int .i64 x)) (wrapS (by omega)) | rfl | (exact (len_snocW (v :: r) (h, wo)).symm) | ((conv => whnf); refine And.intro ?_ ?_))
            case hc2 => rw [hwo]; repeat' (first | exact trivial | rfl | (exact fun h => h) | (exact (eWs_snoc (v :: r) (h, waveF h (m0A l) (orbZ g (m0A l) l) (0, 0))).symm) | ((conv => whnf); refine And.intro ?_ ?_))
            case jc => rw [hnext]
        · have hcond : decide ((i : Int) < ((eVs hs).length : Int)) = false := by rw [hl]; exact ge_dec hge
          have hall : ws = wavL g l hs := by
            rw [hT]
            exact List.take_of_length_le (by rw [wavL_len]; exact hge)
          rw [← hall] at hk
          clear hT hall
          cases ws with
          | nil =>
            conv => whnf
            refine pickB_no hcond ?_
            conv => whnf
            exact hk
          | cons v r =>
            conv => whnf
            refine pickB_no hcond ?_
            conv => whnf
            refine And.intro (by simp [eWs]) ?_
            have e : List.take (v :: r).length (List.drop 0 (eWs (v :: r))) = eWs (v :: r) := by
              rw [List.drop_zero]
              exact List.take_of_length_le (by simp [eWs])
            have hk2 : K (Er (.rd (List.take (v :: r).length (List.drop 0 (eWs (v :: r))))) 0) := by rw [e]; exact hk
            clear hk
            conv => whnf
            exact hk2
  · have hE := key (least2 (chkG g) (chkA l)) (by unfold lenE; rw [show decide (((eVs hs).length : Int) > 4096) = false from hgt]; rfl)
    clear key
    conv => whnf
    refine LoopP.weaken (s2 := ⟨[.rd (eOs g), .rd (eAs l), .rd (eVs hs), .unk, .unk, .unk, .v (.slice none 0 0), I 0, I (least2 (chkG g) (chkA l)), .unk, .unk, .unk, .unk, .unk, .unk, .unk, .unk, .unk, .unk, .unk, .unk, .unk, .unk, .unk, .unk, .unk, .unk, .rd (eVs hs), I ((eVs hs).length : Int), I (0 : Nat), .unk, .unk, .unk, .unk, .unk, .unk, .unk, .unk, .unk, .unk, .unk, .unk, .unk, .unk, .unk, .unk, .unk, .unk, .unk, .unk, .unk, .unk, .unk, .unk, .unk, .unk, .unk, .unk, .unk, .unk, .unk, .unk], []⟩) [] ⟨?_, trivial, List.nodup_nil, rfl⟩ ?_
    · repeat' (first | exact trivial | exact congrArg (fun x => LV.v (Value.int .i64 x)) (wrapS (by omega)) | rfl | ((conv => whnf); refine And.intro ?_ ?_))
    generalize least2 (chkG g) (chkA l) = e0 at hE
    refine loopInd 0 (by kernel_rfl) hs.length (fun i (e : Int) => ⟨[.rd (eOs g), .rd (eAs l), .rd (eVs hs), .unk, .unk, .unk, .v (.slice none 0 0), I 0, I e, .unk, .unk, .unk, .unk, .unk, .unk, .unk, .unk, .unk, .unk, .unk, .unk, .unk, .unk, .unk, .unk, .unk, .unk, .rd (eVs hs), I ((eVs hs).length : Int), I (i : Nat), .unk, .unk, .unk, .unk, .unk, .unk, .unk, .unk, .unk, .unk, .unk, .unk, .unk, .unk, .unk, .unk, .unk, .unk, .unk, .unk, .unk, .unk, .unk, .unk, .unk, .unk, .unk, .unk, .unk, .unk, .unk, .unk], []⟩) (fun i e => foldE (hs.drop i) e = errL g l hs) ?_ 0 e0 (Nat.zero_le _) hE.symm
    clear hE
    rintro i e hi hJ
    rcases Nat.lt_or_ge i hs.length with hlt | hge
    · obtain ⟨h, hh⟩ : ∃ o, hs[i]? = some o := ⟨_, List.getElem?_eq_getElem hlt⟩
      have hcond : decide ((i : Int) < ((eVs hs).length : Int)) = true := by rw [hl]; exact lt_dec hlt
      rw [foldE_drop hh] at hJ
      conv => whnf
      refine pickB_yes hcond ?_
      conv => whnf
      refine eltK_iff.2 ⟨_, get_vec hh, ?_⟩
      conv => whnf
      refine pickB_of (fun hb => ?_) (fun hb => ?_)
      · rw [show idxV h = 1 by unfold idxV; rw [show bad3 h 512 = true from hb]; rfl] at hJ
        conv => whnf
        refine And.intro (Nat.le_refl _) ?_
        conv => whnf
        refine' ⟨least2 e 1, [], hlt, hJ, ⟨?t1, trivial, List.nodup_nil, rfl⟩⟩
        case t1 => repeat' (first | exact trivial | exact congrArg (fun x => LV.v (Value.int .i64 x)) (wrapS (by omega)) | rfl | ((conv => whnf); refine And.intro ?_ ?_))
      · rw [show idxV h = 0 by unfold idxV; rw [show bad3 h 512 = false from hb]; rfl] at hJ
        conv => whnf
        refine And.intro (Nat.le_refl _) ?_
        conv => whnf
        refine' ⟨least2 e 0, [], hlt, hJ, ⟨?t2, trivial, List.nodup_nil, rfl⟩⟩
        case t2 => repeat' (first | exact trivial | exact congrArg (fun x => LV.v (Value.int .i64 x)) (wrapS (by omega)) | rfl | ((conv => whnf); refine And.intro ?_ ?_))
    · have hcond : decide ((i : Int) < ((eVs hs).length : Int)) = false := by rw [hl]; exact ge_dec hge
      rw [List.drop_eq_nil_of_le hge] at hJ
      replace hJ : e = errL g l hs := hJ
      obtain ⟨hk1, hk2⟩ := fin e hJ
      clear fin
      conv => whnf
      refine pickB_no hcond ?_
      conv => whnf
      refine pickB_of (fun he => ?_) (fun he => ?_)
      · have he' : e ≠ 0 := by have : (e != 0) = true := he; simpa using this
        have hk := hk1 he'
        conv => whnf
        exact hk
      · have he' : e = 0 := by have : (e != 0) = false := he; simpa using this
        have hk := hk2 he'
        rw [he'] at hJ
        have hH := errL_ok hJ.symm
        have hg := hH.g
        have hA := hH.a
        have hLn := hH.len
        have hL := chkA_ok hA
        have hW := orbZ_ok hg hA
        have e1 := orbZ_a g (m0A l) l
        have e2 := orbZ_o g (m0A l) l
        clear he hk1 hk2 hH hJ he' hcond hge hi
        conv => whnf
        refine ⟨(g, l, m0A l), rfl, ⟨hg, hL.m, hL.a, hL.len⟩, ?_⟩
        conv => whnf
        refine LoopP.weaken (s2 := ⟨[.rd (eOs g), .rd (eAs l), .rd (eVs hs), .unk, .unk, .unk, .unk, .unk, .unk, .unk, .unk, .rd (orbsE g (m0A l) l), .v (.slice none 0 0), .unk, .unk, .unk, .unk, .unk, .unk, .unk, .unk, .unk, .unk, .unk, .unk, .unk, .unk, .unk, .unk, .unk, .unk, .unk, .unk, .unk, .unk, .unk, .unk, .unk, .unk, .unk, .unk, .unk, .unk, .unk, .unk, .rd (eVs hs), I ((eVs hs).length : Int), I (0 : Nat), .unk, .unk, .unk, .unk, .unk, .unk, .unk, .unk, .unk, .unk, .unk, .unk, .unk, .unk], []⟩) [] ⟨?_, trivial, List.nodup_nil, rfl⟩ ?_
        · repeat' (first | exact trivial | exact congrArg (fun x => LV.v (Value.int .i64 x)) (wrapS (by omega)) | rfl | ((conv => whnf); refine And.intro ?_ ?_))
        refine loopInd 0 (by kernel_rfl) hs.length (fun i (ws : List Wv) => match ws with
            | [] => ⟨[.rd (eOs g), .rd (eAs l), .rd (eVs hs), .unk, .unk, .unk, .unk, .unk, .unk, .unk, .unk, .rd (orbsE g (m0A l) l), .v (.slice none 0 0), .unk, .unk, .unk, .unk, .unk, .unk, .unk, .unk, .unk, .unk, .unk, .unk, .unk, .unk, .unk, .unk, .unk, .unk, .unk, .unk, .unk, .unk, .unk, .unk, .unk, .unk, .unk, .unk, .unk, .unk, .unk, .unk, .rd (eVs hs), I ((eVs hs).length : Int), I (i : Nat), .unk, .unk, .unk, .unk, .unk, .unk, .unk, .unk, .unk, .unk, .unk, .unk, .unk, .unk], []⟩
            | v :: r => ⟨[.rd (eOs g), .rd (eAs l), .rd (eVs hs), .unk, .unk, .unk, .unk, .unk, .unk, .unk, .unk, .rd (orbsE g (m0A l) l), .sl 0 0 (v :: r).length none, .unk, .unk, .unk, .unk, .unk, .unk, .unk, .unk, .unk, .unk, .unk, .unk, .unk, .unk, .unk, .unk, .unk, .unk, .unk, .unk, .unk, .unk, .unk, .unk, .unk, .unk, .unk, .unk, .unk, .unk, .unk, .unk, .rd (eVs hs), I ((eVs hs).length : Int), I (i : Nat), .unk, .unk, .unk, .unk, .unk, .unk, .unk, .unk, .unk, .unk, .unk, .unk, .unk, .unk], [.row 4 false (eWs (v :: r))]⟩)
          (fun i ws => ws = (wavL g l hs).take i) ?_ 0 [] (Nat.zero_le _) rfl
        intro i ws hi hT
        rcases Nat.lt_or_ge i hs.length with hlt | hge
        · obtain ⟨h, hh⟩ : ∃ o, hs[i]? = some o := ⟨_, List.getElem?_eq_getElem hlt⟩
          have hcond : decide ((i : Int) < ((eVs hs).length : Int)) = true := by rw [hl]; exact lt_dec hlt
          have hnext : (wavL g l hs).take (i + 1) = ws ++ [(h, wavO g l h)] := by rw [hT]; exact take_snocT (wavL_get hh)
          have htl : ws.length = i := by rw [hT, List.length_take, wavL_len]; omega
          have hwo : wavO g l h = waveF h (m0A l) (orbZ g (m0A l) l) (0, 0) := rfl
          generalize wavO g l h = wo at hnext hwo
          clear hT
          cases ws with
          | nil =>
            conv => whnf
            refine pickB_yes hcond ?_
            conv => whnf
            refine eltK_iff.2 ⟨_, get_vec hh, ?_⟩
            conv => whnf
            refine ⟨(orbZ g (m0A l) l, m0A l, h), ?_, hW, ?_⟩
            · show [LV.rd (eAs l), LV.rd (orbsE g (m0A l) l), LV.agg (eV h)] = [LV.rd (atE1 (orbZ g (m0A l) l)), LV.rd (orE1 (m0A l) (orbZ g (m0A l) l)), LV.agg (eV h)]
              rw [e1, e2]
            conv => whnf
            refine And.intro (Nat.le_refl _) ?_
            conv => whnf
            refine ⟨(by show (1 : Nat) * 40 ≤ 140737488355328; decide), all1 rfl, ?_⟩
            conv => whnf
            refine' ⟨[(h, wo)], [2], hlt, ?jn, ⟨?tn, ?hn, by decide, rfl⟩⟩
            case tn => repeat' (first | exact trivial | exact congrArg (fun x => LV.v (Value.int .i64 x)) (wrapS (by omega)) | rfl | ((conv => whnf); refine And.intro ?_ ?_))
            case hn => rw [hwo]; repeat' (first | exact trivial | rfl | exact fun h => h | ((conv => whnf); refine And.intro ?_ ?_))
            case jn => rw [hnext]; rfl
          | cons v r =>
            conv => whnf
            refine pickB_yes hcond ?_
            conv => whnf
            refine eltK_iff.2 ⟨_, get_vec hh, ?_⟩
            conv => whnf
            refine ⟨(orbZ g (m0A l) l, m0A l, h), ?_, hW, ?_⟩
            · show [LV.rd (eAs l), LV.rd (orbsE g (m0A l) l), LV.agg (eV h)] = [LV.rd (atE1 (orbZ g (m0A l) l)), LV.rd (orE1 (m0A l) (orbZ g (m0A l) l)), LV.agg (eV h)]
              rw [e1, e2]
            conv => whnf
            refine And.intro (Nat.le_refl _) ?_
            conv => whnf
            have hpl2 : (eWs (v :: r)).length = (v :: r).length := eWs_len _
            have hil : (v :: r).length ≤ 4096 := by omega
            refine ⟨rfl, hpl2, ?_, all1 rfl, ?_⟩
            · show ((v :: r).length + 1) * 40 ≤ 140737488355328
              omega
            conv => whnf
            refine' ⟨(v :: r) ++ [(h, wo)], [3], hlt, ?jc, ⟨?tc, ?hc2, by decide, rfl⟩⟩
            case tc => repeat' (first | exact trivial | exact congrArg (fun x => LV.v (Value.int .i64 x)) (wrapS (by omega)) | rfl | (exact (len_snocW (v :: r) (h, wo)).symm) | ((conv => whnf); refine And.intro ?_ ?_))
            case hc2 => rw [hwo]; repeat' (first | exact trivial | rfl | (exact fun h => h) | (exact (eWs_snoc (v :: r) (h, waveF h (m0A l) (orbZ g (m0A l) l) (0, 0))).symm) | ((conv => whnf); refine And.intro ?_ ?_))
            case jc => rw [hnext]
        · have hcond : decide ((i : Int) < ((eVs hs).length : Int)) = false := by rw [hl]; exact ge_dec hge
          have hall : ws = wavL g l hs := by
            rw [hT]
            exact List.take_of_length_le (by rw [wavL_len]; exact hge)
          rw [← hall] at hk
          clear hT hall
          cases ws with
          | nil =>
            conv => whnf
            refine pickB_no hcond ?_
            conv => whnf
            exact hk
          | cons v r =>
            conv => whnf
            refine pickB_no hcond ?_
            conv => whnf
            refine And.intro (by simp [eWs]) ?_
            have e : List.take (v :: r).length (List.drop 0 (eWs (v :: r))) = eWs (v :: r) := by
              rw [List.drop_zero]
              exact List.take_of_length_le (by simp [eWs])
            have hk2 : K (Er (.rd (List.take (v :: r).length (List.drop 0 (eWs (v :: r))))) 0) := by rw [e]; exact hk
            clear hk
            conv => whnf
            exact hk2
noncomputable def eD12 : Ent := entA sD12 espec_fun
theorem sD13 : SoundA PR GL 13 SD12 := mkA [eD29, e20, eD30] 0 Tryz.func13 (by kernel_rfl) (by kernel_rfl) fun args K hk => by
  obtain ⟨⟨g, l, hs⟩, rfl, hlens, hk⟩ := hk
  obtain ⟨hlen, hlen2⟩ := hlens
  replace hlen : l.length ≤ 4611686018427387904 := hlen
  replace hlen2 : hs.length ≤ 4611686018427387904 := hlen2
  replace hk : K (Er (.rd (eWs (allA g l hs).1)) (allA g l hs).2) := hk
  have hl : (eVs hs).length = hs.length := eVs_len hs
  unfold allA at hk
  rw [errL_eq] at hk
  have hQ := errL_eq g l hs
  conv => whnf
  refine ⟨(g, l, hs), rfl, ⟨hlen, hlen2⟩, ?_⟩
  conv => whnf
  refine pickB_of (fun he => ?_) (fun he => ?_)
  · rw [show (chkL g l hs != 0) = true from he] at hk
    conv => whnf
    exact hk
  · have he' : (chkL g l hs != 0) = false := he
    rw [he', cond_false] at hk
    have he2 : errL g l hs = 0 := by rw [hQ]; simpa using he'
    replace hk : K (Er (.rd (eWs (wavL g l hs))) 0) := hk
    have hH := errL_ok he2
    have hg := hH.g
    have hA := hH.a
    have hLn := hH.len
    have hL := chkA_ok hA
    have hW := orbZ_ok hg hA
    have e1 := orbZ_a g (m0A l) l
    have e2 := orbZ_o g (m0A l) l
    have e3 : orbsR g (m0A l) l = orbsE g (m0A l) l := by rw [← e2]; exact (orbZ_r hg hA).symm
    have hgl := (chkG_ok hg).len
    clear he he' hQ he2 hH
    conv => whnf
    refine ⟨(g, l, m0A l), rfl, ⟨hgl, hL.m, hL.a, hL.len⟩, ?_⟩
    rw [show (fun x : List O × List Atm × Int => LV.rd (orbsR x.1 x.2.2 x.2.1)) (g, l, m0A l) = LV.rd (orbsE g (m0A l) l) from congrArg LV.rd e3]
    clear e3
    conv => whnf
    refine LoopP.weaken (s2 := ⟨[.rd (eOs g), .rd (eAs l), .rd (eVs hs), .unk, .unk, .unk, .unk, .unk, .unk, .rd (orbsE g (m0A l) l), .v (.slice none 0 0), .unk, .unk, .unk, .unk, .unk, .unk, .unk, .unk, .unk, .unk, .unk, .unk, .rd (eVs hs), I ((eVs hs).length : Int), I (0 : Nat), .unk, .unk, .unk, .unk, .unk, .unk, .unk, .unk, .unk, .unk, .unk, .unk, .unk, .unk], []⟩) [] ⟨?_, trivial, List.nodup_nil, rfl⟩ ?_
    · repeat' (first | exact trivial | exact congrArg (fun x => LV.v (Value.int .i64 x)) (wrapS (by omega)) | rfl | ((conv => whnf); refine And.intro ?_ ?_))
    refine loopInd 0 (by kernel_rfl) hs.length (fun i (ws : List Wv) => match ws with
        | [] => ⟨[.rd (eOs g), .rd (eAs l), .rd (eVs hs), .unk, .unk, .unk, .unk, .unk, .unk, .rd (orbsE g (m0A l) l), .v (.slice none 0 0), .unk, .unk, .unk, .unk, .unk, .unk, .unk, .unk, .unk, .unk, .unk, .unk, .rd (eVs hs), I ((eVs hs).length : Int), I (i : Nat), .unk, .unk, .unk, .unk, .unk, .unk, .unk, .unk, .unk, .unk, .unk, .unk, .unk, .unk], []⟩
        | v :: r => ⟨[.rd (eOs g), .rd (eAs l), .rd (eVs hs), .unk, .unk, .unk, .unk, .unk, .unk, .rd (orbsE g (m0A l) l), .sl 0 0 (v :: r).length none, .unk, .unk, .unk, .unk, .unk, .unk, .unk, .unk, .unk, .unk, .unk, .unk, .rd (eVs hs), I ((eVs hs).length : Int), I (i : Nat), .unk, .unk, .unk, .unk, .unk, .unk, .unk, .unk, .unk, .unk, .unk, .unk, .unk, .unk], [.row 4 false (eWs (v :: r))]⟩)
      (fun i ws => ws = (wavL g l hs).take i) ?_ 0 [] (Nat.zero_le _) rfl
    intro i ws hi hT
    rcases Nat.lt_or_ge i hs.length with hlt | hge
    · obtain ⟨h, hh⟩ : ∃ o, hs[i]? = some o := ⟨_, List.getElem?_eq_getElem hlt⟩
      have hcond : decide ((i : Int) < ((eVs hs).length : Int)) = true := by rw [hl]; exact lt_dec hlt
      have hnext : (wavL g l hs).take (i + 1) = ws ++ [(h, wavO g l h)] := by rw [hT]; exact take_snocT (wavL_get hh)
      have htl : ws.length = i := by rw [hT, List.length_take, wavL_len]; omega
      have hwo : wavO g l h = waveF h (m0A l) (orbZ g (m0A l) l) (0, 0) := rfl
      generalize wavO g l h = wo at hnext hwo
      clear hT
      cases ws with
      | nil =>
        conv => whnf
        refine pickB_yes hcond ?_
        conv => whnf
        refine eltK_iff.2 ⟨_, get_vec hh, ?_⟩
        conv => whnf
        refine ⟨(orbZ g (m0A l) l, m0A l, h), ?_, hW, ?_⟩
        · show [LV.rd (eAs l), LV.rd (orbsE g (m0A l) l), LV.agg (eV h)] = [LV.rd (atE1 (orbZ g (m0A l) l)), LV.rd (orE1 (m0A l) (orbZ g (m0A l) l)), LV.agg (eV h)]
          rw [e1, e2]
        conv => whnf
        refine And.intro (Nat.le_refl _) ?_
        conv => whnf
        refine ⟨(by show (1 : Nat) * 40 ≤ 140737488355328; decide), all1 rfl, ?_⟩
        conv => whnf
        refine' ⟨[(h, wo)], [2], hlt, ?jn, ⟨?tn, ?hn, by decide, rfl⟩⟩
        case tn => repeat' (first | exact trivial | exact congrArg (fun x => LV.v (Value.int .i64 x)) (wrapS (by omega)) | rfl | ((conv => whnf); refine And.intro ?_ ?_))
        case hn => rw [hwo]; repeat' (first | exact trivial | rfl | exact fun h => h | ((conv => whnf); refine And.intro ?_ ?_))
        case jn => rw [hnext]; rfl
      | cons v r =>
        conv => whnf
        refine pickB_yes hcond ?_
        conv => whnf
        refine eltK_iff.2 ⟨_, get_vec hh, ?_⟩
        conv => whnf
        refine ⟨(orbZ g (m0A l) l, m0A l, h), ?_, hW, ?_⟩
        · show [LV.rd (eAs l), LV.rd (orbsE g (m0A l) l), LV.agg (eV h)] = [LV.rd (atE1 (orbZ g (m0A l) l)), LV.rd (orE1 (m0A l) (orbZ g (m0A l) l)), LV.agg (eV h)]
          rw [e1, e2]
        conv => whnf
        refine And.intro (Nat.le_refl _) ?_
        conv => whnf
        have hpl2 : (eWs (v :: r)).length = (v :: r).length := eWs_len _
        have hil : (v :: r).length ≤ 4096 := by omega
        refine ⟨rfl, hpl2, ?_, all1 rfl, ?_⟩
        · show ((v :: r).length + 1) * 40 ≤ 140737488355328
          omega
        conv => whnf
        refine' ⟨(v :: r) ++ [(h, wo)], [3], hlt, ?jc, ⟨?tc, ?hc2, by decide, rfl⟩⟩
        case tc => repeat' (first | exact trivial | exact congrArg (fun x => LV.v (Value.int .i64 x)) (wrapS (by omega)) | rfl | (exact (len_snocW (v :: r) (h, wo)).symm) | ((conv => whnf); refine And.intro ?_ ?_))
        case hc2 => rw [hwo]; repeat' (first | exact trivial | rfl | (exact fun h => h) | (exact (eWs_snoc (v :: r) (h, waveF h (m0A l) (orbZ g (m0A l) l) (0, 0))).symm) | ((conv => whnf); refine And.intro ?_ ?_))
        case jc => rw [hnext]
    · have hcond : decide ((i : Int) < ((eVs hs).length : Int)) = false := by rw [hl]; exact ge_dec hge
      have hall : ws = wavL g l hs := by
        rw [hT]
        exact List.take_of_length_le (by rw [wavL_len]; exact hge)
      rw [← hall] at hk
      clear hT hall
      cases ws with
      | nil =>
        conv => whnf
        refine pickB_no hcond ?_
        conv => whnf
        exact hk
      | cons v r =>
        conv => whnf
        refine pickB_no hcond ?_
        conv => whnf
        refine And.intro (by simp [eWs]) ?_
        have e : List.take (v :: r).length (List.drop 0 (eWs (v :: r))) = eWs (v :: r) := by
          rw [List.drop_zero]
          exact List.take_of_length_le (by simp [eWs])
        have hk2 : K (Er (.rd (List.take (v :: r).length (List.drop 0 (eWs (v :: r))))) 0) := by rw [e]; exact hk
        clear hk
        conv => whnf
        exact hk2
noncomputable def eD13 : Ent := entA sD13 espec_fun
end E
end Go.Proofs.YtjhognibibmeiaaGreatDoor
end

section
set_option linter.unusedVariables false
set_option maxRecDepth 100000
set_option maxHeartbeats 8000000
namespace Go.Proofs.YtjhognibibmeiaaGreatDoor
namespace E
open Go Go.RowKit

/-! ### Lists of waves compared -/
theorem eqV_refl (h : V) : eqV h h = true := by unfold eqV; simp
def SD14 : PSpec := espec (fun ws : List Wv => [.rd (eWs ws), .rd (eWs ws)]) (fun ws => ws.length ≤ 4611686018427387904) (fun _ => Bo true)
theorem sD14 : SoundA PR GL 14 SD14 := mkA [eD9] 0 Tryz.func14 (by kernel_rfl) (by kernel_rfl) fun args K hk => by
  obtain ⟨ws, rfl, hlen, hk⟩ := hk
  replace hlen : ws.length ≤ 4611686018427387904 := hlen
  replace hk : K (Bo true) := hk
  have hl : (eWs ws).length = ws.length := eWs_len ws
  conv => whnf
  refine pickB_no (show (((eWs ws).length : Int) != ((eWs ws).length : Int)) = false by simp) ?_
  conv => whnf
  refine LoopP.weaken (s2 := ⟨[.rd (eWs ws), .rd (eWs ws), .unk, .unk, .unk, .unk, .unk, .unk, .unk, .unk, .unk, .unk, I ((eWs ws).length : Int), I (0 : Nat), .unk, .unk, .unk, .unk, .unk, .unk, .unk, .unk, .unk, .unk, .unk, .unk, .unk, .unk, .unk, .unk, .unk, .unk, .unk, .unk, .unk, .unk, .unk, .unk, .unk, .unk, .unk, .unk], []⟩) [] ⟨?_, trivial, List.nodup_nil, rfl⟩ ?_
  · repeat' (first | exact trivial | exact congrArg (fun x => LV.v (Value.int .i64 x)) (wrapS (by omega)) | rfl | ((conv => whnf); refine And.intro ?_ ?_))
  refine loopInd 0 (by kernel_rfl) ws.length (fun i (_ : Unit) => ⟨[.rd (eWs ws), .rd (eWs ws), .unk, .unk, .unk, .unk, .unk, .unk, .unk, .unk, .unk, .unk, I ((eWs ws).length : Int), I (i : Nat), .unk, .unk, .unk, .unk, .unk, .unk, .unk, .unk, .unk, .unk, .unk, .unk, .unk, .unk, .unk, .unk, .unk, .unk, .unk, .unk, .unk, .unk, .unk, .unk, .unk, .unk, .unk, .unk], []⟩) (fun i _ => True) ?_ 0 () (Nat.zero_le _) trivial
  rintro i _ hi _
  rcases Nat.lt_or_ge i ws.length with hlt | hge
  · obtain ⟨⟨h, f⟩, hx⟩ : ∃ o, ws[i]? = some o := ⟨_, List.getElem?_eq_getElem hlt⟩
    have hcond : decide ((i : Int) < ((eWs ws).length : Int)) = true := by rw [hl]; exact lt_dec hlt
    have hwe : (eWs ws)[(i : Int).toNat]? = some (eWv (h, f)) := get_map (f := eWv) hx
    conv => whnf
    refine pickB_yes hcond ?_
    conv => whnf
    refine eltK_iff.2 ⟨_, hwe, ?_⟩
    conv => whnf
    refine eltK_iff.2 ⟨_, hwe, ?_⟩
    conv => whnf
    refine pickB_no (show (!(eqV h h)) = false by rw [eqV_refl]; rfl) ?_
    conv => whnf
    refine eltK_iff.2 ⟨_, hwe, ?_⟩
    conv => whnf
    refine eltK_iff.2 ⟨_, hwe, ?_⟩
    conv => whnf
    refine ⟨f, rfl, trivial, ?_⟩
    conv => whnf
    refine' ⟨(), [], hlt, trivial, ⟨?t, trivial, List.nodup_nil, rfl⟩⟩
    case t => repeat' (first | exact trivial | exact congrArg (fun x => LV.v (Value.int .i64 x)) (wrapS (by omega)) | rfl | ((conv => whnf); refine And.intro ?_ ?_))
  · have hcond : decide ((i : Int) < ((eWs ws).length : Int)) = false := by rw [hl]; exact ge_dec hge
    conv => whnf
    refine pickB_no hcond ?_
    conv => whnf
    exact hk
noncomputable def eD14 : Ent := entA sD14 espec_fun

/-! ### Sums of weights -/
def stepW (g : List O) (m : Int) (s : Int × Int) (a : Atm) : Int × Int :=
  (w (s.1 + w (a.w * ((ptsE m (orbV g m a.p.x)).length : Int))), w (s.2 + w (a.o * ((ptsE m (orbV g m a.p.x)).length : Int))))
def whF (g : List O) (m : Int) (l : List Atm) (s : Int × Int) : Int × Int := l.foldl (stepW g m) s
def err2 (g : List O) (l : List Atm) : Int := least2 (chkG g) (chkA l)
def whA (g : List O) (l : List Atm) : (Int × Int) × Int := bif err2 g l != 0 then ((0, 0), err2 g l) else (whF g (m0A l) l (0, 0), 0)
theorem err2_L (g : List O) (l : List Atm) : errL g l [] = err2 g l := rfl
theorem orbsE_len (g : List O) (m : Int) (l : List Atm) : (orbsE g m l).length = l.length := by simp [orbsE]
def SD15 : PSpec := espec (fun x : List O × List Atm => [.rd (eOs x.1), .rd (eAs x.2)]) (fun x => x.2.length ≤ 4611686018427387904)
  (fun x => .tup [I (whA x.1 x.2).1.1, I (whA x.1 x.2).1.2, I (whA x.1 x.2).2])
theorem sD15 : SoundA PR GL 15 SD15 := mkA [e13, e14, e12b, e16] 0 Tryz.func15 (by kernel_rfl) (by kernel_rfl) fun args K hk => by
  obtain ⟨⟨g, l⟩, rfl, hlen, hk⟩ := hk
  replace hlen : l.length ≤ 4611686018427387904 := hlen
  replace hk : K (.tup [I (whA g l).1.1, I (whA g l).1.2, I (whA g l).2]) := hk
  unfold whA at hk
  have hE := err2_L g l
  conv => whnf
  refine ⟨g, rfl, trivial, ?_⟩
  conv => whnf
  refine ⟨l, rfl, hlen, ?_⟩
  conv => whnf
  refine And.intro (Nat.le_refl _) ?_
  conv => whnf
  refine pickB_of (fun he => ?_) (fun he => ?_)
  · rw [show (err2 g l != 0) = true from he, cond_true] at hk
    conv => whnf
    exact hk
  · have he' : (err2 g l != 0) = false := he
    rw [he', cond_false] at hk
    replace hk : K (.tup [I (whF g (m0A l) l (0, 0)).1, I (whF g (m0A l) l (0, 0)).2, I 0]) := hk
    have he2 : errL g l [] = 0 := by rw [hE]; simpa using he'
    have hH := errL_ok he2
    have hg := hH.g
    have hL := chkA_ok hH.a
    have hol : (orbsE g (m0A l) l).length = l.length := orbsE_len g (m0A l) l
    clear he he' hE he2 hH
    conv => whnf
    refine ⟨(g, l, m0A l), rfl, ⟨hg, hL.m, hL.a, hL.len⟩, ?_⟩
    conv => whnf
    refine LoopP.weaken (s2 := ⟨[.unk, .rd (eAs l), .unk, .unk, .unk, .unk, .unk, .unk, I 0, I 0, .unk, .unk, .unk, .unk, .unk, .unk, .unk, .unk, .unk, .unk, .unk, .unk, .unk, .rd (orbsE g (m0A l) l), I ((orbsE g (m0A l) l).length : Int), I (0 : Nat), .unk, .unk, .unk, .unk, .unk, .unk, .unk, .unk, .unk, .unk, .unk, .unk, .unk, .unk, .unk, .unk, .unk, .unk, .unk, .unk, .unk, .unk, .unk, .unk, .unk, .unk, .unk], []⟩) [] ⟨?_, trivial, List.nodup_nil, rfl⟩ ?_
    · repeat' (first | exact trivial | exact congrArg (fun x => LV.v (Value.int .i64 x)) (wrapS (by omega)) | rfl | ((conv => whnf); refine And.intro ?_ ?_))
    refine loopInd 0 (by kernel_rfl) l.length (fun i (s : Int × Int) => ⟨[.unk, .rd (eAs l), .unk, .unk, .unk, .unk, .unk, .unk, I s.1, I s.2, .unk, .unk, .unk, .unk, .unk, .unk, .unk, .unk, .unk, .unk, .unk, .unk, .unk, .rd (orbsE g (m0A l) l), I ((orbsE g (m0A l) l).length : Int), I (i : Nat), .unk, .unk, .unk, .unk, .unk, .unk, .unk, .unk, .unk, .unk, .unk, .unk, .unk, .unk, .unk, .unk, .unk, .unk, .unk, .unk, .unk, .unk, .unk, .unk, .unk, .unk, .unk], []⟩) (fun i s => whF g (m0A l) (l.drop i) s = whF g (m0A l) l (0, 0)) ?_ 0 (0, 0) (Nat.zero_le _) rfl
    rintro i ⟨s1, s2⟩ hi hJ
    rcases Nat.lt_or_ge i l.length with hlt | hge
    · obtain ⟨a, ha⟩ : ∃ o, l[i]? = some o := ⟨_, List.getElem?_eq_getElem hlt⟩
      have hcond : decide ((i : Int) < ((orbsE g (m0A l) l).length : Int)) = true := by rw [hol]; exact lt_dec hlt
      have hae : (eAs l)[(i : Int).toNat]? = some (eAt a) := get_map (f := eAt) ha
      have hoe : (orbsE g (m0A l) l)[(i : Int).toNat]? = some [.rd (ptsE (m0A l) (orbV g (m0A l) a.p.x))] := get_map (f := fun a : Atm => [LV.rd (ptsE (m0A l) (orbV g (m0A l) a.p.x))]) ha
      rw [drop_get ha] at hJ
      replace hJ : whF g (m0A l) (l.drop (i + 1)) (stepW g (m0A l) (s1, s2) a) = whF g (m0A l) l (0, 0) := hJ
      conv => whnf
      refine pickB_yes hcond ?_
      conv => whnf
      refine eltK_iff.2 ⟨_, hoe, ?_⟩
      conv => whnf
      refine eltK_iff.2 ⟨_, hae, ?_⟩
      conv => whnf
      refine eltK_iff.2 ⟨_, hae, ?_⟩
      conv => whnf
      refine' ⟨stepW g (m0A l) (s1, s2) a, [], hlt, hJ, ⟨?t, trivial, List.nodup_nil, rfl⟩⟩
      case t => repeat' (first | exact trivial | exact congrArg (fun x => LV.v (Value.int .i64 x)) (wrapS (by omega)) | rfl | ((conv => whnf); refine And.intro ?_ ?_))
    · have hcond : decide ((i : Int) < ((orbsE g (m0A l) l).length : Int)) = false := by rw [hol]; exact ge_dec hge
      rw [List.drop_eq_nil_of_le hge] at hJ
      replace hJ : (s1, s2) = whF g (m0A l) l (0, 0) := hJ
      rw [← hJ] at hk
      conv => whnf
      refine pickB_no hcond ?_
      conv => whnf
      exact hk
noncomputable def eD15 : Ent := entA sD15 espec_fun
theorem sD16 : SoundA PR GL 16 SD15 := mkA [eD29, e20] 0 Tryz.func16 (by kernel_rfl) (by kernel_rfl) fun args K hk => by
  obtain ⟨⟨g, l⟩, rfl, hlen, hk⟩ := hk
  replace hlen : l.length ≤ 4611686018427387904 := hlen
  replace hk : K (.tup [I (whA g l).1.1, I (whA g l).1.2, I (whA g l).2]) := hk
  unfold whA at hk
  rw [← err2_L, errL_eq] at hk
  have hE := errL_eq g l []
  conv => whnf
  refine ⟨(g, l, []), rfl, ⟨hlen, Nat.zero_le _⟩, ?_⟩
  conv => whnf
  refine pickB_of (fun he => ?_) (fun he => ?_)
  · rw [show (chkL g l [] != 0) = true from he, cond_true] at hk
    conv => whnf
    exact hk
  · have he' : (chkL g l [] != 0) = false := he
    rw [he', cond_false] at hk
    replace hk : K (.tup [I (whF g (m0A l) l (0, 0)).1, I (whF g (m0A l) l (0, 0)).2, I 0]) := hk
    have he2 : errL g l [] = 0 := by rw [hE]; simpa using he'
    have hH := errL_ok he2
    have hg := hH.g
    have hA := hH.a
    have hL := chkA_ok hA
    have hol : (orbsE g (m0A l) l).length = l.length := orbsE_len g (m0A l) l
    have e2 := orbZ_o g (m0A l) l
    have e3 : orbsR g (m0A l) l = orbsE g (m0A l) l := by rw [← e2]; exact (orbZ_r hg hA).symm
    have hgl := (chkG_ok hg).len
    clear he he' hE he2 hH e2
    conv => whnf
    refine ⟨(g, l, m0A l), rfl, ⟨hgl, hL.m, hL.a, hL.len⟩, ?_⟩
    rw [show (fun x : List O × List Atm × Int => LV.rd (orbsR x.1 x.2.2 x.2.1)) (g, l, m0A l) = LV.rd (orbsE g (m0A l) l) from congrArg LV.rd e3]
    clear e3
    conv => whnf
    refine LoopP.weaken (s2 := ⟨[.unk, .rd (eAs l), .unk, .unk, .unk, .unk, .unk, .unk, I 0, I 0, .unk, .unk, .unk, .unk, .unk, .unk, .unk, .unk, .unk, .unk, .rd (orbsE g (m0A l) l), I ((orbsE g (m0A l) l).length : Int), I (0 : Nat), .unk, .unk, .unk, .unk, .unk, .unk, .unk, .unk, .unk, .unk, .unk, .unk, .unk, .unk, .unk, .unk, .unk, .unk, .unk, .unk, .unk, .unk, .unk, .unk, .unk, .unk, .unk], []⟩) [] ⟨?_, trivial, List.nodup_nil, rfl⟩ ?_
    · repeat' (first | exact trivial | exact congrArg (fun x => LV.v (Value.int .i64 x)) (wrapS (by omega)) | rfl | ((conv => whnf); refine And.intro ?_ ?_))
    refine loopInd 0 (by kernel_rfl) l.length (fun i (s : Int × Int) => ⟨[.unk, .rd (eAs l), .unk, .unk, .unk, .unk, .unk, .unk, I s.1, I s.2, .unk, .unk, .unk, .unk, .unk, .unk, .unk, .unk, .unk, .unk, .rd (orbsE g (m0A l) l), I ((orbsE g (m0A l) l).length : Int), I (i : Nat), .unk, .unk, .unk, .unk, .unk, .unk, .unk, .unk, .unk, .unk, .unk, .unk, .unk, .unk, .unk, .unk, .unk, .unk, .unk, .unk, .unk, .unk, .unk, .unk, .unk, .unk, .unk], []⟩) (fun i s => whF g (m0A l) (l.drop i) s = whF g (m0A l) l (0, 0)) ?_ 0 (0, 0) (Nat.zero_le _) rfl
    rintro i ⟨s1, s2⟩ hi hJ
    rcases Nat.lt_or_ge i l.length with hlt | hge
    · obtain ⟨a, ha⟩ : ∃ o, l[i]? = some o := ⟨_, List.getElem?_eq_getElem hlt⟩
      have hcond : decide ((i : Int) < ((orbsE g (m0A l) l).length : Int)) = true := by rw [hol]; exact lt_dec hlt
      have hae : (eAs l)[(i : Int).toNat]? = some (eAt a) := get_map (f := eAt) ha
      have hoe : (orbsE g (m0A l) l)[(i : Int).toNat]? = some [.rd (ptsE (m0A l) (orbV g (m0A l) a.p.x))] := get_map (f := fun a : Atm => [LV.rd (ptsE (m0A l) (orbV g (m0A l) a.p.x))]) ha
      rw [drop_get ha] at hJ
      replace hJ : whF g (m0A l) (l.drop (i + 1)) (stepW g (m0A l) (s1, s2) a) = whF g (m0A l) l (0, 0) := hJ
      have es : stepW g (m0A l) (s1, s2) a = (w (s1 + w (((ptsE (m0A l) (orbV g (m0A l) a.p.x)).length : Int) * a.w)), w (s2 + w (((ptsE (m0A l) (orbV g (m0A l) a.p.x)).length : Int) * a.o))) := by
        unfold stepW; rw [Int.mul_comm a.w, Int.mul_comm a.o]
      rw [es] at hJ
      clear es
      conv => whnf
      refine pickB_yes hcond ?_
      conv => whnf
      refine eltK_iff.2 ⟨_, hoe, ?_⟩
      conv => whnf
      refine eltK_iff.2 ⟨_, hae, ?_⟩
      conv => whnf
      refine eltK_iff.2 ⟨_, hae, ?_⟩
      conv => whnf
      refine' ⟨_, [], hlt, hJ, ⟨?t, trivial, List.nodup_nil, rfl⟩⟩
      case t => repeat' (first | exact trivial | exact congrArg (fun x => LV.v (Value.int .i64 x)) (wrapS (by omega)) | rfl | ((conv => whnf); refine And.intro ?_ ?_))
    · have hcond : decide ((i : Int) < ((orbsE g (m0A l) l).length : Int)) = false := by rw [hol]; exact ge_dec hge
      rw [List.drop_eq_nil_of_le hge] at hJ
      replace hJ : (s1, s2) = whF g (m0A l) l (0, 0) := hJ
      rw [← hJ] at hk
      conv => whnf
      refine pickB_no hcond ?_
      conv => whnf
      exact hk
noncomputable def eD16 : Ent := entA sD16 espec_fun
end E
end Go.Proofs.YtjhognibibmeiaaGreatDoor
end

section
set_option linter.unusedVariables false
set_option maxRecDepth 100000
set_option maxHeartbeats 8000000
namespace Go.Proofs.YtjhognibibmeiaaGreatDoor
namespace E
open Go Go.RowKit

theorem wavL_good (g : List O) (l : List Atm) (hs : List V) : ∀ x ∈ (allA g l hs).1, wavA g l x.1 = (x.2, 0) := by
  unfold allA
  cases he : errL g l hs != 0 with
  | true => intro x hx; cases hx
  | false =>
    have he2 : errL g l hs = 0 := by simpa using he
    have hH := errL_ok he2
    intro x hx
    obtain ⟨h, hh, rfl⟩ := List.mem_map.1 hx
    show wavA g l h = (wavO g l h, 0)
    unfold wavA
    rw [hH.h h hh]
    rfl
theorem allA_len (g : List O) (l : List Atm) (hs : List V) : (allA g l hs).1.length ≤ hs.length := by
  unfold allA
  cases errL g l hs != 0 with
  | true => exact Nat.zero_le _
  | false => exact Nat.le_of_eq (wavL_len g l hs)
theorem eVs_take (hs : List V) : List.take (20 - 0) (List.drop 0 (eVs hs)) = eVs (hs.take 20) := by
  rw [List.drop_zero]; unfold eVs; rw [List.map_take]
theorem all3 (hs : List V) : ∀ e ∈ eVs hs, e.length = 3 := fun e he => by
  obtain ⟨h, _, rfl⟩ := List.mem_map.1 he; rfl
def SL4 : PSpec := espec (fun x : List O × List Atm × List V => [.rd (eOs x.1), .rd (eAs x.2.1), .rd (eVs x.2.2)]) (fun x => x.2.1.length ≤ 4611686018427387904 ∧ x.2.2.length ≤ 4611686018427387904) (fun _ => Bo true)
theorem sL4 : SoundA PR GL 4 SL4 := mkA [e4, eD7, eD9, eD12, eD13, eD14, eD15, eD16] 0 Tryz.func4 (by kernel_rfl) (by kernel_rfl) fun args K hk => by
  obtain ⟨⟨g, l, hs⟩, rfl, hlens, hk⟩ := hk
  obtain ⟨hlen, hlen2⟩ := hlens
  replace hlen : l.length ≤ 4611686018427387904 := hlen
  replace hlen2 : hs.length ≤ 4611686018427387904 := hlen2
  replace hk : K (Bo true) := hk
  have hv : (eVs hs).length = hs.length := eVs_len hs
  conv => whnf
  refine pickB_of (fun h20 => ?_) (fun h20 => ?_)
  · conv => whnf
    refine pickB_of (fun h4k => ?_) (fun h4k => ?_)
    · have h20' : 20 < hs.length := by
        have : decide (((eVs hs).length : Int) > 20) = true := h20
        rw [hv] at this
        have := of_decide_eq_true this
        omega
      have hlenS : (hs.take 20).length ≤ 4611686018427387904 := by rw [List.length_take]; omega
      have hws : (allA g l (hs.take 20)).1.length ≤ 4611686018427387904 := Nat.le_trans (allA_len _ _ _) hlenS
      have hE := eVs_take hs
      conv => whnf
      refine ⟨.inl rfl, ?_⟩
      conv => whnf
      refine (leB_iff (i := 20) (len := ((eVs hs).length : Int))).2 ⟨by decide, by rw [hv]; omega, ?_⟩
      conv => whnf
      refine ⟨all3 hs, ?_⟩
      conv => whnf
      refine ⟨(g, l, hs.take 20), congrArg (fun x => [LV.rd (eOs g), LV.rd (eAs l), LV.rd x]) hE, ⟨hlen, hlenS⟩, ?_⟩
      conv => whnf
      refine ⟨(g, l, hs.take 20), congrArg (fun x => [LV.rd (eOs g), LV.rd (eAs l), LV.rd x]) hE, ⟨hlen, hlenS⟩, ?_⟩
      conv => whnf
      refine ⟨(allA g l (hs.take 20)).1, rfl, hws, ?_⟩
      conv => whnf
      refine pickB_no (show ((allA g l (hs.take 20)).2 != (allA g l (hs.take 20)).2) = false by simp) ?_
      conv => whnf
      refine LoopP.weaken (s2 := ⟨[.rd (eOs g), .rd (eAs l), .unk, .unk, .unk, .unk, .unk, .unk, .unk, .unk, .unk, .unk, .unk, .unk, .unk, .unk, .unk, .unk, .unk, .unk, .unk, .unk, .unk, .unk, .unk, .unk, .unk, .unk, .unk, .unk, .unk, .unk, .unk, .unk, .unk, .unk, .unk, .unk, .unk, .unk, .unk, .unk, .unk, .unk, .unk, .unk, .unk, .unk, .unk, .unk, .unk, .unk, .unk, .unk, .rd (eWs (allA g l (hs.take 20)).1), I ((eWs (allA g l (hs.take 20)).1).length : Int), I (0 : Nat), .unk, .unk, .unk, .unk, .unk, .unk, .unk, .unk, .unk, .unk, .unk, .unk, .unk, .unk, .unk, .unk, .unk, .unk, .unk, .unk, .unk, .unk, .unk, .unk, .unk, .unk, .unk, .unk, .unk, .unk, .unk, .unk, .unk, .unk, .unk, .unk, .unk, .unk, .unk, .unk, .unk, .unk, .unk, .unk, .unk, .unk, .unk, .unk], []⟩) [] ⟨?_, trivial, List.nodup_nil, rfl⟩ ?_
      · repeat' (first | exact trivial | exact congrArg (fun x => LV.v (Value.int .i64 x)) (wrapS (by omega)) | rfl | ((conv => whnf); refine And.intro ?_ ?_))
      have hwav := wavL_good g l (hs.take 20)
      generalize (allA g l (hs.take 20)).1 = ws at hws hwav
      have hl : (eWs ws).length = ws.length := eWs_len ws
      refine loopInd 0 (by kernel_rfl) ws.length (fun i (_ : Unit) => ⟨[.rd (eOs g), .rd (eAs l), .unk, .unk, .unk, .unk, .unk, .unk, .unk, .unk, .unk, .unk, .unk, .unk, .unk, .unk, .unk, .unk, .unk, .unk, .unk, .unk, .unk, .unk, .unk, .unk, .unk, .unk, .unk, .unk, .unk, .unk, .unk, .unk, .unk, .unk, .unk, .unk, .unk, .unk, .unk, .unk, .unk, .unk, .unk, .unk, .unk, .unk, .unk, .unk, .unk, .unk, .unk, .unk, .rd (eWs ws), I ((eWs ws).length : Int), I (i : Nat), .unk, .unk, .unk, .unk, .unk, .unk, .unk, .unk, .unk, .unk, .unk, .unk, .unk, .unk, .unk, .unk, .unk, .unk, .unk, .unk, .unk, .unk, .unk, .unk, .unk, .unk, .unk, .unk, .unk, .unk, .unk, .unk, .unk, .unk, .unk, .unk, .unk, .unk, .unk, .unk, .unk, .unk, .unk, .unk, .unk, .unk, .unk, .unk], []⟩) (fun i _ => True) ?_ 0 () (Nat.zero_le _) trivial
      rintro i _ hi _
      rcases Nat.lt_or_ge i ws.length with hlt | hge
      · obtain ⟨⟨h, f⟩, hx⟩ : ∃ o, ws[i]? = some o := ⟨_, List.getElem?_eq_getElem hlt⟩
        have hcond : decide ((i : Int) < ((eWs ws).length : Int)) = true := by rw [hl]; exact lt_dec hlt
        have hwe : (eWs ws)[(i : Int).toNat]? = some (eWv (h, f)) := get_map (f := eWv) hx
        have hw : wavA g l h = (f, 0) := hwav (h, f) (List.mem_of_getElem? hx)
        conv => whnf
        refine pickB_yes hcond ?_
        conv => whnf
        refine eltK_iff.2 ⟨_, hwe, ?_⟩
        conv => whnf
        refine ⟨(g, l, h), rfl, hlen, ?_⟩
        rw [show (fun x : List O × List Atm × V => Er (Cp (wavA x.1 x.2.1 x.2.2).1) (wavA x.1 x.2.1 x.2.2).2) (g, l, h) = Er (Cp f) 0 by show Er (Cp (wavA g l h).1) (wavA g l h).2 = _; rw [hw]]
        conv => whnf
        refine ⟨f, rfl, trivial, ?_⟩
        conv => whnf
        refine' ⟨(), [], hlt, trivial, ⟨?t, trivial, List.nodup_nil, rfl⟩⟩
        case t => repeat' (first | exact trivial | exact congrArg (fun x => LV.v (Value.int .i64 x)) (wrapS (by omega)) | rfl | ((conv => whnf); refine And.intro ?_ ?_))
      · have hcond : decide ((i : Int) < ((eWs ws).length : Int)) = false := by rw [hl]; exact ge_dec hge
        conv => whnf
        refine pickB_no hcond ?_
        conv => whnf
        refine ⟨(g, l), rfl, hlen, ?_⟩
        conv => whnf
        refine ⟨(g, l), rfl, hlen, ?_⟩
        conv => whnf
        refine pickB_yes (show ((whA g l).1.1 == (whA g l).1.1) = true by simp) ?_
        conv => whnf
        refine pickB_yes (show ((whA g l).1.2 == (whA g l).1.2) = true by simp) ?_
        conv => whnf
        refine pickB_yes (show ((whA g l).2 == (whA g l).2) = true by simp) ?_
        conv => whnf
        exact hk
    · have hlenS := hlen2
      have hws : (allA g l hs).1.length ≤ 4611686018427387904 := Nat.le_trans (allA_len _ _ _) hlenS
      conv => whnf
      refine ⟨(g, l, hs), rfl, ⟨hlen, hlenS⟩, ?_⟩
      conv => whnf
      refine ⟨(g, l, hs), rfl, ⟨hlen, hlenS⟩, ?_⟩
      conv => whnf
      refine ⟨(allA g l (hs)).1, rfl, hws, ?_⟩
      conv => whnf
      refine pickB_no (show ((allA g l (hs)).2 != (allA g l (hs)).2) = false by simp) ?_
      conv => whnf
      refine LoopP.weaken (s2 := ⟨[.rd (eOs g), .rd (eAs l), .unk, .unk, .unk, .unk, .unk, .unk, .unk, .unk, .unk, .unk, .unk, .unk, .unk, .unk, .unk, .unk, .unk, .unk, .unk, .unk, .unk, .unk, .unk, .unk, .unk, .unk, .unk, .unk, .unk, .unk, .unk, .unk, .unk, .unk, .unk, .unk, .unk, .unk, .unk, .unk, .unk, .unk, .unk, .unk, .unk, .unk, .unk, .unk, .unk, .unk, .unk, .unk, .rd (eWs (allA g l (hs)).1), I ((eWs (allA g l (hs)).1).length : Int), I (0 : Nat), .unk, .unk, .unk, .unk, .unk, .unk, .unk, .unk, .unk, .unk, .unk, .unk, .unk, .unk, .unk, .unk, .unk, .unk, .unk, .unk, .unk, .unk, .unk, .unk, .unk, .unk, .unk, .unk, .unk, .unk, .unk, .unk, .unk, .unk, .unk, .unk, .unk, .unk, .unk, .unk, .unk, .unk, .unk, .unk, .unk, .unk, .unk, .unk], []⟩) [] ⟨?_, trivial, List.nodup_nil, rfl⟩ ?_
      · repeat' (first | exact trivial | exact congrArg (fun x => LV.v (Value.int .i64 x)) (wrapS (by omega)) | rfl | ((conv => whnf); refine And.intro ?_ ?_))
      have hwav := wavL_good g l (hs)
      generalize (allA g l (hs)).1 = ws at hws hwav
      have hl : (eWs ws).length = ws.length := eWs_len ws
      refine loopInd 0 (by kernel_rfl) ws.length (fun i (_ : Unit) => ⟨[.rd (eOs g), .rd (eAs l), .unk, .unk, .unk, .unk, .unk, .unk, .unk, .unk, .unk, .unk, .unk, .unk, .unk, .unk, .unk, .unk, .unk, .unk, .unk, .unk, .unk, .unk, .unk, .unk, .unk, .unk, .unk, .unk, .unk, .unk, .unk, .unk, .unk, .unk, .unk, .unk, .unk, .unk, .unk, .unk, .unk, .unk, .unk, .unk, .unk, .unk, .unk, .unk, .unk, .unk, .unk, .unk, .rd (eWs ws), I ((eWs ws).length : Int), I (i : Nat), .unk, .unk, .unk, .unk, .unk, .unk, .unk, .unk, .unk, .unk, .unk, .unk, .unk, .unk, .unk, .unk, .unk, .unk, .unk, .unk, .unk, .unk, .unk, .unk, .unk, .unk, .unk, .unk, .unk, .unk, .unk, .unk, .unk, .unk, .unk, .unk, .unk, .unk, .unk, .unk, .unk, .unk, .unk, .unk, .unk, .unk, .unk, .unk], []⟩) (fun i _ => True) ?_ 0 () (Nat.zero_le _) trivial
      rintro i _ hi _
      rcases Nat.lt_or_ge i ws.length with hlt | hge
      · obtain ⟨⟨h, f⟩, hx⟩ : ∃ o, ws[i]? = some o := ⟨_, List.getElem?_eq_getElem hlt⟩
        have hcond : decide ((i : Int) < ((eWs ws).length : Int)) = true := by rw [hl]; exact lt_dec hlt
        have hwe : (eWs ws)[(i : Int).toNat]? = some (eWv (h, f)) := get_map (f := eWv) hx
        have hw : wavA g l h = (f, 0) := hwav (h, f) (List.mem_of_getElem? hx)
        conv => whnf
        refine pickB_yes hcond ?_
        conv => whnf
        refine eltK_iff.2 ⟨_, hwe, ?_⟩
        conv => whnf
        refine ⟨(g, l, h), rfl, hlen, ?_⟩
        rw [show (fun x : List O × List Atm × V => Er (Cp (wavA x.1 x.2.1 x.2.2).1) (wavA x.1 x.2.1 x.2.2).2) (g, l, h) = Er (Cp f) 0 by show Er (Cp (wavA g l h).1) (wavA g l h).2 = _; rw [hw]]
        conv => whnf
        refine ⟨f, rfl, trivial, ?_⟩
        conv => whnf
        refine' ⟨(), [], hlt, trivial, ⟨?t, trivial, List.nodup_nil, rfl⟩⟩
        case t => repeat' (first | exact trivial | exact congrArg (fun x => LV.v (Value.int .i64 x)) (wrapS (by omega)) | rfl | ((conv => whnf); refine And.intro ?_ ?_))
      · have hcond : decide ((i : Int) < ((eWs ws).length : Int)) = false := by rw [hl]; exact ge_dec hge
        conv => whnf
        refine pickB_no hcond ?_
        conv => whnf
        refine ⟨(g, l), rfl, hlen, ?_⟩
        conv => whnf
        refine ⟨(g, l), rfl, hlen, ?_⟩
        conv => whnf
        refine pickB_yes (show ((whA g l).1.1 == (whA g l).1.1) = true by simp) ?_
        conv => whnf
        refine pickB_yes (show ((whA g l).1.2 == (whA g l).1.2) = true by simp) ?_
        conv => whnf
        refine pickB_yes (show ((whA g l).2 == (whA g l).2) = true by simp) ?_
        conv => whnf
        exact hk
  · have hlenS := hlen2
    have hws : (allA g l hs).1.length ≤ 4611686018427387904 := Nat.le_trans (allA_len _ _ _) hlenS
    conv => whnf
    refine ⟨(g, l, hs), rfl, ⟨hlen, hlenS⟩, ?_⟩
    conv => whnf
    refine ⟨(g, l, hs), rfl, ⟨hlen, hlenS⟩, ?_⟩
    conv => whnf
    refine ⟨(allA g l (hs)).1, rfl, hws, ?_⟩
    conv => whnf
    refine pickB_no (show ((allA g l (hs)).2 != (allA g l (hs)).2) = false by simp) ?_
    conv => whnf
    refine LoopP.weaken (s2 := ⟨[.rd (eOs g), .rd (eAs l), .unk, .unk, .unk, .unk, .unk, .unk, .unk, .unk, .unk, .unk, .unk, .unk, .unk, .unk, .unk, .unk, .unk, .unk, .unk, .unk, .unk, .unk, .unk, .unk, .unk, .unk, .unk, .unk, .unk, .unk, .unk, .unk, .unk, .unk, .unk, .unk, .unk, .unk, .unk, .unk, .unk, .unk, .unk, .unk, .unk, .unk, .unk, .unk, .unk, .unk, .unk, .unk, .rd (eWs (allA g l (hs)).1), I ((eWs (allA g l (hs)).1).length : Int), I (0 : Nat), .unk, .unk, .unk, .unk, .unk, .unk, .unk, .unk, .unk, .unk, .unk, .unk, .unk, .unk, .unk, .unk, .unk, .unk, .unk, .unk, .unk, .unk, .unk, .unk, .unk, .unk, .unk, .unk, .unk, .unk, .unk, .unk, .unk, .unk, .unk, .unk, .unk, .unk, .unk, .unk, .unk, .unk, .unk, .unk, .unk, .unk, .unk, .unk], []⟩) [] ⟨?_, trivial, List.nodup_nil, rfl⟩ ?_
    · repeat' (first | exact trivial | exact congrArg (fun x => LV.v (Value.int .i64 x)) (wrapS (by omega)) | rfl | ((conv => whnf); refine And.intro ?_ ?_))
    have hwav := wavL_good g l (hs)
    generalize (allA g l (hs)).1 = ws at hws hwav
    have hl : (eWs ws).length = ws.length := eWs_len ws
    refine loopInd 0 (by kernel_rfl) ws.length (fun i (_ : Unit) => ⟨[.rd (eOs g), .rd (eAs l), .unk, .unk, .unk, .unk, .unk, .unk, .unk, .unk, .unk, .unk, .unk, .unk, .unk, .unk, .unk, .unk, .unk, .unk, .unk, .unk, .unk, .unk, .unk, .unk, .unk, .unk, .unk, .unk, .unk, .unk, .unk, .unk, .unk, .unk, .unk, .unk, .unk, .unk, .unk, .unk, .unk, .unk, .unk, .unk, .unk, .unk, .unk, .unk, .unk, .unk, .unk, .unk, .rd (eWs ws), I ((eWs ws).length : Int), I (i : Nat), .unk, .unk, .unk, .unk, .unk, .unk, .unk, .unk, .unk, .unk, .unk, .unk, .unk, .unk, .unk, .unk, .unk, .unk, .unk, .unk, .unk, .unk, .unk, .unk, .unk, .unk, .unk, .unk, .unk, .unk, .unk, .unk, .unk, .unk, .unk, .unk, .unk, .unk, .unk, .unk, .unk, .unk, .unk, .unk, .unk, .unk, .unk, .unk], []⟩) (fun i _ => True) ?_ 0 () (Nat.zero_le _) trivial
    rintro i _ hi _
    rcases Nat.lt_or_ge i ws.length with hlt | hge
    · obtain ⟨⟨h, f⟩, hx⟩ : ∃ o, ws[i]? = some o := ⟨_, List.getElem?_eq_getElem hlt⟩
      have hcond : decide ((i : Int) < ((eWs ws).length : Int)) = true := by rw [hl]; exact lt_dec hlt
      have hwe : (eWs ws)[(i : Int).toNat]? = some (eWv (h, f)) := get_map (f := eWv) hx
      have hw : wavA g l h = (f, 0) := hwav (h, f) (List.mem_of_getElem? hx)
      conv => whnf
      refine pickB_yes hcond ?_
      conv => whnf
      refine eltK_iff.2 ⟨_, hwe, ?_⟩
      conv => whnf
      refine ⟨(g, l, h), rfl, hlen, ?_⟩
      rw [show (fun x : List O × List Atm × V => Er (Cp (wavA x.1 x.2.1 x.2.2).1) (wavA x.1 x.2.1 x.2.2).2) (g, l, h) = Er (Cp f) 0 by show Er (Cp (wavA g l h).1) (wavA g l h).2 = _; rw [hw]]
      conv => whnf
      refine ⟨f, rfl, trivial, ?_⟩
      conv => whnf
      refine' ⟨(), [], hlt, trivial, ⟨?t, trivial, List.nodup_nil, rfl⟩⟩
      case t => repeat' (first | exact trivial | exact congrArg (fun x => LV.v (Value.int .i64 x)) (wrapS (by omega)) | rfl | ((conv => whnf); refine And.intro ?_ ?_))
    · have hcond : decide ((i : Int) < ((eWs ws).length : Int)) = false := by rw [hl]; exact ge_dec hge
      conv => whnf
      refine pickB_no hcond ?_
      conv => whnf
      refine ⟨(g, l), rfl, hlen, ?_⟩
      conv => whnf
      refine ⟨(g, l), rfl, hlen, ?_⟩
      conv => whnf
      refine pickB_yes (show ((whA g l).1.1 == (whA g l).1.1) = true by simp) ?_
      conv => whnf
      refine pickB_yes (show ((whA g l).1.2 == (whA g l).1.2) = true by simp) ?_
      conv => whnf
      refine pickB_yes (show ((whA g l).2 == (whA g l).2) = true by simp) ?_
      conv => whnf
      exact hk
end E
end Go.Proofs.YtjhognibibmeiaaGreatDoor
end
