/-
  MEMORY, first part: All and Exact, their answers new memory.
  MEMORY, second part: the exact wave's answer in one form; rows that the law makes.
  MEMORY, third part: the law of memory.
-/
import Derived.Test.YtjhognibibmeiaaGreatDoorGc
import Derived.Test.YtjhognibibmeiaaGreatDoorEv
section
set_option linter.unusedVariables false
set_option maxRecDepth 100000
set_option maxHeartbeats 8000000
namespace Go.Proofs.YtjhognibibmeiaaGreatDoor
namespace E
open Go Go.RowKit

abbrev nilV : LV := .v (.slice none 0 0)
def avOf (ws : List Wv) (i : Nat) : LV :=
  match ws with
  | [] => nilV
  | _ :: _ => .sl i 0 ws.length none
def abOf (ws : List Wv) : Blk :=
  match ws with
  | [] => .dead
  | _ :: _ => .row 4 false (eWs ws)
def cvOf (c : List Int) (i : Nat) (cap : Option Nat) : LV :=
  match c with
  | [] => nilV
  | _ :: _ => .sl i 0 c.length cap
def cbOf (c : List Int) (ex : Bool) : Blk :=
  match c with
  | [] => .dead
  | _ :: _ => .row 1 ex (eNs c)
theorem subD : SubH [.dead] [] := ⟨Nat.zero_le _, fun i b h => by
  match i, h with
  | 0, h => cases h; exact .inl rfl⟩
theorem subR {sz : Nat} {ex : Bool} {es : List (List LV)} : SubH [.row sz ex es] [.row sz ex es] := ⟨Nat.le_refl _, fun i b h => by
  match i, h with
  | 0, h => cases h; exact .inr ⟨_, _, _, rfl, rfl⟩⟩
theorem subD3 {h : List Blk} (hl : h.length ≤ 3) : SubH [.dead, .dead, .dead] h := ⟨hl, fun i b h => by
  match i, h with
  | 0, h => cases h; exact .inl rfl
  | 1, h => cases h; exact .inl rfl
  | 2, h => cases h; exact .inl rfl⟩
theorem subR3 {b0 b1 : Blk} {sz : Nat} {ex : Bool} {es : List (List LV)} : SubH [.dead, .dead, .row sz ex es] [b0, b1, .row sz ex es] := ⟨Nat.le_refl _, fun i b h => by
  match i, h with
  | 0, h => cases h; exact .inl rfl
  | 1, h => cases h; exact .inl rfl
  | 2, h => cases h; exact .inr ⟨_, _, _, rfl, rfl⟩⟩
theorem exF_end {m : Int} {c : List Int} (hm : 0 < (m / 3).toNat) (hcl : c.length = (m / 3).toNat) {K : LV → List Blk → Prop} {b0 b1 : Blk} (hk : K (.tup [.agg [I m, cvOf c 2 (some c.length)], I 0]) [.dead, .dead, cbOf c true]) :
    ∃ hs, SubH hs [b0, b1, .row 1 true (eNs c)] ∧ K (.tup [.agg [I m, .sl 2 0 (m / 3).toNat (some (m / 3).toNat)], I 0]) hs := by
  cases c with
  | nil => simp at hcl; omega
  | cons x r =>
    rw [← hcl]
    exact ⟨_, subR3, hk⟩

def SF12 : FSpec := fun args K => ∃ x : List O × List Atm × List V, args = [.rd (eOs x.1), .rd (eAs x.2.1), .rd (eVs x.2.2)] ∧ (x.2.1.length ≤ 4611686018427387904 ∧ x.2.2.length ≤ 4611686018427387904) ∧
  K (.tup [avOf (allA x.1 x.2.1 x.2.2).1 0, I (allA x.1 x.2.1 x.2.2).2]) [abOf (allA x.1 x.2.1 x.2.2).1]
theorem sF12 : SoundF PR GL 12 SF12 := mkF [e13, e14, e15, e12b, e16, eD27] 0 Tryz.func12 (by kernel_rfl) (by kernel_rfl) fun args K hk => by
  obtain ⟨⟨g, l, hs⟩, rfl, hlens, hk⟩ := hk
  obtain ⟨hlen, hlen2⟩ := hlens
  replace hlen : l.length ≤ 4611686018427387904 := hlen
  replace hlen2 : hs.length ≤ 4611686018427387904 := hlen2
  replace hk : K (.tup [avOf (allA g l hs).1 0, I (allA g l hs).2]) [abOf (allA g l hs).1] := hk
  have hl : (eVs hs).length = hs.length := eVs_len hs
  have fin : ∀ e1 : Int, e1 = errL g l hs → (e1 ≠ 0 → K (.tup [avOf [] 0, I e1]) [abOf []]) ∧ (e1 = 0 → K (.tup [avOf (wavL g l hs) 0, I 0]) [abOf (wavL g l hs)]) := by
    rintro e1 rfl
    unfold allA at hk
    refine ⟨fun he => ?_, fun he => ?_⟩
    · have : (errL g l hs != 0) = true := by simpa using he
      rw [this] at hk; exact hk
    · rw [he] at hk; exact hk
  clear hk
  have hE : errL g l hs = foldE hs (lenE hs.length (least2 (chkG g) (chkA l))) := rfl
  conv => whnf
  refine ⟨g, rfl, trivial, ?_⟩
  conv => whnf
  refine ⟨l, rfl, hlen, ?_⟩
  conv => whnf
  refine And.intro (Nat.le_refl _) ?_
  conv => whnf
  rw [← hl] at hE
  have key : ∀ e0 : Int, e0 = lenE (eVs hs).length (least2 (chkG g) (chkA l)) → errL g l hs = foldE hs e0 := by
    rintro e0 rfl; exact hE
  clear hE
  refine pickB_of (fun hgt => ?_) (fun hgt => ?_)
  · have hE := key (least2 (least2 (chkG g) (chkA l)) 2) (by unfold lenE; rw [show decide (((eVs hs).length : Int) > 4096) = true from hgt]; rfl)
    conv => whnf
    refine And.intro (Nat.le_refl _) ?_
    clear key
    conv => whnf
    refine LoopP.weaken (s2 := ⟨[.rd (eOs g), .rd (eAs l), .rd (eVs hs), .unk, .unk, .unk, .v (.slice none 0 0), I 0, I (least2 (least2 (chkG g) (chkA l)) 2), .unk, .unk, .unk, .unk, .unk, .unk, .unk, .unk, .unk, .unk, .unk, .unk, .unk, .unk, .unk, .unk, .unk, .unk, .rd (eVs hs), I ((eVs hs).length : Int), I (0 : Nat), .unk, .unk, .unk, .unk, .unk, .unk, .unk, .unk, .unk, .unk, .unk, .unk, .unk, .unk, .unk, .unk, .unk, .unk, .unk, .unk, .unk, .unk, .unk, .unk, .unk, .unk, .unk, .unk, .unk, .unk, .unk, .unk], []⟩) [] ⟨?_, trivial, List.nodup_nil, rfl⟩ ?_
    · repeat' (first | exact trivial | exact congrArg (fun x => LV.v (Value.int .i64 x)) (wrapS (by omega)) | rfl | ((conv => whnf); refine And.intro ?_ ?_))
    generalize least2 (least2 (chkG g) (chkA l)) 2 = e0 at hE
    refine loopInd 0 (by kernel_rfl) hs.length (fun i (e : Int) => ⟨[.rd (eOs g), .rd (eAs l), .rd (eVs hs), .unk, .unk, .unk, .v (.slice none 0 0), I 0, I e, .unk, .unk, .unk, .unk, .unk, .unk, .unk, .unk, .unk, .unk, .unk, .unk, .unk, .unk, .unk, .unk, .unk, .unk, .rd (eVs hs), I ((eVs hs).length : Int), I (i : Nat), .unk, .unk, .unk, .unk, .unk, .unk, .unk, .unk, .unk, .unk, .unk, .unk, .unk, .unk, .unk, .unk, .unk, .unk, .unk, .unk, .unk, .unk, .unk, .unk, .unk, .unk, .unk, .unk, .unk, .unk, .unk, .unk], []⟩) (fun i e => foldE (hs.drop i) e = errL g l hs) ?_ 0 e0 (Nat.zero_le _) hE.symm
    clear hE
    rintro i e hi hJ
    rcases Nat.lt_or_ge i hs.length with hlt | hge
    · obtain ⟨h, hh⟩ : ∃ o, hs[i]? = some o := ⟨_, List.getElem?_eq_getElem hlt⟩
      have hcond : decide ((i : Int) < ((eVs hs).length : Int)) = true := by rw [hl]; exact lt_dec hlt
      rw [foldE_drop hh] at hJ
      conv => whnf
      refine pickB_yes hcond ?_
      conv => whnf
      refine eltK_iff.2 ⟨_, get_vec hh, ?_⟩
      conv => whnf
      refine pickB_of (fun hb => ?_) (fun hb => ?_)
      · rw [show idxV h = 1 by unfold idxV; rw [show bad3 h 512 = true from hb]; rfl] at hJ
        conv => whnf
        refine And.intro (Nat.le_refl _) ?_
        conv => whnf
        refine' ⟨least2 e 1, [], hlt, hJ, ⟨?t1, trivial, List.nodup_nil, rfl⟩⟩
        case t1 => repeat' (first | exact trivial | exact congrArg (fun x => LV.v (Value.int .i64 x)) (wrapS (by omega)) | rfl | ((conv => whnf); refine And.intro ?_ ?_))
      · rw [show idxV h = 0 by unfold idxV; rw [show bad3 h 512 = false from hb]; rfl] at hJ
        conv => whnf
        refine And.intro (Nat.le_refl _) ?_
        conv => whnf
        refine' ⟨least2 e 0, [], hlt, hJ, ⟨?t2, trivial, List.nodup_nil, rfl⟩⟩
        case t2 => repeat' (first | exact trivial | exact congrArg (fun x => LV.v (Value.int .i64 x)) (wrapS (by omega)) | rfl | ((conv => whnf); refine And.intro ?_ ?_))
    · have hcond : decide ((i : Int) < ((eVs hs).length : Int)) = false := by rw [hl]; exact ge_dec hge
      rw [List.drop_eq_nil_of_le hge] at hJ
      replace hJ : e = errL g l hs := hJ
      obtain ⟨hk1, hk2⟩ := fin e hJ
      clear fin
      conv => whnf
      refine pickB_no hcond ?_
      conv => whnf
      refine pickB_of (fun he => ?_) (fun he => ?_)
      · have he' : e ≠ 0 := by have : (e != 0) = true := he; simpa using this
        have hk := hk1 he'
        conv => whnf
        exact ⟨[.dead], subD, hk⟩
      · have he' : e = 0 := by have : (e != 0) = false := he; simpa using this
        have hk := hk2 he'
        rw [he'] at hJ
        have hH := errL_ok hJ.symm
        have hg := hH.g
        have hA := hH.a
        have hLn := hH.len
        have hL := chkA_ok hA
        have hW := orbZ_ok hg hA
        have e1 := orbZ_a g (m0A l) l
        have e2 := orbZ_o g (m0A l) l
        clear he hk1 hk2 hH hJ he' hcond hge hi
        conv => whnf
        refine ⟨(g, l, m0A l), rfl, ⟨hg, hL.m, hL.a, hL.len⟩, ?_⟩
        conv => whnf
        refine LoopP.weaken (s2 := ⟨[.rd (eOs g), .rd (eAs l), .rd (eVs hs), .unk, .unk, .unk, .unk, .unk, .unk, .unk, .unk, .rd (orbsE g (m0A l) l), .v (.slice none 0 0), .unk, .unk, .unk, .unk, .unk, .unk, .unk, .unk, .unk, .unk, .unk, .unk, .unk, .unk, .unk, .unk, .unk, .unk, .unk, .unk, .unk, .unk, .unk, .unk, .unk, .unk, .unk, .unk, .unk, .unk, .unk, .unk, .rd (eVs hs), I ((eVs hs).length : Int), I (0 : Nat), .unk, .unk, .unk, .unk, .unk, .unk, .unk, .unk, .unk, .unk, .unk, .unk, .unk, .unk], []⟩) [] ⟨?_, trivial, List.nodup_nil, rfl⟩ ?_
        · repeat' (first | exact trivial | exact congrArg (fun x => LV.v (Value.int .i64 x)) (wrapS (by omega)) | rfl | ((conv => whnf); refine And.intro ?_ ?_))
        refine loopInd 0 (by kernel_rfl) hs.length (fun i (ws : List Wv) => match ws with
            | [] => ⟨[.rd (eOs g), .rd (eAs l), .rd (eVs hs), .unk, .unk, .unk, .unk, .unk, .unk, .unk, .unk, .rd (orbsE g (m0A l) l), .v (.slice none 0 0), .unk, .unk, .unk, .unk, .unk, .unk, .unk, .unk, .unk, .unk, .unk, .unk, .unk, .unk, .unk, .unk, .unk, .unk, .unk, .unk, .unk, .unk, .unk, .unk, .unk, .unk, .unk, .unk, .unk, .unk, .unk, .unk, .rd (eVs hs), I ((eVs hs).length : Int), I (i : Nat), .unk, .unk, .unk, .unk, .unk, .unk, .unk, .unk, .unk, .unk, .unk, .unk, .unk, .unk], []⟩
            | v :: r => ⟨[.rd (eOs g), .rd (eAs l), .rd (eVs hs), .unk, .unk, .unk, .unk, .unk, .unk, .unk, .unk, .rd (orbsE g (m0A l) l), .sl 0 0 (v :: r).length none, .unk, .unk, .unk, .unk, .unk, .unk, .unk, .unk, .unk, .unk, .unk, .unk, .unk, .unk, .unk, .unk, .unk, .unk, .unk, .unk, .unk, .unk, .unk, .unk, .unk, .unk, .unk, .unk, .unk, .unk, .unk, .unk, .rd (eVs hs), I ((eVs hs).length : Int), I (i : Nat), .unk, .unk, .unk, .unk, .unk, .unk, .unk, .unk, .unk, .unk, .unk, .unk, .unk, .unk], [.row 4 false (eWs (v :: r))]⟩)
          (fun i ws => ws = (wavL g l hs).take i) ?_ 0 [] (Nat.zero_le _) rfl
        intro i ws hi hT
        rcases Nat.lt_or_ge i hs.length with hlt | hge
        · obtain ⟨h, hh⟩ : ∃ o, hs[i]? = some o := ⟨_, List.getElem?_eq_getElem hlt⟩
          have hcond : decide ((i : Int) < ((eVs hs).length : Int)) = true := by rw [hl]; exact lt_dec hlt
          have hnext : (wavL g l hs).take (i + 1) = ws ++ [(h, wavO g l h)] := by rw [hT]; exact take_snocT (wavL_get hh)
          have htl : ws.length = i := by rw [hT, List.length_take, wavL_len]; omega
          have hwo : wavO g l h = waveF h (m0A l) (orbZ g (m0A l) l) (0, 0) := rfl
          generalize wavO g l h = wo at hnext hwo
          clear hT
          cases ws with
          | nil =>
            conv => whnf
            refine pickB_yes hcond ?_
            conv => whnf
            refine eltK_iff.2 ⟨_, get_vec hh, ?_⟩
            conv => whnf
            refine ⟨(orbZ g (m0A l) l, m0A l, h), ?_, hW, ?_⟩
            · show [LV.rd (eAs l), LV.rd (orbsE g (m0A l) l), LV.agg (eV h)] = [LV.rd (atE1 (orbZ g (m0A l) l)), LV.rd (orE1 (m0A l) (orbZ g (m0A l) l)), LV.agg (eV h)]
              rw [e1, e2]
            conv => whnf
            refine And.intro (Nat.le_refl _) ?_
            conv => whnf
            refine ⟨(by show (1 : Nat) * 40 ≤ 140737488355328; decide), all1 rfl, ?_⟩
            conv => whnf
            refine' ⟨[(h, wo)], [2], hlt, ?jn, ⟨?tn, ?hn, by decide, rfl⟩⟩
            case tn => repeat' (first | exact trivial | exact congrArg (fun x => LV.v (Value.int .i64 x)) (wrapS (by omega)) | rfl | ((conv => whnf); refine And.intro ?_ ?_))
            case hn => rw [hwo]; repeat' (first | exact trivial | rfl | exact fun h => h | ((conv => whnf); refine And.intro ?_ ?_))
            case jn => rw [hnext]; rfl
          | cons v r =>
            conv => whnf
            refine pickB_yes hcond ?_
            conv => whnf
            refine eltK_iff.2 ⟨_, get_vec hh, ?_⟩
            conv => whnf
            refine ⟨(orbZ g (m0A l) l, m0A l, h), ?_, hW, ?_⟩
            · show [LV.rd (eAs l), LV.rd (orbsE g (m0A l) l), LV.agg (eV h)] = [LV.rd (atE1 (orbZ g (m0A l) l)), LV.rd (orE1 (m0A l) (orbZ g (m0A l) l)), LV.agg (eV h)]
              rw [e1, e2]
            conv => whnf
            refine And.intro (Nat.le_refl _) ?_
            conv => whnf
            have hpl2 : (eWs (v :: r)).length = (v :: r).length := eWs_len _
            have hil : (v :: r).length ≤ 4096 := by omega
            refine ⟨rfl, hpl2, ?_, all1 rfl, ?_⟩
            · show ((v :: r).length + 1) * 40 ≤ 140737488355328
              omega
            conv => whnf
            refine' ⟨(v :: r) ++ [(h, wo)], [3], hlt, ?jc, ⟨?tc, ?hc2, by decide, rfl⟩⟩
            case tc => repeat' (first | exact trivial | exact congrArg (fun x => LV.v (Value.int .i64 x)) (wrapS (by omega)) | rfl | (exact (len_snocW (v :: r) (h, wo)).symm) | ((conv => whnf); refine And.intro ?_ ?_))
            case hc2 => rw [hwo]; repeat' (first | exact trivial | rfl | (exact fun h => h) | (exact (eWs_snoc (v :: r) (h, waveF h (m0A l) (orbZ g (m0A l) l) (0, 0))).symm) | ((conv => whnf); refine And.intro ?_ ?_))
            case jc => rw [hnext]
        · have hcond : decide ((i : Int) < ((eVs hs).length : Int)) = false := by rw [hl]; exact ge_dec hge
          have hall : ws = wavL g l hs := by
            rw [hT]
            exact List.take_of_length_le (by rw [wavL_len]; exact hge)
          rw [← hall] at hk
          clear hT hall
          cases ws with
          | nil =>
            conv => whnf
            refine pickB_no hcond ?_
            conv => whnf
            exact ⟨[.dead], subD, hk⟩
          | cons v r =>
            conv => whnf
            refine pickB_no hcond ?_
            conv => whnf
            exact ⟨[.row 4 false (eWs (v :: r))], subR, hk⟩
  · have hE := key (least2 (chkG g) (chkA l)) (by unfold lenE; rw [show decide (((eVs hs).length : Int) > 4096) = false from hgt]; rfl)
    clear key
    conv => whnf
    refine LoopP.weaken (s2 := ⟨[.rd (eOs g), .rd (eAs l), .rd (eVs hs), .unk, .unk, .unk, .v (.slice none 0 0), I 0, I (least2 (chkG g) (chkA l)), .unk, .unk, .unk, .unk, .unk, .unk, .unk, .unk, .unk, .unk, .unk, .unk, .unk, .unk, .unk, .unk, .unk, .unk, .rd (eVs hs), I ((eVs hs).length : Int), I (0 : Nat), .unk, .unk, .unk, .unk, .unk, .unk, .unk, .unk, .unk, .unk, .unk, .unk, .unk, .unk, .unk, .unk, .unk, .unk, .unk, .unk, .unk, .unk, .unk, .unk, .unk, .unk, .unk, .unk, .unk, .unk, .unk, .unk], []⟩) [] ⟨?_, trivial, List.nodup_nil, rfl⟩ ?_
    · repeat' (first | exact trivial | exact congrArg (fun x => LV.v (Value.int .i64 x)) (wrapS (by omega)) | rfl | ((conv => whnf); refine And.intro ?_ ?_))
    generalize least2 (chkG g) (chkA l) = e0 at hE
    refine loopInd 0 (by kernel_rfl) hs.length (fun i (e : Int) => ⟨[.rd (eOs g), .rd (eAs l), .rd (eVs hs), .unk, .unk, .unk, .v (.slice none 0 0), I 0, I e, .unk, .unk, .unk, .unk, .unk, .unk, .unk, .unk, .unk, .unk, .unk, .unk, .unk, .unk, .unk, .unk, .unk, .unk, .rd (eVs hs), I ((eVs hs).length : Int), I (i : Nat), .unk, .unk, .unk, .unk, .unk, .unk, .unk, .unk, .unk, .unk, .unk, .unk, .unk, .unk, .unk, .unk, .unk, .unk, .unk, .unk, .unk, .unk, .unk, .unk, .unk, .unk, .unk, .unk, .unk, .unk, .unk, .unk], []⟩) (fun i e => foldE (hs.drop i) e = errL g l hs) ?_ 0 e0 (Nat.zero_le _) hE.symm
    clear hE
    rintro i e hi hJ
    rcases Nat.lt_or_ge i hs.length with hlt | hge
    · obtain ⟨h, hh⟩ : ∃ o, hs[i]? = some o := ⟨_, List.getElem?_eq_getElem hlt⟩
      have hcond : decide ((i : Int) < ((eVs hs).length : Int)) = true := by rw [hl]; exact lt_dec hlt
      rw [foldE_drop hh] at hJ
      conv => whnf
      refine pickB_yes hcond ?_
      conv => whnf
      refine eltK_iff.2 ⟨_, get_vec hh, ?_⟩
      conv => whnf
      refine pickB_of (fun hb => ?_) (fun hb => ?_)
      · rw [show idxV h = 1 by unfold idxV; rw [show bad3 h 512 = true from hb]; rfl] at hJ
        conv => whnf
        refine And.intro (Nat.le_refl _) ?_
        conv => whnf
        refine' ⟨least2 e 1, [], hlt, hJ, ⟨?t1, trivial, List.nodup_nil, rfl⟩⟩
        case t1 => repeat' (first | exact trivial | exact congrArg (fun x => LV.v (Value.int .i64 x)) (wrapS (by omega)) | rfl | ((conv => whnf); refine And.intro ?_ ?_))
      · rw [show idxV h = 0 by unfold idxV; rw [show bad3 h 512 = false from hb]; rfl] at hJ
        conv => whnf
        refine And.intro (Nat.le_refl _) ?_
        conv => whnf
        refine' ⟨least2 e 0, [], hlt, hJ, ⟨?t2, trivial, List.nodup_nil, rfl⟩⟩
        case t2 => repeat' (first | exact trivial | exact congrArg (fun x => LV.v (Value.int .i64 x)) (wrapS (by omega)) | rfl | ((conv => whnf); refine And.intro ?_ ?_))
    · have hcond : decide ((i : Int) < ((eVs hs).length : Int)) = false := by rw [hl]; exact ge_dec hge
      rw [List.drop_eq_nil_of_le hge] at hJ
      replace hJ : e = errL g l hs := hJ
      obtain ⟨hk1, hk2⟩ := fin e hJ
      clear fin
      conv => whnf
      refine pickB_no hcond ?_
      conv => whnf
      refine pickB_of (fun he => ?_) (fun he => ?_)
      · have he' : e ≠ 0 := by have : (e != 0) = true := he; simpa using this
        have hk := hk1 he'
        conv => whnf
        exact ⟨[.dead], subD, hk⟩
      · have he' : e = 0 := by have : (e != 0) = false := he; simpa using this
        have hk := hk2 he'
        rw [he'] at hJ
        have hH := errL_ok hJ.symm
        have hg := hH.g
        have hA := hH.a
        have hLn := hH.len
        have hL := chkA_ok hA
        have hW := orbZ_ok hg hA
        have e1 := orbZ_a g (m0A l) l
        have e2 := orbZ_o g (m0A l) l
        clear he hk1 hk2 hH hJ he' hcond hge hi
        conv => whnf
        refine ⟨(g, l, m0A l), rfl, ⟨hg, hL.m, hL.a, hL.len⟩, ?_⟩
        conv => whnf
        refine LoopP.weaken (s2 := ⟨[.rd (eOs g), .rd (eAs l), .rd (eVs hs), .unk, .unk, .unk, .unk, .unk, .unk, .unk, .unk, .rd (orbsE g (m0A l) l), .v (.slice none 0 0), .unk, .unk, .unk, .unk, .unk, .unk, .unk, .unk, .unk, .unk, .unk, .unk, .unk, .unk, .unk, .unk, .unk, .unk, .unk, .unk, .unk, .unk, .unk, .unk, .unk, .unk, .unk, .unk, .unk, .unk, .unk, .unk, .rd (eVs hs), I ((eVs hs).length : Int), I (0 : Nat), .unk, .unk, .unk, .unk, .unk, .unk, .unk, .unk, .unk, .unk, .unk, .unk, .unk, .unk], []⟩) [] ⟨?_, trivial, List.nodup_nil, rfl⟩ ?_
        · repeat' (first | exact trivial | exact congrArg (fun x => LV.v (Value.int .i64 x)) (wrapS (by omega)) | rfl | ((conv => whnf); refine And.intro ?_ ?_))
        refine loopInd 0 (by kernel_rfl) hs.length (fun i (ws : List Wv) => match ws with
            | [] => ⟨[.rd (eOs g), .rd (eAs l), .rd (eVs hs), .unk, .unk, .unk, .unk, .unk, .unk, .unk, .unk, .rd (orbsE g (m0A l) l), .v (.slice none 0 0), .unk, .unk, .unk, .unk, .unk, .unk, .unk, .unk, .unk, .unk, .unk, .unk, .unk, .unk, .unk, .unk, .unk, .unk, .unk, .unk, .unk, .unk, .unk, .unk, .unk, .unk, .unk, .unk, .unk, .unk, .unk, .unk, .rd (eVs hs), I ((eVs hs).length : Int), I (i : Nat), .unk, .unk, .unk, .unk, .unk, .unk, .unk, .unk, .unk, .unk, .unk, .unk, .unk, .unk], []⟩
            | v :: r => ⟨[.rd (eOs g), .rd (eAs l), .rd (eVs hs), .unk, .unk, .unk, .unk, .unk, .unk, .unk, .unk, .rd (orbsE g (m0A l) l), .sl 0 0 (v :: r).length none, .unk, .unk, .unk, .unk, .unk, .unk, .unk, .unk, .unk, .unk, .unk, .unk, .unk, .unk, .unk, .unk, .unk, .unk, .unk, .unk, .unk, .unk, .unk, .unk, .unk, .unk, .unk, .unk, .unk, .unk, .unk, .unk, .rd (eVs hs), I ((eVs hs).length : Int), I (i : Nat), .unk, .unk, .unk, .unk, .unk, .unk, .unk, .unk, .unk, .unk, .unk, .unk, .unk, .unk], [.row 4 false (eWs (v :: r))]⟩)
          (fun i ws => ws = (wavL g l hs).take i) ?_ 0 [] (Nat.zero_le _) rfl
        intro i ws hi hT
        rcases Nat.lt_or_ge i hs.length with hlt | hge
        · obtain ⟨h, hh⟩ : ∃ o, hs[i]? = some o := ⟨_, List.getElem?_eq_getElem hlt⟩
          have hcond : decide ((i : Int) < ((eVs hs).length : Int)) = true := by rw [hl]; exact lt_dec hlt
          have hnext : (wavL g l hs).take (i + 1) = ws ++ [(h, wavO g l h)] := by rw [hT]; exact take_snocT (wavL_get hh)
          have htl : ws.length = i := by rw [hT, List.length_take, wavL_len]; omega
          have hwo : wavO g l h = waveF h (m0A l) (orbZ g (m0A l) l) (0, 0) := rfl
          generalize wavO g l h = wo at hnext hwo
          clear hT
          cases ws with
          | nil =>
            conv => whnf
            refine pickB_yes hcond ?_
            conv => whnf
            refine eltK_iff.2 ⟨_, get_vec hh, ?_⟩
            conv => whnf
            refine ⟨(orbZ g (m0A l) l, m0A l, h), ?_, hW, ?_⟩
            · show [LV.rd (eAs l), LV.rd (orbsE g (m0A l) l), LV.agg (eV h)] = [LV.rd (atE1 (orbZ g (m0A l) l)), LV.rd (orE1 (m0A l) (orbZ g (m0A l) l)), LV.agg (eV h)]
              rw [e1, e2]
            conv => whnf
            refine And.intro (Nat.le_refl _) ?_
            conv => whnf
            refine ⟨(by show (1 : Nat) * 40 ≤ 140737488355328; decide), all1 rfl, ?_⟩
            conv => whnf
            refine' ⟨[(h, wo)], [2], hlt, ?jn, ⟨?tn, ?hn, by decide, rfl⟩⟩
            case tn => repeat' (first | exact trivial | exact congrArg (fun x => LV.v (Value.int .i64 x)) (wrapS (by omega)) | rfl | ((conv => whnf); refine And.intro ?_ ?_))
            case hn => rw [hwo]; repeat' (first | exact trivial | rfl | exact fun h => h | ((conv => whnf); refine And.intro ?_ ?_))
            case jn => rw [hnext]; rfl
          | cons v r =>
            conv => whnf
            refine pickB_yes hcond ?_
            conv => whnf
            refine eltK_iff.2 ⟨_, get_vec hh, ?_⟩
            conv => whnf
            refine ⟨(orbZ g (m0A l) l, m0A l, h), ?_, hW, ?_⟩
            · show [LV.rd (eAs l), LV.rd (orbsE g (m0A l) l), LV.agg (eV h)] = [LV.rd (atE1 (orbZ g (m0A l) l)), LV.rd (orE1 (m0A l) (orbZ g (m0A l) l)), LV.agg (eV h)]
              rw [e1, e2]
            conv => whnf
            refine And.intro (Nat.le_refl _) ?_
            conv => whnf
            have hpl2 : (eWs (v :: r)).length = (v :: r).length := eWs_len _
            have hil : (v :: r).length ≤ 4096 := by omega
            refine ⟨rfl, hpl2, ?_, all1 rfl, ?_⟩
            · show ((v :: r).length + 1) * 40 ≤ 140737488355328
              omega
            conv => whnf
            refine' ⟨(v :: r) ++ [(h, wo)], [3], hlt, ?jc, ⟨?tc, ?hc2, by decide, rfl⟩⟩
            case tc => repeat' (first | exact trivial | exact congrArg (fun x => LV.v (Value.int .i64 x)) (wrapS (by omega)) | rfl | (exact (len_snocW (v :: r) (h, wo)).symm) | ((conv => whnf); refine And.intro ?_ ?_))
            case hc2 => rw [hwo]; repeat' (first | exact trivial | rfl | (exact fun h => h) | (exact (eWs_snoc (v :: r) (h, waveF h (m0A l) (orbZ g (m0A l) l) (0, 0))).symm) | ((conv => whnf); refine And.intro ?_ ?_))
            case jc => rw [hnext]
        · have hcond : decide ((i : Int) < ((eVs hs).length : Int)) = false := by rw [hl]; exact ge_dec hge
          have hall : ws = wavL g l hs := by
            rw [hT]
            exact List.take_of_length_le (by rw [wavL_len]; exact hge)
          rw [← hall] at hk
          clear hT hall
          cases ws with
          | nil =>
            conv => whnf
            refine pickB_no hcond ?_
            conv => whnf
            exact ⟨[.dead], subD, hk⟩
          | cons v r =>
            conv => whnf
            refine pickB_no hcond ?_
            conv => whnf
            exact ⟨[.row 4 false (eWs (v :: r))], subR, hk⟩
noncomputable def eF12 : Ent := entF sF12

def SF18 : FSpec := fun args K => ∃ x : List O × List Atm × V, args = [.rd (eOs x.1), .rd (eAs x.2.1), .agg (eV x.2.2)] ∧ x.2.1.length ≤ 4611686018427387904 ∧
  bif errX x.1 x.2.1 x.2.2 != 0 then K (.tup [.agg [I 0, nilV], I (errX x.1 x.2.1 x.2.2)]) [.dead, .dead, .dead]
  else K (.tup [.agg [I (m0A x.2.1), cvOf (exC x.1 (m0A x.2.1) x.2.2 x.2.1) 2 (some (exC x.1 (m0A x.2.1) x.2.2 x.2.1).length)], I 0]) [.dead, .dead, cbOf (exC x.1 (m0A x.2.1) x.2.2 x.2.1) true]
theorem sF18 : SoundF PR GL 18 SF18 := mkF [e13, e14, e15, e12c, e16, e17, e18] 0 Tryz.func18 (by kernel_rfl) (by kernel_rfl) fun args K hk => by
  obtain ⟨⟨g, l, h⟩, rfl, hlen, hk⟩ := hk
  replace hlen : l.length ≤ 4611686018427387904 := hlen
  have hl : (eAs l).length = l.length := by simp [eAs]
  replace hk : bif errX g l h != 0 then K (.tup [.agg [I 0, nilV], I (errX g l h)]) [.dead, .dead, .dead] else K (.tup [.agg [I (m0A l), cvOf (exC g (m0A l) h l) 2 (some (exC g (m0A l) h l).length)], I 0]) [.dead, .dead, cbOf (exC g (m0A l) h l) true] := hk
  conv => whnf
  refine ⟨g, rfl, trivial, ?_⟩
  conv => whnf
  refine ⟨l, rfl, hlen, ?_⟩
  conv => whnf
  refine pickB_of (fun hb => ?_) (fun hb => ?_)
  · have hix : idxV h = 1 := by unfold idxV; rw [hb]; rfl
    conv => whnf
    refine And.intro (Nat.le_refl _) ?_
    conv => whnf
    refine pickB_of (fun he => ?_) (fun he => ?_)
    · have he' : (errX g l h != 0) = true := by unfold errX; rw [hix]; exact he
      rw [he', cond_true, errX, hix] at hk
      conv => whnf
      exact ⟨_, subD3 (by simp), hk⟩
    · exfalso
      have he' : least3 (chkG g) (chkA l) 1 = 0 := by
        have : (least3 (chkG g) (chkA l) 1 != 0) = false := he
        simpa using this
      cases (least3_zero he').2.2
  · have hix : idxV h = 0 := by unfold idxV; rw [hb]; rfl
    conv => whnf
    refine And.intro (Nat.le_refl _) ?_
    conv => whnf
    refine pickB_of (fun he => ?_) (fun he => ?_)
    · have he' : (errX g l h != 0) = true := by unfold errX; rw [hix]; exact he
      rw [he', cond_true, errX, hix] at hk
      conv => whnf
      exact ⟨_, subD3 (by simp), hk⟩
    · have he' : (errX g l h != 0) = false := by unfold errX; rw [hix]; exact he
      rw [he', cond_false] at hk
      have he2 : errX g l h = 0 := by simpa using he'
      obtain ⟨hg, hA, _⟩ := least3_zero he2
      obtain ⟨hlen, hla, h4⟩ := chkA_ok hA
      clear he he' he2 hA hb hix
      conv => whnf
      refine pickB_of (fun h0 => ?_) (fun h0 => ?_)
      · obtain ⟨b, r, hbr⟩ : ∃ b r, l = b :: r := by
          cases l with
          | nil => cases h0
          | cons b r => exact ⟨b, r, rfl⟩
        have hbm : m0A l = b.p.m := by rw [hbr]; rfl
        generalize hm : m0A l = m at hk hla h4 hbm
        have hb0 : (eAs l)[(0 : Int).toNat]? = some (eAt ⟨⟨m, b.p.x⟩, b.w, b.o⟩) := by
          rw [hbr, hbm]; rfl
        clear h0
        conv => whnf
        refine eltK_iff.2 ⟨_, hb0, ?_⟩
        clear hb0
        obtain ⟨qa, qb, qc, qd, qe, qf, qg, qh⟩ := h4.qs
        have hp := h4.pos
        have qb' : IntKind.i64.wrap (Int.tdiv m 3) = m / 3 := qb
        have qd' : IntKind.i64.wrap (Int.tdiv m 4) = m / 4 := qd
        conv => whnf
        refine leB_iff.2 ⟨by rw [qb']; omega, by first | exact Int.le_refl _ | omega, ?_⟩
        conv => whnf
        refine ⟨by show _ * (8 : Int) ≤ _; rw [qb']; omega, by rw [qb']; omega, ?_⟩
        conv => whnf
        refine ⟨(g, l, m), rfl, ⟨hg, h4, hla, hlen⟩, ?_⟩
        have hol : (orbsE g m l).length = l.length := by simp [orbsE]
        conv => whnf
        refine LoopP.weaken (s2 := ⟨[.unk, .rd (eAs l), .unk, .unk, .unk, .ptr 0 0 0, .ptr 1 0 0, I 0, .unk, I m, .sl 2 0 (m / 3).toNat (some (m / 3).toNat), .unk, .unk, .unk, .unk, .unk, .unk, .unk, .unk, .unk, .unk, .unk, .unk, .unk, .unk, .unk, .unk, .unk, .unk, .unk, .unk, .unk, .unk, .unk, .unk, .unk, .unk, .unk, .unk, .unk, .unk, .rd (orbsE g m l), I ((orbsE g m l).length : Int), I (0 : Nat), .unk, .unk, .unk, .unk, .unk, .unk, .unk, .unk, .unk, .unk, .unk, .unk, .unk, .unk, .unk, .unk, .unk, .unk, .unk, .unk, .unk, .unk, .unk, .unk, .unk, .unk, .unk, .unk, .unk, .unk, .unk, .unk, .unk, .unk, .unk, .unk, .unk, .unk, .unk], [.box (eV h), .box [I 0, .v (.slice none 0 0)], .row 1 true (eNs (List.replicate (m / 3).toNat 0))]⟩) [0, 1, 3] ⟨?_, ?_, by decide, rfl⟩ ?_
        · repeat' (first | exact trivial | rfl | exact congrArg Int.toNat qb' | exact congrArg (fun x => some (Int.toNat x)) qb' | ((conv => whnf); refine And.intro ?_ ?_))
        · repeat' (first | exact trivial | rfl | exact fun h => h | exact row0 qb' | ((conv => whnf); refine And.intro ?_ ?_))
        refine loopInd 0 (by kernel_rfl) l.length (fun i (c : List Int) => ⟨[.unk, .rd (eAs l), .unk, .unk, .unk, .ptr 0 0 0, .ptr 1 0 0, I 0, .unk, I m, .sl 2 0 (m / 3).toNat (some (m / 3).toNat), .unk, .unk, .unk, .unk, .unk, .unk, .unk, .unk, .unk, .unk, .unk, .unk, .unk, .unk, .unk, .unk, .unk, .unk, .unk, .unk, .unk, .unk, .unk, .unk, .unk, .unk, .unk, .unk, .unk, .unk, .rd (orbsE g m l), I ((orbsE g m l).length : Int), I (i : Nat), .unk, .unk, .unk, .unk, .unk, .unk, .unk, .unk, .unk, .unk, .unk, .unk, .unk, .unk, .unk, .unk, .unk, .unk, .unk, .unk, .unk, .unk, .unk, .unk, .unk, .unk, .unk, .unk, .unk, .unk, .unk, .unk, .unk, .unk, .unk, .unk, .unk, .unk, .unk], [.box (eV h), .box [I 0, .v (.slice none 0 0)], .row 1 true (eNs c)]⟩)
          (fun i c => c.length = (m / 3).toNat ∧ (l.drop i).foldl (addO g m h) c = exC g m h l) ?_ 0 _ (Nat.zero_le _) ⟨by simp, rfl⟩
        rintro i c hi ⟨hcl, hJ⟩
        rcases Nat.lt_or_ge i l.length with hlt | hge
        · obtain ⟨a, ha⟩ : ∃ o, l[i]? = some o := ⟨_, List.getElem?_eq_getElem hlt⟩
          obtain ⟨ham, har⟩ := hla a (List.mem_of_getElem? ha)
          have hcond : decide ((i : Int) < ((orbsE g m l).length : Int)) = true := by rw [hol]; exact lt_dec hlt
          have hae : (eAs l)[(i : Int).toNat]? = some (eAt ⟨⟨m, a.p.x⟩, a.w, a.o⟩) := by
            have := get_map (f := eAt) ha
            rw [← ham]; exact this
          have hoe : (orbsE g m l)[(i : Int).toNat]? = some [.rd (ptsE m (orbV g m a.p.x))] := get_map ha
          rw [drop_get ha, List.foldl_cons, addO] at hJ
          have hOl : (orbV g m a.p.x).length ≤ g.length := orbV_len
          generalize orbV g m a.p.x = O at hoe hJ hOl
          have hgl := (chkG_ok hg).len
          have hpl : (ptsE m O).length = O.length := by simp [ptsE]
          conv => whnf
          refine pickB_yes hcond ?_
          conv => whnf
          refine eltK_iff.2 ⟨_, hoe, ?_⟩
          conv => whnf
          refine LoopP.weaken (s2 := ⟨[.unk, .rd (eAs l), .unk, .unk, .unk, .ptr 0 0 0, .ptr 1 0 0, I 0, .unk, I m, .sl 2 0 (m / 3).toNat (some (m / 3).toNat), I (i : Nat), .unk, .unk, .unk, .unk, .unk, .unk, .unk, .unk, .unk, .unk, .unk, .unk, .unk, .unk, .unk, .unk, .unk, .unk, .unk, .unk, .unk, .unk, .unk, .unk, .unk, .unk, .unk, .unk, .unk, .rd (orbsE g m l), I ((orbsE g m l).length : Int), I (i : Nat), .unk, .unk, .unk, .unk, .rd (ptsE m O), I ((ptsE m O).length : Int), I (0 : Nat), .unk, .unk, .unk, .unk, .unk, .unk, .unk, .unk, .unk, .unk, .unk, .unk, .unk, .unk, .unk, .unk, .unk, .unk, .unk, .unk, .unk, .unk, .unk, .unk, .unk, .unk, .unk, .unk, .unk, .unk, .unk, .unk], [.box (eV h), .box [I 0, .v (.slice none 0 0)], .row 1 true (eNs c)]⟩) [0, 1, 2] ⟨?_, ?_, by decide, rfl⟩ ?_
          · repeat' (first | exact trivial | rfl | ((conv => whnf); refine And.intro ?_ ?_))
          · repeat' (first | exact trivial | rfl | exact fun h => h | ((conv => whnf); refine And.intro ?_ ?_))
          refine loopInd 0 (by kernel_rfl) O.length (fun j (c : List Int) => ⟨[.unk, .rd (eAs l), .unk, .unk, .unk, .ptr 0 0 0, .ptr 1 0 0, I 0, .unk, I m, .sl 2 0 (m / 3).toNat (some (m / 3).toNat), I (i : Nat), .unk, .unk, .unk, .unk, .unk, .unk, .unk, .unk, .unk, .unk, .unk, .unk, .unk, .unk, .unk, .unk, .unk, .unk, .unk, .unk, .unk, .unk, .unk, .unk, .unk, .unk, .unk, .unk, .unk, .rd (orbsE g m l), I ((orbsE g m l).length : Int), I (i : Nat), .unk, .unk, .unk, .unk, .rd (ptsE m O), I ((ptsE m O).length : Int), I (j : Nat), .unk, .unk, .unk, .unk, .unk, .unk, .unk, .unk, .unk, .unk, .unk, .unk, .unk, .unk, .unk, .unk, .unk, .unk, .unk, .unk, .unk, .unk, .unk, .unk, .unk, .unk, .unk, .unk, .unk, .unk, .unk, .unk], [.box (eV h), .box [I 0, .v (.slice none 0 0)], .row 1 true (eNs c)]⟩)
            (fun j c => c.length = (m / 3).toNat ∧ (l.drop (i + 1)).foldl (addO g m h) ((O.drop j).foldl (addP m h a) c) = exC g m h l) ?_ 0 c (Nat.zero_le _) ⟨hcl, hJ⟩
          clear hJ hcl hcond hoe
          rintro j c hj ⟨hcl, hJ⟩
          rcases Nat.lt_or_ge j O.length with hlt2 | hge2
          · obtain ⟨v, hv⟩ : ∃ o, O[j]? = some o := ⟨_, List.getElem?_eq_getElem hlt2⟩
            rw [drop_get hv, List.foldl_cons] at hJ
            have hcond : decide ((j : Int) < ((ptsE m O).length : Int)) = true := by rw [hpl]; exact lt_dec hlt2
            obtain ⟨hph0, hph1⟩ := phF_rng (h := h) (x := v) h4
            have hph4 : w (phF h m v + w (Int.tdiv m 4)) = phF h m v + m / 4 := by rw [qd, wrap_i _ (by omega) (by omega)]
            have hcl2 : (addC m (phF h m v) a.w c).length = (m / 3).toNat := by rw [addC_len]; exact hcl
            conv => whnf
            refine pickB_yes hcond ?_
            conv => whnf
            refine eltK_iff.2 ⟨_, getP hv (by simp), ?_⟩
            conv => whnf
            refine ⟨(h, m, v), rfl, (by show m ≠ (0 : Int); omega), ?_⟩
            conv => whnf
            refine eltK_iff.2 ⟨_, hae, ?_⟩
            conv => whnf
            refine ⟨m, phF h m v, a.w, c, 2, some (m / 3).toNat, true, h4, hph0, by omega, hcl, by rw [hcl]; rfl, rfl, ?_⟩
            conv => whnf
            refine eltK_iff.2 ⟨_, hae, ?_⟩
            conv => whnf
            refine ⟨m, w (phF h m v + w (Int.tdiv m 4)), a.o, addC m (phF h m v) a.w c, 2, some (m / 3).toNat, true, h4, by rw [hph4]; omega, by rw [hph4]; omega, hcl2, by rw [hcl2]; rfl, rfl, ?_⟩
            conv => whnf
            refine' ⟨addP m h a c v, [0, 1, 2], hlt2, ⟨?gl, hJ⟩, ⟨?gt, ?gh, by decide, rfl⟩⟩
            case gl => unfold addP; rw [addC_len, addC_len]; exact hcl
            case gt => repeat' (first | exact trivial | exact congrArg (fun x => LV.v (Value.int .i64 x)) (wrapS (by omega)) | rfl | ((conv => whnf); refine And.intro ?_ ?_))
            case gh => repeat' (first | exact trivial | rfl | exact fun h => h | ((conv => whnf); refine And.intro ?_ ?_))
          · have hcond : decide ((j : Int) < ((ptsE m O).length : Int)) = false := by rw [hpl]; exact ge_dec hge2
            rw [List.drop_eq_nil_of_le hge2] at hJ
            conv => whnf
            refine pickB_no hcond ?_
            conv => whnf
            refine' ⟨c, [0, 1, 2], hlt, ⟨hcl, hJ⟩, ⟨?gt2, ?gh2, by decide, rfl⟩⟩
            case gt2 => repeat' (first | exact trivial | exact congrArg (fun x => LV.v (Value.int .i64 x)) (wrapS (by omega)) | rfl | ((conv => whnf); refine And.intro ?_ ?_))
            case gh2 => repeat' (first | exact trivial | rfl | exact fun h => h | ((conv => whnf); refine And.intro ?_ ?_))
        · have hcond : decide ((i : Int) < ((orbsE g m l).length : Int)) = false := by rw [hol]; exact ge_dec hge
          rw [List.drop_eq_nil_of_le hge] at hJ
          replace hJ : c = exC g m h l := hJ
          rw [← hJ] at hk
          conv => whnf
          refine pickB_no hcond ?_
          conv => whnf
          exact exF_end (by omega) hcl hk
      · have hbm : m0A l = 24 := by
          cases l with
          | nil => rfl
          | cons b r => rw [hl] at h0; simp at h0
        rw [hbm] at hk hla h4
        clear h0
        obtain ⟨qa, qb, qc, qd, qe, qf, qg, qh⟩ := h4.qs
        have hp := h4.pos
        have qb' : IntKind.i64.wrap (Int.tdiv (24 : Int) 3) = (24 : Int) / 3 := qb
        have qd' : IntKind.i64.wrap (Int.tdiv (24 : Int) 4) = (24 : Int) / 4 := qd
        conv => whnf
        refine ⟨by decide, by decide, ?_⟩
        conv => whnf
        refine ⟨(g, l, (24 : Int)), rfl, ⟨hg, h4, hla, hlen⟩, ?_⟩
        have hol : (orbsE g (24 : Int) l).length = l.length := by simp [orbsE]
        conv => whnf
        refine LoopP.weaken (s2 := ⟨[.unk, .rd (eAs l), .unk, .unk, .unk, .ptr 0 0 0, .ptr 1 0 0, I 0, .unk, I (24 : Int), .sl 2 0 ((24 : Int) / 3).toNat (some ((24 : Int) / 3).toNat), .unk, .unk, .unk, .unk, .unk, .unk, .unk, .unk, .unk, .unk, .unk, .unk, .unk, .unk, .unk, .unk, .unk, .unk, .unk, .unk, .unk, .unk, .unk, .unk, .unk, .unk, .unk, .unk, .unk, .unk, .rd (orbsE g (24 : Int) l), I ((orbsE g (24 : Int) l).length : Int), I (0 : Nat), .unk, .unk, .unk, .unk, .unk, .unk, .unk, .unk, .unk, .unk, .unk, .unk, .unk, .unk, .unk, .unk, .unk, .unk, .unk, .unk, .unk, .unk, .unk, .unk, .unk, .unk, .unk, .unk, .unk, .unk, .unk, .unk, .unk, .unk, .unk, .unk, .unk, .unk, .unk], [.box (eV h), .box [I 0, .v (.slice none 0 0)], .row 1 true (eNs (List.replicate ((24 : Int) / 3).toNat 0))]⟩) [0, 1, 3] ⟨?_, ?_, by decide, rfl⟩ ?_
        · repeat' (first | exact trivial | rfl | exact congrArg Int.toNat qb' | exact congrArg (fun x => some (Int.toNat x)) qb' | ((conv => whnf); refine And.intro ?_ ?_))
        · repeat' (first | exact trivial | rfl | exact fun h => h | exact row0 qb' | ((conv => whnf); refine And.intro ?_ ?_))
        refine loopInd 0 (by kernel_rfl) l.length (fun i (c : List Int) => ⟨[.unk, .rd (eAs l), .unk, .unk, .unk, .ptr 0 0 0, .ptr 1 0 0, I 0, .unk, I (24 : Int), .sl 2 0 ((24 : Int) / 3).toNat (some ((24 : Int) / 3).toNat), .unk, .unk, .unk, .unk, .unk, .unk, .unk, .unk, .unk, .unk, .unk, .unk, .unk, .unk, .unk, .unk, .unk, .unk, .unk, .unk, .unk, .unk, .unk, .unk, .unk, .unk, .unk, .unk, .unk, .unk, .rd (orbsE g (24 : Int) l), I ((orbsE g (24 : Int) l).length : Int), I (i : Nat), .unk, .unk, .unk, .unk, .unk, .unk, .unk, .unk, .unk, .unk, .unk, .unk, .unk, .unk, .unk, .unk, .unk, .unk, .unk, .unk, .unk, .unk, .unk, .unk, .unk, .unk, .unk, .unk, .unk, .unk, .unk, .unk, .unk, .unk, .unk, .unk, .unk, .unk, .unk], [.box (eV h), .box [I 0, .v (.slice none 0 0)], .row 1 true (eNs c)]⟩)
          (fun i c => c.length = ((24 : Int) / 3).toNat ∧ (l.drop i).foldl (addO g (24 : Int) h) c = exC g (24 : Int) h l) ?_ 0 _ (Nat.zero_le _) ⟨by simp, rfl⟩
        rintro i c hi ⟨hcl, hJ⟩
        rcases Nat.lt_or_ge i l.length with hlt | hge
        · obtain ⟨a, ha⟩ : ∃ o, l[i]? = some o := ⟨_, List.getElem?_eq_getElem hlt⟩
          obtain ⟨ham, har⟩ := hla a (List.mem_of_getElem? ha)
          have hcond : decide ((i : Int) < ((orbsE g (24 : Int) l).length : Int)) = true := by rw [hol]; exact lt_dec hlt
          have hae : (eAs l)[(i : Int).toNat]? = some (eAt ⟨⟨(24 : Int), a.p.x⟩, a.w, a.o⟩) := by
            have := get_map (f := eAt) ha
            rw [← ham]; exact this
          have hoe : (orbsE g (24 : Int) l)[(i : Int).toNat]? = some [.rd (ptsE (24 : Int) (orbV g (24 : Int) a.p.x))] := get_map ha
          rw [drop_get ha, List.foldl_cons, addO] at hJ
          have hOl : (orbV g (24 : Int) a.p.x).length ≤ g.length := orbV_len
          generalize orbV g (24 : Int) a.p.x = O at hoe hJ hOl
          have hgl := (chkG_ok hg).len
          have hpl : (ptsE (24 : Int) O).length = O.length := by simp [ptsE]
          conv => whnf
          refine pickB_yes hcond ?_
          conv => whnf
          refine eltK_iff.2 ⟨_, hoe, ?_⟩
          conv => whnf
          refine LoopP.weaken (s2 := ⟨[.unk, .rd (eAs l), .unk, .unk, .unk, .ptr 0 0 0, .ptr 1 0 0, I 0, .unk, I (24 : Int), .sl 2 0 ((24 : Int) / 3).toNat (some ((24 : Int) / 3).toNat), I (i : Nat), .unk, .unk, .unk, .unk, .unk, .unk, .unk, .unk, .unk, .unk, .unk, .unk, .unk, .unk, .unk, .unk, .unk, .unk, .unk, .unk, .unk, .unk, .unk, .unk, .unk, .unk, .unk, .unk, .unk, .rd (orbsE g (24 : Int) l), I ((orbsE g (24 : Int) l).length : Int), I (i : Nat), .unk, .unk, .unk, .unk, .rd (ptsE (24 : Int) O), I ((ptsE (24 : Int) O).length : Int), I (0 : Nat), .unk, .unk, .unk, .unk, .unk, .unk, .unk, .unk, .unk, .unk, .unk, .unk, .unk, .unk, .unk, .unk, .unk, .unk, .unk, .unk, .unk, .unk, .unk, .unk, .unk, .unk, .unk, .unk, .unk, .unk, .unk, .unk], [.box (eV h), .box [I 0, .v (.slice none 0 0)], .row 1 true (eNs c)]⟩) [0, 1, 2] ⟨?_, ?_, by decide, rfl⟩ ?_
          · repeat' (first | exact trivial | rfl | ((conv => whnf); refine And.intro ?_ ?_))
          · repeat' (first | exact trivial | rfl | exact fun h => h | ((conv => whnf); refine And.intro ?_ ?_))
          refine loopInd 0 (by kernel_rfl) O.length (fun j (c : List Int) => ⟨[.unk, .rd (eAs l), .unk, .unk, .unk, .ptr 0 0 0, .ptr 1 0 0, I 0, .unk, I (24 : Int), .sl 2 0 ((24 : Int) / 3).toNat (some ((24 : Int) / 3).toNat), I (i : Nat), .unk, .unk, .unk, .unk, .unk, .unk, .unk, .unk, .unk, .unk, .unk, .unk, .unk, .unk, .unk, .unk, .unk, .unk, .unk, .unk, .unk, .unk, .unk, .unk, .unk, .unk, .unk, .unk, .unk, .rd (orbsE g (24 : Int) l), I ((orbsE g (24 : Int) l).length : Int), I (i : Nat), .unk, .unk, .unk, .unk, .rd (ptsE (24 : Int) O), I ((ptsE (24 : Int) O).length : Int), I (j : Nat), .unk, .unk, .unk, .unk, .unk, .unk, .unk, .unk, .unk, .unk, .unk, .unk, .unk, .unk, .unk, .unk, .unk, .unk, .unk, .unk, .unk, .unk, .unk, .unk, .unk, .unk, .unk, .unk, .unk, .unk, .unk, .unk], [.box (eV h), .box [I 0, .v (.slice none 0 0)], .row 1 true (eNs c)]⟩)
            (fun j c => c.length = ((24 : Int) / 3).toNat ∧ (l.drop (i + 1)).foldl (addO g (24 : Int) h) ((O.drop j).foldl (addP (24 : Int) h a) c) = exC g (24 : Int) h l) ?_ 0 c (Nat.zero_le _) ⟨hcl, hJ⟩
          clear hJ hcl hcond hoe
          rintro j c hj ⟨hcl, hJ⟩
          rcases Nat.lt_or_ge j O.length with hlt2 | hge2
          · obtain ⟨v, hv⟩ : ∃ o, O[j]? = some o := ⟨_, List.getElem?_eq_getElem hlt2⟩
            rw [drop_get hv, List.foldl_cons] at hJ
            have hcond : decide ((j : Int) < ((ptsE (24 : Int) O).length : Int)) = true := by rw [hpl]; exact lt_dec hlt2
            obtain ⟨hph0, hph1⟩ := phF_rng (h := h) (x := v) h4
            have hph4 : w (phF h (24 : Int) v + w (Int.tdiv (24 : Int) 4)) = phF h (24 : Int) v + (24 : Int) / 4 := by rw [qd, wrap_i _ (by omega) (by omega)]
            have hcl2 : (addC (24 : Int) (phF h (24 : Int) v) a.w c).length = ((24 : Int) / 3).toNat := by rw [addC_len]; exact hcl
            conv => whnf
            refine pickB_yes hcond ?_
            conv => whnf
            refine eltK_iff.2 ⟨_, getP hv (by simp), ?_⟩
            conv => whnf
            refine ⟨(h, (24 : Int), v), rfl, (by show (24 : Int) ≠ (0 : Int); omega), ?_⟩
            conv => whnf
            refine eltK_iff.2 ⟨_, hae, ?_⟩
            conv => whnf
            refine ⟨(24 : Int), phF h (24 : Int) v, a.w, c, 2, some ((24 : Int) / 3).toNat, true, h4, hph0, by omega, hcl, by rw [hcl]; rfl, rfl, ?_⟩
            conv => whnf
            refine eltK_iff.2 ⟨_, hae, ?_⟩
            conv => whnf
            refine ⟨(24 : Int), w (phF h (24 : Int) v + w (Int.tdiv (24 : Int) 4)), a.o, addC (24 : Int) (phF h (24 : Int) v) a.w c, 2, some ((24 : Int) / 3).toNat, true, h4, by rw [hph4]; omega, by rw [hph4]; omega, hcl2, by rw [hcl2]; rfl, rfl, ?_⟩
            conv => whnf
            refine' ⟨addP (24 : Int) h a c v, [0, 1, 2], hlt2, ⟨?gl, hJ⟩, ⟨?gt, ?gh, by decide, rfl⟩⟩
            case gl => unfold addP; rw [addC_len, addC_len]; exact hcl
            case gt => repeat' (first | exact trivial | exact congrArg (fun x => LV.v (Value.int .i64 x)) (wrapS (by omega)) | rfl | ((conv => whnf); refine And.intro ?_ ?_))
            case gh => repeat' (first | exact trivial | rfl | exact fun h => h | ((conv => whnf); refine And.intro ?_ ?_))
          · have hcond : decide ((j : Int) < ((ptsE (24 : Int) O).length : Int)) = false := by rw [hpl]; exact ge_dec hge2
            rw [List.drop_eq_nil_of_le hge2] at hJ
            conv => whnf
            refine pickB_no hcond ?_
            conv => whnf
            refine' ⟨c, [0, 1, 2], hlt, ⟨hcl, hJ⟩, ⟨?gt2, ?gh2, by decide, rfl⟩⟩
            case gt2 => repeat' (first | exact trivial | exact congrArg (fun x => LV.v (Value.int .i64 x)) (wrapS (by omega)) | rfl | ((conv => whnf); refine And.intro ?_ ?_))
            case gh2 => repeat' (first | exact trivial | rfl | exact fun h => h | ((conv => whnf); refine And.intro ?_ ?_))
        · have hcond : decide ((i : Int) < ((orbsE g (24 : Int) l).length : Int)) = false := by rw [hol]; exact ge_dec hge
          rw [List.drop_eq_nil_of_le hge] at hJ
          replace hJ : c = exC g (24 : Int) h l := hJ
          rw [← hJ] at hk
          conv => whnf
          refine pickB_no hcond ?_
          conv => whnf
          exact exF_end (by omega) hcl hk
noncomputable def eF18 : Ent := entF sF18
end E
end Go.Proofs.YtjhognibibmeiaaGreatDoor
end

section
set_option linter.unusedVariables false
set_option maxRecDepth 100000
set_option maxHeartbeats 8000000
namespace Go.Proofs.YtjhognibibmeiaaGreatDoor
namespace E
open Go Go.RowKit

theorem eqL2_refl : ∀ c : List Int, eqL2 c c = true
  | [] => rfl
  | a :: r => by
    unfold eqL2
    have : (a != a) = false := by simp
    rw [this, cond_false, eqL2_refl r]
theorem sameR_refl (a : Int × List Int) : sameR a a = true := by
  unfold sameR
  have h1 : (a.1 != a.1) = false := by simp
  have h2 : ((a.2.length : Int) != (a.2.length : Int)) = false := by simp
  rw [h1, h2, cond_false, cond_false, eqL2_refl]
theorem addO_len {g : List O} {m : Int} {h : V} {a : Atm} : ∀ {O : List V} {c : List Int}, (O.foldl (addP m h a) c).length = c.length
  | [], c => rfl
  | v :: r, c => by rw [List.foldl_cons, addO_len (g := g)]; unfold addP; rw [addC_len, addC_len]
theorem exC_len {g : List O} {m : Int} {h : V} : ∀ {l : List Atm} {c : List Int}, (l.foldl (addO g m h) c).length = c.length
  | [], c => rfl
  | a :: r, c => by rw [List.foldl_cons, exC_len]; unfold addO; exact addO_len (g := g)
def exAns (g : List O) (l : List Atm) (h : V) : (Int × List Int) × Int :=
  bif errX g l h != 0 then ((0, []), errX g l h) else ((m0A l, exC g (m0A l) h l), 0)
theorem exAns_len (g : List O) (l : List Atm) (h : V) : (exAns g l h).1.2.length ≤ 4611686018427387904 := by
  unfold exAns
  cases hb : errX g l h != 0 with
  | true => exact Nat.zero_le _
  | false =>
    have he : errX g l h = 0 := by simpa using hb
    obtain ⟨_, hA, _⟩ := least3_zero he
    have hp := (chkA_ok hA).m.pos
    show (exC g (m0A l) h l).length ≤ _
    unfold exC
    rw [exC_len]
    simp
    omega
def S6c : PSpec := espec (fun x : List O × List Atm × V => [.rd (eOs x.1), .rd (eAs x.2.1), .agg (eV x.2.2)]) (fun x => x.2.1.length ≤ 4611686018427387904)
  (fun x => Er (.agg [I (exAns x.1 x.2.1 x.2.2).1.1, .rd (eNs (exAns x.1 x.2.1 x.2.2).1.2)]) (exAns x.1 x.2.1 x.2.2).2)
theorem s6c : SoundA PR GL 19 S6c := s6.mono fun args K hk => by
  obtain ⟨⟨g, l, h⟩, rfl, hlen, hk⟩ := hk
  refine ⟨(g, l, h), rfl, hlen, ?_⟩
  replace hk : K (Er (.agg [I (exAns g l h).1.1, .rd (eNs (exAns g l h).1.2)]) (exAns g l h).2) := hk
  show K (bif chkR g l h != 0 then Er (.agg [I 0, .rd []]) (chkR g l h) else Er (.agg [I (m0A l), .rd (eNs (broughtC (m0A l) (cntR g (m0A l) h l)))]) 0)
  unfold exAns at hk
  rw [errX_eq] at hk
  cases hb : chkR g l h != 0 with
  | true => rw [hb] at hk; exact hk
  | false =>
    have he : chkR g l h = 0 := by simpa using hb
    obtain ⟨hg, hA⟩ := chkR_ok he
    have hA2 := docA_ok hA
    have hG := chkG_ok (g := g) (by rw [chkG_eq]; exact hg)
    rw [hb] at hk
    rw [exC_eq hG.ok hA2.m h hA2.a]
    exact hk
noncomputable def e6c : Ent := entA s6c espec_fun

theorem exC_len3 (g : List O) (m : Int) (h : V) (l : List Atm) : (exC g m h l).length = (m / 3).toNat := by
  unfold exC; rw [exC_len]; simp
def SF18c : FSpec := fun args K => ∃ x : List O × List Atm × V, args = [.rd (eOs x.1), .rd (eAs x.2.1), .agg (eV x.2.2)] ∧ x.2.1.length ≤ 4611686018427387904 ∧
  K (.tup [.agg [I (exAns x.1 x.2.1 x.2.2).1.1, cvOf (exAns x.1 x.2.1 x.2.2).1.2 2 (some (exAns x.1 x.2.1 x.2.2).1.2.length)], I (exAns x.1 x.2.1 x.2.2).2]) [.dead, .dead, cbOf (exAns x.1 x.2.1 x.2.2).1.2 true]
theorem sF18c : SoundF PR GL 18 SF18c := fun args K hk => sF18 args K <| by
  obtain ⟨⟨g, l, h⟩, rfl, hlen, hk⟩ := hk
  refine ⟨(g, l, h), rfl, hlen, ?_⟩
  replace hk : K (.tup [.agg [I (exAns g l h).1.1, cvOf (exAns g l h).1.2 2 (some (exAns g l h).1.2.length)], I (exAns g l h).2]) [.dead, .dead, cbOf (exAns g l h).1.2 true] := hk
  show bif errX g l h != 0 then K (.tup [.agg [I 0, nilV], I (errX g l h)]) [.dead, .dead, .dead] else K (.tup [.agg [I (m0A l), cvOf (exC g (m0A l) h l) 2 (some (exC g (m0A l) h l).length)], I 0]) [.dead, .dead, cbOf (exC g (m0A l) h l) true]
  unfold exAns at hk
  cases hb : errX g l h != 0 with
  | true => rw [hb] at hk; exact hk
  | false => rw [hb] at hk; exact hk
noncomputable def eF18c : Ent := entF sF18c

/-! ### What the law makes -/
def o0 : O := ⟨⟨vec0, vec0, vec0⟩, vec0⟩
def o5 : O := ⟨⟨vec0, vec0, vec0⟩, ⟨5, 5, 5⟩⟩
def at3 (n : Int) : Atm := ⟨⟨24, ⟨n, 0, 0⟩⟩, n, n⟩
def at0 : Atm := ⟨⟨0, vec0⟩, 0, 0⟩
def v3 (n : Int) : V := ⟨n, n, n⟩
theorem eOs_len (g : List O) : (eOs g).length = g.length := by simp [eOs]
theorem eAs_len (l : List Atm) : (eAs l).length = l.length := by simp [eAs]
theorem all12 (g : List O) : ∀ e ∈ eOs g, e.length = 12 := fun e he => by obtain ⟨x, _, rfl⟩ := List.mem_map.1 he; rfl
theorem all6 (g : List Atm) : ∀ e ∈ eAs g, e.length = 6 := fun e he => by obtain ⟨x, _, rfl⟩ := List.mem_map.1 he; rfl
theorem w1 {n : Nat} (h : n ≤ 4611686018427387904) : w ((n : Int) + 1) = (n : Int) + 1 := wrap_i _ (by omega) (by omega)
/-- A row made, what was there copied into it. -/
theorem copied {α : Type} {f : α → List LV} {z : α} {g : List α} {c : Nat} (hc : c = g.length + 1) : g.map f ++ (List.replicate c (f z)).drop (((g.map f).length : Int).toNat) = (g ++ [z]).map f := by
  subst hc
  rw [List.map_append]
  congr 1
  rw [List.drop_replicate]
  simp
/-- .. and one more appended. -/
theorem appended {α : Type} {f : α → List LV} {z x : α} {g : List α} {n : Nat} (hn : n = g.length) {k : Nat} (hk : k = n + 1) : ((g ++ [z]).map f).take n ++ [f x] ++ ((g ++ [z]).map f).drop k = (g ++ [x]).map f := by
  subst hn hk
  simp
theorem taken {α : Type} {f : α → List LV} {x : α} {g : List α} {n : Nat} (hn : n = g.length) : (((g ++ [x]).map f).drop 0).take n = g.map f := by
  subst hn
  simp
end E
end Go.Proofs.YtjhognibibmeiaaGreatDoor
end

section
set_option linter.unusedVariables false
set_option maxRecDepth 100000
set_option maxHeartbeats 8000000
namespace Go.Proofs.YtjhognibibmeiaaGreatDoor
namespace E
open Go Go.RowKit

theorem eVs_take8 (hs : List V) : List.take (8 - 0) (List.drop 0 (eVs hs)) = eVs (hs.take 8) := by
  rw [List.drop_zero]; unfold eVs; rw [List.map_take]
theorem all3' (hs : List V) : ∀ e ∈ eVs hs, e.length = 3 := fun e he => by obtain ⟨h, _, rfl⟩ := List.mem_map.1 he; rfl
theorem plain_ab (ws : List Wv) : ∀ b ∈ [abOf ws], plainB b := fun b hb => by
  rw [List.mem_singleton.1 hb]
  cases ws with
  | nil => trivial
  | cons v r =>
    intro e he c hc
    obtain ⟨x, _, rfl⟩ := List.mem_map.1 he
    simp only [eWv, List.mem_cons, List.not_mem_nil, or_false] at hc
    rcases hc with rfl | rfl | rfl | rfl <;> exact ⟨_, rfl⟩
theorem sh_av (ws : List Wv) (e : Int) (k : Nat) : LV.tup [avOf ws k, I e] = sh2 k (.tup [avOf ws 0, I e]) := by
  cases ws with
  | nil => rfl
  | cons v r =>
    show LV.tup [LV.sl k 0 (v :: r).length none, I e] = LV.tup [LV.sl (0 + k) 0 (v :: r).length none, I e]
    rw [Nat.zero_add]
theorem loose_ab (ws : List Wv) : [abOf ws] = [abOf ws].map looseB := by cases ws <;> rfl
theorem plain_cb (c : List Int) (ex : Bool) : ∀ b ∈ [Blk.dead, .dead, cbOf c ex], plainB b := fun b hb => by
  rcases List.mem_cons.1 hb with rfl | hb
  · trivial
  rcases List.mem_cons.1 hb with rfl | hb
  · trivial
  rw [List.mem_singleton.1 hb]
  cases c with
  | nil => trivial
  | cons v r =>
    intro e he c hc
    obtain ⟨x, _, rfl⟩ := List.mem_map.1 he
    rw [List.mem_singleton.1 hc]
    exact ⟨_, rfl⟩
theorem sh_cv (m : Int) (c : List Int) (cap : Option Nat) (e : Int) (k : Nat) : LV.tup [.agg [I m, cvOf c (2 + k) none], I e] = sh2 k (.tup [.agg [I m, cvOf c 2 cap], I e]) := by cases c <;> rfl
theorem loose_cb (c : List Int) : [Blk.dead, .dead, cbOf c false] = [Blk.dead, .dead, cbOf c true].map looseB := by cases c <;> rfl
theorem oneL_cv (c : List Int) (k : Nat) (cap : Option Nat) : oneL (cvOf c k cap) = true := by cases c <;> rfl
def v123 : V := ⟨1, 2, 3⟩
theorem all_cv (a : Int) (c : List Int) (k : Nat) (cap : Option Nat) : [I a, cvOf c k cap].all oneL = true := by cases c <;> rfl
theorem rens_av {σ : List Nat} {ws : List Wv} {i j : Nat} {os ns : List LV} (h : σ[j]? = some i) (hr : rens σ os ns) : rens σ (avOf ws i :: os) (avOf ws j :: ns) := by
  cases ws with
  | nil => exact ⟨rfl, hr⟩
  | cons v r => exact ⟨⟨h, rfl, rfl, rfl⟩, hr⟩
theorem rens_cv {σ : List Nat} {c : List Int} {m : Int} {i j : Nat} (h : σ[j]? = some i) : rens σ [I m, cvOf c i none] [I m, cvOf c j none] := by
  cases c with
  | nil => exact ⟨rfl, rfl, trivial⟩
  | cons v r => exact ⟨rfl, ⟨h, rfl, rfl, rfl⟩, trivial⟩
theorem renB_ab {σ : List Nat} (ws : List Wv) : renB σ (abOf ws) (abOf ws) := by
  cases ws with
  | nil => trivial
  | cons v r => exact ⟨rfl, rfl, fun h => h⟩
theorem renB_cb {σ : List Nat} (c : List Int) : renB σ (cbOf c false) (cbOf c false) := by
  cases c with
  | nil => trivial
  | cons v r => exact ⟨rfl, rfl, fun h => h⟩
theorem set_map {α : Type} {f : α → List LV} {G : List α} {i : Nat} {x : α} : (G.map f).set (0 + (i : Int).toNat) (f x) = (G.set i x).map f := by
  rw [Nat.zero_add, Int.toNat_natCast]
  apply List.ext_getElem? 
  intro k
  rw [List.getElem?_set, List.getElem?_map, List.getElem?_map, List.getElem?_set, List.length_map]
  by_cases h : i = k
  · subst h
    by_cases h2 : i < G.length
    · simp [h2]
    · simp [h2]
  · simp [h]
theorem all2 {a b : List LV} {n : Nat} (ha : a.length = n) (hb : b.length = n) : ∀ e ∈ [a, b], e.length = n := fun e he => by
  rcases List.mem_cons.1 he with rfl | he
  · exact ha
  · rw [List.mem_singleton.1 he]; exact hb
theorem all3c {a b c : List LV} {n : Nat} (ha : a.length = n) (hb : b.length = n) (hc : c.length = n) : ∀ e ∈ [a, b, c], e.length = n := fun e he => by
  rcases List.mem_cons.1 he with rfl | he
  · exact ha
  · exact all2 hb hc e he
def wMinus : Wv := (vec0, (13830554455654793216, 0))
theorem exAns_64 (g : List O) (l : List Atm) (h : V) : (exAns g l h).1.2.length ≤ 64 := by
  unfold exAns
  cases hb : errX g l h != 0 with
  | true => exact Nat.zero_le _
  | false =>
    have he : errX g l h = 0 := by simpa using hb
    obtain ⟨_, hA, _⟩ := least3_zero he
    have hp := (chkA_ok hA).m.pos
    show (exC g (m0A l) h l).length ≤ _
    rw [exC_len3]
    omega
theorem cutT {α : Type} {l : List Ent} {m : Nat} {c : Code} {Q : Exit → St → Prop} {G : Prop} (S : α → St) (p : α → Prop) (tail : ∀ a, p a → CodeP l m c (S a) Q) (main : (∀ a, p a → CodeP l m c (S a) Q) → G) : G := main tail
def SL5 : PSpec := espec (fun x : List O × List Atm × List V => [.rd (eOs x.1), .rd (eAs x.2.1), .rd (eVs x.2.2)])
  (fun x => x.1.length * 96 ≤ 140737488351232 ∧ x.2.1.length * 48 ≤ 140737488351232 ∧ x.2.2.length * 24 ≤ 140737488351232) (fun _ => Bo true)
noncomputable abbrev lM : List Ent := [e4, e10, eF12, eF18c, eD15, eD13, e6c, eD14, e7]
theorem sL5 : SoundA PR GL 5 SL5 := mkAP lM Tryz.func5 rfl (by kernel_rfl) (by kernel_rfl) fun args K hk => by
  obtain ⟨⟨g, l, hs⟩, rfl, ⟨hg, hl, hv⟩, hk⟩ := hk
  replace hg : g.length * 96 ≤ 140737488351232 := hg
  replace hl : l.length * 48 ≤ 140737488351232 := hl
  replace hv : hs.length * 24 ≤ 140737488351232 := hv
  replace hk : K (Bo true) := hk
  have lg := eOs_len g
  have ll := eAs_len l
  have lh := eVs_len hs
  conv => whnf
  refine CodeP.seq 0 ?_
  conv => whnf
  refine CodeP.seq 0 ?_
  conv => whnf
  refine' cutT (l := lM) (m := 0) (fun ls : List V => ⟨[.rd (eOs g), .rd (eAs l), .rd (eVs ls), .unk, .unk, .unk, .unk, .unk, .unk, .unk, .unk, .unk, .unk, .unk, .unk, .unk, .unk, .unk, .unk, .unk, .unk, .unk, .unk, .unk, .unk, .unk, .unk, .unk, .unk, .unk, .unk, .unk, .unk, .unk, .unk, .unk, .unk, .unk, .unk, .unk, .unk, .unk, .unk, .unk, .unk, .unk, .unk, .unk, .unk, .unk, .unk, .unk, .unk, .unk, .unk, .unk, .unk, .unk, .unk, .unk, .unk, .unk, .unk, .unk, .unk, .unk, .unk, .unk, .unk, .unk, .unk, .unk, .unk, .unk, .unk, .unk, .unk, .unk, .unk, .unk, .unk, .unk, .unk, .unk, .unk, .unk, .unk, .unk, .unk, .unk, .unk, .unk, .unk, .unk, .unk, .unk, .unk, .unk, .unk, .unk, .unk, .unk, .unk, .unk, .unk, .unk, .unk, .unk, .unk, .unk, .unk, .unk, .unk, .unk, .unk, .unk, .unk, .unk, .unk, .unk, .unk, .unk, .unk, .unk, .unk, .unk, .unk, .unk, .unk, .unk, .unk, .unk, .unk, .unk, .unk, .unk, .unk, .unk, .unk, .unk, .unk, .unk, .unk, .unk, .unk, .unk, .unk, .unk, .unk, .unk, .unk, .unk, .unk, .unk, .unk, .unk, .unk, .unk, .unk, .unk, .unk, .unk, .unk, .unk, .unk, .unk, .unk, .unk, .unk, .unk, .unk, .unk, .unk, .unk, .unk, .unk, .unk, .unk, .unk, .unk, .unk, .unk, .unk, .unk, .unk, .unk, .unk, .unk, .unk, .unk, .unk, .unk, .unk, .unk, .unk, .unk, .unk, .unk, .unk, .unk, .unk, .unk, .unk, .unk, .unk, .unk, .unk, .unk, .unk, .unk, .unk, .unk, .unk, .unk, .unk, .unk, .unk, .unk, .unk, .unk, .unk, .unk, .unk, .unk, .unk, .unk, .unk, .unk, .unk, .unk, .unk, .unk, .unk, .unk, .unk, .unk, .unk, .unk, .unk, .unk, .unk, .unk, .unk, .unk, .unk, .unk, .unk, .unk, .unk, .unk, .unk, .unk, .unk, .unk, .unk, .unk, .unk, .unk, .unk, .unk, .unk, .unk, .unk, .unk, .unk, .unk, .unk, .unk, .unk, .unk, .unk, .unk, .unk, .unk, .unk, .unk, .unk, .unk, .unk], []⟩) (fun ls => ls.length ≤ 8) ?tail ?main
  case main =>
    intro tail
    refine CodeP.seq 0 ?_
    conv => whnf
    refine pickB_of (fun h8 => ?_) (fun h8 => ?_)
    · have h8' : 8 < hs.length := by
        have : decide (((eVs hs).length : Int) > 8) = true := h8
        rw [lh] at this
        have := of_decide_eq_true this
        omega
      have hE := congrArg LV.rd (eVs_take8 hs)
      conv => whnf
      refine ⟨.inl rfl, ?_⟩
      conv => whnf
      refine (leB_iff (i := 8) (len := ((eVs hs).length : Int))).2 ⟨by decide, by rw [lh]; omega, ?_⟩
      conv => whnf
      refine ⟨all3' hs, ?_⟩
      conv => whnf
      refine CodeP.weaken [] ⟨?t1, ?h1, List.nodup_nil, rfl⟩ (tail (hs.take 8) (by rw [List.length_take]; omega))
      case t1 => repeat' (first | exact trivial | exact congrArg (fun x => LV.v (Value.int .i64 x)) (wrapS (by omega)) | rfl | assumption | ((conv => whnf); refine And.intro ?_ ?_))
      case h1 => exact trivial
    · have h8' : hs.length ≤ 8 := by
        have : decide (((eVs hs).length : Int) > 8) = false := h8
        rw [lh] at this
        have := of_decide_eq_false this
        omega
      conv => whnf
      refine CodeP.weaken [] ⟨?t2, ?h2, List.nodup_nil, rfl⟩ (tail hs h8')
      case t2 => repeat' (first | exact trivial | exact congrArg (fun x => LV.v (Value.int .i64 x)) (wrapS (by omega)) | rfl | assumption | ((conv => whnf); refine And.intro ?_ ?_))
      case h2 => exact trivial
  case tail =>
    intro ls h8
    have lv := eVs_len ls
    have wg : IntKind.i64.wrap (((eOs g).length : Int) + 1) = ((eOs g).length : Int) + 1 := w1 (by omega)
    have wl : IntKind.i64.wrap (((eAs l).length : Int) + 1) = ((eAs l).length : Int) + 1 := w1 (by omega)
    have wv : IntKind.i64.wrap (((eVs ls).length : Int) + 1) = ((eVs ls).length : Int) + 1 := w1 (by omega)
    -- g
    refine CodeP.seq 0 ?_
    conv => whnf
    refine leB_iff.2 ⟨by omega, by show ((eOs g).length : Int) ≤ IntKind.i64.wrap (((eOs g).length : Int) + 1); rw [wg]; omega, ?_⟩
    conv => whnf
    refine ⟨by show IntKind.i64.wrap (((eOs g).length : Int) + 1) * (96 : Int) ≤ 140737488355328; rw [wg]; omega, by show IntKind.i64.wrap (((eOs g).length : Int) + 1) < _; rw [wg]; omega, ?_⟩
    conv => whnf
    refine CodeP.seq 0 ?_
    conv => whnf
    refine ⟨rfl, (Int.toNat_natCast _).symm, by show ((eOs g).length : Int).toNat ≤ (List.replicate (IntKind.i64.wrap (((eOs g).length : Int) + 1)).toNat _).length; rw [List.length_replicate, wg]; omega, all12 g, eOs (g ++ [o0]), (copied (f := eO) (z := o0) (by rw [wg]; omega)).symm, ?_⟩
    conv => whnf
    refine CodeP.seq 0 ?_
    conv => whnf
    refine And.intro (Nat.le_refl _) ?_
    conv => whnf
    refine ⟨rfl, by show ((eOs g).length : Int).toNat + 1 ≤ (IntKind.i64.wrap (((eOs g).length : Int) + 1)).toNat; rw [wg]; omega, by show (IntKind.i64.wrap (((eOs g).length : Int) + 1)).toNat ≤ (eOs (g ++ [o0])).length; rw [wg]; simp [eOs], all1 rfl, eOs (g ++ [o5]), g.length + 1, (appended (f := eO) (z := o0) (x := o5) (by simp [eOs]) (by simp [eOs])).symm, by show _ = ((eOs g).length : Int).toNat + 1; omega, ?_⟩
    conv => whnf
    -- l
    refine CodeP.seq 0 ?_
    conv => whnf
    refine leB_iff.2 ⟨by omega, by show ((eAs l).length : Int) ≤ IntKind.i64.wrap (((eAs l).length : Int) + 1); rw [wl]; omega, ?_⟩
    conv => whnf
    refine ⟨by show IntKind.i64.wrap (((eAs l).length : Int) + 1) * (48 : Int) ≤ 140737488355328; rw [wl]; omega, by show IntKind.i64.wrap (((eAs l).length : Int) + 1) < _; rw [wl]; omega, ?_⟩
    conv => whnf
    refine CodeP.seq 0 ?_
    conv => whnf
    refine ⟨rfl, (Int.toNat_natCast _).symm, by show ((eAs l).length : Int).toNat ≤ (List.replicate (IntKind.i64.wrap (((eAs l).length : Int) + 1)).toNat _).length; rw [List.length_replicate, wl]; omega, all6 l, eAs (l ++ [at0]), (copied (f := eAt) (z := at0) (by rw [wl]; omega)).symm, ?_⟩
    conv => whnf
    refine CodeP.seq 0 ?_
    conv => whnf
    refine And.intro (Nat.le_refl _) ?_
    conv => whnf
    refine ⟨rfl, by show ((eAs l).length : Int).toNat + 1 ≤ (IntKind.i64.wrap (((eAs l).length : Int) + 1)).toNat; rw [wl]; omega, by show (IntKind.i64.wrap (((eAs l).length : Int) + 1)).toNat ≤ (eAs (l ++ [at0])).length; rw [wl]; simp [eAs], all1 rfl, eAs (l ++ [(at3 3)]), l.length + 1, (appended (f := eAt) (z := at0) (x := (at3 3)) (by simp [eAs]) (by simp [eAs])).symm, by show _ = ((eAs l).length : Int).toNat + 1; omega, ?_⟩
    conv => whnf
    -- ls
    refine CodeP.seq 0 ?_
    conv => whnf
    refine leB_iff.2 ⟨by omega, by show ((eVs ls).length : Int) ≤ IntKind.i64.wrap (((eVs ls).length : Int) + 1); rw [wv]; omega, ?_⟩
    conv => whnf
    refine ⟨by show IntKind.i64.wrap (((eVs ls).length : Int) + 1) * (24 : Int) ≤ 140737488355328; rw [wv]; omega, by show IntKind.i64.wrap (((eVs ls).length : Int) + 1) < _; rw [wv]; omega, ?_⟩
    conv => whnf
    refine CodeP.seq 0 ?_
    conv => whnf
    refine ⟨rfl, (Int.toNat_natCast _).symm, by show ((eVs ls).length : Int).toNat ≤ (List.replicate (IntKind.i64.wrap (((eVs ls).length : Int) + 1)).toNat _).length; rw [List.length_replicate, wv]; omega, all3' ls, eVs (ls ++ [vec0]), (copied (f := eV) (z := vec0) (by rw [wv]; omega)).symm, ?_⟩
    conv => whnf
    refine CodeP.seq 0 ?_
    conv => whnf
    refine And.intro (Nat.le_refl _) ?_
    conv => whnf
    refine ⟨rfl, by show ((eVs ls).length : Int).toNat + 1 ≤ (IntKind.i64.wrap (((eVs ls).length : Int) + 1)).toNat; rw [wv]; omega, by show (IntKind.i64.wrap (((eVs ls).length : Int) + 1)).toNat ≤ (eVs (ls ++ [vec0])).length; rw [wv]; simp [eVs], all1 rfl, eVs (ls ++ [(v3 7)]), ls.length + 1, (appended (f := eV) (z := vec0) (x := (v3 7)) (by simp [eVs]) (by simp [eVs])).symm, by show _ = ((eVs ls).length : Int).toNat + 1; omega, ?_⟩
    conv => whnf
    have ng : ((eOs g).length : Int).toNat = g.length := by simp [eOs]
    have nl : ((eAs l).length : Int).toNat = l.length := by simp [eAs]
    have nv : ((eVs ls).length : Int).toNat = ls.length := by simp [eVs]
    refine CodeP.weaken (s2 := ⟨[.rd (eOs g), .rd (eAs l), .rd (eVs ls), .unk, .unk, .unk, .unk, .sl 0 0 g.length (some (IntKind.i64.wrap (((eOs g).length : Int) + 1)).toNat), .sl 0 0 (g.length + 1) (some (IntKind.i64.wrap (((eOs g).length : Int) + 1)).toNat), .sl 1 0 l.length (some (IntKind.i64.wrap (((eAs l).length : Int) + 1)).toNat), .sl 1 0 (l.length + 1) (some (IntKind.i64.wrap (((eAs l).length : Int) + 1)).toNat), .sl 2 0 ls.length (some (IntKind.i64.wrap (((eVs ls).length : Int) + 1)).toNat), .sl 2 0 (ls.length + 1) (some (IntKind.i64.wrap (((eVs ls).length : Int) + 1)).toNat), .unk, .unk, .unk, .unk, .unk, .unk, .unk, .unk, .unk, .unk, .unk, .unk, .unk, .unk, .unk, .unk, .unk, .unk, .unk, .unk, .unk, .unk, .unk, .unk, .unk, .unk, .unk, .unk, .unk, .unk, .unk, .unk, .unk, .unk, .unk, .unk, .unk, .unk, .unk, .unk, .unk, .unk, .unk, .unk, .unk, .unk, .unk, .unk, .unk, .unk, .unk, .unk, .unk, .unk, .unk, .unk, .unk, .unk, .unk, .unk, .unk, .unk, .unk, .unk, .unk, .unk, .unk, .unk, .unk, .unk, .unk, .unk, .unk, .unk, .unk, .unk, .unk, .unk, .unk, .unk, .unk, .unk, .unk, .unk, .unk, .unk, .unk, .unk, .unk, .unk, .unk, .unk, .unk, .unk, .unk, .unk, .unk, .unk, .unk, .unk, .unk, .unk, .unk, .unk, .unk, .unk, .unk, .unk, .unk, .unk, .unk, .unk, .unk, .unk, .unk, .unk, .unk, .unk, .unk, .unk, .unk, .unk, .unk, .unk, .unk, .unk, .unk, .unk, .unk, .unk, .unk, .unk, .unk, .unk, .unk, .unk, .unk, .unk, .unk, .unk, .unk, .unk, .unk, .unk, .unk, .unk, .unk, .unk, .unk, .unk, .unk, .unk, .unk, .unk, .unk, .unk, .unk, .unk, .unk, .unk, .unk, .unk, .unk, .unk, .unk, .unk, .unk, .unk, .unk, .unk, .unk, .unk, .unk, .unk, .unk, .unk, .unk, .unk, .unk, .unk, .unk, .unk, .unk, .unk, .unk, .unk, .unk, .unk, .unk, .unk, .unk, .unk, .unk, .unk, .unk, .unk, .unk, .unk, .unk, .unk, .unk, .unk, .unk, .unk, .unk, .unk, .unk, .unk, .unk, .unk, .unk, .unk, .unk, .unk, .unk, .unk, .unk, .unk, .unk, .unk, .unk, .unk, .unk, .unk, .unk, .unk, .unk, .unk, .unk, .unk, .unk, .unk, .unk, .unk, .unk, .unk, .unk, .unk, .unk, .unk, .unk, .unk, .unk, .unk, .unk, .unk, .unk, .unk, .unk, .unk, .unk, .unk, .unk, .unk, .unk, .unk, .unk, .unk, .unk, .unk, .unk, .unk, .unk, .unk, .unk, .unk], [.row 12 true (eOs (g ++ [o5])), .row 6 true (eAs (l ++ [at3 3])), .row 3 true (eVs (ls ++ [v3 7]))]⟩) [0, 2, 4] ⟨?_, ?_, by decide, rfl⟩ ?_
    · repeat' (first | exact trivial | exact congrArg (fun x => LV.v (Value.int .i64 x)) (wrapS (by omega)) | rfl | assumption | ((conv => whnf); refine And.intro ?_ ?_))
    · repeat' (first | exact trivial | rfl | exact fun h => h | assumption | ((conv => whnf); refine And.intro ?_ ?_))
    have tg : List.take g.length (List.drop 0 (eOs (g ++ [o5]))) = eOs g := taken (f := eO) rfl
    have tl : List.take l.length (List.drop 0 (eAs (l ++ [at3 3]))) = eAs l := taken (f := eAt) rfl
    have tv : List.take ls.length (List.drop 0 (eVs (ls ++ [v3 7]))) = eVs ls := taken (f := eV) rfl
    refine CodeP.seq 0 ?_
    conv => whnf
    refine And.intro (by show 0 + g.length ≤ (eOs (g ++ [o5])).length; simp [eOs]) ?_
    conv => whnf
    refine And.intro (by show 0 + l.length ≤ (eAs (l ++ [at3 3])).length; simp [eAs]) ?_
    conv => whnf
    refine And.intro (by show 0 + ls.length ≤ (eVs (ls ++ [v3 7])).length; simp [eVs]) ?_
    conv => whnf
    refine ⟨(g, l, ls), by show [LV.rd (List.take g.length (List.drop 0 (eOs (g ++ [o5])))), LV.rd (List.take l.length (List.drop 0 (eAs (l ++ [at3 3])))), LV.rd (List.take ls.length (List.drop 0 (eVs (ls ++ [v3 7]))))] = [LV.rd (eOs g), LV.rd (eAs l), LV.rd (eVs ls)]; rw [tg, tl, tv], ⟨by show l.length ≤ _; omega, by show ls.length ≤ _; omega⟩, ?_⟩
    refine ⟨plain_ab (allA g l ls).1, .tup [avOf (allA g l ls).1 3, I (allA g l ls).2], [abOf (allA g l ls).1], sh_av _ _ 3, loose_ab _, ?_⟩
    conv => whnf
    refine CodeP.seq 0 ?_
    conv => whnf
    refine And.intro (by show 0 + g.length ≤ (eOs (g ++ [o5])).length; simp [eOs]) ?_
    conv => whnf
    refine And.intro (by show 0 + l.length ≤ (eAs (l ++ [at3 3])).length; simp [eAs]) ?_
    conv => whnf
    refine And.intro (by show 0 + ls.length ≤ (eVs (ls ++ [v3 7])).length; simp [eVs]) ?_
    conv => whnf
    refine ⟨(g, l, ls), by show [LV.rd (List.take g.length (List.drop 0 (eOs (g ++ [o5])))), LV.rd (List.take l.length (List.drop 0 (eAs (l ++ [at3 3])))), LV.rd (List.take ls.length (List.drop 0 (eVs (ls ++ [v3 7]))))] = [LV.rd (eOs g), LV.rd (eAs l), LV.rd (eVs ls)]; rw [tg, tl, tv], ⟨by show l.length ≤ _; omega, by show ls.length ≤ _; omega⟩, ?_⟩
    refine ⟨plain_ab (allA g l ls).1, .tup [avOf (allA g l ls).1 4, I (allA g l ls).2], [abOf (allA g l ls).1], sh_av _ _ 4, loose_ab _, ?_⟩
    conv => whnf
    refine CodeP.seq 0 ?_
    conv => whnf
    refine And.intro (by show 0 + g.length ≤ (eOs (g ++ [o5])).length; simp [eOs]) ?_
    conv => whnf
    refine And.intro (by show 0 + l.length ≤ (eAs (l ++ [at3 3])).length; simp [eAs]) ?_
    conv => whnf
    refine ⟨(g, l, v123), by show [LV.rd (List.take g.length (List.drop 0 (eOs (g ++ [o5])))), LV.rd (List.take l.length (List.drop 0 (eAs (l ++ [at3 3])))), LV.agg (eV v123)] = [LV.rd (eOs g), LV.rd (eAs l), LV.agg (eV v123)]; rw [tg, tl], by show l.length ≤ _; omega, ?_⟩
    refine ⟨plain_cb (exAns g l v123).1.2 true, .tup [.agg [I (exAns g l v123).1.1, cvOf (exAns g l v123).1.2 (2 + 5) none], I (exAns g l v123).2], [.dead, .dead, cbOf (exAns g l v123).1.2 false], sh_cv _ _ _ _ 5, loose_cb _, ?_⟩
    conv => whnf
    rw [all_cv]
    conv => whnf
    refine CodeP.seq 0 ?_
    conv => whnf
    refine And.intro (by show 0 + g.length ≤ (eOs (g ++ [o5])).length; simp [eOs]) ?_
    conv => whnf
    refine And.intro (by show 0 + l.length ≤ (eAs (l ++ [at3 3])).length; simp [eAs]) ?_
    conv => whnf
    refine ⟨(g, l, v123), by show [LV.rd (List.take g.length (List.drop 0 (eOs (g ++ [o5])))), LV.rd (List.take l.length (List.drop 0 (eAs (l ++ [at3 3])))), LV.agg (eV v123)] = [LV.rd (eOs g), LV.rd (eAs l), LV.agg (eV v123)]; rw [tg, tl], by show l.length ≤ _; omega, ?_⟩
    refine ⟨plain_cb (exAns g l v123).1.2 true, .tup [.agg [I (exAns g l v123).1.1, cvOf (exAns g l v123).1.2 (2 + 9) none], I (exAns g l v123).2], [.dead, .dead, cbOf (exAns g l v123).1.2 false], sh_cv _ _ _ _ 9, loose_cb _, ?_⟩
    conv => whnf
    rw [all_cv]
    conv => whnf
    refine CodeP.seq 0 ?_
    conv => whnf
    refine And.intro (by show 0 + g.length ≤ (eOs (g ++ [o5])).length; simp [eOs]) ?_
    conv => whnf
    refine And.intro (by show 0 + l.length ≤ (eAs (l ++ [at3 3])).length; simp [eAs]) ?_
    conv => whnf
    refine ⟨(g, l), by show [LV.rd (List.take g.length (List.drop 0 (eOs (g ++ [o5])))), LV.rd (List.take l.length (List.drop 0 (eAs (l ++ [at3 3]))))] = [LV.rd (eOs g), LV.rd (eAs l)]; rw [tg, tl], by show l.length ≤ _; omega, ?_⟩
    conv => whnf
    refine CodeP.weaken (s2 := ⟨[.rd (eOs g), .rd (eAs l), .rd (eVs ls), .unk, .unk, .unk, .unk, .unk, .sl 0 0 (g.length + 1) (some (IntKind.i64.wrap (((eOs g).length : Int) + 1)).toNat), .unk, .sl 1 0 (l.length + 1) (some (IntKind.i64.wrap (((eAs l).length : Int) + 1)).toNat), .unk, .sl 2 0 (ls.length + 1) (some (IntKind.i64.wrap (((eVs ls).length : Int) + 1)).toNat), avOf (allA g l ls).1 3, .unk, avOf (allA g l ls).1 4, .unk, .ptr 6 0 0, .unk, .ptr 8 0 0, .unk, .unk, .unk, .unk, .unk, .unk, .unk, .unk, .unk, .unk, .unk, .unk, .unk, .unk, .unk, .unk, .unk, .unk, .unk, .unk, .unk, .unk, .unk, .unk, .unk, .unk, .unk, .unk, .unk, .unk, .unk, .unk, .unk, .unk, .unk, .unk, .unk, .unk, .unk, .unk, .unk, .unk, .unk, .unk, .unk, .unk, .unk, .unk, .unk, .unk, .unk, .unk, .unk, .unk, .unk, .unk, .unk, .unk, .unk, .unk, .unk, .unk, .unk, .unk, .unk, .unk, .unk, .unk, .unk, .unk, .unk, .unk, .unk, .unk, .unk, .unk, .unk, .unk, .unk, .unk, .unk, .unk, .unk, .unk, .unk, .unk, .unk, .unk, .unk, .unk, .unk, .unk, .unk, .unk, .unk, .unk, .unk, .unk, .unk, .unk, .unk, .unk, .unk, .unk, .unk, .unk, .unk, .unk, .unk, .unk, .unk, .unk, .unk, .unk, .unk, .unk, .unk, .unk, .unk, .unk, .unk, .unk, .unk, .unk, .unk, .unk, .unk, .unk, .unk, .unk, .unk, .unk, .unk, .unk, .unk, .unk, .unk, .unk, .unk, .unk, .unk, .unk, .unk, .unk, .unk, .unk, .unk, .unk, .unk, .unk, .unk, .unk, .unk, .unk, .unk, .unk, .unk, .unk, .unk, .unk, .unk, .unk, .unk, .unk, .unk, .unk, .unk, .unk, .unk, .unk, .unk, .unk, .unk, .unk, .unk, .unk, .unk, .unk, .unk, .unk, .unk, .unk, .unk, .unk, .unk, .unk, .unk, .unk, .unk, .unk, .unk, .unk, .unk, .unk, .unk, .unk, .unk, .unk, .unk, .unk, .unk, .unk, .unk, .unk, .unk, .unk, .unk, .unk, .unk, .unk, .unk, .unk, .unk, .unk, .unk, .unk, .unk, .unk, .unk, .unk, .unk, .unk, .unk, .unk, .unk, .unk, .unk, .unk, .unk, .unk, .unk, .unk, .unk, .unk, .unk, .unk, .unk, .unk, .unk, .unk, .unk, .unk, .unk, .unk, .unk, .unk, .unk, .unk, .unk, .unk, .unk, .unk, .unk, .unk, .unk, .unk, .unk, .unk, .unk], [.row 12 true (eOs (g ++ [o5])), .row 6 true (eAs (l ++ [at3 3])), .row 3 true (eVs (ls ++ [v3 7])), abOf (allA g l ls).1, abOf (allA g l ls).1, cbOf (exAns g l v123).1.2 false, .box [I (exAns g l v123).1.1, cvOf (exAns g l v123).1.2 5 none], cbOf (exAns g l v123).1.2 false, .box [I (exAns g l v123).1.1, cvOf (exAns g l v123).1.2 7 none]]⟩) [0, 1, 2, 3, 4, 7, 8, 11, 12] ⟨?_, ?_, by decide, rfl⟩ ?_
    · repeat' (first | exact trivial | rfl | (refine rens_av rfl ?_) | ((conv => whnf); refine And.intro ?_ ?_))
    · repeat' (first | exact trivial | rfl | exact renB_ab _ | exact renB_cb _ | exact rens_cv rfl | exact fun h => h | ((conv => whnf); refine And.intro ?_ ?_))
    generalize hws : (allA g l ls).1 = ws
    generalize hc : (exAns g l v123).1.2 = c
    generalize hm : (exAns g l v123).1.1 = m
    refine CodeP.seq 0 ?_
    conv => whnf
    refine LoopP.weaken (s2 := ⟨[.rd (eOs g), .rd (eAs l), .rd (eVs ls), .unk, .unk, .unk, .unk, .unk, .sl 0 0 (g.length + 1) (some (IntKind.i64.wrap (((eOs g).length : Int) + 1)).toNat), .unk, .sl 1 0 (l.length + 1) (some (IntKind.i64.wrap (((eAs l).length : Int) + 1)).toNat), .unk, .sl 2 0 (ls.length + 1) (some (IntKind.i64.wrap (((eVs ls).length : Int) + 1)).toNat), avOf ws 3, .unk, avOf ws 4, .unk, .ptr 6 0 0, .unk, .ptr 8 0 0, .unk, .unk, .unk, .unk, .unk, .unk, .unk, .unk, .unk, .unk, .unk, .unk, .unk, .unk, .unk, .unk, .unk, .unk, .unk, .unk, .unk, .unk, .unk, .unk, .unk, .unk, .unk, .unk, .unk, .unk, .unk, .unk, .unk, .unk, .unk, .unk, .unk, .unk, .unk, .unk, .unk, .unk, .unk, .unk, .unk, .unk, .unk, .unk, .unk, .unk, .unk, .unk, .unk, .unk, .unk, .unk, .unk, .unk, .unk, .unk, .unk, .unk, .unk, .unk, .unk, .unk, .unk, .unk, .unk, .unk, .unk, .unk, .unk, .unk, .unk, .unk, .unk, .unk, .unk, .unk, .unk, .unk, .unk, .unk, .unk, .unk, .unk, .unk, .unk, .unk, .unk, .unk, .unk, .rd (eOs g), I ((eOs g).length : Int), I (0 : Nat), .unk, .unk, .unk, .unk, .unk, .unk, .unk, .unk, .unk, .unk, .unk, .unk, .unk, .unk, .unk, .unk, .unk, .unk, .unk, .unk, .unk, .unk, .unk, .unk, .unk, .unk, .unk, .unk, .unk, .unk, .unk, .unk, .unk, .unk, .unk, .unk, .unk, .unk, .unk, .unk, .unk, .unk, .unk, .unk, .unk, .unk, .unk, .unk, .unk, .unk, .unk, .unk, .unk, .unk, .unk, .unk, .unk, .unk, .unk, .unk, .unk, .unk, .unk, .unk, .unk, .unk, .unk, .unk, .unk, .unk, .unk, .unk, .unk, .unk, .unk, .unk, .unk, .unk, .unk, .unk, .unk, .unk, .unk, .unk, .unk, .unk, .unk, .unk, .unk, .unk, .unk, .unk, .unk, .unk, .unk, .unk, .unk, .unk, .unk, .unk, .unk, .unk, .unk, .unk, .unk, .unk, .unk, .unk, .unk, .unk, .unk, .unk, .unk, .unk, .unk, .unk, .unk, .unk, .unk, .unk, .unk, .unk, .unk, .unk, .unk, .unk, .unk, .unk, .unk, .unk, .unk, .unk, .unk, .unk, .unk, .unk, .unk, .unk, .unk, .unk, .unk, .unk, .unk, .unk, .unk, .unk, .unk, .unk, .unk, .unk, .unk, .unk, .unk, .unk, .unk, .unk, .unk, .unk, .unk, .unk, .unk, .unk, .unk], [.row 12 true (eOs (g ++ [o5])), .row 6 true (eAs (l ++ [at3 3])), .row 3 true (eVs (ls ++ [v3 7])), abOf ws, abOf ws, cbOf c false, .box [I m, cvOf c 5 none], cbOf c false, .box [I m, cvOf c 7 none]]⟩) [0, 1, 2, 3, 4, 5, 6, 7, 8] ⟨?_, ?_, by decide, rfl⟩ ?_
    · repeat' (first | exact trivial | exact congrArg (fun x => LV.v (Value.int .i64 x)) (wrapS (by omega)) | rfl | (refine rens_av rfl ?_) | assumption | ((conv => whnf); refine And.intro ?_ ?_))
    · repeat' (first | exact trivial | rfl | exact renB_ab _ | exact renB_cb _ | exact rens_cv rfl | exact fun h => h | assumption | ((conv => whnf); refine And.intro ?_ ?_))
    refine loopInd 0 (by kernel_rfl) g.length (fun i (_ : Unit) => ⟨[.rd (eOs g), .rd (eAs l), .rd (eVs ls), .unk, .unk, .unk, .unk, .unk, .sl 0 0 (g.length + 1) (some (IntKind.i64.wrap (((eOs g).length : Int) + 1)).toNat), .unk, .sl 1 0 (l.length + 1) (some (IntKind.i64.wrap (((eAs l).length : Int) + 1)).toNat), .unk, .sl 2 0 (ls.length + 1) (some (IntKind.i64.wrap (((eVs ls).length : Int) + 1)).toNat), avOf ws 3, .unk, avOf ws 4, .unk, .ptr 6 0 0, .unk, .ptr 8 0 0, .unk, .unk, .unk, .unk, .unk, .unk, .unk, .unk, .unk, .unk, .unk, .unk, .unk, .unk, .unk, .unk, .unk, .unk, .unk, .unk, .unk, .unk, .unk, .unk, .unk, .unk, .unk, .unk, .unk, .unk, .unk, .unk, .unk, .unk, .unk, .unk, .unk, .unk, .unk, .unk, .unk, .unk, .unk, .unk, .unk, .unk, .unk, .unk, .unk, .unk, .unk, .unk, .unk, .unk, .unk, .unk, .unk, .unk, .unk, .unk, .unk, .unk, .unk, .unk, .unk, .unk, .unk, .unk, .unk, .unk, .unk, .unk, .unk, .unk, .unk, .unk, .unk, .unk, .unk, .unk, .unk, .unk, .unk, .unk, .unk, .unk, .unk, .unk, .unk, .unk, .unk, .unk, .unk, .rd (eOs g), I ((eOs g).length : Int), I (i : Nat), .unk, .unk, .unk, .unk, .unk, .unk, .unk, .unk, .unk, .unk, .unk, .unk, .unk, .unk, .unk, .unk, .unk, .unk, .unk, .unk, .unk, .unk, .unk, .unk, .unk, .unk, .unk, .unk, .unk, .unk, .unk, .unk, .unk, .unk, .unk, .unk, .unk, .unk, .unk, .unk, .unk, .unk, .unk, .unk, .unk, .unk, .unk, .unk, .unk, .unk, .unk, .unk, .unk, .unk, .unk, .unk, .unk, .unk, .unk, .unk, .unk, .unk, .unk, .unk, .unk, .unk, .unk, .unk, .unk, .unk, .unk, .unk, .unk, .unk, .unk, .unk, .unk, .unk, .unk, .unk, .unk, .unk, .unk, .unk, .unk, .unk, .unk, .unk, .unk, .unk, .unk, .unk, .unk, .unk, .unk, .unk, .unk, .unk, .unk, .unk, .unk, .unk, .unk, .unk, .unk, .unk, .unk, .unk, .unk, .unk, .unk, .unk, .unk, .unk, .unk, .unk, .unk, .unk, .unk, .unk, .unk, .unk, .unk, .unk, .unk, .unk, .unk, .unk, .unk, .unk, .unk, .unk, .unk, .unk, .unk, .unk, .unk, .unk, .unk, .unk, .unk, .unk, .unk, .unk, .unk, .unk, .unk, .unk, .unk, .unk, .unk, .unk, .unk, .unk, .unk, .unk, .unk, .unk, .unk, .unk, .unk, .unk, .unk], [.row 12 true (eOs (g ++ [o5])), .row 6 true (eAs (l ++ [at3 3])), .row 3 true (eVs (ls ++ [v3 7])), abOf ws, abOf ws, cbOf c false, .box [I m, cvOf c 5 none], cbOf c false, .box [I m, cvOf c 7 none]]⟩) (fun i _ => True) ?_ 0 () (Nat.zero_le _) trivial
    rintro i _ hi _
    rcases Nat.lt_or_ge i g.length with hlt | hge
    · obtain ⟨o, ho⟩ : ∃ o, g[i]? = some o := ⟨_, List.getElem?_eq_getElem hlt⟩
      have hcond : decide ((i : Int) < ((eOs g).length : Int)) = true := by rw [lg]; exact lt_dec hlt
      have h1 : (eOs g)[(i : Int).toNat]? = some (eO o) := get_map (f := eO) ho
      have h2 : (eOs (g ++ [o5]))[0 + (i : Int).toNat]? = some (eO o) := by
        rw [Nat.zero_add]
        exact get_map (f := eO) (by rw [List.getElem?_append_left hlt]; exact ho)
      conv => whnf
      refine pickB_yes hcond ?_
      conv => whnf
      refine (idxB_iff (i := (i : Int)) (len := ((g.length + 1 : Nat) : Int))).2 ⟨by omega, by omega, ?_⟩
      conv => whnf
      refine eltK_iff.2 ⟨_, h2, ?_⟩
      conv => whnf
      refine eltK_iff.2 ⟨_, h1, ?_⟩
      conv => whnf
      refine pickB_no (by simp) ?_
      conv => whnf
      refine' ⟨(), [0, 1, 2, 3, 4, 5, 6, 7, 8], hlt, trivial, ⟨?t, ?h, by decide, rfl⟩⟩
      case t => repeat' (first | exact trivial | exact congrArg (fun x => LV.v (Value.int .i64 x)) (wrapS (by omega)) | rfl | (refine rens_av rfl ?_) | assumption | ((conv => whnf); refine And.intro ?_ ?_))
      case h => repeat' (first | exact trivial | rfl | exact renB_ab _ | exact renB_cb _ | exact rens_cv rfl | exact fun h => h | assumption | ((conv => whnf); refine And.intro ?_ ?_))
    have hcond : decide ((i : Int) < ((eOs g).length : Int)) = false := by rw [lg]; exact ge_dec hge
    conv => whnf
    refine pickB_no hcond ?_
    conv => whnf
    clear hcond hge hi
    refine CodeP.seq 0 ?_
    conv => whnf
    refine LoopP.weaken (s2 := ⟨[.rd (eOs g), .rd (eAs l), .rd (eVs ls), .unk, .unk, .unk, .unk, .unk, .sl 0 0 (g.length + 1) (some (IntKind.i64.wrap (((eOs g).length : Int) + 1)).toNat), .unk, .sl 1 0 (l.length + 1) (some (IntKind.i64.wrap (((eAs l).length : Int) + 1)).toNat), .unk, .sl 2 0 (ls.length + 1) (some (IntKind.i64.wrap (((eVs ls).length : Int) + 1)).toNat), avOf ws 3, .unk, avOf ws 4, .unk, .ptr 6 0 0, .unk, .ptr 8 0 0, .unk, .unk, .unk, .unk, .unk, .unk, .unk, .unk, .unk, .unk, .unk, .unk, .unk, .unk, .unk, .unk, .unk, .unk, .unk, .unk, .unk, .unk, .unk, .unk, .unk, .unk, .unk, .unk, .unk, .unk, .unk, .unk, .unk, .unk, .unk, .unk, .unk, .unk, .unk, .unk, .unk, .unk, .unk, .unk, .unk, .unk, .unk, .unk, .unk, .unk, .unk, .unk, .unk, .unk, .unk, .unk, .unk, .unk, .unk, .unk, .unk, .unk, .unk, .unk, .unk, .unk, .unk, .unk, .unk, .unk, .unk, .unk, .unk, .unk, .unk, .unk, .unk, .unk, .unk, .unk, .unk, .unk, .unk, .unk, .unk, .unk, .unk, .unk, .unk, .unk, .unk, .unk, .unk, .unk, .unk, .unk, .unk, .unk, .unk, .unk, .unk, .unk, .unk, .unk, .unk, .unk, .unk, .unk, .rd (eAs l), I ((eAs l).length : Int), I (0 : Nat), .unk, .unk, .unk, .unk, .unk, .unk, .unk, .unk, .unk, .unk, .unk, .unk, .unk, .unk, .unk, .unk, .unk, .unk, .unk, .unk, .unk, .unk, .unk, .unk, .unk, .unk, .unk, .unk, .unk, .unk, .unk, .unk, .unk, .unk, .unk, .unk, .unk, .unk, .unk, .unk, .unk, .unk, .unk, .unk, .unk, .unk, .unk, .unk, .unk, .unk, .unk, .unk, .unk, .unk, .unk, .unk, .unk, .unk, .unk, .unk, .unk, .unk, .unk, .unk, .unk, .unk, .unk, .unk, .unk, .unk, .unk, .unk, .unk, .unk, .unk, .unk, .unk, .unk, .unk, .unk, .unk, .unk, .unk, .unk, .unk, .unk, .unk, .unk, .unk, .unk, .unk, .unk, .unk, .unk, .unk, .unk, .unk, .unk, .unk, .unk, .unk, .unk, .unk, .unk, .unk, .unk, .unk, .unk, .unk, .unk, .unk, .unk, .unk, .unk, .unk, .unk, .unk, .unk, .unk, .unk, .unk, .unk, .unk, .unk, .unk, .unk, .unk, .unk, .unk, .unk, .unk, .unk, .unk, .unk, .unk, .unk, .unk, .unk, .unk, .unk, .unk, .unk, .unk, .unk, .unk, .unk, .unk, .unk], [.row 12 true (eOs (g ++ [o5])), .row 6 true (eAs (l ++ [at3 3])), .row 3 true (eVs (ls ++ [v3 7])), abOf ws, abOf ws, cbOf c false, .box [I m, cvOf c 5 none], cbOf c false, .box [I m, cvOf c 7 none]]⟩) [0, 1, 2, 3, 4, 5, 6, 7, 8] ⟨?_, ?_, by decide, rfl⟩ ?_
    · repeat' (first | exact trivial | exact congrArg (fun x => LV.v (Value.int .i64 x)) (wrapS (by omega)) | rfl | (refine rens_av rfl ?_) | assumption | ((conv => whnf); refine And.intro ?_ ?_))
    · repeat' (first | exact trivial | rfl | exact renB_ab _ | exact renB_cb _ | exact rens_cv rfl | exact fun h => h | assumption | ((conv => whnf); refine And.intro ?_ ?_))
    refine loopInd 0 (by kernel_rfl) l.length (fun i (_ : Unit) => ⟨[.rd (eOs g), .rd (eAs l), .rd (eVs ls), .unk, .unk, .unk, .unk, .unk, .sl 0 0 (g.length + 1) (some (IntKind.i64.wrap (((eOs g).length : Int) + 1)).toNat), .unk, .sl 1 0 (l.length + 1) (some (IntKind.i64.wrap (((eAs l).length : Int) + 1)).toNat), .unk, .sl 2 0 (ls.length + 1) (some (IntKind.i64.wrap (((eVs ls).length : Int) + 1)).toNat), avOf ws 3, .unk, avOf ws 4, .unk, .ptr 6 0 0, .unk, .ptr 8 0 0, .unk, .unk, .unk, .unk, .unk, .unk, .unk, .unk, .unk, .unk, .unk, .unk, .unk, .unk, .unk, .unk, .unk, .unk, .unk, .unk, .unk, .unk, .unk, .unk, .unk, .unk, .unk, .unk, .unk, .unk, .unk, .unk, .unk, .unk, .unk, .unk, .unk, .unk, .unk, .unk, .unk, .unk, .unk, .unk, .unk, .unk, .unk, .unk, .unk, .unk, .unk, .unk, .unk, .unk, .unk, .unk, .unk, .unk, .unk, .unk, .unk, .unk, .unk, .unk, .unk, .unk, .unk, .unk, .unk, .unk, .unk, .unk, .unk, .unk, .unk, .unk, .unk, .unk, .unk, .unk, .unk, .unk, .unk, .unk, .unk, .unk, .unk, .unk, .unk, .unk, .unk, .unk, .unk, .unk, .unk, .unk, .unk, .unk, .unk, .unk, .unk, .unk, .unk, .unk, .unk, .unk, .unk, .unk, .rd (eAs l), I ((eAs l).length : Int), I (i : Nat), .unk, .unk, .unk, .unk, .unk, .unk, .unk, .unk, .unk, .unk, .unk, .unk, .unk, .unk, .unk, .unk, .unk, .unk, .unk, .unk, .unk, .unk, .unk, .unk, .unk, .unk, .unk, .unk, .unk, .unk, .unk, .unk, .unk, .unk, .unk, .unk, .unk, .unk, .unk, .unk, .unk, .unk, .unk, .unk, .unk, .unk, .unk, .unk, .unk, .unk, .unk, .unk, .unk, .unk, .unk, .unk, .unk, .unk, .unk, .unk, .unk, .unk, .unk, .unk, .unk, .unk, .unk, .unk, .unk, .unk, .unk, .unk, .unk, .unk, .unk, .unk, .unk, .unk, .unk, .unk, .unk, .unk, .unk, .unk, .unk, .unk, .unk, .unk, .unk, .unk, .unk, .unk, .unk, .unk, .unk, .unk, .unk, .unk, .unk, .unk, .unk, .unk, .unk, .unk, .unk, .unk, .unk, .unk, .unk, .unk, .unk, .unk, .unk, .unk, .unk, .unk, .unk, .unk, .unk, .unk, .unk, .unk, .unk, .unk, .unk, .unk, .unk, .unk, .unk, .unk, .unk, .unk, .unk, .unk, .unk, .unk, .unk, .unk, .unk, .unk, .unk, .unk, .unk, .unk, .unk, .unk, .unk, .unk], [.row 12 true (eOs (g ++ [o5])), .row 6 true (eAs (l ++ [at3 3])), .row 3 true (eVs (ls ++ [v3 7])), abOf ws, abOf ws, cbOf c false, .box [I m, cvOf c 5 none], cbOf c false, .box [I m, cvOf c 7 none]]⟩) (fun i _ => True) ?_ 0 () (Nat.zero_le _) trivial
    rintro i _ hi _
    rcases Nat.lt_or_ge i l.length with hlt | hge
    · obtain ⟨o, ho⟩ : ∃ o, l[i]? = some o := ⟨_, List.getElem?_eq_getElem hlt⟩
      have hcond : decide ((i : Int) < ((eAs l).length : Int)) = true := by rw [ll]; exact lt_dec hlt
      have h1 : (eAs l)[(i : Int).toNat]? = some (eAt o) := get_map (f := eAt) ho
      have h2 : (eAs (l ++ [at3 3]))[0 + (i : Int).toNat]? = some (eAt o) := by
        rw [Nat.zero_add]
        exact get_map (f := eAt) (by rw [List.getElem?_append_left hlt]; exact ho)
      conv => whnf
      refine pickB_yes hcond ?_
      conv => whnf
      refine (idxB_iff (i := (i : Int)) (len := ((l.length + 1 : Nat) : Int))).2 ⟨by omega, by omega, ?_⟩
      conv => whnf
      refine eltK_iff.2 ⟨_, h2, ?_⟩
      conv => whnf
      refine eltK_iff.2 ⟨_, h1, ?_⟩
      conv => whnf
      refine pickB_no (by simp) ?_
      conv => whnf
      refine' ⟨(), [0, 1, 2, 3, 4, 5, 6, 7, 8], hlt, trivial, ⟨?t, ?h, by decide, rfl⟩⟩
      case t => repeat' (first | exact trivial | exact congrArg (fun x => LV.v (Value.int .i64 x)) (wrapS (by omega)) | rfl | (refine rens_av rfl ?_) | assumption | ((conv => whnf); refine And.intro ?_ ?_))
      case h => repeat' (first | exact trivial | rfl | exact renB_ab _ | exact renB_cb _ | exact rens_cv rfl | exact fun h => h | assumption | ((conv => whnf); refine And.intro ?_ ?_))
    have hcond : decide ((i : Int) < ((eAs l).length : Int)) = false := by rw [ll]; exact ge_dec hge
    conv => whnf
    refine pickB_no hcond ?_
    conv => whnf
    clear hcond hge hi
    refine CodeP.seq 0 ?_
    conv => whnf
    refine LoopP.weaken (s2 := ⟨[.rd (eOs g), .rd (eAs l), .rd (eVs ls), .unk, .unk, .unk, .unk, .unk, .sl 0 0 (g.length + 1) (some (IntKind.i64.wrap (((eOs g).length : Int) + 1)).toNat), .unk, .sl 1 0 (l.length + 1) (some (IntKind.i64.wrap (((eAs l).length : Int) + 1)).toNat), .unk, .sl 2 0 (ls.length + 1) (some (IntKind.i64.wrap (((eVs ls).length : Int) + 1)).toNat), avOf ws 3, .unk, avOf ws 4, .unk, .ptr 6 0 0, .unk, .ptr 8 0 0, .unk, .unk, .unk, .unk, .unk, .unk, .unk, .unk, .unk, .unk, .unk, .unk, .unk, .unk, .unk, .unk, .unk, .unk, .unk, .unk, .unk, .unk, .unk, .unk, .unk, .unk, .unk, .unk, .unk, .unk, .unk, .unk, .unk, .unk, .unk, .unk, .unk, .unk, .unk, .unk, .unk, .unk, .unk, .unk, .unk, .unk, .unk, .unk, .unk, .unk, .unk, .unk, .unk, .unk, .unk, .unk, .unk, .unk, .unk, .unk, .unk, .unk, .unk, .unk, .unk, .unk, .unk, .unk, .unk, .unk, .unk, .unk, .unk, .unk, .unk, .unk, .unk, .unk, .unk, .unk, .unk, .unk, .unk, .unk, .unk, .unk, .unk, .unk, .unk, .unk, .unk, .unk, .unk, .unk, .unk, .unk, .unk, .unk, .unk, .unk, .unk, .unk, .unk, .unk, .unk, .unk, .unk, .unk, .unk, .unk, .unk, .unk, .unk, .unk, .unk, .unk, .unk, .unk, .unk, .unk, .unk, .unk, .unk, .rd (eVs ls), I ((eVs ls).length : Int), I (0 : Nat), .unk, .unk, .unk, .unk, .unk, .unk, .unk, .unk, .unk, .unk, .unk, .unk, .unk, .unk, .unk, .unk, .unk, .unk, .unk, .unk, .unk, .unk, .unk, .unk, .unk, .unk, .unk, .unk, .unk, .unk, .unk, .unk, .unk, .unk, .unk, .unk, .unk, .unk, .unk, .unk, .unk, .unk, .unk, .unk, .unk, .unk, .unk, .unk, .unk, .unk, .unk, .unk, .unk, .unk, .unk, .unk, .unk, .unk, .unk, .unk, .unk, .unk, .unk, .unk, .unk, .unk, .unk, .unk, .unk, .unk, .unk, .unk, .unk, .unk, .unk, .unk, .unk, .unk, .unk, .unk, .unk, .unk, .unk, .unk, .unk, .unk, .unk, .unk, .unk, .unk, .unk, .unk, .unk, .unk, .unk, .unk, .unk, .unk, .unk, .unk, .unk, .unk, .unk, .unk, .unk, .unk, .unk, .unk, .unk, .unk, .unk, .unk, .unk, .unk, .unk, .unk, .unk, .unk, .unk, .unk, .unk, .unk, .unk, .unk, .unk, .unk, .unk, .unk, .unk, .unk, .unk, .unk, .unk], [.row 12 true (eOs (g ++ [o5])), .row 6 true (eAs (l ++ [at3 3])), .row 3 true (eVs (ls ++ [v3 7])), abOf ws, abOf ws, cbOf c false, .box [I m, cvOf c 5 none], cbOf c false, .box [I m, cvOf c 7 none]]⟩) [0, 1, 2, 3, 4, 5, 6, 7, 8] ⟨?_, ?_, by decide, rfl⟩ ?_
    · repeat' (first | exact trivial | exact congrArg (fun x => LV.v (Value.int .i64 x)) (wrapS (by omega)) | rfl | (refine rens_av rfl ?_) | assumption | ((conv => whnf); refine And.intro ?_ ?_))
    · repeat' (first | exact trivial | rfl | exact renB_ab _ | exact renB_cb _ | exact rens_cv rfl | exact fun h => h | assumption | ((conv => whnf); refine And.intro ?_ ?_))
    refine loopInd 0 (by kernel_rfl) ls.length (fun i (_ : Unit) => ⟨[.rd (eOs g), .rd (eAs l), .rd (eVs ls), .unk, .unk, .unk, .unk, .unk, .sl 0 0 (g.length + 1) (some (IntKind.i64.wrap (((eOs g).length : Int) + 1)).toNat), .unk, .sl 1 0 (l.length + 1) (some (IntKind.i64.wrap (((eAs l).length : Int) + 1)).toNat), .unk, .sl 2 0 (ls.length + 1) (some (IntKind.i64.wrap (((eVs ls).length : Int) + 1)).toNat), avOf ws 3, .unk, avOf ws 4, .unk, .ptr 6 0 0, .unk, .ptr 8 0 0, .unk, .unk, .unk, .unk, .unk, .unk, .unk, .unk, .unk, .unk, .unk, .unk, .unk, .unk, .unk, .unk, .unk, .unk, .unk, .unk, .unk, .unk, .unk, .unk, .unk, .unk, .unk, .unk, .unk, .unk, .unk, .unk, .unk, .unk, .unk, .unk, .unk, .unk, .unk, .unk, .unk, .unk, .unk, .unk, .unk, .unk, .unk, .unk, .unk, .unk, .unk, .unk, .unk, .unk, .unk, .unk, .unk, .unk, .unk, .unk, .unk, .unk, .unk, .unk, .unk, .unk, .unk, .unk, .unk, .unk, .unk, .unk, .unk, .unk, .unk, .unk, .unk, .unk, .unk, .unk, .unk, .unk, .unk, .unk, .unk, .unk, .unk, .unk, .unk, .unk, .unk, .unk, .unk, .unk, .unk, .unk, .unk, .unk, .unk, .unk, .unk, .unk, .unk, .unk, .unk, .unk, .unk, .unk, .unk, .unk, .unk, .unk, .unk, .unk, .unk, .unk, .unk, .unk, .unk, .unk, .unk, .unk, .unk, .rd (eVs ls), I ((eVs ls).length : Int), I (i : Nat), .unk, .unk, .unk, .unk, .unk, .unk, .unk, .unk, .unk, .unk, .unk, .unk, .unk, .unk, .unk, .unk, .unk, .unk, .unk, .unk, .unk, .unk, .unk, .unk, .unk, .unk, .unk, .unk, .unk, .unk, .unk, .unk, .unk, .unk, .unk, .unk, .unk, .unk, .unk, .unk, .unk, .unk, .unk, .unk, .unk, .unk, .unk, .unk, .unk, .unk, .unk, .unk, .unk, .unk, .unk, .unk, .unk, .unk, .unk, .unk, .unk, .unk, .unk, .unk, .unk, .unk, .unk, .unk, .unk, .unk, .unk, .unk, .unk, .unk, .unk, .unk, .unk, .unk, .unk, .unk, .unk, .unk, .unk, .unk, .unk, .unk, .unk, .unk, .unk, .unk, .unk, .unk, .unk, .unk, .unk, .unk, .unk, .unk, .unk, .unk, .unk, .unk, .unk, .unk, .unk, .unk, .unk, .unk, .unk, .unk, .unk, .unk, .unk, .unk, .unk, .unk, .unk, .unk, .unk, .unk, .unk, .unk, .unk, .unk, .unk, .unk, .unk, .unk, .unk, .unk, .unk, .unk, .unk], [.row 12 true (eOs (g ++ [o5])), .row 6 true (eAs (l ++ [at3 3])), .row 3 true (eVs (ls ++ [v3 7])), abOf ws, abOf ws, cbOf c false, .box [I m, cvOf c 5 none], cbOf c false, .box [I m, cvOf c 7 none]]⟩) (fun i _ => True) ?_ 0 () (Nat.zero_le _) trivial
    rintro i _ hi _
    rcases Nat.lt_or_ge i ls.length with hlt | hge
    · obtain ⟨o, ho⟩ : ∃ o, ls[i]? = some o := ⟨_, List.getElem?_eq_getElem hlt⟩
      have hcond : decide ((i : Int) < ((eVs ls).length : Int)) = true := by rw [lv]; exact lt_dec hlt
      have h1 : (eVs ls)[(i : Int).toNat]? = some (eV o) := get_map (f := eV) ho
      have h2 : (eVs (ls ++ [v3 7]))[0 + (i : Int).toNat]? = some (eV o) := by
        rw [Nat.zero_add]
        exact get_map (f := eV) (by rw [List.getElem?_append_left hlt]; exact ho)
      conv => whnf
      refine pickB_yes hcond ?_
      conv => whnf
      refine (idxB_iff (i := (i : Int)) (len := ((ls.length + 1 : Nat) : Int))).2 ⟨by omega, by omega, ?_⟩
      conv => whnf
      refine eltK_iff.2 ⟨_, h2, ?_⟩
      conv => whnf
      refine eltK_iff.2 ⟨_, h1, ?_⟩
      conv => whnf
      refine pickB_no (by simp) ?_
      conv => whnf
      refine' ⟨(), [0, 1, 2, 3, 4, 5, 6, 7, 8], hlt, trivial, ⟨?t, ?h, by decide, rfl⟩⟩
      case t => repeat' (first | exact trivial | exact congrArg (fun x => LV.v (Value.int .i64 x)) (wrapS (by omega)) | rfl | (refine rens_av rfl ?_) | assumption | ((conv => whnf); refine And.intro ?_ ?_))
      case h => repeat' (first | exact trivial | rfl | exact renB_ab _ | exact renB_cb _ | exact rens_cv rfl | exact fun h => h | assumption | ((conv => whnf); refine And.intro ?_ ?_))
    have hcond : decide ((i : Int) < ((eVs ls).length : Int)) = false := by rw [lv]; exact ge_dec hge
    conv => whnf
    refine pickB_no hcond ?_
    conv => whnf
    clear hcond hge hi
    refine CodeP.seq 0 ?_
    conv => whnf
    have hx5 : (eOs (g ++ [o5]))[0 + ((eOs g).length : Int).toNat]? = some (eO o5) := by
      rw [Nat.zero_add, ng]
      exact get_map (f := eO) (i := g.length) (by simp)
    have hy5 : (eAs (l ++ [at3 3]))[0 + ((eAs l).length : Int).toNat]? = some (eAt (at3 3)) := by
      rw [Nat.zero_add, nl]
      exact get_map (f := eAt) (i := l.length) (by simp)
    have hz5 : (eVs (ls ++ [v3 7]))[0 + ((eVs ls).length : Int).toNat]? = some (eV (v3 7)) := by
      rw [Nat.zero_add, nv]
      exact get_map (f := eV) (i := ls.length) (by simp)
    refine (idxB_iff (i := ((eOs g).length : Int)) (len := ((g.length + 1 : Nat) : Int))).2 ⟨by omega, by rw [lg]; omega, ?_⟩
    conv => whnf
    refine eltK_iff.2 ⟨_, hx5, ?_⟩
    conv => whnf
    refine (idxB_iff (i := ((eAs l).length : Int)) (len := ((l.length + 1 : Nat) : Int))).2 ⟨by omega, by rw [ll]; omega, ?_⟩
    conv => whnf
    refine eltK_iff.2 ⟨_, hy5, ?_⟩
    conv => whnf
    refine (idxB_iff (i := ((eVs ls).length : Int)) (len := ((ls.length + 1 : Nat) : Int))).2 ⟨by omega, by rw [lv]; omega, ?_⟩
    conv => whnf
    refine eltK_iff.2 ⟨_, hz5, ?_⟩
    conv => whnf
    refine CodeP.seq 0 ?_
    conv => whnf
    refine LoopP.weaken (s2 := ⟨[.rd (eOs g), .rd (eAs l), .rd (eVs ls), .unk, .unk, .unk, .unk, .unk, .sl 0 0 (g.length + 1) (some (IntKind.i64.wrap (((eOs g).length : Int) + 1)).toNat), .unk, .sl 1 0 (l.length + 1) (some (IntKind.i64.wrap (((eAs l).length : Int) + 1)).toNat), .unk, .sl 2 0 (ls.length + 1) (some (IntKind.i64.wrap (((eVs ls).length : Int) + 1)).toNat), avOf ws 3, .unk, avOf ws 4, .unk, .ptr 6 0 0, .unk, .ptr 8 0 0, .unk, .unk, .unk, .unk, .unk, .unk, .unk, .unk, .unk, .unk, .unk, .unk, .unk, .unk, .unk, .unk, .unk, .unk, .unk, .unk, .unk, .unk, .unk, .unk, .unk, .unk, .unk, .unk, .unk, .unk, .unk, .unk, .unk, .unk, .unk, .unk, .unk, .unk, .unk, .unk, .unk, .unk, .unk, .unk, .unk, .unk, .unk, .unk, .unk, .unk, .unk, .unk, .unk, .unk, .unk, .unk, .unk, .unk, .unk, .unk, .unk, .unk, .unk, .unk, .unk, .unk, .unk, .unk, .unk, .unk, .unk, .unk, .unk, .unk, .unk, .unk, .unk, .unk, .unk, .unk, .unk, .unk, .unk, .unk, .unk, .unk, .unk, .unk, .unk, .unk, .unk, .unk, .unk, .unk, .unk, .unk, .unk, .unk, .unk, .unk, .unk, .unk, .unk, .unk, .unk, .unk, .unk, .unk, .unk, .unk, .unk, .unk, .unk, .unk, .unk, .unk, .unk, .unk, .unk, .unk, .unk, .unk, .unk, .unk, .unk, .unk, .unk, .unk, .unk, .unk, .unk, .unk, .unk, .unk, .unk, .unk, .unk, .unk, .unk, .unk, .unk, .unk, .unk, .unk, .unk, .unk, .unk, .unk, .unk, .unk, .unk, .unk, .unk, .unk, .unk, .unk, .unk, .unk, .unk, .unk, .unk, .unk, .unk, .unk, .unk, I ((g.length + 1 : Nat) : Int), I (0 : Nat), .unk, .unk, .unk, .unk, .unk, .unk, .unk, .unk, .unk, .unk, .unk, .unk, .unk, .unk, .unk, .unk, .unk, .unk, .unk, .unk, .unk, .unk, .unk, .unk, .unk, .unk, .unk, .unk, .unk, .unk, .unk, .unk, .unk, .unk, .unk, .unk, .unk, .unk, .unk, .unk, .unk, .unk, .unk, .unk, .unk, .unk, .unk, .unk, .unk, .unk, .unk, .unk, .unk, .unk, .unk, .unk, .unk, .unk, .unk, .unk, .unk, .unk, .unk, .unk, .unk, .unk, .unk, .unk, .unk, .unk, .unk, .unk, .unk, .unk, .unk, .unk, .unk, .unk, .unk, .unk, .unk, .unk, .unk, .unk, .unk, .unk, .unk, .unk, .unk, .unk, .unk, .unk], [.row 12 true (eOs (g ++ [o5])), .row 6 true (eAs (l ++ [at3 3])), .row 3 true (eVs (ls ++ [v3 7])), abOf ws, abOf ws, cbOf c false, .box [I m, cvOf c 5 none], cbOf c false, .box [I m, cvOf c 7 none]]⟩) [0, 1, 2, 3, 4, 5, 6, 7, 8] ⟨?_, ?_, by decide, rfl⟩ ?_
    · repeat' (first | exact trivial | exact congrArg (fun x => LV.v (Value.int .i64 x)) (wrapS (by omega)) | rfl | (refine rens_av rfl ?_) | assumption | ((conv => whnf); refine And.intro ?_ ?_))
    · repeat' (first | exact trivial | rfl | exact renB_ab _ | exact renB_cb _ | exact rens_cv rfl | exact fun h => h | assumption | ((conv => whnf); refine And.intro ?_ ?_))
    refine loopInd 0 (by kernel_rfl) (g.length + 1) (fun i (G : List O) => ⟨[.rd (eOs g), .rd (eAs l), .rd (eVs ls), .unk, .unk, .unk, .unk, .unk, .sl 0 0 (g.length + 1) (some (IntKind.i64.wrap (((eOs g).length : Int) + 1)).toNat), .unk, .sl 1 0 (l.length + 1) (some (IntKind.i64.wrap (((eAs l).length : Int) + 1)).toNat), .unk, .sl 2 0 (ls.length + 1) (some (IntKind.i64.wrap (((eVs ls).length : Int) + 1)).toNat), avOf ws 3, .unk, avOf ws 4, .unk, .ptr 6 0 0, .unk, .ptr 8 0 0, .unk, .unk, .unk, .unk, .unk, .unk, .unk, .unk, .unk, .unk, .unk, .unk, .unk, .unk, .unk, .unk, .unk, .unk, .unk, .unk, .unk, .unk, .unk, .unk, .unk, .unk, .unk, .unk, .unk, .unk, .unk, .unk, .unk, .unk, .unk, .unk, .unk, .unk, .unk, .unk, .unk, .unk, .unk, .unk, .unk, .unk, .unk, .unk, .unk, .unk, .unk, .unk, .unk, .unk, .unk, .unk, .unk, .unk, .unk, .unk, .unk, .unk, .unk, .unk, .unk, .unk, .unk, .unk, .unk, .unk, .unk, .unk, .unk, .unk, .unk, .unk, .unk, .unk, .unk, .unk, .unk, .unk, .unk, .unk, .unk, .unk, .unk, .unk, .unk, .unk, .unk, .unk, .unk, .unk, .unk, .unk, .unk, .unk, .unk, .unk, .unk, .unk, .unk, .unk, .unk, .unk, .unk, .unk, .unk, .unk, .unk, .unk, .unk, .unk, .unk, .unk, .unk, .unk, .unk, .unk, .unk, .unk, .unk, .unk, .unk, .unk, .unk, .unk, .unk, .unk, .unk, .unk, .unk, .unk, .unk, .unk, .unk, .unk, .unk, .unk, .unk, .unk, .unk, .unk, .unk, .unk, .unk, .unk, .unk, .unk, .unk, .unk, .unk, .unk, .unk, .unk, .unk, .unk, .unk, .unk, .unk, .unk, .unk, .unk, .unk, I ((g.length + 1 : Nat) : Int), I (i : Nat), .unk, .unk, .unk, .unk, .unk, .unk, .unk, .unk, .unk, .unk, .unk, .unk, .unk, .unk, .unk, .unk, .unk, .unk, .unk, .unk, .unk, .unk, .unk, .unk, .unk, .unk, .unk, .unk, .unk, .unk, .unk, .unk, .unk, .unk, .unk, .unk, .unk, .unk, .unk, .unk, .unk, .unk, .unk, .unk, .unk, .unk, .unk, .unk, .unk, .unk, .unk, .unk, .unk, .unk, .unk, .unk, .unk, .unk, .unk, .unk, .unk, .unk, .unk, .unk, .unk, .unk, .unk, .unk, .unk, .unk, .unk, .unk, .unk, .unk, .unk, .unk, .unk, .unk, .unk, .unk, .unk, .unk, .unk, .unk, .unk, .unk, .unk, .unk, .unk, .unk, .unk, .unk], [.row 12 true (eOs G), .row 6 true (eAs (l ++ [at3 3])), .row 3 true (eVs (ls ++ [v3 7])), abOf ws, abOf ws, cbOf c false, .box [I m, cvOf c 5 none], cbOf c false, .box [I m, cvOf c 7 none]]⟩) (fun i G => G.length = g.length + 1) ?_ 0 (g ++ [o5]) (Nat.zero_le _) (by simp)
    rintro i G hi hG
    rcases Nat.lt_or_ge i (g.length + 1) with hlt | hge
    · obtain ⟨o, ho⟩ : ∃ o, G[i]? = some o := ⟨_, List.getElem?_eq_getElem (by omega)⟩
      have hcond : decide ((i : Int) < ((g.length + 1 : Nat) : Int)) = true := lt_dec hlt
      have h2 : (eOs G)[0 + (i : Int).toNat]? = some (eO o) := by
        rw [Nat.zero_add]
        exact get_map (f := eO) ho
      have hset : (eOs G).set (0 + (i : Int).toNat) (eO o0) = eOs (G.set i o0) := set_map (f := eO)
      conv => whnf
      refine pickB_yes hcond ?_
      conv => whnf
      refine (idxB_iff (i := (i : Int)) (len := ((g.length + 1 : Nat) : Int))).2 ⟨by omega, by omega, ?_⟩
      conv => whnf
      refine eltK_iff.2 ⟨_, h2, ?_⟩
      conv => whnf
      refine' ⟨G.set i o0, [0, 1, 2, 3, 4, 5, 6, 7, 8], hlt, (by rw [List.length_set]; exact hG), ⟨?t, ?h, by decide, rfl⟩⟩
      case t => repeat' (first | exact trivial | exact congrArg (fun x => LV.v (Value.int .i64 x)) (wrapS (by omega)) | rfl | (refine rens_av rfl ?_) | assumption | ((conv => whnf); refine And.intro ?_ ?_))
      case h => repeat' (first | exact trivial | rfl | exact renB_ab _ | exact renB_cb _ | exact rens_cv rfl | exact fun h => h | assumption | ((conv => whnf); refine And.intro ?_ ?_))
    have hcond : decide ((i : Int) < ((g.length + 1 : Nat) : Int)) = false := ge_dec hge
    conv => whnf
    refine pickB_no hcond ?_
    conv => whnf
    clear hcond hge hi hG
    refine CodeP.seq 0 ?_
    conv => whnf
    refine LoopP.weaken (s2 := ⟨[.rd (eOs g), .rd (eAs l), .rd (eVs ls), .unk, .unk, .unk, .unk, .unk, .sl 0 0 (g.length + 1) (some (IntKind.i64.wrap (((eOs g).length : Int) + 1)).toNat), .unk, .sl 1 0 (l.length + 1) (some (IntKind.i64.wrap (((eAs l).length : Int) + 1)).toNat), .unk, .sl 2 0 (ls.length + 1) (some (IntKind.i64.wrap (((eVs ls).length : Int) + 1)).toNat), avOf ws 3, .unk, avOf ws 4, .unk, .ptr 6 0 0, .unk, .ptr 8 0 0, .unk, .unk, .unk, .unk, .unk, .unk, .unk, .unk, .unk, .unk, .unk, .unk, .unk, .unk, .unk, .unk, .unk, .unk, .unk, .unk, .unk, .unk, .unk, .unk, .unk, .unk, .unk, .unk, .unk, .unk, .unk, .unk, .unk, .unk, .unk, .unk, .unk, .unk, .unk, .unk, .unk, .unk, .unk, .unk, .unk, .unk, .unk, .unk, .unk, .unk, .unk, .unk, .unk, .unk, .unk, .unk, .unk, .unk, .unk, .unk, .unk, .unk, .unk, .unk, .unk, .unk, .unk, .unk, .unk, .unk, .unk, .unk, .unk, .unk, .unk, .unk, .unk, .unk, .unk, .unk, .unk, .unk, .unk, .unk, .unk, .unk, .unk, .unk, .unk, .unk, .unk, .unk, .unk, .unk, .unk, .unk, .unk, .unk, .unk, .unk, .unk, .unk, .unk, .unk, .unk, .unk, .unk, .unk, .unk, .unk, .unk, .unk, .unk, .unk, .unk, .unk, .unk, .unk, .unk, .unk, .unk, .unk, .unk, .unk, .unk, .unk, .unk, .unk, .unk, .unk, .unk, .unk, .unk, .unk, .unk, .unk, .unk, .unk, .unk, .unk, .unk, .unk, .unk, .unk, .unk, .unk, .unk, .unk, .unk, .unk, .unk, .unk, .unk, .unk, .unk, .unk, .unk, .unk, .unk, .unk, .unk, .unk, .unk, .unk, .unk, .unk, .unk, .unk, .unk, .unk, .unk, .unk, .unk, .unk, .unk, I ((l.length + 1 : Nat) : Int), I (0 : Nat), .unk, .unk, .unk, .unk, .unk, .unk, .unk, .unk, .unk, .unk, .unk, .unk, .unk, .unk, .unk, .unk, .unk, .unk, .unk, .unk, .unk, .unk, .unk, .unk, .unk, .unk, .unk, .unk, .unk, .unk, .unk, .unk, .unk, .unk, .unk, .unk, .unk, .unk, .unk, .unk, .unk, .unk, .unk, .unk, .unk, .unk, .unk, .unk, .unk, .unk, .unk, .unk, .unk, .unk, .unk, .unk, .unk, .unk, .unk, .unk, .unk, .unk, .unk, .unk, .unk, .unk, .unk, .unk, .unk, .unk, .unk, .unk, .unk, .unk, .unk, .unk, .unk, .unk, .unk, .unk, .unk, .unk], [.dead, .row 6 true (eAs (l ++ [at3 3])), .row 3 true (eVs (ls ++ [v3 7])), abOf ws, abOf ws, cbOf c false, .box [I m, cvOf c 5 none], cbOf c false, .box [I m, cvOf c 7 none]]⟩) [0, 1, 2, 3, 4, 5, 6, 7, 8] ⟨?_, ?_, by decide, rfl⟩ ?_
    · repeat' (first | exact trivial | exact congrArg (fun x => LV.v (Value.int .i64 x)) (wrapS (by omega)) | rfl | (refine rens_av rfl ?_) | assumption | ((conv => whnf); refine And.intro ?_ ?_))
    · repeat' (first | exact trivial | rfl | exact renB_ab _ | exact renB_cb _ | exact rens_cv rfl | exact fun h => h | assumption | ((conv => whnf); refine And.intro ?_ ?_))
    refine loopInd 0 (by kernel_rfl) (l.length + 1) (fun i (G : List Atm) => ⟨[.rd (eOs g), .rd (eAs l), .rd (eVs ls), .unk, .unk, .unk, .unk, .unk, .sl 0 0 (g.length + 1) (some (IntKind.i64.wrap (((eOs g).length : Int) + 1)).toNat), .unk, .sl 1 0 (l.length + 1) (some (IntKind.i64.wrap (((eAs l).length : Int) + 1)).toNat), .unk, .sl 2 0 (ls.length + 1) (some (IntKind.i64.wrap (((eVs ls).length : Int) + 1)).toNat), avOf ws 3, .unk, avOf ws 4, .unk, .ptr 6 0 0, .unk, .ptr 8 0 0, .unk, .unk, .unk, .unk, .unk, .unk, .unk, .unk, .unk, .unk, .unk, .unk, .unk, .unk, .unk, .unk, .unk, .unk, .unk, .unk, .unk, .unk, .unk, .unk, .unk, .unk, .unk, .unk, .unk, .unk, .unk, .unk, .unk, .unk, .unk, .unk, .unk, .unk, .unk, .unk, .unk, .unk, .unk, .unk, .unk, .unk, .unk, .unk, .unk, .unk, .unk, .unk, .unk, .unk, .unk, .unk, .unk, .unk, .unk, .unk, .unk, .unk, .unk, .unk, .unk, .unk, .unk, .unk, .unk, .unk, .unk, .unk, .unk, .unk, .unk, .unk, .unk, .unk, .unk, .unk, .unk, .unk, .unk, .unk, .unk, .unk, .unk, .unk, .unk, .unk, .unk, .unk, .unk, .unk, .unk, .unk, .unk, .unk, .unk, .unk, .unk, .unk, .unk, .unk, .unk, .unk, .unk, .unk, .unk, .unk, .unk, .unk, .unk, .unk, .unk, .unk, .unk, .unk, .unk, .unk, .unk, .unk, .unk, .unk, .unk, .unk, .unk, .unk, .unk, .unk, .unk, .unk, .unk, .unk, .unk, .unk, .unk, .unk, .unk, .unk, .unk, .unk, .unk, .unk, .unk, .unk, .unk, .unk, .unk, .unk, .unk, .unk, .unk, .unk, .unk, .unk, .unk, .unk, .unk, .unk, .unk, .unk, .unk, .unk, .unk, .unk, .unk, .unk, .unk, .unk, .unk, .unk, .unk, .unk, .unk, I ((l.length + 1 : Nat) : Int), I (i : Nat), .unk, .unk, .unk, .unk, .unk, .unk, .unk, .unk, .unk, .unk, .unk, .unk, .unk, .unk, .unk, .unk, .unk, .unk, .unk, .unk, .unk, .unk, .unk, .unk, .unk, .unk, .unk, .unk, .unk, .unk, .unk, .unk, .unk, .unk, .unk, .unk, .unk, .unk, .unk, .unk, .unk, .unk, .unk, .unk, .unk, .unk, .unk, .unk, .unk, .unk, .unk, .unk, .unk, .unk, .unk, .unk, .unk, .unk, .unk, .unk, .unk, .unk, .unk, .unk, .unk, .unk, .unk, .unk, .unk, .unk, .unk, .unk, .unk, .unk, .unk, .unk, .unk, .unk, .unk, .unk, .unk, .unk], [.dead, .row 6 true (eAs G), .row 3 true (eVs (ls ++ [v3 7])), abOf ws, abOf ws, cbOf c false, .box [I m, cvOf c 5 none], cbOf c false, .box [I m, cvOf c 7 none]]⟩) (fun i G => G.length = l.length + 1) ?_ 0 (l ++ [at3 3]) (Nat.zero_le _) (by simp)
    rintro i G hi hG
    rcases Nat.lt_or_ge i (l.length + 1) with hlt | hge
    · obtain ⟨o, ho⟩ : ∃ o, G[i]? = some o := ⟨_, List.getElem?_eq_getElem (by omega)⟩
      have hcond : decide ((i : Int) < ((l.length + 1 : Nat) : Int)) = true := lt_dec hlt
      have h2 : (eAs G)[0 + (i : Int).toNat]? = some (eAt o) := by
        rw [Nat.zero_add]
        exact get_map (f := eAt) ho
      have hset : (eAs G).set (0 + (i : Int).toNat) (eAt (at3 9)) = eAs (G.set i (at3 9)) := set_map (f := eAt)
      conv => whnf
      refine pickB_yes hcond ?_
      conv => whnf
      refine (idxB_iff (i := (i : Int)) (len := ((l.length + 1 : Nat) : Int))).2 ⟨by omega, by omega, ?_⟩
      conv => whnf
      refine eltK_iff.2 ⟨_, h2, ?_⟩
      conv => whnf
      refine' ⟨G.set i (at3 9), [0, 1, 2, 3, 4, 5, 6, 7, 8], hlt, (by rw [List.length_set]; exact hG), ⟨?t, ?h, by decide, rfl⟩⟩
      case t => repeat' (first | exact trivial | exact congrArg (fun x => LV.v (Value.int .i64 x)) (wrapS (by omega)) | rfl | (refine rens_av rfl ?_) | assumption | ((conv => whnf); refine And.intro ?_ ?_))
      case h => repeat' (first | exact trivial | rfl | exact renB_ab _ | exact renB_cb _ | exact rens_cv rfl | exact fun h => h | assumption | ((conv => whnf); refine And.intro ?_ ?_))
    have hcond : decide ((i : Int) < ((l.length + 1 : Nat) : Int)) = false := ge_dec hge
    conv => whnf
    refine pickB_no hcond ?_
    conv => whnf
    clear hcond hge hi hG
    refine CodeP.seq 0 ?_
    conv => whnf
    refine LoopP.weaken (s2 := ⟨[.rd (eOs g), .rd (eAs l), .rd (eVs ls), .unk, .unk, .unk, .unk, .unk, .sl 0 0 (g.length + 1) (some (IntKind.i64.wrap (((eOs g).length : Int) + 1)).toNat), .unk, .sl 1 0 (l.length + 1) (some (IntKind.i64.wrap (((eAs l).length : Int) + 1)).toNat), .unk, .sl 2 0 (ls.length + 1) (some (IntKind.i64.wrap (((eVs ls).length : Int) + 1)).toNat), avOf ws 3, .unk, avOf ws 4, .unk, .ptr 6 0 0, .unk, .ptr 8 0 0, .unk, .unk, .unk, .unk, .unk, .unk, .unk, .unk, .unk, .unk, .unk, .unk, .unk, .unk, .unk, .unk, .unk, .unk, .unk, .unk, .unk, .unk, .unk, .unk, .unk, .unk, .unk, .unk, .unk, .unk, .unk, .unk, .unk, .unk, .unk, .unk, .unk, .unk, .unk, .unk, .unk, .unk, .unk, .unk, .unk, .unk, .unk, .unk, .unk, .unk, .unk, .unk, .unk, .unk, .unk, .unk, .unk, .unk, .unk, .unk, .unk, .unk, .unk, .unk, .unk, .unk, .unk, .unk, .unk, .unk, .unk, .unk, .unk, .unk, .unk, .unk, .unk, .unk, .unk, .unk, .unk, .unk, .unk, .unk, .unk, .unk, .unk, .unk, .unk, .unk, .unk, .unk, .unk, .unk, .unk, .unk, .unk, .unk, .unk, .unk, .unk, .unk, .unk, .unk, .unk, .unk, .unk, .unk, .unk, .unk, .unk, .unk, .unk, .unk, .unk, .unk, .unk, .unk, .unk, .unk, .unk, .unk, .unk, .unk, .unk, .unk, .unk, .unk, .unk, .unk, .unk, .unk, .unk, .unk, .unk, .unk, .unk, .unk, .unk, .unk, .unk, .unk, .unk, .unk, .unk, .unk, .unk, .unk, .unk, .unk, .unk, .unk, .unk, .unk, .unk, .unk, .unk, .unk, .unk, .unk, .unk, .unk, .unk, .unk, .unk, .unk, .unk, .unk, .unk, .unk, .unk, .unk, .unk, .unk, .unk, .unk, .unk, .unk, .unk, .unk, .unk, .unk, .unk, .unk, .unk, I ((ls.length + 1 : Nat) : Int), I (0 : Nat), .unk, .unk, .unk, .unk, .unk, .unk, .unk, .unk, .unk, .unk, .unk, .unk, .unk, .unk, .unk, .unk, .unk, .unk, .unk, .unk, .unk, .unk, .unk, .unk, .unk, .unk, .unk, .unk, .unk, .unk, .unk, .unk, .unk, .unk, .unk, .unk, .unk, .unk, .unk, .unk, .unk, .unk, .unk, .unk, .unk, .unk, .unk, .unk, .unk, .unk, .unk, .unk, .unk, .unk, .unk, .unk, .unk, .unk, .unk, .unk, .unk, .unk, .unk, .unk, .unk, .unk, .unk, .unk, .unk, .unk, .unk, .unk], [.dead, .dead, .row 3 true (eVs (ls ++ [v3 7])), abOf ws, abOf ws, cbOf c false, .box [I m, cvOf c 5 none], cbOf c false, .box [I m, cvOf c 7 none]]⟩) [0, 1, 2, 3, 4, 5, 6, 7, 8] ⟨?_, ?_, by decide, rfl⟩ ?_
    · repeat' (first | exact trivial | exact congrArg (fun x => LV.v (Value.int .i64 x)) (wrapS (by omega)) | rfl | (refine rens_av rfl ?_) | assumption | ((conv => whnf); refine And.intro ?_ ?_))
    · repeat' (first | exact trivial | rfl | exact renB_ab _ | exact renB_cb _ | exact rens_cv rfl | exact fun h => h | assumption | ((conv => whnf); refine And.intro ?_ ?_))
    refine loopInd 0 (by kernel_rfl) (ls.length + 1) (fun i (G : List V) => ⟨[.rd (eOs g), .rd (eAs l), .rd (eVs ls), .unk, .unk, .unk, .unk, .unk, .sl 0 0 (g.length + 1) (some (IntKind.i64.wrap (((eOs g).length : Int) + 1)).toNat), .unk, .sl 1 0 (l.length + 1) (some (IntKind.i64.wrap (((eAs l).length : Int) + 1)).toNat), .unk, .sl 2 0 (ls.length + 1) (some (IntKind.i64.wrap (((eVs ls).length : Int) + 1)).toNat), avOf ws 3, .unk, avOf ws 4, .unk, .ptr 6 0 0, .unk, .ptr 8 0 0, .unk, .unk, .unk, .unk, .unk, .unk, .unk, .unk, .unk, .unk, .unk, .unk, .unk, .unk, .unk, .unk, .unk, .unk, .unk, .unk, .unk, .unk, .unk, .unk, .unk, .unk, .unk, .unk, .unk, .unk, .unk, .unk, .unk, .unk, .unk, .unk, .unk, .unk, .unk, .unk, .unk, .unk, .unk, .unk, .unk, .unk, .unk, .unk, .unk, .unk, .unk, .unk, .unk, .unk, .unk, .unk, .unk, .unk, .unk, .unk, .unk, .unk, .unk, .unk, .unk, .unk, .unk, .unk, .unk, .unk, .unk, .unk, .unk, .unk, .unk, .unk, .unk, .unk, .unk, .unk, .unk, .unk, .unk, .unk, .unk, .unk, .unk, .unk, .unk, .unk, .unk, .unk, .unk, .unk, .unk, .unk, .unk, .unk, .unk, .unk, .unk, .unk, .unk, .unk, .unk, .unk, .unk, .unk, .unk, .unk, .unk, .unk, .unk, .unk, .unk, .unk, .unk, .unk, .unk, .unk, .unk, .unk, .unk, .unk, .unk, .unk, .unk, .unk, .unk, .unk, .unk, .unk, .unk, .unk, .unk, .unk, .unk, .unk, .unk, .unk, .unk, .unk, .unk, .unk, .unk, .unk, .unk, .unk, .unk, .unk, .unk, .unk, .unk, .unk, .unk, .unk, .unk, .unk, .unk, .unk, .unk, .unk, .unk, .unk, .unk, .unk, .unk, .unk, .unk, .unk, .unk, .unk, .unk, .unk, .unk, .unk, .unk, .unk, .unk, .unk, .unk, .unk, .unk, .unk, .unk, I ((ls.length + 1 : Nat) : Int), I (i : Nat), .unk, .unk, .unk, .unk, .unk, .unk, .unk, .unk, .unk, .unk, .unk, .unk, .unk, .unk, .unk, .unk, .unk, .unk, .unk, .unk, .unk, .unk, .unk, .unk, .unk, .unk, .unk, .unk, .unk, .unk, .unk, .unk, .unk, .unk, .unk, .unk, .unk, .unk, .unk, .unk, .unk, .unk, .unk, .unk, .unk, .unk, .unk, .unk, .unk, .unk, .unk, .unk, .unk, .unk, .unk, .unk, .unk, .unk, .unk, .unk, .unk, .unk, .unk, .unk, .unk, .unk, .unk, .unk, .unk, .unk, .unk, .unk], [.dead, .dead, .row 3 true (eVs G), abOf ws, abOf ws, cbOf c false, .box [I m, cvOf c 5 none], cbOf c false, .box [I m, cvOf c 7 none]]⟩) (fun i G => G.length = ls.length + 1) ?_ 0 (ls ++ [v3 7]) (Nat.zero_le _) (by simp)
    rintro i G hi hG
    rcases Nat.lt_or_ge i (ls.length + 1) with hlt | hge
    · obtain ⟨o, ho⟩ : ∃ o, G[i]? = some o := ⟨_, List.getElem?_eq_getElem (by omega)⟩
      have hcond : decide ((i : Int) < ((ls.length + 1 : Nat) : Int)) = true := lt_dec hlt
      have h2 : (eVs G)[0 + (i : Int).toNat]? = some (eV o) := by
        rw [Nat.zero_add]
        exact get_map (f := eV) ho
      have hset : (eVs G).set (0 + (i : Int).toNat) (eV (v3 8)) = eVs (G.set i (v3 8)) := set_map (f := eV)
      conv => whnf
      refine pickB_yes hcond ?_
      conv => whnf
      refine (idxB_iff (i := (i : Int)) (len := ((ls.length + 1 : Nat) : Int))).2 ⟨by omega, by omega, ?_⟩
      conv => whnf
      refine eltK_iff.2 ⟨_, h2, ?_⟩
      conv => whnf
      refine' ⟨G.set i (v3 8), [0, 1, 2, 3, 4, 5, 6, 7, 8], hlt, (by rw [List.length_set]; exact hG), ⟨?t, ?h, by decide, rfl⟩⟩
      case t => repeat' (first | exact trivial | exact congrArg (fun x => LV.v (Value.int .i64 x)) (wrapS (by omega)) | rfl | (refine rens_av rfl ?_) | assumption | ((conv => whnf); refine And.intro ?_ ?_))
      case h => repeat' (first | exact trivial | rfl | exact renB_ab _ | exact renB_cb _ | exact rens_cv rfl | exact fun h => h | assumption | ((conv => whnf); refine And.intro ?_ ?_))
    have hcond : decide ((i : Int) < ((ls.length + 1 : Nat) : Int)) = false := ge_dec hge
    conv => whnf
    refine pickB_no hcond ?_
    conv => whnf
    clear hcond hge hi hG
    have hcl : c.length ≤ 4611686018427387904 := by rw [← hc]; exact exAns_len g l v123
    have hcl2 : c.length ≤ 64 := by rw [← hc]; exact exAns_64 g l v123
    cases ws with
    | nil =>
      refine CodeP.seq 0 ?_
      conv => whnf
      refine LoopP.weaken (s2 := ⟨[.rd (eOs g), .rd (eAs l), .rd (eVs ls), .unk, .unk, .unk, .unk, .unk, .unk, .unk, .unk, .unk, .unk, nilV, .unk, nilV, .unk, .ptr 6 0 0, .unk, .ptr 8 0 0, .unk, .unk, .unk, .unk, .unk, .unk, .unk, .unk, .unk, .unk, .unk, .unk, .unk, .unk, .unk, .unk, .unk, .unk, .unk, .unk, .unk, .unk, .unk, .unk, .unk, .unk, .unk, .unk, .unk, .unk, .unk, .unk, .unk, .unk, .unk, .unk, .unk, .unk, .unk, .unk, .unk, .unk, .unk, .unk, .unk, .unk, .unk, .unk, .unk, .unk, .unk, .unk, .unk, .unk, .unk, .unk, .unk, .unk, .unk, .unk, .unk, .unk, .unk, .unk, .unk, .unk, .unk, .unk, .unk, .unk, .unk, .unk, .unk, .unk, .unk, .unk, .unk, .unk, .unk, .unk, .unk, .unk, .unk, .unk, .unk, .unk, .unk, .unk, .unk, .unk, .unk, .unk, .unk, .unk, .unk, .unk, .unk, .unk, .unk, .unk, .unk, .unk, .unk, .unk, .unk, .unk, .unk, .unk, .unk, .unk, .unk, .unk, .unk, .unk, .unk, .unk, .unk, .unk, .unk, .unk, .unk, .unk, .unk, .unk, .unk, .unk, .unk, .unk, .unk, .unk, .unk, .unk, .unk, .unk, .unk, .unk, .unk, .unk, .unk, .unk, .unk, .unk, .unk, .unk, .unk, .unk, .unk, .unk, .unk, .unk, .unk, .unk, .unk, .unk, .unk, .unk, .unk, .unk, .unk, .unk, .unk, .unk, .unk, .unk, .unk, .unk, .unk, .unk, .unk, .unk, .unk, .unk, .unk, .unk, .unk, .unk, .unk, .unk, .unk, .unk, .unk, .unk, .unk, .unk, .unk, .unk, .unk, .unk, .unk, .unk, .unk, .unk, .unk, .unk, .unk, I 0, I (0 : Nat), .unk, .unk, .unk, .unk, .unk, .unk, .unk, .unk, .unk, .unk, .unk, .unk, .unk, .unk, .unk, .unk, .unk, .unk, .unk, .unk, .unk, .unk, .unk, .unk, .unk, .unk, .unk, .unk, .unk, .unk, .unk, .unk, .unk, .unk, .unk, .unk, .unk, .unk, .unk, .unk, .unk, .unk, .unk, .unk, .unk, .unk, .unk, .unk, .unk, .unk, .unk, .unk, .unk, .unk, .unk, .unk, .unk, .unk, .unk, .unk, .unk, .unk], [.dead, .dead, .dead, .dead, .dead, cbOf c false, .box [I m, cvOf c 5 none], cbOf c false, .box [I m, cvOf c 7 none]]⟩) [0, 1, 2, 3, 4, 5, 6, 7, 8] ⟨?_, ?_, by decide, rfl⟩ ?_
      · repeat' (first | exact trivial | exact congrArg (fun x => LV.v (Value.int .i64 x)) (wrapS (by omega)) | rfl | (refine rens_av rfl ?_) | assumption | ((conv => whnf); refine And.intro ?_ ?_))
      · repeat' (first | exact trivial | rfl | exact renB_ab _ | exact renB_cb _ | exact rens_cv rfl | exact fun h => h | assumption | ((conv => whnf); refine And.intro ?_ ?_))
      refine loopInd 0 (by kernel_rfl) 0 (fun i (_ : Unit) => ⟨[.rd (eOs g), .rd (eAs l), .rd (eVs ls), .unk, .unk, .unk, .unk, .unk, .unk, .unk, .unk, .unk, .unk, nilV, .unk, nilV, .unk, .ptr 6 0 0, .unk, .ptr 8 0 0, .unk, .unk, .unk, .unk, .unk, .unk, .unk, .unk, .unk, .unk, .unk, .unk, .unk, .unk, .unk, .unk, .unk, .unk, .unk, .unk, .unk, .unk, .unk, .unk, .unk, .unk, .unk, .unk, .unk, .unk, .unk, .unk, .unk, .unk, .unk, .unk, .unk, .unk, .unk, .unk, .unk, .unk, .unk, .unk, .unk, .unk, .unk, .unk, .unk, .unk, .unk, .unk, .unk, .unk, .unk, .unk, .unk, .unk, .unk, .unk, .unk, .unk, .unk, .unk, .unk, .unk, .unk, .unk, .unk, .unk, .unk, .unk, .unk, .unk, .unk, .unk, .unk, .unk, .unk, .unk, .unk, .unk, .unk, .unk, .unk, .unk, .unk, .unk, .unk, .unk, .unk, .unk, .unk, .unk, .unk, .unk, .unk, .unk, .unk, .unk, .unk, .unk, .unk, .unk, .unk, .unk, .unk, .unk, .unk, .unk, .unk, .unk, .unk, .unk, .unk, .unk, .unk, .unk, .unk, .unk, .unk, .unk, .unk, .unk, .unk, .unk, .unk, .unk, .unk, .unk, .unk, .unk, .unk, .unk, .unk, .unk, .unk, .unk, .unk, .unk, .unk, .unk, .unk, .unk, .unk, .unk, .unk, .unk, .unk, .unk, .unk, .unk, .unk, .unk, .unk, .unk, .unk, .unk, .unk, .unk, .unk, .unk, .unk, .unk, .unk, .unk, .unk, .unk, .unk, .unk, .unk, .unk, .unk, .unk, .unk, .unk, .unk, .unk, .unk, .unk, .unk, .unk, .unk, .unk, .unk, .unk, .unk, .unk, .unk, .unk, .unk, .unk, .unk, .unk, .unk, I 0, I (i : Nat), .unk, .unk, .unk, .unk, .unk, .unk, .unk, .unk, .unk, .unk, .unk, .unk, .unk, .unk, .unk, .unk, .unk, .unk, .unk, .unk, .unk, .unk, .unk, .unk, .unk, .unk, .unk, .unk, .unk, .unk, .unk, .unk, .unk, .unk, .unk, .unk, .unk, .unk, .unk, .unk, .unk, .unk, .unk, .unk, .unk, .unk, .unk, .unk, .unk, .unk, .unk, .unk, .unk, .unk, .unk, .unk, .unk, .unk, .unk, .unk, .unk, .unk], [.dead, .dead, .dead, .dead, .dead, cbOf c false, .box [I m, cvOf c 5 none], cbOf c false, .box [I m, cvOf c 7 none]]⟩) (fun i _ => True) ?_ 0 () (Nat.zero_le _) trivial
      rintro i _ hi _
      obtain rfl : i = 0 := Nat.le_zero.1 hi
      conv => whnf
      refine CodeP.seq 0 ?_
      conv => whnf
      refine And.intro (Nat.le_refl _) ?_
      conv => whnf
      refine ⟨by show (2 : Nat) * 40 ≤ 140737488355328; decide, all2 rfl rfl, ?_⟩
      conv => whnf
      cases c with
      | nil =>
        refine CodeP.seq 0 ?_
        conv => whnf
        refine LoopP.weaken (s2 := ⟨[.rd (eOs g), .rd (eAs l), .rd (eVs ls), .unk, .unk, .unk, .unk, .unk, .unk, .unk, .unk, .unk, .unk, .unk, .unk, nilV, .unk, .ptr 6 0 0, .unk, .ptr 8 0 0, .unk, .unk, .unk, .unk, .unk, .unk, .unk, .unk, .unk, .unk, .unk, .unk, .unk, .unk, .unk, .unk, .unk, .unk, .unk, .unk, .unk, .unk, .unk, .unk, .unk, .unk, .unk, .unk, .unk, .unk, .unk, .unk, .unk, .unk, .unk, .unk, .unk, .unk, .unk, .unk, .unk, .unk, .unk, .unk, .unk, .unk, .unk, .unk, .unk, .unk, .unk, .unk, .unk, .unk, .unk, .unk, .unk, .unk, .unk, .unk, .unk, .unk, .unk, .unk, .unk, .unk, .unk, .unk, .unk, .unk, .unk, .unk, .unk, .unk, .unk, .unk, .unk, .unk, .unk, .unk, .unk, .unk, .unk, .unk, .unk, .unk, .unk, .unk, .unk, .unk, .unk, .unk, .unk, .unk, .unk, .unk, .unk, .unk, .unk, .unk, .unk, .unk, .unk, .unk, .unk, .unk, .unk, .unk, .unk, .unk, .unk, .unk, .unk, .unk, .unk, .unk, .unk, .unk, .unk, .unk, .unk, .unk, .unk, .unk, .unk, .unk, .unk, .unk, .unk, .unk, .unk, .unk, .unk, .unk, .unk, .unk, .unk, .unk, .unk, .unk, .unk, .unk, .unk, .unk, .unk, .unk, .unk, .unk, .unk, .unk, .unk, .unk, .unk, .unk, .unk, .unk, .unk, .unk, .unk, .unk, .unk, .unk, .unk, .unk, .unk, .unk, .unk, .unk, .unk, .unk, .unk, .unk, .unk, .unk, .unk, .unk, .unk, .unk, .unk, .unk, .unk, .unk, .unk, .unk, .unk, .unk, .unk, .unk, .unk, .unk, .unk, .unk, .unk, .unk, .unk, .unk, .unk, .unk, .unk, .unk, .unk, .unk, .unk, .unk, .unk, .unk, .unk, .unk, .unk, .unk, .unk, .unk, .unk, .unk, .unk, .unk, .unk, I 0, I (0 : Nat), .unk, .unk, .unk, .unk, .unk, .unk, .unk, .unk, .unk, .unk, .unk, .unk, .unk, .unk, .unk, .unk, .unk, .unk, .unk, .unk, .unk, .unk, .unk, .unk, .unk, .unk, .unk, .unk, .unk, .unk, .unk, .unk, .unk, .unk, .unk, .unk, .unk, .unk, .unk, .unk], [.dead, .dead, .dead, .dead, .dead, .dead, .box [I m, nilV], .dead, .box [I m, nilV]]⟩) [0, 1, 2, 3, 4, 5, 6, 7, 8] ⟨?_, ?_, by decide, rfl⟩ ?_
        · repeat' (first | exact trivial | exact congrArg (fun x => LV.v (Value.int .i64 x)) (wrapS (by omega)) | rfl | (refine rens_av rfl ?_) | assumption | ((conv => whnf); refine And.intro ?_ ?_))
        · repeat' (first | exact trivial | rfl | exact renB_ab _ | exact renB_cb _ | exact rens_cv rfl | exact fun h => h | assumption | ((conv => whnf); refine And.intro ?_ ?_))
        refine loopInd 0 (by kernel_rfl) 0 (fun i (_ : Unit) => ⟨[.rd (eOs g), .rd (eAs l), .rd (eVs ls), .unk, .unk, .unk, .unk, .unk, .unk, .unk, .unk, .unk, .unk, .unk, .unk, nilV, .unk, .ptr 6 0 0, .unk, .ptr 8 0 0, .unk, .unk, .unk, .unk, .unk, .unk, .unk, .unk, .unk, .unk, .unk, .unk, .unk, .unk, .unk, .unk, .unk, .unk, .unk, .unk, .unk, .unk, .unk, .unk, .unk, .unk, .unk, .unk, .unk, .unk, .unk, .unk, .unk, .unk, .unk, .unk, .unk, .unk, .unk, .unk, .unk, .unk, .unk, .unk, .unk, .unk, .unk, .unk, .unk, .unk, .unk, .unk, .unk, .unk, .unk, .unk, .unk, .unk, .unk, .unk, .unk, .unk, .unk, .unk, .unk, .unk, .unk, .unk, .unk, .unk, .unk, .unk, .unk, .unk, .unk, .unk, .unk, .unk, .unk, .unk, .unk, .unk, .unk, .unk, .unk, .unk, .unk, .unk, .unk, .unk, .unk, .unk, .unk, .unk, .unk, .unk, .unk, .unk, .unk, .unk, .unk, .unk, .unk, .unk, .unk, .unk, .unk, .unk, .unk, .unk, .unk, .unk, .unk, .unk, .unk, .unk, .unk, .unk, .unk, .unk, .unk, .unk, .unk, .unk, .unk, .unk, .unk, .unk, .unk, .unk, .unk, .unk, .unk, .unk, .unk, .unk, .unk, .unk, .unk, .unk, .unk, .unk, .unk, .unk, .unk, .unk, .unk, .unk, .unk, .unk, .unk, .unk, .unk, .unk, .unk, .unk, .unk, .unk, .unk, .unk, .unk, .unk, .unk, .unk, .unk, .unk, .unk, .unk, .unk, .unk, .unk, .unk, .unk, .unk, .unk, .unk, .unk, .unk, .unk, .unk, .unk, .unk, .unk, .unk, .unk, .unk, .unk, .unk, .unk, .unk, .unk, .unk, .unk, .unk, .unk, .unk, .unk, .unk, .unk, .unk, .unk, .unk, .unk, .unk, .unk, .unk, .unk, .unk, .unk, .unk, .unk, .unk, .unk, .unk, .unk, .unk, .unk, I 0, I (i : Nat), .unk, .unk, .unk, .unk, .unk, .unk, .unk, .unk, .unk, .unk, .unk, .unk, .unk, .unk, .unk, .unk, .unk, .unk, .unk, .unk, .unk, .unk, .unk, .unk, .unk, .unk, .unk, .unk, .unk, .unk, .unk, .unk, .unk, .unk, .unk, .unk, .unk, .unk, .unk, .unk], [.dead, .dead, .dead, .dead, .dead, .dead, .box [I m, nilV], .dead, .box [I m, nilV]]⟩) (fun i _ => True) ?_ 0 () (Nat.zero_le _) trivial
        rintro i _ hi _
        obtain rfl : i = 0 := Nat.le_zero.1 hi
        conv => whnf
        refine CodeP.seq 0 ?_
        conv => whnf
        refine And.intro (Nat.le_refl _) ?_
        conv => whnf
        refine ⟨by show (3 : Nat) * 8 ≤ 140737488355328; decide, all3c rfl rfl rfl, ?_⟩
        conv => whnf
        -- the document's
        refine CodeP.seq 0 ?_
        conv => whnf
        refine ⟨(g, l, ls), rfl, ⟨by show l.length ≤ _; omega, by show ls.length ≤ _; omega⟩, ?_⟩
        conv => whnf
        refine CodeP.seq 0 ?_
        conv => whnf
        refine ⟨(g, l, v123), rfl, by show l.length ≤ _; omega, ?_⟩
        conv => whnf
        refine CodeP.one 0 ?_
        conv => whnf
        refine ⟨[], by show [LV.rd [], LV.rd (eWs (allA g l ls).1)] = [LV.rd (eWs []), LV.rd (eWs [])]; rw [hws]; rfl, Nat.zero_le _, ?_⟩
        conv => whnf
        refine ⟨((m, []), (m, [])), by show [LV.agg [I m, .rd []], LV.agg [I (exAns g l v123).1.1, .rd (eNs (exAns g l v123).1.2)]] = [LV.agg [I m, .rd (eNs [])], LV.agg [I m, .rd (eNs [])]]; rw [hm, hc]; rfl, Nat.zero_le _, ?_⟩
        conv => whnf
        refine pickB_yes (sameR_refl (m, [])) ?_
        conv => whnf
        exact hk
      | cons c0 cr =>
        refine CodeP.seq 0 ?_
        conv => whnf
        refine LoopP.weaken (s2 := ⟨[.rd (eOs g), .rd (eAs l), .rd (eVs ls), .unk, .unk, .unk, .unk, .unk, .unk, .unk, .unk, .unk, .unk, .unk, .unk, nilV, .unk, .ptr 6 0 0, .unk, .ptr 8 0 0, .unk, .unk, .unk, .unk, .unk, .unk, .unk, .unk, .unk, .unk, .unk, .unk, .unk, .unk, .unk, .unk, .unk, .unk, .unk, .unk, .unk, .unk, .unk, .unk, .unk, .unk, .unk, .unk, .unk, .unk, .unk, .unk, .unk, .unk, .unk, .unk, .unk, .unk, .unk, .unk, .unk, .unk, .unk, .unk, .unk, .unk, .unk, .unk, .unk, .unk, .unk, .unk, .unk, .unk, .unk, .unk, .unk, .unk, .unk, .unk, .unk, .unk, .unk, .unk, .unk, .unk, .unk, .unk, .unk, .unk, .unk, .unk, .unk, .unk, .unk, .unk, .unk, .unk, .unk, .unk, .unk, .unk, .unk, .unk, .unk, .unk, .unk, .unk, .unk, .unk, .unk, .unk, .unk, .unk, .unk, .unk, .unk, .unk, .unk, .unk, .unk, .unk, .unk, .unk, .unk, .unk, .unk, .unk, .unk, .unk, .unk, .unk, .unk, .unk, .unk, .unk, .unk, .unk, .unk, .unk, .unk, .unk, .unk, .unk, .unk, .unk, .unk, .unk, .unk, .unk, .unk, .unk, .unk, .unk, .unk, .unk, .unk, .unk, .unk, .unk, .unk, .unk, .unk, .unk, .unk, .unk, .unk, .unk, .unk, .unk, .unk, .unk, .unk, .unk, .unk, .unk, .unk, .unk, .unk, .unk, .unk, .unk, .unk, .unk, .unk, .unk, .unk, .unk, .unk, .unk, .unk, .unk, .unk, .unk, .unk, .unk, .unk, .unk, .unk, .unk, .unk, .unk, .unk, .unk, .unk, .unk, .unk, .unk, .unk, .unk, .unk, .unk, .unk, .unk, .unk, .unk, .unk, .unk, .unk, .unk, .unk, .unk, .unk, .unk, .unk, .unk, .unk, .unk, .unk, .unk, .unk, .unk, .unk, .unk, .unk, .unk, .unk, I ((c0 :: cr).length : Int), I (0 : Nat), .unk, .unk, .unk, .unk, .unk, .unk, .unk, .unk, .unk, .unk, .unk, .unk, .unk, .unk, .unk, .unk, .unk, .unk, .unk, .unk, .unk, .unk, .unk, .unk, .unk, .unk, .unk, .unk, .unk, .unk, .unk, .unk, .unk, .unk, .unk, .unk, .unk, .unk, .unk, .unk], [.dead, .dead, .dead, .dead, .dead, .row 1 false (eNs (c0 :: cr)), .box [I m, .sl 5 0 (c0 :: cr).length none], .row 1 false (eNs (c0 :: cr)), .box [I m, .sl 7 0 (c0 :: cr).length none]]⟩) [0, 1, 2, 3, 4, 5, 6, 7, 8] ⟨?_, ?_, by decide, rfl⟩ ?_
        · repeat' (first | exact trivial | exact congrArg (fun x => LV.v (Value.int .i64 x)) (wrapS (by omega)) | rfl | (refine rens_av rfl ?_) | assumption | ((conv => whnf); refine And.intro ?_ ?_))
        · repeat' (first | exact trivial | rfl | exact renB_ab _ | exact renB_cb _ | exact rens_cv rfl | exact fun h => h | assumption | ((conv => whnf); refine And.intro ?_ ?_))
        refine loopInd 0 (by kernel_rfl) (c0 :: cr).length (fun i (G : List Int) => ⟨[.rd (eOs g), .rd (eAs l), .rd (eVs ls), .unk, .unk, .unk, .unk, .unk, .unk, .unk, .unk, .unk, .unk, .unk, .unk, nilV, .unk, .ptr 6 0 0, .unk, .ptr 8 0 0, .unk, .unk, .unk, .unk, .unk, .unk, .unk, .unk, .unk, .unk, .unk, .unk, .unk, .unk, .unk, .unk, .unk, .unk, .unk, .unk, .unk, .unk, .unk, .unk, .unk, .unk, .unk, .unk, .unk, .unk, .unk, .unk, .unk, .unk, .unk, .unk, .unk, .unk, .unk, .unk, .unk, .unk, .unk, .unk, .unk, .unk, .unk, .unk, .unk, .unk, .unk, .unk, .unk, .unk, .unk, .unk, .unk, .unk, .unk, .unk, .unk, .unk, .unk, .unk, .unk, .unk, .unk, .unk, .unk, .unk, .unk, .unk, .unk, .unk, .unk, .unk, .unk, .unk, .unk, .unk, .unk, .unk, .unk, .unk, .unk, .unk, .unk, .unk, .unk, .unk, .unk, .unk, .unk, .unk, .unk, .unk, .unk, .unk, .unk, .unk, .unk, .unk, .unk, .unk, .unk, .unk, .unk, .unk, .unk, .unk, .unk, .unk, .unk, .unk, .unk, .unk, .unk, .unk, .unk, .unk, .unk, .unk, .unk, .unk, .unk, .unk, .unk, .unk, .unk, .unk, .unk, .unk, .unk, .unk, .unk, .unk, .unk, .unk, .unk, .unk, .unk, .unk, .unk, .unk, .unk, .unk, .unk, .unk, .unk, .unk, .unk, .unk, .unk, .unk, .unk, .unk, .unk, .unk, .unk, .unk, .unk, .unk, .unk, .unk, .unk, .unk, .unk, .unk, .unk, .unk, .unk, .unk, .unk, .unk, .unk, .unk, .unk, .unk, .unk, .unk, .unk, .unk, .unk, .unk, .unk, .unk, .unk, .unk, .unk, .unk, .unk, .unk, .unk, .unk, .unk, .unk, .unk, .unk, .unk, .unk, .unk, .unk, .unk, .unk, .unk, .unk, .unk, .unk, .unk, .unk, .unk, .unk, .unk, .unk, .unk, .unk, .unk, I ((c0 :: cr).length : Int), I (i : Nat), .unk, .unk, .unk, .unk, .unk, .unk, .unk, .unk, .unk, .unk, .unk, .unk, .unk, .unk, .unk, .unk, .unk, .unk, .unk, .unk, .unk, .unk, .unk, .unk, .unk, .unk, .unk, .unk, .unk, .unk, .unk, .unk, .unk, .unk, .unk, .unk, .unk, .unk, .unk, .unk], [.dead, .dead, .dead, .dead, .dead, .row 1 false (eNs G), .box [I m, .sl 5 0 (c0 :: cr).length none], .row 1 false (eNs (c0 :: cr)), .box [I m, .sl 7 0 (c0 :: cr).length none]]⟩) (fun i G => G.length = (c0 :: cr).length) ?_ 0 (c0 :: cr) (Nat.zero_le _) rfl
        rintro i G hi hG
        rcases Nat.lt_or_ge i (c0 :: cr).length with hlt | hge
        · obtain ⟨o, ho⟩ : ∃ o, G[i]? = some o := ⟨_, List.getElem?_eq_getElem (by omega)⟩
          have hcond : decide ((i : Int) < ((c0 :: cr).length : Int)) = true := lt_dec hlt
          have h2 : (eNs G)[0 + (i : Int).toNat]? = some [I o] := by
            rw [Nat.zero_add]
            exact get_map (f := fun n : Int => [I n]) ho
          have hset : (eNs G).set (0 + (i : Int).toNat) [I 77] = eNs (G.set i 77) := set_map (f := fun n : Int => [I n])
          conv => whnf
          refine pickB_yes hcond ?_
          conv => whnf
          refine (idxB_iff (i := (i : Int)) (len := ((c0 :: cr).length : Int))).2 ⟨by omega, by omega, ?_⟩
          conv => whnf
          refine eltK_iff.2 ⟨_, h2, ?_⟩
          conv => whnf
          refine' ⟨G.set i 77, [0, 1, 2, 3, 4, 5, 6, 7, 8], hlt, (by rw [List.length_set]; exact hG), ⟨?t, ?h, by decide, rfl⟩⟩
          case t => repeat' (first | exact trivial | exact congrArg (fun x => LV.v (Value.int .i64 x)) (wrapS (by omega)) | rfl | (refine rens_av rfl ?_) | assumption | ((conv => whnf); refine And.intro ?_ ?_))
          case h => repeat' (first | exact trivial | rfl | exact renB_ab _ | exact renB_cb _ | exact rens_cv rfl | exact fun h => h | assumption | ((conv => whnf); refine And.intro ?_ ?_))
        have hcond : decide ((i : Int) < ((c0 :: cr).length : Int)) = false := ge_dec hge
        conv => whnf
        refine pickB_no hcond ?_
        conv => whnf
        refine CodeP.seq 0 ?_
        conv => whnf
        refine And.intro (Nat.le_refl _) ?_
        conv => whnf
        refine ⟨rfl, by rw [eNs_len]; exact hG, by show ((c0 :: cr).length + 3) * 8 ≤ 140737488355328; omega, all3c rfl rfl rfl, ?_⟩
        conv => whnf
        refine pickB_no (by
          show ((((c0 :: cr).length + 3 : Nat) : Int) != IntKind.i64.wrap (((c0 :: cr).length : Int) + 3)) = false
          rw [show IntKind.i64.wrap (((c0 :: cr).length : Int) + 3) = (((c0 :: cr).length + 3 : Nat) : Int) from (wrap_i _ (by omega) (by omega)).trans (by omega)]
          simp) ?_
        conv => whnf
        -- the document's
        refine CodeP.seq 0 ?_
        conv => whnf
        refine ⟨(g, l, ls), rfl, ⟨by show l.length ≤ _; omega, by show ls.length ≤ _; omega⟩, ?_⟩
        conv => whnf
        refine CodeP.seq 0 ?_
        conv => whnf
        refine ⟨(g, l, v123), rfl, by show l.length ≤ _; omega, ?_⟩
        conv => whnf
        refine CodeP.one 0 ?_
        conv => whnf
        refine ⟨[], by show [LV.rd [], LV.rd (eWs (allA g l ls).1)] = [LV.rd (eWs []), LV.rd (eWs [])]; rw [hws]; rfl, Nat.zero_le _, ?_⟩
        conv => whnf
        have tc : List.take (c0 :: cr).length (List.drop 0 (eNs (c0 :: cr))) = eNs (c0 :: cr) := by
          rw [List.drop_zero]
          exact List.take_of_length_le (by rw [eNs_len]; exact Nat.le_refl _)
        refine And.intro (by show 0 + (c0 :: cr).length ≤ (eNs (c0 :: cr)).length; rw [eNs_len]; omega) ?_
        conv => whnf
        refine ⟨((m, (c0 :: cr)), (m, (c0 :: cr))), by show [LV.agg [I m, .rd (List.take (c0 :: cr).length (List.drop 0 (eNs (c0 :: cr))))], LV.agg [I (exAns g l v123).1.1, .rd (eNs (exAns g l v123).1.2)]] = [LV.agg [I m, .rd (eNs (c0 :: cr))], LV.agg [I m, .rd (eNs (c0 :: cr))]]; rw [hm, hc, tc], by show (c0 :: cr).length ≤ _; omega, ?_⟩
        conv => whnf
        refine pickB_yes (sameR_refl (m, (c0 :: cr))) ?_
        conv => whnf
        exact hk
    | cons v r =>
      have hw8 : (v :: r).length ≤ 8 := by rw [← hws]; exact Nat.le_trans (allA_len g l ls) h8
      refine CodeP.seq 0 ?_
      conv => whnf
      refine LoopP.weaken (s2 := ⟨[.rd (eOs g), .rd (eAs l), .rd (eVs ls), .unk, .unk, .unk, .unk, .unk, .unk, .unk, .unk, .unk, .unk, .sl 3 0 (v :: r).length none, .unk, .sl 4 0 (v :: r).length none, .unk, .ptr 6 0 0, .unk, .ptr 8 0 0, .unk, .unk, .unk, .unk, .unk, .unk, .unk, .unk, .unk, .unk, .unk, .unk, .unk, .unk, .unk, .unk, .unk, .unk, .unk, .unk, .unk, .unk, .unk, .unk, .unk, .unk, .unk, .unk, .unk, .unk, .unk, .unk, .unk, .unk, .unk, .unk, .unk, .unk, .unk, .unk, .unk, .unk, .unk, .unk, .unk, .unk, .unk, .unk, .unk, .unk, .unk, .unk, .unk, .unk, .unk, .unk, .unk, .unk, .unk, .unk, .unk, .unk, .unk, .unk, .unk, .unk, .unk, .unk, .unk, .unk, .unk, .unk, .unk, .unk, .unk, .unk, .unk, .unk, .unk, .unk, .unk, .unk, .unk, .unk, .unk, .unk, .unk, .unk, .unk, .unk, .unk, .unk, .unk, .unk, .unk, .unk, .unk, .unk, .unk, .unk, .unk, .unk, .unk, .unk, .unk, .unk, .unk, .unk, .unk, .unk, .unk, .unk, .unk, .unk, .unk, .unk, .unk, .unk, .unk, .unk, .unk, .unk, .unk, .unk, .unk, .unk, .unk, .unk, .unk, .unk, .unk, .unk, .unk, .unk, .unk, .unk, .unk, .unk, .unk, .unk, .unk, .unk, .unk, .unk, .unk, .unk, .unk, .unk, .unk, .unk, .unk, .unk, .unk, .unk, .unk, .unk, .unk, .unk, .unk, .unk, .unk, .unk, .unk, .unk, .unk, .unk, .unk, .unk, .unk, .unk, .unk, .unk, .unk, .unk, .unk, .unk, .unk, .unk, .unk, .unk, .unk, .unk, .unk, .unk, .unk, .unk, .unk, .unk, .unk, .unk, .unk, .unk, .unk, .unk, .unk, I ((v :: r).length : Int), I (0 : Nat), .unk, .unk, .unk, .unk, .unk, .unk, .unk, .unk, .unk, .unk, .unk, .unk, .unk, .unk, .unk, .unk, .unk, .unk, .unk, .unk, .unk, .unk, .unk, .unk, .unk, .unk, .unk, .unk, .unk, .unk, .unk, .unk, .unk, .unk, .unk, .unk, .unk, .unk, .unk, .unk, .unk, .unk, .unk, .unk, .unk, .unk, .unk, .unk, .unk, .unk, .unk, .unk, .unk, .unk, .unk, .unk, .unk, .unk, .unk, .unk, .unk, .unk], [.dead, .dead, .dead, .row 4 false (eWs (v :: r)), .row 4 false (eWs (v :: r)), cbOf c false, .box [I m, cvOf c 5 none], cbOf c false, .box [I m, cvOf c 7 none]]⟩) [0, 1, 2, 3, 4, 5, 6, 7, 8] ⟨?_, ?_, by decide, rfl⟩ ?_
      · repeat' (first | exact trivial | exact congrArg (fun x => LV.v (Value.int .i64 x)) (wrapS (by omega)) | rfl | (refine rens_av rfl ?_) | assumption | ((conv => whnf); refine And.intro ?_ ?_))
      · repeat' (first | exact trivial | rfl | exact renB_ab _ | exact renB_cb _ | exact rens_cv rfl | exact fun h => h | assumption | ((conv => whnf); refine And.intro ?_ ?_))
      refine loopInd 0 (by kernel_rfl) (v :: r).length (fun i (G : List Wv) => ⟨[.rd (eOs g), .rd (eAs l), .rd (eVs ls), .unk, .unk, .unk, .unk, .unk, .unk, .unk, .unk, .unk, .unk, .sl 3 0 (v :: r).length none, .unk, .sl 4 0 (v :: r).length none, .unk, .ptr 6 0 0, .unk, .ptr 8 0 0, .unk, .unk, .unk, .unk, .unk, .unk, .unk, .unk, .unk, .unk, .unk, .unk, .unk, .unk, .unk, .unk, .unk, .unk, .unk, .unk, .unk, .unk, .unk, .unk, .unk, .unk, .unk, .unk, .unk, .unk, .unk, .unk, .unk, .unk, .unk, .unk, .unk, .unk, .unk, .unk, .unk, .unk, .unk, .unk, .unk, .unk, .unk, .unk, .unk, .unk, .unk, .unk, .unk, .unk, .unk, .unk, .unk, .unk, .unk, .unk, .unk, .unk, .unk, .unk, .unk, .unk, .unk, .unk, .unk, .unk, .unk, .unk, .unk, .unk, .unk, .unk, .unk, .unk, .unk, .unk, .unk, .unk, .unk, .unk, .unk, .unk, .unk, .unk, .unk, .unk, .unk, .unk, .unk, .unk, .unk, .unk, .unk, .unk, .unk, .unk, .unk, .unk, .unk, .unk, .unk, .unk, .unk, .unk, .unk, .unk, .unk, .unk, .unk, .unk, .unk, .unk, .unk, .unk, .unk, .unk, .unk, .unk, .unk, .unk, .unk, .unk, .unk, .unk, .unk, .unk, .unk, .unk, .unk, .unk, .unk, .unk, .unk, .unk, .unk, .unk, .unk, .unk, .unk, .unk, .unk, .unk, .unk, .unk, .unk, .unk, .unk, .unk, .unk, .unk, .unk, .unk, .unk, .unk, .unk, .unk, .unk, .unk, .unk, .unk, .unk, .unk, .unk, .unk, .unk, .unk, .unk, .unk, .unk, .unk, .unk, .unk, .unk, .unk, .unk, .unk, .unk, .unk, .unk, .unk, .unk, .unk, .unk, .unk, .unk, .unk, .unk, .unk, .unk, .unk, .unk, I ((v :: r).length : Int), I (i : Nat), .unk, .unk, .unk, .unk, .unk, .unk, .unk, .unk, .unk, .unk, .unk, .unk, .unk, .unk, .unk, .unk, .unk, .unk, .unk, .unk, .unk, .unk, .unk, .unk, .unk, .unk, .unk, .unk, .unk, .unk, .unk, .unk, .unk, .unk, .unk, .unk, .unk, .unk, .unk, .unk, .unk, .unk, .unk, .unk, .unk, .unk, .unk, .unk, .unk, .unk, .unk, .unk, .unk, .unk, .unk, .unk, .unk, .unk, .unk, .unk, .unk, .unk], [.dead, .dead, .dead, .row 4 false (eWs G), .row 4 false (eWs (v :: r)), cbOf c false, .box [I m, cvOf c 5 none], cbOf c false, .box [I m, cvOf c 7 none]]⟩) (fun i G => G.length = (v :: r).length) ?_ 0 (v :: r) (Nat.zero_le _) rfl
      rintro i G hi hG
      rcases Nat.lt_or_ge i (v :: r).length with hlt | hge
      · obtain ⟨o, ho⟩ : ∃ o, G[i]? = some o := ⟨_, List.getElem?_eq_getElem (by omega)⟩
        have hcond : decide ((i : Int) < ((v :: r).length : Int)) = true := lt_dec hlt
        have h2 : (eWs G)[0 + (i : Int).toNat]? = some (eWv o) := by
          rw [Nat.zero_add]
          exact get_map (f := eWv) ho
        have hset : (eWs G).set (0 + (i : Int).toNat) (eWv wMinus) = eWs (G.set i wMinus) := set_map (f := eWv)
        conv => whnf
        refine pickB_yes hcond ?_
        conv => whnf
        refine (idxB_iff (i := (i : Int)) (len := ((v :: r).length : Int))).2 ⟨by omega, by omega, ?_⟩
        conv => whnf
        refine eltK_iff.2 ⟨_, h2, ?_⟩
        conv => whnf
        refine' ⟨G.set i wMinus, [0, 1, 2, 3, 4, 5, 6, 7, 8], hlt, (by rw [List.length_set]; exact hG), ⟨?t, ?h, by decide, rfl⟩⟩
        case t => repeat' (first | exact trivial | exact congrArg (fun x => LV.v (Value.int .i64 x)) (wrapS (by omega)) | rfl | (refine rens_av rfl ?_) | assumption | ((conv => whnf); refine And.intro ?_ ?_))
        case h => repeat' (first | exact trivial | rfl | exact renB_ab _ | exact renB_cb _ | exact rens_cv rfl | exact fun h => h | assumption | ((conv => whnf); refine And.intro ?_ ?_))
      have hcond : decide ((i : Int) < ((v :: r).length : Int)) = false := ge_dec hge
      conv => whnf
      refine pickB_no hcond ?_
      conv => whnf
      refine CodeP.seq 0 ?_
      conv => whnf
      refine And.intro (Nat.le_refl _) ?_
      conv => whnf
      refine ⟨rfl, by rw [eWs_len]; exact hG, by show ((v :: r).length + 2) * 40 ≤ 140737488355328; omega, all2 rfl rfl, ?_⟩
      conv => whnf
      refine pickB_no (by
        show ((((v :: r).length + 2 : Nat) : Int) != IntKind.i64.wrap (((v :: r).length : Int) + 2)) = false
        rw [show IntKind.i64.wrap (((v :: r).length : Int) + 2) = (((v :: r).length + 2 : Nat) : Int) from (wrap_i _ (by omega) (by omega)).trans (by omega)]
        simp) ?_
      conv => whnf
      cases c with
      | nil =>
        refine CodeP.seq 0 ?_
        conv => whnf
        refine LoopP.weaken (s2 := ⟨[.rd (eOs g), .rd (eAs l), .rd (eVs ls), .unk, .unk, .unk, .unk, .unk, .unk, .unk, .unk, .unk, .unk, .unk, .unk, .sl 4 0 ((v :: r)).length none, .unk, .ptr 6 0 0, .unk, .ptr 8 0 0, .unk, .unk, .unk, .unk, .unk, .unk, .unk, .unk, .unk, .unk, .unk, .unk, .unk, .unk, .unk, .unk, .unk, .unk, .unk, .unk, .unk, .unk, .unk, .unk, .unk, .unk, .unk, .unk, .unk, .unk, .unk, .unk, .unk, .unk, .unk, .unk, .unk, .unk, .unk, .unk, .unk, .unk, .unk, .unk, .unk, .unk, .unk, .unk, .unk, .unk, .unk, .unk, .unk, .unk, .unk, .unk, .unk, .unk, .unk, .unk, .unk, .unk, .unk, .unk, .unk, .unk, .unk, .unk, .unk, .unk, .unk, .unk, .unk, .unk, .unk, .unk, .unk, .unk, .unk, .unk, .unk, .unk, .unk, .unk, .unk, .unk, .unk, .unk, .unk, .unk, .unk, .unk, .unk, .unk, .unk, .unk, .unk, .unk, .unk, .unk, .unk, .unk, .unk, .unk, .unk, .unk, .unk, .unk, .unk, .unk, .unk, .unk, .unk, .unk, .unk, .unk, .unk, .unk, .unk, .unk, .unk, .unk, .unk, .unk, .unk, .unk, .unk, .unk, .unk, .unk, .unk, .unk, .unk, .unk, .unk, .unk, .unk, .unk, .unk, .unk, .unk, .unk, .unk, .unk, .unk, .unk, .unk, .unk, .unk, .unk, .unk, .unk, .unk, .unk, .unk, .unk, .unk, .unk, .unk, .unk, .unk, .unk, .unk, .unk, .unk, .unk, .unk, .unk, .unk, .unk, .unk, .unk, .unk, .unk, .unk, .unk, .unk, .unk, .unk, .unk, .unk, .unk, .unk, .unk, .unk, .unk, .unk, .unk, .unk, .unk, .unk, .unk, .unk, .unk, .unk, .unk, .unk, .unk, .unk, .unk, .unk, .unk, .unk, .unk, .unk, .unk, .unk, .unk, .unk, .unk, .unk, .unk, .unk, .unk, .unk, .unk, .unk, I 0, I (0 : Nat), .unk, .unk, .unk, .unk, .unk, .unk, .unk, .unk, .unk, .unk, .unk, .unk, .unk, .unk, .unk, .unk, .unk, .unk, .unk, .unk, .unk, .unk, .unk, .unk, .unk, .unk, .unk, .unk, .unk, .unk, .unk, .unk, .unk, .unk, .unk, .unk, .unk, .unk, .unk, .unk], [.dead, .dead, .dead, .dead, .row 4 false (eWs (v :: r)), .dead, .box [I m, nilV], .dead, .box [I m, nilV]]⟩) [0, 1, 2, 3, 4, 5, 6, 7, 8] ⟨?_, ?_, by decide, rfl⟩ ?_
        · repeat' (first | exact trivial | exact congrArg (fun x => LV.v (Value.int .i64 x)) (wrapS (by omega)) | rfl | (refine rens_av rfl ?_) | assumption | ((conv => whnf); refine And.intro ?_ ?_))
        · repeat' (first | exact trivial | rfl | exact renB_ab _ | exact renB_cb _ | exact rens_cv rfl | exact fun h => h | assumption | ((conv => whnf); refine And.intro ?_ ?_))
        refine loopInd 0 (by kernel_rfl) 0 (fun i (_ : Unit) => ⟨[.rd (eOs g), .rd (eAs l), .rd (eVs ls), .unk, .unk, .unk, .unk, .unk, .unk, .unk, .unk, .unk, .unk, .unk, .unk, .sl 4 0 ((v :: r)).length none, .unk, .ptr 6 0 0, .unk, .ptr 8 0 0, .unk, .unk, .unk, .unk, .unk, .unk, .unk, .unk, .unk, .unk, .unk, .unk, .unk, .unk, .unk, .unk, .unk, .unk, .unk, .unk, .unk, .unk, .unk, .unk, .unk, .unk, .unk, .unk, .unk, .unk, .unk, .unk, .unk, .unk, .unk, .unk, .unk, .unk, .unk, .unk, .unk, .unk, .unk, .unk, .unk, .unk, .unk, .unk, .unk, .unk, .unk, .unk, .unk, .unk, .unk, .unk, .unk, .unk, .unk, .unk, .unk, .unk, .unk, .unk, .unk, .unk, .unk, .unk, .unk, .unk, .unk, .unk, .unk, .unk, .unk, .unk, .unk, .unk, .unk, .unk, .unk, .unk, .unk, .unk, .unk, .unk, .unk, .unk, .unk, .unk, .unk, .unk, .unk, .unk, .unk, .unk, .unk, .unk, .unk, .unk, .unk, .unk, .unk, .unk, .unk, .unk, .unk, .unk, .unk, .unk, .unk, .unk, .unk, .unk, .unk, .unk, .unk, .unk, .unk, .unk, .unk, .unk, .unk, .unk, .unk, .unk, .unk, .unk, .unk, .unk, .unk, .unk, .unk, .unk, .unk, .unk, .unk, .unk, .unk, .unk, .unk, .unk, .unk, .unk, .unk, .unk, .unk, .unk, .unk, .unk, .unk, .unk, .unk, .unk, .unk, .unk, .unk, .unk, .unk, .unk, .unk, .unk, .unk, .unk, .unk, .unk, .unk, .unk, .unk, .unk, .unk, .unk, .unk, .unk, .unk, .unk, .unk, .unk, .unk, .unk, .unk, .unk, .unk, .unk, .unk, .unk, .unk, .unk, .unk, .unk, .unk, .unk, .unk, .unk, .unk, .unk, .unk, .unk, .unk, .unk, .unk, .unk, .unk, .unk, .unk, .unk, .unk, .unk, .unk, .unk, .unk, .unk, .unk, .unk, .unk, .unk, .unk, I 0, I (i : Nat), .unk, .unk, .unk, .unk, .unk, .unk, .unk, .unk, .unk, .unk, .unk, .unk, .unk, .unk, .unk, .unk, .unk, .unk, .unk, .unk, .unk, .unk, .unk, .unk, .unk, .unk, .unk, .unk, .unk, .unk, .unk, .unk, .unk, .unk, .unk, .unk, .unk, .unk, .unk, .unk], [.dead, .dead, .dead, .dead, .row 4 false (eWs (v :: r)), .dead, .box [I m, nilV], .dead, .box [I m, nilV]]⟩) (fun i _ => True) ?_ 0 () (Nat.zero_le _) trivial
        rintro i _ hi _
        obtain rfl : i = 0 := Nat.le_zero.1 hi
        conv => whnf
        refine CodeP.seq 0 ?_
        conv => whnf
        refine And.intro (Nat.le_refl _) ?_
        conv => whnf
        refine ⟨by show (3 : Nat) * 8 ≤ 140737488355328; decide, all3c rfl rfl rfl, ?_⟩
        conv => whnf
        -- the document's
        refine CodeP.seq 0 ?_
        conv => whnf
        refine ⟨(g, l, ls), rfl, ⟨by show l.length ≤ _; omega, by show ls.length ≤ _; omega⟩, ?_⟩
        conv => whnf
        refine CodeP.seq 0 ?_
        conv => whnf
        refine ⟨(g, l, v123), rfl, by show l.length ≤ _; omega, ?_⟩
        conv => whnf
        refine CodeP.one 0 ?_
        conv => whnf
        have tw : List.take (v :: r).length (List.drop 0 (eWs (v :: r))) = eWs (v :: r) := by
          rw [List.drop_zero]
          exact List.take_of_length_le (by rw [eWs_len]; exact Nat.le_refl _)
        refine And.intro (by show 0 + (v :: r).length ≤ (eWs (v :: r)).length; rw [eWs_len]; omega) ?_
        conv => whnf
        refine ⟨(v :: r), by show [LV.rd (List.take (v :: r).length (List.drop 0 (eWs (v :: r)))), LV.rd (eWs (allA g l ls).1)] = [LV.rd (eWs (v :: r)), LV.rd (eWs (v :: r))]; rw [hws, tw], by show (v :: r).length ≤ _; omega, ?_⟩
        conv => whnf
        refine ⟨((m, []), (m, [])), by show [LV.agg [I m, .rd []], LV.agg [I (exAns g l v123).1.1, .rd (eNs (exAns g l v123).1.2)]] = [LV.agg [I m, .rd (eNs [])], LV.agg [I m, .rd (eNs [])]]; rw [hm, hc]; rfl, Nat.zero_le _, ?_⟩
        conv => whnf
        refine pickB_yes (sameR_refl (m, [])) ?_
        conv => whnf
        exact hk
      | cons c0 cr =>
        refine CodeP.seq 0 ?_
        conv => whnf
        refine LoopP.weaken (s2 := ⟨[.rd (eOs g), .rd (eAs l), .rd (eVs ls), .unk, .unk, .unk, .unk, .unk, .unk, .unk, .unk, .unk, .unk, .unk, .unk, .sl 4 0 ((v :: r)).length none, .unk, .ptr 6 0 0, .unk, .ptr 8 0 0, .unk, .unk, .unk, .unk, .unk, .unk, .unk, .unk, .unk, .unk, .unk, .unk, .unk, .unk, .unk, .unk, .unk, .unk, .unk, .unk, .unk, .unk, .unk, .unk, .unk, .unk, .unk, .unk, .unk, .unk, .unk, .unk, .unk, .unk, .unk, .unk, .unk, .unk, .unk, .unk, .unk, .unk, .unk, .unk, .unk, .unk, .unk, .unk, .unk, .unk, .unk, .unk, .unk, .unk, .unk, .unk, .unk, .unk, .unk, .unk, .unk, .unk, .unk, .unk, .unk, .unk, .unk, .unk, .unk, .unk, .unk, .unk, .unk, .unk, .unk, .unk, .unk, .unk, .unk, .unk, .unk, .unk, .unk, .unk, .unk, .unk, .unk, .unk, .unk, .unk, .unk, .unk, .unk, .unk, .unk, .unk, .unk, .unk, .unk, .unk, .unk, .unk, .unk, .unk, .unk, .unk, .unk, .unk, .unk, .unk, .unk, .unk, .unk, .unk, .unk, .unk, .unk, .unk, .unk, .unk, .unk, .unk, .unk, .unk, .unk, .unk, .unk, .unk, .unk, .unk, .unk, .unk, .unk, .unk, .unk, .unk, .unk, .unk, .unk, .unk, .unk, .unk, .unk, .unk, .unk, .unk, .unk, .unk, .unk, .unk, .unk, .unk, .unk, .unk, .unk, .unk, .unk, .unk, .unk, .unk, .unk, .unk, .unk, .unk, .unk, .unk, .unk, .unk, .unk, .unk, .unk, .unk, .unk, .unk, .unk, .unk, .unk, .unk, .unk, .unk, .unk, .unk, .unk, .unk, .unk, .unk, .unk, .unk, .unk, .unk, .unk, .unk, .unk, .unk, .unk, .unk, .unk, .unk, .unk, .unk, .unk, .unk, .unk, .unk, .unk, .unk, .unk, .unk, .unk, .unk, .unk, .unk, .unk, .unk, .unk, .unk, .unk, I ((c0 :: cr).length : Int), I (0 : Nat), .unk, .unk, .unk, .unk, .unk, .unk, .unk, .unk, .unk, .unk, .unk, .unk, .unk, .unk, .unk, .unk, .unk, .unk, .unk, .unk, .unk, .unk, .unk, .unk, .unk, .unk, .unk, .unk, .unk, .unk, .unk, .unk, .unk, .unk, .unk, .unk, .unk, .unk, .unk, .unk], [.dead, .dead, .dead, .dead, .row 4 false (eWs (v :: r)), .row 1 false (eNs (c0 :: cr)), .box [I m, .sl 5 0 (c0 :: cr).length none], .row 1 false (eNs (c0 :: cr)), .box [I m, .sl 7 0 (c0 :: cr).length none]]⟩) [0, 1, 2, 3, 4, 5, 6, 7, 8] ⟨?_, ?_, by decide, rfl⟩ ?_
        · repeat' (first | exact trivial | exact congrArg (fun x => LV.v (Value.int .i64 x)) (wrapS (by omega)) | rfl | (refine rens_av rfl ?_) | assumption | ((conv => whnf); refine And.intro ?_ ?_))
        · repeat' (first | exact trivial | rfl | exact renB_ab _ | exact renB_cb _ | exact rens_cv rfl | exact fun h => h | assumption | ((conv => whnf); refine And.intro ?_ ?_))
        refine loopInd 0 (by kernel_rfl) (c0 :: cr).length (fun i (G : List Int) => ⟨[.rd (eOs g), .rd (eAs l), .rd (eVs ls), .unk, .unk, .unk, .unk, .unk, .unk, .unk, .unk, .unk, .unk, .unk, .unk, .sl 4 0 ((v :: r)).length none, .unk, .ptr 6 0 0, .unk, .ptr 8 0 0, .unk, .unk, .unk, .unk, .unk, .unk, .unk, .unk, .unk, .unk, .unk, .unk, .unk, .unk, .unk, .unk, .unk, .unk, .unk, .unk, .unk, .unk, .unk, .unk, .unk, .unk, .unk, .unk, .unk, .unk, .unk, .unk, .unk, .unk, .unk, .unk, .unk, .unk, .unk, .unk, .unk, .unk, .unk, .unk, .unk, .unk, .unk, .unk, .unk, .unk, .unk, .unk, .unk, .unk, .unk, .unk, .unk, .unk, .unk, .unk, .unk, .unk, .unk, .unk, .unk, .unk, .unk, .unk, .unk, .unk, .unk, .unk, .unk, .unk, .unk, .unk, .unk, .unk, .unk, .unk, .unk, .unk, .unk, .unk, .unk, .unk, .unk, .unk, .unk, .unk, .unk, .unk, .unk, .unk, .unk, .unk, .unk, .unk, .unk, .unk, .unk, .unk, .unk, .unk, .unk, .unk, .unk, .unk, .unk, .unk, .unk, .unk, .unk, .unk, .unk, .unk, .unk, .unk, .unk, .unk, .unk, .unk, .unk, .unk, .unk, .unk, .unk, .unk, .unk, .unk, .unk, .unk, .unk, .unk, .unk, .unk, .unk, .unk, .unk, .unk, .unk, .unk, .unk, .unk, .unk, .unk, .unk, .unk, .unk, .unk, .unk, .unk, .unk, .unk, .unk, .unk, .unk, .unk, .unk, .unk, .unk, .unk, .unk, .unk, .unk, .unk, .unk, .unk, .unk, .unk, .unk, .unk, .unk, .unk, .unk, .unk, .unk, .unk, .unk, .unk, .unk, .unk, .unk, .unk, .unk, .unk, .unk, .unk, .unk, .unk, .unk, .unk, .unk, .unk, .unk, .unk, .unk, .unk, .unk, .unk, .unk, .unk, .unk, .unk, .unk, .unk, .unk, .unk, .unk, .unk, .unk, .unk, .unk, .unk, .unk, .unk, .unk, I ((c0 :: cr).length : Int), I (i : Nat), .unk, .unk, .unk, .unk, .unk, .unk, .unk, .unk, .unk, .unk, .unk, .unk, .unk, .unk, .unk, .unk, .unk, .unk, .unk, .unk, .unk, .unk, .unk, .unk, .unk, .unk, .unk, .unk, .unk, .unk, .unk, .unk, .unk, .unk, .unk, .unk, .unk, .unk, .unk, .unk], [.dead, .dead, .dead, .dead, .row 4 false (eWs (v :: r)), .row 1 false (eNs G), .box [I m, .sl 5 0 (c0 :: cr).length none], .row 1 false (eNs (c0 :: cr)), .box [I m, .sl 7 0 (c0 :: cr).length none]]⟩) (fun i G => G.length = (c0 :: cr).length) ?_ 0 (c0 :: cr) (Nat.zero_le _) rfl
        rintro i G hi hG
        rcases Nat.lt_or_ge i (c0 :: cr).length with hlt | hge
        · obtain ⟨o, ho⟩ : ∃ o, G[i]? = some o := ⟨_, List.getElem?_eq_getElem (by omega)⟩
          have hcond : decide ((i : Int) < ((c0 :: cr).length : Int)) = true := lt_dec hlt
          have h2 : (eNs G)[0 + (i : Int).toNat]? = some [I o] := by
            rw [Nat.zero_add]
            exact get_map (f := fun n : Int => [I n]) ho
          have hset : (eNs G).set (0 + (i : Int).toNat) [I 77] = eNs (G.set i 77) := set_map (f := fun n : Int => [I n])
          conv => whnf
          refine pickB_yes hcond ?_
          conv => whnf
          refine (idxB_iff (i := (i : Int)) (len := ((c0 :: cr).length : Int))).2 ⟨by omega, by omega, ?_⟩
          conv => whnf
          refine eltK_iff.2 ⟨_, h2, ?_⟩
          conv => whnf
          refine' ⟨G.set i 77, [0, 1, 2, 3, 4, 5, 6, 7, 8], hlt, (by rw [List.length_set]; exact hG), ⟨?t, ?h, by decide, rfl⟩⟩
          case t => repeat' (first | exact trivial | exact congrArg (fun x => LV.v (Value.int .i64 x)) (wrapS (by omega)) | rfl | (refine rens_av rfl ?_) | assumption | ((conv => whnf); refine And.intro ?_ ?_))
          case h => repeat' (first | exact trivial | rfl | exact renB_ab _ | exact renB_cb _ | exact rens_cv rfl | exact fun h => h | assumption | ((conv => whnf); refine And.intro ?_ ?_))
        have hcond : decide ((i : Int) < ((c0 :: cr).length : Int)) = false := ge_dec hge
        conv => whnf
        refine pickB_no hcond ?_
        conv => whnf
        refine CodeP.seq 0 ?_
        conv => whnf
        refine And.intro (Nat.le_refl _) ?_
        conv => whnf
        refine ⟨rfl, by rw [eNs_len]; exact hG, by show ((c0 :: cr).length + 3) * 8 ≤ 140737488355328; omega, all3c rfl rfl rfl, ?_⟩
        conv => whnf
        refine pickB_no (by
          show ((((c0 :: cr).length + 3 : Nat) : Int) != IntKind.i64.wrap (((c0 :: cr).length : Int) + 3)) = false
          rw [show IntKind.i64.wrap (((c0 :: cr).length : Int) + 3) = (((c0 :: cr).length + 3 : Nat) : Int) from (wrap_i _ (by omega) (by omega)).trans (by omega)]
          simp) ?_
        conv => whnf
        -- the document's
        refine CodeP.seq 0 ?_
        conv => whnf
        refine ⟨(g, l, ls), rfl, ⟨by show l.length ≤ _; omega, by show ls.length ≤ _; omega⟩, ?_⟩
        conv => whnf
        refine CodeP.seq 0 ?_
        conv => whnf
        refine ⟨(g, l, v123), rfl, by show l.length ≤ _; omega, ?_⟩
        conv => whnf
        refine CodeP.one 0 ?_
        conv => whnf
        have tw : List.take (v :: r).length (List.drop 0 (eWs (v :: r))) = eWs (v :: r) := by
          rw [List.drop_zero]
          exact List.take_of_length_le (by rw [eWs_len]; exact Nat.le_refl _)
        refine And.intro (by show 0 + (v :: r).length ≤ (eWs (v :: r)).length; rw [eWs_len]; omega) ?_
        conv => whnf
        refine ⟨(v :: r), by show [LV.rd (List.take (v :: r).length (List.drop 0 (eWs (v :: r)))), LV.rd (eWs (allA g l ls).1)] = [LV.rd (eWs (v :: r)), LV.rd (eWs (v :: r))]; rw [hws, tw], by show (v :: r).length ≤ _; omega, ?_⟩
        conv => whnf
        have tc : List.take (c0 :: cr).length (List.drop 0 (eNs (c0 :: cr))) = eNs (c0 :: cr) := by
          rw [List.drop_zero]
          exact List.take_of_length_le (by rw [eNs_len]; exact Nat.le_refl _)
        refine And.intro (by show 0 + (c0 :: cr).length ≤ (eNs (c0 :: cr)).length; rw [eNs_len]; omega) ?_
        conv => whnf
        refine ⟨((m, (c0 :: cr)), (m, (c0 :: cr))), by show [LV.agg [I m, .rd (List.take (c0 :: cr).length (List.drop 0 (eNs (c0 :: cr))))], LV.agg [I (exAns g l v123).1.1, .rd (eNs (exAns g l v123).1.2)]] = [LV.agg [I m, .rd (eNs (c0 :: cr))], LV.agg [I m, .rd (eNs (c0 :: cr))]]; rw [hm, hc, tc], by show (c0 :: cr).length ≤ _; omega, ?_⟩
        conv => whnf
        refine pickB_yes (sameR_refl (m, (c0 :: cr))) ?_
        conv => whnf
        exact hk
noncomputable def eM5 : Ent := entA sL5 espec_fun
end E
end Go.Proofs.YtjhognibibmeiaaGreatDoor
end
