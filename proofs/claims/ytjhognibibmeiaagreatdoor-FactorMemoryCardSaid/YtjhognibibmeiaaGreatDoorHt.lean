/-
  THE FUNCTIONS, twentieth part: the reference's places.
-/
import Derived.Test.YtjhognibibmeiaaGreatDoorHs
set_option linter.unusedVariables false
set_option maxRecDepth 100000
set_option maxHeartbeats 4000000
namespace Go.Proofs.YtjhognibibmeiaaGreatDoor
namespace E
open Go Go.RowKit

def dotT (t m : Int) (a v : V) : Int := dotR (w (t * w (m.tdiv 24))) a.x a.y a.z v.x v.y v.z
def imgR (o : O) (m : Int) (x : V) : V := bring2 ⟨dotT o.t.x m o.r.a x, dotT o.t.y m o.r.b x, dotT o.t.z m o.r.c x⟩ m
def S65 : PSpec := espec (fun x : O × Int × V => [.agg (eO x.1), .agg (ePt ⟨x.2.1, x.2.2⟩)]) (fun x => x.2.1 ≠ 0) (fun x => .agg (ePt ⟨x.2.1, imgR x.1 x.2.1 x.2.2⟩))
theorem s65 : SoundA PR GL 87 S65 := mkA [e81] 4 Tryz.func87 (by kernel_rfl) (by kernel_rfl) fun args K hk => by
  obtain ⟨⟨o, m, x⟩, rfl, hm, hk⟩ := hk
  conv => whnf
  refine nzB_iff.2 ⟨hm, ?_⟩
  conv => whnf
  exact hk
noncomputable def e65 : Ent := entA s65 espec_fun

/-- A place put in its place, if it is not there. -/
def insV (q : V) : List V → List V
  | [] => [q]
  | b :: r => bif decide (cmpV b q 0 < 0) then b :: insV q r else bif sameV b q then b :: r else q :: b :: r
def insAll (qs : List V) : List V := qs.foldl (fun l q => insV q l) []
def imgsR (g : List O) (m : Int) (x : V) : List V := g.map fun o => imgR o m x
theorem insV_drop {q : V} {l : List V} {i : Nat} {b : V} (h : l[i]? = some b) (hlt : cmpV b q 0 < 0) : insV q (l.drop i) = b :: insV q (l.drop (i + 1)) := by
  rw [drop_get h, insV]
  have : decide (cmpV b q 0 < 0) = true := by simpa using hlt
  rw [this]; rfl
theorem insV_len {q : V} : ∀ {l : List V}, (insV q l).length ≤ l.length + 1
  | [] => Nat.le_refl _
  | b :: r => by
    unfold insV
    have := insV_len (q := q) (l := r)
    cases decide (cmpV b q 0 < 0) <;> cases sameV b q <;> simp <;> omega
theorem all0 {n : Nat} : ∀ e ∈ ([] : List (List LV)), e.length = n := fun e he => by cases he
theorem segAll {m : Int} {L : List V} {a b : Nat} : ∀ e ∈ List.take a (List.drop b (ptsE m L)), e.length = 4 := by
  intro e he
  have h1 := List.mem_of_mem_drop (List.mem_of_mem_take he)
  simp only [ptsE, List.mem_map] at h1
  obtain ⟨v, _, rfl⟩ := h1
  rfl
theorem seg_len {m : Int} {L : List V} {a b : Nat} : (List.take a (List.drop b (ptsE m L))).length ≤ L.length := by
  simp [ptsE]; omega
theorem take_big {l : List (List LV)} {a : Nat} (h : l.length ≤ a) : List.take a l = l := List.take_of_length_le h
theorem pts_len {m : Int} {l : List V} : (ptsE m l).length = l.length := by simp [ptsE]

def S38 : PSpec := espec (fun x : List O × Int × V => [.rd (eOs x.1), .agg (ePt ⟨x.2.1, x.2.2⟩)]) (fun x => x.2.1 ≠ 0 ∧ x.1.length ≤ 192) (fun x => .rd (ptsE x.2.1 (insAll (imgsR x.1 x.2.1 x.2.2))))
theorem s38 : SoundA PR GL 58 S38 := mkA [e65, e66] 0 Tryz.func58 (by kernel_rfl) (by kernel_rfl) fun args K hk => by
  obtain ⟨⟨g, m, x⟩, rfl, ⟨hm, hlen⟩, hk⟩ := hk
  replace hm : m ≠ 0 := hm
  replace hlen : g.length ≤ 192 := hlen
  have hl : (eOs g).length = g.length := by simp [eOs]
  replace hk : K (.rd (ptsE m (insAll (imgsR g m x)))) := hk
  conv => whnf
  refine LoopP.weaken (s2 := ⟨[.unk, .unk, .unk, .ptr 0 0 0, .unk, .v (.slice none 0 0), .unk, .unk, .unk, .unk, .unk, .rd (eOs g), I ((eOs g).length : Int), I (0 : Nat), .unk, .unk, .unk, .unk, .unk, .unk, .unk, .unk, .unk, .unk, .unk, .unk, .unk, .unk, .unk, .unk, .unk, .unk, .unk, .unk, .unk, .unk, .unk, .unk, .unk, .unk, .unk, .unk, .unk, .unk, .unk, .unk, .unk, .unk, .unk, .unk, .unk, .unk, .unk, .unk, .unk, .unk, .unk, .unk, .unk, .unk, .unk, .unk, .unk, .unk, .unk], [.box (ePt ⟨m, x⟩)]⟩) [0] ⟨?_, ?_, by decide, rfl⟩ ?_
  · repeat' (first | exact trivial | rfl | ((conv => whnf); refine And.intro ?_ ?_))
  · repeat' (first | exact trivial | rfl | ((conv => whnf); refine And.intro ?_ ?_))
  refine loopInd 0 (by kernel_rfl) g.length (fun i (a : List V) => match a with
      | [] => ⟨[.unk, .unk, .unk, .ptr 0 0 0, .unk, .v (.slice none 0 0), .unk, .unk, .unk, .unk, .unk, .rd (eOs g), I ((eOs g).length : Int), I (i : Nat), .unk, .unk, .unk, .unk, .unk, .unk, .unk, .unk, .unk, .unk, .unk, .unk, .unk, .unk, .unk, .unk, .unk, .unk, .unk, .unk, .unk, .unk, .unk, .unk, .unk, .unk, .unk, .unk, .unk, .unk, .unk, .unk, .unk, .unk, .unk, .unk, .unk, .unk, .unk, .unk, .unk, .unk, .unk, .unk, .unk, .unk, .unk, .unk, .unk, .unk, .unk], [.box (ePt ⟨m, x⟩)]⟩
      | v :: r => ⟨[.unk, .unk, .unk, .ptr 0 0 0, .unk, .sl 1 0 (v :: r).length none, .unk, .unk, .unk, .unk, .unk, .rd (eOs g), I ((eOs g).length : Int), I (i : Nat), .unk, .unk, .unk, .unk, .unk, .unk, .unk, .unk, .unk, .unk, .unk, .unk, .unk, .unk, .unk, .unk, .unk, .unk, .unk, .unk, .unk, .unk, .unk, .unk, .unk, .unk, .unk, .unk, .unk, .unk, .unk, .unk, .unk, .unk, .unk, .unk, .unk, .unk, .unk, .unk, .unk, .unk, .unk, .unk, .unk, .unk, .unk, .unk, .unk, .unk, .unk], [.box (ePt ⟨m, x⟩), .row 4 false (ptsE m (v :: r))]⟩)
    (fun i a => a.length ≤ i ∧ ((imgsR g m x).drop i).foldl (fun l q => insV q l) a = insAll (imgsR g m x)) ?_ 0 [] (Nat.zero_le _) ⟨Nat.le_refl _, rfl⟩
  rintro i a hi ⟨hai, hJ⟩
  rcases Nat.lt_or_ge i g.length with hlt | hge
  · obtain ⟨o, ho⟩ : ∃ o, g[i]? = some o := ⟨_, List.getElem?_eq_getElem hlt⟩
    have hcond : decide ((i : Int) < ((eOs g).length : Int)) = true := by rw [hl]; exact lt_dec hlt
    have hq : (imgsR g m x)[i]? = some (imgR o m x) := by unfold imgsR; rw [List.getElem?_map, ho]; rfl
    rw [drop_get hq, List.foldl_cons] at hJ
    cases a with
    | nil =>
      conv => whnf
      refine pickB_yes hcond ?_
      conv => whnf
      refine eltK_iff.2 ⟨_, get_map ho, ?_⟩
      conv => whnf
      refine ⟨(o, m, x), rfl, hm, ?_⟩
      conv => whnf
      refine stepL _ 0 (by kernel_rfl) ?_
      conv => whnf
      refine And.intro (Or.inl rfl) ?_
      conv => whnf
      refine ⟨(by show (0 : Nat) * 32 ≤ 140737488355328; decide), all0, ?_⟩
      conv => whnf
      refine And.intro (Nat.le_refl _) ?_
      conv => whnf
      refine ⟨(by show (1 : Nat) * 32 ≤ 140737488355328; decide), all1 rfl, ?_⟩
      conv => whnf
      refine And.intro (Or.inl rfl) ?_
      conv => whnf
      refine ⟨rfl, rfl, (by show (1 + 0 : Nat) * 32 ≤ 140737488355328; decide), all0, ?_⟩
      conv => whnf
      refine' ⟨[imgR o m x], [0, 5], hlt, ⟨by simp, hJ⟩, ⟨?t, ?h, by decide, rfl⟩⟩
      case t => repeat' (first | exact trivial | exact congrArg (fun x => LV.v (Value.int .i64 x)) (wrapS (by omega)) | rfl | ((conv => whnf); refine And.intro ?_ ?_))
      case h => repeat' (first | exact trivial | rfl | (exact fun h => h) | ((conv => whnf); refine And.intro ?_ ?_))
    | cons v r =>
      conv => whnf
      refine pickB_yes hcond ?_
      conv => whnf
      refine eltK_iff.2 ⟨_, get_map ho, ?_⟩
      conv => whnf
      refine ⟨(o, m, x), rfl, hm, ?_⟩
      conv => whnf
      generalize hqq : imgR o m x = q at hJ
      generalize hn : (v :: r).length = n at hai
      generalize hL : v :: r = L at hJ hn
      have hn0 : 0 < n := by rw [← hn, ← hL]; simp
      refine LoopP.weaken (s2 := ⟨[.unk, .unk, .unk, .ptr 0 0 0, .unk, .sl 1 0 n none, .unk, .unk, .ptr 2 0 0, I (0 : Nat), .unk, .rd (eOs g), I ((eOs g).length : Int), I (i : Nat), .unk, .unk, .unk, .unk, .unk, .unk, .unk, .unk, .unk, .unk, .unk, .unk, .unk, .unk, .unk, .unk, .unk, .unk, .unk, .unk, .unk, .unk, .unk, .unk, .unk, .unk, .unk, .unk, .unk, .unk, .unk, .unk, .unk, .unk, .unk, .unk, .unk, .unk, .unk, .unk, .unk, .unk, .unk, .unk, .unk, .unk, .unk, .unk, .unk, .unk, .unk], [.box (ePt ⟨m, x⟩), .row 4 false (ptsE m L), .box (ePt ⟨m, q⟩)]⟩) [0, 1, 3] ⟨?_, ?_, by decide, rfl⟩ ?_
      · repeat' (first | exact trivial | rfl | ((conv => whnf); refine And.intro ?_ ?_))
      · repeat' (first | exact trivial | rfl | (exact fun h => h) | (exact congrArg (fun z => ePt ⟨m, z⟩) hqq) | ((conv => whnf); refine And.intro ?_ ?_))
      have hpl : (ptsE m L).length = n := by rw [pts_len]; exact hn
      refine loopInd 0 (by kernel_rfl) n (fun k (_ : Unit) => ⟨[.unk, .unk, .unk, .ptr 0 0 0, .unk, .sl 1 0 n none, .unk, .unk, .ptr 2 0 0, I (k : Nat), .unk, .rd (eOs g), I ((eOs g).length : Int), I (i : Nat), .unk, .unk, .unk, .unk, .unk, .unk, .unk, .unk, .unk, .unk, .unk, .unk, .unk, .unk, .unk, .unk, .unk, .unk, .unk, .unk, .unk, .unk, .unk, .unk, .unk, .unk, .unk, .unk, .unk, .unk, .unk, .unk, .unk, .unk, .unk, .unk, .unk, .unk, .unk, .unk, .unk, .unk, .unk, .unk, .unk, .unk, .unk, .unk, .unk, .unk, .unk], [.box (ePt ⟨m, x⟩), .row 4 false (ptsE m L), .box (ePt ⟨m, q⟩)]⟩)
        (fun k _ => insV q L = L.take k ++ insV q (L.drop k)) ?_ 0 () (Nat.zero_le _) rfl
      clear hcond hqq
      rintro k - hk2 hins
      rcases Nat.lt_or_ge k n with hkn | hkn
      · obtain ⟨b, hb⟩ : ∃ o, L[k]? = some o := ⟨_, List.getElem?_eq_getElem (by omega)⟩
        have hcond : decide ((k : Int) < (n : Int)) = true := lt_dec hkn
        conv => whnf
        refine pickB_yes hcond ?_
        conv => whnf
        refine idxB_iff.2 ⟨by omega, by omega, ?_⟩
        conv => whnf
        refine eltK_iff.2 ⟨_, getP hb (by simp), ?_⟩
        conv => whnf
        refine pickB_of (fun h => ?_) (fun h => ?_)
        · have hc : cmpV b q 0 < 0 := of_decide_eq_true h
          clear h
          conv => whnf
          refine' ⟨(), [0, 1, 2], hkn, ?j, ⟨?t, ?h, by decide, rfl⟩⟩
          case t => repeat' (first | exact trivial | exact congrArg (fun x => LV.v (Value.int .i64 x)) (wrapS (by omega)) | rfl | ((conv => whnf); refine And.intro ?_ ?_))
          case h => repeat' (first | exact trivial | rfl | (exact fun h => h) | ((conv => whnf); refine And.intro ?_ ?_))
          case j => rw [hins, insV_drop hb hc, take_snoc hb, List.append_assoc]; rfl
        · have hc : decide (cmpV b q 0 < 0) = false := h
          clear h
          rw [drop_get hb, insV, hc, cond_false] at hins
          conv => whnf
          refine pickB_yes hcond ?_
          conv => whnf
          refine idxB_iff.2 ⟨by omega, by omega, ?_⟩
          conv => whnf
          refine eltK_iff.2 ⟨_, getP hb (by simp), ?_⟩
          conv => whnf
          refine pickB_of (fun h => ?_) (fun h => ?_)
          · have hsame : sameV b q = true := by
              have h' : (m == m && sameV b q) = true := h
              simpa using h'
            rw [hsame, cond_true, ← drop_get hb, List.take_append_drop] at hins
            rw [hins] at hJ
            subst hL hn
            clear h hcond
            conv => whnf
            refine' ⟨v :: r, [0, 1], hlt, ⟨by omega, hJ⟩, ⟨?t, ?h, by decide, rfl⟩⟩
            case t => repeat' (first | exact trivial | exact congrArg (fun x => LV.v (Value.int .i64 x)) (wrapS (by omega)) | rfl | ((conv => whnf); refine And.intro ?_ ?_))
            case h => repeat' (first | exact trivial | rfl | (exact fun h => h) | ((conv => whnf); refine And.intro ?_ ?_))
          · have hsame : sameV b q = false := by
              have h' : (m == m && sameV b q) = false := h
              simpa using h'
            rw [hsame, cond_false, ← drop_get hb] at hins
            clear h hcond hsame hc
            obtain ⟨v', r', hvr⟩ : ∃ v' r', insV q L = v' :: r' := by
              rw [hins]
              cases L.take k with
              | nil => exact ⟨_, _, rfl⟩
              | cons a b => exact ⟨_, _, rfl⟩
            have hlen2 : (v' :: r').length = n + 1 := by rw [← hvr, hins]; simp; omega
            rw [hvr] at hJ
            conv => whnf
            refine And.intro (Or.inl rfl) ?_
            conv => whnf
            refine leB_iff.2 ⟨by omega, by omega, ?_⟩
            cases k with
            | zero =>
              conv => whnf
              refine ⟨(by show (0 : Nat) * 32 ≤ 140737488355328; decide), all0, ?_⟩
              conv => whnf
              refine And.intro (Nat.le_refl _) ?_
              conv => whnf
              refine ⟨(by show (1 : Nat) * 32 ≤ 140737488355328; decide), all1 rfl, ?_⟩
              conv => whnf
              refine And.intro (Or.inl rfl) ?_
              conv => whnf
              refine pickB_no (by show decide (n - 0 = 0) = false; simp; omega) ?_
              conv => whnf
              refine And.intro (by show 0 + 0 + (n - 0) ≤ (ptsE m L).length; omega) ?_
              conv => whnf
              refine ⟨rfl, rfl, (by show (1 + (List.take (n - 0) (List.drop (0 + 0) (ptsE m L))).length) * 32 ≤ 140737488355328; have := seg_len (m := m) (L := L) (a := n - 0) (b := 0 + 0); omega), segAll, ?_⟩
              conv => whnf
              have hrow : [ePt ⟨m, q⟩] ++ List.take (n - 0) (List.drop (0 + 0) (ptsE m L)) = ptsE m (v' :: r') := by
                rw [← hvr, hins]
                simp only [ptsE, List.take_zero, List.nil_append, List.map_cons, List.map_drop, Nat.add_zero, Nat.sub_zero, List.drop_zero, List.singleton_append]
                rw [List.take_of_length_le (by rw [List.length_map]; omega)]
              have hrl : 1 + (List.take (n - 0) (List.drop (0 + 0) (ptsE m L))).length = (v' :: r').length := by
                have := congrArg List.length hrow
                rw [List.length_append, pts_len] at this
                exact this
              refine' ⟨v' :: r', [0, 5], hlt, ⟨by omega, hJ⟩, ⟨?t, ?h, by decide, rfl⟩⟩
              case t => repeat' (first | exact trivial | exact congrArg (fun x => LV.v (Value.int .i64 x)) (wrapS (by omega)) | rfl | exact hrl | ((conv => whnf); refine And.intro ?_ ?_))
              case h => repeat' (first | exact trivial | rfl | (exact fun h => h) | exact hrow | ((conv => whnf); refine And.intro ?_ ?_))
            | succ k =>
              subst hL
              conv => whnf
              refine And.intro (by show 0 + 0 + (k + 1 - 0) ≤ (ptsE m (v :: r)).length; omega) ?_
              conv => whnf
              refine ⟨(by show (List.take (k + 1 - 0) (List.drop (0 + 0) (ptsE m (v :: r)))).length * 32 ≤ 140737488355328; have := seg_len (m := m) (L := v :: r) (a := k + 1 - 0) (b := 0 + 0); omega), segAll, ?_⟩
              conv => whnf
              refine And.intro (Nat.le_refl _) ?_
              conv => whnf
              have hL1 : (List.take (k + 1 - 0) (List.drop (0 + 0) (ptsE m (v :: r)))).length ≤ n := by rw [← hn]; exact seg_len
              refine ⟨rfl, rfl, (by show ((List.take (k + 1 - 0) (List.drop (0 + 0) (ptsE m (v :: r)))).length + 1) * 32 ≤ 140737488355328; omega), all1 rfl, ?_⟩
              conv => whnf
              refine And.intro (Or.inl rfl) ?_
              conv => whnf
              refine leB_iff.2 ⟨by omega, by omega, ?_⟩
              conv => whnf
              refine pickB_no (by show decide (n - (k + 1) = 0) = false; simp; omega) ?_
              conv => whnf
              refine And.intro (by show 0 + (k + 1) + (n - (k + 1)) ≤ (ptsE m (v :: r)).length; omega) ?_
              conv => whnf
              have hL2 : (List.take (n - (k + 1)) (List.drop (0 + (k + 1)) (ptsE m (v :: r)))).length ≤ n := by rw [← hn]; exact seg_len
              refine ⟨rfl, List.length_append, (by show ((List.take (k + 1 - 0) (List.drop (0 + 0) (ptsE m (v :: r)))).length + 1 + (List.take (n - (k + 1)) (List.drop (0 + (k + 1)) (ptsE m (v :: r)))).length) * 32 ≤ 140737488355328; omega), segAll, ?_⟩
              conv => whnf
              have hrow : (List.take (k + 1 - 0) (List.drop (0 + 0) (ptsE m (v :: r))) ++ [ePt ⟨m, q⟩]) ++ List.take (n - (k + 1)) (List.drop (0 + (k + 1)) (ptsE m (v :: r))) = ptsE m (v' :: r') := by
                rw [← hvr, hins]
                simp only [Nat.sub_zero, Nat.zero_add, List.drop_zero]
                rw [take_big (l := List.drop (k + 1) (ptsE m (v :: r))) (by rw [List.length_drop]; omega)]
                simp [ptsE, List.map_take, List.map_drop]
              have hrl : (List.take (k + 1 - 0) (List.drop (0 + 0) (ptsE m (v :: r)))).length + 1 + (List.take (n - (k + 1)) (List.drop (0 + (k + 1)) (ptsE m (v :: r)))).length = (v' :: r').length := by
                have := congrArg List.length hrow
                rw [List.length_append, List.length_append, pts_len] at this
                exact this
              refine' ⟨v' :: r', [0, 6], hlt, ⟨by omega, hJ⟩, ⟨?t, ?h, by decide, rfl⟩⟩
              case t => repeat' (first | exact trivial | exact congrArg (fun x => LV.v (Value.int .i64 x)) (wrapS (by omega)) | rfl | exact hrl | ((conv => whnf); refine And.intro ?_ ?_))
              case h => repeat' (first | exact trivial | rfl | (exact fun h => h) | exact hrow | ((conv => whnf); refine And.intro ?_ ?_))
      · have hcond : decide ((k : Int) < (n : Int)) = false := ge_dec hkn
        conv => whnf
        refine pickB_no hcond ?_
        conv => whnf
        refine pickB_no hcond ?_
        obtain ⟨v', r', hvr⟩ : ∃ v' r', insV q L = v' :: r' := by
          rw [hins]
          cases L.take k with
          | nil => exact ⟨_, _, by rw [List.drop_eq_nil_of_le (by omega)]; rfl⟩
          | cons a b => exact ⟨_, _, rfl⟩
        have hlen2 : (v' :: r').length = n + 1 := by rw [← hvr, hins, List.drop_eq_nil_of_le (by omega), List.take_of_length_le (by omega)]; simp [insV]; omega
        rw [hvr] at hJ
        obtain ⟨k, rfl⟩ : ∃ k', k = k' + 1 := ⟨k - 1, by omega⟩
        subst hL
        conv => whnf
        refine And.intro (Or.inl rfl) ?_
        conv => whnf
        refine leB_iff.2 ⟨by omega, by omega, ?_⟩
        conv => whnf
        refine And.intro (by show 0 + 0 + (k + 1 - 0) ≤ (ptsE m (v :: r)).length; omega) ?_
        conv => whnf
        refine ⟨(by show (List.take (k + 1 - 0) (List.drop (0 + 0) (ptsE m (v :: r)))).length * 32 ≤ 140737488355328; have := seg_len (m := m) (L := v :: r) (a := k + 1 - 0) (b := 0 + 0); omega), segAll, ?_⟩
        conv => whnf
        refine And.intro (Nat.le_refl _) ?_
        conv => whnf
        have hL1 : (List.take (k + 1 - 0) (List.drop (0 + 0) (ptsE m (v :: r)))).length ≤ n := by rw [← hn]; exact seg_len
        refine ⟨rfl, rfl, (by show ((List.take (k + 1 - 0) (List.drop (0 + 0) (ptsE m (v :: r)))).length + 1) * 32 ≤ 140737488355328; omega), all1 rfl, ?_⟩
        conv => whnf
        refine And.intro (Or.inl rfl) ?_
        conv => whnf
        refine leB_iff.2 ⟨by omega, by omega, ?_⟩
        conv => whnf
        refine pickB_yes (by show decide (n - (k + 1) = 0) = true; simp; omega) ?_
        conv => whnf
        refine ⟨rfl, List.length_append, (by show ((List.take (k + 1 - 0) (List.drop (0 + 0) (ptsE m (v :: r)))).length + 1 + 0) * 32 ≤ 140737488355328; omega), all0, ?_⟩
        conv => whnf
        have hrow : (List.take (k + 1 - 0) (List.drop (0 + 0) (ptsE m (v :: r))) ++ [ePt ⟨m, q⟩]) ++ [] = ptsE m (v' :: r') := by
          rw [← hvr, hins, show List.drop (k + 1) (v :: r) = [] from List.drop_eq_nil_of_le (by omega)]
          simp [ptsE, List.map_take, insV]
        have hrl : (List.take (k + 1 - 0) (List.drop (0 + 0) (ptsE m (v :: r)))).length + 1 + 0 = (v' :: r').length := by
          have := congrArg List.length hrow
          rw [List.length_append, List.length_append, pts_len] at this
          exact this
        refine' ⟨v' :: r', [0, 6], hlt, ⟨by omega, hJ⟩, ⟨?t, ?h, by decide, rfl⟩⟩
        case t => repeat' (first | exact trivial | exact congrArg (fun x => LV.v (Value.int .i64 x)) (wrapS (by omega)) | rfl | exact hrl | ((conv => whnf); refine And.intro ?_ ?_))
        case h => repeat' (first | exact trivial | rfl | (exact fun h => h) | exact hrow | ((conv => whnf); refine And.intro ?_ ?_))
  · have hcond : decide ((i : Int) < ((eOs g).length : Int)) = false := by rw [hl]; exact ge_dec hge
    rw [List.drop_eq_nil_of_le (by simp [imgsR]; omega)] at hJ
    replace hJ : a = insAll (imgsR g m x) := hJ
    rw [← hJ] at hk
    cases a with
    | nil =>
      conv => whnf
      refine pickB_no hcond ?_
      conv => whnf
      exact hk
    | cons v r =>
      conv => whnf
      refine pickB_no hcond ?_
      conv => whnf
      refine And.intro (by simp [ptsE]) ?_
      conv => whnf
      have e : List.take (v :: r).length (List.drop 0 (ptsE m (v :: r))) = ptsE m (v :: r) := by
        rw [List.drop_zero]
        exact List.take_of_length_le (by rw [pts_len]; exact Nat.le_refl _)
      rw [e]
      exact hk
noncomputable def e38 : Ent := entA s38 espec_fun
end E
end Go.Proofs.YtjhognibibmeiaaGreatDoor
