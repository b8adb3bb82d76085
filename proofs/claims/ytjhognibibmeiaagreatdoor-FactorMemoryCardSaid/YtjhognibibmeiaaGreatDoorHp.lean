/-
  THE FUNCTIONS, sixteenth part: orbit.Of.
-/
import Derived.Test.YtjhognibibmeiaaGreatDoorHo
set_option linter.unusedVariables false
set_option maxRecDepth 100000
set_option maxHeartbeats 4000000
namespace Go.Proofs.YtjhognibibmeiaaGreatDoor
namespace E
open Go Go.RowKit

/-! ### A group that passes -/
theorem mapsG_zero {E : O → Int} : ∀ {g : List O} {a : Int}, mapsG E g a = 0 → a = 0 ∧ ∀ o ∈ g, E o ≠ 3 ∧ E o ≠ 4
  | [], a, h => ⟨h, fun o h => by cases h⟩
  | o :: r, a, h => by
    unfold mapsG at h
    cases h3 : E o == 3 with
    | true => rw [h3] at h; cases h
    | false =>
      cases h4 : E o == 4 with
      | true =>
        rw [h3, h4] at h
        have := (mapsG_zero (g := r) h).1
        cases this
      | false =>
        rw [h3, h4] at h
        obtain ⟨h5, h6⟩ := mapsG_zero (g := r) h
        refine ⟨h5, fun q hq => ?_⟩
        rcases List.mem_cons.1 hq with rfl | hq
        · exact ⟨by simpa using h3, by simpa using h4⟩
        · exact h6 q hq
theorem opE_ok {o : O} (h3 : opE o ≠ 3) (h4 : opE o ≠ 4) : OkO o := by
  unfold opE at h3 h4
  cases ht : outT o.t with
  | true => rw [ht] at h3; exact absurd rfl h3
  | false =>
    cases hb : bey9 o.r with
    | true => rw [ht, hb] at h4; exact absurd rfl h4
    | false =>
      cases hd : okD o.r with
      | false => rw [ht, hb, hd] at h3; exact absurd rfl h3
      | true => exact ⟨ht, hb, hd⟩
structure OkG (g : List O) : Prop where
  len : g.length ≤ 192
  ok : ∀ o ∈ g, OkO o
  ne : g ≠ []
theorem chkG_ok {g : List O} (h : chkG g = 0) : OkG g := by
  unfold chkG at h
  cases hd : decide ((g.length : Int) > 192) with
  | true => rw [hd] at h; cases h
  | false =>
    rw [hd] at h
    simp only [cond_false] at h
    cases hm : mapsG opE g 0 != 0 with
    | true => rw [hm] at h; simp only [cond_true] at h; rw [h] at hm; cases hm
    | false =>
      rw [hm] at h
      simp only [cond_false] at h
      have hm0 : mapsG opE g 0 = 0 := by simpa using hm
      refine ⟨by simp at hd; omega, fun o ho => ?_, ?_⟩
      · obtain ⟨h3, h4⟩ := (mapsG_zero hm0).2 o ho
        exact opE_ok h3 h4
      · rintro rfl
        cases h
theorem chkP_ok {g : List O} {p : Pt} (h : chkP g p = 0) : OkG g ∧ Is4 p.m ∧ Rng p.m p.x := by
  unfold chkP at h
  cases hf : formP p with
  | true => rw [hf] at h; exact ⟨chkG_ok h, formP_iff.1 hf⟩
  | false =>
    rw [hf] at h
    cases hz : chkG g == 0 with
    | true => rw [hz] at h; cases h
    | false =>
      rw [hz] at h
      simp only [cond_false] at h
      cases hc : decide (chkG g > 3) with
      | true => rw [hc] at h; cases h
      | false => rw [hc] at h; simp only [cond_false] at h; rw [h] at hz; cases hz

/-! ### Runs of equal places brought to one -/
def sameV (a b : V) : Bool := a.x == b.x && (a.y == b.y && (a.z == b.z && true))
theorem sameV_iff {a b : V} : sameV a b = true ↔ a = b := by
  unfold sameV
  constructor
  · intro h
    simp only [Bool.and_eq_true, beq_iff_eq] at h
    exact V.ext' h.1 h.2.1 h.2.2.1
  · rintro rfl; simp
def ddT (p : V) : List V → List V
  | [] => []
  | b :: r => bif sameV b p then ddT p r else b :: ddT b r
def ddV : List V → List V
  | [] => []
  | a :: r => a :: ddT a r
theorem ddT_drop {l : List V} {i : Nat} {b : V} (h : l[i]? = some b) (p : V) : ddT p (l.drop i) = bif sameV b p then ddT p (l.drop (i + 1)) else b :: ddT b (l.drop (i + 1)) := by
  have hlt := (List.getElem?_eq_some_iff.1 h).1
  rw [List.drop_eq_getElem_cons hlt, (List.getElem?_eq_some_iff.1 h).2]
  rfl
theorem ddV_one {l : List V} {a : V} (h : l[0]? = some a) : ddV l = l.take 1 ++ ddT a (l.drop 1) := by
  cases l with
  | nil => cases h
  | cons b r => injection h with h; subst h; rfl
theorem take_snoc {l : List V} {i : Nat} {b : V} (h : l[i]? = some b) : l.take (i + 1) = l.take i ++ [b] := by
  rw [List.take_add_one, h]; rfl
theorem ddV_short {l : List V} (h : l.length < 2) : ddV l = l := by
  match l, h with
  | [], _ => rfl
  | [a], _ => rfl
  | _ :: _ :: _, h => simp at h; omega

theorem all1 {e0 : List LV} {n : Nat} (h : e0.length = n) : ∀ e ∈ [e0], e.length = n := by
  intro e he
  rw [List.mem_singleton.1 he]; exact h
theorem len_snoc (r : List V) (a : V) : (r ++ [a]).length = r.length + 1 := by simp
def ptsE (m : Int) (l : List V) : List (List LV) := l.map fun v => ePt ⟨m, v⟩
theorem pts_snoc (m : Int) (r : List V) (a : V) : ptsE m (r ++ [a]) = ptsE m r ++ [ePt ⟨m, a⟩] := by simp [ptsE]
theorem getP {m : Int} {S : List V} {i k : Nat} {b : V} (h : S[i]? = some b) (hk : k = i) : (ptsE m S)[k]? = some (ePt ⟨m, b⟩) := by
  subst hk; unfold ptsE; rw [List.getElem?_map, h]; rfl
theorem setP {m : Int} {E : List V} {k : Nat} {c : V} : (ptsE m E).set (0 + k) (ePt ⟨m, c⟩) = ptsE m (E.set k c) := by
  unfold ptsE; rw [Nat.zero_add, List.map_set]
theorem neB_f {a b : Int} (h : a ≠ b) : (a == b) = false := by simpa using h
def imgs (g : List O) (m : Int) (x : V) : List V := g.map fun o => imgV o m x
def orbV (g : List O) (m : Int) (x : V) : List V := ddV (sortV (imgs g m x))

def S54 : Spec := fun args h K => bodyK PR (XC [e75b]) 0 Tryz.f76 args h K
theorem s54 : CallOK PR GL 76 S54 := mkC [e75b] 0 Tryz.func76 (by kernel_rfl) (by kernel_rfl) fun args h K hk => hk
noncomputable def e54 : Ent := entC 4 s54 (cspec4 _)
def S57 : Spec := fun args h K => bodyK PR (XC []) 0 Tryz.f79 args h K
theorem s57 : CallOK PR GL 79 S57 := mkC [] 0 Tryz.func79 (by kernel_rfl) (by kernel_rfl) fun args h K hk => hk
noncomputable def e57 : Ent := entC 4 s57 (cspec4 _)

def S34 : PSpec := espec (fun x : List O × Pt => [.rd (eOs x.1), .agg (ePt x.2)]) (fun _ => True) (fun x => bif chkP x.1 x.2 != 0 then Er (.rd []) (chkP x.1 x.2) else Er (.rd (ptsE x.2.m (orbV x.1 x.2.m x.2.x))) 0)
theorem s34 : SoundA PR GL 52 S34 := mkA [e53, e54, e55, e57] 0 Tryz.func52 (by kernel_rfl) (by kernel_rfl) fun args K hk => by
  obtain ⟨⟨g, m, x⟩, rfl, _, hk⟩ := hk
  have hl : (eOs g).length = g.length := by simp [eOs]
  replace hk : K (bif chkP g ⟨m, x⟩ != 0 then Er (.rd []) (chkP g ⟨m, x⟩) else Er (.rd (ptsE m (orbV g m x))) 0) := hk
  conv => whnf
  refine And.intro (Nat.le_refl _) ?_
  conv => whnf
  refine ⟨(g, ⟨m, x⟩), rfl, trivial, ?_⟩
  conv => whnf
  refine pickB_of (fun h => ?_) (fun h => ?_)
  · have h' : (chkP g ⟨m, x⟩ != 0) = true := h
    rw [h', cond_true] at hk
    conv => whnf
    exact hk
  · have h' : (chkP g ⟨m, x⟩ != 0) = false := h
    rw [h', cond_false] at hk
    obtain ⟨hG, h4, hx⟩ := chkP_ok (g := g) (p := ⟨m, x⟩) (by simpa using h')
    clear h h'
    have hlen := hG.len
    conv => whnf
    refine LoopP.weaken (s2 := ⟨[.unk, .unk, .unk, .ptr 2 0 0, .unk, .v (.slice none 0 0), .unk, .unk, .unk, .unk, .rd (eOs g), I ((eOs g).length : Int), I (0 : Nat), .unk, .unk, .unk, .unk, .unk, .unk, .unk, .unk, .unk, .unk, .unk, .unk, .unk, .unk, .unk], [.dead, .dead, .box (ePt ⟨m, x⟩)]⟩) [0, 1, 2] ⟨?_, ?_, by decide, rfl⟩ ?_
    · repeat' (first | exact trivial | rfl | ((conv => whnf); refine And.intro ?_ ?_))
    · repeat' (first | exact trivial | rfl | ((conv => whnf); refine And.intro ?_ ?_))
    refine loopInd 0 (by kernel_rfl) g.length (fun i (a : List V) => match a with
        | [] => ⟨[.unk, .unk, .unk, .ptr 2 0 0, .unk, .v (.slice none 0 0), .unk, .unk, .unk, .unk, .rd (eOs g), I ((eOs g).length : Int), I (i : Nat), .unk, .unk, .unk, .unk, .unk, .unk, .unk, .unk, .unk, .unk, .unk, .unk, .unk, .unk, .unk], [.dead, .dead, .box (ePt ⟨m, x⟩)]⟩
        | v :: r => ⟨[.unk, .unk, .unk, .ptr 2 0 0, .unk, .sl 3 0 (v :: r).length none, .unk, .unk, .unk, .unk, .rd (eOs g), I ((eOs g).length : Int), I (i : Nat), .unk, .unk, .unk, .unk, .unk, .unk, .unk, .unk, .unk, .unk, .unk, .unk, .unk, .unk, .unk], [.dead, .dead, .box (ePt ⟨m, x⟩), .row 4 false (ptsE m (v :: r))]⟩)
      (fun i a => a = (imgs g m x).take i) ?_ 0 [] (Nat.zero_le _) rfl
    intro i a hi hJ
    rcases Nat.lt_or_ge i g.length with hlt | hge
    · obtain ⟨o, ho⟩ : ∃ o, g[i]? = some o := ⟨_, List.getElem?_eq_getElem hlt⟩
      have hoo := hG.ok o (List.mem_of_getElem? ho)
      have hcond : decide ((i : Int) < ((eOs g).length : Int)) = true := by rw [hl]; exact lt_dec hlt
      have hnext : (imgs g m x).take (i + 1) = a ++ [imgV o m x] := by
        rw [hJ]
        exact take_snoc (by unfold imgs; rw [List.getElem?_map, ho]; rfl)
      have hal : a.length = i := by rw [hJ]; simp [imgs]; omega
      cases a with
      | nil =>
        conv => whnf
        refine pickB_yes hcond ?_
        conv => whnf
        refine eltK_iff.2 ⟨_, get_map ho, ?_⟩
        conv => whnf
        refine ⟨(o, m, x), rfl, ⟨hoo, h4, hx⟩, ?_⟩
        conv => whnf
        refine And.intro (Nat.le_refl _) ?_
        conv => whnf
        refine ⟨(by show (1 : Nat) * 32 ≤ 140737488355328; decide), all1 rfl, ?_⟩
        conv => whnf
        refine' ⟨[imgV o m x], [0, 1, 2, 6], hlt, ?j, ⟨?t, ?h, by decide, rfl⟩⟩
        case t => repeat' (first | exact trivial | exact congrArg (fun x => LV.v (Value.int .i64 x)) (wrapS (by omega)) | rfl | ((conv => whnf); refine And.intro ?_ ?_))
        case h => repeat' (first | exact trivial | rfl | (exact fun h => h) | ((conv => whnf); refine And.intro ?_ ?_))
        case j => rw [hnext]; rfl
      | cons v r =>
        conv => whnf
        refine pickB_yes hcond ?_
        conv => whnf
        refine eltK_iff.2 ⟨_, get_map ho, ?_⟩
        conv => whnf
        refine ⟨(o, m, x), rfl, ⟨hoo, h4, hx⟩, ?_⟩
        conv => whnf
        refine And.intro (Nat.le_refl _) ?_
        conv => whnf
        have hpl : (ptsE m (v :: r)).length = (v :: r).length := by simp [ptsE]
        have hil : (v :: r).length ≤ 192 := by omega
        refine ⟨rfl, hpl, ?_, all1 rfl, ?_⟩
        · show ((v :: r).length + 1) * 32 ≤ 140737488355328
          omega
        conv => whnf
        refine' ⟨(v :: r) ++ [imgV o m x], [0, 1, 2, 7], hlt, ?j, ⟨?t, ?h, by decide, rfl⟩⟩
        case t => repeat' (first | exact trivial | exact congrArg (fun x => LV.v (Value.int .i64 x)) (wrapS (by omega)) | rfl | (exact (len_snoc (v :: r) (imgV o m x)).symm) | ((conv => whnf); refine And.intro ?_ ?_))
        case h => repeat' (first | exact trivial | rfl | (exact fun h => h) | (exact (pts_snoc m (v :: r) (imgV o m x)).symm) | ((conv => whnf); refine And.intro ?_ ?_))
        case j => rw [hnext]
    · have hcond : decide ((i : Int) < ((eOs g).length : Int)) = false := by rw [hl]; exact ge_dec hge
      have hall : a = imgs g m x := by
        rw [hJ]
        exact List.take_of_length_le (by simp [imgs]; omega)
      clear hJ
      cases a with
      | nil =>
        exfalso
        have := congrArg List.length hall
        simp [imgs] at this
        exact hG.ne (List.length_eq_zero_iff.1 this.symm)
      | cons v r =>
        have hrng : ∀ u ∈ v :: r, Rng m u := by
          rw [hall]
          intro u hu
          simp only [imgs, List.mem_map] at hu
          obtain ⟨o, _, rfl⟩ := hu
          exact modV_rng h4
        have hil : (v :: r).length = g.length := by rw [hall]; simp [imgs]
        conv => whnf
        refine pickB_no hcond ?_
        conv => whnf
        refine ⟨m, v :: r, 3, none, h4, hrng, by omega, rfl, ⟨false, rfl⟩, ?_⟩
        rw [hall] at hil ⊢
        generalize hS : sortV (imgs g m x) = S
        generalize hn : (imgs g m x).length = n at hil
        have hSl : S.length = n := by rw [← hS, ← hn]; simp [sortV]
        have horb : orbV g m x = ddV S := by rw [orbV, hS]
        rw [horb] at hk
        subst hil
        clear hS hn horb hrng hall
        conv => whnf
        refine pickB_of (fun h2 => ?_) (fun h2 => ?_)
        · have hlt : S.length < 2 := by simp at h2; omega
          conv => whnf
          refine And.intro (by simp; omega) ?_
          conv => whnf
          rw [ddV_short hlt] at hk
          have e : List.take g.length (List.drop 0 (List.map (fun v => ePt ⟨m, v⟩) S)) = ptsE m S := by
            rw [List.drop_zero]
            exact List.take_of_length_le (by simp; omega)
          rw [e]
          exact hk
        · have hge : 2 ≤ g.length := by simp at h2; omega
          clear h2
          conv => whnf
          refine LoopP.weaken (s2 := ⟨[.sl 3 0 g.length none, .unk, .unk, I ((0 + 1 : Nat) : Int), .unk, .unk, .unk, .unk, .unk, .unk, .unk, .unk, .unk, .unk, .unk, .unk, .unk, .unk, .unk, .unk, .unk, .unk, .unk, .unk, .unk, .unk, .unk, .unk, .unk, .unk, .unk, .unk, .unk, .unk, .unk, .unk, .unk, .unk, .unk, .unk, .unk, .unk, .unk, .unk, .unk, .unk, .unk, .unk, .unk, .unk, .unk, .unk, .unk, .unk, .unk, .unk, .unk, .unk, .unk, .unk, .unk], [.dead, .dead, .dead, .row 4 false (ptsE m S)]⟩) [0, 1, 2, 3] ⟨?_, ?_, by decide, rfl⟩ ?_
          · repeat' (first | exact trivial | rfl | ((conv => whnf); refine And.intro ?_ ?_))
          · repeat' (first | exact trivial | rfl | (exact fun h => h) | ((conv => whnf); refine And.intro ?_ ?_))
          refine loopInd 0 (by kernel_rfl) (g.length - 1) (fun j (_ : Unit) => ⟨[.sl 3 0 g.length none, .unk, .unk, I ((j + 1 : Nat) : Int), .unk, .unk, .unk, .unk, .unk, .unk, .unk, .unk, .unk, .unk, .unk, .unk, .unk, .unk, .unk, .unk, .unk, .unk, .unk, .unk, .unk, .unk, .unk, .unk, .unk, .unk, .unk, .unk, .unk, .unk, .unk, .unk, .unk, .unk, .unk, .unk, .unk, .unk, .unk, .unk, .unk, .unk, .unk, .unk, .unk, .unk, .unk, .unk, .unk, .unk, .unk, .unk, .unk, .unk, .unk, .unk, .unk], [.dead, .dead, .dead, .row 4 false (ptsE m S)]⟩)
            (fun j _ => ∃ p, S[j]? = some p ∧ ddV S = S.take (j + 1) ++ ddT p (S.drop (j + 1))) ?_ 0 () (Nat.zero_le _) (by
              obtain ⟨p, hp⟩ : ∃ o, S[0]? = some o := ⟨_, List.getElem?_eq_getElem (by omega)⟩
              exact ⟨p, hp, ddV_one hp⟩)
          clear hcond hi hge
          rintro j - hj ⟨p, hp, hdd⟩
          rcases Nat.lt_or_ge (j + 1) g.length with hlt | hge
          · obtain ⟨b, hb⟩ : ∃ o, S[j + 1]? = some o := ⟨_, List.getElem?_eq_getElem (by omega)⟩
            have hcond : decide (((j + 1 : Nat) : Int) < (g.length : Int)) = true := lt_dec hlt
            have hw : w (((j + 1 : Nat) : Int) - 1) = (j : Int) := wrapP (by omega)
            conv => whnf
            refine pickB_yes hcond ?_
            conv => whnf
            refine idxB_iff.2 ⟨by omega, by omega, ?_⟩
            conv => whnf
            refine eltK_iff.2 ⟨_, getP hb (by simp), ?_⟩
            conv => whnf
            refine idxB_iff.2 ⟨by show (0 : Int) ≤ w _; rw [hw]; omega, by show w _ < _; rw [hw]; omega, ?_⟩
            conv => whnf
            refine eltK_iff.2 ⟨_, getP hp (by show 0 + (w _).toNat = j; rw [hw]; simp), ?_⟩
            conv => whnf
            refine pickB_of (fun h => ?_) (fun h => ?_)
            · have hsame : sameV b p = true := by
                have h' : (m == m && sameV b p) = true := h
                simpa using h'
              clear h
              conv => whnf
              refine And.intro (Or.inl rfl) ?_
              conv => whnf
              refine leB_iff.2 ⟨by omega, by omega, ?_⟩
              conv => whnf
              refine pickB_no (by simp; omega) ?_
              conv => whnf
              refine LoopP.weaken (s2 := ⟨[.sl 3 0 g.length none, .unk, .unk, I ((j + 1 : Nat) : Int), .sl 3 (0 + (j + 1)) (g.length - (j + 1)) none, I ((0 + 1 : Nat) : Int), .unk, .unk, .unk, .unk, .unk, .unk, .unk, .unk, .unk, .unk, .unk, .unk, .unk, .unk, .unk, .unk, .unk, .unk, .unk, .unk, .unk, .unk, .unk, .unk, .unk, .unk, .unk, .unk, .unk, .unk, .unk, .unk, .unk, .unk, .unk, .unk, .unk, .unk, .unk, .unk, .unk, .unk, .unk, .unk, .unk, .unk, .unk, .unk, .unk, .unk, .unk, .unk, .unk, .unk, .unk], [.dead, .dead, .dead, .row 4 false (ptsE m S)]⟩) [0, 1, 2, 3] ⟨?_, ?_, by decide, rfl⟩ ?_
              · repeat' (first | exact trivial | rfl | ((conv => whnf); refine And.intro ?_ ?_))
              · repeat' (first | exact trivial | rfl | (exact fun h => h) | ((conv => whnf); refine And.intro ?_ ?_))
              refine loopInd 0 (by kernel_rfl) (g.length - (j + 1)) (fun q (a : Nat × List V) => ⟨[.sl 3 0 g.length none, .unk, .unk, I (a.1 : Int), .sl 3 (0 + (j + 1)) (g.length - (j + 1)) none, I ((q + 1 : Nat) : Int), .unk, .unk, .unk, .unk, .unk, .unk, .unk, .unk, .unk, .unk, .unk, .unk, .unk, .unk, .unk, .unk, .unk, .unk, .unk, .unk, .unk, .unk, .unk, .unk, .unk, .unk, .unk, .unk, .unk, .unk, .unk, .unk, .unk, .unk, .unk, .unk, .unk, .unk, .unk, .unk, .unk, .unk, .unk, .unk, .unk, .unk, .unk, .unk, .unk, .unk, .unk, .unk, .unk, .unk, .unk], [.dead, .dead, .dead, .row 4 false (ptsE m a.2)]⟩)
                (fun q a => j + 1 + q < g.length ∧ ∃ p, S[j + 1 + q]? = some p ∧ a.2.length = g.length ∧ a.2.drop (j + 1 + q) = S.drop (j + 1 + q) ∧ 1 ≤ a.1 ∧ a.1 ≤ j + 1 + q ∧ ddV S = a.2.take a.1 ++ ddT p (S.drop (j + 1 + q + 1))) ?_ 0 (j + 1, S) (Nat.zero_le _)
                ⟨hlt, b, hb, hSl, rfl, by simp, by simp, by
                  show ddV S = S.take (j + 1) ++ ddT b (S.drop (j + 1 + 0 + 1))
                  rw [hdd, ddT_drop hb, hsame, cond_true, (sameV_iff.1 hsame).symm]⟩
              clear hcond hw hdd hp hb hsame hj hlt
              rintro q ⟨k, E⟩ hq ⟨hq2, p, hp, hEl, hEd, hk1, hk2, hdd⟩
              replace hEl : E.length = g.length := hEl
              replace hEd : E.drop (j + 1 + q) = S.drop (j + 1 + q) := hEd
              replace hk1 : 1 ≤ k := hk1
              replace hk2 : k ≤ j + 1 + q := hk2
              replace hdd : ddV S = E.take k ++ ddT p (S.drop (j + 1 + q + 1)) := hdd
              have hES : ∀ t, E[j + 1 + q + t]? = S[j + 1 + q + t]? := fun t => by
                have := congrArg (fun l => l[t]?) hEd
                simpa using this
              rcases Nat.lt_or_ge (j + 1 + (q + 1)) g.length with hlt | hge
              · obtain ⟨c, hc⟩ : ∃ o, S[j + 1 + q + 1]? = some o := ⟨_, List.getElem?_eq_getElem (by omega)⟩
                have hEc : E[j + 1 + q + 1]? = some c := (hES 1).trans hc
                have hEp : E[j + 1 + q]? = some p := (hES 0).trans hp
                have hcond : decide (((q + 1 : Nat) : Int) < ((g.length - (j + 1) : Nat) : Int)) = true := lt_dec (by omega)
                have hw : w (((q + 1 : Nat) : Int) - 1) = (q : Int) := wrapP (by omega)
                conv => whnf
                refine pickB_yes hcond ?_
                conv => whnf
                refine idxB_iff.2 ⟨by omega, by omega, ?_⟩
                conv => whnf
                refine eltK_iff.2 ⟨_, getP hEc (by simp; omega), ?_⟩
                conv => whnf
                refine idxB_iff.2 ⟨by show (0 : Int) ≤ w _; rw [hw]; omega, by show w _ < _; rw [hw]; omega, ?_⟩
                conv => whnf
                refine eltK_iff.2 ⟨_, getP hEp (by show 0 + (j + 1) + (w _).toNat = _; rw [hw]; simp), ?_⟩
                conv => whnf
                refine pickB_of (fun h => ?_) (fun h => ?_)
                · have hsame : sameV c p = false := by
                    have h' : (!(m == m && sameV c p)) = true := h
                    simpa using h'
                  clear h
                  conv => whnf
                  refine idxB_iff.2 ⟨by omega, by omega, ?_⟩
                  conv => whnf
                  refine eltK_iff.2 ⟨_, getP hEc (by simp; omega), ?_⟩
                  conv => whnf
                  refine idxB_iff.2 ⟨by omega, by omega, ?_⟩
                  obtain ⟨d, hd⟩ : ∃ o, E[k]? = some o := ⟨_, List.getElem?_eq_getElem (by omega)⟩
                  conv => whnf
                  refine eltK_iff.2 ⟨_, getP hd (by simp), ?_⟩
                  conv => whnf
                  refine' ⟨(k + 1, E.set k c), [0, 1, 2, 3], by omega, ⟨by omega, c, hc, ?j1, ?j2, ?j3, ?j4, ?j5⟩, ⟨?t, ?h, by decide, rfl⟩⟩
                  case t => repeat' (first | exact trivial | exact congrArg (fun x => LV.v (Value.int .i64 x)) (wrapS (by omega)) | rfl | ((conv => whnf); refine And.intro ?_ ?_))
                  case h => repeat' (first | exact trivial | rfl | (exact fun h => h) | (exact setP) | ((conv => whnf); refine And.intro ?_ ?_))
                  case j1 => show (E.set k c).length = _; simp; exact hEl
                  case j2 =>
                    show (E.set k c).drop (j + 1 + (q + 1)) = _
                    rw [List.drop_set_of_lt (by omega)]
                    have := congrArg (List.drop 1) hEd
                    rw [List.drop_drop, List.drop_drop] at this
                    exact this
                  case j3 => show 1 ≤ k + 1; omega
                  case j4 => show k + 1 ≤ _; omega
                  case j5 =>
                    show ddV S = (E.set k c).take (k + 1) ++ ddT c (S.drop (j + 1 + (q + 1) + 1))
                    rw [hdd, ddT_drop hc, hsame, cond_false, take_snoc (b := c) (by rw [List.getElem?_set_self (by omega)]), List.take_set_of_le (Nat.le_refl _), List.append_assoc]
                    rfl
                · have hsame : sameV c p = true := by
                    have h' : (!(m == m && sameV c p)) = false := h
                    simpa using h'
                  clear h
                  conv => whnf
                  refine' ⟨(k, E), [0, 1, 2, 3], by omega, ⟨by omega, c, hc, hEl, ?j2, hk1, ?j4, ?j5⟩, ⟨?t, ?h, by decide, rfl⟩⟩
                  case t => repeat' (first | exact trivial | exact congrArg (fun x => LV.v (Value.int .i64 x)) (wrapS (by omega)) | rfl | ((conv => whnf); refine And.intro ?_ ?_))
                  case h => repeat' (first | exact trivial | rfl | (exact fun h => h) | ((conv => whnf); refine And.intro ?_ ?_))
                  case j2 =>
                    have := congrArg (List.drop 1) hEd
                    rw [List.drop_drop, List.drop_drop] at this
                    exact this
                  case j4 => show k ≤ _; omega
                  case j5 =>
                    show ddV S = E.take k ++ ddT c (S.drop (j + 1 + (q + 1) + 1))
                    rw [hdd, ddT_drop hc, hsame, cond_true, sameV_iff.1 hsame]
                    rfl
              · have hcond : decide (((q + 1 : Nat) : Int) < ((g.length - (j + 1) : Nat) : Int)) = false := ge_dec (by omega)
                have hSS : ddV S = E.take k := by
                  rw [hdd, List.drop_eq_nil_of_le (by omega)]
                  simp [ddT]
                rw [hSS] at hk
                conv => whnf
                refine pickB_no hcond ?_
                conv => whnf
                refine And.intro (Or.inl rfl) ?_
                conv => whnf
                refine leB_iff.2 ⟨by omega, by omega, ?_⟩
                conv => whnf
                refine pickB_no (by simp; omega) ?_
                conv => whnf
                refine And.intro (Or.inl rfl) ?_
                conv => whnf
                refine leB_iff.2 ⟨by omega, by omega, ?_⟩
                conv => whnf
                refine pickB_no (by simp; omega) ?_
                conv => whnf
                refine And.intro (by show 0 + 0 + (k - 0) ≤ (List.take (0 + k) (ptsE m E)).length; simp [ptsE]; omega) ?_
                conv => whnf
                have e : List.take (k - 0) (List.drop (0 + 0) (List.take (0 + k) (ptsE m E))) = ptsE m (E.take k) := by simp [ptsE, List.map_take, List.take_take]
                rw [← e] at hk
                exact hk
            · have hsame : sameV b p = false := by
                have h' : (m == m && sameV b p) = false := h
                simpa using h'
              clear h
              conv => whnf
              refine' ⟨(), [0, 1, 2, 3], by omega, ⟨b, hb, ?j⟩, ⟨?t, ?h, by decide, rfl⟩⟩
              case t => repeat' (first | exact trivial | exact congrArg (fun x => LV.v (Value.int .i64 x)) (wrapS (by omega)) | rfl | ((conv => whnf); refine And.intro ?_ ?_))
              case h => repeat' (first | exact trivial | rfl | (exact fun h => h) | ((conv => whnf); refine And.intro ?_ ?_))
              case j => rw [hdd, ddT_drop hb, hsame, cond_false, take_snoc hb, List.append_assoc]; rfl
          · have hcond : decide (((j + 1 : Nat) : Int) < (g.length : Int)) = false := ge_dec hge
            have hSS : ddV S = S := by
              rw [hdd, List.drop_eq_nil_of_le (by omega), List.take_of_length_le (by omega)]
              simp [ddT]
            rw [hSS] at hk
            conv => whnf
            refine pickB_no hcond ?_
            conv => whnf
            refine And.intro (by simp [ptsE]; omega) ?_
            conv => whnf
            have e : List.take g.length (List.drop 0 (ptsE m S)) = ptsE m S := by
              rw [List.drop_zero]
              exact List.take_of_length_le (by simp [ptsE]; omega)
            rw [e]
            exact hk
noncomputable def e34 : Ent := entA s34 espec_fun
end E
end Go.Proofs.YtjhognibibmeiaaGreatDoor
