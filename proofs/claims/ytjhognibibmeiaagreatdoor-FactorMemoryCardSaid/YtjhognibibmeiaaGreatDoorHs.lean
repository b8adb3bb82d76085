/-
  THE FUNCTIONS, nineteenth part: factor.Exact.
-/
import Derived.Test.YtjhognibibmeiaaGreatDoorHr
set_option linter.unusedVariables false
set_option maxRecDepth 100000
set_option maxHeartbeats 4000000
namespace Go.Proofs.YtjhognibibmeiaaGreatDoor
namespace E
open Go Go.RowKit

/-! ### Atoms that pass -/
theorem lstep_zero {e x : Int} (h : lstep e x = 0) : e = 0 ∧ x = 0 := by
  unfold lstep at h
  cases h1 : x != 0 with
  | false =>
    rw [h1] at h
    exact ⟨h, by simpa using h1⟩
  | true =>
    rw [h1] at h
    have hx : x ≠ 0 := by simpa using h1
    simp only [cond_true] at h
    cases h2 : e == 0 with
    | true => rw [h2] at h; exact absurd h hx
    | false =>
      rw [h2] at h
      have he : e ≠ 0 := by simpa using h2
      simp only [cond_false] at h
      cases h3 : decide (x < e) with
      | true => rw [h3] at h; exact absurd h hx
      | false => rw [h3] at h; exact absurd h he
theorem least2_zero {a b : Int} (h : least2 a b = 0) : a = 0 ∧ b = 0 := by
  obtain ⟨h1, h2⟩ := lstep_zero h
  exact ⟨(lstep_zero h1).2, h2⟩
theorem least3_zero {a b c : Int} (h : least3 a b c = 0) : a = 0 ∧ b = 0 ∧ c = 0 := by
  obtain ⟨h1, h2⟩ := lstep_zero h
  exact ⟨(least2_zero h1).1, (least2_zero h1).2, h2⟩
theorem stepA_zero {m0 e : Int} {a : Atm} (h : stepA m0 e a = 0) : e = 0 ∧ formP a.p = true ∧ a.p.m = m0 := by
  unfold stepA at h
  cases hm : a.p.m != m0 with
  | true =>
    rw [hm, cond_true] at h
    cases (least2_zero h).2
  | false =>
    rw [hm, cond_false] at h
    cases hf : formP a.p with
    | false =>
      rw [hf, cond_false] at h
      cases (least2_zero h).2
    | true =>
      rw [hf, cond_true] at h
      exact ⟨h, rfl, by simpa using hm⟩
theorem chkAs_zero {m0 : Int} : ∀ {l : List Atm} {e : Int}, chkAs m0 l e = 0 → e = 0 ∧ ∀ a ∈ l, heavyA a = false ∧ formP a.p = true ∧ a.p.m = m0
  | [], e, h => ⟨h, fun a h => by cases h⟩
  | a :: r, e, h => by
    unfold chkAs at h
    cases hh : heavyA a with
    | true => rw [hh] at h; cases h
    | false =>
      rw [hh, cond_false] at h
      obtain ⟨h1, h2⟩ := chkAs_zero h
      obtain ⟨h3, h4, h5⟩ := stepA_zero h1
      refine ⟨h3, fun b hb => ?_⟩
      rcases List.mem_cons.1 hb with rfl | hb
      · exact ⟨hh, h4, h5⟩
      · exact h2 b hb
structure OkL (l : List Atm) : Prop where
  len : l.length ≤ 256
  a : ∀ a ∈ l, OkA (m0A l) a
  m : Is4 (m0A l)
theorem chkA_ok {l : List Atm} (h : chkA l = 0) : OkL l := by
  obtain ⟨h1, h2⟩ := chkAs_zero h
  have hlen : l.length ≤ 256 := by
    cases hd : decide ((l.length : Int) > 256) with
    | true => rw [hd] at h1; cases h1
    | false => simp at hd; omega
  refine ⟨hlen, fun a ha => ?_, ?_⟩
  · obtain ⟨_, h4, h5⟩ := h2 a ha
    exact ⟨h5, h5 ▸ (formP_iff.1 h4).2⟩
  · cases l with
    | nil => exact .a
    | cons b r =>
      obtain ⟨_, h4, h5⟩ := h2 b (List.mem_cons_self ..)
      exact (formP_iff.1 h4).1

theorem ddT_len : ∀ {l : List V} {p : V}, (ddT p l).length ≤ l.length
  | [], p => Nat.le_refl _
  | b :: r, p => by
    unfold ddT
    cases sameV b p with
    | true => have := ddT_len (l := r) (p := p); simp; omega
    | false => have := ddT_len (l := r) (p := b); simp; omega
theorem orbV_len {g : List O} {m : Int} {x : V} : (orbV g m x).length ≤ g.length := by
  have h1 : ∀ l : List V, (ddV l).length ≤ l.length := by
    intro l
    cases l with
    | nil => exact Nat.le_refl _
    | cons a r => have := ddT_len (l := r) (p := a); simp [ddV]; omega
  have h2 : (sortV (imgs g m x)).length = g.length := by simp [sortV, imgs]
  rw [← h2]
  exact h1 _
def addP (m : Int) (h : V) (a : Atm) (c : List Int) (v : V) : List Int := addC m (w (phF h m v + w (m.tdiv 4))) a.o (addC m (phF h m v) a.w c)
def addO (g : List O) (m : Int) (h : V) (c : List Int) (a : Atm) : List Int := (orbV g m a.p.x).foldl (addP m h a) c
def exC (g : List O) (m : Int) (h : V) (l : List Atm) : List Int := l.foldl (addO g m h) (List.replicate (m / 3).toNat 0)
def idxV (h : V) : Int := bif bad3 h 512 then 1 else 0
def errX (g : List O) (l : List Atm) (h : V) : Int := least3 (chkG g) (chkA l) (idxV h)
theorem row0 {x d : Int} (h : IntKind.i64.wrap x = d) : List.replicate (IntKind.i64.wrap x).toNat [I 0] = eNs (List.replicate d.toNat 0) := by
  rw [h]; simp [eNs]
theorem phF_rng {h : V} {m : Int} {x : V} (h4 : Is4 m) : 0 ≤ phF h m x ∧ phF h m x < m := modF_rng h4.pos
theorem drop_get {α : Type} {l : List α} {i : Nat} {a : α} (h : l[i]? = some a) : l.drop i = a :: l.drop (i + 1) := by
  have hlt := (List.getElem?_eq_some_iff.1 h).1
  rw [List.drop_eq_getElem_cons hlt, (List.getElem?_eq_some_iff.1 h).2]
def S5 : PSpec := espec (fun x : List O × List Atm × V => [.rd (eOs x.1), .rd (eAs x.2.1), .agg (eV x.2.2)]) (fun x => x.2.1.length ≤ 4611686018427387904)
  (fun x => bif errX x.1 x.2.1 x.2.2 != 0 then Er (.agg [I 0, .rd []]) (errX x.1 x.2.1 x.2.2) else Er (.agg [I (m0A x.2.1), .rd (eNs (exC x.1 (m0A x.2.1) x.2.2 x.2.1))]) 0)
theorem s5 : SoundA PR GL 18 S5 := mkA [e13, e14, e15, e12c, e16, e17, e18] 0 Tryz.func18 (by kernel_rfl) (by kernel_rfl) fun args K hk => by
  obtain ⟨⟨g, l, h⟩, rfl, hlen, hk⟩ := hk
  replace hlen : l.length ≤ 4611686018427387904 := hlen
  have hl : (eAs l).length = l.length := by simp [eAs]
  replace hk : K (bif errX g l h != 0 then Er (.agg [I 0, .rd []]) (errX g l h) else Er (.agg [I (m0A l), .rd (eNs (exC g (m0A l) h l))]) 0) := hk
  conv => whnf
  refine ⟨g, rfl, trivial, ?_⟩
  conv => whnf
  refine ⟨l, rfl, hlen, ?_⟩
  conv => whnf
  refine pickB_of (fun hb => ?_) (fun hb => ?_)
  · have hix : idxV h = 1 := by unfold idxV; rw [hb]; rfl
    conv => whnf
    refine And.intro (Nat.le_refl _) ?_
    conv => whnf
    refine pickB_of (fun he => ?_) (fun he => ?_)
    · have he' : (errX g l h != 0) = true := by unfold errX; rw [hix]; exact he
      rw [he', cond_true, errX, hix] at hk
      conv => whnf
      exact hk
    · exfalso
      have he' : least3 (chkG g) (chkA l) 1 = 0 := by
        have : (least3 (chkG g) (chkA l) 1 != 0) = false := he
        simpa using this
      cases (least3_zero he').2.2
  · have hix : idxV h = 0 := by unfold idxV; rw [hb]; rfl
    conv => whnf
    refine And.intro (Nat.le_refl _) ?_
    conv => whnf
    refine pickB_of (fun he => ?_) (fun he => ?_)
    · have he' : (errX g l h != 0) = true := by unfold errX; rw [hix]; exact he
      rw [he', cond_true, errX, hix] at hk
      conv => whnf
      exact hk
    · have he' : (errX g l h != 0) = false := by unfold errX; rw [hix]; exact he
      rw [he', cond_false] at hk
      have he2 : errX g l h = 0 := by simpa using he'
      obtain ⟨hg, hA, _⟩ := least3_zero he2
      obtain ⟨hlen, hla, h4⟩ := chkA_ok hA
      clear he he' he2 hA hb hix
      conv => whnf
      refine pickB_of (fun h0 => ?_) (fun h0 => ?_)
      · obtain ⟨b, r, hbr⟩ : ∃ b r, l = b :: r := by
          cases l with
          | nil => cases h0
          | cons b r => exact ⟨b, r, rfl⟩
        have hbm : m0A l = b.p.m := by rw [hbr]; rfl
        generalize hm : m0A l = m at hk hla h4 hbm
        have hb0 : (eAs l)[(0 : Int).toNat]? = some (eAt ⟨⟨m, b.p.x⟩, b.w, b.o⟩) := by
          rw [hbr, hbm]; rfl
        clear h0
        conv => whnf
        refine eltK_iff.2 ⟨_, hb0, ?_⟩
        clear hb0
        obtain ⟨qa, qb, qc, qd, qe, qf, qg, qh⟩ := h4.qs
        have hp := h4.pos
        have qb' : IntKind.i64.wrap (Int.tdiv m 3) = m / 3 := qb
        have qd' : IntKind.i64.wrap (Int.tdiv m 4) = m / 4 := qd
        conv => whnf
        refine leB_iff.2 ⟨by rw [qb']; omega, by first | exact Int.le_refl _ | omega, ?_⟩
        conv => whnf
        refine ⟨by show _ * (8 : Int) ≤ _; rw [qb']; omega, by rw [qb']; omega, ?_⟩
        conv => whnf
        refine ⟨(g, l, m), rfl, ⟨hg, h4, hla, hlen⟩, ?_⟩
        have hol : (orbsE g m l).length = l.length := by simp [orbsE]
        conv => whnf
        refine LoopP.weaken (s2 := ⟨[.unk, .rd (eAs l), .unk, .unk, .unk, .ptr 0 0 0, .ptr 1 0 0, I 0, .unk, I m, .sl 2 0 (m / 3).toNat (some (m / 3).toNat), .unk, .unk, .unk, .unk, .unk, .unk, .unk, .unk, .unk, .unk, .unk, .unk, .unk, .unk, .unk, .unk, .unk, .unk, .unk, .unk, .unk, .unk, .unk, .unk, .unk, .unk, .unk, .unk, .unk, .unk, .rd (orbsE g m l), I ((orbsE g m l).length : Int), I (0 : Nat), .unk, .unk, .unk, .unk, .unk, .unk, .unk, .unk, .unk, .unk, .unk, .unk, .unk, .unk, .unk, .unk, .unk, .unk, .unk, .unk, .unk, .unk, .unk, .unk, .unk, .unk, .unk, .unk, .unk, .unk, .unk, .unk, .unk, .unk, .unk, .unk, .unk, .unk, .unk], [.box (eV h), .box [I 0, .v (.slice none 0 0)], .row 1 true (eNs (List.replicate (m / 3).toNat 0))]⟩) [0, 1, 3] ⟨?_, ?_, by decide, rfl⟩ ?_
        · repeat' (first | exact trivial | rfl | exact congrArg Int.toNat qb' | exact congrArg (fun x => some (Int.toNat x)) qb' | ((conv => whnf); refine And.intro ?_ ?_))
        · repeat' (first | exact trivial | rfl | exact fun h => h | exact row0 qb' | ((conv => whnf); refine And.intro ?_ ?_))
        refine loopInd 0 (by kernel_rfl) l.length (fun i (c : List Int) => ⟨[.unk, .rd (eAs l), .unk, .unk, .unk, .ptr 0 0 0, .ptr 1 0 0, I 0, .unk, I m, .sl 2 0 (m / 3).toNat (some (m / 3).toNat), .unk, .unk, .unk, .unk, .unk, .unk, .unk, .unk, .unk, .unk, .unk, .unk, .unk, .unk, .unk, .unk, .unk, .unk, .unk, .unk, .unk, .unk, .unk, .unk, .unk, .unk, .unk, .unk, .unk, .unk, .rd (orbsE g m l), I ((orbsE g m l).length : Int), I (i : Nat), .unk, .unk, .unk, .unk, .unk, .unk, .unk, .unk, .unk, .unk, .unk, .unk, .unk, .unk, .unk, .unk, .unk, .unk, .unk, .unk, .unk, .unk, .unk, .unk, .unk, .unk, .unk, .unk, .unk, .unk, .unk, .unk, .unk, .unk, .unk, .unk, .unk, .unk, .unk], [.box (eV h), .box [I 0, .v (.slice none 0 0)], .row 1 true (eNs c)]⟩)
          (fun i c => c.length = (m / 3).toNat ∧ (l.drop i).foldl (addO g m h) c = exC g m h l) ?_ 0 _ (Nat.zero_le _) ⟨by simp, rfl⟩
        rintro i c hi ⟨hcl, hJ⟩
        rcases Nat.lt_or_ge i l.length with hlt | hge
        · obtain ⟨a, ha⟩ : ∃ o, l[i]? = some o := ⟨_, List.getElem?_eq_getElem hlt⟩
          obtain ⟨ham, har⟩ := hla a (List.mem_of_getElem? ha)
          have hcond : decide ((i : Int) < ((orbsE g m l).length : Int)) = true := by rw [hol]; exact lt_dec hlt
          have hae : (eAs l)[(i : Int).toNat]? = some (eAt ⟨⟨m, a.p.x⟩, a.w, a.o⟩) := by
            have := get_map (f := eAt) ha
            rw [← ham]; exact this
          have hoe : (orbsE g m l)[(i : Int).toNat]? = some [.rd (ptsE m (orbV g m a.p.x))] := get_map ha
          rw [drop_get ha, List.foldl_cons, addO] at hJ
          have hOl : (orbV g m a.p.x).length ≤ g.length := orbV_len
          generalize orbV g m a.p.x = O at hoe hJ hOl
          have hgl := (chkG_ok hg).len
          have hpl : (ptsE m O).length = O.length := by simp [ptsE]
          conv => whnf
          refine pickB_yes hcond ?_
          conv => whnf
          refine eltK_iff.2 ⟨_, hoe, ?_⟩
          conv => whnf
          refine LoopP.weaken (s2 := ⟨[.unk, .rd (eAs l), .unk, .unk, .unk, .ptr 0 0 0, .ptr 1 0 0, I 0, .unk, I m, .sl 2 0 (m / 3).toNat (some (m / 3).toNat), I (i : Nat), .unk, .unk, .unk, .unk, .unk, .unk, .unk, .unk, .unk, .unk, .unk, .unk, .unk, .unk, .unk, .unk, .unk, .unk, .unk, .unk, .unk, .unk, .unk, .unk, .unk, .unk, .unk, .unk, .unk, .rd (orbsE g m l), I ((orbsE g m l).length : Int), I (i : Nat), .unk, .unk, .unk, .unk, .rd (ptsE m O), I ((ptsE m O).length : Int), I (0 : Nat), .unk, .unk, .unk, .unk, .unk, .unk, .unk, .unk, .unk, .unk, .unk, .unk, .unk, .unk, .unk, .unk, .unk, .unk, .unk, .unk, .unk, .unk, .unk, .unk, .unk, .unk, .unk, .unk, .unk, .unk, .unk, .unk], [.box (eV h), .box [I 0, .v (.slice none 0 0)], .row 1 true (eNs c)]⟩) [0, 1, 2] ⟨?_, ?_, by decide, rfl⟩ ?_
          · repeat' (first | exact trivial | rfl | ((conv => whnf); refine And.intro ?_ ?_))
          · repeat' (first | exact trivial | rfl | exact fun h => h | ((conv => whnf); refine And.intro ?_ ?_))
          refine loopInd 0 (by kernel_rfl) O.length (fun j (c : List Int) => ⟨[.unk, .rd (eAs l), .unk, .unk, .unk, .ptr 0 0 0, .ptr 1 0 0, I 0, .unk, I m, .sl 2 0 (m / 3).toNat (some (m / 3).toNat), I (i : Nat), .unk, .unk, .unk, .unk, .unk, .unk, .unk, .unk, .unk, .unk, .unk, .unk, .unk, .unk, .unk, .unk, .unk, .unk, .unk, .unk, .unk, .unk, .unk, .unk, .unk, .unk, .unk, .unk, .unk, .rd (orbsE g m l), I ((orbsE g m l).length : Int), I (i : Nat), .unk, .unk, .unk, .unk, .rd (ptsE m O), I ((ptsE m O).length : Int), I (j : Nat), .unk, .unk, .unk, .unk, .unk, .unk, .unk, .unk, .unk, .unk, .unk, .unk, .unk, .unk, .unk, .unk, .unk, .unk, .unk, .unk, .unk, .unk, .unk, .unk, .unk, .unk, .unk, .unk, .unk, .unk, .unk, .unk], [.box (eV h), .box [I 0, .v (.slice none 0 0)], .row 1 true (eNs c)]⟩)
            (fun j c => c.length = (m / 3).toNat ∧ (l.drop (i + 1)).foldl (addO g m h) ((O.drop j).foldl (addP m h a) c) = exC g m h l) ?_ 0 c (Nat.zero_le _) ⟨hcl, hJ⟩
          clear hJ hcl hcond hoe
          rintro j c hj ⟨hcl, hJ⟩
          rcases Nat.lt_or_ge j O.length with hlt2 | hge2
          · obtain ⟨v, hv⟩ : ∃ o, O[j]? = some o := ⟨_, List.getElem?_eq_getElem hlt2⟩
            rw [drop_get hv, List.foldl_cons] at hJ
            have hcond : decide ((j : Int) < ((ptsE m O).length : Int)) = true := by rw [hpl]; exact lt_dec hlt2
            obtain ⟨hph0, hph1⟩ := phF_rng (h := h) (x := v) h4
            have hph4 : w (phF h m v + w (Int.tdiv m 4)) = phF h m v + m / 4 := by rw [qd, wrap_i _ (by omega) (by omega)]
            have hcl2 : (addC m (phF h m v) a.w c).length = (m / 3).toNat := by rw [addC_len]; exact hcl
            conv => whnf
            refine pickB_yes hcond ?_
            conv => whnf
            refine eltK_iff.2 ⟨_, getP hv (by simp), ?_⟩
            conv => whnf
            refine ⟨(h, m, v), rfl, (by show m ≠ (0 : Int); omega), ?_⟩
            conv => whnf
            refine eltK_iff.2 ⟨_, hae, ?_⟩
            conv => whnf
            refine ⟨m, phF h m v, a.w, c, 2, some (m / 3).toNat, true, h4, hph0, by omega, hcl, by rw [hcl]; rfl, rfl, ?_⟩
            conv => whnf
            refine eltK_iff.2 ⟨_, hae, ?_⟩
            conv => whnf
            refine ⟨m, w (phF h m v + w (Int.tdiv m 4)), a.o, addC m (phF h m v) a.w c, 2, some (m / 3).toNat, true, h4, by rw [hph4]; omega, by rw [hph4]; omega, hcl2, by rw [hcl2]; rfl, rfl, ?_⟩
            conv => whnf
            refine' ⟨addP m h a c v, [0, 1, 2], hlt2, ⟨?gl, hJ⟩, ⟨?gt, ?gh, by decide, rfl⟩⟩
            case gl => unfold addP; rw [addC_len, addC_len]; exact hcl
            case gt => repeat' (first | exact trivial | exact congrArg (fun x => LV.v (Value.int .i64 x)) (wrapS (by omega)) | rfl | ((conv => whnf); refine And.intro ?_ ?_))
            case gh => repeat' (first | exact trivial | rfl | exact fun h => h | ((conv => whnf); refine And.intro ?_ ?_))
          · have hcond : decide ((j : Int) < ((ptsE m O).length : Int)) = false := by rw [hpl]; exact ge_dec hge2
            rw [List.drop_eq_nil_of_le hge2] at hJ
            conv => whnf
            refine pickB_no hcond ?_
            conv => whnf
            refine' ⟨c, [0, 1, 2], hlt, ⟨hcl, hJ⟩, ⟨?gt2, ?gh2, by decide, rfl⟩⟩
            case gt2 => repeat' (first | exact trivial | exact congrArg (fun x => LV.v (Value.int .i64 x)) (wrapS (by omega)) | rfl | ((conv => whnf); refine And.intro ?_ ?_))
            case gh2 => repeat' (first | exact trivial | rfl | exact fun h => h | ((conv => whnf); refine And.intro ?_ ?_))
        · have hcond : decide ((i : Int) < ((orbsE g m l).length : Int)) = false := by rw [hol]; exact ge_dec hge
          rw [List.drop_eq_nil_of_le hge] at hJ
          replace hJ : c = exC g m h l := hJ
          rw [← hJ] at hk
          conv => whnf
          refine pickB_no hcond ?_
          conv => whnf
          refine And.intro (by have := eNs_len (c := c); omega) ?_
          conv => whnf
          have e : List.take (m / 3).toNat (List.drop 0 (eNs c)) = eNs c := by
            rw [List.drop_zero]
            exact List.take_of_length_le (by have := eNs_len (c := c); omega)
          rw [e]
          exact hk
      · have hbm : m0A l = 24 := by
          cases l with
          | nil => rfl
          | cons b r => rw [hl] at h0; simp at h0
        rw [hbm] at hk hla h4
        clear h0
        obtain ⟨qa, qb, qc, qd, qe, qf, qg, qh⟩ := h4.qs
        have hp := h4.pos
        have qb' : IntKind.i64.wrap (Int.tdiv (24 : Int) 3) = (24 : Int) / 3 := qb
        have qd' : IntKind.i64.wrap (Int.tdiv (24 : Int) 4) = (24 : Int) / 4 := qd
        conv => whnf
        refine ⟨by decide, by decide, ?_⟩
        conv => whnf
        refine ⟨(g, l, (24 : Int)), rfl, ⟨hg, h4, hla, hlen⟩, ?_⟩
        have hol : (orbsE g (24 : Int) l).length = l.length := by simp [orbsE]
        conv => whnf
        refine LoopP.weaken (s2 := ⟨[.unk, .rd (eAs l), .unk, .unk, .unk, .ptr 0 0 0, .ptr 1 0 0, I 0, .unk, I (24 : Int), .sl 2 0 ((24 : Int) / 3).toNat (some ((24 : Int) / 3).toNat), .unk, .unk, .unk, .unk, .unk, .unk, .unk, .unk, .unk, .unk, .unk, .unk, .unk, .unk, .unk, .unk, .unk, .unk, .unk, .unk, .unk, .unk, .unk, .unk, .unk, .unk, .unk, .unk, .unk, .unk, .rd (orbsE g (24 : Int) l), I ((orbsE g (24 : Int) l).length : Int), I (0 : Nat), .unk, .unk, .unk, .unk, .unk, .unk, .unk, .unk, .unk, .unk, .unk, .unk, .unk, .unk, .unk, .unk, .unk, .unk, .unk, .unk, .unk, .unk, .unk, .unk, .unk, .unk, .unk, .unk, .unk, .unk, .unk, .unk, .unk, .unk, .unk, .unk, .unk, .unk, .unk], [.box (eV h), .box [I 0, .v (.slice none 0 0)], .row 1 true (eNs (List.replicate ((24 : Int) / 3).toNat 0))]⟩) [0, 1, 3] ⟨?_, ?_, by decide, rfl⟩ ?_
        · repeat' (first | exact trivial | rfl | exact congrArg Int.toNat qb' | exact congrArg (fun x => some (Int.toNat x)) qb' | ((conv => whnf); refine And.intro ?_ ?_))
        · repeat' (first | exact trivial | rfl | exact fun h => h | exact row0 qb' | ((conv => whnf); refine And.intro ?_ ?_))
        refine loopInd 0 (by kernel_rfl) l.length (fun i (c : List Int) => ⟨[.unk, .rd (eAs l), .unk, .unk, .unk, .ptr 0 0 0, .ptr 1 0 0, I 0, .unk, I (24 : Int), .sl 2 0 ((24 : Int) / 3).toNat (some ((24 : Int) / 3).toNat), .unk, .unk, .unk, .unk, .unk, .unk, .unk, .unk, .unk, .unk, .unk, .unk, .unk, .unk, .unk, .unk, .unk, .unk, .unk, .unk, .unk, .unk, .unk, .unk, .unk, .unk, .unk, .unk, .unk, .unk, .rd (orbsE g (24 : Int) l), I ((orbsE g (24 : Int) l).length : Int), I (i : Nat), .unk, .unk, .unk, .unk, .unk, .unk, .unk, .unk, .unk, .unk, .unk, .unk, .unk, .unk, .unk, .unk, .unk, .unk, .unk, .unk, .unk, .unk, .unk, .unk, .unk, .unk, .unk, .unk, .unk, .unk, .unk, .unk, .unk, .unk, .unk, .unk, .unk, .unk, .unk], [.box (eV h), .box [I 0, .v (.slice none 0 0)], .row 1 true (eNs c)]⟩)
          (fun i c => c.length = ((24 : Int) / 3).toNat ∧ (l.drop i).foldl (addO g (24 : Int) h) c = exC g (24 : Int) h l) ?_ 0 _ (Nat.zero_le _) ⟨by simp, rfl⟩
        rintro i c hi ⟨hcl, hJ⟩
        rcases Nat.lt_or_ge i l.length with hlt | hge
        · obtain ⟨a, ha⟩ : ∃ o, l[i]? = some o := ⟨_, List.getElem?_eq_getElem hlt⟩
          obtain ⟨ham, har⟩ := hla a (List.mem_of_getElem? ha)
          have hcond : decide ((i : Int) < ((orbsE g (24 : Int) l).length : Int)) = true := by rw [hol]; exact lt_dec hlt
          have hae : (eAs l)[(i : Int).toNat]? = some (eAt ⟨⟨(24 : Int), a.p.x⟩, a.w, a.o⟩) := by
            have := get_map (f := eAt) ha
            rw [← ham]; exact this
          have hoe : (orbsE g (24 : Int) l)[(i : Int).toNat]? = some [.rd (ptsE (24 : Int) (orbV g (24 : Int) a.p.x))] := get_map ha
          rw [drop_get ha, List.foldl_cons, addO] at hJ
          have hOl : (orbV g (24 : Int) a.p.x).length ≤ g.length := orbV_len
          generalize orbV g (24 : Int) a.p.x = O at hoe hJ hOl
          have hgl := (chkG_ok hg).len
          have hpl : (ptsE (24 : Int) O).length = O.length := by simp [ptsE]
          conv => whnf
          refine pickB_yes hcond ?_
          conv => whnf
          refine eltK_iff.2 ⟨_, hoe, ?_⟩
          conv => whnf
          refine LoopP.weaken (s2 := ⟨[.unk, .rd (eAs l), .unk, .unk, .unk, .ptr 0 0 0, .ptr 1 0 0, I 0, .unk, I (24 : Int), .sl 2 0 ((24 : Int) / 3).toNat (some ((24 : Int) / 3).toNat), I (i : Nat), .unk, .unk, .unk, .unk, .unk, .unk, .unk, .unk, .unk, .unk, .unk, .unk, .unk, .unk, .unk, .unk, .unk, .unk, .unk, .unk, .unk, .unk, .unk, .unk, .unk, .unk, .unk, .unk, .unk, .rd (orbsE g (24 : Int) l), I ((orbsE g (24 : Int) l).length : Int), I (i : Nat), .unk, .unk, .unk, .unk, .rd (ptsE (24 : Int) O), I ((ptsE (24 : Int) O).length : Int), I (0 : Nat), .unk, .unk, .unk, .unk, .unk, .unk, .unk, .unk, .unk, .unk, .unk, .unk, .unk, .unk, .unk, .unk, .unk, .unk, .unk, .unk, .unk, .unk, .unk, .unk, .unk, .unk, .unk, .unk, .unk, .unk, .unk, .unk], [.box (eV h), .box [I 0, .v (.slice none 0 0)], .row 1 true (eNs c)]⟩) [0, 1, 2] ⟨?_, ?_, by decide, rfl⟩ ?_
          · repeat' (first | exact trivial | rfl | ((conv => whnf); refine And.intro ?_ ?_))
          · repeat' (first | exact trivial | rfl | exact fun h => h | ((conv => whnf); refine And.intro ?_ ?_))
          refine loopInd 0 (by kernel_rfl) O.length (fun j (c : List Int) => ⟨[.unk, .rd (eAs l), .unk, .unk, .unk, .ptr 0 0 0, .ptr 1 0 0, I 0, .unk, I (24 : Int), .sl 2 0 ((24 : Int) / 3).toNat (some ((24 : Int) / 3).toNat), I (i : Nat), .unk, .unk, .unk, .unk, .unk, .unk, .unk, .unk, .unk, .unk, .unk, .unk, .unk, .unk, .unk, .unk, .unk, .unk, .unk, .unk, .unk, .unk, .unk, .unk, .unk, .unk, .unk, .unk, .unk, .rd (orbsE g (24 : Int) l), I ((orbsE g (24 : Int) l).length : Int), I (i : Nat), .unk, .unk, .unk, .unk, .rd (ptsE (24 : Int) O), I ((ptsE (24 : Int) O).length : Int), I (j : Nat), .unk, .unk, .unk, .unk, .unk, .unk, .unk, .unk, .unk, .unk, .unk, .unk, .unk, .unk, .unk, .unk, .unk, .unk, .unk, .unk, .unk, .unk, .unk, .unk, .unk, .unk, .unk, .unk, .unk, .unk, .unk, .unk], [.box (eV h), .box [I 0, .v (.slice none 0 0)], .row 1 true (eNs c)]⟩)
            (fun j c => c.length = ((24 : Int) / 3).toNat ∧ (l.drop (i + 1)).foldl (addO g (24 : Int) h) ((O.drop j).foldl (addP (24 : Int) h a) c) = exC g (24 : Int) h l) ?_ 0 c (Nat.zero_le _) ⟨hcl, hJ⟩
          clear hJ hcl hcond hoe
          rintro j c hj ⟨hcl, hJ⟩
          rcases Nat.lt_or_ge j O.length with hlt2 | hge2
          · obtain ⟨v, hv⟩ : ∃ o, O[j]? = some o := ⟨_, List.getElem?_eq_getElem hlt2⟩
            rw [drop_get hv, List.foldl_cons] at hJ
            have hcond : decide ((j : Int) < ((ptsE (24 : Int) O).length : Int)) = true := by rw [hpl]; exact lt_dec hlt2
            obtain ⟨hph0, hph1⟩ := phF_rng (h := h) (x := v) h4
            have hph4 : w (phF h (24 : Int) v + w (Int.tdiv (24 : Int) 4)) = phF h (24 : Int) v + (24 : Int) / 4 := by rw [qd, wrap_i _ (by omega) (by omega)]
            have hcl2 : (addC (24 : Int) (phF h (24 : Int) v) a.w c).length = ((24 : Int) / 3).toNat := by rw [addC_len]; exact hcl
            conv => whnf
            refine pickB_yes hcond ?_
            conv => whnf
            refine eltK_iff.2 ⟨_, getP hv (by simp), ?_⟩
            conv => whnf
            refine ⟨(h, (24 : Int), v), rfl, (by show (24 : Int) ≠ (0 : Int); omega), ?_⟩
            conv => whnf
            refine eltK_iff.2 ⟨_, hae, ?_⟩
            conv => whnf
            refine ⟨(24 : Int), phF h (24 : Int) v, a.w, c, 2, some ((24 : Int) / 3).toNat, true, h4, hph0, by omega, hcl, by rw [hcl]; rfl, rfl, ?_⟩
            conv => whnf
            refine eltK_iff.2 ⟨_, hae, ?_⟩
            conv => whnf
            refine ⟨(24 : Int), w (phF h (24 : Int) v + w (Int.tdiv (24 : Int) 4)), a.o, addC (24 : Int) (phF h (24 : Int) v) a.w c, 2, some ((24 : Int) / 3).toNat, true, h4, by rw [hph4]; omega, by rw [hph4]; omega, hcl2, by rw [hcl2]; rfl, rfl, ?_⟩
            conv => whnf
            refine' ⟨addP (24 : Int) h a c v, [0, 1, 2], hlt2, ⟨?gl, hJ⟩, ⟨?gt, ?gh, by decide, rfl⟩⟩
            case gl => unfold addP; rw [addC_len, addC_len]; exact hcl
            case gt => repeat' (first | exact trivial | exact congrArg (fun x => LV.v (Value.int .i64 x)) (wrapS (by omega)) | rfl | ((conv => whnf); refine And.intro ?_ ?_))
            case gh => repeat' (first | exact trivial | rfl | exact fun h => h | ((conv => whnf); refine And.intro ?_ ?_))
          · have hcond : decide ((j : Int) < ((ptsE (24 : Int) O).length : Int)) = false := by rw [hpl]; exact ge_dec hge2
            rw [List.drop_eq_nil_of_le hge2] at hJ
            conv => whnf
            refine pickB_no hcond ?_
            conv => whnf
            refine' ⟨c, [0, 1, 2], hlt, ⟨hcl, hJ⟩, ⟨?gt2, ?gh2, by decide, rfl⟩⟩
            case gt2 => repeat' (first | exact trivial | exact congrArg (fun x => LV.v (Value.int .i64 x)) (wrapS (by omega)) | rfl | ((conv => whnf); refine And.intro ?_ ?_))
            case gh2 => repeat' (first | exact trivial | rfl | exact fun h => h | ((conv => whnf); refine And.intro ?_ ?_))
        · have hcond : decide ((i : Int) < ((orbsE g (24 : Int) l).length : Int)) = false := by rw [hol]; exact ge_dec hge
          rw [List.drop_eq_nil_of_le hge] at hJ
          replace hJ : c = exC g (24 : Int) h l := hJ
          rw [← hJ] at hk
          conv => whnf
          refine pickB_no hcond ?_
          conv => whnf
          refine And.intro (by have := eNs_len (c := c); omega) ?_
          conv => whnf
          have e : List.take ((24 : Int) / 3).toNat (List.drop 0 (eNs c)) = eNs c := by
            rw [List.drop_zero]
            exact List.take_of_length_le (by have := eNs_len (c := c); omega)
          rw [e]
          exact hk
noncomputable def e5 : Ent := entA s5 espec_fun
end E
end Go.Proofs.YtjhognibibmeiaaGreatDoor
