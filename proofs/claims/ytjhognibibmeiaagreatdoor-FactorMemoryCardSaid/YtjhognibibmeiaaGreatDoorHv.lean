/-
  THE FUNCTIONS, twenty-second part: the reference's Exact.
-/
import Derived.Test.YtjhognibibmeiaaGreatDoorHu
set_option linter.unusedVariables false
set_option maxRecDepth 100000
set_option maxHeartbeats 8000000
namespace Go.Proofs.YtjhognibibmeiaaGreatDoor
namespace E
open Go Go.RowKit

/-! ### What passes the reference's checks -/
theorem is4n_eq (m : Int) : is4n m = is4 m := by
  unfold is4n is4 bne
  cases m == 24 <;> cases m == 48 <;> cases m == 96 <;> cases m == 192 <;> rfl
theorem modF_id {x m : Int} (hm : 24 ≤ m ∧ m ≤ 192) (h0 : 0 ≤ x) (h1 : x < m) : modF x m = x := by
  unfold modF
  rw [Int.tmod_eq_of_lt h0 h1, wrap_i _ (by omega) (by omega)]
  rw [Int.tmod_eq_emod_of_nonneg (by omega), Int.add_emod_right, Int.emod_eq_of_lt h0 h1]
theorem placeR_eq (p : Pt) : placeR p = formP p := by
  unfold placeR
  rw [is4n_eq]
  cases h : is4 p.m with
  | false =>
    cases hf : formP p with
    | false => rfl
    | true => have := is4_iff.2 (formP_iff.1 hf).1; rw [h] at this; cases this
  | true =>
    have h4 := is4_iff.1 h
    have hp := h4.pos
    simp only [cond_true]
    cases hf : formP p with
    | true =>
      obtain ⟨_, r⟩ := formP_iff.1 hf
      unfold eqV modV
      simp only
      rw [modF_id hp r.x0 r.x1, modF_id hp r.y0 r.y1, modF_id hp r.z0 r.z1]
      simp
    | false =>
      cases he : eqV p.x (modV p.x p.m) with
      | false => rfl
      | true =>
        exfalso
        have : formP p = true := by
          refine formP_iff.2 ⟨h4, ?_⟩
          have e : p.x = modV p.x p.m := by
            unfold eqV at he
            simp only [Bool.and_eq_true, beq_iff_eq] at he
            exact V.ext' he.1 he.2.1 he.2.2.1
          rw [e]; exact modV_rng h4
        rw [hf] at this; cases this
theorem anyB_false {f : Atm → Bool} : ∀ {l : List Atm}, anyB f l = false → ∀ a ∈ l, f a = false
  | [], _, a, h => by cases h
  | b :: r, h, a, ha => by
    unfold anyB at h
    cases hb : f b with
    | true => rw [hb] at h; cases h
    | false =>
      rw [hb] at h
      rcases List.mem_cons.1 ha with rfl | ha
      · exact hb
      · exact anyB_false h a ha
theorem docA_ok {l : List Atm} (h : docA l = 0) : OkL l := by
  unfold docA at h
  cases h1 : anyB heavyA l with
  | true => rw [h1] at h; cases h
  | false =>
    rw [h1, cond_false] at h
    cases h2 : decide ((l.length : Int) > 256) with
    | true => rw [h2] at h; cases h
    | false =>
      rw [h2, cond_false] at h
      cases h3 : anyB badP l with
      | true => rw [h3] at h; cases h
      | false =>
        rw [h3, cond_false] at h
        cases h4 : anyB (neM (m0A l)) l with
        | true => rw [h4] at h; cases h
        | false =>
          have hp : ∀ a ∈ l, formP a.p = true ∧ a.p.m = m0A l := fun a ha => by
            have e1 := anyB_false h3 a ha
            have e2 := anyB_false h4 a ha
            unfold badP at e1
            rw [placeR_eq] at e1
            unfold neM at e2
            exact ⟨by simpa using e1, by simpa using e2⟩
          refine ⟨by simp at h2; omega, fun a ha => ?_, ?_⟩
          · obtain ⟨e1, e2⟩ := hp a ha
            exact ⟨e2, e2 ▸ (formP_iff.1 e1).2⟩
          · cases l with
            | nil => exact .a
            | cons b r => exact (formP_iff.1 (hp b (List.mem_cons_self ..)).1).1
theorem mixE_zero {e f : Int} (h : mixE e f = 0) : e = 0 ∧ f = 0 := by
  unfold mixE at h
  cases h1 : e == 0 with
  | true =>
    rw [h1] at h
    exact ⟨by simpa using h1, h⟩
  | false =>
    rw [h1] at h
    have he : e ≠ 0 := by simpa using h1
    cases h2 : f != 0 with
    | false => rw [h2] at h; exact absurd h he
    | true =>
      have hf : f ≠ 0 := by simpa using h2
      rw [h2] at h
      cases h3 : decide (f < e) with
      | true => rw [h3] at h; exact absurd h hf
      | false => rw [h3] at h; exact absurd h he
theorem docC_len {g : List O} (h : docC g = 0) : g.length ≤ 192 := by
  unfold docC at h
  cases hd : decide ((g.length : Int) > 192) with
  | true => rw [hd] at h; cases h
  | false => simp at hd; omega
theorem chkR_ok {g : List O} {l : List Atm} {h : V} (he : chkR g l h = 0) : docC g = 0 ∧ docA l = 0 := by
  unfold chkR at he
  cases hb : bad3 h 512 with
  | true => rw [hb] at he; cases he
  | false => rw [hb] at he; exact mixE_zero he

/-! ### Counts of parts of a turn, brought to the ring's shape -/
def bump (c : List Int) (k : Nat) (x : Int) : List Int := c.set k (w (c.getD k 0 + x))
def addRP (m : Int) (h : V) (a : Atm) (c : List Int) (v : V) : List Int :=
  bump (bump c (phF h m v).toNat a.w) ((w (phF h m v + w (m.tdiv 4))).tmod m).toNat a.o
def addRO (g : List O) (m : Int) (h : V) (c : List Int) (a : Atm) : List Int := (orbR g m a.p.x).foldl (addRP m h a) c
def cntR (g : List O) (m : Int) (h : V) (l : List Atm) : List Int := l.foldl (addRO g m h) (List.replicate m.toNat 0)
def halfC (c : List Int) (H n : Nat) : List Int := (List.range n).map fun j => w (c.getD j 0 - c.getD (j + H) 0)
def dstep (D6 D3 j : Nat) (c : List Int) : List Int :=
  (c.set (j - D6) (w (c.getD (j - D6) 0 + c.getD j 0))).set (j - D3) (w ((c.set (j - D6) (w (c.getD (j - D6) 0 + c.getD j 0))).getD (j - D3) 0 - (c.set (j - D6) (w (c.getD (j - D6) 0 + c.getD j 0))).getD j 0))
def downN (D6 D3 : Nat) : Nat → List Int → List Int
  | 0, c => c
  | n + 1, c => downN D6 D3 n (dstep D6 D3 (D3 + n) c)
def broughtC (m : Int) (c : List Int) : List Int := (downN (m / 6).toNat (m / 3).toNat (m / 6).toNat (halfC c (m / 2).toNat (m / 2).toNat)).take (m / 3).toNat
theorem bump_len {c : List Int} {k : Nat} {x : Int} : (bump c k x).length = c.length := by simp [bump]
theorem eNs_bump {c : List Int} {k i : Nat} {x : Int} (h : i = k) : (eNs c).set i [I (w (c.getD k 0 + x))] = eNs (bump c k x) := eNs_set h
theorem addRP_len {m : Int} {h : V} {a : Atm} {c : List Int} {v : V} : (addRP m h a c v).length = c.length := by simp [addRP, bump_len]
theorem row00 {m : Int} : List.replicate m.toNat [I 0] = eNs (List.replicate m.toNat 0) := by simp [eNs]
theorem len_snocI (r : List Int) (a : Int) : (r ++ [a]).length = r.length + 1 := by simp
theorem insAll_len : ∀ {qs l : List V}, (qs.foldl (fun l q => insV q l) l).length ≤ l.length + qs.length
  | [], l => Nat.le_refl _
  | q :: r, l => by
    rw [List.foldl_cons]
    have h1 := insAll_len (qs := r) (l := insV q l)
    have h2 := insV_len (q := q) (l := l)
    simp only [List.length_cons]
    omega
theorem orbR_len {g : List O} {m : Int} {x : V} : (orbR g m x).length ≤ g.length := by
  have := insAll_len (qs := imgsR g m x) (l := [])
  simp only [List.length_nil, Nat.zero_add] at this
  have h2 : (imgsR g m x).length = g.length := by simp [imgsR]
  rw [← h2]; exact this
theorem halfC_succ {c : List Int} {H n : Nat} : halfC c H (n + 1) = halfC c H n ++ [w (c.getD n 0 - c.getD (n + H) 0)] := by simp [halfC, List.range_succ]
theorem halfC_len {c : List Int} {H n : Nat} : (halfC c H n).length = n := by simp [halfC]
theorem dstep_len {D6 D3 j : Nat} {c : List Int} : (dstep D6 D3 j c).length = c.length := by simp [dstep]
theorem eNs_snoc {a : List Int} {x : Int} : eNs (a ++ [x]) = eNs a ++ [[I x]] := by simp [eNs]

def S22 : Spec := fun args h K => bodyK PR (XC []) 0 Tryz.f39 args h K
theorem s22 : CallOK PR GL 39 S22 := mkC [] 0 Tryz.func39 (by kernel_rfl) (by kernel_rfl) fun args h K hk => hk
noncomputable def e22 : Ent := entC 4 s22 (cspec4 _)

def S6 : PSpec := espec (fun x : List O × List Atm × V => [.rd (eOs x.1), .rd (eAs x.2.1), .agg (eV x.2.2)]) (fun x => x.2.1.length ≤ 4611686018427387904)
  (fun x => bif chkR x.1 x.2.1 x.2.2 != 0 then Er (.agg [I 0, .rd []]) (chkR x.1 x.2.1 x.2.2) else Er (.agg [I (m0A x.2.1), .rd (eNs (broughtC (m0A x.2.1) (cntR x.1 (m0A x.2.1) x.2.2 x.2.1)))]) 0)
theorem s6 : SoundA PR GL 19 S6 := mkA [e19, e20, e21, e22] 0 Tryz.func19 (by kernel_rfl) (by kernel_rfl) fun args K hk => by
  obtain ⟨⟨g, l, h⟩, rfl, hlen, hk⟩ := hk
  replace hlen : l.length ≤ 4611686018427387904 := hlen
  have hl : (eAs l).length = l.length := by simp [eAs]
  replace hk : K (bif chkR g l h != 0 then Er (.agg [I 0, .rd []]) (chkR g l h) else Er (.agg [I (m0A l), .rd (eNs (broughtC (m0A l) (cntR g (m0A l) h l)))]) 0) := hk
  conv => whnf
  refine And.intro (Nat.le_refl _) ?_
  conv => whnf
  refine ⟨(g, l, h), rfl, hlen, ?_⟩
  conv => whnf
  refine pickB_of (fun he => ?_) (fun he => ?_)
  · have he' : (chkR g l h != 0) = true := he
    rw [he', cond_true] at hk
    conv => whnf
    exact hk
  · have he' : (chkR g l h != 0) = false := he
    rw [he', cond_false] at hk
    have he2 : chkR g l h = 0 := by simpa using he'
    obtain ⟨hg, hA⟩ := chkR_ok he2
    obtain ⟨hlen, hla, h4⟩ := docA_ok hA
    have hgl := docC_len hg
    clear he he' he2 hA hg
    conv => whnf
    refine pickB_of (fun h0 => ?_) (fun h0 => ?_)
    · obtain ⟨b, r, hbr⟩ : ∃ b r, l = b :: r := by
        cases l with
        | nil => cases h0
        | cons b r => exact ⟨b, r, rfl⟩
      have hbm : m0A l = b.p.m := by rw [hbr]; rfl
      generalize hm : m0A l = m at hk hla h4 hbm
      have hb0 : (eAs l)[(0 : Int).toNat]? = some (eAt ⟨⟨m, b.p.x⟩, b.w, b.o⟩) := by
        rw [hbr, hbm]; rfl
      clear h0 hm
      conv => whnf
      refine eltK_iff.2 ⟨_, hb0, ?_⟩
      clear hb0 hbr hbm
      obtain ⟨qa, qb, qc, qd, qe, qf, qg, qh⟩ := h4.qs
      have hp := h4.pos
      have qd' : IntKind.i64.wrap (Int.tdiv m 4) = m / 4 := qd
      conv => whnf
      refine leB_iff.2 ⟨by show (0 : Int) ≤ m; omega, Int.le_refl _, ?_⟩
      conv => whnf
      refine ⟨by show m * (8 : Int) ≤ _; omega, by show m < (9223372036854775808 : Int); omega, ?_⟩
      conv => whnf
      refine ⟨(g, l, m), rfl, ⟨hgl, h4, hla, hlen⟩, ?_⟩
      have hol : (orbsR g m l).length = l.length := by simp [orbsR]
      conv => whnf
      refine LoopP.weaken (s2 := ⟨[.unk, .rd (eAs l), .unk, .unk, .unk, .ptr 0 0 0, .ptr 1 0 0, I 0, .unk, I m, .sl 2 0 (m).toNat (some (m).toNat), .unk, .unk, .unk, .unk, .unk, .unk, .unk, .unk, .unk, .unk, .unk, .unk, .unk, .unk, .unk, .unk, .unk, .unk, .unk, .unk, .unk, .unk, .unk, .unk, .unk, .unk, .rd (orbsR g m l), I ((orbsR g m l).length : Int), I (0 : Nat), .unk, .unk, .unk, .unk, .unk, .unk, .unk, .unk, .unk, .unk, .unk, .unk, .unk, .unk, .unk, .unk, .unk, .unk, .unk, .unk, .unk, .unk, .unk, .unk, .unk, .unk, .unk, .unk, .unk, .unk, .unk, .unk, .unk, .unk, .unk, .unk, .unk, .unk, .unk, .unk, .unk, .unk, .unk, .unk], [.box (eV h), .box [I 0, .v (.slice none 0 0)], .row 1 true (eNs (List.replicate (m).toNat 0))]⟩) [0, 1, 3] ⟨?_, ?_, by decide, rfl⟩ ?_
      · repeat' (first | exact trivial | rfl | ((conv => whnf); refine And.intro ?_ ?_))
      · repeat' (first | exact trivial | rfl | exact fun h => h | exact row00 | ((conv => whnf); refine And.intro ?_ ?_))
      refine loopInd 0 (by kernel_rfl) l.length (fun i (c : List Int) => ⟨[.unk, .rd (eAs l), .unk, .unk, .unk, .ptr 0 0 0, .ptr 1 0 0, I 0, .unk, I m, .sl 2 0 (m).toNat (some (m).toNat), .unk, .unk, .unk, .unk, .unk, .unk, .unk, .unk, .unk, .unk, .unk, .unk, .unk, .unk, .unk, .unk, .unk, .unk, .unk, .unk, .unk, .unk, .unk, .unk, .unk, .unk, .rd (orbsR g m l), I ((orbsR g m l).length : Int), I (i : Nat), .unk, .unk, .unk, .unk, .unk, .unk, .unk, .unk, .unk, .unk, .unk, .unk, .unk, .unk, .unk, .unk, .unk, .unk, .unk, .unk, .unk, .unk, .unk, .unk, .unk, .unk, .unk, .unk, .unk, .unk, .unk, .unk, .unk, .unk, .unk, .unk, .unk, .unk, .unk, .unk, .unk, .unk, .unk, .unk], [.box (eV h), .box [I 0, .v (.slice none 0 0)], .row 1 true (eNs c)]⟩)
        (fun i c => c.length = (m).toNat ∧ (l.drop i).foldl (addRO g m h) c = cntR g m h l) ?_ 0 _ (Nat.zero_le _) ⟨by simp, rfl⟩
      rintro i c hi ⟨hcl, hJ⟩
      rcases Nat.lt_or_ge i l.length with hlt | hge
      · obtain ⟨a, ha⟩ : ∃ o, l[i]? = some o := ⟨_, List.getElem?_eq_getElem hlt⟩
        obtain ⟨ham, har⟩ := hla a (List.mem_of_getElem? ha)
        have hcond : decide ((i : Int) < ((orbsR g m l).length : Int)) = true := by rw [hol]; exact lt_dec hlt
        have hae : (eAs l)[(i : Int).toNat]? = some (eAt ⟨⟨m, a.p.x⟩, a.w, a.o⟩) := by
          have := get_map (f := eAt) ha
          rw [← ham]; exact this
        have hoe : (orbsR g m l)[(i : Int).toNat]? = some [.rd (ptsE m (orbR g m a.p.x))] := get_map ha
        rw [drop_get ha, List.foldl_cons, addRO] at hJ
        have hOl : (orbR g m a.p.x).length ≤ g.length := orbR_len
        generalize orbR g m a.p.x = O at hoe hJ hOl
        have hpl : (ptsE m O).length = O.length := by simp [ptsE]
        conv => whnf
        refine pickB_yes hcond ?_
        conv => whnf
        refine eltK_iff.2 ⟨_, hoe, ?_⟩
        conv => whnf
        refine LoopP.weaken (s2 := ⟨[.unk, .rd (eAs l), .unk, .unk, .unk, .ptr 0 0 0, .ptr 1 0 0, I 0, .unk, I m, .sl 2 0 (m).toNat (some (m).toNat), I (i : Nat), .unk, .unk, .unk, .unk, .unk, .unk, .unk, .unk, .unk, .unk, .unk, .unk, .unk, .unk, .unk, .unk, .unk, .unk, .unk, .unk, .unk, .unk, .unk, .unk, .unk, .rd (orbsR g m l), I ((orbsR g m l).length : Int), I (i : Nat), .unk, .unk, .unk, .unk, .rd (ptsE m O), I ((ptsE m O).length : Int), I (0 : Nat), .unk, .unk, .unk, .unk, .unk, .unk, .unk, .unk, .unk, .unk, .unk, .unk, .unk, .unk, .unk, .unk, .unk, .unk, .unk, .unk, .unk, .unk, .unk, .unk, .unk, .unk, .unk, .unk, .unk, .unk, .unk, .unk, .unk, .unk, .unk, .unk, .unk], [.box (eV h), .box [I 0, .v (.slice none 0 0)], .row 1 true (eNs c)]⟩) [0, 1, 2] ⟨?_, ?_, by decide, rfl⟩ ?_
        · repeat' (first | exact trivial | rfl | ((conv => whnf); refine And.intro ?_ ?_))
        · repeat' (first | exact trivial | rfl | exact fun h => h | ((conv => whnf); refine And.intro ?_ ?_))
        refine loopInd 0 (by kernel_rfl) O.length (fun j (c : List Int) => ⟨[.unk, .rd (eAs l), .unk, .unk, .unk, .ptr 0 0 0, .ptr 1 0 0, I 0, .unk, I m, .sl 2 0 (m).toNat (some (m).toNat), I (i : Nat), .unk, .unk, .unk, .unk, .unk, .unk, .unk, .unk, .unk, .unk, .unk, .unk, .unk, .unk, .unk, .unk, .unk, .unk, .unk, .unk, .unk, .unk, .unk, .unk, .unk, .rd (orbsR g m l), I ((orbsR g m l).length : Int), I (i : Nat), .unk, .unk, .unk, .unk, .rd (ptsE m O), I ((ptsE m O).length : Int), I (j : Nat), .unk, .unk, .unk, .unk, .unk, .unk, .unk, .unk, .unk, .unk, .unk, .unk, .unk, .unk, .unk, .unk, .unk, .unk, .unk, .unk, .unk, .unk, .unk, .unk, .unk, .unk, .unk, .unk, .unk, .unk, .unk, .unk, .unk, .unk, .unk, .unk, .unk], [.box (eV h), .box [I 0, .v (.slice none 0 0)], .row 1 true (eNs c)]⟩)
          (fun j c => c.length = (m).toNat ∧ (l.drop (i + 1)).foldl (addRO g m h) ((O.drop j).foldl (addRP m h a) c) = cntR g m h l) ?_ 0 c (Nat.zero_le _) ⟨hcl, hJ⟩
        clear hJ hcl hcond hoe
        rintro j c hj ⟨hcl, hJ⟩
        rcases Nat.lt_or_ge j O.length with hlt2 | hge2
        · obtain ⟨v, hv⟩ : ∃ o, O[j]? = some o := ⟨_, List.getElem?_eq_getElem hlt2⟩
          rw [drop_get hv, List.foldl_cons] at hJ
          have hcond : decide ((j : Int) < ((ptsE m O).length : Int)) = true := by rw [hpl]; exact lt_dec hlt2
          obtain ⟨hph0, hph1⟩ := phF_rng (h := h) (x := v) h4
          have hk4 : 0 ≤ (w (phF h m v + w (Int.tdiv m 4))).tmod m ∧ (w (phF h m v + w (Int.tdiv m 4))).tmod m < m := by
            rw [qd, wrap_i _ (by omega) (by omega)]
            exact ⟨Int.tmod_nonneg _ (by omega), Int.tmod_lt_of_pos _ (by omega)⟩
          have hcl1 : (bump c (phF h m v).toNat a.w).length = m.toNat := by rw [bump_len]; exact hcl
          have hrow1 : (eNs c).set (0 + (phF h m v).toNat) [I (w (c.getD (phF h m v).toNat 0 + a.w))] = eNs (bump c (phF h m v).toNat a.w) := eNs_bump (Nat.zero_add _)
          conv => whnf
          refine pickB_yes hcond ?_
          conv => whnf
          refine eltK_iff.2 ⟨_, getP hv (by simp), ?_⟩
          conv => whnf
          refine ⟨(h, m, v), rfl, (by show m ≠ (0 : Int); omega), ?_⟩
          conv => whnf
          refine idxB_iff.2 ⟨hph0, by show phF h m v < _; omega, ?_⟩
          conv => whnf
          refine eltK_iff.2 ⟨_, eNs_get (i := (phF h m v).toNat) (by omega) (Nat.zero_add _), ?_⟩
          conv => whnf
          refine eltK_iff.2 ⟨_, hae, ?_⟩
          conv => whnf
          refine idxB_iff.2 ⟨hph0, by show phF h m v < _; omega, ?_⟩
          conv => whnf
          refine eltK_iff.2 ⟨_, eNs_get (i := (phF h m v).toNat) (by omega) (Nat.zero_add _), ?_⟩
          conv => whnf
          refine nzB_iff.2 ⟨by omega, ?_⟩
          conv => whnf
          refine idxB_iff.2 ⟨hk4.1, Int.lt_of_lt_of_le hk4.2 (by omega), ?_⟩
          conv => whnf
          refine eltK_iff.2 ⟨_, by show ((eNs c).set (0 + (phF h m v).toNat) [I (w (c.getD (phF h m v).toNat 0 + a.w))])[_]? = _; rw [hrow1]; exact eNs_get (i := ((w (phF h m v + w (Int.tdiv m 4))).tmod m).toNat) (by omega) (Nat.zero_add _), ?_⟩
          conv => whnf
          refine eltK_iff.2 ⟨_, hae, ?_⟩
          conv => whnf
          refine idxB_iff.2 ⟨hk4.1, Int.lt_of_lt_of_le hk4.2 (by omega), ?_⟩
          conv => whnf
          refine eltK_iff.2 ⟨_, by show ((eNs c).set (0 + (phF h m v).toNat) [I (w (c.getD (phF h m v).toNat 0 + a.w))])[_]? = _; rw [hrow1]; exact eNs_get (i := ((w (phF h m v + w (Int.tdiv m 4))).tmod m).toNat) (by omega) (Nat.zero_add _), ?_⟩
          conv => whnf
          have hrow2 : ((eNs c).set (0 + (phF h m v).toNat) [I (w (c.getD (phF h m v).toNat 0 + a.w))]).set (0 + ((w (phF h m v + w (Int.tdiv m 4))).tmod m).toNat) [I (w ((bump c (phF h m v).toNat a.w).getD ((w (phF h m v + w (Int.tdiv m 4))).tmod m).toNat 0 + a.o))] = eNs (addRP m h a c v) := by
            rw [hrow1]; exact eNs_bump (Nat.zero_add _)
          refine' ⟨addRP m h a c v, [0, 1, 2], hlt2, ⟨?gl, hJ⟩, ⟨?gt, ?gh, by decide, rfl⟩⟩
          case gl => rw [addRP_len]; exact hcl
          case gt => repeat' (first | exact trivial | exact congrArg (fun x => LV.v (Value.int .i64 x)) (wrapS (by omega)) | rfl | ((conv => whnf); refine And.intro ?_ ?_))
          case gh => repeat' (first | exact trivial | rfl | exact fun h => h | exact hrow2 | exact hrow2.symm | ((conv => whnf); refine And.intro ?_ ?_))
        · have hcond : decide ((j : Int) < ((ptsE m O).length : Int)) = false := by rw [hpl]; exact ge_dec hge2
          rw [List.drop_eq_nil_of_le hge2] at hJ
          conv => whnf
          refine pickB_no hcond ?_
          conv => whnf
          refine' ⟨c, [0, 1, 2], hlt, ⟨hcl, hJ⟩, ⟨?gt2, ?gh2, by decide, rfl⟩⟩
          case gt2 => repeat' (first | exact trivial | exact congrArg (fun x => LV.v (Value.int .i64 x)) (wrapS (by omega)) | rfl | ((conv => whnf); refine And.intro ?_ ?_))
          case gh2 => repeat' (first | exact trivial | rfl | exact fun h => h | ((conv => whnf); refine And.intro ?_ ?_))
      · have hcond : decide ((i : Int) < ((orbsR g m l).length : Int)) = false := by rw [hol]; exact ge_dec hge
        rw [List.drop_eq_nil_of_le hge] at hJ
        replace hJ : c = cntR g m h l := hJ
        rw [← hJ] at hk
        conv => whnf
        refine pickB_no hcond ?_
        clear hcond hJ hge hi hol hla
        conv => whnf
        have qa' : IntKind.i64.wrap (Int.tdiv m 2) = m / 2 := qa
        have qb' : IntKind.i64.wrap (Int.tdiv m 3) = m / 3 := qb
        have qc' : IntKind.i64.wrap (Int.tdiv m 6) = m / 6 := qc
        have hcn : (eNs c).length = m.toNat := by rw [eNs_len]; exact hcl
        refine LoopP.weaken (s2 := ⟨[.sl 2 0 (m).toNat (some (m).toNat), .unk, .ptr 3 0 0, I (m.toNat : Int), .v (.slice none 0 0), I (0 : Nat), .unk, .unk, .unk, .unk, .unk, .unk, .unk, .unk, .unk, .unk, .unk, .unk, .unk, .unk, .unk, .unk, .unk, .unk, .unk, .unk, .unk, .unk, .unk, .unk, .unk, .unk, .unk, .unk, .unk, .unk, .unk, .unk, .unk, .unk, .unk, .unk, .unk, .unk, .unk, .unk, .unk, .unk, .unk, .unk, .unk, .unk, .unk, .unk, .unk, .unk, .unk, .unk, .unk, .unk, .unk, .unk, .unk, .unk, .unk, .unk, .unk, .unk, .unk, .unk, .unk, .unk, .unk], [.dead, .box [I 0, .v (.slice none 0 0)], .row 1 true (eNs c), .box [I 0, .v (.slice none 0 0)]]⟩) [0, 1, 2, 3] ⟨?_, ?_, by decide, rfl⟩ ?_
        · repeat' (first | exact trivial | rfl | ((conv => whnf); refine And.intro ?_ ?_))
        · repeat' (first | exact trivial | rfl | exact fun h => h | ((conv => whnf); refine And.intro ?_ ?_))
        refine loopInd 0 (by kernel_rfl) (m / 2).toNat (fun i (a : List Int) => match a with
            | [] => ⟨[.sl 2 0 (m).toNat (some (m).toNat), .unk, .ptr 3 0 0, I (m.toNat : Int), .v (.slice none 0 0), I (i : Nat), .unk, .unk, .unk, .unk, .unk, .unk, .unk, .unk, .unk, .unk, .unk, .unk, .unk, .unk, .unk, .unk, .unk, .unk, .unk, .unk, .unk, .unk, .unk, .unk, .unk, .unk, .unk, .unk, .unk, .unk, .unk, .unk, .unk, .unk, .unk, .unk, .unk, .unk, .unk, .unk, .unk, .unk, .unk, .unk, .unk, .unk, .unk, .unk, .unk, .unk, .unk, .unk, .unk, .unk, .unk, .unk, .unk, .unk, .unk, .unk, .unk, .unk, .unk, .unk, .unk, .unk, .unk], [.dead, .box [I 0, .v (.slice none 0 0)], .row 1 true (eNs c), .box [I 0, .v (.slice none 0 0)]]⟩
            | v :: r => ⟨[.sl 2 0 (m).toNat (some (m).toNat), .unk, .ptr 3 0 0, I (m.toNat : Int), .sl 4 0 (v :: r).length none, I (i : Nat), .unk, .unk, .unk, .unk, .unk, .unk, .unk, .unk, .unk, .unk, .unk, .unk, .unk, .unk, .unk, .unk, .unk, .unk, .unk, .unk, .unk, .unk, .unk, .unk, .unk, .unk, .unk, .unk, .unk, .unk, .unk, .unk, .unk, .unk, .unk, .unk, .unk, .unk, .unk, .unk, .unk, .unk, .unk, .unk, .unk, .unk, .unk, .unk, .unk, .unk, .unk, .unk, .unk, .unk, .unk, .unk, .unk, .unk, .unk, .unk, .unk, .unk, .unk, .unk, .unk, .unk, .unk], [.dead, .box [I 0, .v (.slice none 0 0)], .row 1 true (eNs c), .box [I 0, .v (.slice none 0 0)], .row 1 false (eNs (v :: r))]⟩)
          (fun i a => a = halfC c (m / 2).toNat i) ?_ 0 [] (Nat.zero_le _) rfl

        intro i a hi hJ
        have hm : ((m.toNat : Nat) : Int) = m := by omega
        have qq : IntKind.i64.wrap (Int.tdiv ((m.toNat : Nat) : Int) 2) = m / 2 := by rw [hm]; exact qa
        rcases Nat.lt_or_ge i (m / 2).toNat with hlt | hge
        · have hcond : decide ((i : Int) < IntKind.i64.wrap (Int.tdiv ((m.toNat : Nat) : Int) 2)) = true := by rw [qq]; simp; omega
          have hnext : halfC c (m / 2).toNat (i + 1) = a ++ [w (c.getD i 0 - c.getD (i + (m / 2).toNat) 0)] := by rw [hJ]; exact halfC_succ
          have hal : a.length = i := by rw [hJ]; exact halfC_len
          have hix : IntKind.i64.wrap ((i : Int) + IntKind.i64.wrap (Int.tdiv ((m.toNat : Nat) : Int) 2)) = ((i + (m / 2).toNat : Nat) : Int) := by
            rw [qq]
            show w _ = _
            rw [wrap_i _ (by omega) (by omega)]
            omega
          have hg2 : (eNs c)[0 + (IntKind.i64.wrap ((i : Int) + IntKind.i64.wrap (Int.tdiv ((m.toNat : Nat) : Int) 2))).toNat]? = some [I (c.getD (i + (m / 2).toNat) 0)] := eNs_get (by omega) (by rw [hix, Nat.zero_add]; exact Int.toNat_natCast _)
          cases a with
          | nil =>
            conv => whnf
            refine pickB_yes hcond ?_
            conv => whnf
            refine idxB_iff.2 ⟨by omega, by omega, ?_⟩
            conv => whnf
            refine eltK_iff.2 ⟨_, eNs_get (i := i) (by omega) (by simp), ?_⟩
            conv => whnf
            refine idxB_iff.2 ⟨by rw [hix]; omega, by rw [hix]; omega, ?_⟩
            conv => whnf
            refine eltK_iff.2 ⟨_, hg2, ?_⟩
            conv => whnf
            refine And.intro (Nat.le_refl _) ?_
            conv => whnf
            refine ⟨(by show (1 : Nat) * 8 ≤ 140737488355328; decide), all1 rfl, ?_⟩
            conv => whnf
            refine' ⟨[w (c.getD i 0 - c.getD (i + (m / 2).toNat) 0)], [0, 1, 2, 3, 5], hlt, ?gj3, ⟨?gt3, ?gh3, by decide, rfl⟩⟩
            case gj3 => rw [hnext]; rfl
            case gt3 => repeat' (first | exact trivial | exact congrArg (fun x => LV.v (Value.int .i64 x)) (wrapS (by omega)) | rfl | ((conv => whnf); refine And.intro ?_ ?_))
            case gh3 => repeat' (first | exact trivial | rfl | exact fun h => h | ((conv => whnf); refine And.intro ?_ ?_))
          | cons v r =>
            conv => whnf
            refine pickB_yes hcond ?_
            conv => whnf
            refine idxB_iff.2 ⟨by omega, by omega, ?_⟩
            conv => whnf
            refine eltK_iff.2 ⟨_, eNs_get (i := i) (by omega) (by simp), ?_⟩
            conv => whnf
            refine idxB_iff.2 ⟨by rw [hix]; omega, by rw [hix]; omega, ?_⟩
            conv => whnf
            refine eltK_iff.2 ⟨_, hg2, ?_⟩
            conv => whnf
            refine And.intro (Nat.le_refl _) ?_
            conv => whnf
            refine ⟨rfl, eNs_len, (by show ((v :: r).length + 1) * 8 ≤ 140737488355328; omega), all1 rfl, ?_⟩
            conv => whnf
            refine' ⟨(v :: r) ++ [w (c.getD i 0 - c.getD (i + (m / 2).toNat) 0)], [0, 1, 2, 3, 6], hlt, ?gj4, ⟨?gt4, ?gh4, by decide, rfl⟩⟩
            case gj4 => rw [hnext]
            case gt4 => repeat' (first | exact trivial | exact congrArg (fun x => LV.v (Value.int .i64 x)) (wrapS (by omega)) | rfl | exact (len_snocI (v :: r) _).symm | ((conv => whnf); refine And.intro ?_ ?_))
            case gh4 => repeat' (first | exact trivial | rfl | exact fun h => h | exact (eNs_snoc (a := v :: r)).symm | ((conv => whnf); refine And.intro ?_ ?_))
        · have hcond : decide ((i : Int) < IntKind.i64.wrap (Int.tdiv ((m.toNat : Nat) : Int) 2)) = false := by rw [qq]; simp; omega
          have hiH : i = (m / 2).toNat := by omega
          rw [hiH] at hJ
          have hal : a.length = (m / 2).toNat := by rw [hJ]; exact halfC_len
          unfold broughtC at hk
          rw [← hJ] at hk
          clear hJ hi
          cases a with
          | nil => simp at hal; omega
          | cons v r =>
            conv => whnf
            refine pickB_no hcond ?_
            clear hcond
            generalize hAe : v :: r = A at hal hk
            clear hAe
            have q3 : IntKind.i64.wrap (Int.tdiv ((m.toNat : Nat) : Int) 3) = m / 3 := by rw [hm]; exact qb
            have q6 : IntKind.i64.wrap (Int.tdiv ((m.toNat : Nat) : Int) 6) = m / 6 := by rw [hm]; exact qc
            have hini : IntKind.i64.wrap (IntKind.i64.wrap (Int.tdiv ((m.toNat : Nat) : Int) 2) - 1) = (((m / 3).toNat + ((m / 6).toNat - 0) : Nat) : Int) - 1 := by
              rw [qq]
              show w _ = _
              rw [wrap_i _ (by omega) (by omega)]
              omega
            conv => whnf
            refine LoopP.weaken (s2 := ⟨[.unk, .unk, .ptr 3 0 0, I (m.toNat : Int), .sl 4 0 A.length none, .unk, I ((((m / 3).toNat + ((m / 6).toNat - 0) : Nat) : Int) - 1), .unk, .unk, .unk, .unk, .unk, .unk, .unk, .unk, .unk, .unk, .unk, .unk, .unk, .unk, .unk, .unk, .unk, .unk, .unk, .unk, .unk, .unk, .unk, .unk, .unk, .unk, .unk, .unk, .unk, .unk, .unk, .unk, .unk, .unk, .unk, .unk, .unk, .unk, .unk, .unk, .unk, .unk, .unk, .unk, .unk, .unk, .unk, .unk, .unk, .unk, .unk, .unk, .unk, .unk, .unk, .unk, .unk, .unk, .unk, .unk, .unk, .unk, .unk, .unk, .unk, .unk], [.dead, .box [I 0, .v (.slice none 0 0)], .dead, .box [I 0, .v (.slice none 0 0)], .row 1 false (eNs A)]⟩) [0, 1, 2, 3, 4] ⟨?_, ?_, by decide, rfl⟩ ?_
            · repeat' (first | exact trivial | rfl | exact congrArg (fun x => LV.v (Value.int .i64 x)) hini | ((conv => whnf); refine And.intro ?_ ?_))
            · repeat' (first | exact trivial | rfl | exact fun h => h | ((conv => whnf); refine And.intro ?_ ?_))
            refine loopInd 0 (by kernel_rfl) (m / 6).toNat (fun q (a : List Int) => ⟨[.unk, .unk, .ptr 3 0 0, I (m.toNat : Int), .sl 4 0 A.length none, .unk, I ((((m / 3).toNat + ((m / 6).toNat - q) : Nat) : Int) - 1), .unk, .unk, .unk, .unk, .unk, .unk, .unk, .unk, .unk, .unk, .unk, .unk, .unk, .unk, .unk, .unk, .unk, .unk, .unk, .unk, .unk, .unk, .unk, .unk, .unk, .unk, .unk, .unk, .unk, .unk, .unk, .unk, .unk, .unk, .unk, .unk, .unk, .unk, .unk, .unk, .unk, .unk, .unk, .unk, .unk, .unk, .unk, .unk, .unk, .unk, .unk, .unk, .unk, .unk, .unk, .unk, .unk, .unk, .unk, .unk, .unk, .unk, .unk, .unk, .unk, .unk], [.dead, .box [I 0, .v (.slice none 0 0)], .dead, .box [I 0, .v (.slice none 0 0)], .row 1 false (eNs a)]⟩)
              (fun q a => a.length = (m / 2).toNat ∧ downN (m / 6).toNat (m / 3).toNat ((m / 6).toNat - q) a = downN (m / 6).toNat (m / 3).toNat (m / 6).toNat A) ?_ 0 A (Nat.zero_le _) ⟨hal, rfl⟩
            clear hini
            rintro q a hq ⟨hal2, hJ⟩
            rcases Nat.lt_or_ge q (m / 6).toNat with hlt | hge
            · obtain ⟨n, hn⟩ : ∃ n, (m / 6).toNat - q = n + 1 := ⟨(m / 6).toNat - q - 1, by omega⟩
              rw [hn, downN] at hJ
              have hjj : ((((m / 3).toNat + ((m / 6).toNat - q) : Nat) : Int) - 1) = (((m / 3).toNat + n : Nat) : Int) := by omega
              have hcond : decide (((((m / 3).toNat + ((m / 6).toNat - q) : Nat) : Int) - 1) ≥ IntKind.i64.wrap (Int.tdiv ((m.toNat : Nat) : Int) 3)) = true := by rw [q3, hjj]; simp; omega
              have i6 : IntKind.i64.wrap (((((m / 3).toNat + ((m / 6).toNat - q) : Nat) : Int) - 1) - IntKind.i64.wrap (Int.tdiv ((m.toNat : Nat) : Int) 6)) = (((m / 3).toNat + n - (m / 6).toNat : Nat) : Int) := by
                rw [q6, hjj]; show w _ = _; rw [wrap_i _ (by omega) (by omega)]; omega
              have i3 : IntKind.i64.wrap (((((m / 3).toNat + ((m / 6).toNat - q) : Nat) : Int) - 1) - IntKind.i64.wrap (Int.tdiv ((m.toNat : Nat) : Int) 3)) = (((m / 3).toNat + n - (m / 3).toNat : Nat) : Int) := by
                rw [q3, hjj]; show w _ = _; rw [wrap_i _ (by omega) (by omega)]; omega
              have k6 : 0 + (IntKind.i64.wrap (((((m / 3).toNat + ((m / 6).toNat - q) : Nat) : Int) - 1) - IntKind.i64.wrap (Int.tdiv ((m.toNat : Nat) : Int) 6))).toNat = (m / 3).toNat + n - (m / 6).toNat := by rw [i6, Nat.zero_add]; exact Int.toNat_natCast _
              have k3 : 0 + (IntKind.i64.wrap (((((m / 3).toNat + ((m / 6).toNat - q) : Nat) : Int) - 1) - IntKind.i64.wrap (Int.tdiv ((m.toNat : Nat) : Int) 3))).toNat = (m / 3).toNat + n - (m / 3).toNat := by rw [i3, Nat.zero_add]; exact Int.toNat_natCast _
              have kj : 0 + ((((m / 3).toNat + ((m / 6).toNat - q) : Nat) : Int) - 1).toNat = (m / 3).toNat + n := by rw [hjj, Nat.zero_add]; exact Int.toNat_natCast _
              conv => whnf
              refine pickB_yes hcond ?_
              conv => whnf
              refine idxB_iff.2 ⟨by rw [i6]; omega, by rw [i6]; omega, ?_⟩
              conv => whnf
              refine eltK_iff.2 ⟨_, eNs_get (by omega) k6, ?_⟩
              conv => whnf
              refine idxB_iff.2 ⟨by rw [hjj]; omega, by rw [hjj]; omega, ?_⟩
              conv => whnf
              refine eltK_iff.2 ⟨_, eNs_get (by omega) kj, ?_⟩
              conv => whnf
              refine idxB_iff.2 ⟨by rw [i6]; omega, by rw [i6]; omega, ?_⟩
              conv => whnf
              refine eltK_iff.2 ⟨_, eNs_get (by omega) k6, ?_⟩
              have hset1 : (eNs a).set (0 + (IntKind.i64.wrap (((((m / 3).toNat + ((m / 6).toNat - q) : Nat) : Int) - 1) - IntKind.i64.wrap (Int.tdiv ((m.toNat : Nat) : Int) 6))).toNat) [I (w (a.getD ((m / 3).toNat + n - (m / 6).toNat) 0 + a.getD ((m / 3).toNat + n) 0))] = eNs (a.set ((m / 3).toNat + n - (m / 6).toNat) (w (a.getD ((m / 3).toNat + n - (m / 6).toNat) 0 + a.getD ((m / 3).toNat + n) 0))) := eNs_set k6
              have hfin : dstep (m / 6).toNat (m / 3).toNat ((m / 3).toNat + n) a = (a.set ((m / 3).toNat + n - (m / 6).toNat) (w (a.getD ((m / 3).toNat + n - (m / 6).toNat) 0 + a.getD ((m / 3).toNat + n) 0))).set ((m / 3).toNat + n - (m / 3).toNat) (w ((a.set ((m / 3).toNat + n - (m / 6).toNat) (w (a.getD ((m / 3).toNat + n - (m / 6).toNat) 0 + a.getD ((m / 3).toNat + n) 0))).getD ((m / 3).toNat + n - (m / 3).toNat) 0 - (a.set ((m / 3).toNat + n - (m / 6).toNat) (w (a.getD ((m / 3).toNat + n - (m / 6).toNat) 0 + a.getD ((m / 3).toNat + n) 0))).getD ((m / 3).toNat + n) 0)) := rfl
              generalize hc1 : a.set ((m / 3).toNat + n - (m / 6).toNat) (w (a.getD ((m / 3).toNat + n - (m / 6).toNat) 0 + a.getD ((m / 3).toNat + n) 0)) = c1 at hset1 hfin
              have hcl1 : c1.length = (m / 2).toNat := by rw [← hc1]; simp; exact hal2
              have get1 : ∀ {i k : Nat}, i < c1.length → k = i → ((eNs a).set (0 + (IntKind.i64.wrap (((((m / 3).toNat + ((m / 6).toNat - q) : Nat) : Int) - 1) - IntKind.i64.wrap (Int.tdiv ((m.toNat : Nat) : Int) 6))).toNat) [I (w (a.getD ((m / 3).toNat + n - (m / 6).toNat) 0 + a.getD ((m / 3).toNat + n) 0))])[k]? = some [I (c1.getD i 0)] := fun h1 h2 => by rw [hset1]; exact eNs_get h1 h2
              conv => whnf
              refine idxB_iff.2 ⟨by rw [i3]; omega, by rw [i3]; omega, ?_⟩
              conv => whnf
              refine eltK_iff.2 ⟨_, get1 (by omega) k3, ?_⟩
              conv => whnf
              refine idxB_iff.2 ⟨by rw [hjj]; omega, by rw [hjj]; omega, ?_⟩
              conv => whnf
              refine eltK_iff.2 ⟨_, get1 (by omega) kj, ?_⟩
              conv => whnf
              refine idxB_iff.2 ⟨by rw [i3]; omega, by rw [i3]; omega, ?_⟩
              conv => whnf
              refine eltK_iff.2 ⟨_, get1 (by omega) k3, ?_⟩
              have hset2 : ((eNs a).set (0 + (IntKind.i64.wrap (((((m / 3).toNat + ((m / 6).toNat - q) : Nat) : Int) - 1) - IntKind.i64.wrap (Int.tdiv ((m.toNat : Nat) : Int) 6))).toNat) [I (w (a.getD ((m / 3).toNat + n - (m / 6).toNat) 0 + a.getD ((m / 3).toNat + n) 0))]).set (0 + (IntKind.i64.wrap (((((m / 3).toNat + ((m / 6).toNat - q) : Nat) : Int) - 1) - IntKind.i64.wrap (Int.tdiv ((m.toNat : Nat) : Int) 3))).toNat) [I (w (c1.getD ((m / 3).toNat + n - (m / 3).toNat) 0 - c1.getD ((m / 3).toNat + n) 0))] = eNs (dstep (m / 6).toNat (m / 3).toNat ((m / 3).toNat + n) a) := by
                rw [hset1, hfin]; exact eNs_set k3
              have hnj : IntKind.i64.wrap (((((m / 3).toNat + ((m / 6).toNat - q) : Nat) : Int) - 1) - 1) = ((((m / 3).toNat + ((m / 6).toNat - (q + 1)) : Nat) : Int) - 1) := by
                show w _ = _; rw [wrap_i _ (by omega) (by omega)]; omega
              conv => whnf
              refine' ⟨dstep (m / 6).toNat (m / 3).toNat ((m / 3).toNat + n) a, [0, 1, 2, 3, 4], hlt, ⟨?gl5, ?gj5⟩, ⟨?gt5, ?gh5, by decide, rfl⟩⟩
              case gl5 => rw [dstep_len]; exact hal2
              case gj5 => rw [show (m / 6).toNat - (q + 1) = n by omega]; exact hJ
              case gt5 => repeat' (first | exact trivial | exact congrArg (fun x => LV.v (Value.int .i64 x)) hnj | rfl | ((conv => whnf); refine And.intro ?_ ?_))
              case gh5 => repeat' (first | exact trivial | rfl | exact fun h => h | exact hset2 | exact hset2.symm | ((conv => whnf); refine And.intro ?_ ?_))
            · have hcond : decide (((((m / 3).toNat + ((m / 6).toNat - q) : Nat) : Int) - 1) ≥ IntKind.i64.wrap (Int.tdiv ((m.toNat : Nat) : Int) 3)) = false := by rw [q3]; simp; omega
              rw [show (m / 6).toNat - q = 0 by omega, downN] at hJ
              rw [← hJ] at hk
              conv => whnf
              refine pickB_no hcond ?_
              conv => whnf
              refine And.intro (Or.inr (by simp)) ?_
              conv => whnf
              refine leB_iff.2 ⟨by rw [q3]; omega, by rw [q3]; omega, ?_⟩
              conv => whnf
              refine leB_iff.2 ⟨by rw [q3]; omega, by rw [q3]; omega, ?_⟩
              conv => whnf
              refine pickB_no (by rw [q3]; simp; omega) ?_
              conv => whnf
              have hel : (eNs a).length = (m / 2).toNat := by rw [eNs_len]; exact hal2
              refine And.intro (by rw [q3]; omega) ?_
              conv => whnf
              have e : List.take ((IntKind.i64.wrap (Int.tdiv ((m.toNat : Nat) : Int) 3)).toNat - 0) (List.drop (0 + 0) (eNs a)) = eNs (a.take (m / 3).toNat) := by rw [q3]; simp [eNs, List.map_take]
              show K (Er (.agg [I ((m.toNat : Nat) : Int), .rd (List.take ((IntKind.i64.wrap (Int.tdiv ((m.toNat : Nat) : Int) 3)).toNat - 0) (List.drop (0 + 0) (eNs a)))]) 0)
              rw [e, hm]
              exact hk
    · have hnil : l = [] := by
        cases l with
        | nil => rfl
        | cons b r => rw [hl] at h0; simp at h0
      subst hnil
      clear h0
      have hc0 : cntR g (m0A []) h [] = List.replicate 24 0 := rfl
      have hb0 : broughtC (m0A []) (List.replicate 24 0) = List.replicate 8 0 := by decide
      rw [hc0, hb0] at hk
      conv => whnf
      refine ⟨by decide, by decide, ?_⟩
      conv => whnf
      refine ⟨(g, [], 24), rfl, ⟨hgl, .a, (fun a ha => by cases ha), (by show (0 : Nat) ≤ 256; decide)⟩, ?_⟩
      conv => whnf
      repeat' ((first
        | refine stepL _ 0 (by kernel_rfl) ?_
        | refine And.intro (Nat.le_refl _) ?_
        | refine ⟨(by decide), all1 rfl, ?_⟩
        | refine ⟨rfl, rfl, (by decide), all1 rfl, ?_⟩
        | refine And.intro (Or.inr (by simp)) ?_
        | fail) <;> (conv => whnf))
      refine And.intro (show (8 : Nat) ≤ 12 from by decide) ?_
      conv => whnf
      exact hk
noncomputable def e6 : Ent := entA s6 espec_fun
end E
end Go.Proofs.YtjhognibibmeiaaGreatDoor
