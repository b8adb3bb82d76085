/-
  PLAIN LAWS, fourth part: orbits.
-/
import Derived.Test.YtjhognibibmeiaaGreatDoorLc
set_option linter.unusedVariables false
set_option maxRecDepth 100000
set_option maxHeartbeats 4000000
namespace Go.Proofs.YtjhognibibmeiaaGreatDoor
namespace E
open Go Go.RowKit

/-! ### Where maps send a place -/
theorem part_eq {m : Int} (h4 : Is4 m) {t : Int} {a v : V} (ht : 0 ≤ t ∧ t < 24) (ha : B3 a) (hv : Rng m v) :
    modF (shF (modF (dot3 a.x a.y a.z v.x v.y v.z) m) t m) m = mod2 (dotT t m a v) m := by
  have hp := h4.pos
  have px := mul_bd (B := 1000) (C := 191) ha.x ⟨hv.x0, by have := hv.x1; omega⟩ (by decide)
  have py := mul_bd (B := 1000) (C := 191) ha.y ⟨hv.y0, by have := hv.y1; omega⟩ (by decide)
  have pz := mul_bd (B := 1000) (C := 191) ha.z ⟨hv.z0, by have := hv.z1; omega⟩ (by decide)
  unfold dotT
  rw [dot3_w, dotR_w, modF_eq (by omega) (by omega), modF_eq (by omega) (by omega), mod2_eq (by omega) (by omega)]
  generalize a.x * v.x = x at *
  generalize a.y * v.y = y at *
  generalize a.z * v.z = z at *
  clear hv ha
  unfold shF
  rw [Int.tmod_eq_of_lt ht.1 ht.2, wrap_i (x + y + z) (by omega) (by omega)]
  have k1 : (24 : Int).tdiv 24 = 1 := by decide
  have k2 : (48 : Int).tdiv 24 = 2 := by decide
  have k3 : (96 : Int).tdiv 24 = 4 := by decide
  have k4 : (192 : Int).tdiv 24 = 8 := by decide
  have w1 : w 1 = 1 := by decide
  have w2 : w 2 = 2 := by decide
  have w3 : w 4 = 4 := by decide
  have w4 : w 8 = 8 := by decide
  cases h4
  · rw [k1, w1, wrap_i (t * 1) (by omega) (by omega), wrap_i ((x + y + z) % 24 + t * 1) (by omega) (by omega), wrap_i (t * 1 + x + y + z) (by omega) (by omega)]
    omega
  · rw [k2, w2, wrap_i (t * 2) (by omega) (by omega), wrap_i ((x + y + z) % 48 + t * 2) (by omega) (by omega), wrap_i (t * 2 + x + y + z) (by omega) (by omega)]
    omega
  · rw [k3, w3, wrap_i (t * 4) (by omega) (by omega), wrap_i ((x + y + z) % 96 + t * 4) (by omega) (by omega), wrap_i (t * 4 + x + y + z) (by omega) (by omega)]
    omega
  · rw [k4, w4, wrap_i (t * 8) (by omega) (by omega), wrap_i ((x + y + z) % 192 + t * 8) (by omega) (by omega), wrap_i (t * 8 + x + y + z) (by omega) (by omega)]
    omega
theorem img_eq {m : Int} (h4 : Is4 m) {o : O} (ho : OkO o) {x : V} (hx : Rng m x) : imgV o m x = imgR o m x := by
  have ht := outT_false ho.t
  have hr := bey9_false ho.b
  unfold imgV imgR bring2 modV shV appV
  simp only
  rw [part_eq h4 ht.x hr.a hx, part_eq h4 ht.y hr.b hx, part_eq h4 ht.z hr.c hx]

/-! ### Lists in order -/
abbrev Lt (a b : V) : Prop := cmpV a b 0 < 0
abbrev Asc (l : List V) : Prop := l.Pairwise Lt
theorem Lt.irr {a : V} (h : Lt a a) : False := by have := cmpV_lt.1 h; omega
theorem Lt.trans {a b c : V} (h : Lt a b) (k : Lt b c) : Lt a c := by
  have h := cmpV_lt.1 h
  have k := cmpV_lt.1 k
  exact cmpV_lt.2 (by omega)
theorem asc_ext : ∀ {a b : List V}, Asc a → Asc b → (∀ v, v ∈ a ↔ v ∈ b) → a = b
  | [], [], _, _, _ => rfl
  | [], y :: s, _, _, h => by have := (h y).2 (List.mem_cons_self ..); cases this
  | x :: r, [], _, _, h => by have := (h x).1 (List.mem_cons_self ..); cases this
  | x :: r, y :: s, ha, hb, h => by
    have ha' := List.pairwise_cons.1 ha
    have hb' := List.pairwise_cons.1 hb
    have hxy : x = y := by
      rcases List.mem_cons.1 ((h x).1 (List.mem_cons_self ..)) with e | e
      · exact e
      · rcases List.mem_cons.1 ((h y).2 (List.mem_cons_self ..)) with e2 | e2
        · exact e2.symm
        · exact (Lt.irr (Lt.trans (hb'.1 x e) (ha'.1 y e2))).elim
    subst hxy
    rw [asc_ext ha'.2 hb'.2 fun v => ?_]
    constructor
    · intro hv
      rcases List.mem_cons.1 ((h v).1 (List.mem_cons_of_mem _ hv)) with e | e
      · subst e; exact (Lt.irr (ha'.1 v hv)).elim
      · exact e
    · intro hv
      rcases List.mem_cons.1 ((h v).2 (List.mem_cons_of_mem _ hv)) with e | e
      · subst e; exact (Lt.irr (hb'.1 v hv)).elim
      · exact e
theorem insV_mem {q v : V} : ∀ {l : List V}, v ∈ insV q l ↔ v = q ∨ v ∈ l
  | [] => by simp [insV]
  | b :: r => by
    unfold insV
    cases decide (cmpV b q 0 < 0) with
    | true =>
      simp only [cond_true, List.mem_cons]
      rw [insV_mem]
      constructor
      · rintro (h | h | h)
        · exact .inr (.inl h)
        · exact .inl h
        · exact .inr (.inr h)
      · rintro (h | h | h)
        · exact .inr (.inl h)
        · exact .inl h
        · exact .inr (.inr h)
    | false =>
      cases hs : sameV b q with
      | true =>
        have := sameV_iff.1 hs
        subst this
        simp
      | false => simp
theorem insV_asc {q : V} : ∀ {l : List V}, Asc l → Asc (insV q l)
  | [], _ => by simp [insV, Asc]
  | b :: r, h => by
    have h' := List.pairwise_cons.1 h
    unfold insV
    cases hd : decide (cmpV b q 0 < 0) with
    | true =>
      have hlt : Lt b q := of_decide_eq_true hd
      refine List.pairwise_cons.2 ⟨fun v hv => ?_, insV_asc h'.2⟩
      rcases insV_mem.1 hv with e | e
      · subst e; exact hlt
      · exact h'.1 v e
    | false =>
      have hnl : ¬ Lt b q := of_decide_eq_false hd
      cases hs : sameV b q with
      | true => exact h
      | false =>
        have hne : b ≠ q := fun e => by rw [sameV_iff.2 e] at hs; cases hs
        have hqb : Lt q b := by
          rcases Classical.em (Lt q b) with e | e
          · exact e
          · exact absurd (cmpV_tot hnl e) hne
        refine List.pairwise_cons.2 ⟨fun v hv => ?_, h⟩
        rcases List.mem_cons.1 hv with e | e
        · subst e; exact hqb
        · exact Lt.trans hqb (h'.1 v e)
theorem insAll_go : ∀ {qs l : List V}, Asc l → Asc (qs.foldl (fun l q => insV q l) l) ∧ ∀ v, v ∈ qs.foldl (fun l q => insV q l) l ↔ v ∈ qs ∨ v ∈ l
  | [], l, h => ⟨h, fun v => by simp⟩
  | q :: r, l, h => by
    obtain ⟨h1, h2⟩ := insAll_go (qs := r) (insV_asc (q := q) h)
    refine ⟨h1, fun v => ?_⟩
    rw [List.foldl_cons, h2, insV_mem, List.mem_cons]
    constructor
    · rintro (h | h | h)
      · exact .inl (.inr h)
      · exact .inl (.inl h)
      · exact .inr h
    · rintro ((h | h) | h)
      · exact .inr (.inl h)
      · exact .inl h
      · exact .inr (.inr h)
abbrev Le1 (a b : V) : Prop := ¬ Lt b a
theorem ddT_go : ∀ {l : List V} {p : V}, (p :: l).Pairwise Le1 → Asc (p :: ddT p l) ∧ ∀ v, v ∈ p :: ddT p l ↔ v ∈ p :: l
  | [], p, _ => ⟨by simp [ddT, Asc], fun v => by simp [ddT]⟩
  | b :: r, p, h => by
    have h' := List.pairwise_cons.1 h
    have hbr := h'.2
    unfold ddT
    cases hs : sameV b p with
    | true =>
      have := sameV_iff.1 hs
      subst this
      obtain ⟨h1, h2⟩ := ddT_go hbr
      refine ⟨h1, fun v => ?_⟩
      rw [cond_true, h2]
      simp
    | false =>
      have hne : b ≠ p := fun e => by rw [sameV_iff.2 e] at hs; cases hs
      obtain ⟨h1, h2⟩ := ddT_go hbr
      have hpb : Lt p b := by
        rcases Classical.em (Lt p b) with e | e
        · exact e
        · exact absurd (cmpV_tot (h'.1 b (List.mem_cons_self ..)) e) hne
      refine ⟨List.pairwise_cons.2 ⟨fun v hv => ?_, h1⟩, fun v => ?_⟩
      · rw [cond_false] at hv
        rcases List.mem_cons.1 hv with e | e
        · subst e; exact hpb
        · exact Lt.trans hpb ((List.pairwise_cons.1 h1).1 v e)
      · rw [cond_false, List.mem_cons, h2, List.mem_cons (a := v) (l := b :: r)]
theorem sortV_ok (l : List V) : (sortV l).Pairwise Le1 ∧ ∀ v, v ∈ sortV l ↔ v ∈ l := by
  refine ⟨?_, fun v => by unfold sortV; exact List.mem_mergeSort⟩
  have h := List.pairwise_mergeSort (le := fun a b : V => !decide (cmpV b a 0 < 0)) (fun a b c h1 h2 => by
      simp only [Bool.not_eq_true', decide_eq_false_iff_not, cmpV_lt] at *
      omega) (fun a b => by
      simp only [Bool.or_eq_true, Bool.not_eq_true', decide_eq_false_iff_not, cmpV_lt]
      omega) l
  exact h.imp fun {a b} hab => by
    simp only [Bool.not_eq_true', decide_eq_false_iff_not] at hab
    exact hab
theorem ddV_ok (l : List V) (h : l.Pairwise Le1) : Asc (ddV l) ∧ ∀ v, v ∈ ddV l ↔ v ∈ l := by
  cases l with
  | nil => exact ⟨List.Pairwise.nil, fun v => Iff.rfl⟩
  | cons a r => exact ddT_go h
theorem orb_eq {g : List O} (hg : ∀ o ∈ g, OkO o) {m : Int} (h4 : Is4 m) {x : V} (hx : Rng m x) : orbV g m x = orbR g m x := by
  have himg : imgs g m x = imgsR g m x := List.map_congr_left fun o ho => img_eq h4 (hg o ho) hx
  obtain ⟨h1, h2⟩ := sortV_ok (imgs g m x)
  obtain ⟨h3, h4'⟩ := ddV_ok _ h1
  obtain ⟨h5, h6⟩ := insAll_go (qs := imgsR g m x) (l := []) List.Pairwise.nil
  refine asc_ext h3 h5 fun v => ?_
  refine (h4' v).trans ((h2 v).trans ?_)
  rw [himg]
  exact ((h6 v).trans (by simp)).symm

/-! ### The exact wave -/
theorem addP_eq {m : Int} (h4 : Is4 m) (h : V) (a : Atm) {c : List Int} (hc : c.length = m.toNat) (v : V) : broughtC m (addRP m h a c v) = addP m h a (broughtC m c) v := by
  have hs := h4.sx
  have hp := h4.pos
  have hq := h4.qs
  obtain ⟨p0, p1⟩ := phF_rng (h := h) (x := v) h4
  have ht := hs.t
  have hw : w (phF h m v + w (m.tdiv 4)) = phF h m v + m / 4 := by rw [hq.d, wrap_i _ (by omega) (by omega)]
  have e2 : (phF h m v + m / 4).tmod m = (phF h m v + m / 4) % m := Int.tmod_eq_emod_of_nonneg (by omega)
  have r0 := Int.emod_nonneg (phF h m v + m / 4) (show m ≠ 0 by omega)
  have r1 := Int.emod_lt_of_pos (phF h m v + m / 4) (show 0 < m by omega)
  unfold addRP addP
  rw [hw, e2]
  rw [brought_bump hs _ (by rw [bump_len]; omega) (by omega) _ (phF h m v + m / 4) (by omega)]
  rw [brought_bump hs _ (by omega) (by omega) _ (phF h m v) (by rw [Int.emod_eq_of_lt p0 p1]; omega)]
theorem addPs_eq {m : Int} (h4 : Is4 m) (h : V) (a : Atm) : ∀ (O : List V) (c : List Int), c.length = m.toNat → broughtC m (O.foldl (addRP m h a) c) = O.foldl (addP m h a) (broughtC m c) ∧ (O.foldl (addRP m h a) c).length = m.toNat
  | [], c, hc => ⟨rfl, hc⟩
  | v :: r, c, hc => by
    rw [List.foldl_cons, List.foldl_cons, ← addP_eq h4 h a hc v]
    exact addPs_eq h4 h a r _ (by rw [addRP_len]; exact hc)
theorem addOs_eq {g : List O} (hg : ∀ o ∈ g, OkO o) {m : Int} (h4 : Is4 m) (h : V) : ∀ (l : List Atm) (c : List Int), (∀ a ∈ l, OkA m a) → c.length = m.toNat → broughtC m (l.foldl (addRO g m h) c) = l.foldl (addO g m h) (broughtC m c)
  | [], c, _, hc => rfl
  | a :: r, c, hl, hc => by
    rw [List.foldl_cons, List.foldl_cons]
    have h1 := addPs_eq h4 h a (orbR g m a.p.x) c hc
    have e : addO g m h (broughtC m c) a = broughtC m (addRO g m h c a) := by
      unfold addO addRO
      rw [orb_eq hg h4 (hl a (List.mem_cons_self ..)).r, h1.1]
    rw [e]
    exact addOs_eq hg h4 h r _ (fun b hb => hl b (List.mem_cons_of_mem _ hb)) h1.2
theorem brought_zero {m : Int} (h4 : Is4 m) : broughtC m (List.replicate m.toNat 0) = List.replicate (m / 3).toNat 0 := by
  cases h4 <;> decide
theorem exC_eq {g : List O} (hg : ∀ o ∈ g, OkO o) {m : Int} (h4 : Is4 m) (h : V) {l : List Atm} (hl : ∀ a ∈ l, OkA m a) : broughtC m (cntR g m h l) = exC g m h l := by
  unfold cntR exC
  rw [addOs_eq hg h4 h l _ hl (by simp), brought_zero h4]
end E
end Go.Proofs.YtjhognibibmeiaaGreatDoor
