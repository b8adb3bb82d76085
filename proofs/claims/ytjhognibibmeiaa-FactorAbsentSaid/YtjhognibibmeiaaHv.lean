/-
  THE FUNCTIONS, twenty-second part: the reference's Exact.
-/
import Derived.Test.YtjhognibibmeiaaHu
set_option linter.unusedVariables false
set_option maxRecDepth 100000
set_option maxHeartbeats 8000000
namespace Go.Proofs.Ytjhognibibmeiaa
namespace E
open Go Go.RowKit

/-! ### What passes the reference's checks -/
theorem is4n_eq (m : Int) : is4n m = is4 m := by
  unfold is4n is4 bne
  cases m == 24 <;> cases m == 48 <;> cases m == 96 <;> cases m == 192 <;> rfl
theorem modF_id {x m : Int} (hm : 24 ≤ m ∧ m ≤ 192) (h0 : 0 ≤ x) (h1 : x < m) : modF x m = x := by
  unfold modF
  rw [Int.tmod_eq_of_lt h0 h1, wrap_i _ (by omega) (by omega)]
  rw [Int.tmod_eq_emod_of_nonneg (by omega), Int.add_emod_right, Int.emod_eq_of_lt h0 h1]
theorem placeR_eq (p : Pt) : placeR p = formP p := by
  unfold placeR
  rw [is4n_eq]
  cases h : is4 p.m with
  | false =>
    cases hf : formP p with
    | false => rfl
    | true => have := is4_iff.2 (formP_iff.1 hf).1; rw [h] at this; cases this
  | true =>
    have h4 := is4_iff.1 h
    have hp := h4.pos
    simp only [cond_true]
    cases hf : formP p with
    | true =>
      obtain ⟨_, r⟩ := formP_iff.1 hf
      unfold eqV modV
      simp only
      rw [modF_id hp r.x0 r.x1, modF_id hp r.y0 r.y1, modF_id hp r.z0 r.z1]
      simp
    | false =>
      cases he : eqV p.x (modV p.x p.m) with
      | false => rfl
      | true =>
        exfalso
        have : formP p = true := by
          refine formP_iff.2 ⟨h4, ?_⟩
          have e : p.x = modV p.x p.m := by
            unfold eqV at he
            simp only [Bool.and_eq_true, beq_iff_eq] at he
            exact V.ext' he.1 he.2.1 he.2.2.1
          rw [e]; exact modV_rng h4
        rw [hf] at this; cases this
theorem anyB_false {f : Atm → Bool} : ∀ {l : List Atm}, anyB f l = false → ∀ a ∈ l, f a = false
  | [], _, a, h => by cases h
  | b :: r, h, a, ha => by
    unfold anyB at h
    cases hb : f b with
    | true => rw [hb] at h; cases h
    | false =>
      rw [hb] at h
      rcases List.mem_cons.1 ha with rfl | ha
      · exact hb
      · exact anyB_false h a ha
theorem docA_ok {l : List Atm} (h : docA l = 0) : OkL l := by
  unfold docA at h
  cases h1 : anyB heavyA l with
  | true => rw [h1] at h; cases h
  | false =>
    rw [h1, cond_false] at h
    cases h2 : decide ((l.length : Int) > 256) with
    | true => rw [h2] at h; cases h
    | false =>
      rw [h2, cond_false] at h
      cases h3 : anyB badP l with
      | true => rw [h3] at h; cases h
      | false =>
        rw [h3, cond_false] at h
        cases h4 : anyB (neM (m0A l)) l with
        | true => rw [h4] at h; cases h
        | false =>
          have hp : ∀ a ∈ l, formP a.p = true ∧ a.p.m = m0A l := fun a ha => by
            have e1 := anyB_false h3 a ha
            have e2 := anyB_false h4 a ha
            unfold badP at e1
            rw [placeR_eq] at e1
            unfold neM at e2
            exact ⟨by simpa using e1, by simpa using e2⟩
          refine ⟨by simp at h2; omega, fun a ha => ?_, ?_⟩
          · obtain ⟨e1, e2⟩ := hp a ha
            exact ⟨e2, e2 ▸ (formP_iff.1 e1).2⟩
          · cases l with
            | nil => exact .a
            | cons b r => exact (formP_iff.1 (hp b (List.mem_cons_self ..)).1).1
theorem mixE_zero {e f : Int} (h : mixE e f = 0) : e = 0 ∧ f = 0 := by
  unfold mixE at h
  cases h1 : e == 0 with
  | true =>
    rw [h1] at h
    exact ⟨by simpa using h1, h⟩
  | false =>
    rw [h1] at h
    have he : e ≠ 0 := by simpa using h1
    cases h2 : f != 0 with
    | false => rw [h2] at h; exact absurd h he
    | true =>
      have hf : f ≠ 0 := by simpa using h2
      rw [h2] at h
      cases h3 : decide (f < e) with
      | true => rw [h3] at h; exact absurd h hf
      | false => rw [h3] at h; exact absurd h he
theorem docC_len {g : List O} (h : docC g = 0) : g.length ≤ 192 := by
  unfold docC at h
  cases hd : decide ((g.length : Int) > 192) with
  | true => rw [hd] at h; cases h
  | false => simp at hd; omega
theorem chkR_ok {g : List O} {l : List Atm} {h : V} (he : chkR g l h = 0) : docC g = 0 ∧ docA l = 0 := by
  unfold chkR at he
  cases hb : bad3 h 512 with
  | true => rw [hb] at he; cases he
  | false => rw [hb] at he; exact mixE_zero he

/-! ### Counts of parts of a turn, brought to the ring's shape -/
def bump (c : List Int) (k : Nat) (x : Int) : List Int := c.set k (w (c.getD k 0 + x))
def addRP (m : Int) (h : V) (a : Atm) (c : List Int) (v : V) : List Int :=
  bump (bump c (phF h m v).toNat a.w) ((w (phF h m v + w (m.tdiv 4))).tmod m).toNat a.o
def addRO (g : List O) (m : Int) (h : V) (c : List Int) (a : Atm) : List Int := (orbR g m a.p.x).foldl (addRP m h a) c
def cntR (g : List O) (m : Int) (h : V) (l : List Atm) : List Int := l.foldl (addRO g m h) (List.replicate m.toNat 0)
def halfC (c : List Int) (H n : Nat) : List Int := (List.range n).map fun j => w (c.getD j 0 - c.getD (j + H) 0)
def dstep (D6 D3 j : Nat) (c : List Int) : List Int :=
  (c.set (j - D6) (w (c.getD (j - D6) 0 + c.getD j 0))).set (j - D3) (w ((c.set (j - D6) (w (c.getD (j - D6) 0 + c.getD j 0))).getD (j - D3) 0 - (c.set (j - D6) (w (c.getD (j - D6) 0 + c.getD j 0))).getD j 0))
def downN (D6 D3 : Nat) : Nat → List Int → List Int
  | 0, c => c
  | n + 1, c => downN D6 D3 n (dstep D6 D3 (D3 + n) c)
def broughtC (m : Int) (c : List Int) : List Int := (downN (m / 6).toNat (m / 3).toNat (m / 6).toNat (halfC c (m / 2).toNat (m / 2).toNat)).take (m / 3).toNat
theorem bump_len {c : List Int} {k : Nat} {x : Int} : (bump c k x).length = c.length := by simp [bump]
theorem eNs_bump {c : List Int} {k i : Nat} {x : Int} (h : i = k) : (eNs c).set i [I (w (c.getD k 0 + x))] = eNs (bump c k x) := eNs_set h
theorem addRP_len {m : Int} {h : V} {a : Atm} {c : List Int} {v : V} : (addRP m h a c v).length = c.length := by simp [addRP, bump_len]
theorem row00 {m : Int} : List.replicate m.toNat [I 0] = eNs (List.replicate m.toNat 0) := by simp [eNs]
theorem len_snocI (r : List Int) (a : Int) : (r ++ [a]).length = r.length + 1 := by simp
theorem insAll_len : ∀ {qs l : List V}, (qs.foldl (fun l q => insV q l) l).length ≤ l.length + qs.length
  | [], l => Nat.le_refl _
  | q :: r, l => by
    rw [List.foldl_cons]
    have h1 := insAll_len (qs := r) (l := insV q l)
    have h2 := insV_len (q := q) (l := l)
    simp only [List.length_cons]
    omega
theorem orbR_len {g : List O} {m : Int} {x : V} : (orbR g m x).length ≤ g.length := by
  have := insAll_len (qs := imgsR g m x) (l := [])
  simp only [List.length_nil, Nat.zero_add] at this
  have h2 : (imgsR g m x).length = g.length := by simp [imgsR]
  rw [← h2]; exact this
theorem halfC_succ {c : List Int} {H n : Nat} : halfC c H (n + 1) = halfC c H n ++ [w (c.getD n 0 - c.getD (n + H) 0)] := by simp [halfC, List.range_succ]
theorem halfC_len {c : List Int} {H n : Nat} : (halfC c H n).length = n := by simp [halfC]
theorem dstep_len {D6 D3 j : Nat} {c : List Int} : (dstep D6 D3 j c).length = c.length := by simp [dstep]
theorem eNs_snoc {a : List Int} {x : Int} : eNs (a ++ [x]) = eNs a ++ [[I x]] := by simp [eNs]

def S6 : PSpec := espec (fun x : List O × List Atm × V => [.rd (eOs x.1), .rd (eAs x.2.1), .agg (eV x.2.2)]) (fun x => x.2.1.length ≤ 4611686018427387904)
  (fun x => bif chkR x.1 x.2.1 x.2.2 != 0 then Er (.agg [I 0, .rd []]) (chkR x.1 x.2.1 x.2.2) else Er (.agg [I (m0A x.2.1), .rd (eNs (broughtC (m0A x.2.1) (cntR x.1 (m0A x.2.1) x.2.2 x.2.1)))]) 0)
end E
end Go.Proofs.Ytjhognibibmeiaa
