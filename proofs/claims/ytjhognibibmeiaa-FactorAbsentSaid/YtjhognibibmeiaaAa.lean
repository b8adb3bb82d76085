/-
  ABSENT INDICES, first part: the walks: indices turned, phases, the first map that makes an index absent. (The numbers of functions in the texts A.. are those of the seat of FactorAbsent.)
-/
import Derived.Test.YtjhognibibmeiaaHw
import Derived.Test.YtjhognibibmeiaaLd
set_option linter.unusedVariables false
set_option maxRecDepth 100000
set_option maxHeartbeats 4000000
namespace Go.Proofs.Ytjhognibibmeiaa
namespace E
open Go Go.RowKit

theorem mulM_oneB {m : M} (h : B9 m) : bey9 (mulM one3 m) = bey9 m := by rw [mulM_one h]
def S31o : PSpec := espec (fun o : O => [.agg (eO oneO), .agg (eO o)]) (fun o => OkO o) (fun o => Er (.agg (eO (mulO oneO o))) 0)
theorem s31o : SoundA PR GL 34 S31o := s31.mono fun args K hk => by
  obtain ⟨o, rfl, ho, hk⟩ := hk
  have h1 : outT oneO.t = false := by kernel_rfl
  have h2 : bey9 oneO.r = false := by kernel_rfl
  have h3 : okD oneO.r = true := by kernel_rfl
  have h4 : bey9 (mulO oneO o).r = false := by
    show bey9 (mulM one3 o.r) = false
    rw [mulM_one (bey9_false ho.b)]
    exact ho.b
  show runT (chkT oneO (eO0 3) (chkT o (eO0 3) (eO0 4) (eO0 4)) (chkT o (eO0 3) (eO0 4) (madeT (mulO oneO o)))) K
  simp only [chkT, madeT, C, runT, h1, h2, h3, h4, ho.t, ho.b, ho.d, pickB_t, pickB_f]
  exact hk
noncomputable def e31o : Ent := entA s31o espec_fun

/-! ### Indices -/
def SA59 : PSpec := p1 encV fun h => C (bad3 h 512) (Bo false) (Bo true)
theorem sA59 : SoundA PR GL 59 SA59 := mkA [] 4 Try.func59 (by kernel_rfl) (by kernel_rfl) fun args K hk => by
  have hk1 := p1_inv hk
  clear hk
  obtain ⟨v, rfl, hk⟩ := hk1
  conv => whnf
  repeat' ((first
            | refine pickB_yes (by assumption) ?_
            | refine pickB_no (by assumption) ?_
            | refine pickB_of (fun _ => ?_) (fun _ => ?_)) <;> (conv => whnf))
  all_goals (repeat (first | replace hk := pickB_gt hk (by assumption) | replace hk := pickB_gf hk (by assumption)))
  all_goals first | exact hk | (simp only [bad3, bad1, C, runT, pickB_t, pickB_f, *, cond_true, cond_false] at hk; exact hk)
noncomputable def eA59 : Ent := entA sA59 (pspec_fun _)
def turn1 (h : V) (a b c : Int) : Int := w (w (w (0 + w (h.x * a)) + w (h.y * b)) + w (h.z * c))
def turnV (r : M) (h : V) : V := ⟨turn1 h r.a.x r.b.x r.c.x, turn1 h r.a.y r.b.y r.c.y, turn1 h r.a.z r.b.z r.c.z⟩
def SA60 : PSpec := p2 encM encV fun r h => LV.agg (eV (turnV r h))
theorem sA60 : SoundA PR GL 60 SA60 := mkA [] 4 Try.func60 (by kernel_rfl) (by kernel_rfl) fun args K hk => by
  have hk1 := p2_inv hk
  clear hk
  obtain ⟨r, h, rfl, hk⟩ := hk1
  conv => whnf
  exact hk
noncomputable def e60t : Ent := entA sA60 (pspec_fun _)
def badE (h : V) : Int := bif bad3 h 512 then 1 else 0
def turnH (o : O) (h : V) : V := bif bad3 h 512 then vec0 else turnV o.r h
def S45t : PSpec := espec (fun x : O × V => [.agg (eO x.1), .agg (eV x.2)]) (fun x => OkO x.1) (fun x => Er (.agg (eV (turnH x.1 x.2))) (badE x.2))
theorem s45t : SoundA PR GL 45 S45t := mkA [eA59, e24, e31o, e60t] 0 Try.func45 (by kernel_rfl) (by kernel_rfl) fun args K hk => by
  obtain ⟨⟨o, h⟩, rfl, ho, hk⟩ := hk
  replace ho : OkO o := ho
  replace hk : K (Er (.agg (eV (turnH o h))) (badE h)) := hk
  unfold turnH badE at hk
  conv => whnf
  refine pickB_of (fun hb => ?_) (fun hb => ?_)
  · rw [show bad3 h 512 = true from hb, cond_true, cond_true] at hk
    conv => whnf
    exact hk
  · rw [show bad3 h 512 = false from hb, cond_false, cond_false] at hk
    conv => whnf
    refine ⟨o, rfl, ho, ?_⟩
    conv => whnf
    exact hk
noncomputable def e45t : Ent := entA s45t espec_fun
def phO (o : O) (h : V) : Int := modF (w (w (w (h.x * o.t.x) + w (h.y * o.t.y)) + w (h.z * o.t.z))) 24
def phH (o : O) (h : V) : Int := bif bad3 h 512 then 0 else phO o h
def S27p : PSpec := espec (fun x : O × V => [.agg (eO x.1), .agg (eV x.2)]) (fun x => OkO x.1) (fun x => Er (I (phH x.1 x.2)) (badE x.2))
theorem s27p : SoundA PR GL 27 S27p := mkA [e45t] 0 Try.func27 (by kernel_rfl) (by kernel_rfl) fun args K hk => by
  obtain ⟨⟨o, h⟩, rfl, ho, hk⟩ := hk
  replace ho : OkO o := ho
  replace hk : K (Er (I (phH o h)) (badE h)) := hk
  unfold phH badE at hk
  have hbe : badE h = bif bad3 h 512 then 1 else 0 := rfl
  conv => whnf
  refine ⟨(o, h), rfl, ho, ?_⟩
  conv => whnf
  refine pickB_of (fun hb => ?_) (fun hb => ?_)
  · have hb1 : (badE h != 0) = true := hb
    have hb2 : bad3 h 512 = true := by
      cases hc : bad3 h 512 with
      | true => rfl
      | false => rw [hbe, hc] at hb1; cases hb1
    rw [hb2, cond_true, cond_true] at hk
    have hb3 : badE h = 1 := by rw [hbe, hb2]; rfl
    rw [← hb3] at hk
    conv => whnf
    exact hk
  · have hb1 : (badE h != 0) = false := hb
    have hb2 : bad3 h 512 = false := by
      cases hc : bad3 h 512 with
      | false => rfl
      | true => rw [hbe, hc] at hb1; cases hb1
    rw [hb2, cond_false, cond_false] at hk
    conv => whnf
    exact hk
noncomputable def e27p : Ent := entA s27p espec_fun

/-! ### The first map that makes an index absent -/
def S28o : PSpec := p0 (LV.agg (eO oneO))
theorem s28o : SoundA PR GL 28 S28o := mkA [] 0 Try.func28 (by kernel_rfl) (by kernel_rfl) fun args K hk => by
  have hk1 := p0_inv hk
  clear hk
  obtain ⟨rfl, hk⟩ := hk1
  conv => whnf
  exact hk
noncomputable def e28o : Ent := entA s28o (pspec_fun _)
def S30n : PSpec := p1 encI fun n => Bo (n != 0)
theorem s30n : SoundA PR GL 30 S30n := mkA [] 0 Try.func30 (by kernel_rfl) (by kernel_rfl) fun args K hk => by
  have hk1 := p1_inv hk
  clear hk
  obtain ⟨n, rfl, hk⟩ := hk1
  replace hk : K (Bo (n != 0)) := hk
  conv => whnf
  refine pickB_of (fun h => ?_) (fun h => ?_)
  · rw [show (n != 0) = true from h] at hk
    conv => whnf
    exact hk
  · rw [show (n != 0) = false from h] at hk
    conv => whnf
    exact hk
noncomputable def e30n : Ent := entA s30n (pspec_fun _)
def hitO (h : V) (o : O) : Bool := bif eqV (turnV o.r h) h then phO o h != 0 else false
def findO (h : V) : List O → O × Int × Bool
  | [] => (⟨mat0, vec0⟩, 0, false)
  | o :: r => bif hitO h o then (o, phO o h, true) else findO h r
def S29f : PSpec := espec (fun x : List O × V => [.rd (eOs x.1), .agg (eV x.2), .agg (eV x.2), .clo 30 []]) (fun x => (∀ o ∈ x.1, OkO o) ∧ x.1.length ≤ 192 ∧ bad3 x.2 512 = false) (fun x => .tup [.agg (eO (findO x.2 x.1).1), I (findO x.2 x.1).2.1, Bo (findO x.2 x.1).2.2])
theorem s29f : SoundA PR GL 29 S29f := mkA [e45t, e27p, e30n] 0 Try.func29 (by kernel_rfl) (by kernel_rfl) fun args K hk => by
  obtain ⟨⟨g, h⟩, rfl, ⟨hg, hlen, hb⟩, hk⟩ := hk
  replace hg : ∀ o ∈ g, OkO o := hg
  replace hlen : g.length ≤ 192 := hlen
  replace hb : bad3 h 512 = false := hb
  replace hk : K (.tup [.agg (eO (findO h g).1), I (findO h g).2.1, Bo (findO h g).2.2]) := hk
  have hl : (eOs g).length = g.length := by simp [eOs]
  have hbe : badE h = 0 := by unfold badE; rw [hb]; rfl
  have hte : ∀ o, turnH o h = turnV o.r h := fun o => by unfold turnH; rw [hb]; rfl
  have hpe : ∀ o, phH o h = phO o h := fun o => by unfold phH; rw [hb]; rfl
  conv => whnf
  refine LoopP.weaken (s2 := ⟨[.unk, .unk, .unk, .clo 30 [], .unk, .ptr 0 0 0, .ptr 1 0 0, .unk, .ptr 2 0 0, I 0, Bo false, .unk, .unk, .unk, .unk, .unk, .unk, .rd (eOs g), I ((eOs g).length : Int), I (0 : Nat), .unk, .unk, .unk, .unk, .unk, .unk, .unk, .unk, .unk, .unk, .unk, .unk, .unk, .unk, .unk, .unk, .unk, .unk, .unk, .unk, .unk, .unk, .unk, .unk, .unk, .unk, .unk], [.box (eV h), .box (eV h), .box (eO ⟨mat0, vec0⟩)]⟩) [0, 1, 2] ⟨?_, ?_, by decide, rfl⟩ ?_
  · repeat' (first | exact trivial | rfl | ((conv => whnf); refine And.intro ?_ ?_))
  · repeat' (first | exact trivial | rfl | exact fun h => h | ((conv => whnf); refine And.intro ?_ ?_))
  refine loopInd 0 (by kernel_rfl) g.length (fun i (_ : Unit) => ⟨[.unk, .unk, .unk, .clo 30 [], .unk, .ptr 0 0 0, .ptr 1 0 0, .unk, .ptr 2 0 0, I 0, Bo false, .unk, .unk, .unk, .unk, .unk, .unk, .rd (eOs g), I ((eOs g).length : Int), I (i : Nat), .unk, .unk, .unk, .unk, .unk, .unk, .unk, .unk, .unk, .unk, .unk, .unk, .unk, .unk, .unk, .unk, .unk, .unk, .unk, .unk, .unk, .unk, .unk, .unk, .unk, .unk, .unk], [.box (eV h), .box (eV h), .box (eO ⟨mat0, vec0⟩)]⟩) (fun i _ => findO h (g.drop i) = findO h g) ?_ 0 () (Nat.zero_le _) rfl
  rintro i _ hi hJ
  rcases Nat.lt_or_ge i g.length with hlt | hge
  · obtain ⟨o, ho⟩ : ∃ o, g[i]? = some o := ⟨_, List.getElem?_eq_getElem hlt⟩
    have hoo := hg o (List.mem_of_getElem? ho)
    rw [drop_get ho, findO] at hJ
    have hcond : decide ((i : Int) < ((eOs g).length : Int)) = true := by rw [hl]; exact lt_dec hlt
    conv => whnf
    refine pickB_yes hcond ?_
    conv => whnf
    refine eltK_iff.2 ⟨_, get_map ho, ?_⟩
    conv => whnf
    refine ⟨(o, h), rfl, hoo, ?_⟩
    conv => whnf
    refine ⟨(o, h), rfl, hoo, ?_⟩
    refine pickB_of (fun hq => ?_) (fun hq => ?_)
    · have hq' : eqV (turnV o.r h) h = true := by rw [← hte o]; exact hq
      conv => whnf
      refine pickB_of (fun hp => ?_) (fun hp => ?_)
      · have hp' : (phO o h != 0) = true := by rw [← hpe o]; exact hp
        have hh : hitO h o = true := by unfold hitO; rw [hq', hp']; rfl
        rw [hh, cond_true] at hJ
        rw [← hJ, ← hpe o] at hk
        conv => whnf
        exact hk
      · have hp' : (phO o h != 0) = false := by rw [← hpe o]; exact hp
        have hh : hitO h o = false := by unfold hitO; rw [hq', hp']; rfl
        rw [hh, cond_false] at hJ
        conv => whnf
        refine' ⟨(), [0, 1, 2], hlt, hJ, ⟨?t1, ?h1, by decide, rfl⟩⟩
        case t1 => repeat' (first | exact trivial | exact congrArg (fun x => LV.v (Value.int .i64 x)) (wrapS (by omega)) | rfl | ((conv => whnf); refine And.intro ?_ ?_))
        case h1 => repeat' (first | exact trivial | rfl | exact fun h => h | ((conv => whnf); refine And.intro ?_ ?_))
    · have hq' : eqV (turnV o.r h) h = false := by rw [← hte o]; exact hq
      have hh : hitO h o = false := by unfold hitO; rw [hq']; rfl
      rw [hh, cond_false] at hJ
      conv => whnf
      refine' ⟨(), [0, 1, 2], hlt, hJ, ⟨?t2, ?h2, by decide, rfl⟩⟩
      case t2 => repeat' (first | exact trivial | exact congrArg (fun x => LV.v (Value.int .i64 x)) (wrapS (by omega)) | rfl | ((conv => whnf); refine And.intro ?_ ?_))
      case h2 => repeat' (first | exact trivial | rfl | exact fun h => h | ((conv => whnf); refine And.intro ?_ ?_))
  · have hcond : decide ((i : Int) < ((eOs g).length : Int)) = false := by rw [hl]; exact ge_dec hge
    rw [List.drop_eq_nil_of_le hge] at hJ
    rw [← hJ] at hk
    conv => whnf
    refine pickB_no hcond ?_
    conv => whnf
    exact hk
noncomputable def e29f : Ent := entA s29f espec_fun
def S14w : PSpec := espec (fun x : List O × V => [.rd (eOs x.1), .agg (eV x.2)]) (fun x => (∀ o ∈ x.1, OkO o) ∧ x.1.length ≤ 192 ∧ bad3 x.2 512 = false) (fun x => .tup [.agg (eO (findO x.2 x.1).1), Bo (findO x.2 x.1).2.2])
theorem s14w : SoundA PR GL 14 S14w := mkA [e29f] 0 Try.func14 (by kernel_rfl) (by kernel_rfl) fun args K hk => by
  obtain ⟨⟨g, h⟩, rfl, hg, hk⟩ := hk
  conv => whnf
  refine ⟨(g, h), rfl, hg, ?_⟩
  conv => whnf
  exact hk
noncomputable def e14w : Ent := entA s14w espec_fun
def absE (g : List O) (h : V) : Int := bif bad3 h 512 then 1 else chkG g
def S13a : PSpec := espec (fun x : List O × V => [.rd (eOs x.1), .rd [eV x.2]]) (fun _ => True) (fun x => I (absE x.1 x.2))
theorem s13a : SoundA PR GL 13 S13a := mkA [e28o, e27p, e13] 2 Try.func13 (by kernel_rfl) (by kernel_rfl) fun args K hk => by
  obtain ⟨⟨g, h⟩, rfl, _, hk⟩ := hk
  replace hk : K (I (absE g h)) := hk
  have ho : OkO oneO := ⟨by kernel_rfl, by kernel_rfl, by kernel_rfl⟩
  have hbe : badE h = bif bad3 h 512 then 1 else 0 := rfl
  unfold absE at hk
  conv => whnf
  refine ⟨(oneO, h), rfl, ho, ?_⟩
  conv => whnf
  refine pickB_of (fun hb => ?_) (fun hb => ?_)
  · have hb1 : (badE h != 0) = true := hb
    have hb2 : bad3 h 512 = true := by
      cases hc : bad3 h 512 with
      | true => rfl
      | false => rw [hbe, hc] at hb1; cases hb1
    rw [hb2, cond_true] at hk
    have hb3 : badE h = 1 := by rw [hbe, hb2]; rfl
    rw [← hb3] at hk
    conv => whnf
    exact hk
  · have hb1 : (badE h != 0) = false := hb
    have hb2 : bad3 h 512 = false := by
      cases hc : bad3 h 512 with
      | false => rfl
      | true => rw [hbe, hc] at hb1; cases hb1
    rw [hb2, cond_false] at hk
    conv => whnf
    refine ⟨g, rfl, trivial, ?_⟩
    conv => whnf
    exact hk
noncomputable def e13a : Ent := entA s13a espec_fun
def isA (g : List O) (h : V) : Bool × Int := bif absE g h != 0 then (false, absE g h) else ((findO h g).2.2, 0)
def S5i : PSpec := espec (fun x : List O × V => [.rd (eOs x.1), .agg (eV x.2)]) (fun _ => True) (fun x => .tup [Bo (isA x.1 x.2).1, I (isA x.1 x.2).2])
theorem s5i : SoundA PR GL 5 S5i := mkA [e13a, e14w] 0 Try.func5 (by kernel_rfl) (by kernel_rfl) fun args K hk => by
  obtain ⟨⟨g, h⟩, rfl, _, hk⟩ := hk
  replace hk : K (.tup [Bo (isA g h).1, I (isA g h).2]) := hk
  unfold isA at hk
  conv => whnf
  refine And.intro (Nat.le_refl _) ?_
  conv => whnf
  refine ⟨(g, h), rfl, trivial, ?_⟩
  conv => whnf
  refine pickB_of (fun he => ?_) (fun he => ?_)
  · rw [show (absE g h != 0) = true from he, cond_true] at hk
    conv => whnf
    exact hk
  · have he' : (absE g h != 0) = false := he
    rw [he', cond_false] at hk
    have he2 : absE g h = 0 := by simpa using he'
    have hb : bad3 h 512 = false := by
      cases hc : bad3 h 512 with
      | false => rfl
      | true => unfold absE at he2; rw [hc] at he2; cases he2
    have hg : chkG g = 0 := by unfold absE at he2; rw [hb] at he2; exact he2
    have hG := chkG_ok hg
    conv => whnf
    refine ⟨(g, h), rfl, ⟨hG.ok, hG.len, hb⟩, ?_⟩
    conv => whnf
    refine pickB_of (fun h2 => ?_) (fun h2 => ?_)
    · rw [show (findO h g).2.2 = true from h2] at hk
      conv => whnf
      exact hk
    · rw [show (findO h g).2.2 = false from h2] at hk
      conv => whnf
      exact hk
noncomputable def e5i : Ent := entA s5i espec_fun

/-! ### Is a number of the ring nought? -/
def allZ : List Int → Bool
  | [] => true
  | a :: r => bif a != 0 then false else allZ r
def S7n : PSpec := espec (fun x : Int × List Int => [.agg [I x.1, .rd (eNs x.2)]]) (fun x => x.2.length ≤ 4611686018427387904) (fun x => Bo (allZ x.2))
theorem s7n : SoundA PR GL 7 S7n := mkA [] 0 Try.func7 (by kernel_rfl) (by kernel_rfl) fun args K hk => by
  obtain ⟨⟨m, c⟩, rfl, hlen, hk⟩ := hk
  replace hlen : c.length ≤ 4611686018427387904 := hlen
  replace hk : K (Bo (allZ c)) := hk
  have hl : (eNs c).length = c.length := eNs_len
  conv => whnf
  refine LoopP.weaken (s2 := ⟨[.unk, .unk, .unk, .unk, .unk, .unk, .rd (eNs c), I ((eNs c).length : Int), I (0 : Nat), .unk, .unk, .unk, .unk, .unk, .unk], []⟩) [] ⟨?_, trivial, List.nodup_nil, rfl⟩ ?_
  · repeat' (first | exact trivial | rfl | ((conv => whnf); refine And.intro ?_ ?_))
  refine loopInd 0 (by kernel_rfl) c.length (fun i (_ : Unit) => ⟨[.unk, .unk, .unk, .unk, .unk, .unk, .rd (eNs c), I ((eNs c).length : Int), I (i : Nat), .unk, .unk, .unk, .unk, .unk, .unk], []⟩) (fun i _ => allZ (c.drop i) = allZ c) ?_ 0 () (Nat.zero_le _) rfl
  rintro i _ hi hJ
  rcases Nat.lt_or_ge i c.length with hlt | hge
  · obtain ⟨a, ha⟩ : ∃ o, c[i]? = some o := ⟨_, List.getElem?_eq_getElem hlt⟩
    rw [drop_get ha, allZ] at hJ
    have hcond : decide ((i : Int) < ((eNs c).length : Int)) = true := by rw [hl]; exact lt_dec hlt
    conv => whnf
    refine pickB_yes hcond ?_
    conv => whnf
    refine eltK_iff.2 ⟨_, get_map (f := fun n : Int => [I n]) ha, ?_⟩
    conv => whnf
    refine pickB_of (fun hb => ?_) (fun hb => ?_)
    · rw [show (a != 0) = true from hb, cond_true] at hJ
      rw [← hJ] at hk
      conv => whnf
      exact hk
    · rw [show (a != 0) = false from hb, cond_false] at hJ
      conv => whnf
      refine' ⟨(), [], hlt, hJ, ⟨?t, trivial, List.nodup_nil, rfl⟩⟩
      case t => repeat' (first | exact trivial | exact congrArg (fun x => LV.v (Value.int .i64 x)) (wrapS (by omega)) | rfl | ((conv => whnf); refine And.intro ?_ ?_))
  · have hcond : decide ((i : Int) < ((eNs c).length : Int)) = false := by rw [hl]; exact ge_dec hge
    rw [List.drop_eq_nil_of_le hge] at hJ
    replace hJ : true = allZ c := hJ
    rw [← hJ] at hk
    conv => whnf
    refine pickB_no hcond ?_
    conv => whnf
    exact hk
noncomputable def e7n : Ent := entA s7n espec_fun
end E
end Go.Proofs.Ytjhognibibmeiaa
