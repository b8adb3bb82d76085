/-
  THE FUNCTIONS, seventeenth part: factor's orbits, phase, add.
-/
import Derived.Test.YtjhognibibmeiaaGreatDoorHp
set_option linter.unusedVariables false
set_option maxRecDepth 100000
set_option maxHeartbeats 4000000
namespace Go.Proofs.YtjhognibibmeiaaGreatDoor
namespace E
open Go Go.RowKit

/-- Groups and atoms that passed. -/
structure OkA (m : Int) (a : Atm) : Prop where
  e : a.p.m = m
  r : Rng m a.p.x
theorem chkP_zero {g : List O} {m : Int} {x : V} (hg : chkG g = 0) (h4 : Is4 m) (hx : Rng m x) : chkP g ⟨m, x⟩ = 0 := by
  unfold chkP
  rw [formP_iff.2 ⟨h4, hx⟩, cond_true, hg]
def S34b : PSpec := espec (fun x : List O × Int × V => [.rd (eOs x.1), .agg (ePt ⟨x.2.1, x.2.2⟩)]) (fun x => chkG x.1 = 0 ∧ Is4 x.2.1 ∧ Rng x.2.1 x.2.2) (fun x => Er (.rd (ptsE x.2.1 (orbV x.1 x.2.1 x.2.2))) 0)
theorem s34b : SoundA PR GL 52 S34b := s34.mono fun args K hk => by
  obtain ⟨⟨g, m, x⟩, rfl, ⟨hg, h4, hx⟩, hk⟩ := hk
  refine ⟨(g, ⟨m, x⟩), rfl, trivial, ?_⟩
  show K (bif chkP g ⟨m, x⟩ != 0 then Er (.rd []) (chkP g ⟨m, x⟩) else Er (.rd (ptsE m (orbV g m x))) 0)
  rw [chkP_zero hg h4 hx]
  exact hk
noncomputable def e34b : Ent := entA s34b espec_fun

def orbsE (g : List O) (m : Int) (l : List Atm) : List (List LV) := l.map fun a => [.rd (ptsE m (orbV g m a.p.x))]
theorem orbs_snoc (g : List O) (m : Int) (l : List Atm) (a : Atm) : orbsE g m (l ++ [a]) = orbsE g m l ++ [[.rd (ptsE m (orbV g m a.p.x))]] := by simp [orbsE]
theorem len_snocA (r : List Atm) (a : Atm) : (r ++ [a]).length = r.length + 1 := by simp
theorem take_snocA {l : List Atm} {i : Nat} {b : Atm} (h : l[i]? = some b) : l.take (i + 1) = l.take i ++ [b] := by
  rw [List.take_add_one, h]; rfl
def S16 : PSpec := espec (fun x : List O × List Atm × Int => [.rd (eOs x.1), .rd (eAs x.2.1)]) (fun x => chkG x.1 = 0 ∧ Is4 x.2.2 ∧ (∀ a ∈ x.2.1, OkA x.2.2 a) ∧ x.2.1.length ≤ 256) (fun x => .rd (orbsE x.1 x.2.2 x.2.1))
theorem s16 : SoundA PR GL 28 S16 := mkA [e34b] 0 Tryz.func28 (by kernel_rfl) (by kernel_rfl) fun args K hk => by
  obtain ⟨⟨g, l, m⟩, rfl, ⟨hg, h4, hla, hlen⟩, hk⟩ := hk
  replace hg : chkG g = 0 := hg
  replace h4 : Is4 m := h4
  replace hla : ∀ a ∈ l, OkA m a := hla
  replace hlen : l.length ≤ 256 := hlen
  have hl : (eAs l).length = l.length := by simp [eAs]
  replace hk : K (.rd (orbsE g m l)) := hk
  conv => whnf
  refine LoopP.weaken (s2 := ⟨[.rd (eOs g), .unk, .unk, .unk, .unk, .v (.slice none 0 0), .unk, .unk, .unk, .unk, .rd (eAs l), I ((eAs l).length : Int), I (0 : Nat), .unk, .unk, .unk, .unk, .unk, .unk, .unk, .unk, .unk, .unk, .unk, .unk, .unk, .unk, .unk, .unk], []⟩) [] ⟨?_, trivial, List.nodup_nil, rfl⟩ ?_
  · repeat' (first | exact trivial | rfl | ((conv => whnf); refine And.intro ?_ ?_))
  refine loopInd 0 (by kernel_rfl) l.length (fun i (a : List Atm) => match a with
        | [] => ⟨[.rd (eOs g), .unk, .unk, .unk, .unk, .v (.slice none 0 0), .unk, .unk, .unk, .unk, .rd (eAs l), I ((eAs l).length : Int), I (i : Nat), .unk, .unk, .unk, .unk, .unk, .unk, .unk, .unk, .unk, .unk, .unk, .unk, .unk, .unk, .unk, .unk], []⟩
        | v :: r => ⟨[.rd (eOs g), .unk, .unk, .unk, .unk, .sl 0 0 (v :: r).length none, .unk, .unk, .unk, .unk, .rd (eAs l), I ((eAs l).length : Int), I (i : Nat), .unk, .unk, .unk, .unk, .unk, .unk, .unk, .unk, .unk, .unk, .unk, .unk, .unk, .unk, .unk, .unk], [.row 1 false (orbsE g m (v :: r))]⟩)
      (fun i a => a = l.take i) ?_ 0 [] (Nat.zero_le _) rfl
  intro i a hi hJ
  rcases Nat.lt_or_ge i l.length with hlt | hge
  · obtain ⟨b, hb⟩ : ∃ o, l[i]? = some o := ⟨_, List.getElem?_eq_getElem hlt⟩
    obtain ⟨hbm, hbr⟩ := hla b (List.mem_of_getElem? hb)
    have hcond : decide ((i : Int) < ((eAs l).length : Int)) = true := by rw [hl]; exact lt_dec hlt
    have hnext : l.take (i + 1) = a ++ [b] := by rw [hJ]; exact take_snocA hb
    have hal : a.length = i := by rw [hJ]; simp; omega
    have hbe : (eAs l)[(i : Int).toNat]? = some (eAt ⟨⟨m, b.p.x⟩, b.w, b.o⟩) := by
      have := get_map (f := eAt) hb
      rw [← hbm]; exact this
    cases a with
    | nil =>
      conv => whnf
      refine pickB_yes hcond ?_
      conv => whnf
      refine eltK_iff.2 ⟨_, hbe, ?_⟩
      conv => whnf
      refine ⟨(g, m, b.p.x), rfl, ⟨hg, h4, hbr⟩, ?_⟩
      conv => whnf
      refine And.intro (Nat.le_refl _) ?_
      conv => whnf
      refine ⟨(by show (1 : Nat) * 24 ≤ 140737488355328; decide), all1 rfl, ?_⟩
      conv => whnf
      refine' ⟨[b], [2], hlt, ?j, ⟨?t, ?h, by decide, rfl⟩⟩
      case t => repeat' (first | exact trivial | exact congrArg (fun x => LV.v (Value.int .i64 x)) (wrapS (by omega)) | rfl | ((conv => whnf); refine And.intro ?_ ?_))
      case h => repeat' (first | exact trivial | rfl | (exact fun h => h) | ((conv => whnf); refine And.intro ?_ ?_))
      case j => rw [hnext]; rfl
    | cons v r =>
      conv => whnf
      refine pickB_yes hcond ?_
      conv => whnf
      refine eltK_iff.2 ⟨_, hbe, ?_⟩
      conv => whnf
      refine ⟨(g, m, b.p.x), rfl, ⟨hg, h4, hbr⟩, ?_⟩
      conv => whnf
      refine And.intro (Nat.le_refl _) ?_
      conv => whnf
      have hpl : (orbsE g m (v :: r)).length = (v :: r).length := by simp [orbsE]
      have hil : (v :: r).length ≤ 256 := by omega
      refine ⟨rfl, hpl, ?_, all1 rfl, ?_⟩
      · show ((v :: r).length + 1) * 24 ≤ 140737488355328
        omega
      conv => whnf
      refine' ⟨(v :: r) ++ [b], [3], hlt, ?j, ⟨?t, ?h, by decide, rfl⟩⟩
      case t => repeat' (first | exact trivial | exact congrArg (fun x => LV.v (Value.int .i64 x)) (wrapS (by omega)) | rfl | (exact (len_snocA (v :: r) b).symm) | ((conv => whnf); refine And.intro ?_ ?_))
      case h => repeat' (first | exact trivial | rfl | (exact fun h => h) | (exact (orbs_snoc g m (v :: r) b).symm) | ((conv => whnf); refine And.intro ?_ ?_))
      case j => rw [hnext]
  · have hcond : decide ((i : Int) < ((eAs l).length : Int)) = false := by rw [hl]; exact ge_dec hge
    have hall : a = l := by
      rw [hJ]
      exact List.take_of_length_le hge
    clear hJ
    rw [← hall] at hk
    cases a with
    | nil =>
      conv => whnf
      refine pickB_no hcond ?_
      conv => whnf
      exact hk
    | cons v r =>
      conv => whnf
      refine pickB_no hcond ?_
      conv => whnf
      refine And.intro (by simp [orbsE]) ?_
      conv => whnf
      have e : List.take (v :: r).length (List.drop 0 (orbsE g m (v :: r))) = orbsE g m (v :: r) := by
        rw [List.drop_zero]
        exact List.take_of_length_le (by simp [orbsE])
      rw [e]
      exact hk
noncomputable def e16 : Ent := entA s16 espec_fun

def phF (h : V) (m : Int) (x : V) : Int := modF (w (w (w (h.x * x.x) + w (h.y * x.y)) + w (h.z * x.z))) m
def S17 : PSpec := espec (fun x : V × Int × V => [.agg (eV x.1), .agg (ePt ⟨x.2.1, x.2.2⟩)]) (fun x => x.2.1 ≠ 0) (fun x => I (phF x.1 x.2.1 x.2.2))
theorem s17 : SoundA PR GL 34 S17 := mkA [] 0 Tryz.func34 (by kernel_rfl) (by kernel_rfl) fun args K hk => by
  obtain ⟨⟨h, m, x⟩, rfl, hm, hk⟩ := hk
  conv => whnf
  refine nzB_iff.2 ⟨hm, ?_⟩
  conv => whnf
  refine nzB_iff.2 ⟨hm, ?_⟩
  conv => whnf
  exact hk
noncomputable def e17 : Ent := entA s17 espec_fun
end E
end Go.Proofs.YtjhognibibmeiaaGreatDoor
