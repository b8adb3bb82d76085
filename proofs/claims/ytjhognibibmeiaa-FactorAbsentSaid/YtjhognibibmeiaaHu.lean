/-
  THE FUNCTIONS, twenty-first part: the reference's orbits, phase, checks; Same.
-/
import Derived.Test.YtjhognibibmeiaaHt
set_option linter.unusedVariables false
set_option maxRecDepth 100000
set_option maxHeartbeats 4000000
namespace Go.Proofs.Ytjhognibibmeiaa
namespace E
open Go Go.RowKit

def orbR (g : List O) (m : Int) (x : V) : List V := insAll (imgsR g m x)
def orbsR (g : List O) (m : Int) (l : List Atm) : List (List LV) := l.map fun a => [.rd (ptsE m (orbR g m a.p.x))]
theorem orbsR_snoc (g : List O) (m : Int) (l : List Atm) (a : Atm) : orbsR g m (l ++ [a]) = orbsR g m l ++ [[.rd (ptsE m (orbR g m a.p.x))]] := by simp [orbsR]
def S20 : PSpec := espec (fun x : List O × List Atm × Int => [.rd (eOs x.1), .rd (eAs x.2.1)]) (fun x => x.1.length ≤ 192 ∧ Is4 x.2.2 ∧ (∀ a ∈ x.2.1, OkA x.2.2 a) ∧ x.2.1.length ≤ 256) (fun x => .rd (orbsR x.1 x.2.2 x.2.1))
def S21 : PSpec := espec (fun x : V × Int × V => [.agg (eV x.1), .agg (ePt ⟨x.2.1, x.2.2⟩)]) (fun x => x.2.1 ≠ 0) (fun x => I (phF x.1 x.2.1 x.2.2))
def anyB (f : Atm → Bool) : List Atm → Bool
  | [] => false
  | a :: r => bif f a then true else anyB f r
theorem anyB_drop {f : Atm → Bool} {l : List Atm} {i : Nat} {a : Atm} (h : l[i]? = some a) : anyB f (l.drop i) = bif f a then true else anyB f (l.drop (i + 1)) := by
  rw [drop_get h]; rfl
def placeR (p : Pt) : Bool := bif is4n p.m then eqV p.x (modV p.x p.m) else false
def badP (a : Atm) : Bool := !placeR a.p
def neM (m : Int) (a : Atm) : Bool := a.p.m != m
def docA (l : List Atm) : Int :=
  bif anyB heavyA l then 1 else bif decide ((l.length : Int) > 256) then 2 else bif anyB badP l then 3 else bif anyB (neM (m0A l)) l then 6 else 0
def S36 : PSpec := espec (fun l : List Atm => [.rd (eAs l)]) (fun l => l.length ≤ 4611686018427387904) (fun l => I (docA l))
def mixE (e f : Int) : Int := bif e == 0 then f else bif f != 0 then (bif decide (f < e) then f else e) else e
def chkR (g : List O) (l : List Atm) (h : V) : Int := bif bad3 h 512 then 1 else mixE (docC g) (docA l)
def S19 : PSpec := espec (fun x : List O × List Atm × V => [.rd (eOs x.1), .rd (eAs x.2.1), .rd [eV x.2.2]]) (fun x => x.2.1.length ≤ 4611686018427387904) (fun x => I (chkR x.1 x.2.1 x.2.2))
def eqL2 : List Int → List Int → Bool
  | a :: r, b :: s => bif a != b then false else eqL2 r s
  | _, _ => true
def sameR (a b : Int × List Int) : Bool := bif a.1 != b.1 then false else bif (a.2.length : Int) != (b.2.length : Int) then false else eqL2 a.2 b.2
def S7 : PSpec := espec (fun x : (Int × List Int) × (Int × List Int) => [.agg [I x.1.1, .rd (eNs x.1.2)], .agg [I x.2.1, .rd (eNs x.2.2)]]) (fun x => x.1.2.length ≤ 4611686018427387904) (fun x => Bo (sameR x.1 x.2))
theorem s7 : SoundA PR GL 12 S7 := mkA [] 0 Try.func12 (by kernel_rfl) (by kernel_rfl) fun args K hk => by
  obtain ⟨⟨⟨m, c⟩, n, d⟩, rfl, hlen, hk⟩ := hk
  replace hlen : c.length ≤ 4611686018427387904 := hlen
  replace hk : K (Bo (sameR (m, c) (n, d))) := hk
  have hcl : (eNs c).length = c.length := eNs_len
  have hdl : (eNs d).length = d.length := eNs_len
  conv => whnf
  refine pickB_of (fun h => ?_) (fun h => ?_)
  · have h' : (m != n) = true := h
    rw [sameR, h', cond_true] at hk
    conv => whnf
    exact hk
  · have h' : (m != n) = false := h
    simp only [sameR, h', cond_false] at hk
    clear h h'
    conv => whnf
    refine pickB_of (fun h => ?_) (fun h => ?_)
    · have h' : ((c.length : Int) != (d.length : Int)) = true := by rw [← hcl, ← hdl]; exact h
      rw [h', cond_true] at hk
      conv => whnf
      exact hk
    · have h' : ((c.length : Int) != (d.length : Int)) = false := by rw [← hcl, ← hdl]; exact h
      rw [h', cond_false] at hk
      have hcd : c.length = d.length := by
        have h2 : ((c.length : Int) == (d.length : Int)) = true := by rw [bne, Bool.not_eq_false'] at h'; exact h'
        have h3 := eq_of_beq h2
        omega
      clear h h'
      conv => whnf
      refine LoopP.weaken (s2 := ⟨[.unk, .unk, .ptr 0 0 0, .ptr 1 0 0, .unk, .unk, .unk, .unk, .unk, .unk, .unk, .unk, .unk, .unk, .unk, .unk, .unk, .unk, .unk, .unk, .unk, .unk, I ((eNs c).length : Int), I (0 : Nat), .unk, .unk, .unk, .unk, .unk, .unk, .unk, .unk, .unk, .unk, .unk, .unk, .unk, .unk], [.box [I m, .rd (eNs c)], .box [I n, .rd (eNs d)]]⟩) [0, 1] ⟨?_, ?_, by decide, rfl⟩ ?_
      · repeat' (first | exact trivial | rfl | ((conv => whnf); refine And.intro ?_ ?_))
      · repeat' (first | exact trivial | rfl | ((conv => whnf); refine And.intro ?_ ?_))
      refine loopInd 0 (by kernel_rfl) c.length (fun i (_ : Unit) => ⟨[.unk, .unk, .ptr 0 0 0, .ptr 1 0 0, .unk, .unk, .unk, .unk, .unk, .unk, .unk, .unk, .unk, .unk, .unk, .unk, .unk, .unk, .unk, .unk, .unk, .unk, I ((eNs c).length : Int), I (i : Nat), .unk, .unk, .unk, .unk, .unk, .unk, .unk, .unk, .unk, .unk, .unk, .unk, .unk, .unk], [.box [I m, .rd (eNs c)], .box [I n, .rd (eNs d)]]⟩) (fun i _ => eqL2 (c.drop i) (d.drop i) = eqL2 c d) ?_ 0 () (Nat.zero_le _) rfl
      rintro i - hi hJ
      rcases Nat.lt_or_ge i c.length with hlt | hge
      · obtain ⟨a, ha⟩ : ∃ o, c[i]? = some o := ⟨_, List.getElem?_eq_getElem hlt⟩
        obtain ⟨b, hb⟩ : ∃ o, d[i]? = some o := ⟨_, List.getElem?_eq_getElem (by omega)⟩
        rw [drop_get ha, drop_get hb, eqL2] at hJ
        have hcond : decide ((i : Int) < ((eNs c).length : Int)) = true := by rw [hcl]; exact lt_dec hlt
        conv => whnf
        refine pickB_yes hcond ?_
        conv => whnf
        refine eltK_iff.2 ⟨_, get_map ha, ?_⟩
        conv => whnf
        refine eltK_iff.2 ⟨_, get_map hb, ?_⟩
        conv => whnf
        refine pickB_of (fun h => ?_) (fun h => ?_)
        · have h' : (a != b) = true := h
          rw [h', cond_true] at hJ
          rw [← hJ] at hk
          conv => whnf
          exact hk
        · have h' : (a != b) = false := h
          rw [h', cond_false] at hJ
          conv => whnf
          refine' ⟨(), [0, 1], hlt, hJ, ⟨?t, ?h, by decide, rfl⟩⟩
          case t => repeat' (first | exact trivial | exact congrArg (fun x => LV.v (Value.int .i64 x)) (wrapS (by omega)) | rfl | ((conv => whnf); refine And.intro ?_ ?_))
          case h => repeat' (first | exact trivial | rfl | (exact fun h => h) | ((conv => whnf); refine And.intro ?_ ?_))
      · have hcond : decide ((i : Int) < ((eNs c).length : Int)) = false := by rw [hcl]; exact ge_dec hge
        rw [List.drop_eq_nil_of_le hge, show List.drop i d = [] from List.drop_eq_nil_of_le (by omega)] at hJ
        replace hJ : true = eqL2 c d := hJ
        rw [← hJ] at hk
        conv => whnf
        refine pickB_no hcond ?_
        conv => whnf
        exact hk
noncomputable def e7 : Ent := entA s7 espec_fun
end E
end Go.Proofs.Ytjhognibibmeiaa
