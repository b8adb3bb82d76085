/-
  ABSENT INDICES, fifth part: the law.
-/
import Derived.Test.YtjhognibibmeiaaAd
import Derived.Test.YtjhognibibmeiaaRa
set_option linter.unusedVariables false
set_option maxRecDepth 100000
set_option maxHeartbeats 4000000
namespace Go.Proofs.Ytjhognibibmeiaa
namespace E
open Go Go.RowKit

theorem absE_err {g : List O} {h : V} (l : List Atm) (he : absE g h ≠ 0) : errX g l h ≠ 0 := fun hx => by
  obtain ⟨hg, _, hi⟩ := least3_zero hx
  apply he
  unfold absE
  unfold idxV at hi
  cases hb : bad3 h 512 with
  | true => rw [hb] at hi; cases hi
  | false => exact hg
structure LawA (is : Bool) (e : Int) (x : (Int × List Int) × Int) : Prop where
  bad : e ≠ 0 ∨ x.2 ≠ 0 → (x.2 != 0) = true ∧ x.1.1 = 0 ∧ x.1.2 = []
  good : e = 0 → x.2 = 0 → is = true → allZ x.1.2 = true
theorem exAns_bad {g : List O} {l : List Atm} {h : V} (he : errX g l h ≠ 0) : exAns g l h = ((0, []), errX g l h) := by
  unfold exAns
  have : (errX g l h != 0) = true := by simpa using he
  rw [this, cond_true]
theorem exAns_good {g : List O} {l : List Atm} {h : V} (he : errX g l h = 0) : exAns g l h = ((m0A l, exC g (m0A l) h l), 0) := by
  unfold exAns
  rw [he]
  rfl
theorem law_a (g : List O) (l : List Atm) (h : V) : LawA (isA g h).1 (isA g h).2 (exAns g l h) := by
  by_cases hx : errX g l h = 0
  · have h1 : absE g h = 0 := Classical.byContradiction fun hn => absE_err l hn hx
    have h2 : isA g h = ((findO h g).2.2, 0) := by unfold isA; rw [h1]; rfl
    rw [exAns_good hx, h2]
    exact ⟨fun hb => by rcases hb with hb | hb <;> exact absurd rfl hb, fun _ _ hf => absent_zero hx hf⟩
  · rw [exAns_bad hx]
    exact ⟨fun _ => ⟨by simpa using hx, rfl, rfl⟩, fun _ h0 => absurd h0 hx⟩
def S3a : PSpec := espec (fun x : List O × List Atm × V => [.rd (eOs x.1), .rd (eAs x.2.1), .agg (eV x.2.2)]) (fun x => x.2.1.length ≤ 4611686018427387904) (fun _ => Bo true)
theorem s3a : SoundA PR GL 3 S3a := mkA [e4, e5i, e5c, e7n] 0 Try.func3 (by kernel_rfl) (by kernel_rfl) fun args K hk => by
  obtain ⟨⟨g, l, h⟩, rfl, hlen, hk⟩ := hk
  replace hlen : l.length ≤ 4611686018427387904 := hlen
  replace hk : K (Bo true) := hk
  have hL := law_a g l h
  have hn := exAns_len g l h
  conv => whnf
  refine ⟨(g, h), rfl, trivial, ?_⟩
  conv => whnf
  refine ⟨(g, l, h), rfl, hlen, ?_⟩
  conv => whnf
  replace hL : LawA (isA (g, h).1 (g, h).2).1 (isA (g, h).1 (g, h).2).2 (exAns (g, l, h).1 (g, l, h).2.1 (g, l, h).2.2) := hL
  replace hn : (exAns (g, l, h).1 (g, l, h).2.1 (g, l, h).2.2).1.2.length ≤ 4611686018427387904 := hn
  generalize isA (g, h).1 (g, h).2 = A at hL
  generalize exAns (g, l, h).1 (g, l, h).2.1 (g, l, h).2.2 = B at hL hn
  obtain ⟨is, e⟩ := A
  obtain ⟨⟨m, c⟩, f⟩ := B
  obtain ⟨hb, hg⟩ := hL
  replace hb : e ≠ 0 ∨ f ≠ 0 → (f != 0) = true ∧ m = 0 ∧ c = [] := hb
  replace hg : e = 0 → f = 0 → is = true → allZ c = true := hg
  replace hn : c.length ≤ 4611686018427387904 := hn
  have bad : e ≠ 0 ∨ f ≠ 0 → (f != 0) = true ∧ m = 0 ∧ c = [] := hb
  clear hb
  refine pickB_of (fun he => ?_) (fun he => ?_)
  · have he' : e ≠ 0 := by have : (e != 0) = true := he; simpa using this
    obtain ⟨hf, rfl, rfl⟩ := bad (.inl he')
    conv => whnf
    refine pickB_yes hf ?_
    conv => whnf
    exact hk
  · have he' : e = 0 := by have : (e != 0) = false := he; simpa using this
    conv => whnf
    refine pickB_of (fun hf => ?_) (fun hf => ?_)
    · have hf' : f ≠ 0 := by have : (f != 0) = true := hf; simpa using this
      obtain ⟨hf2, rfl, rfl⟩ := bad (.inr hf')
      conv => whnf
      refine pickB_yes hf2 ?_
      conv => whnf
      exact hk
    · have hf' : f = 0 := by have : (f != 0) = false := hf; simpa using this
      cases is with
      | false =>
        conv => whnf
        exact hk
      | true =>
        have hz := hg he' hf' rfl
        conv => whnf
        refine ⟨(m, c), rfl, hn, ?_⟩
        conv => whnf
        rw [hz]
        exact hk
end E
end Go.Proofs.Ytjhognibibmeiaa
