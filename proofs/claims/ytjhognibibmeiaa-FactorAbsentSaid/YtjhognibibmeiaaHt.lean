/-
  THE FUNCTIONS, twentieth part: the reference's places.
-/
import Derived.Test.YtjhognibibmeiaaHs
set_option linter.unusedVariables false
set_option maxRecDepth 100000
set_option maxHeartbeats 4000000
namespace Go.Proofs.Ytjhognibibmeiaa
namespace E
open Go Go.RowKit

def dotT (t m : Int) (a v : V) : Int := dotR (w (t * w (m.tdiv 24))) a.x a.y a.z v.x v.y v.z
def imgR (o : O) (m : Int) (x : V) : V := bring2 ⟨dotT o.t.x m o.r.a x, dotT o.t.y m o.r.b x, dotT o.t.z m o.r.c x⟩ m
def S65 : PSpec := espec (fun x : O × Int × V => [.agg (eO x.1), .agg (ePt ⟨x.2.1, x.2.2⟩)]) (fun x => x.2.1 ≠ 0) (fun x => .agg (ePt ⟨x.2.1, imgR x.1 x.2.1 x.2.2⟩))
def insV (q : V) : List V → List V
  | [] => [q]
  | b :: r => bif decide (cmpV b q 0 < 0) then b :: insV q r else bif sameV b q then b :: r else q :: b :: r
def insAll (qs : List V) : List V := qs.foldl (fun l q => insV q l) []
def imgsR (g : List O) (m : Int) (x : V) : List V := g.map fun o => imgR o m x
theorem insV_drop {q : V} {l : List V} {i : Nat} {b : V} (h : l[i]? = some b) (hlt : cmpV b q 0 < 0) : insV q (l.drop i) = b :: insV q (l.drop (i + 1)) := by
  rw [drop_get h, insV]
  have : decide (cmpV b q 0 < 0) = true := by simpa using hlt
  rw [this]; rfl
theorem insV_len {q : V} : ∀ {l : List V}, (insV q l).length ≤ l.length + 1
  | [] => Nat.le_refl _
  | b :: r => by
    unfold insV
    have := insV_len (q := q) (l := r)
    cases decide (cmpV b q 0 < 0) <;> cases sameV b q <;> simp <;> omega
theorem all0 {n : Nat} : ∀ e ∈ ([] : List (List LV)), e.length = n := fun e he => by cases he
theorem segAll {m : Int} {L : List V} {a b : Nat} : ∀ e ∈ List.take a (List.drop b (ptsE m L)), e.length = 4 := by
  intro e he
  have h1 := List.mem_of_mem_drop (List.mem_of_mem_take he)
  simp only [ptsE, List.mem_map] at h1
  obtain ⟨v, _, rfl⟩ := h1
  rfl
theorem seg_len {m : Int} {L : List V} {a b : Nat} : (List.take a (List.drop b (ptsE m L))).length ≤ L.length := by
  simp [ptsE]; omega
theorem take_big {l : List (List LV)} {a : Nat} (h : l.length ≤ a) : List.take a l = l := List.take_of_length_le h
theorem pts_len {m : Int} {l : List V} : (ptsE m l).length = l.length := by simp [ptsE]

def S38 : PSpec := espec (fun x : List O × Int × V => [.rd (eOs x.1), .agg (ePt ⟨x.2.1, x.2.2⟩)]) (fun x => x.2.1 ≠ 0 ∧ x.1.length ≤ 192) (fun x => .rd (ptsE x.2.1 (insAll (imgsR x.1 x.2.1 x.2.2))))
end E
end Go.Proofs.Ytjhognibibmeiaa
