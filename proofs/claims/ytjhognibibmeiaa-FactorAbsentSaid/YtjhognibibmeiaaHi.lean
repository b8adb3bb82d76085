/-
  THE FUNCTIONS, ninth part: DocCheck.
-/
import Derived.Test.YtjhognibibmeiaaHh
set_option linter.unusedVariables false
set_option maxRecDepth 100000
set_option maxHeartbeats 4000000
namespace Go.Proofs.Ytjhognibibmeiaa
namespace E
open Go Go.RowKit

/-- In order from place i on, for n places? -/
def ascN (c : O → O → Int) (g : List O) : Nat → Nat → Bool
  | 0, _ => true
  | n + 1, i =>
    match g[i - 1]?, g[i]? with
    | some a, some b => bif decide (c a b ≥ 0) then false else ascN c g n (i + 1)
    | _, _ => true
def clos1 (f : O → O → Bool) (a : O) : List O → Bool
  | [] => true
  | b :: r => bif f a b then clos1 f a r else false
def clos2 (f : O → O → Bool) (g : List O) : List O → Bool
  | [] => true
  | a :: r => bif clos1 f a g then clos2 f g r else false
def inR (g : List O) (a b : O) : Bool := !decide (posO (mulR a b) g 0 < 0)
def docT (g : List O) : Int :=
  bif ascN cmpOR g (g.length - 1) 1 then (bif decide (posO oneO g 0 < 0) then 5 else bif clos2 (inR g) g g then 0 else 5) else 5
def docC (g : List O) : Int := bif decide ((g.length : Int) > 192) then 2 else bif mapsG refE g 0 != 0 then mapsG refE g 0 else docT g
def S35 : PSpec := espec (fun g : List O => [.rd (eOs g)]) (fun _ => True) (fun g => I (docC g))

theorem clos2_drop {f : O → O → Bool} {g l : List O} {i : Nat} {a : O} (h : l[i]? = some a) : clos2 f g (l.drop i) = bif clos1 f a g then clos2 f g (l.drop (i + 1)) else false := by
  have hlt := (List.getElem?_eq_some_iff.1 h).1
  rw [List.drop_eq_getElem_cons hlt, (List.getElem?_eq_some_iff.1 h).2]
  rfl
theorem clos1_drop {f : O → O → Bool} {a : O} {l : List O} {i : Nat} {b : O} (h : l[i]? = some b) : clos1 f a (l.drop i) = bif f a b then clos1 f a (l.drop (i + 1)) else false := by
  have hlt := (List.getElem?_eq_some_iff.1 h).1
  rw [List.drop_eq_getElem_cons hlt, (List.getElem?_eq_some_iff.1 h).2]
  rfl

theorem ascN_step {c : O → O → Int} {g : List O} {n j : Nat} {a b : O} (ha : g[j]? = some a) (hb : g[j + 1]? = some b) : ascN c g (n + 1) (j + 1) = bif decide (c a b ≥ 0) then false else ascN c g n (j + 2) := by
  have : j + 1 - 1 = j := rfl
  simp only [ascN, this, ha, hb]
theorem wrapP {j : Nat} (h : j + 1 < 9223372036854775808) : w (((j + 1 : Nat) : Int) - 1) = (j : Int) := by
  rw [wrap_i _ (by omega) (by omega)]
  omega

end E
end Go.Proofs.Ytjhognibibmeiaa
