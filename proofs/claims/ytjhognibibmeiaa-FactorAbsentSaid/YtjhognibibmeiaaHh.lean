/-
  THE FUNCTIONS, eighth part: the reference's group check.
-/
import Derived.Test.YtjhognibibmeiaaHg
set_option linter.unusedVariables false
set_option maxRecDepth 100000
set_option maxHeartbeats 4000000
namespace Go.Proofs.Ytjhognibibmeiaa
namespace E
open Go Go.RowKit

def refE (o : O) : Int := bif !(eqV o.t (bring2 o.t 24)) then 3 else bif out9 o.r then 4 else bif detR o.r != 1 then (bif detR o.r != -1 then 3 else 0) else 0
def S58 : PSpec := espec (fun g : List O => [.rd (eOs g)]) (fun g => g.length ≤ 4611686018427387904) (fun g => I (mapsG refE g 0))
def eqO (a b : O) : Bool := (a.r.a.x == b.r.a.x && (a.r.a.y == b.r.a.y && (a.r.a.z == b.r.a.z && (a.r.b.x == b.r.b.x && (a.r.b.y == b.r.b.y && (a.r.b.z == b.r.b.z && (a.r.c.x == b.r.c.x && (a.r.c.y == b.r.c.y && (a.r.c.z == b.r.c.z && (a.t.x == b.t.x && (a.t.y == b.t.y && (a.t.z == b.t.z && true))))))))))))
def posO (o : O) : List O → Nat → Int
  | [], _ => -1
  | x :: r, k => bif eqO x o then (k : Int) else posO o r (k + 1)
theorem posO_drop {o : O} {g : List O} {i : Nat} {x : O} (h : g[i]? = some x) (k : Nat) : posO o (g.drop i) k = bif eqO x o then (k : Int) else posO o (g.drop (i + 1)) (k + 1) := by
  have hlt := (List.getElem?_eq_some_iff.1 h).1
  rw [List.drop_eq_getElem_cons hlt]
  have : g[i] = x := (List.getElem?_eq_some_iff.1 h).2
  rw [this]
  rfl
def S60 : PSpec := espec (fun x : List O × O => [.rd (eOs x.1), .agg (eO x.2)]) (fun x => x.1.length ≤ 4611686018427387904) (fun x => I (posO x.2 x.1 0))
end E
end Go.Proofs.Ytjhognibibmeiaa
