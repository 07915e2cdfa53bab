/-
  Plain laws of Distinct, Meet, Join and Within.
-/
import Derived.Test.YtoapjidpfghnlaaGreatDoorNetM
import Derived.Test.YtoapjidpfghnlaaGreatDoorBgT5
namespace Go.Proofs.YtoapjidpfghnlaaGreatDoor
open Go.RowKit
set_option linter.unusedVariables false

/-- All different rows of two bags. -/
def rws (a b : Bg) : List Rw := a.map (·.1) ++ (b.filter fun y => decide (look a y.1 = 0)).map (·.1)
/-- What the reference puts together. -/
def eithX (f : Int → Int → Int) (a b : Bg) : Bg := (rws a b).map fun r => (r, f (look a r) (look b r))
/-- What Within tells. -/
def leB (a b : Bg) : Bool := okBag a && okBag b && (rws a b).all fun r => decide (look a r ≤ look b r)
/-- What Distinct tells. -/
def distB (d : Bg) : Bg := (d.filter fun x => decide (0 < x.2)).map fun x => (x.1, 1)
def distG (x : Rw × Int) : Rw × Int := if 0 < x.2 then (x.1, 1) else ([], 0)
end Go.Proofs.YtoapjidpfghnlaaGreatDoor
