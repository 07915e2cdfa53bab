/-
  The walks of SameKey on both sides, and of SameEvents at events that are equal. No condition.
-/
import Derived.Test.YtoapjidpfghnlaaGreatDoorPrR5
namespace Go.Proofs.YtoapjidpfghnlaaGreatDoor
open Go.RowKit
attribute [local go_sem] Oper.semAt_some wide_fn wide_depth
set_option linter.unusedVariables false
set_option linter.unusedSimpArgs false

/-- What SameKey answers. -/
def sameK (on others : List Int) (l r : Rw) : Bool := okR l && (okR r && (fitK on others && (hasC l on && (hasC r others && eqK on others l r))))
end Go.Proofs.YtoapjidpfghnlaaGreatDoor
