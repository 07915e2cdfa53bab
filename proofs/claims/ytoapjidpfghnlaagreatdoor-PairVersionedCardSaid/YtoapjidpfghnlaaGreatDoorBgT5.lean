/-
  The walks of Total on both sides, for every bag.
-/
import Derived.Test.YtoapjidpfghnlaaGreatDoorBgT0
import Derived.Test.YtoapjidpfghnlaaGreatDoorApl
namespace Go.Proofs.YtoapjidpfghnlaaGreatDoor
open Go.RowKit
attribute [local go_sem] Oper.semAt_some

/-- What Total tells. -/
def totB (d : Bg) : Int := if okBag d then tot d else 0
end Go.Proofs.YtoapjidpfghnlaaGreatDoor
