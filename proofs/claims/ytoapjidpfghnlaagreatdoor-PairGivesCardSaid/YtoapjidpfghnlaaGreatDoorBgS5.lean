/-
  The walk of the reference's Put, for every bag, row and number in range. (Printed by gen_bgs5.)
-/
import Derived.Test.YtoapjidpfghnlaaGreatDoorApl
import Derived.Test.YtoapjidpfghnlaaGreatDoorRngH
import Derived.Test.YtoapjidpfghnlaaGreatDoorBgS1
namespace Go.Proofs.YtoapjidpfghnlaaGreatDoor
open Go.RowKit
attribute [local go_sem] Oper.semAt_some

/-- What is written so far: a list in blocks of the call's own. -/
structure PutI (w : World) (d : Bg) (v : Value) (W : World) : Prop where
  bel : Below w.heap.size w W
  ow : ∃ l : List It, W.ownsRow w.heap.size 119 2 v l.length (l.flatMap encIt) ∧ dat l = d ∧ Rows_ W w.heap.size l
  fin : True
/-- A bag, handed back. -/
def RetB (w : World) (d : Bg) (e : Ending) (w' : World) : Prop := ∃ A n c l, e = .returned (.slice A n c) ∧ dat l = d ∧ BagR w' w'.heap.size A n l ∧ n ≤ c ∧ Below w.heap.size w w'
end Go.Proofs.YtoapjidpfghnlaaGreatDoor
