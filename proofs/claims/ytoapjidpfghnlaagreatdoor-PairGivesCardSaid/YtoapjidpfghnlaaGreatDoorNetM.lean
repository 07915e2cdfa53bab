/-
  The walk of bag.Times, for every bag and number.
  Plain bounds for the walk of the reference's Plus.
  The walk of the reference's Plus, for every two valid bags and a number in range. (Printed by gen_bgs8.)
  The walks of the reference's After and Apply. (Printed by gen_aft.)
  Plain laws of the changes between two bags.
  Plain laws of Netted: the last time of each row, and what netted changes make of a bag.
-/
import Derived.Test.YtoapjidpfghnlaaGreatDoorBgL
import Derived.Test.YtoapjidpfghnlaaGreatDoorApl
import Derived.Test.YtoapjidpfghnlaaGreatDoorBgS5
namespace Go.Proofs.YtoapjidpfghnlaaGreatDoor

section
open Go.RowKit
attribute [local go_sem] Oper.semAt_some

/-- What Times tells. -/
def timesB (b : Bg) (n : Int) : Bg × Int := if okBag b then (if btw n (-1000000) 1000000 then comb (fun m _ => m * n) b [] else ([], 7)) else ([], 1)
end

section
open Go.RowKit

/-- A bag that ascends, whose numbers are a bag's, and that is not too long. -/
def BigB (d : Bg) : Prop := Asc d ∧ (∀ x ∈ d, numB x.2 = true) ∧ d.length ≤ 1000
end

section
open Go.RowKit
attribute [local go_sem] Oper.semAt_some

end

section
open Go.RowKit
attribute [local go_sem] Oper.semAt_some

end

section
open Go.RowKit

/-- What Changes tells. -/
def diffB (a b : Bg) (T : Int) : Bg × Int := if okBag a && okBag b then (if btw T (-1000000000000) 1000000000000 then toldB (both (fun m k => k - m) (prs a b)) else ([], 7)) else ([], 1)
end

section
open Go.RowKit

/-- The greatest time at which a row with this text changes. -/
def lstS (t : List UInt8) (o : Option Int) (i : Ch) : Option Int := if rowT i.r = t then (match o with
  | none => some i.t
  | some s => if s < i.t then some i.t else some s) else o
def lst (l : List Ch) (t : List UInt8) : Option Int := l.foldl (lstS t) none
/-- The time that Netted tells of a row. -/
def tim (l : List Ch) (r : Rw) : Int := (lst l (rowT r)).getD 0
/-- What Netted tells. -/
def netB (l : List Ch) : List (Rw × Int × Int) × Int := if okChs l then (if okBag (aftB [] (chD l)) then ((aftB [] (chD l)).map fun x => (x.1, tim l x.1, x.2), 0) else ([], 4)) else ([], 1)
end

end Go.Proofs.YtoapjidpfghnlaaGreatDoor
