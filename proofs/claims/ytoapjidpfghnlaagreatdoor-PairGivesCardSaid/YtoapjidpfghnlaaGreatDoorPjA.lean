/-
  The walks of Project on both sides.
-/
import Derived.Test.YtoapjidpfghnlaaGreatDoorGat
import Derived.Test.YtoapjidpfghnlaaGreatDoorGb
import Derived.Deep.CutRange
import Derived.Deep.CutBlock
namespace Go.Proofs.YtoapjidpfghnlaaGreatDoor
open Go.RowKit Go.Proofs
attribute [local go_sem] Oper.semAt_some
set_option linter.unusedVariables false
set_option linter.unusedSimpArgs false

/-- Whether columns are there; what Project answers. -/
def okC (n : Nat) (cols : List Int) : Bool := !cols.any (fun c => !btw c 0 ((n : Int) - 1))
def prE (r : Rw) (cols : List Int) : Int := if okR r then (if okC r.length cols then (if cols.length ≤ 8 then 0 else 4) else 7) else 1
def pick (r : Rw) (cols : List Int) : Rw := cols.filterMap fun c => r[c.toNat]?
def prL (r : Rw) (cols : List Int) : Rw := if prE r cols = 0 then pick r cols else []
theorem pick_snoc (r : Rw) (cols : List Int) (c : Int) (x : Val) (h : r[c.toNat]? = some x) : pick r (cols ++ [c]) = pick r cols ++ [x] := by
  unfold pick
  rw [List.filterMap_append]
  simp [h]
theorem infoV : (Tryz.prog.info? 102).map (fun i => (i.zero, i.size, i.bytes)) = some (some (.agg #[.int .i64 0, .int .i64 0, .string ByteArray.empty]), 3, 32) := by kernel_rfl
theorem btw_iff {n lo hi : Int} : btw n lo hi = true ↔ lo ≤ n ∧ n ≤ hi := by simp [btw]
/-- .. in a row of the call's own, and an error beside it. -/
def RetOwnE (w : World) (t : TypeId) (size n : Nat) (cells : List Value) (err : Int) (e : Ending) (w' : World) : Prop :=
  ∃ A c, e = .returned (.tuple #[.slice A n c, .int .i64 err]) ∧ w'.ownsRow w.heap.size t size (.slice A n c) n cells ∧ Below w.heap.size w w'
end Go.Proofs.YtoapjidpfghnlaaGreatDoor
