/-
  The walks of Project on both sides.
-/
import Derived.Test.YtoapjidpfghnlaaGreatDoorGat
import Derived.Test.YtoapjidpfghnlaaGreatDoorGb
import Derived.Deep.CutRange
import Derived.Deep.CutBlock
namespace Go.Proofs.YtoapjidpfghnlaaGreatDoor
open Go.RowKit Go.Proofs
attribute [local go_sem] Oper.semAt_some
set_option linter.unusedVariables false
set_option linter.unusedSimpArgs false

/-- Whether columns are there; what Project answers. -/
def okC (n : Nat) (cols : List Int) : Bool := !cols.any (fun c => !btw c 0 ((n : Int) - 1))
def prE (r : Rw) (cols : List Int) : Int := if okR r then (if okC r.length cols then (if cols.length ≤ 8 then 0 else 4) else 7) else 1
def pick (r : Rw) (cols : List Int) : Rw := cols.filterMap fun c => r[c.toNat]?
def prL (r : Rw) (cols : List Int) : Rw := if prE r cols = 0 then pick r cols else []
theorem pick_snoc (r : Rw) (cols : List Int) (c : Int) (x : Val) (h : r[c.toNat]? = some x) : pick r (cols ++ [c]) = pick r cols ++ [x] := by
  unfold pick
  rw [List.filterMap_append]
  simp [h]
theorem infoV : (Tryz.prog.info? 102).map (fun i => (i.zero, i.size, i.bytes)) = some (some (.agg #[.int .i64 0, .int .i64 0, .string ByteArray.empty]), 3, 32) := by kernel_rfl
theorem one_encV {x : Val} : ∀ u ∈ encV x, u.oneCell' = true := by
  intro u hu
  unfold encV at hu
  simp only [List.mem_cons, List.not_mem_nil, or_false] at hu
  rcases hu with rfl | rfl | rfl <;> rfl
theorem rd_blk (X : World) (cs : List Value) (t : TypeId) : Reads (X.alloc (.cells cs.toArray t)) (X.heap.size + 1) cs.length (some ⟨X.heap.size, 0, none⟩) 1 cs :=
  ⟨by simp, fun _ => ⟨X.heap.size, 0, rfl, by omega, fun j u hu => by rw [Nat.zero_add]; exact ((Blk.new X t cs.toArray).cell j).trans (by simpa using hu)⟩⟩
theorem btw_iff {n lo hi : Int} : btw n lo hi = true ↔ lo ≤ n ∧ n ≤ hi := by simp [btw]
theorem okC_at {n : Nat} {xs : List Int} (h : okC n xs = true) {k : Nat} {x : Int} (hx : xs[k]? = some x) : 0 ≤ x ∧ x ≤ (n : Int) - 1 := by
  unfold okC at h
  rw [Bool.not_eq_true'] at h
  have h1 := List.any_eq_false.1 h x (List.mem_of_getElem? hx)
  exact btw_iff.1 (by simpa using h1)
/-- .. in a row of the call's own, and an error beside it. -/
def RetOwnE (w : World) (t : TypeId) (size n : Nat) (cells : List Value) (err : Int) (e : Ending) (w' : World) : Prop :=
  ∃ A c, e = .returned (.tuple #[.slice A n c, .int .i64 err]) ∧ w'.ownsRow w.heap.size t size (.slice A n c) n cells ∧ Below w.heap.size w w'
end Go.Proofs.YtoapjidpfghnlaaGreatDoor
