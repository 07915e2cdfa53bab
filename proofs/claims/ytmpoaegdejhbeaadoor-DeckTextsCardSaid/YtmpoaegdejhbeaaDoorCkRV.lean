/-
  A region that draws its order, whose operations only read and whose callees turn nothing that was there (they may lay blocks): one walk serves every order. Plain theorems over any program; no condition.
  The walks of clock.within, Valid, ValidSpec, floor and step, for every input.
  The walk of clock.ValidSpec, for every spec.
  The walks of tidewrightref01's Within, Valid and ValidSpec, for every input.
-/
import Derived.Test.YtmpoaegdejhbeaaDoorMem
import Derived.Deep.QuietTactic
import Derived.BigQuiet
import Derived.Test.YtmpoaegdejhbeaaDoorTcP
import Derived.Test.YtmpoaegdejhbeaaDoorDkB
import Derived.Test.YtmpoaegdejhbeaaDoorProg
import Derived.Shelf.Abstract
import Derived.Shelf.RegionOpen
import Derived.WalkKit
import Derived.OwnWalkIn
import Derived.TacticsInMore
import Derived.LoopNIn
import Derived.LoopIn
import Derived.Laws.StructEq
import Derived.Handy
import Derived.Outline
import Derived.RegionTactic
namespace Go.Proofs.YtmpoaegdejhbeaaDoor

section
open Go.RowKit

/-- A world that a call which turns nothing may leave. -/
structure BW (w : World) where
  x : World
  h : Below w.heap.size w x
instance (w : World) : Inhabited (BW w) := ⟨⟨w, Below.refl _ _⟩⟩
theorem BW.cell {w : World} {a : Addr} {v : Value} (hb : a.block < w.heap.size) (h : w.cell? a = some v) (p : BW w) : p.x.cell? a = some v := (p.h.cell hb).trans h
theorem wp_region_quiet_bw {P : Program} {id : Nat} {Q : Exit → Act → World → Prop} {a : Act} {w : World} {l : List Oper} (hm : P.follows .mixedOrders = true) (hB : Region.lexB .any l.toArray = true)
    (h : wpQuiet P l.toArray (fun w' => ∃ p : BW w, w' = p.x) (fun a' => ∀ w', (∃ p : BW w, w' = p.x) → Q .normal a' w') l a) : (Code.region id l.toArray true).wp P Q a w :=
  wp_region_quiet (C := fun w' => ∃ p : BW w, w' = p.x) hm hB ⟨⟨w.drew, (Below.refl _ _).drew⟩, rfl⟩ (by simpa using h)
/-- A callee's contract, met in a world of the class. -/
theorem calls_bw {P : Program} {f : FuncId} {args : Array Value} {w : World} {p : BW w} {v : Value} (h : Calls P f args p.x (RetV p.x v)) : Calls P f args p.x fun e w'' => e = .returned v ∧ ∃ q : BW w, w'' = q.x :=
  h.mono fun _ _ ⟨he, hb⟩ => ⟨he, ⟨_, bstep p.h hb⟩, rfl⟩
theorem calls_bw_same {P : Program} {f : FuncId} {args : Array Value} {w : World} {p : BW w} {v : Value} (h : Calls P f args p.x fun e w' => e = .returned v ∧ p.x = w') : Calls P f args p.x fun e w'' => e = .returned v ∧ ∃ q : BW w, w'' = q.x :=
  h.mono fun _ _ ⟨he, hb⟩ => ⟨he, p, hb.symm⟩
end

section
open Go.RowKit Go.Shelf

def inB (n lo hi : Int) : Bool := decide (lo ≤ n ∧ n ≤ hi)
theorem inB_iff (n lo hi : Int) : inB n lo hi = true ↔ lo ≤ n ∧ n ≤ hi := by simp [inB]

theorem tdiv_facts (a b : Int) (hb : 1 ≤ b) (ha : a < 0) : (a.tmod b < 0 → a.tdiv b - 1 = a / b) ∧ (0 ≤ a.tmod b → a.tdiv b = a / b) ∧ a ≤ a.tdiv b ∧ a.tdiv b ≤ 0 ∧ a ≤ a.tmod b := by
  obtain ⟨n, rfl⟩ : ∃ n, a = -n := ⟨-a, by omega⟩
  have hn : 0 < n := by omega
  have h1 : (-n).tdiv b = -(n / b) := by rw [Int.neg_tdiv, Int.tdiv_eq_ediv_of_nonneg (by omega)]
  have h2 : (-n).tmod b = -(n % b) := by rw [Int.neg_tmod, Int.tmod_eq_emod_of_nonneg (by omega)]
  have e := Int.mul_ediv_add_emod n b
  have m0 := Int.emod_nonneg n (show b ≠ 0 by omega)
  have m1 := Int.emod_lt_of_pos n (show 0 < b by omega)
  have q0 : 0 ≤ n / b := Int.ediv_nonneg (by omega) (by omega)
  have q1 : n / b ≤ n := Int.ediv_le_self _ (by omega)
  rw [h1, h2]
  refine ⟨fun h => ?_, fun h => ?_, by omega, by omega, ?_⟩
  · have u : b - n % b + b * (-(n / b) - 1) = -n := by rw [Int.mul_sub, Int.mul_neg]; omega
    exact ((Int.ediv_emod_unique (show 0 < b by omega)).2 ⟨u, by omega, by omega⟩).1.symm
  · have u : 0 + b * (-(n / b)) = -n := by rw [Int.mul_neg]; omega
    exact ((Int.ediv_emod_unique (show 0 < b by omega)).2 ⟨u, by omega, by omega⟩).1.symm
  · have : 0 ≤ b * (n / b) := Int.mul_nonneg (by omega) q0
    omega

end

section
open Go.RowKit Go.Shelf

theorem vs1 (z p g h : Int) : vspec 1 z p g h = (inB z 1 1000000000 && (inB h 0 (z - 1) && ((p == 0) && (g == 0)))) := by
  unfold vspec inB; rw [Bool.eq_iff_iff]; simp; omega
theorem vs2 (z p g h : Int) : vspec 2 z p g h = (inB z 1 1000000000 && (inB p 1 z && (decide (z ≤ 50 * p) && (inB h 0 (p - 1) && (g == 0))))) := by
  unfold vspec inB; rw [Bool.eq_iff_iff]; simp; omega
theorem vs3 (z p g h : Int) : vspec 3 z p g h = (inB g 1 1000000000 && decide (z = 0 ∧ p = 0 ∧ h = 0)) := by
  unfold vspec inB; rw [Bool.eq_iff_iff]; simp; omega
theorem vs4 (k z p g h : Int) (h1 : (k == 1) = false) (h2 : (k == 2) = false) (h3 : (k == 3) = false) : vspec k z p g h = decide (k = 4 ∧ z = 0 ∧ p = 0 ∧ g = 0 ∧ h = 0) := by
  have a1 : k ≠ 1 := by simpa using h1
  have a2 : k ≠ 2 := by simpa using h2
  have a3 : k ≠ 3 := by simpa using h3
  unfold vspec; rw [Bool.eq_iff_iff]; simp; omega

end

section
open Go.RowKit Go.Shelf

theorem rvs1 (z p g h : Int) : vspec 1 z p g h = (decide (p = 0 ∧ g = 0) && (inB z 1 1000000000 && inB h 0 (z - 1))) := by
  unfold vspec inB; rw [Bool.eq_iff_iff]; simp; omega
theorem rvs2 (z p g h : Int) : vspec 2 z p g h = (decide (g = 0) && (inB z 1 1000000000 && (inB p 1 z && (decide (z ≤ 50 * p) && inB h 0 (p - 1))))) := by
  unfold vspec inB; rw [Bool.eq_iff_iff]; simp; omega
theorem rvs3 (z p g h : Int) : vspec 3 z p g h = (decide (z = 0 ∧ p = 0 ∧ h = 0) && inB g 1 1000000000) := by
  unfold vspec inB; rw [Bool.eq_iff_iff]; simp; omega
theorem rvs4 (z p g h : Int) : vspec 4 z p g h = decide (z = 0 ∧ p = 0 ∧ g = 0 ∧ h = 0) := by
  unfold vspec; rw [Bool.eq_iff_iff]; simp
theorem rvs5 (k z p g h : Int) (h1 : (k == 1) = false) (h2 : (k == 2) = false) (h3 : (k == 3) = false) (h4 : (k == 4) = false) : vspec k z p g h = false := by
  have a1 : k ≠ 1 := by simpa using h1
  have a2 : k ≠ 2 := by simpa using h2
  have a3 : k ≠ 3 := by simpa using h3
  have a4 : k ≠ 4 := by simpa using h4
  unfold vspec; simp; omega

end

end Go.Proofs.YtmpoaegdejhbeaaDoor
