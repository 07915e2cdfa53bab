/-
  The walk of pair.newest: the newest version that an event can see. No condition.
-/
import Derived.Test.YtoapjidpfghnlaaGreatDoorOuM
import Derived.Test.YtoapjidpfghnlaaGreatDoorCcV
import Derived.Test.YtoapjidpfghnlaaGreatDoorApl
namespace Go.Proofs.YtoapjidpfghnlaaGreatDoor
open Go.RowKit
attribute [local go_sem] Oper.semAt_some wide_fn wide_depth
set_option linter.unusedVariables false
set_option linter.unusedSimpArgs false

/-- An event, handed back. -/
def RetNw (w : World) (T : Te) (e : Ending) (w' : World) : Prop := ∃ A n c, e = .returned (.agg #[.int .i64 T.1, .slice A n c]) ∧ RowK w' 0 A n T.2 ∧ n ≤ c ∧ Below w.heap.size w w'
theorem run_make_rw (n : Nat) (hn : n ≤ 1000000) (w : World) :
    (Instr.makeSlice 34 (.int .i64 (n : Int)) (.int .i64 (n : Int))).run Tryz.prog w = .ok (.slice (some ⟨w.heap.size, 0, none⟩) n n) (w.alloc (.cells (madeCells #[.int .i64 0, .int .i64 0, .string ByteArray.empty] (n * 3)) 102)) := by
  obtain ⟨i0, hi, hz0, hz1, hz2⟩ := info_parts3 infoVal
  have hr := run_make (P := Tryz.prog) w 34 102 i0 _ Tryz.underlying34 hi hz0 .i64 .i64 n n (by omega) (Int.le_refl _) (by rw [hz2]; omega) (by omega)
  simp only [Int.toNat_natCast, hz1] at hr
  exact hr
theorem made_row (w : World) (n : Nat) (hn : n ≤ 1000000) : RowK (w.alloc (.cells (madeCells #[.int .i64 0, .int .i64 0, .string ByteArray.empty] (n * 3)) 102)) w.heap.size (some ⟨w.heap.size, 0, none⟩) n (nullR n) := by
  have kb := Blk.new w 102 (madeCells #[.int .i64 0, .int .i64 0, .string ByteArray.empty] (n * 3))
  refine ⟨⟨by rw [flat_length (enc := encV) (k := 3) encV_len, nullR_len], fun _ => ⟨w.heap.size, 0, rfl, by simp, fun j u hu => ?_⟩⟩, fun _ b off m e => ?_, by omega⟩
  · rw [Nat.zero_add, kb.cell j]
    have hj : j < n * 3 := by
      have := (List.getElem?_eq_some_iff.1 hu).1
      rwa [flat_length (enc := encV) (k := 3) encV_len, nullR_len] at this
    have hk : (nullR n)[j / 3]? = some nullV := by
      unfold nullR
      rw [List.getElem?_replicate, if_pos (by omega)]
    have hg := flat_get (enc := encV) (k := 3) encV_len (nullR n) (j / 3) (j % 3) _ hk (by omega)
    rw [show j / 3 * 3 + j % 3 = j by omega, hu] at hg
    rw [hg]
    have h3 : j % 3 = 0 ∨ j % 3 = 1 ∨ j % 3 = 2 := by omega
    rcases h3 with h | h | h <;> rw [h] <;> simp [madeCells, hj, h, encV, nullV]
  · injection e with e
    injection e with e1
    subst e1
    exact .inr ⟨_, _, kb⟩
/-- The newest so far, in memory. -/
structure BestS (lr : List Ev) (e0 : Ev) (bb fb : Nat) (z : Option Te) (W : World) : Prop where
  ow : ∃ (f : Bool) (i : Ev), Boxed W fb 4 (.bool f) ∧ Blk W bb 36 #[.int .i64 i.t, .slice i.A i.n i.c] ∧ (f = false ∧ i = e0 ∧ z = none ∨ f = true ∧ i ∈ lr ∧ z = some (i.t, i.r))
theorem BestS.others {lr : List Ev} {e0 : Ev} {bb fb C : Nat} {z : Option Te} {X Y : World} {row : Option Nat} (h : BestS lr e0 bb fb z X) (hg : X.grownBy Y row) (hr : ∀ r, row = some r → C ≤ r ∧ ∃ o : Obj, X.heap[r]? = some o ∧ o.isCells = false) : BestS lr e0 bb fb z Y := by
  obtain ⟨f, i, h1, h2, h3⟩ := h.ow
  exact ⟨f, i, blk_own h1 hg (fun r e => (hr r e).2), blk_own h2 hg (fun r e => (hr r e).2), h3⟩
def FrN (kb xb rb bb fb yb : Nat) (a : Act) : Prop := ∃ u : Nat → Value, a = { tmps := #[u 0, u 1, u 2, u 3, .pointer (some ⟨kb, 0, none⟩), u 5, .pointer (some ⟨xb, 0, none⟩), u 7, .pointer (some ⟨rb, 0, none⟩), .pointer (some ⟨bb, 0, none⟩), .pointer (some ⟨fb, 0, none⟩), u 11, u 12, .pointer (some ⟨yb, 0, none⟩), u 14, u 15, u 16, u 17, u 18, u 19, u 20, u 21, u 22, u 23, u 24, u 25, u 26, u 27, u 28, u 29, u 30, u 31, u 32, u 33, u 34, u 35, u 36, u 37, u 38, u 39, u 40, u 41, u 42, u 43, u 44, u 45, u 46, u 47, u 48, u 49, u 50, u 51, u 52, u 53, u 54, u 55, u 56], defers := [] }
def FrE (xb rb bb : Nat) (ds : List Deferred) (a : Act) : Prop := ∃ u : Nat → Value, a = { tmps := #[u 0, u 1, u 2, u 3, u 4, u 5, .pointer (some ⟨xb, 0, none⟩), u 7, .pointer (some ⟨rb, 0, none⟩), .pointer (some ⟨bb, 0, none⟩), u 10, u 11, u 12, u 13, u 14, u 15, u 16, u 17, u 18, u 19, u 20, u 21, u 22, u 23, u 24, u 25, u 26, u 27, u 28, u 29, u 30, u 31, u 32, u 33, u 34, u 35, u 36, u 37, u 38, u 39, u 40, u 41, u 42, u 43, u 44, u 45, u 46, u 47, u 48, u 49, u 50, u 51, u 52, u 53, u 54, u 55, u 56], defers := ds }
end Go.Proofs.YtoapjidpfghnlaaGreatDoor
