/-
  The walks of share.right and of share.belonging with its closure, each for every input.
-/
import Derived.Test.YthngjbhamgmcgaaDoorBar
import Derived.Test.YthngjbhamgmcgaaDoorProg
import Derived.RangeFuncNested
import Derived.RangeFuncBound
import Derived.RangeFuncCalls
import Derived.RangeFuncLeaves
import Derived.Shelf.Abstract
import Derived.Shelf.RegionOpen
import Derived.WalkKit
import Derived.OwnWalkIn
import Derived.TacticsInMore
import Derived.LoopNIn
import Derived.LoopIn
import Derived.Outline
namespace Go.Proofs.YthngjbhamgmcgaaDoor
open Go.RowKit Go.Shelf
attribute [local go_sem] Oper.semAt_some

def rightB (p g : Int) : Bool := decide (1 ≤ p ∧ p ≤ 16 ∧ 1 ≤ g ∧ g ≤ 128)

theorem right_any (p g : Int) (w : World) : Calls Tryd.prog 20 #[.int .i64 p, .int .i64 g] w fun e w' => e = .returned (.bool (rightB p g)) ∧ w = w' := by
  by_cases h1 : 1 ≤ p
  · by_cases h2 : p ≤ 16
    · by_cases h3 : 1 ≤ g
      · go_enter Tryd.func20, Tryd.ntmps20
        go_wp2
        go_ret
        exact ⟨ret_bool (by simp [rightB, *] <;> omega), rfl⟩
      · go_enter Tryd.func20, Tryd.ntmps20
        go_wp2
        go_ret
        exact ⟨ret_bool (by simp [rightB, *] <;> omega), rfl⟩
    · go_enter Tryd.func20, Tryd.ntmps20
      go_wp2
      go_ret
      exact ⟨ret_bool (by simp [rightB, *] <;> omega), rfl⟩
  · go_enter Tryd.func20, Tryd.ntmps20
    go_wp2
    go_ret
    exact ⟨ret_bool (by simp [rightB, *] <;> omega), rfl⟩

theorem right_yes_in (F : Fence) (n : Nat) (hf : F.fn 20) (hro : F.round = none) (p g : Int) (h1 : 1 ≤ p) (h2 : p ≤ 16) (h3 : 1 ≤ g) (h4 : g ≤ 128) (w : World) :
    CallsIn F n Tryd.prog 20 #[.int .i64 p, .int .i64 g] w fun e w' => e = .returned (.bool true) ∧ w = w' := by
  refine callsIn_of_wp Tryd.func20 rfl hf ?_ hro
  simp only [Tryd.ntmps20, List.size_toArray, List.length_cons, List.length_nil, Nat.reduceAdd, Nat.reduceSub, Array.replicate_succ, Array.replicate_zero, List.push_toArray, List.append_toArray, List.nil_append, List.cons_append]
  gi_wp2
  go_ret
  exact ⟨by simp [*], rfl⟩

/-- The groups. -/
def belong (g : Nat) : List (Fin g) := List.finRange g
def encB (p g : Nat) (x : Fin g) : Array Value := #[.int .i64 (x.1 : Int), .int .i64 ((x.1 : Int) * p / g)]
theorem belong_length (g : Nat) : (belong g).length = g := by simp [belong]
theorem belong_snoc (g k : Nat) (h : k < g) : (belong g).take (k + 1) = (belong g).take k ++ [⟨k, h⟩] := by
  rw [List.take_succ_eq_append_getElem (by rw [belong_length]; exact h)]
  simp [belong]
theorem belong_val (g : Nat) : (belong g).map (·.1) = List.range g := by
  apply List.ext_getElem <;> simp [belong]

theorem belonging_in (F : Fence) (n : Nat) (hf : F.fn 28) (hro : F.round = none) (p g : Int) (w : World) :
    CallsIn F n Tryd.prog 28 #[.int .i64 p, .int .i64 g] w fun e w' =>
      e = .returned (.func (.func 46) #[] #[.pointer (some ⟨w.heap.size + 1, 0, none⟩), .pointer (some ⟨w.heap.size, 0, none⟩)]) ∧ w' = (w.alloc (.cells #[.int .i64 p] 3)).alloc (.cells #[.int .i64 g] 3) := by
  refine callsIn_of_wp Tryd.func28 rfl hf ?_ hro
  simp only [Tryd.ntmps28, List.size_toArray, List.length_cons, List.length_nil, Nat.reduceAdd, Nat.reduceSub, Array.replicate_succ, Array.replicate_zero, List.push_toArray, List.append_toArray, List.nil_append, List.cons_append]
  gi_wp2
  go_ret
  exact ⟨rfl, rfl⟩

theorem div_part (i p g : Nat) (hi : i < g) (hg : g ≤ 128) (hp : p ≤ 16) : i * p / g ≤ 16 ∧ i * p ≤ 2048 := by
  have h1 : i * p ≤ 128 * 16 := Nat.mul_le_mul (by omega) hp
  have h2 : i * p ≤ g * 16 := Nat.mul_le_mul (by omega) hp
  refine ⟨?_, by omega⟩
  exact Nat.le_of_lt_succ (Nat.lt_succ_of_le (Nat.div_le_of_le_mul h2))

set_option maxHeartbeats 1000000 in
theorem belonging1_in (F : Fence) (n : Nat) (hf : F.fn 46) (hro : F.round = none) (hn : 1 ≤ n) (l n₀ : Nat) (X : List Nat) (Bg Bp : Nat) (p g : Nat) (hg : g ≤ 128) (hp : p ≤ 16) (hBg : Bg < n₀) (hBp : Bp < n₀) (hXg : Bg ∉ X) (hXp : Bp ∉ X)
    (J Jx : List (Fin g) → World → Prop)
    (hY : ∀ pre x W, J pre W → pre.length < g → YieldAt F (n - 1) Tryd.prog l (encB p g x) W fun e W' =>
      (e = .returned (.bool true) ∧ J (pre ++ [x]) W' ∧ Bar n₀ X W W') ∨ (e = .returned (.bool false) ∧ Jx (pre ++ [x]) W'))
    (W : World) (hcg : W.cell? ⟨Bg, 0, none⟩ = some (.int .i64 (g : Int))) (hcp : W.cell? ⟨Bp, 0, none⟩ = some (.int .i64 (p : Int))) (h0 : J [] W) :
    CallsIn F n Tryd.prog 46 #[.func (.yield l) #[] #[], .pointer (some ⟨Bg, 0, none⟩), .pointer (some ⟨Bp, 0, none⟩)] W fun e W' => (∃ v, e = .returned v) ∧
      ((∃ ys, ys = belong g ∧ J ys W') ∨ (∃ pre, pre <+: belong g ∧ Jx pre W')) := by
  refine callsIn_of_wp Tryd.func46 rfl hf ?_ hro
  simp only [Tryd.ntmps46, List.size_toArray, List.length_cons, List.length_nil, Nat.reduceAdd, Nat.reduceSub, Array.replicate_succ, Array.replicate_zero, List.push_toArray, List.append_toArray, List.nil_append, List.cons_append]
  gi_wp2
  gi_loopw [6] (fun i wr => ∃ k : Nat, k ≤ g ∧ i = .int .i64 k ∧ J ((belong g).take k) wr ∧ Bar n₀ X W wr)
    (fun i _ => g - (intOf i).toNat)
  case atStart => exact ⟨0, Nat.zero_le _, rfl, h0, Bar.refl _ _ _⟩
  case round =>
    obtain ⟨k, hk, rfl, hJs, hnx⟩ := hrel
    have hcg' : wr.cell? ⟨Bg, 0, none⟩ = some (.int .i64 (g : Int)) := (hnx.cell (p := ⟨Bg, 0, none⟩) hBg hXg).trans hcg
    have hcp' : wr.cell? ⟨Bp, 0, none⟩ = some (.int .i64 (p : Int)) := (hnx.cell (p := ⟨Bp, 0, none⟩) hBp hXp).trans hcp
    by_cases hlt : k < g
    · obtain ⟨hd1, hd2⟩ := div_part k p g hlt hg hp
      have hd3 : (k : Int) * p ≤ 2048 := by rw [← Int.natCast_mul]; omega
      have hd4 : 0 ≤ (k : Int) * p := by rw [← Int.natCast_mul]; omega
      have hlen : ((belong g).take k).length < g := by rw [List.length_take, belong_length]; omega
      obtain ⟨fn, tmps, assign, body, hy, hR⟩ := hY _ ⟨k, hlt⟩ wr hJs hlen
      simp only [encB] at hy
      have HB := hide (belong_snoc g k hlt)
      gi_wp2
      refine hR.mono ?_
      rintro e W3 (⟨rfl, hJ3, hk3⟩ | ⟨rfl, hJx3⟩)
      · gi_wp2
        go_roundw
        case rel => exact ⟨k + 1, by omega, by simp, by rw [HB.out]; exact hJ3, hnx.trans hk3⟩
        case measure => simp [intOf]; omega
      · gi_wp2
        refine bodyPost_ret (results_none rfl _ _ _) rfl ?_
        exact ⟨⟨_, rfl⟩, .inr ⟨_, by rw [← HB.out]; exact List.take_prefix _ _, hJx3⟩⟩
    · obtain rfl : k = g := by omega
      gi_wp2
      go_end0
      exact ⟨⟨_, rfl⟩, .inl ⟨_, rfl, by rw [List.take_of_length_le (Nat.le_of_eq (belong_length k))] at hJs; exact hJs⟩⟩

theorem belonging_stops (F : Fence) (n : Nat) (hf : F.fn 46) (hro : F.round = none) (hn : 1 ≤ n) (n₀ : Nat) (X : List Nat) (Bg Bp : Nat) (p g : Nat) (hg : g ≤ 128) (hp : p ≤ 16) (w : World) (hBg : Bg < n₀) (hBp : Bp < n₀) (hXg : Bg ∉ X) (hXp : Bp ∉ X) (hn₀ : n₀ ≤ w.heap.size)
    (hcg : w.cell? ⟨Bg, 0, none⟩ = some (.int .i64 (g : Int))) (hcp : w.cell? ⟨Bp, 0, none⟩ = some (.int .i64 (p : Int))) :
    SeqStopsK F n Tryd.prog 46 #[.pointer (some ⟨Bg, 0, none⟩), .pointer (some ⟨Bp, 0, none⟩)] (encB p g) (Bar n₀ X) (fun ys => ys = belong g) (fun pre => pre <+: belong g) g w := fun l J Jx W hW _ _ hY h0 =>
  belonging1_in F n hf hro hn l n₀ X Bg Bp p g hg hp hBg hBp hXg hXp J Jx hY W ((hW.cell (p := ⟨Bg, 0, none⟩) (by show Bg < _; omega)).trans hcg) ((hW.cell (p := ⟨Bp, 0, none⟩) (by show Bp < _; omega)).trans hcp) h0
end Go.Proofs.YthngjbhamgmcgaaDoor
