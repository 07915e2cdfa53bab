/-
  tidewrightlaw02.Long over a list of rows.
-/
import Derived.Test.YtljglceaibgknaaGreatDoorRwL
import Derived.Test.YtljglceaibgknaaGreatDoorBgL
namespace Go.Proofs.YtljglceaibgknaaGreatDoor
open Go.RowKit
attribute [local go_sem] Oper.semAt_some
set_option linter.unusedVariables false
set_option linter.unusedSimpArgs false

set_option maxRecDepth 100000 in
set_option maxHeartbeats 2000000 in
theorem LongR_any (A : Option Addr) (n c : Nat) (l : List Rk) (w : World) (hx : RowL w w.heap.size A n l) : Calls Tryz.prog 18 #[.slice A n c] w (RetSome w) := by
  have hn := hx.le
  go_enter Tryz.func18, Tryz.ntmps18
  go_wp2_with fail
  go_loopw [3, 4] (fun s i wr => ∃ (k : Nat) (x : Int), k ≤ n ∧ s = .int .i64 x ∧ i = .int .i64 k ∧ wr = w) (fun _ i _ => n - (intOf i).toNat)
  case atStart => exact ⟨0, 0, Nat.zero_le _, rfl, rfl, rfl⟩
  case round =>
    obtain ⟨k, x, hk, rfl, rfl, rfl⟩ := hrel
    by_cases hlt : k < n
    · obtain ⟨b, off, y, rfl, hb, hyk, e0, hrow⟩ := hx.at_ hlt
      have hny := hrow.le
      have hrd := hrow.rd
      have HL := hide hrow.len
      have q1 : (0 : Int) ≤ (k : Int) := by omega
      have q2 : (k : Int) < (n : Int) := by omega
      clear hyk hrow
      go_wp2_with fail
      go_loopw [3, 5] (fun s i wr' => ∃ (j : Nat) (x : Int), j ≤ y.n ∧ s = .int .i64 x ∧ i = .int .i64 j ∧ wr' = wr) (fun _ i _ => y.n - (intOf i).toNat)
      case atStart => exact ⟨0, _, Nat.zero_le _, rfl, rfl, rfl⟩
      case round =>
        obtain ⟨j, z, hj, rfl, rfl, hw⟩ := hrel
        subst hw
        by_cases hlt2 : j < y.n
        · obtain ⟨b2, off2, e, hA2, hb2, hek, hce⟩ := hrd.elem encV_len HL.out hlt2
          have e2 := hce 2 _ rfl
          have e2' := e2
          rw [show off2 + (j * 3 + 2) = off2 + j * 3 + 2 by omega] at e2'
          rw [hA2] at e0
          clear hce hek
          have q3 : (0 : Int) ≤ (j : Int) := by omega
          have q4 : (j : Int) < (y.n : Int) := by omega
          go_wp2
          go_roundw
          case rel => exact ⟨j + 1, _, by omega, rfl, by go_num, trivial⟩
          case measure => simp [intOf]; omega
        · obtain rfl : j = y.n := by omega
          go_wp2
          go_roundw
          case rel => exact ⟨k + 1, _, by omega, rfl, by go_num, trivial⟩
          case measure => simp [intOf]; omega
    · obtain rfl : k = n := by omega
      go_wp2
      go_ret
      exact ⟨_, rfl, Below.refl _ _⟩
end Go.Proofs.YtljglceaibgknaaGreatDoor
