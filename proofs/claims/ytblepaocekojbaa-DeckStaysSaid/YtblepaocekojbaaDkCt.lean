/-
  The walks of slices.Index and slices.Contains at ints.
-/
import Derived.Test.YtblepaocekojbaaDkA
namespace Go.Proofs.Ytblepaocekojbaa
open Go.RowKit Go.Shelf
attribute [local go_sem] Oper.semAt_some

/-- Where y stands first; -1 if nowhere. -/
def RetIx (xs : List Int) (y : Int) (w : World) (e : Ending) (w' : World) : Prop := (∃ i : Int, e = .returned (.int .i64 i) ∧ (decide (0 ≤ i) = hasB xs y) ∧ i < 9223372036854775807) ∧ w = w'
set_option maxHeartbeats 1000000 in
theorem Index_any (A : Option Addr) (n c B : Nat) (xs : List Int) (y : Int) (w : World) (hx : Reads w B 1 A n (xs.map (Value.int .i64))) (hn : n ≤ 4611686018427387904) :
    Calls Try.prog 82 #[.slice A n c, .int .i64 y] w (RetIx xs y w) := by
  have HL := hide hx.len1
  go_enter Try.func82, Try.ntmps82
  go_wp2_with fail
  go_loop [5, 8] (fun _ i => ∃ k : Nat, k ≤ n ∧ i = .int .i64 k ∧ (xs.take k).any (fun x => x == y) = false) (fun _ i => n - (intOf i).toNat)
  case atStart => exact ⟨0, Nat.zero_le _, rfl, rfl⟩
  case round =>
    obtain ⟨k, hk, rfl, hany⟩ := hrel
    have HA := hide hany
    clear hany
    by_cases hlt : k < n
    · obtain ⟨b, off, x, ha, hb, hxk, hc⟩ := hx.at1 hlt
      rw [ha]
      clear ha
      have HXK := hide hxk
      clear hxk
      by_cases hxy : y = x
      · subst hxy
        go_wp2
        go_ret
        exact ⟨⟨k, rfl, by
          have := any_hit (fun x => x == y) xs k y HXK.out (by simp)
          unfold hasB; rw [this]; simp, by omega⟩, rfl⟩
      · have hne : (y == x) = false := by simpa using hxy
        go_wp2
        go_round
        case rel => exact ⟨k + 1, by omega, by go_num, any_take' _ _ _ _ HXK.out (by simpa using fun h => hxy h.symm) HA.out⟩
        case measure => simp [intOf]; omega
    · obtain rfl : k = n := by omega
      have h2 := HA.out
      rw [take_all HL.out] at h2
      have H2 := hide h2
      clear h2 HA
      go_wp2
      go_ret
      exact ⟨⟨-1, rfl, by unfold hasB; rw [H2.out]; rfl, by omega⟩, rfl⟩

theorem Contains_any (A : Option Addr) (n c B : Nat) (xs : List Int) (y : Int) (w : World) (hx : Reads w B 1 A n (xs.map (Value.int .i64))) (hn : n ≤ 4611686018427387904) :
    Calls Try.prog 48 #[.slice A n c, .int .i64 y] w fun e w' => e = .returned (.bool (hasB xs y)) ∧ w = w' := by
  go_enter Try.func48, Try.ntmps48
  go_wp2_with fail
  refine (Index_any A n c B xs y w hx hn).mono ?_
  rintro e w' ⟨⟨i, rfl, hi, h2⟩, rfl⟩
  have HI := hide hi
  clear hi
  go_wp2
  go_ret
  exact ⟨ret_bool HI.out, rfl⟩
end Go.Proofs.Ytblepaocekojbaa
