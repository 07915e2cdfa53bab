/-
  The walk of the law's long.
-/
import Derived.Test.YthngjbhamgmcgaaDoorShQ
namespace Go.Proofs.YthngjbhamgmcgaaDoor
open Go.RowKit Go.Shelf
attribute [local go_sem] Oper.semAt_some

/-- Is a list longer than is looked at? -/
def longB (xs : List ByteArray) : Bool := xs.any (fun s => decide (200 < s.size)) || decide (60 < xs.length)
theorem any_take {α : Type} (f : α → Bool) (xs : List α) (k : Nat) (x : α) (h : xs[k]? = some x) (hf : f x = false) (h0 : (xs.take k).any f = false) : (xs.take (k + 1)).any f = false := by
  rw [take_snoc' h, List.any_append, h0]; simp [hf]

set_option maxHeartbeats 1000000 in
theorem long_any (A : Option Addr) (n c B : Nat) (xs : List ByteArray) (w : World) (hx : Reads w B 1 A n (xs.map Value.string)) (hn : n ≤ 9223372036854775807) (hss : ∀ s ∈ xs, s.size ≤ 9223372036854775807) :
    Calls Tryd.prog 5 #[.slice A n c] w fun e w' => e = .returned (.bool (longB xs)) ∧ w = w' := by
  have HL := hide hx.len1
  have HS := hide hss
  clear hss
  go_enter Tryd.func5, Tryd.ntmps5
  go_wp2
  go_loop [3] (fun i => ∃ k : Nat, k ≤ n ∧ i = .int .i64 k ∧ (xs.take k).any (fun s => decide (200 < s.size)) = false) (fun i => n - (intOf i).toNat)
  case atStart => exact ⟨0, Nat.zero_le _, rfl, rfl⟩
  case round =>
    obtain ⟨k, hk, rfl, hany⟩ := hrel
    have HA := hide hany
    clear hany
    by_cases hlt : k < n
    · obtain ⟨b, off, x, rfl, hb, hxk, hc⟩ := hx.at1 hlt
      have hsz := HS.out x (List.mem_of_getElem? hxk)
      have HXK := hide hxk
      clear hxk
      by_cases h2 : 200 < x.size
      · go_wp2
        go_ret
        exact ⟨ret_bool (by
          unfold longB
          rw [List.any_eq_true.2 ⟨x, List.mem_of_getElem? HXK.out, by simpa using h2⟩]; rfl), rfl⟩
      · go_wp2
        go_round
        case rel => exact ⟨k + 1, by omega, by go_num, any_take _ _ _ _ HXK.out (by simpa using h2) HA.out⟩
        case measure => simp [intOf]; omega
    · obtain rfl : k = n := by omega
      go_wp2
      go_ret
      exact ⟨ret_bool (by
        have := HA.out
        rw [take_all HL.out] at this
        unfold longB; rw [this, HL.out]; simp; omega), rfl⟩
theorem long_no {xs : List ByteArray} (h : longB xs = false) : xs.length ≤ 60 ∧ ∀ s ∈ xs, s.size ≤ 200 := by
  unfold longB at h
  rw [Bool.or_eq_false_iff] at h
  refine ⟨by simpa using h.2, fun s hs => ?_⟩
  have := List.any_eq_false.1 h.1 s hs
  simpa using this
end Go.Proofs.YthngjbhamgmcgaaDoor
