/-
  The walk of tidewrightref12.SameInts, for every two lists.
-/
import Derived.Test.YthngjbhamgmcgaaDoorMem
import Derived.Test.YthngjbhamgmcgaaDoorProg
import Derived.WalkKit
import Derived.Deep.QuietTactic
import Derived.BigQuiet
import Derived.Outline
namespace Go.Proofs.YthngjbhamgmcgaaDoor
open Go.RowKit

set_option maxHeartbeats 1000000 in
theorem SameInts_any (A A' : Option Addr) (n m c c' B B' : Nat) (xs ys : List Int) (w : World) (hx : Reads w B 1 A n (xs.map (Value.int .i64))) (hy : Reads w B' 1 A' m (ys.map (Value.int .i64))) (hn : n ≤ 4611686018427387904) (hm : m ≤ 4611686018427387904) :
    Calls Tryd.prog 12 #[.slice A n c, .slice A' m c'] w (RetQ w (.bool (decide (xs = ys)))) := by
  have hxl := hx.len1
  have hyl := hy.len1
  by_cases hnm : n = m
  · subst hnm
    clear hm
    have HX := hide hxl
    have HY := hide hyl
    clear hxl hyl
    go_enter Tryd.func12, Tryd.ntmps12
    go_wp2
    go_loopw [5] (fun i wr => ∃ k q : Nat, k ≤ n ∧ i = .int .i64 k ∧ xs.take k = ys.take k ∧ wr = w.drewN q) (fun i _ => n - (intOf i).toNat)
    case atStart => exact ⟨0, 0, Nat.zero_le _, rfl, rfl, rfl⟩
    case round =>
      obtain ⟨k, q, hk, rfl, heq, rfl⟩ := hrel
      have HE := hide heq
      clear heq
      by_cases hlt : k < n
      · obtain ⟨b, off, x, rfl, hb, hxk, hc⟩ := hx.at1 hlt
        obtain ⟨b', off', y, rfl, hb', hyk, hc'⟩ := hy.at1 hlt
        have HXK := hide hxk
        have HYK := hide hyk
        clear hxk hyk
        by_cases hxy : x = y
        · subst hxy
          go_wp2
          go_quiet (fail)
          go_wp2
          go_roundw
          case rel => exact ⟨k + 1, _, by omega, by go_num, by rw [take_snoc' HXK.out, take_snoc' HYK.out, HE.out], rfl⟩
          case measure => simp [intOf]; omega
        · have hxy' : (x != y) = true := by simpa using hxy
          go_wp2
          go_quiet (fail)
          go_wp2
          go_ret
          exact ⟨ret_bool (by
            symm; rw [decide_eq_false_iff_not]; rintro rfl
            exact hxy (Option.some.inj (HXK.out.symm.trans HYK.out))), _, World.drewN_drewN _ _ _⟩
      · obtain rfl : k = n := by omega
        go_wp2
        go_ret
        exact ⟨ret_bool (by
          symm; rw [decide_eq_true_eq]
          have := HE.out; rwa [take_all HX.out, take_all HY.out] at this), _, rfl⟩
  · have hne : ((n : Int) != (m : Int)) = true := by simp; omega
    have HX := hide hxl
    have HY := hide hyl
    clear hxl hyl
    go_enter Tryd.func12, Tryd.ntmps12
    go_wp2
    go_ret
    exact ⟨ret_bool (by
      symm; rw [decide_eq_false_iff_not]; rintro rfl
      exact hnm (HX.out.symm.trans HY.out)), 0, rfl⟩
end Go.Proofs.YthngjbhamgmcgaaDoor
