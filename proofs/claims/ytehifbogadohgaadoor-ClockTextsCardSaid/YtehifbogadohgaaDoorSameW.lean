/-
  The walk of tidewrightref01.Same, for every two lists of windows.
-/
import Derived.Test.YtehifbogadohgaaDoorCkC
namespace Go.Proofs.YtehifbogadohgaaDoor
open Go.RowKit

def eqW (a b a' b' : Int) : Bool := decide (a = a' ∧ b = b')

theorem neqWin (a b a' b' : Int) (w : World) : (binOp .neq 36 (.agg #[.int .i64 a, .int .i64 b]) (.agg #[.int .i64 a', .int .i64 b'])).run Tryd.prog w = (.ok (.bool (!(eqW a b a' b'))) w) := by
  have u3 := Tryd.underlying3
  have a3 := Tryd.isAgg3
  have z3 := Tryd.sizeOf3
  have hS : Tryd.prog.underlying 36 = some (.struct (Tryd.prog.fieldsOf 36)) := by kernel_rfl
  have hp : Tryd.prog.stoodInHeld 36 = false := by kernel_rfl
  rw [run_neq_struct, show (10000 : Nat) = 9999 + 1 from rfl, run_equalIn_agg w 9999 36 _ _ hS hp]
  simp only [Program.fieldsOf, Tryd.underlying36]
  go_simp
  by_cases h1 : a = a' <;> by_cases h2 : b = b' <;> simp [h1, h2, eqW]

set_option maxHeartbeats 1000000 in
theorem SameW_any (A A' : Option Addr) (n m c c' B B' : Nat) (xs ys : List (Int × Int)) (w : World) (hx : Reads w B 2 A n (flatW xs)) (hy : Reads w B' 2 A' m (flatW ys)) (hn : n ≤ 4611686018427387904) (hm : m ≤ 4611686018427387904) :
    Calls Tryd.prog 11 #[.slice A n c, .slice A' m c'] w (RetQ w (.bool (decide (xs = ys)))) := by
  have hxl := Reads.len hx encW_len (by omega)
  have hyl := Reads.len hy encW_len (by omega)
  by_cases hnm : n = m
  · subst hnm
    clear hm
    have HX := hide hxl
    have HY := hide hyl
    clear hxl hyl
    go_enter Tryd.func11, Tryd.ntmps11
    go_wp2
    go_loopw [5] (fun i wr => ∃ k q : Nat, k ≤ n ∧ i = .int .i64 k ∧ xs.take k = ys.take k ∧ wr = w.drewN q) (fun i _ => n - (intOf i).toNat)
    case atStart => exact ⟨0, 0, Nat.zero_le _, rfl, rfl, rfl⟩
    case round =>
      obtain ⟨k, q, hk, rfl, heq, rfl⟩ := hrel
      have HE := hide heq
      clear heq
      by_cases hlt : k < n
      · obtain ⟨b, off, x, rfl, hb, hxk, hc⟩ := hx.elem encW_len HX.out hlt
        obtain ⟨b', off', y, rfl, hb', hyk, hc'⟩ := hy.elem encW_len HY.out hlt
        have HXK := hide hxk
        have HYK := hide hyk
        have d0 := hc 0 _ rfl
        have d1 := hc 1 _ rfl
        have e0 := hc' 0 _ rfl
        have e1 := hc' 1 _ rfl
        clear hxk hyk hc hc'
        simp only [Nat.add_zero, ← Nat.add_assoc] at d0 d1 e0 e1
        have hn1 := neqWin
        have hg : Tryd.prog.eqGuardType Tryd.prog.depth 36 = false := by kernel_rfl
        by_cases hxy : x.1 = y.1 ∧ x.2 = y.2
        · have hd : eqW x.1 x.2 y.1 y.2 = true := by simp [hxy, eqW]
          have hxy' : x = y := Prod.ext hxy.1 hxy.2
          clear hxy
          subst hxy'
          go_wp2
          go_quiet (fail)
          go_wp2
          go_roundw
          case rel => exact ⟨k + 1, _, by omega, by go_num, by rw [take_snoc' HXK.out, take_snoc' HYK.out, HE.out], by first | rfl | exact World.drewN_drewN _ _ _⟩
          case measure => simp [intOf]; omega
        · have hd : eqW x.1 x.2 y.1 y.2 = false := by simp only [eqW, decide_eq_false_iff_not]; exact hxy
          have HXY := hide hxy
          clear hxy
          go_wp2
          go_quiet (fail)
          go_wp2
          go_ret
          exact ⟨ret_bool (by
            symm; rw [decide_eq_false_iff_not]; rintro rfl
            have e := Option.some.inj (HXK.out.symm.trans HYK.out)
            exact HXY.out ⟨by rw [e], by rw [e]⟩), _, by first | rfl | exact World.drewN_drewN _ _ _⟩
      · obtain rfl : k = n := by omega
        go_wp2
        go_ret
        exact ⟨ret_bool (by
          symm; rw [decide_eq_true_eq]
          have := HE.out; rwa [take_all HX.out, take_all HY.out] at this), _, rfl⟩
  · have hne : ((n : Int) != (m : Int)) = true := by simp; omega
    have HX := hide hxl
    have HY := hide hyl
    clear hxl hyl
    go_enter Tryd.func11, Tryd.ntmps11
    go_wp2
    go_ret
    exact ⟨ret_bool (by
      symm; rw [decide_eq_false_iff_not]; rintro rfl
      exact hnm (HX.out.symm.trans HY.out)), 0, rfl⟩
end Go.Proofs.YtehifbogadohgaaDoor
