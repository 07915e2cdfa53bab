/-
  The closures of bag.Upserts; slices.ContainsFunc over ints, whatever predicate.
-/
import Derived.Test.YtoapjidpfghnlaaGreatDoorUpM
import Derived.Test.YtoapjidpfghnlaaGreatDoorGat
namespace Go.Proofs.YtoapjidpfghnlaaGreatDoor
open Go.RowKit
attribute [local go_sem] Oper.semAt_some
set_option linter.unusedVariables false
set_option linter.unusedSimpArgs false

set_option maxRecDepth 100000 in
set_option maxHeartbeats 2000000 in
theorem idx_ints (A' : Option Addr) (n' c' B : Nat) (xs : List Int) (w : World) (hx : Reads w B 1 A' n' (xs.map (Value.int .i64))) (hn : n' ≤ 9223372036854775807) (hB : B ≤ w.heap.size) (pf : Nat) (caps : Array Value) (p : Int → Bool)
    (eg : ∀ args w, (callFunc pf args).run Tryz.prog w = .ok (.enter pf args) w)
    (hp : ∀ x ∈ xs, ∀ W, Below w.heap.size w W → Calls Tryz.prog pf (#[.int .i64 x] ++ caps) W (RetV W (.bool (p x)))) :
    Calls Tryz.prog 166 #[.slice A' n' c', .func (Fn.func pf) #[] caps] w fun e w' => (∃ i : Int, e = .returned (.int .i64 i) ∧ decide (0 ≤ i) = xs.any p) ∧ Below w.heap.size w w' := by
  have HL := hide hx.len1
  have HP := hide hp
  clear hp
  go_enter Tryz.func166, Tryz.ntmps166
  go_wp2_with fail
  go_loopw [8] (fun i wr => ∃ k : Nat, k ≤ n' ∧ i = .int .i64 k ∧ (xs.take k).any p = false ∧ Below w.heap.size w wr) (fun i _ => n' - (intOf i).toNat)
  case atStart => exact ⟨0, Nat.zero_le _, rfl, rfl, Below.refl _ _⟩
  case round =>
    obtain ⟨k, hk, rfl, hany, hBw⟩ := hrel
    have HA := hide hany
    clear hany
    by_cases hlt : k < n'
    · obtain ⟨b, off, x, rfl, hb, hxk, c0⟩ := (hx.below (hBw.mono hB)).at1 hlt
      have HE := hide hxk
      have HC := hide (HP.out x (List.mem_of_getElem? hxk) wr hBw)
      clear hxk
      have q1 : (0 : Int) ≤ (k : Int) := by omega
      have q2 : (k : Int) < (n' : Int) := by omega
      obtain ⟨b, hb⟩ : ∃ b, p x = b := ⟨_, rfl⟩
      rw [hb] at HC
      have HPX := hide hb
      clear hb
      go_wp2_with fail
      refine HC.out.mono ?_
      rintro ee w1 ⟨rfl, hB1⟩
      have hB2 := bstep hBw hB1
      clear HC hB1 hBw c0
      cases b
      · have HX := hide (show (xs.take (k + 1)).any p = false by rw [take_snoc' HE.out, List.any_append, HA.out]; simp [HPX.out])
        go_wp2
        go_roundw
        case rel => exact ⟨k + 1, by omega, by go_num, HX.out, hB2⟩
        case measure => simp [intOf]; omega
      · have HX := hide (show xs.any p = true from List.any_eq_true.2 ⟨x, List.mem_of_getElem? HE.out, HPX.out⟩)
        go_wp2
        go_ret
        exact ⟨⟨_, rfl, by rw [HX.out]; simp⟩, hB2⟩
    · obtain rfl : k = n' := by omega
      go_wp2
      go_ret
      exact ⟨⟨_, rfl, by
        have := HA.out
        rw [take_all HL.out] at this
        rw [this]; rfl⟩, hBw⟩
theorem con_ints (A' : Option Addr) (n' c' B : Nat) (xs : List Int) (w : World) (hx : Reads w B 1 A' n' (xs.map (Value.int .i64))) (hn : n' ≤ 9223372036854775807) (hB : B ≤ w.heap.size) (pf : Nat) (caps : Array Value) (p : Int → Bool)
    (eg : ∀ args w, (callFunc pf args).run Tryz.prog w = .ok (.enter pf args) w)
    (hp : ∀ x ∈ xs, ∀ W, Below w.heap.size w W → Calls Tryz.prog pf (#[.int .i64 x] ++ caps) W (RetV W (.bool (p x)))) :
    Calls Tryz.prog 121 #[.slice A' n' c', .func (Fn.func pf) #[] caps] w (RetV w (.bool (xs.any p))) := by
  have HI := hide (idx_ints A' n' c' B xs w hx hn hB pf caps p eg hp)
  clear hp
  go_enter Tryz.func121, Tryz.ntmps121
  go_wp2_with (go_at_call 166; refine HI.out.mono ?_; rintro e w' ⟨⟨i, rfl, hi⟩, hB1⟩)
  go_ret
  exact ⟨rfl, hB1⟩
/-- What the closure `of` tells of a row. -/
def ofT (key : List Int) (r : Rw) : ByteArray := if hasB r key then ⟨(keyT key r).toArray⟩ else ⟨#[]⟩
end Go.Proofs.YtoapjidpfghnlaaGreatDoor
