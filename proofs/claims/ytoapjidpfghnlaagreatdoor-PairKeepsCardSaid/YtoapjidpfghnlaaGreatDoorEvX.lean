/-
  slices.IndexFunc and slices.ContainsFunc over events, whatever predicate; cmp.Or of two numbers. No condition.
-/
import Derived.Test.YtoapjidpfghnlaaGreatDoorEvM
import Derived.Test.YtoapjidpfghnlaaGreatDoorGb
import Derived.Test.YtoapjidpfghnlaaGreatDoorRngH
namespace Go.Proofs.YtoapjidpfghnlaaGreatDoor
open Go.RowKit
attribute [local go_sem] Oper.semAt_some wide_fn wide_depth
set_option linter.unusedVariables false
set_option linter.unusedSimpArgs false

def FirstE (p : Ev → Bool) (l : List Ev) (i : Int) : Prop := ((∀ x ∈ l, p x = false) ∧ i = -1) ∨ ∃ k : Nat, i = (k : Int) ∧ (∀ x ∈ l.take k, p x = false) ∧ ∃ x, l[k]? = some x ∧ p x = true
set_option maxRecDepth 100000 in
set_option maxHeartbeats 2000000 in
theorem idxE_any (A : Option Addr) (n c : Nat) (l : List Ev) (w : World) (hr : Reads w w.heap.size 2 A n (l.flatMap encEv)) (hn : n ≤ 100000) (pf : Nat) (caps : Array Value) (p : Ev → Bool) (eg : ∀ args w, (callFunc pf args).run Tryz.prog w = .ok (.enter pf args) w)
    (hp : ∀ x ∈ l, ∀ W, Below w.heap.size w W → Calls Tryz.prog pf (#[.agg #[.int .i64 x.t, .slice x.A x.n x.c]] ++ caps) W (RetV W (.bool (p x)))) :
    Calls Tryz.prog 137 #[.slice A n c, .func (Fn.func pf) #[] caps] w fun e w' => (∃ i : Int, e = .returned (.int .i64 i) ∧ FirstE p l i) ∧ Below w.heap.size w w' := by
  have HL := hide (hr.len encEv_len (by omega))
  have HP := hide hp
  clear hp
  go_enter Tryz.func137, Tryz.ntmps137
  go_wp2_with fail
  go_loopw [8] (fun i wr => ∃ k : Nat, k ≤ n ∧ i = .int .i64 k ∧ (∀ x ∈ l.take k, p x = false) ∧ Below w.heap.size w wr) (fun i _ => n - (intOf i).toNat)
  case atStart => exact ⟨0, Nat.zero_le _, rfl, by simp, Below.refl _ _⟩
  case round =>
    obtain ⟨k, hk, rfl, hany, hB⟩ := hrel
    have HA := hide hany
    clear hany
    by_cases hlt : k < n
    · obtain ⟨b, off, x, rfl, hb, hxk, hcx⟩ := (hr.below hB).elem encEv_len HL.out hlt
      have HX := hide hxk
      have e0 : wr.cell? ⟨b, off + k * 2, none⟩ = some (.int .i64 x.t) := by simpa using hcx 0 _ rfl
      have e1 : wr.cell? ⟨b, off + k * 2 + 1, none⟩ = some (.slice x.A x.n x.c) := by simpa [← Nat.add_assoc] using hcx 1 _ rfl
      have HC := hide (HP.out x (List.mem_of_getElem? hxk) wr hB)
      clear hcx hxk
      have q1 : (0 : Int) ≤ (k : Int) := by omega
      have q2 : (k : Int) < (n : Int) := by omega
      go_wp2_with fail
      refine HC.out.mono ?_
      rintro e w1 ⟨rfl, hB1⟩
      have hB2 := bstep hB hB1
      cases hq : p x
      · have HY := hide (show ∀ y ∈ l.take (k + 1), p y = false from fun y hy => by
          rw [take_snoc' HX.out] at hy
          rcases List.mem_append.1 hy with h | h
          · exact HA.out y h
          · rw [List.mem_singleton.1 h]; exact hq)
        clear hq hB1 hB e0 e1 HC
        go_wp2
        go_roundw
        case rel => exact ⟨k + 1, by omega, by go_num, HY.out, hB2⟩
        case measure => simp [intOf]; omega
      · have HY := hide hq
        clear hq hB1 hB e0 e1 HC
        go_wp2
        go_ret
        exact ⟨⟨_, rfl, .inr ⟨k, rfl, HA.out, x, HX.out, HY.out⟩⟩, hB2⟩
    · obtain rfl : k = n := by omega
      have HY := hide (show ∀ y ∈ l, p y = false from fun y hy => HA.out y (by rw [take_all HL.out]; exact hy))
      go_wp2
      go_ret
      exact ⟨⟨_, rfl, .inl ⟨HY.out, rfl⟩⟩, hB⟩

set_option maxHeartbeats 2000000 in
theorem con_evs (A : Option Addr) (n c : Nat) (l : List Ev) (w : World) (hr : Reads w w.heap.size 2 A n (l.flatMap encEv)) (hn : n ≤ 100000) (pf : Nat) (caps : Array Value) (p : Ev → Bool) (eg : ∀ args w, (callFunc pf args).run Tryz.prog w = .ok (.enter pf args) w)
    (hp : ∀ x ∈ l, ∀ W, Below w.heap.size w W → Calls Tryz.prog pf (#[.agg #[.int .i64 x.t, .slice x.A x.n x.c]] ++ caps) W (RetV W (.bool (p x)))) :
    Calls Tryz.prog 85 #[.slice A n c, .func (Fn.func pf) #[] caps] w (RetV w (.bool (l.any p))) := by
  have HI := hide (idxE_any A n c l w hr hn pf caps p eg hp)
  clear hp hr
  go_enter Tryz.func85, Tryz.ntmps85
  go_wp2_with fail
  refine HI.out.mono ?_
  rintro e W1 ⟨⟨i, rfl, hfi⟩, hB1⟩
  have HX := hide (show decide (0 ≤ i) = l.any p by
    rcases hfi with ⟨h, rfl⟩ | ⟨k, rfl, _, x, hx, h⟩
    · have : l.any p = false := List.any_eq_false.2 fun x hx => by rw [h x hx]; simp
      rw [this]; rfl
    · have : l.any p = true := List.any_eq_true.2 ⟨x, List.mem_of_getElem? hx, h⟩
      rw [this]; simp)
  clear hfi
  go_wp2_with fail
  go_ret
  exact ⟨ret_bool HX.out, hB1⟩
set_option maxHeartbeats 2000000 in
theorem OrI_any (g : Nat) (x y : Int) (w : World) (h0 : w.cell? ⟨g, 0, none⟩ = some (.int .i64 x)) (h1 : w.cell? ⟨g, 1, none⟩ = some (.int .i64 y)) :
    Calls Tryz.prog 128 #[.slice (some ⟨g, 0, none⟩) 2 2] w fun e w' => e = .returned (.int .i64 (thenC x y)) ∧ w = w' := by
  by_cases hx : x = 0
  · subst hx
    by_cases hy : y = 0
    · subst hy
      go_enter Tryz.func128, Tryz.ntmps128
      go_wp2_with fail
      refine wp_loop_rounds 3 ?_
      rw [rounds_succ]
      go_wp2
      rw [rounds_succ]
      go_wp2
      rw [rounds_succ]
      go_wp2
      go_ret
      exact ⟨rfl, rfl⟩
    · have hy' : (y != 0) = true := by simpa using hy
      go_enter Tryz.func128, Tryz.ntmps128
      go_wp2_with fail
      refine wp_loop_rounds 2 ?_
      rw [rounds_succ]
      go_wp2
      rw [rounds_succ]
      go_wp2
      go_ret
      exact ⟨ret_int (by simp [thenC]), rfl⟩
  · have hx' : (x != 0) = true := by simpa using hx
    have HR : Hid (thenC x y = x) := hide (by simp [thenC, hx])
    clear hx
    go_enter Tryz.func128, Tryz.ntmps128
    go_wp2_with fail
    refine wp_loop_rounds 1 ?_
    rw [rounds_succ]
    go_wp2
    go_ret
    exact ⟨ret_int HR.out.symm, rfl⟩

end Go.Proofs.YtoapjidpfghnlaaGreatDoor
