/-
  The walk of slices.Clone over windows.
-/
import Derived.Test.YtehifbogadohgaaMgN
import Derived.Test.YtehifbogadohgaaApp
import Derived.Lib.LazyBuf
namespace Go.Proofs.Ytehifbogadohgaa
open Go.RowKit
attribute [local go_sem] Oper.semAt_some

set_option maxRecDepth 100000 in
set_option maxHeartbeats 2000000 in
theorem CloneW_any (A : Option Addr) (n c B : Nat) (l : List Wd) (w : World) (hr : Reads w B 2 A n (flatW l)) (hB : B ≤ w.heap.size) (hn : n ≤ 100000) :
    Calls Try.prog 64 #[.slice A n c] w (RetOwn w 35 2 n (flatW l)) := by
  obtain ⟨i0, hi, hz0, hz1, hz2⟩ := info_parts Try.infoWin
  cases A with
  | none =>
    have hn0 : n = 0 := by
      rcases Nat.eq_zero_or_pos n with h | h
      · exact h
      · obtain ⟨b, off, e, _⟩ := hr.2 h
        cases e
    subst hn0
    have hl0 : l = [] := by
      have := hr.len (enc := encW) encW_len (by omega)
      exact List.length_eq_zero_iff.1 this
    subst hl0
    have hq := fun w => run_eql_slice_nil (P := Try.prog) w 22 35 none 0 c Try.underlying22
    go_enter Try.func64, Try.ntmps64
    go_wp2
    go_ret
    exact ⟨_, _, rfl, World.ownsRow_nil _ _ _ _, Below.refl _ _⟩
  | some a =>
    have hlit := own_lit w 35 2 0 #[] rfl (by unfold maxLen; omega) (Nat.le_refl w.heap.size)
    have hB0 := below_val (w := w) #[] 35
    have hrd := (hr.more hB).alloc (Nat.le_refl _) (.cells #[] 35)
    clear hr
    have hq := fun w => run_eql_slice_nil (P := Try.prog) w 22 35 (some a) n c Try.underlying22
    have one : ∀ v ∈ flatW l, v.oneCell' = true := by
      intro v hv
      obtain ⟨x, _, hx⟩ := List.mem_flatMap.1 hv
      simp [encW] at hx
      rcases hx with rfl | rfl <;> rfl
    go_enter Try.func64, Try.ntmps64
    go_wp2_with (at_builtin; refine wpList_append_any _ rfl _ _ 22 rfl w.heap.size 35 i0 _ 2 16 Try.underlying22 hi hz0 hz1 hz2 rfl (by decide) (.slice (some ⟨w.heap.size, 0, none⟩) 0 0) 0 [] rfl hlit w.heap.size (some a) n c (flatW l) rfl hrd one (by unfold maxLen; omega) (by omega) (by simp) ?_; intro v' W1 hown hgrow _; rw [Nat.zero_add, List.nil_append] at hown)
    have hB1 : Below w.heap.size w W1 := below_append hB0 hlit (by simp) hgrow
    obtain ⟨A', c', rfl, _⟩ := own_form hown
    go_ret
    exact ⟨_, _, rfl, hown, hB1⟩
end Go.Proofs.Ytehifbogadohgaa
