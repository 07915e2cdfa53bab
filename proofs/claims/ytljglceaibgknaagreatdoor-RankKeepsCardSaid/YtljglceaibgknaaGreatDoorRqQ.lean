/-
  The walk of a ranker's Tell at no ranker. No condition.
-/
import Derived.Test.YtljglceaibgknaaGreatDoorRqP
namespace Go.Proofs.YtljglceaibgknaaGreatDoor
open Go.RowKit
attribute [local go_sem] Oper.semAt_some wide_fn wide_depth
set_option linter.unusedVariables false
set_option linter.unusedSimpArgs false

set_option maxRecDepth 100000 in
set_option maxHeartbeats 2000000 in
theorem Tell_nil (t : Int) (A : Option Addr) (n c : Nat) (m : Int) (w : World) :
    Calls Tryz.prog 42 #[.pointer none, .agg #[.int .i64 t, .slice A n c, .int .i64 m]] w (fun e w' => e = .returned (.tuple #[.slice none 0 0, .int .i64 1]) ∧ Below w.heap.size w w') := by
  have hB := below_val (w := w) #[.int .i64 t, .slice A n c, .int .i64 m] 82
  go_enter Tryz.func42, Tryz.ntmps42
  go_upto_region 1 with fail
  obtain ⟨W, hW⟩ : ∃ W, w.alloc (.cells #[.int .i64 t, .slice A n c, .int .i64 m] 82) = W := ⟨_, rfl⟩
  rw [hW] at hB ⊢
  clear hW
  (refine wp_region_quiet_bw (by kernel_rfl) (by kernel_rfl) ?_
   repeat (first | go_big_quiet_step ((fail)) | quiet_step ((fail)))
   refine wpQuiet_nil ?_
   intro wq hw'
   obtain ⟨⟨_, hbq⟩, hw''⟩ := hw'
   subst hw'')
  go_wp2
  go_ret2
  exact ⟨rfl, bstep hB hbq⟩
set_option maxRecDepth 100000 in
set_option maxHeartbeats 2000000 in
theorem RTell_nil (t : Int) (A : Option Addr) (n c : Nat) (m : Int) (w : World) :
    Calls Tryz.prog 43 #[.pointer none, .agg #[.int .i64 t, .slice A n c, .int .i64 m]] w (fun e w' => e = .returned (.tuple #[.slice none 0 0, .int .i64 1]) ∧ Below w.heap.size w w') := by
  have hB := below_val (w := w) #[.int .i64 t, .slice A n c, .int .i64 m] 82
  go_enter Tryz.func43, Tryz.ntmps43
  go_upto_region 1 with fail
  obtain ⟨W, hW⟩ : ∃ W, w.alloc (.cells #[.int .i64 t, .slice A n c, .int .i64 m] 82) = W := ⟨_, rfl⟩
  rw [hW] at hB ⊢
  clear hW
  (refine wp_region_quiet_bw (by kernel_rfl) (by kernel_rfl) ?_
   repeat (first | go_big_quiet_step ((fail)) | quiet_step ((fail)))
   refine wpQuiet_nil ?_
   intro wq hw'
   obtain ⟨⟨_, hbq⟩, hw''⟩ := hw'
   subst hw'')
  go_wp2
  go_ret2
  exact ⟨rfl, bstep hB hbq⟩
theorem RAll_nil (w : World) : Calls Tryz.prog 48 #[.pointer none] w (RetC w ([], 1)) := by
  go_enter Tryz.func48, Tryz.ntmps48
  go_wp2
  go_ret2
  exact ⟨none, 0, 0, [], rfl, rfl, BagR.nil _ _, Nat.le_refl _, Below.refl _ _⟩
end Go.Proofs.YtljglceaibgknaaGreatDoor
