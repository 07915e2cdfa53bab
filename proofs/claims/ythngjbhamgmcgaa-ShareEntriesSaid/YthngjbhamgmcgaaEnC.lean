/-
  The walks of the program's comparison of entries: each comparison may lay blocks and draw, and turns nothing else.
-/
import Derived.Test.YthngjbhamgmcgaaEnM
import Derived.Test.YthngjbhamgmcgaaProg
import Derived.WalkKit
import Derived.Deep.QuietTactic
import Derived.Deep.RegionHeld3
import Derived.BigQuiet
import Derived.Outline
import Derived.Sort.Walk0
import Derived.Sort.Grow
import Derived.Laws.Cover1
import Derived.Laws.EntriesVeiled
namespace Go.Proofs.Ythngjbhamgmcgaa
open Go.RowKit Go.Proofs
attribute [local go_sem] Oper.semAt_some
set_option linter.unusedVariables false

theorem str_eq0 (x y : ByteArray) : (x.toList == y.toList) = decide (x = y) := by
  rw [ByteArray.toList_eq, ByteArray.toList_eq, Bool.eq_iff_iff, decide_eq_true_eq, beq_iff_eq]
  exact ⟨fun h => Go.WideShapes.bytes_inj h, fun h => by rw [h]⟩

theorem isNaNi_any (n : Int) (w : World) : Calls Try.prog 105 #[.int .i64 n] w fun e w' => e = .returned (.bool false) ∧ w = w' := by
  have h : (n != n) = false := by simp
  go_enter Try.func105, Try.ntmps105
  go_wp2
  go_ret
  exact ⟨rfl, rfl⟩
theorem isNaNs_any (s : ByteArray) (w : World) : Calls Try.prog 88 #[.string s] w fun e w' => e = .returned (.bool false) ∧ w = w' := by
  have h : (s.toList == s.toList) = true := by simp
  have h2 : (s.toList != s.toList) = false := by simp
  go_enter Try.func88, Try.ntmps88
  go_wp2
  go_ret
  exact ⟨rfl, rfl⟩
theorem cmpi_any (x y : Int) (w : World) : Calls Try.prog 81 #[.int .i64 x, .int .i64 y] w fun e w' => e = .returned (.int .i64 (cmpI x y)) ∧ w = w' := by
  have h : cmpI x y = if x < y then -1 else if y < x then 1 else 0 := rfl
  by_cases h1 : x < y
  · rw [h, if_pos h1]
    go_enter Try.func81, Try.ntmps81
    go_wp2_with (go_at_call 105; refine (isNaNi_any _ _).mono ?_; rintro e w' ⟨rfl, rfl⟩)
    go_ret
    exact ⟨rfl, rfl⟩
  · by_cases h2 : y < x
    · rw [h, if_neg h1, if_pos h2]
      go_enter Try.func81, Try.ntmps81
      go_wp2_with (go_at_call 105; refine (isNaNi_any _ _).mono ?_; rintro e w' ⟨rfl, rfl⟩)
      go_ret
      exact ⟨rfl, rfl⟩
    · rw [h, if_neg h1, if_neg h2]
      go_enter Try.func81, Try.ntmps81
      go_wp2_with (go_at_call 105; refine (isNaNi_any _ _).mono ?_; rintro e w' ⟨rfl, rfl⟩)
      go_ret
      exact ⟨rfl, rfl⟩
theorem less_yes {x y : ByteArray} (h : ltS x y) : Op.bytesLess x.toList y.toList = true := by
  rw [bytesLess_eq, ByteArray.toList_eq, ByteArray.toList_eq]; exact decide_eq_true h
theorem less_no {x y : ByteArray} (h : ¬ ltS x y) : Op.bytesLess x.toList y.toList = false := by
  rw [bytesLess_eq, ByteArray.toList_eq, ByteArray.toList_eq]; exact decide_eq_false h
theorem cmps_any (x y : ByteArray) (w : World) : Calls Try.prog 65 #[.string x, .string y] w fun e w' => e = .returned (.int .i64 (cmpS x y)) ∧ w = w' := by
  have h : cmpS x y = if ltS x y then -1 else if ltS y x then 1 else 0 := rfl
  by_cases h1 : ltS x y
  · have n1 := less_yes h1
    rw [h, if_pos h1]
    clear h h1
    go_enter Try.func65, Try.ntmps65
    go_wp2_with (go_at_call 88; refine (isNaNs_any _ _).mono ?_; rintro e w' ⟨rfl, rfl⟩)
    go_ret
    exact ⟨rfl, rfl⟩
  · have n1 := less_no h1
    by_cases h2 : ltS y x
    · have n3 : (x.toList == y.toList) = false := by rw [str_eq0]; exact decide_eq_false fun e => ltS_irrefl x (by rw [← e] at h2; exact h2)
      rw [h, if_neg h1, if_pos h2]
      clear h h1 h2
      go_enter Try.func65, Try.ntmps65
      go_wp2_with (go_at_call 88; refine (isNaNs_any _ _).mono ?_; rintro e w' ⟨rfl, rfl⟩)
      go_ret
      exact ⟨rfl, rfl⟩
    · have n3 : (x.toList == y.toList) = true := by rw [str_eq0]; exact decide_eq_true (ltS_eq h1 h2)
      rw [h, if_neg h1, if_neg h2]
      clear h h1 h2
      go_enter Try.func65, Try.ntmps65
      go_wp2_with (go_at_call 88; refine (isNaNs_any _ _).mono ?_; rintro e w' ⟨rfl, rfl⟩)
      go_ret
      exact ⟨rfl, rfl⟩

/-- Blocks laid, draws drawn; nothing else turned. -/
def Grn (w w' : World) : Prop := ∃ q os, w' = Go.Sort.grow (w.drewN q) os
theorem Grn.refl (w : World) : Grn w w := ⟨0, #[], by rw [Go.Sort.grow_empty]; rfl⟩
theorem Grn.alloc {w w' : World} (h : Grn w w') (o : Obj) : Grn w (w'.alloc o) := by
  obtain ⟨q, os, rfl⟩ := h
  exact ⟨q, os ++ #[o], by rw [Go.Sort.alloc_eq_grow, Go.Sort.grow_grow]⟩
theorem Grn.drew {w w' : World} (h : Grn w w') : Grn w w'.drew := by
  obtain ⟨q, os, rfl⟩ := h
  exact ⟨q + 1, os, rfl⟩
theorem Grn.drewN {w w' : World} (h : Grn w w') (k : Nat) : Grn w (w'.drewN k) := by
  obtain ⟨q, os, rfl⟩ := h
  exact ⟨q + k, os, by simp [Go.Sort.grow, World.drewN, Nat.add_assoc]⟩
theorem Grn.trans {a b c : World} (h : Grn a b) (k : Grn b c) : Grn a c := by
  obtain ⟨q, os, rfl⟩ := h
  obtain ⟨r, ps, rfl⟩ := k
  exact ⟨q + r, os ++ ps, by simp [Go.Sort.grow, World.drewN, Array.append_assoc, Nat.add_assoc]⟩
theorem Grn.below {w w' : World} (h : Grn w w') : Below w.heap.size w w' := by
  obtain ⟨q, os, rfl⟩ := h
  exact ⟨rfl, rfl, rfl, by simp [Go.Sort.grow, World.drewN], fun k hk => Go.Sort.heap_grow_old (w.drewN q) os hk⟩
def RetG (w : World) (v : Value) (e : Ending) (w' : World) : Prop := e = .returned v ∧ Grn w w'
theorem Grn.new (w : World) (o : Obj) : Grn w (w.alloc o) := (Grn.refl w).alloc o
theorem En.cells (x : En) : x.v = .agg #[.int .i64 x.g, .string x.nm, .string x.ky, .string x.vl] := rfl
theorem pl1_any (x y : En) (w : World) : Calls Try.prog 80 #[.agg #[.int .i64 x.g, .string x.nm, .string x.ky, .string x.vl], .agg #[.int .i64 y.g, .string y.nm, .string y.ky, .string y.vl]] w (RetG w (.int .i64 (cmpI x.g y.g))) := by
  have hG := (Grn.new w (.cells #[.int .i64 x.g, .string x.nm, .string x.ky, .string x.vl] 57)).alloc (.cells #[.int .i64 y.g, .string y.nm, .string y.ky, .string y.vl] 57)
  go_enter Try.func80, Try.ntmps80
  go_wp2_with (go_at_call 81; refine (cmpi_any _ _ _).mono ?_; rintro e w' ⟨rfl, rfl⟩)
  go_ret
  exact ⟨rfl, hG⟩
theorem pl2_any (x y : En) (w : World) : Calls Try.prog 82 #[.agg #[.int .i64 x.g, .string x.nm, .string x.ky, .string x.vl], .agg #[.int .i64 y.g, .string y.nm, .string y.ky, .string y.vl]] w (RetG w (.int .i64 (cmpS x.nm y.nm))) := by
  have hG := (Grn.new w (.cells #[.int .i64 x.g, .string x.nm, .string x.ky, .string x.vl] 57)).alloc (.cells #[.int .i64 y.g, .string y.nm, .string y.ky, .string y.vl] 57)
  go_enter Try.func82, Try.ntmps82
  go_wp2_with (go_at_call 65; refine (cmps_any _ _ _).mono ?_; rintro e w' ⟨rfl, rfl⟩)
  go_ret
  exact ⟨rfl, hG⟩
theorem pl3_any (x y : En) (w : World) : Calls Try.prog 83 #[.agg #[.int .i64 x.g, .string x.nm, .string x.ky, .string x.vl], .agg #[.int .i64 y.g, .string y.nm, .string y.ky, .string y.vl]] w (RetG w (.int .i64 (cmpS x.ky y.ky))) := by
  have hG := (Grn.new w (.cells #[.int .i64 x.g, .string x.nm, .string x.ky, .string x.vl] 57)).alloc (.cells #[.int .i64 y.g, .string y.nm, .string y.ky, .string y.vl] 57)
  go_enter Try.func83, Try.ntmps83
  go_wp2_with (go_at_call 65; refine (cmps_any _ _ _).mono ?_; rintro e w' ⟨rfl, rfl⟩)
  go_ret
  exact ⟨rfl, hG⟩
theorem ce1_any (x y : En) (w : World) : Calls Try.prog 64 #[.agg #[.int .i64 x.g, .string x.nm, .string x.ky, .string x.vl], .agg #[.int .i64 y.g, .string y.nm, .string y.ky, .string y.vl]] w (RetG w (.int .i64 (cmpS x.vl y.vl))) := by
  have hG := (Grn.new w (.cells #[.int .i64 x.g, .string x.nm, .string x.ky, .string x.vl] 57)).alloc (.cells #[.int .i64 y.g, .string y.nm, .string y.ky, .string y.vl] 57)
  go_enter Try.func64, Try.ntmps64
  go_wp2_with (go_at_call 65; refine (cmps_any _ _ _).mono ?_; rintro e w' ⟨rfl, rfl⟩)
  go_ret
  exact ⟨rfl, hG⟩
end Go.Proofs.Ythngjbhamgmcgaa
