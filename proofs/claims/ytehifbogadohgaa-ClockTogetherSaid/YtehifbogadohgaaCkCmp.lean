/-
  The walks of cmp.Compare and cmp.Or at int, of clock.Compare, ValidWindow and Contains, for every input.
-/
import Derived.Test.YtehifbogadohgaaCkD
import Derived.Deep.RegionHeld3
namespace Go.Proofs.Ytehifbogadohgaa
open Go.RowKit Go.Shelf

def cmpI (a b : Int) : Int := if a < b then -1 else if b < a then 1 else 0
theorem cmpI_lt {a b : Int} (h : a < b) : cmpI a b = -1 := by simp [cmpI, h]
theorem cmpI_gt {a b : Int} (h : b < a) : cmpI a b = 1 := by unfold cmpI; rw [if_neg (by omega), if_pos h]
theorem cmpI_eq (a : Int) : cmpI a a = 0 := by simp [cmpI]

theorem isNaN_any (a : Int) (w : World) : Calls Try.prog 62 #[.int .i64 a] w fun e w' => e = .returned (.bool false) ∧ w = w' := by
  go_enter Try.func62, Try.ntmps62
  go_wp2
  go_ret
  exact ⟨by simp, rfl⟩

theorem cmpCompare_any (a b : Int) (w : World) : Calls Try.prog 49 #[.int .i64 a, .int .i64 b] w fun e w' => e = .returned (.int .i64 (cmpI a b)) ∧ w = w' := by
  rcases Int.lt_trichotomy a b with h | h | h
  · have h' : ¬ b < a := by omega
    have HR := hide (cmpI_lt h)
    go_enter Try.func49, Try.ntmps49
    go_wp2_with (go_at_call 62; refine (isNaN_any _ _).mono ?_; rintro e w' ⟨rfl, rfl⟩)
    go_ret
    exact ⟨ret_int HR.out.symm, rfl⟩
  · subst h
    have HR := hide (cmpI_eq a)
    go_enter Try.func49, Try.ntmps49
    go_wp2_with (go_at_call 62; refine (isNaN_any _ _).mono ?_; rintro e w' ⟨rfl, rfl⟩)
    go_ret
    exact ⟨ret_int HR.out.symm, rfl⟩
  · have h' : ¬ a < b := by omega
    have HR := hide (cmpI_gt h)
    go_enter Try.func49, Try.ntmps49
    go_wp2_with (go_at_call 62; refine (isNaN_any _ _).mono ?_; rintro e w' ⟨rfl, rfl⟩)
    go_ret
    exact ⟨ret_int HR.out.symm, rfl⟩

def orI (x y : Int) : Int := if x = 0 then y else x
theorem Or_any (g : Nat) (x y : Int) (w : World) (h0 : w.cell? ⟨g, 0, none⟩ = some (.int .i64 x)) (h1 : w.cell? ⟨g, 1, none⟩ = some (.int .i64 y)) :
    Calls Try.prog 48 #[.slice (some ⟨g, 0, none⟩) 2 2] w fun e w' => e = .returned (.int .i64 (orI x y)) ∧ w = w' := by
  by_cases hx : x = 0
  · subst hx
    by_cases hy : y = 0
    · subst hy
      go_enter Try.func48, Try.ntmps48
      go_wp2_with fail
      refine wp_loop_rounds 3 ?_
      rw [rounds_succ]
      go_wp2
      rw [rounds_succ]
      go_wp2
      rw [rounds_succ]
      go_wp2
      go_ret
      exact ⟨rfl, rfl⟩
    · have hy' : (y != 0) = true := by simpa using hy
      go_enter Try.func48, Try.ntmps48
      go_wp2_with fail
      refine wp_loop_rounds 2 ?_
      rw [rounds_succ]
      go_wp2
      rw [rounds_succ]
      go_wp2
      go_ret
      exact ⟨ret_int (by simp [orI]), rfl⟩
  · have hx' : (x != 0) = true := by simpa using hx
    have HR : Hid (orI x y = x) := hide (by simp [orI, hx])
    clear hx
    go_enter Try.func48, Try.ntmps48
    go_wp2_with fail
    refine wp_loop_rounds 1 ?_
    rw [rounds_succ]
    go_wp2
    go_ret
    exact ⟨ret_int HR.out.symm, rfl⟩

def cmpW (a b a' b' : Int) : Int := orI (cmpI a a') (cmpI b b')
set_option maxHeartbeats 2000000 in
theorem Compare_any (a b a' b' : Int) (w : World) : Calls Try.prog 19 #[.agg #[.int .i64 a, .int .i64 b], .agg #[.int .i64 a', .int .i64 b']] w (RetV w (.int .i64 (cmpW a b a' b'))) := by
  obtain ⟨W, hW⟩ : ∃ W, (w.alloc (.cells #[.int .i64 a, .int .i64 b] 35)).alloc (.cells #[.int .i64 a', .int .i64 b'] 35) = W := ⟨_, rfl⟩
  have b1 : Blk W w.heap.size 35 #[.int .i64 a, .int .i64 b] := by rw [← hW]; exact (Blk.new w _ _).alloc _
  have b2 : Blk W (w.heap.size + 1) 35 #[.int .i64 a', .int .i64 b'] := by
    rw [← hW]; have := Blk.new (w.alloc (.cells #[.int .i64 a, .int .i64 b] 35)) 35 #[.int .i64 a', .int .i64 b']; rwa [World.size_alloc] at this
  have hB0 : Below w.heap.size w W := by rw [← hW]; exact ((Below.refl _ _).alloc (Nat.le_refl _) _).alloc (by simp) _
  have d0 := b1.cell 0
  have d1 := b1.cell 1
  have e0 := b2.cell 0
  have e1 := b2.cell 1
  simp at d0 d1 e0 e1
  go_enter Try.func19, Try.ntmps19
  go_wp2_with fail
  clear hW
  go_region_held3 (fun w' => w'.cell? ⟨w.heap.size, 0, none⟩ = some (.int .i64 a) ∧ w'.cell? ⟨w.heap.size, 1, none⟩ = some (.int .i64 b) ∧ w'.cell? ⟨w.heap.size + 1, 0, none⟩ = some (.int .i64 a') ∧ w'.cell? ⟨w.heap.size + 1, 1, none⟩ = some (.int .i64 b')) (go_keep)
    (first
      | (go_at_call_of 49 (Value.int .i64 a); refine (cmpCompare_any _ _ _).mono ?_; rintro e w' ⟨rfl, rfl⟩)
      | (go_at_call 49; refine (cmpCompare_any _ _ _).mono ?_; rintro e w' ⟨rfl, rfl⟩)
      | (go_at_call 48; refine (Or_any _ (cmpI a a') (cmpI b b') _ ?_ ?_).mono ?_; (simp [World.cell?_alloc_new]); (simp [World.cell?_alloc_new]); rintro e w' ⟨rfl, rfl⟩))
  all_goals (go_wp2; go_ret; exact ⟨rfl, (hB0.alloc hB0.size _).drew⟩)

def vwin (a b : Int) : Bool := decide (a < b ∧ -2000000000000 ≤ a ∧ a ≤ 2000000000000 ∧ -2000000000000 ≤ b ∧ b ≤ 2000000000000)
theorem vwin_eq (a b : Int) : vwin a b = (decide (a < b) && (inB a (-2000000000000) 2000000000000 && inB b (-2000000000000) 2000000000000)) := by
  unfold vwin inB; rw [Bool.eq_iff_iff]; simp; omega
def cont (a b t : Int) : Bool := vwin a b && (vtime t && inB t a (b - 1))
end Go.Proofs.Ytehifbogadohgaa
