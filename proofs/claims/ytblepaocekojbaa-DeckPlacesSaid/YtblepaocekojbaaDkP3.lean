/-
  The walks of Spread and Reactive on both sides.
-/
import Derived.Test.YtblepaocekojbaaDkP2
import Derived.Deep.CutRange
namespace Go.Proofs.Ytblepaocekojbaa
open Go.RowKit Go.Shelf Go.Deep
attribute [local go_sem] Oper.semAt_some

/-- How many of the first k stand on machine m. -/
def numM (l : List Pl) (k m : Nat) : Nat := ((l.take k).filter fun p => decide (p.m = (m : Int))).length
theorem numM_succ {l : List Pl} {k : Nat} {p : Pl} (h : l[k]? = some p) (m : Nat) : numM l (k + 1) m = if p.m = (m : Int) then numM l k m + 1 else numM l k m := by
  unfold numM
  rw [take_snoc' h, List.filter_append, List.length_append]
  by_cases e : p.m = (m : Int)
  · rw [if_pos e]; simp [e]
  · rw [if_neg e]; simp [e]
theorem numM_le (l : List Pl) (k m : Nat) : numM l k m ≤ k := by
  unfold numM
  exact Nat.le_trans (List.length_filter_le _ _) (List.length_take_le _ _)
def sprE (n : Nat) (l : List Pl) (x : Int) : Int := if plcB 20 n l then (if 1 ≤ x ∧ x ≤ 20 then (if plcB x n l then 0 else 1) else 7) else 1
def sprN (n : Nat) (l : List Pl) (x : Int) : Nat := if sprE n l x = 0 then x.toNat else 0
def sprL (n : Nat) (l : List Pl) (x : Int) : List Value := if sprE n l x = 0 then rowL x.toNat fun m => .int .i64 ((numM l n m : Nat) : Int) else []
theorem sprN_no {n : Nat} {l : List Pl} {x E : Int} (h : sprE n l x = E) (hE : E ≠ 0) : sprN n l x = 0 ∧ sprL n l x = [] := by
  unfold sprN sprL; rw [if_neg (by rw [h]; exact hE), if_neg (by rw [h]; exact hE)]; exact ⟨rfl, rfl⟩
theorem sprN_ok {n : Nat} {l : List Pl} {x : Int} (h : sprE n l x = 0) : sprN n l x = x.toNat ∧ sprL n l x = rowL x.toNat fun m => .int .i64 ((numM l n m : Nat) : Int) := by
  unfold sprN sprL; rw [if_pos h, if_pos h]; exact ⟨rfl, rfl⟩
theorem plc_more {x y : Int} {n : Nat} {l : List Pl} (h : plcB x n l = true) (hxy : x ≤ y) : plcB y n l = true := by
  unfold plcB at *
  simp only [Bool.and_eq_true, decide_eq_true_eq, Bool.not_eq_true'] at *
  refine ⟨h.1, ?_⟩
  rw [List.any_eq_false] at *
  intro p hp hb
  refine h.2 p hp ?_
  unfold badP at *
  simp only [Bool.or_eq_true, decide_eq_true_eq] at *
  omega
theorem plc_at {x : Int} {n k : Nat} {l : List Pl} {p : Pl} (h : plcB x n l = true) (hp : l[k]? = some p) : 0 ≤ p.m ∧ p.m < x := by
  unfold plcB at h
  simp only [Bool.and_eq_true, decide_eq_true_eq, Bool.not_eq_true', List.any_eq_false] at h
  have h2 := h.2 p (List.mem_of_getElem? hp)
  unfold badP at h2
  simp only [Bool.or_eq_true, decide_eq_true_eq] at h2
  omega
/-- Not a placement on fewer machines: some place is beyond. -/
theorem plc_beyond {x : Int} {n : Nat} {l : List Pl} (h : plcB 20 n l = true) (hx : ∀ p ∈ l, p.m < x) : plcB x n l = true := by
  unfold plcB at *
  simp only [Bool.and_eq_true, decide_eq_true_eq, Bool.not_eq_true', List.any_eq_false] at *
  refine ⟨h.1, fun p hp hb => h.2 p hp ?_⟩
  have := hx p hp
  unfold badP at *
  simp only [Bool.or_eq_true, decide_eq_true_eq] at *
  omega
theorem reads_zero {w : World} {v : Value} (h : v = .slice none 0 0) : ∃ A c, v = .slice A 0 c ∧ Reads w w.heap.size 1 A 0 [] := ⟨none, 0, h, Reads.none_⟩

theorem spr_unf {n : Nat} {l : List Pl} {x : Int} {b20 bx : Bool} (h20 : plcB 20 n l = b20) (hx : plcB x n l = bx) : sprE n l x = if b20 then (if 1 ≤ x ∧ x ≤ 20 then (if bx then 0 else 1) else 7) else 1 := by
  unfold sprE; rw [h20, hx]
/-- Spread refuses. -/
theorem spr_no {n : Nat} {l : List Pl} {x E : Int} (hE : sprE n l x = E) (h0 : E ≠ 0) {w W : World} (hB : Below w.heap.size w W) : RetSlE w 1 (sprN n l x) (sprL n l x) (sprE n l x) (.returned (.tuple #[.slice none 0 0, .int .i64 E])) W := by
  rw [(sprN_no hE h0).1, (sprN_no hE h0).2, hE]; exact ⟨none, 0, rfl, Reads.none_, hB⟩

set_option maxRecDepth 100000 in
set_option maxHeartbeats 4000000 in
theorem Spread_a0 (A : Option Addr) (n c : Nat) (l : List Pl) (x : Int) (w : World) (hl : Reads w w.heap.size 2 A n (l.flatMap encPl)) (hn : n ≤ 4611686018427387904) (h1 : 1 ≤ x) (h2 : x ≤ 20) (hp : plcB x n l = false) :
    Calls Try.prog 22 #[.slice A n c, .int .i64 x] w (RetSlE w 1 (sprN n l x) (sprL n l x) (sprE n l x)) := by
  have m1 : (if x < 0 then (0 : Int) else x) = x := if_neg (by omega)
  have m2 : (if (20 : Int) < x then (20 : Int) else x) = x := if_neg (by omega)
  have HVW1 := hide hp
  have HE := hide (show sprE n l x = 1 from by cases h20 : plcB 20 n l <;> (rw [spr_unf h20 hp]; simp [h1, h2]))
  have HLW := hide hl
  go_enter Try.func22, Try.ntmps22
  go_wp2_with fail
  refine (placement_any A n c l x w HLW.out hn).mono ?_
  rintro e W1 ⟨rfl, hBW1⟩
  rw [show plcB x n l = false from HVW1.out]
  have HLW2 := hide (HLW.out.up hBW1)
  clear HLW
  have HLW := HLW2
  clear HLW2
  have HR := hide (spr_no HE.out (by omega) hBW1)
  clear hBW1
  go_wp2
  go_ret2
  exact HR.out

set_option maxRecDepth 100000 in
set_option maxHeartbeats 4000000 in
theorem Spread_b1 (A : Option Addr) (n c : Nat) (l : List Pl) (x : Int) (w : World) (hl : Reads w w.heap.size 2 A n (l.flatMap encPl)) (hn : n ≤ 4611686018427387904) (h1 : 20 < x) (hp : plcB 20 n l = true) :
    Calls Try.prog 22 #[.slice A n c, .int .i64 x] w (RetSlE w 1 (sprN n l x) (sprL n l x) (sprE n l x)) := by
  have m1 : (if x < 0 then (0 : Int) else x) = x := if_neg (by omega)
  have m2 : (if (20 : Int) < x then (20 : Int) else x) = 20 := if_pos (by omega)
  have HVW1 := hide hp
  have HVW2 := hide hp
  have HE := hide (show sprE n l x = 7 from by cases hx : plcB x n l <;> (rw [spr_unf hp hx]; simp; omega))
  have HLW := hide hl
  go_enter Try.func22, Try.ntmps22
  go_wp2_with fail
  refine (placement_any A n c l 20 w HLW.out hn).mono ?_
  rintro e W1 ⟨rfl, hBW1⟩
  rw [show plcB 20 n l = true from HVW1.out]
  have HLW2 := hide (HLW.out.up hBW1)
  clear HLW
  have HLW := HLW2
  clear HLW2
  go_wp2_with fail
  refine (placement_any A n c l 20 W1 HLW.out hn).mono ?_
  rintro e W2 ⟨rfl, hBW2⟩
  rw [show plcB 20 n l = true from HVW2.out]
  have HLW2 := hide (HLW.out.up hBW2)
  clear HLW
  have HLW := HLW2
  clear HLW2
  have HR := hide (spr_no HE.out (by omega) (bstep hBW1 hBW2))
  clear hBW1 hBW2
  go_wp2
  go_ret2
  exact HR.out

set_option maxRecDepth 100000 in
set_option maxHeartbeats 4000000 in
theorem Spread_b0 (A : Option Addr) (n c : Nat) (l : List Pl) (x : Int) (w : World) (hl : Reads w w.heap.size 2 A n (l.flatMap encPl)) (hn : n ≤ 4611686018427387904) (h1 : 20 < x) (hp : plcB 20 n l = false) :
    Calls Try.prog 22 #[.slice A n c, .int .i64 x] w (RetSlE w 1 (sprN n l x) (sprL n l x) (sprE n l x)) := by
  have m1 : (if x < 0 then (0 : Int) else x) = x := if_neg (by omega)
  have m2 : (if (20 : Int) < x then (20 : Int) else x) = 20 := if_pos (by omega)
  have HVW1 := hide hp
  have HVW2 := hide hp
  have HE := hide (show sprE n l x = 1 from by cases hx : plcB x n l <;> (rw [spr_unf hp hx]; simp))
  have HLW := hide hl
  go_enter Try.func22, Try.ntmps22
  go_wp2_with fail
  refine (placement_any A n c l 20 w HLW.out hn).mono ?_
  rintro e W1 ⟨rfl, hBW1⟩
  rw [show plcB 20 n l = false from HVW1.out]
  have HLW2 := hide (HLW.out.up hBW1)
  clear HLW
  have HLW := HLW2
  clear HLW2
  go_wp2_with fail
  refine (placement_any A n c l 20 W1 HLW.out hn).mono ?_
  rintro e W2 ⟨rfl, hBW2⟩
  rw [show plcB 20 n l = false from HVW2.out]
  have HLW2 := hide (HLW.out.up hBW2)
  clear HLW
  have HLW := HLW2
  clear HLW2
  have HR := hide (spr_no HE.out (by omega) (bstep hBW1 hBW2))
  clear hBW1 hBW2
  go_wp2
  go_ret2
  exact HR.out

set_option maxRecDepth 100000 in
set_option maxHeartbeats 4000000 in
theorem Spread_c11 (A : Option Addr) (n c : Nat) (l : List Pl) (x : Int) (w : World) (hl : Reads w w.heap.size 2 A n (l.flatMap encPl)) (hn : n ≤ 4611686018427387904) (h1 : x < 1) (hp0 : plcB 0 n l = true) (hp : plcB 20 n l = true) :
    Calls Try.prog 22 #[.slice A n c, .int .i64 x] w (RetSlE w 1 (sprN n l x) (sprL n l x) (sprE n l x)) := by
  have m1 : (if x < 0 then (0 : Int) else x) = 0 := by split <;> omega
  have m2 : max x 0 = 0 := by omega
  have HVW1 := hide hp0
  have HVW2 := hide hp
  have HE := hide (show sprE n l x = 7 from by cases hx : plcB x n l <;> (rw [spr_unf hp hx]; simp; omega))
  have HLW := hide hl
  go_enter Try.func22, Try.ntmps22
  go_wp2_with fail
  refine (placement_any A n c l 0 w HLW.out hn).mono ?_
  rintro e W1 ⟨rfl, hBW1⟩
  rw [show plcB 0 n l = true from HVW1.out]
  have HLW2 := hide (HLW.out.up hBW1)
  clear HLW
  have HLW := HLW2
  clear HLW2
  go_wp2_with fail
  refine (placement_any A n c l 20 W1 HLW.out hn).mono ?_
  rintro e W2 ⟨rfl, hBW2⟩
  rw [show plcB 20 n l = true from HVW2.out]
  have HLW2 := hide (HLW.out.up hBW2)
  clear HLW
  have HLW := HLW2
  clear HLW2
  have HR := hide (spr_no HE.out (by omega) (bstep hBW1 hBW2))
  clear hBW1 hBW2
  go_wp2
  go_ret2
  exact HR.out

set_option maxRecDepth 100000 in
set_option maxHeartbeats 4000000 in
theorem Spread_c10 (A : Option Addr) (n c : Nat) (l : List Pl) (x : Int) (w : World) (hl : Reads w w.heap.size 2 A n (l.flatMap encPl)) (hn : n ≤ 4611686018427387904) (h1 : x < 1) (hp0 : plcB 0 n l = true) (hp : plcB 20 n l = false) :
    Calls Try.prog 22 #[.slice A n c, .int .i64 x] w (RetSlE w 1 (sprN n l x) (sprL n l x) (sprE n l x)) := by
  have m1 : (if x < 0 then (0 : Int) else x) = 0 := by split <;> omega
  have m2 : max x 0 = 0 := by omega
  have HVW1 := hide hp0
  have HVW2 := hide hp
  have HE := hide (show sprE n l x = 1 from by cases hx : plcB x n l <;> (rw [spr_unf hp hx]; simp))
  have HLW := hide hl
  go_enter Try.func22, Try.ntmps22
  go_wp2_with fail
  refine (placement_any A n c l 0 w HLW.out hn).mono ?_
  rintro e W1 ⟨rfl, hBW1⟩
  rw [show plcB 0 n l = true from HVW1.out]
  have HLW2 := hide (HLW.out.up hBW1)
  clear HLW
  have HLW := HLW2
  clear HLW2
  go_wp2_with fail
  refine (placement_any A n c l 20 W1 HLW.out hn).mono ?_
  rintro e W2 ⟨rfl, hBW2⟩
  rw [show plcB 20 n l = false from HVW2.out]
  have HLW2 := hide (HLW.out.up hBW2)
  clear HLW
  have HLW := HLW2
  clear HLW2
  have HR := hide (spr_no HE.out (by omega) (bstep hBW1 hBW2))
  clear hBW1 hBW2
  go_wp2
  go_ret2
  exact HR.out

set_option maxRecDepth 100000 in
set_option maxHeartbeats 4000000 in
theorem Spread_c01 (A : Option Addr) (n c : Nat) (l : List Pl) (x : Int) (w : World) (hl : Reads w w.heap.size 2 A n (l.flatMap encPl)) (hn : n ≤ 4611686018427387904) (h1 : x < 1) (hp0 : plcB 0 n l = false) (hp : plcB 20 n l = true) :
    Calls Try.prog 22 #[.slice A n c, .int .i64 x] w (RetSlE w 1 (sprN n l x) (sprL n l x) (sprE n l x)) := by
  have m1 : (if x < 0 then (0 : Int) else x) = 0 := by split <;> omega
  have m2 : max x 0 = 0 := by omega
  have HVW1 := hide hp0
  have HVW2 := hide hp
  have HE := hide (show sprE n l x = 7 from by cases hx : plcB x n l <;> (rw [spr_unf hp hx]; simp; omega))
  have HLW := hide hl
  go_enter Try.func22, Try.ntmps22
  go_wp2_with fail
  refine (placement_any A n c l 0 w HLW.out hn).mono ?_
  rintro e W1 ⟨rfl, hBW1⟩
  rw [show plcB 0 n l = false from HVW1.out]
  have HLW2 := hide (HLW.out.up hBW1)
  clear HLW
  have HLW := HLW2
  clear HLW2
  go_wp2_with fail
  refine (placement_any A n c l 20 W1 HLW.out hn).mono ?_
  rintro e W2 ⟨rfl, hBW2⟩
  rw [show plcB 20 n l = true from HVW2.out]
  have HLW2 := hide (HLW.out.up hBW2)
  clear HLW
  have HLW := HLW2
  clear HLW2
  have HR := hide (spr_no HE.out (by omega) (bstep hBW1 hBW2))
  clear hBW1 hBW2
  go_wp2
  go_ret2
  exact HR.out

set_option maxRecDepth 100000 in
set_option maxHeartbeats 4000000 in
theorem Spread_c00 (A : Option Addr) (n c : Nat) (l : List Pl) (x : Int) (w : World) (hl : Reads w w.heap.size 2 A n (l.flatMap encPl)) (hn : n ≤ 4611686018427387904) (h1 : x < 1) (hp0 : plcB 0 n l = false) (hp : plcB 20 n l = false) :
    Calls Try.prog 22 #[.slice A n c, .int .i64 x] w (RetSlE w 1 (sprN n l x) (sprL n l x) (sprE n l x)) := by
  have m1 : (if x < 0 then (0 : Int) else x) = 0 := by split <;> omega
  have m2 : max x 0 = 0 := by omega
  have HVW1 := hide hp0
  have HVW2 := hide hp
  have HE := hide (show sprE n l x = 1 from by cases hx : plcB x n l <;> (rw [spr_unf hp hx]; simp))
  have HLW := hide hl
  go_enter Try.func22, Try.ntmps22
  go_wp2_with fail
  refine (placement_any A n c l 0 w HLW.out hn).mono ?_
  rintro e W1 ⟨rfl, hBW1⟩
  rw [show plcB 0 n l = false from HVW1.out]
  have HLW2 := hide (HLW.out.up hBW1)
  clear HLW
  have HLW := HLW2
  clear HLW2
  go_wp2_with fail
  refine (placement_any A n c l 20 W1 HLW.out hn).mono ?_
  rintro e W2 ⟨rfl, hBW2⟩
  rw [show plcB 20 n l = false from HVW2.out]
  have HLW2 := hide (HLW.out.up hBW2)
  clear HLW
  have HLW := HLW2
  clear HLW2
  have HR := hide (spr_no HE.out (by omega) (bstep hBW1 hBW2))
  clear hBW1 hBW2
  go_wp2
  go_ret2
  exact HR.out

set_option maxRecDepth 100000 in
set_option maxHeartbeats 4000000 in
theorem Spread_ok (A : Option Addr) (n c : Nat) (l : List Pl) (x : Int) (w : World) (hl : Reads w w.heap.size 2 A n (l.flatMap encPl)) (hn : n ≤ 4611686018427387904) (X : Nat) (hxX : x = (X : Int)) (h1 : 1 ≤ X) (h2 : X ≤ 20) (hp : plcB x n l = true) :
    Calls Try.prog 22 #[.slice A n c, .int .i64 x] w (RetSlE w 1 (sprN n l x) (sprL n l x) (sprE n l x)) := by
  have h20 := plc_more hp (show x ≤ 20 by omega)
  have hE : sprE n l x = 0 := by rw [spr_unf h20 hp]; simp; omega
  have hn2 := plc_le hp
  have HL := hide (hl.len encPl_len (by omega))
  have m1 : (if x < 0 then (0 : Int) else x) = x := if_neg (by omega)
  have m2 : (if (20 : Int) < x then (20 : Int) else x) = x := if_neg (by omega)
  have hmk := fun W => run_make_row' (P := Try.prog) 22 3 (.int .i64 0) 8 Try.underlying22 infoInt_dk rfl .i64 .i64 X (by omega) (by omega) W
  have HVW1 := hide hp
  have HVW2 := hide h20
  have HAT := hide (fun k p (h : l[k]? = some p) => plc_at hp h)
  have HE := hide (sprN_ok hE)
  have HE0 := hide hE
  have HXX := hide hxX
  have HLW := hide hl
  clear hp h20 hE
  subst hxX
  go_enter Try.func22, Try.ntmps22
  go_wp2_with fail
  refine (placement_any A n c l (X : Int) w HLW.out hn).mono ?_
  rintro e W1 ⟨rfl, hBW1⟩
  rw [show plcB (X : Int) n l = true from HVW1.out]
  have HLW2 := hide (HLW.out.up hBW1)
  clear HLW
  have HLW := HLW2
  clear HLW2
  go_wp2_with fail
  refine (placement_any A n c l 20 W1 HLW.out hn).mono ?_
  rintro e W2 ⟨rfl, hBW2⟩
  rw [show plcB 20 n l = true from HVW2.out]
  have HLW2 := hide (HLW.out.up hBW2)
  clear HLW
  have HLW := HLW2
  clear HLW2
  have hBB := bstep hBW1 hBW2
  clear hBW1 hBW2
  obtain ⟨WB, hWB⟩ : ∃ WB, W2 = WB := ⟨_, rfl⟩
  rw [hWB] at HLW hBB ⊢
  clear hWB
  have m7 := World.rowIs_made WB (.int .i64 0) X 3
  obtain ⟨gb, hgb⟩ : ∃ gb, WB.heap.size = gb := ⟨_, rfl⟩
  have hB3 : Below gb WB (WB.alloc (.cells (madeCells #[.int .i64 0] X) 3)) := (Below.refl _ _).alloc (by rw [hgb]; exact Nat.le_refl _) _
  have hs3 : (WB.alloc (.cells (madeCells #[.int .i64 0] X) 3)).heap.size = gb + 1 := by rw [World.size_alloc, hgb]
  rw [hgb] at m7
  have hl3 : Reads WB gb 2 A n (l.flatMap encPl) := by rw [← hgb]; exact HLW.out
  have hwgb : w.heap.size ≤ gb := by rw [← hgb]; exact hBB.size
  go_upto_region 6 with fail
  obtain ⟨W3, hW3⟩ : ∃ W3, WB.alloc (.cells (madeCells #[.int .i64 0] X) 3) = W3 := ⟨_, rfl⟩
  rw [hW3] at m7 hB3 hs3 ⊢
  clear hW3 hmk hgb
  have hl4 := hl3.below hB3
  have hBw := hBB.trans (hB3.mono hwgb)
  go_wp2_with fail
  go_loopw [8, 40] (fun _ i wr => ∃ k : Nat, k ≤ n ∧ i = .int .i64 k ∧ wr.rowIs gb 3 X (fun m => .int .i64 ((numM l k m : Nat) : Int)) ∧ Below gb W3 wr) (fun _ i _ => n - (intOf i).toNat)
  case atStart => exact ⟨0, Nat.zero_le _, rfl, m7.congr (fun m _ => rfl), Below.refl _ _⟩
  case round =>
    clear m7
    obtain ⟨k, hk, rfl, hrow, hB⟩ := hrel
    have hWs := hB.size
    by_cases hlt : k < n
    · obtain ⟨b, off, e, ha, hb, hek, hce⟩ := (hl4.below hB).elem encPl_len HL.out hlt
      have e0 : wr.cell? ⟨b, off + k * 2, none⟩ = some (.int .i64 e.m) := by simpa using hce 0 _ rfl
      have e1 : wr.cell? ⟨b, off + k * 2 + 1, none⟩ = some (.int .i64 e.s) := by simpa [← Nat.add_assoc] using hce 1 _ rfl
      have hat := HAT.out k e hek
      have HNM := hide (numM_succ hek)
      clear hce hek
      rw [ha]
      clear ha
      obtain ⟨em, hem⟩ := Int.eq_ofNat_of_zero_le hat.1
      rw [hem] at e0 hat HNM
      have hemX : em < X := by omega
      have hB2 := hB.alloc (by omega) (.cells #[.int .i64 (em : Int), .int .i64 e.s] 85)
      have hrow2 := hrow.alloc (.cells #[.int .i64 (em : Int), .int .i64 e.s] 85)
      have hle := numM_le l k em
      obtain ⟨q, hq⟩ : ∃ q, numM l k em = q := ⟨_, rfl⟩
      have ce := hrow2.cell hemX
      have fe := hrow2.frozen em
      have se := hrow2.set em (.int .i64 ((q : Int) + 1))
      have hB4 := hB2.setCell (p := ⟨gb, em, none⟩) (Nat.le_refl _) (.int .i64 ((q : Int) + 1))
      rw [hq] at ce hle
      have HQ := hide hq
      clear hq hrow hB hrow2 hB2
      go_wp2
      go_roundw
      case rel => exact ⟨k + 1, by omega, by go_num, se.congr (fun m _ => by
        rw [HNM.out m]
        by_cases e : m = em
        · subst e; rw [if_pos rfl, if_pos rfl, HQ.out]; simp
        · rw [if_neg e, if_neg (by omega)]), hB4⟩
      case measure => simp [intOf]; omega
    · obtain rfl : k = n := by omega
      have HR := hide (show RetSlE w 1 (sprN k l (X : Int)) (sprL k l (X : Int)) (sprE k l (X : Int)) (.returned (.tuple #[.slice (some ⟨gb, 0, none⟩) X X, .int .i64 0])) wr from by
        rw [HE.out.1, HE.out.2, HE0.out]
        exact ⟨some ⟨gb, 0, none⟩, X, rfl, ⟨by rw [rowL_len]; simp, fun _ => ⟨gb, 0, rfl, by omega, fun j u hu => by
          have hj := (List.getElem?_eq_some_iff.1 hu).1
          rw [rowL_len] at hj
          rw [Nat.zero_add, hrow.cell (by simpa using hj)]
          rw [rowL_get _ hj] at hu
          exact hu⟩⟩, hBw.trans (hB.mono hwgb)⟩)
      clear hrow hB
      go_wp2
      go_ret2
      exact HR.out

theorem Spread_any (A : Option Addr) (n c : Nat) (l : List Pl) (x : Int) (w : World) (hl : Reads w w.heap.size 2 A n (l.flatMap encPl)) (hn : n ≤ 4611686018427387904) :
    Calls Try.prog 22 #[.slice A n c, .int .i64 x] w (RetSlE w 1 (sprN n l x) (sprL n l x) (sprE n l x)) := by
  by_cases h1 : 1 ≤ x
  · by_cases h2 : x ≤ 20
    · cases hp : plcB x n l
      · exact Spread_a0 A n c l x w hl hn h1 h2 hp
      · exact Spread_ok A n c l x w hl hn x.toNat (by omega) (by omega) (by omega) hp
    · cases hp : plcB 20 n l
      · exact Spread_b0 A n c l x w hl hn (by omega) hp
      · exact Spread_b1 A n c l x w hl hn (by omega) hp
  · cases h0 : plcB 0 n l <;> cases hp : plcB 20 n l
    · exact Spread_c00 A n c l x w hl hn (by omega) h0 hp
    · exact Spread_c01 A n c l x w hl hn (by omega) h0 hp
    · exact Spread_c10 A n c l x w hl hn (by omega) h0 hp
    · exact Spread_c11 A n c l x w hl hn (by omega) h0 hp
end Go.Proofs.Ytblepaocekojbaa
