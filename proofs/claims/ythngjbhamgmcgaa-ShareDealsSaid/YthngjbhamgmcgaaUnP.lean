/-
  The walk of share.Union, whatever dealing does.
-/
import Derived.Test.YthngjbhamgmcgaaUnR
namespace Go.Proofs.Ythngjbhamgmcgaa
open Go.RowKit Go.Shelf Go.Deep
attribute [local go_sem] Oper.semAt_some

/-- The numbers below k. -/
def upto (k : Nat) : List Int := (List.range k).map Int.ofNat
theorem upto_len (k : Nat) : (upto k).length = k := by simp [upto]
theorem upto_snoc (k : Nat) : upto (k + 1) = upto k ++ [(k : Int)] := by unfold upto; rw [List.range_succ, List.map_append]; rfl


set_option maxRecDepth 100000 in
set_option maxHeartbeats 1000000 in
theorem Union_mid (A : Option Addr) (n c : Nat) (N : Nat) (hN1 : 1 ≤ N) (hN16 : N ≤ 16) (w : World) (Q : Value → Value → World → Prop)
    (hD : ∀ W A' c', Below w.heap.size w W → w.heap.size < W.heap.size → W.cell? ⟨w.heap.size, 0, none⟩ = some (.slice A' N c') → Reads W W.heap.size 1 A' N ((upto N).map (Value.int .i64)) →
      Calls Try.prog 49 #[.slice A n c, .int .i64 (N : Int), .func (Fn.func 52) #[] #[.pointer (some ⟨w.heap.size, 0, none⟩)]] W fun e w' => ∃ v1 v2, e = .returned (.tuple #[v1, v2]) ∧ Q v1 v2 w') :
    Calls Try.prog 25 #[.slice A n c, .int .i64 (N : Int)] w fun e w' => ∃ v1 v2, e = .returned (.tuple #[v1, v2]) ∧ Q v1 v2 w' := by
  have HD := hide hD
  clear hD
  obtain ⟨i0, hi, hz0, hz1, hz2⟩ := info_parts Try.infoInt
  have b0 : Boxed (w.alloc (.cells #[.slice none 0 0] 36)) w.heap.size 36 (.slice none 0 0) := Boxed.new _ _ _
  have hB0 : Below w.heap.size w (w.alloc (.cells #[.slice none 0 0] 36)) := (Below.refl _ _).alloc (Nat.le_refl _) _
  go_enter Try.func25, Try.ntmps25
  go_wp2_with fail
  go_loopw [7, 11] (fun _ i wr => ∃ (k : Nat) (v : Value), k ≤ N ∧ i = .int .i64 k ∧ Boxed wr w.heap.size 36 v ∧ wr.ownsRow w.heap.size 3 1 v k ((upto k).map (Value.int .i64)) ∧ Below w.heap.size w wr) (fun _ i _ => N - (intOf i).toNat)
  case atStart => exact ⟨0, _, Nat.zero_le _, rfl, b0, World.ownsRow_nil _ _ _ _, hB0⟩
  case round =>
    clear b0 hB0
    obtain ⟨k, v, hk, rfl, hv, hrow, hB⟩ := hrel
    have hc := hv.cell
    have hWs := hB.size
    have hvl := hv.lt
    by_cases hlt : k < N
    · go_wp2_with (at_builtin; refine wpList_append_own _ rfl _ _ 36 rfl w.heap.size 3 i0 _ 1 8 Try.underlying36 hi hz0 hz1 hz2 rfl (by decide) _ _ _ rfl (hrow.alloc _) ⟨wr.heap.size, 0, none⟩ 1 1 [.int .i64 (k : Int)] rfl rfl (cells_new _ _ _) (by simp [Value.oneCell']) (by unfold maxLen; omega) (by omega) (by simp; omega) ?_; intro v' w1 hown' hgrow _; obtain ⟨g', cap', rfl⟩ := ownsRow_succ hown'; obtain ⟨hv1, hv2, hr2, hk2, hb2⟩ := Boxed.appended hv (by decide) hrow hWs (Nat.le_refl _) hown' hgrow; have hc1 := hv1.cell; have hf1 := hv1.frozen)
      go_roundw
      case rel => exact ⟨k + 1, _, by omega, by go_num, hv2, by rw [upto_snoc, List.map_append]; exact hr2, hB.trans hb2⟩
      case measure => simp [intOf]; omega
    · obtain rfl : k = N := by omega
      obtain ⟨A', c', rfl, hR⟩ := own_form hrow
      go_wp2_with fail
      refine (HD.out _ A' c' hB hvl hc hR).mono ?_
      rintro e w' ⟨v1, v2, rfl, hQ⟩
      go_wp2
      go_ret2
      exact ⟨v1, v2, rfl, hQ⟩

set_option maxRecDepth 100000 in
set_option maxHeartbeats 1000000 in
theorem Union_low (A : Option Addr) (n c : Nat) (P : Int) (hP : P ≤ 0) (w : World) (Q : Value → Value → World → Prop)
    (hD : ∀ W A' c', Below w.heap.size w W → w.heap.size < W.heap.size → W.cell? ⟨w.heap.size, 0, none⟩ = some (.slice A' 0 c') → Reads W W.heap.size 1 A' 0 ((upto 0).map (Value.int .i64)) →
      Calls Try.prog 49 #[.slice A n c, .int .i64 P, .func (Fn.func 52) #[] #[.pointer (some ⟨w.heap.size, 0, none⟩)]] W fun e w' => ∃ v1 v2, e = .returned (.tuple #[v1, v2]) ∧ Q v1 v2 w') :
    Calls Try.prog 25 #[.slice A n c, .int .i64 P] w fun e w' => ∃ v1 v2, e = .returned (.tuple #[v1, v2]) ∧ Q v1 v2 w' := by
  have HD := hide hD
  clear hD
  obtain ⟨i0, hi, hz0, hz1, hz2⟩ := info_parts Try.infoInt
  have b0 : Boxed (w.alloc (.cells #[.slice none 0 0] 36)) w.heap.size 36 (.slice none 0 0) := Boxed.new _ _ _
  have hB0 : Below w.heap.size w (w.alloc (.cells #[.slice none 0 0] 36)) := (Below.refl _ _).alloc (Nat.le_refl _) _
  go_enter Try.func25, Try.ntmps25
  go_wp2_with fail
  go_loopw [7, 11] (fun _ i wr => ∃ (k : Nat) (v : Value), k ≤ 0 ∧ i = .int .i64 k ∧ Boxed wr w.heap.size 36 v ∧ wr.ownsRow w.heap.size 3 1 v k ((upto k).map (Value.int .i64)) ∧ Below w.heap.size w wr) (fun _ i _ => 0 - (intOf i).toNat)
  case atStart => exact ⟨0, _, Nat.zero_le _, rfl, b0, World.ownsRow_nil _ _ _ _, hB0⟩
  case round =>
    clear b0 hB0
    obtain ⟨k, v, hk, rfl, hv, hrow, hB⟩ := hrel
    have hc := hv.cell
    have hWs := hB.size
    have hvl := hv.lt
    obtain rfl : k = 0 := by omega
    obtain ⟨A', c', rfl, hR⟩ := own_form hrow
    go_wp2_with fail
    refine (HD.out _ A' c' hB hvl hc hR).mono ?_
    rintro e w' ⟨v1, v2, rfl, hQ⟩
    go_wp2
    go_ret2
    exact ⟨v1, v2, rfl, hQ⟩

set_option maxRecDepth 100000 in
set_option maxHeartbeats 1000000 in
theorem Union_high (A : Option Addr) (n c : Nat) (P : Int) (hP : 16 < P) (w : World) (Q : Value → Value → World → Prop)
    (hD : ∀ W A' c', Below w.heap.size w W → w.heap.size < W.heap.size → W.cell? ⟨w.heap.size, 0, none⟩ = some (.slice A' 16 c') → Reads W W.heap.size 1 A' 16 ((upto 16).map (Value.int .i64)) →
      Calls Try.prog 49 #[.slice A n c, .int .i64 P, .func (Fn.func 52) #[] #[.pointer (some ⟨w.heap.size, 0, none⟩)]] W fun e w' => ∃ v1 v2, e = .returned (.tuple #[v1, v2]) ∧ Q v1 v2 w') :
    Calls Try.prog 25 #[.slice A n c, .int .i64 P] w fun e w' => ∃ v1 v2, e = .returned (.tuple #[v1, v2]) ∧ Q v1 v2 w' := by
  have HD := hide hD
  clear hD
  obtain ⟨i0, hi, hz0, hz1, hz2⟩ := info_parts Try.infoInt
  have b0 : Boxed (w.alloc (.cells #[.slice none 0 0] 36)) w.heap.size 36 (.slice none 0 0) := Boxed.new _ _ _
  have hB0 : Below w.heap.size w (w.alloc (.cells #[.slice none 0 0] 36)) := (Below.refl _ _).alloc (Nat.le_refl _) _
  go_enter Try.func25, Try.ntmps25
  go_wp2_with fail
  go_loopw [7, 11] (fun _ i wr => ∃ (k : Nat) (v : Value), k ≤ 16 ∧ i = .int .i64 k ∧ Boxed wr w.heap.size 36 v ∧ wr.ownsRow w.heap.size 3 1 v k ((upto k).map (Value.int .i64)) ∧ Below w.heap.size w wr) (fun _ i _ => 16 - (intOf i).toNat)
  case atStart => exact ⟨0, _, Nat.zero_le _, rfl, b0, World.ownsRow_nil _ _ _ _, hB0⟩
  case round =>
    clear b0 hB0
    obtain ⟨k, v, hk, rfl, hv, hrow, hB⟩ := hrel
    have hc := hv.cell
    have hWs := hB.size
    have hvl := hv.lt
    by_cases hlt : k < 16
    · go_wp2_with (at_builtin; refine wpList_append_own _ rfl _ _ 36 rfl w.heap.size 3 i0 _ 1 8 Try.underlying36 hi hz0 hz1 hz2 rfl (by decide) _ _ _ rfl (hrow.alloc _) ⟨wr.heap.size, 0, none⟩ 1 1 [.int .i64 (k : Int)] rfl rfl (cells_new _ _ _) (by simp [Value.oneCell']) (by unfold maxLen; omega) (by omega) (by simp; omega) ?_; intro v' w1 hown' hgrow _; obtain ⟨g', cap', rfl⟩ := ownsRow_succ hown'; obtain ⟨hv1, hv2, hr2, hk2, hb2⟩ := Boxed.appended hv (by decide) hrow hWs (Nat.le_refl _) hown' hgrow; have hc1 := hv1.cell; have hf1 := hv1.frozen)
      go_roundw
      case rel => exact ⟨k + 1, _, by omega, by go_num, hv2, by rw [upto_snoc, List.map_append]; exact hr2, hB.trans hb2⟩
      case measure => simp [intOf]; omega
    · obtain rfl : k = 16 := by omega
      obtain ⟨A', c', rfl, hR⟩ := own_form hrow
      go_wp2_with fail
      refine (HD.out _ A' c' hB hvl hc hR).mono ?_
      rintro e w' ⟨v1, v2, rfl, hQ⟩
      go_wp2
      go_ret2
      exact ⟨v1, v2, rfl, hQ⟩
end Go.Proofs.Ythngjbhamgmcgaa
