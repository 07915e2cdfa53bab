/-
  The walks of the reference's Project and Picks.
-/
import Derived.Test.YtljglceaibgknaaGreatDoorPjA
namespace Go.Proofs.YtljglceaibgknaaGreatDoor
open Go.RowKit Go.Proofs
attribute [local go_sem] Oper.semAt_some
set_option linter.unusedVariables false
set_option linter.unusedSimpArgs false

set_option maxRecDepth 100000 in
set_option maxHeartbeats 4000000 in
theorem Picks_any (A : Option Addr) (n c : Nat) (r : Rw) (A' : Option Addr) (n' c' : Nat) (xs : List Int) (w : World) (hr : Reads w w.heap.size 3 A n (r.flatMap encV)) (hn : n ≤ 9223372036854775807)
    (hx : Reads w w.heap.size 1 A' n' (xs.map (Value.int .i64))) (h8 : n' ≤ 1000) (hk : ∀ (k : Nat) (x : Int), xs[k]? = some x → 0 ≤ x ∧ x ≤ (n : Int) - 1) :
    Calls Tryz.prog 27 #[.slice A n c, .slice A' n' c'] w (RetSl w 3 n' ((pick r xs).flatMap encV)) := by
  obtain ⟨i0, hi, hz0, hz1, hz2⟩ := info_parts infoV
  have HL := hide (hr.len encV_len (by omega))
  have HLx := hide hx.len1
  have HK := hide hk
  clear hk
  go_enter Tryz.func27, Tryz.ntmps27
  go_wp2_with fail
  have ow0 : w.ownsRow w.heap.size 68 3 (.slice none 0 0) 0 [] := World.ownsRow_nil _ _ _ _
  go_loopw [5, 6] (fun v i wr => ∃ k : Nat, k ≤ n' ∧ i = .int .i64 k ∧ wr.ownsRow w.heap.size 68 3 v k ((pick r (xs.take k)).flatMap encV) ∧ Below w.heap.size w wr) (fun _ i _ => n' - (intOf i).toNat)
  case atStart => exact ⟨0, Nat.zero_le _, rfl, ow0, Below.refl _ _⟩
  case round =>
    clear ow0
    obtain ⟨k, hk, rfl, hown, hBr⟩ := hrel
    by_cases hlt : k < n'
    · obtain ⟨b', off', y, hA', hb', hyk, hcy⟩ := (hx.below hBr).at1 hlt
      have hy := HK.out k y hyk
      obtain ⟨t, rfl⟩ : ∃ t : Nat, y = (t : Int) := ⟨y.toNat, by omega⟩
      obtain ⟨b, off, x, hA, hb, hxk, hcx⟩ := (hr.below hBr).elem encV_len HL.out (show t < n by omega)
      have HS := hide (show (pick r (xs.take (k + 1))).flatMap encV = (pick r (xs.take k)).flatMap encV ++ encV x by rw [take_snoc' hyk, pick_snoc r _ _ x (by simpa using hxk), List.flatMap_append]; simp)
      have e0 : wr.cell? ⟨b, off + t * 3, none⟩ = some (.int .i64 x.k) := by simpa using hcx 0 _ rfl
      have e1 : wr.cell? ⟨b, off + t * 3 + 1, none⟩ = some (.int .i64 x.n) := by simpa [← Nat.add_assoc] using hcx 1 _ rfl
      have e2 : wr.cell? ⟨b, off + t * 3 + 2, none⟩ = some (.string x.s) := by simpa [← Nat.add_assoc] using hcx 2 _ rfl
      clear hcx hxk hyk
      rw [hA, hA']
      have HA := hide hA
      have HA' := hide hA'
      clear hA hA'
      have q1 : (0 : Int) ≤ (k : Int) := by omega
      have q2 : (k : Int) < (n' : Int) := by omega
      have q3 : (0 : Int) ≤ (t : Int) := by omega
      have q4 : (t : Int) < (n : Int) := by omega
      obtain ⟨PL, hPL⟩ : ∃ PL, (pick r (xs.take k)).flatMap encV = PL := ⟨_, rfl⟩
      have HPL := hide hPL
      rw [hPL] at hown
      clear hPL
      have vA2 := hown.alloc (.cells #[.int .i64 x.k, .int .i64 x.n, .string x.s] 68)
      have bA2 := hBr.alloc hBr.size (.cells #[.int .i64 x.k, .int .i64 x.n, .string x.s] 68)
      have xs2 : w.heap.size ≤ (wr.alloc (.cells #[.int .i64 x.k, .int .i64 x.n, .string x.s] 68)).heap.size := bA2.size
      go_wp2_with (at_builtin; refine wpList_append_any _ rfl _ _ 42 rfl w.heap.size 68 i0 _ 3 32 Tryz.underlying42 hi hz0 hz1 hz2 rfl (by decide) _ k PL rfl vA2 (wr.heap.size + 1) (some ⟨wr.heap.size, 0, none⟩) 1 1 (encV x) rfl (rd_blk wr (encV x) _) one_encV (by unfold maxLen; omega) (by omega) xs2 ?_; intro v3 w3 hown3 hgrow hat)
      have hBe : Below w.heap.size w w3 := below_append bA2 vA2 xs2 hgrow
      have HO := hide (show w3.ownsRow w.heap.size 68 3 v3 (k + 1) ((pick r (xs.take (k + 1))).flatMap encV) by rw [HS.out, HPL.out]; exact hown3)
      clear hown3 hgrow hat bA2 vA2 hown hBr e0 e1 e2
      go_wp2_with fail
      go_roundw
      case rel => exact ⟨k + 1, by omega, by go_num, HO.out, hBe⟩
      case measure => simp [intOf]; omega
    · obtain rfl : n' = k := by omega
      rw [take_all HLx.out] at hown
      obtain ⟨A3, c3, rfl, hR⟩ := own_form hown
      have HRR := hide hR
      clear hR hown
      go_wp2_with fail
      go_ret
      exact ⟨A3, c3, rfl, HRR.out, hBr⟩
end Go.Proofs.YtljglceaibgknaaGreatDoor
