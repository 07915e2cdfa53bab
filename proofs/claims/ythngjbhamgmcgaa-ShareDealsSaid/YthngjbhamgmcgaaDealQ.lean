/-
  The walks of share.dealing and share.Deal.
-/
import Derived.Test.YthngjbhamgmcgaaDealP
import Derived.Deep.Onto
namespace Go.Proofs.Ythngjbhamgmcgaa
open Go.RowKit Go.Shelf Go.Deep
attribute [local go_sem] Oper.semAt_some

set_option maxRecDepth 100000 in
set_option maxHeartbeats 4000000 in
theorem dealing_yes (A : Option Addr) (n c : Nat) (R : List RowT) (P : Nat) (f : Nat) (bs : Array Value) (X : Nat → List ByteArray) (w : World) (hx : Tab w w.heap.size A n R) (hn1 : 1 ≤ n) (hn : n ≤ 16) (hss : Short R) (hP1 : 1 ≤ P) (hP : P ≤ 16) (ht : allN R ≤ 400)
    (hD : Calls Try.prog 74 #[.slice A n c, .int .i64 (P : Int), .func (Fn.func f) #[] bs] w fun e w' => ∃ b V, e = .returned (.slice (some ⟨b, 0, none⟩) P P) ∧ GridS w' w.heap.size b P V X ∧ Below w.heap.size w w') :
    Calls Try.prog 49 #[.slice A n c, .int .i64 (P : Int), .func (Fn.func f) #[] bs] w fun e w' => ∃ b V, e = .returned (.tuple #[.slice (some ⟨b, 0, none⟩) P P, .int .i64 0]) ∧ GridS w' w.heap.size b P V X ∧ Below w.heap.size w w' := by
  have CL := hide (lists_short A n c w.heap.size R w hx (by omega) hss)
  have hal := allN_take_le R hss
  have HAL := hide hal
  have HS := hide hss
  have HL := hide hx.len
  clear hss hal
  have hd1 : decide (1 ≤ n ∧ n ≤ 16) = true := by simp; omega
  have hr : rightB (P : Int) 1 = true := by simp [rightB]; omega
  have HD := hide hD
  clear hD
  go_enter Try.func49, Try.ntmps49
  go_wp2_with fail
  go_loop [8, 13] (fun t i => ∃ k : Nat, k ≤ n ∧ i = .int .i64 k ∧ t = .int .i64 (allN (R.take k) : Nat)) (fun _ i => n - (intOf i).toNat)
  case atStart => exact ⟨0, Nat.zero_le _, rfl, rfl⟩
  case round =>
    obtain ⟨k, hk, rfl, rfl⟩ := hrel
    have hb := HAL.out k
    by_cases hlt : k < n
    · obtain ⟨b, off, x, rfl, hb, hxk, hc, hr⟩ := hx.row hlt
      obtain ⟨h1, h2⟩ := HS.out x (List.mem_of_getElem? hxk)
      clear h2
      have HSn := hide (show allN (R.take (k + 1)) = allN (R.take k) + x.n by rw [take_snoc' hxk, allN_snoc])
      clear hxk
      go_wp2
      go_round
      case rel => exact ⟨k + 1, by omega, by go_num, by rw [HSn.out]; go_num⟩
      case measure => simp [intOf]; omega
    · obtain rfl : k = n := by omega
      rw [List.take_of_length_le (Nat.le_of_eq HL.out)] at hb ⊢
      go_wp2_with (first | (go_at_call 73; refine CL.out.mono ?_; rintro e w' ⟨rfl, rfl⟩) | (go_at_call 41; refine (right_any _ _ _).mono ?_; rintro e w' ⟨rfl, rfl⟩) | (go_at_call 74; refine HD.out.mono ?_; rintro e w' ⟨b, V, rfl, hG, hB⟩))
      go_ret2
      exact ⟨b, V, rfl, hG, hB⟩

set_option maxRecDepth 100000 in
set_option maxHeartbeats 4000000 in
theorem dealing_no (A : Option Addr) (n c : Nat) (R : List RowT) (P : Int) (f : Nat) (bs : Array Value) (w : World) (hx : Tab w w.heap.size A n R) (hn : n ≤ 30) (hss : Short R) (he : listsE n P (allN R) ≠ 0) :
    Calls Try.prog 49 #[.slice A n c, .int .i64 P, .func (Fn.func f) #[] bs] w fun e w' => e = .returned (.tuple #[.slice none 0 0, .int .i64 (listsE n P (allN R))]) ∧ w = w' := by
  have CL := hide (lists_short A n c w.heap.size R w hx (by omega) hss)
  have hal := allN_take_le R hss
  have HAL := hide hal
  have HS := hide hss
  have HL := hide hx.len
  have HE := hide he
  clear hss hal he
  go_enter Try.func49, Try.ntmps49
  go_wp2_with fail
  go_loop [8, 13] (fun t i => ∃ k : Nat, k ≤ n ∧ i = .int .i64 k ∧ t = .int .i64 (allN (R.take k) : Nat)) (fun _ i => n - (intOf i).toNat)
  case atStart => exact ⟨0, Nat.zero_le _, rfl, rfl⟩
  case round =>
    obtain ⟨k, hk, rfl, rfl⟩ := hrel
    have hb := HAL.out k
    by_cases hlt : k < n
    · obtain ⟨b, off, x, rfl, hb, hxk, hc, hr⟩ := hx.row hlt
      obtain ⟨h1, h2⟩ := HS.out x (List.mem_of_getElem? hxk)
      clear h2
      have HSn := hide (show allN (R.take (k + 1)) = allN (R.take k) + x.n by rw [take_snoc' hxk, allN_snoc])
      clear hxk
      go_wp2
      go_round
      case rel => exact ⟨k + 1, by omega, by go_num, by rw [HSn.out]; go_num⟩
      case measure => simp [intOf]; omega
    · obtain rfl : k = n := by omega
      rw [List.take_of_length_le (Nat.le_of_eq HL.out)] at hb ⊢
      by_cases h1 : 1 ≤ k ∧ k ≤ 16
      · have d1 : decide (1 ≤ k ∧ k ≤ 16) = true := by simpa using h1
        by_cases h2 : 1 ≤ P ∧ P ≤ 16
        · have hr : rightB P 1 = true := by simp [rightB, h2]
          have h3 : 400 < allN R := by
            have h := HE.out
            unfold listsE at h
            rw [if_pos d1, if_pos (by simpa using h2)] at h
            by_cases h4 : 400 < allN R
            · exact h4
            · rw [if_neg (by simpa using h4)] at h; exact absurd rfl h
          have hE : listsE k P (allN R) = 4 := by unfold listsE; rw [if_pos d1, if_pos (by simpa using h2), if_pos (by simpa using h3)]
          have HE2 := hide hE
          clear hE HE
          go_wp2_with (first | (go_at_call 73; refine CL.out.mono ?_; rintro e w' ⟨rfl, rfl⟩) | (go_at_call 41; refine (right_any _ _ _).mono ?_; rintro e w' ⟨rfl, rfl⟩))
          go_ret2
          exact ⟨by rw [HE2.out] <;> rfl, rfl⟩
        · have hr : rightB P 1 = false := by simp [rightB]; omega
          have hE : listsE k P (allN R) = 7 := by unfold listsE; rw [if_pos d1, if_neg (by simpa using h2)]
          have HE2 := hide hE
          clear hE HE
          go_wp2_with (first | (go_at_call 73; refine CL.out.mono ?_; rintro e w' ⟨rfl, rfl⟩) | (go_at_call 41; refine (right_any _ _ _).mono ?_; rintro e w' ⟨rfl, rfl⟩))
          go_ret2
          exact ⟨by rw [HE2.out] <;> rfl, rfl⟩
      · have d1 : decide (1 ≤ k ∧ k ≤ 16) = false := by simp; omega
        have hE : listsE k P (allN R) = 1 := by unfold listsE; rw [if_neg (by simpa using h1)]
        have HE2 := hide hE
        clear hE HE
        go_wp2_with (first | (go_at_call 73; refine CL.out.mono ?_; rintro e w' ⟨rfl, rfl⟩))
        go_ret2
        exact ⟨by rw [HE2.out] <;> rfl, rfl⟩

set_option maxHeartbeats 1000000 in
theorem Deal_yes (A : Option Addr) (n c : Nat) (R : List RowT) (P : Nat) (w : World) (hx : Tab w w.heap.size A n R) (hn1 : 1 ≤ n) (hn : n ≤ 16) (hss : Short R) (hP1 : 1 ≤ P) (hP : P ≤ 16) (ht : allN R ≤ 400) :
    Calls Try.prog 23 #[.slice A n c, .int .i64 (P : Int)] w fun e w' => ∃ b V, e = .returned (.tuple #[.slice (some ⟨b, 0, none⟩) P P, .int .i64 0]) ∧ GridS w' w.heap.size b P V (dealS P (flat R)) ∧ Below w.heap.size w w' := by
  have hB0 : Below w.heap.size w (w.alloc (.cells #[.int .i64 (P : Int)] 3)) := (Below.refl _ _).alloc (Nat.le_refl _) _
  have hx1 := hx.up hB0
  have hc := fun (hb : w.heap.size < (w.alloc (.cells #[.int .i64 (P : Int)] 3)).heap.size) => dealtRound A n c w.heap.size R P _ hx1 hn hss hP1 hP ht hb (by simp)
  have CD := hide (dealing_yes A n c R P _ _ _ _ hx1 hn1 hn hss hP1 hP ht (hc (by simp)))
  clear hc hss ht
  go_enter Try.func23, Try.ntmps23
  go_wp2_with fail
  refine CD.out.mono ?_
  rintro e w' ⟨b, V, rfl, hG, hB⟩
  go_wp2
  go_ret2
  refine ⟨b, V, rfl, ?_, bstep hB0 hB⟩
  exact ⟨by have := hG.low; rw [World.size_alloc] at this; omega, hG.top, fun p hp => World.ownsRow.mono (hG.row p hp) (by rw [World.size_alloc]; omega), hG.away, hG.apart⟩

set_option maxHeartbeats 1000000 in
theorem Deal_no (A : Option Addr) (n c : Nat) (R : List RowT) (P : Int) (w : World) (hx : Tab w w.heap.size A n R) (hn : n ≤ 30) (hss : Short R) (he : listsE n P (allN R) ≠ 0) :
    Calls Try.prog 23 #[.slice A n c, .int .i64 P] w fun e w' => e = .returned (.tuple #[.slice none 0 0, .int .i64 (listsE n P (allN R))]) ∧ Below w.heap.size w w' := by
  have hB0 : Below w.heap.size w (w.alloc (.cells #[.int .i64 P] 3)) := (Below.refl _ _).alloc (Nat.le_refl _) _
  have CD := hide (fun f bs => dealing_no A n c R P f bs _ (hx.up hB0) hn hss he)
  clear hss he
  go_enter Try.func23, Try.ntmps23
  go_wp2_with fail
  refine (CD.out _ _).mono ?_
  rintro e w' ⟨rfl, rfl⟩
  go_wp2
  go_ret2
  exact ⟨rfl, hB0⟩

set_option maxHeartbeats 1000000 in
theorem RDeal_no (A : Option Addr) (n c : Nat) (R : List RowT) (P : Int) (w : World) (hx : Tab w w.heap.size A n R) (hn : n ≤ 30) (hss : Short R) (he : listsE n P (allN R) ≠ 0) :
    Calls Try.prog 24 #[.slice A n c, .int .i64 P] w fun e w' => e = .returned (.tuple #[.slice none 0 0, .int .i64 (listsE n P (allN R))]) ∧ w = w' := by
  have CL := hide (Rlists_short A n c w.heap.size R P w hx hn hss)
  clear hss
  obtain ⟨q, hq⟩ : ∃ q, listsE n P (allN R) = q := ⟨_, rfl⟩
  rw [hq] at CL he ⊢
  clear hq
  go_enter Try.func24, Try.ntmps24
  go_wp2_with fail
  refine CL.out.mono ?_
  rintro e w' ⟨rfl, rfl⟩
  go_wp2
  go_ret2
  exact ⟨rfl, rfl⟩
end Go.Proofs.Ythngjbhamgmcgaa
