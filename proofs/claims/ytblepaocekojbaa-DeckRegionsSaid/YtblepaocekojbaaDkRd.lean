/-
  The walks of slices.Max at the regions' numbers, and of deck.reads.
-/
import Derived.Test.YtblepaocekojbaaDkRW
import Derived.Test.YtblepaocekojbaaGrid
import Derived.Test.YtblepaocekojbaaApp
namespace Go.Proofs.Ytblepaocekojbaa
open Go.RowKit Go.Shelf Go.Deep
attribute [local go_sem] Oper.semAt_some

theorem numb_pos {L : Nat → Nat} (hL : Lab L) {k : Nat} (hk : 1 ≤ k) : 1 ≤ numb L k := by
  have h0 : L 0 = 0 := by have := hL.le 0; omega
  have h1 := numb_mono L hk
  rw [numb_succ, if_pos h0] at h1
  omega
set_option maxHeartbeats 1000000 in
theorem Max_any (L : Nat → Nat) (hL : Lab L) (n c ar offr : Nat) (w : World) (hn : 1 ≤ n) (hn2 : n ≤ 1000) (hr : ∀ i, i < n → w.cell? ⟨ar, offr + i, none⟩ = some (.int .i64 ((numOf L i : Nat) : Int))) :
    Calls Try.prog 63 #[.slice (some ⟨ar, offr, none⟩) n c] w fun e w' => e = .returned (.int .i64 ((numb L n : Nat) - 1 : Int)) ∧ w = w' := by
  have c0 := hr 0 (by omega)
  have h0 : numOf L 0 = 0 := by unfold numOf; rw [show L 0 = 0 by have := hL.le 0; omega]; rfl
  rw [h0, Nat.add_zero] at c0
  have hn3 : ¬ ((n : Int) < 1) := by omega
  have HR := hide hr
  have HLL := hide hL
  have h1 : numb L 1 = 1 := by rw [numb_succ, if_pos (by have := hL.le 0; omega)]; rfl
  have H1 := hide h1
  clear hr h0 h1 hL
  go_enter Try.func63, Try.ntmps63
  go_wp2_with fail
  go_loop [3, 4] (fun m i => ∃ k : Nat, 1 ≤ k ∧ k ≤ n ∧ i = .int .i64 k ∧ m = .int .i64 ((numb L k : Nat) - 1 : Int)) (fun _ i => n - (intOf i).toNat)
  case atStart => exact ⟨1, Nat.le_refl _, hn, rfl, by rw [H1.out]; rfl⟩
  case round =>
    obtain ⟨k, hk1, hk, rfl, rfl⟩ := hrel
    have hp := numb_pos HLL.out hk1
    have hle := numb_le L k
    by_cases hlt : k < n
    · have ck := HR.out k hlt
      have hmx := max_num HLL.out k
      have hyb : numOf L k ≤ k := Nat.le_trans (numb_le _ _) (HLL.out.le k)
      obtain ⟨x, hx⟩ : ∃ x, numb L k = x := ⟨_, rfl⟩
      obtain ⟨y, hy⟩ : ∃ y, numOf L k = y := ⟨_, rfl⟩
      rw [hx] at hmx hp hle ⊢
      rw [hy] at hmx ck hyb
      have HMX := hide hmx
      clear hmx hx hy
      by_cases hxy : x < y + 1
      · have n1 : (x : Int) - 1 < (y : Int) := by omega
        go_wp2
        go_round
        case rel => exact ⟨k + 1, by omega, by omega, by go_num, by rw [← HMX.out, Nat.max_eq_right (by omega)]; congr 1; omega⟩
        case measure => simp [intOf]; omega
      · have n1 : ¬ ((x : Int) - 1 < (y : Int)) := by omega
        go_wp2
        go_round
        case rel => exact ⟨k + 1, by omega, by omega, by go_num, by rw [← HMX.out, Nat.max_eq_left (by omega)]⟩
        case measure => simp [intOf]; omega
    · obtain rfl : k = n := by omega
      go_wp2
      go_ret
      exact ⟨rfl, rfl⟩
end Go.Proofs.Ytblepaocekojbaa
