/-
  The walk of the function that deck.Ready gives to slices.ContainsFunc.
-/
import Derived.Test.YtblepaocekojbaaDkRd2
namespace Go.Proofs.Ytblepaocekojbaa
open Go.RowKit Go.Shelf Go.Deep
attribute [local go_sem] Oper.semAt_some

/-- A box that holds a slice over a row of counts. -/
structure Cnts (w : World) (bx gi K : Nat) (I : Nat → Nat) : Prop where
  box : w.cell? ⟨bx, 0, none⟩ = some (.slice (some ⟨gi, 0, none⟩) K K)
  row : ∀ r, r < K → w.cell? ⟨gi, r, none⟩ = some (.int .i64 ((I r : Nat) : Int))
def nilC (I : Nat → Nat) (x : Int) : Bool := decide (I x.toNat = 0)
theorem ready1_any (x bx gi K : Nat) (I : Nat → Nat) (w : World) (h : Cnts w bx gi K I) (hx : x < K) :
    Calls Try.prog 64 #[.int .i64 (x : Int), .pointer (some ⟨bx, 0, none⟩)] w fun e w' => e = .returned (.bool (nilC I (x : Int))) ∧ w = w' := by
  have h1 := h.box
  have h2 := h.row x hx
  have HZ := hide (show (((I x : Nat) : Int) == 0) = nilC I (x : Int) from by
    unfold nilC
    rw [Int.toNat_natCast, Bool.eq_iff_iff, beq_iff_eq, decide_eq_true_eq]
    omega)
  obtain ⟨v, hv⟩ : ∃ v, I x = v := ⟨_, rfl⟩
  rw [hv] at h2 HZ
  clear hv h
  go_enter Try.func64, Try.ntmps64
  go_wp2
  go_ret
  exact ⟨ret_bool HZ.out, rfl⟩

set_option maxHeartbeats 1000000 in
theorem idx_ready (A : Option Addr) (n c B : Nat) (xs : List Int) (bx gi K : Nat) (I : Nat → Nat) (w : World) (hx : Reads w B 1 A n (xs.map (Value.int .i64))) (hn : n ≤ 9223372036854775807) (h : Cnts w bx gi K I) (hin : ∀ x ∈ xs, ∃ a : Nat, x = (a : Int) ∧ a < K) :
    Calls Try.prog 87 #[.slice A n c, .func (Fn.func 64) #[] #[.pointer (some ⟨bx, 0, none⟩)]] w fun e w' => (∃ i : Int, e = .returned (.int .i64 i) ∧ decide (0 ≤ i) = xs.any (nilC I)) ∧ w = w' := by
  have HL := hide hx.len1
  go_enter Try.func87, Try.ntmps87
  go_wp2
  go_loop [8] (fun i => ∃ k : Nat, k ≤ n ∧ i = .int .i64 k ∧ (xs.take k).any (nilC I) = false) (fun i => n - (intOf i).toNat)
  case atStart => exact ⟨0, Nat.zero_le _, rfl, rfl⟩
  case round =>
    obtain ⟨k, hk, rfl, hany⟩ := hrel
    have HA := hide hany
    clear hany
    by_cases hlt : k < n
    · obtain ⟨b, off, x, rfl, hb, hxk, hc⟩ := hx.at1 hlt
      have HXK := hide hxk
      obtain ⟨a, rfl, haK⟩ := hin x (List.mem_of_getElem? hxk)
      clear hxk
      cases hq : nilC I (a : Int)
      · have HQ := hide hq
        go_wp2_with (go_at_call 64; refine (ready1_any a bx gi K I _ h haK).mono ?_; rintro e w' ⟨rfl, rfl⟩)
        go_round
        case rel => exact ⟨k + 1, by omega, by go_num, any_take' _ _ _ _ HXK.out HQ.out HA.out⟩
        case measure => simp [intOf]; omega
      · have HQ := hide hq
        go_wp2_with (go_at_call 64; refine (ready1_any a bx gi K I _ h haK).mono ?_; rintro e w' ⟨rfl, rfl⟩)
        go_ret
        exact ⟨⟨_, rfl, by rw [any_hit _ _ _ _ HXK.out HQ.out]; simp⟩, rfl⟩
    · obtain rfl : k = n := by omega
      go_wp2
      go_ret
      exact ⟨⟨_, rfl, by
        have := HA.out
        rw [take_all HL.out] at this
        rw [this]; rfl⟩, rfl⟩
theorem con_ready (A : Option Addr) (n c B : Nat) (xs : List Int) (bx gi K : Nat) (I : Nat → Nat) (w : World) (hx : Reads w B 1 A n (xs.map (Value.int .i64))) (hn : n ≤ 9223372036854775807) (h : Cnts w bx gi K I) (hin : ∀ x ∈ xs, ∃ a : Nat, x = (a : Int) ∧ a < K) :
    Calls Try.prog 61 #[.slice A n c, .func (Fn.func 64) #[] #[.pointer (some ⟨bx, 0, none⟩)]] w fun e w' => e = .returned (.bool (xs.any (nilC I))) ∧ w = w' := by
  go_enter Try.func61, Try.ntmps61
  go_wp2_with (go_at_call 87; refine (idx_ready A n c B xs bx gi K I _ hx hn h hin).mono ?_; rintro e w' ⟨⟨i, rfl, hi⟩, rfl⟩)
  go_ret
  exact ⟨rfl, rfl⟩
end Go.Proofs.Ytblepaocekojbaa
