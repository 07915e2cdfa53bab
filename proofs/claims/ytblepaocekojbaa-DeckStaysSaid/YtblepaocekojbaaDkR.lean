/-
  The walk of deck.regions' root.
-/
import Derived.Test.YtblepaocekojbaaDkG
import Derived.Test.YtblepaocekojbaaDkV
import Derived.Deep.OwnRows
namespace Go.Proofs.Ytblepaocekojbaa
open Go.RowKit Go.Shelf Go.Deep
attribute [local go_sem] Oper.semAt_some

set_option maxHeartbeats 1000000 in
theorem root_any (bx i : Nat) (tb : TypeId) (R L : Nat → Nat) (hR : Roots 200 R L) (hi : i < 200) (w : World) (hrow : w.rowIs bx tb 200 (fun j => .int .i64 (R j : Nat))) :
    Calls Try.prog 81 #[.int .i64 (i : Int), .pointer (some ⟨bx, 0, none⟩)] w fun e w' => e = .returned (.int .i64 (L i : Nat)) ∧ w = w' := by
  have HI := hide hi
  have HR := hide hR
  clear hi hR
  go_enter Try.func81, Try.ntmps81
  go_wp2_with fail
  go_loop [0] (fun v => ∃ x : Nat, x < 200 ∧ v = .int .i64 x ∧ L x = L i) (fun v => (intOf v).toNat)
  case atStart => exact ⟨i, HI.out, rfl, rfl⟩
  case round =>
    obtain ⟨x, hx, rfl, hL⟩ := hrel
    have HL := hide hL
    clear hL
    have hc := hrow.cell hx
    have hle := HR.out.le x hx
    have hsame := hide (HR.out.same x hx)
    have htop := hide (HR.out.top x hx)
    obtain ⟨y, hy⟩ : ∃ y, R x = y := ⟨_, rfl⟩
    rw [hy] at hc hle hsame htop
    clear hy
    by_cases hyx : y = x
    · subst hyx
      have HT := hide (htop.out.1 rfl)
      clear htop
      go_wp2
      go_ret
      exact ⟨ret_int (by rw [← HL.out, HT.out]), rfl⟩
    · have hne : ((y : Int) != (x : Int)) = true := by simp; omega
      go_wp2
      go_round
      case rel => exact ⟨y, by omega, rfl, by rw [hsame.out, HL.out]⟩
      case measure => simp [intOf]; omega
end Go.Proofs.Ytblepaocekojbaa
