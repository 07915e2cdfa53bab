/-
  The walks of Total on both sides, for every bag.
-/
import Derived.Test.YtljglceaibgknaaGreatDoorBgT0
import Derived.Test.YtljglceaibgknaaGreatDoorApl
namespace Go.Proofs.YtljglceaibgknaaGreatDoor
open Go.RowKit
attribute [local go_sem] Oper.semAt_some

/-- What Total tells. -/
def totB (d : Bg) : Int := if okBag d then tot d else 0
set_option maxRecDepth 100000 in
set_option maxHeartbeats 2000000 in
theorem RTotal_any (A : Option Addr) (n c B : Nat) (l : List It) (w : World) (hx : BagR w B A n l) : Calls Tryz.prog 98 #[.slice A n c] w (RetV w (.int .i64 (totB (dat l)))) := by
  obtain ⟨p, hp⟩ : ∃ p, totB (dat l) = p := ⟨_, rfl⟩
  have HP := hide hp
  rw [hp]
  clear hp
  have hn := hx.le
  have HL := hide (show (dat l).length = n by rw [dat_len, hx.len])
  go_enter Tryz.func98, Tryz.ntmps98
  go_wp2_with fail
  refine (R3Valid_any A n c B l w hx).mono ?_
  rintro e W1 ⟨rfl, hB1⟩
  cases ho : okBag (dat l)
  · have HX := hide (show 0 = p by rw [← HP.out]; unfold totB; rw [ho]; rfl)
    clear ho
    go_wp2
    go_ret
    exact ⟨ret_int HX.out, hB1⟩
  · have HO := hide ho
    clear ho
    go_wp2_with fail
    go_loopw [3, 4] (fun s i wr => ∃ (k : Nat) (v : Int), k ≤ n ∧ s = .int .i64 v ∧ i = .int .i64 k ∧ v = tot ((dat l).take k) ∧ -400000000 ≤ v ∧ v ≤ 400000000 ∧ wr = W1) (fun _ i _ => n - (intOf i).toNat)
    case atStart => exact ⟨0, 0, Nat.zero_le _, rfl, rfl, rfl, by omega, by omega, rfl⟩
    case round =>
      obtain ⟨k, v, hk, rfl, rfl, hv, hv1, hv2, hBw⟩ := hrel
      subst hBw
      have HV := hide hv
      clear hv
      by_cases hlt : k < n
      · obtain ⟨b, off, x, rfl, hb, hxk, c0, c1, hrow⟩ := (hx.below hB1).at_ hlt
        obtain ⟨h1, h2, h3⟩ := tot_next HO.out (dat_at hxk)
        rw [← HV.out] at h1
        have HN := hide (show v + x.m = tot ((dat l).take (k + 1)) from h1.symm)
        rw [h1] at h2 h3
        have h2 : -400000000 ≤ v + x.m := h2
        have h3 : v + x.m ≤ 400000000 := h3
        clear hxk hrow h1
        have q1 : (0 : Int) ≤ (k : Int) := by omega
        have q2 : (k : Int) < (n : Int) := by omega
        go_wp2
        go_roundw
        case rel => exact ⟨k + 1, v + x.m, by omega, by go_num, by go_num, HN.out, h2, h3, trivial⟩
        case measure => simp [intOf]; omega
      · obtain rfl : k = n := by omega
        have HX := hide (show v = p by
          rw [← HP.out]; unfold totB; rw [HO.out, HV.out, take_all HL.out]; rfl)
        go_wp2
        go_ret
        exact ⟨ret_int HX.out, hB1⟩
end Go.Proofs.YtljglceaibgknaaGreatDoor
