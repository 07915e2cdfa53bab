/-
  The walks of Count on both sides, for every bag and row.
-/
import Derived.Test.YtiioiajcoiaalaaGreatDoorBgT0
import Derived.Test.YtiioiajcoiaalaaGreatDoorApl
namespace Go.Proofs.YtiioiajcoiaalaaGreatDoor
open Go.RowKit
attribute [local go_sem] Oper.semAt_some

/-- What BinarySearchFunc tells. -/
def RetFind (w : World) (d : Bg) (r : Rw) (e : Ending) (w' : World) : Prop := ∃ (i : Nat) (b : Bool), e = .returned (.tuple #[.int .i64 i, .bool b]) ∧ (b = true → ∃ x, d[i]? = some x ∧ cmpR x.1 r = 0) ∧ (b = false → look d r = 0) ∧ Below w.heap.size w w'
/-- What Count tells. -/
def cntB (d : Bg) (r : Rw) : Int := if okBag d && okR r then look d r else 0
set_option maxRecDepth 100000 in
set_option maxHeartbeats 4000000 in
theorem RN_any (A : Option Addr) (n c B : Nat) (l : List It) (A' : Option Addr) (n' c' : Nat) (r : Rw) (w : World) (hx : BagR w B A n l) (hr : RowK w w.heap.size A' n' r) (ho : okBag (dat l) = true) (hq : okR r = true) :
    Calls Tryz.prog 65 #[.slice A n c, .slice A' n' c'] w (RetV w (.int .i64 (look (dat l) r))) := by
  obtain ⟨p, hp⟩ : ∃ p, look (dat l) r = p := ⟨_, rfl⟩
  have HP := hide hp
  rw [hp]
  clear hp
  have hn := hx.le
  have HL := hide (show (dat l).length = n by rw [dat_len, hx.len])
  have HO := hide ho
  have HQ := hide hq
  clear ho hq
  go_enter Tryz.func65, Tryz.ntmps65
  go_wp2_with fail
  go_loopw [5] (fun i wr => ∃ k : Nat, k ≤ n ∧ i = .int .i64 k ∧ (∀ (q : Nat) (x : Rw × Int), q < k → (dat l)[q]? = some x → cmpR x.1 r ≠ 0) ∧ Below w.heap.size w wr) (fun i _ => n - (intOf i).toNat)
  case atStart => exact ⟨0, Nat.zero_le _, rfl, fun q x hq => absurd hq (by omega), Below.refl _ _⟩
  case round =>
    obtain ⟨k, hk, rfl, hno, hBw⟩ := hrel
    have HN := hide hno
    clear hno
    by_cases hlt : k < n
    · obtain ⟨b, off, x, rfl, hb, hxk, c0, c1, hrow⟩ := (hx.below hBw).at_ hlt
      have HE := hide (dat_at hxk)
      have q1 : (0 : Int) ≤ (k : Int) := by omega
      have q2 : (k : Int) < (n : Int) := by omega
      have HS := hide (R2Compare_any x.A x.n x.c x.r A' n' c' r wr hrow.rd (hr.below hBw).rd hrow.le)
      clear hxk
      go_wp2_with fail
      refine HS.out.mono ?_
      rintro e W1 ⟨rfl, hB1⟩
      have hB2 := bstep hBw hB1
      by_cases hc : cmpR x.r r = 0
      · have z : (cmpR x.r r == 0) = true := by simpa using hc
        have HX := hide (show x.m = p by rw [← HP.out, look_found HO.out HQ.out HE.out hc])
        have c1' := (hB1.cell (p := ⟨b, off + k * 2 + 1, none⟩) hb).trans c1
        clear hc c0 c1
        go_wp2
        go_ret
        exact ⟨ret_int HX.out, hB2⟩
      · have z : (cmpR x.r r == 0) = false := by simpa using hc
        have HX := hide (show ∀ (q : Nat) (y : Rw × Int), q < k + 1 → (dat l)[q]? = some y → cmpR y.1 r ≠ 0 from fun q y hq hy => by
          by_cases e : q = k
          · subst e
            rw [HE.out] at hy
            injection hy with hy
            rw [← hy]; exact hc
          · exact HN.out q y (by omega) hy)
        clear hc
        go_wp2
        go_roundw
        case rel => exact ⟨k + 1, by omega, by go_num, HX.out, hB2⟩
        case measure => simp [intOf]; omega
    · obtain rfl : k = n := by omega
      have HX := hide (show 0 = p by
        rw [← HP.out, look_no fun q x hx => HN.out q x (by have := (List.getElem?_eq_some_iff.1 hx).1; rw [HL.out] at this; exact this) hx])
      go_wp2
      go_ret
      exact ⟨ret_int HX.out, hBw⟩
end Go.Proofs.YtiioiajcoiaalaaGreatDoor
