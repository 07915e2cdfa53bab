/-
  The walks of Whole on both sides, for every bag.
  The walks of Total on both sides, for every bag.
-/
import Derived.Test.YtoapjidpfghnlaaGreatDoorBgT0
import Derived.Test.YtoapjidpfghnlaaGreatDoorApl
namespace Go.Proofs.YtoapjidpfghnlaaGreatDoor

section
open Go.RowKit
attribute [local go_sem] Oper.semAt_some

theorem whole1_any (x : It) (w : World) : Calls Tryz.prog 142 #[.agg #[.slice x.A x.n x.c, .int .i64 x.m]] w (RetV w (.bool (decide (x.m < 0)))) := by
  have hB := below_val (w := w) #[.slice x.A x.n x.c, .int .i64 x.m] 119
  go_enter Tryz.func142, Tryz.ntmps142
  go_wp2
  go_ret
  exact ⟨rfl, hB⟩
set_option maxRecDepth 100000 in
set_option maxHeartbeats 2000000 in
theorem idx_bag (A : Option Addr) (n c B : Nat) (l : List It) (w : World) (hx : BagR w B A n l) :
    Calls Tryz.prog 188 #[.slice A n c, .func (Fn.func 142) #[] #[]] w fun e w' => (∃ i : Int, e = .returned (.int .i64 i) ∧ decide (0 ≤ i) = !posB (dat l)) ∧ Below w.heap.size w w' := by
  have hn := hx.le
  have HL := hide (show (dat l).length = n by rw [dat_len, hx.len])
  go_enter Tryz.func188, Tryz.ntmps188
  go_wp2_with fail
  go_loopw [8] (fun i wr => ∃ k : Nat, k ≤ n ∧ i = .int .i64 k ∧ posB ((dat l).take k) = true ∧ Below w.heap.size w wr) (fun i _ => n - (intOf i).toNat)
  case atStart => exact ⟨0, Nat.zero_le _, rfl, rfl, Below.refl _ _⟩
  case round =>
    obtain ⟨k, hk, rfl, hany, hBw⟩ := hrel
    have HA := hide hany
    clear hany
    by_cases hlt : k < n
    · obtain ⟨b, off, x, rfl, hb, hxk, c0, c1, hrow⟩ := (hx.below hBw).at_ hlt
      have HE := hide (dat_at hxk)
      clear hxk hrow
      have q1 : (0 : Int) ≤ (k : Int) := by omega
      have q2 : (k : Int) < (n : Int) := by omega
      go_wp2_with fail
      refine (whole1_any x wr).mono ?_
      rintro ee w1 ⟨rfl, hB1⟩
      have hB2 := bstep hBw hB1
      by_cases hq : x.m < 0
      · have z : decide (x.m < 0) = true := by simpa using hq
        have HX := hide (posB_neg HE.out hq)
        clear hq hB1 hBw c0 c1
        go_wp2
        go_ret
        exact ⟨⟨_, rfl, by rw [HX.out]; simp⟩, hB2⟩
      · have z : decide (x.m < 0) = false := by simpa using hq
        have HX := hide (posB_next HE.out (by simpa using hq) HA.out)
        clear hq hB1 hBw c0 c1
        go_wp2
        go_roundw
        case rel => exact ⟨k + 1, by omega, by go_num, HX.out, hB2⟩
        case measure => simp [intOf]; omega
    · obtain rfl : k = n := by omega
      go_wp2
      go_ret
      exact ⟨⟨_, rfl, by
        have := HA.out
        rw [take_all HL.out] at this
        rw [this]; rfl⟩, hBw⟩
theorem con_bag (A : Option Addr) (n c B : Nat) (l : List It) (w : World) (hx : BagR w B A n l) :
    Calls Tryz.prog 140 #[.slice A n c, .func (Fn.func 142) #[] #[]] w (RetV w (.bool (!posB (dat l)))) := by
  go_enter Tryz.func140, Tryz.ntmps140
  go_wp2_with (go_at_call 188; refine (idx_bag A n c B l w hx).mono ?_; rintro e w' ⟨⟨i, rfl, hi⟩, hB1⟩)
  go_ret
  exact ⟨rfl, hB1⟩
/-- What Whole tells. -/
def wholeB (d : Bg) : Bool := okBag d && posB d
theorem Whole_any (A : Option Addr) (n c B : Nat) (l : List It) (w : World) (hx : BagR w B A n l) : Calls Tryz.prog 93 #[.slice A n c] w (RetV w (.bool (wholeB (dat l)))) := by
  obtain ⟨p, hp⟩ : ∃ p, wholeB (dat l) = p := ⟨_, rfl⟩
  have HP := hide hp
  rw [hp]
  clear hp
  go_enter Tryz.func93, Tryz.ntmps93
  go_wp2_with fail
  refine (BagValid_any A n c B l w hx).mono ?_
  rintro e W1 ⟨rfl, hB1⟩
  cases ho : okBag (dat l)
  · have HX := hide (show false = p by rw [← HP.out]; unfold wholeB; rw [ho]; rfl)
    clear ho
    go_wp2
    go_ret
    exact ⟨ret_bool HX.out, hB1⟩
  · go_wp2_with fail
    refine (con_bag A n c B l W1 (hx.below hB1)).mono ?_
    rintro e W2 ⟨rfl, hB2⟩
    have HB := hide (bstep hB1 hB2)
    cases hq : posB (dat l)
    · have HX := hide (show false = p by rw [← HP.out]; unfold wholeB; rw [ho, hq]; rfl)
      clear ho hq hB1 hB2
      go_wp2
      go_ret
      exact ⟨ret_bool HX.out, HB.out⟩
    · have HX := hide (show true = p by rw [← HP.out]; unfold wholeB; rw [ho, hq]; rfl)
      clear ho hq hB1 hB2
      go_wp2
      go_ret
      exact ⟨ret_bool HX.out, HB.out⟩
set_option maxRecDepth 100000 in
set_option maxHeartbeats 2000000 in
theorem RWhole_any (A : Option Addr) (n c B : Nat) (l : List It) (w : World) (hx : BagR w B A n l) : Calls Tryz.prog 97 #[.slice A n c] w (RetV w (.bool (wholeB (dat l)))) := by
  obtain ⟨p, hp⟩ : ∃ p, wholeB (dat l) = p := ⟨_, rfl⟩
  have HP := hide hp
  rw [hp]
  clear hp
  have hn := hx.le
  have HL := hide (show (dat l).length = n by rw [dat_len, hx.len])
  go_enter Tryz.func97, Tryz.ntmps97
  go_wp2_with fail
  go_loopw [3] (fun i wr => ∃ k : Nat, k ≤ n ∧ i = .int .i64 k ∧ posB ((dat l).take k) = true ∧ wr = w) (fun i _ => n - (intOf i).toNat)
  case atStart => exact ⟨0, Nat.zero_le _, rfl, rfl, rfl⟩
  case round =>
    obtain ⟨k, hk, rfl, hany, hBw⟩ := hrel
    subst hBw
    have HA := hide hany
    clear hany
    by_cases hlt : k < n
    · obtain ⟨b, off, x, rfl, hb, hxk, c0, c1, hrow⟩ := hx.at_ hlt
      have HE := hide (dat_at hxk)
      clear hxk hrow
      have q1 : (0 : Int) ≤ (k : Int) := by omega
      have q2 : (k : Int) < (n : Int) := by omega
      by_cases hq : x.m < 0
      · have HX := hide (show false = p by rw [← HP.out]; unfold wholeB; rw [posB_neg HE.out hq]; simp)
        go_wp2
        go_ret
        exact ⟨ret_bool HX.out, Below.refl _ _⟩
      · have HX := hide (posB_next HE.out (by simpa using hq) HA.out)
        go_wp2
        go_roundw
        case rel => exact ⟨k + 1, by omega, by go_num, HX.out, trivial⟩
        case measure => simp [intOf]; omega
    · obtain rfl : k = n := by omega
      have HX := hide (show okBag (dat l) = p by
        have h := HA.out
        rw [take_all HL.out] at h
        rw [← HP.out]; unfold wholeB; rw [h]; simp)
      go_wp2_with fail
      refine (R3Valid_any A k c B l wr hx).mono ?_
      rintro e W1 ⟨rfl, hB1⟩
      go_wp2
      go_ret
      exact ⟨ret_bool HX.out, hB1⟩
end

section
open Go.RowKit
attribute [local go_sem] Oper.semAt_some

/-- What Total tells. -/
def totB (d : Bg) : Int := if okBag d then tot d else 0
end

end Go.Proofs.YtoapjidpfghnlaaGreatDoor
