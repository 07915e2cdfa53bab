/-
  The walks of Count on both sides, for every bag and row.
-/
import Derived.Test.YtoapjidpfghnlaaGreatDoorBgT5
import Derived.Test.YtoapjidpfghnlaaGreatDoorApl
namespace Go.Proofs.YtoapjidpfghnlaaGreatDoor
open Go.RowKit
attribute [local go_sem] Oper.semAt_some

theorem count1_any (x : It) (A : Option Addr) (n c : Nat) (r : Rw) (w : World) (hx : RowK w w.heap.size x.A x.n x.r) (hr : RowK w w.heap.size A n r) :
    Calls Tryz.prog 202 #[.agg #[.slice x.A x.n x.c, .int .i64 x.m], .slice A n c] w (RetV w (.int .i64 (cmpR x.r r))) := by
  have hB := below_val (w := w) #[.slice x.A x.n x.c, .int .i64 x.m] 119
  have HC := hide (Compare_any x.A x.n x.c x.r A n c r _ (hx.below hB).rd (hr.below hB).rd hx.le)
  have HB := hide hB
  clear hB hx hr
  go_enter Tryz.func202, Tryz.ntmps202
  go_wp2_with fail
  refine HC.out.mono ?_
  rintro e W ⟨rfl, hB1⟩
  have HF := hide (bstep HB.out hB1)
  clear hB1
  go_wp2
  go_ret
  exact ⟨rfl, HF.out⟩
/-- What BinarySearchFunc tells. -/
def RetFind (w : World) (d : Bg) (r : Rw) (e : Ending) (w' : World) : Prop := ∃ (i : Nat) (b : Bool), e = .returned (.tuple #[.int .i64 i, .bool b]) ∧ (b = true → ∃ x, d[i]? = some x ∧ cmpR x.1 r = 0) ∧ (b = false → look d r = 0) ∧ Below w.heap.size w w'
set_option maxRecDepth 100000 in
set_option maxHeartbeats 4000000 in
theorem search_any (A : Option Addr) (n c B : Nat) (l : List It) (A' : Option Addr) (n' c' : Nat) (r : Rw) (w : World) (hx : BagR w B A n l) (hr : RowK w w.heap.size A' n' r) (hB : B ≤ w.heap.size) (ho : okBag (dat l) = true) :
    Calls Tryz.prog 201 #[.slice A n c, .slice A' n' c', .func (Fn.func 202) #[] #[]] w (RetFind w (dat l) r) := by
  have HL := hide (show (dat l).length = n by rw [dat_len, hx.len])
  have HO := hide (okBag_asc ho)
  have hn : n ≤ 400 := by have h := HO.out.2.2; rw [HL.out] at h; exact h
  clear ho
  go_enter Tryz.func201, Tryz.ntmps201
  go_wp2_with fail
  go_loopw [9, 10] (fun i j wr => ∃ a b : Nat, a ≤ b ∧ b ≤ n ∧ i = .int .i64 a ∧ j = .int .i64 b ∧ Cut (dat l) r a b ∧ Below w.heap.size w wr) (fun i j _ => (intOf j - intOf i).toNat)
  case atStart => exact ⟨0, n, Nat.zero_le _, Nat.le_refl _, rfl, rfl, ⟨fun p x hp _ => absurd hp (by omega), fun p x hp hx => absurd (List.getElem?_eq_some_iff.1 hx).1 (by rw [HL.out]; omega)⟩, Below.refl _ _⟩
  case round =>
    obtain ⟨a, b, hab, hbn, rfl, rfl, hcut, hBw⟩ := hrel
    have HC := hide hcut
    clear hcut
    by_cases hlt : a < b
    · obtain ⟨h, hh⟩ : ∃ h, (a + b) / 2 = h := ⟨_, rfl⟩
      have h1 : a ≤ h := by omega
      have h2 : h < b := by omega
      have h3 : h < n := by omega
      have z1 : IntKind.i64.wrap (IntKind.u64.wrap ((a : Int) + (b : Int)) / 2) = (h : Int) := by
        rw [IntKind.wrap_i64]
        show _ = _
        have e : IntKind.u64.wrap ((a : Int) + (b : Int)) = (a : Int) + (b : Int) := by
          rw [IntKind.wrap_u64]; omega
        rw [e]
        omega
      obtain ⟨bk, off, x, rfl, hb, hxk, c0, c1, hrow⟩ := (hx.below hBw).at_ h3
      have HE := hide (dat_at hxk)
      have q1 : (0 : Int) ≤ (h : Int) := by omega
      have q2 : (h : Int) < (n : Int) := by omega
      have HS := hide (count1_any x A' n' c' r wr (hrow.mono (Nat.le_trans hB hBw.size)) ((hr.below hBw).mono hBw.size))
      clear hrow hxk
      go_wp2_with fail
      refine HS.out.mono ?_
      rintro e W ⟨rfl, hB1⟩
      have hB2 := bstep hBw hB1
      by_cases hc : cmpR x.r r < 0
      · have HX := hide (HC.out.left HO.out.1 HE.out hc)
        go_wp2
        go_roundw
        case rel => exact ⟨h + 1, b, by omega, by omega, by go_num, rfl, HX.out, hB2⟩
        case measure => simp [intOf]; omega
      · have HX := hide (HC.out.right HO.out.1 HE.out (show 0 ≤ cmpR x.r r by omega))
        go_wp2
        go_roundw
        case rel => exact ⟨a, h, by omega, by omega, rfl, congrArg (Value.int IntKind.i64) (show ((a : Int) + (b : Int)) / 2 = (h : Int) by omega), HX.out, hB2⟩
        case measure => simp [intOf]; omega
    · obtain rfl : a = b := by omega
      by_cases hlt2 : a < n
      · obtain ⟨bk, off, x, rfl, hb, hxk, c0, c1, hrow⟩ := (hx.below hBw).at_ hlt2
        have HE := hide (dat_at hxk)
        have q1 : (0 : Int) ≤ (a : Int) := by omega
        have q2 : (a : Int) < (n : Int) := by omega
        have HS := hide (count1_any x A' n' c' r wr (hrow.mono (Nat.le_trans hB hBw.size)) ((hr.below hBw).mono hBw.size))
        clear hrow hxk
        go_wp2_with fail
        refine HS.out.mono ?_
        rintro e W ⟨rfl, hB1⟩
        have HB2 := hide (bstep hBw hB1)
        clear hB1
        by_cases hc : cmpR x.r r = 0
        · have z : (cmpR x.r r == 0) = true := by simpa using hc
          have HX := hide hc
          clear hc
          go_wp2
          go_ret2
          exact ⟨a, true, rfl, fun _ => ⟨_, HE.out, HX.out⟩, (fun h => by cases h), HB2.out⟩
        · have z : (cmpR x.r r == 0) = false := by simpa using hc
          have HX := hide (HC.out.none HO.out.1 fun y hy => by
            rw [HE.out] at hy
            injection hy with hy
            rw [← hy]; exact hc)
          clear hc
          go_wp2
          go_ret2
          exact ⟨a, false, rfl, (fun h => by cases h), fun _ => HX.out, HB2.out⟩
      · have HX := hide (HC.out.none HO.out.1 fun y hy => absurd (List.getElem?_eq_some_iff.1 hy).1 (by rw [HL.out]; omega))
        go_wp2
        go_ret2
        exact ⟨a, false, rfl, (fun h => by cases h), fun _ => HX.out, hBw⟩
/-- What Count tells. -/
def cntB (d : Bg) (r : Rw) : Int := if okBag d && okR r then look d r else 0
set_option maxRecDepth 100000 in
set_option maxHeartbeats 4000000 in
theorem Count_any (A : Option Addr) (n c B : Nat) (l : List It) (A' : Option Addr) (n' c' : Nat) (r : Rw) (w : World) (hx : BagR w B A n l) (hr : RowK w w.heap.size A' n' r) (hB : B ≤ w.heap.size) :
    Calls Tryz.prog 160 #[.slice A n c, .slice A' n' c'] w (RetV w (.int .i64 (cntB (dat l) r))) := by
  obtain ⟨p, hp⟩ : ∃ p, cntB (dat l) r = p := ⟨_, rfl⟩
  have HP := hide hp
  rw [hp]
  clear hp
  have hn := hx.le
  have HL := hide (show (dat l).length = n by rw [dat_len, hx.len])
  go_enter Tryz.func160, Tryz.ntmps160
  go_wp2_with fail
  refine (BagValid_any A n c B l w hx).mono ?_
  rintro e W1 ⟨rfl, hB1⟩
  cases ho : okBag (dat l)
  · have HX := hide (show 0 = p by rw [← HP.out]; unfold cntB; rw [ho]; rfl)
    clear ho
    go_wp2
    go_ret
    exact ⟨ret_int HX.out, hB1⟩
  · have HO := hide ho
    clear ho
    go_wp2_with fail
    refine (RowValid_any A' n' c' _ r W1 (hr.below hB1).rd (Nat.le_refl _) hr.le).mono ?_
    rintro e W2 ⟨rfl, hB2⟩
    have hB02 := bstep hB1 hB2
    clear hB1 hB2
    cases hq : okR r
    · have HX := hide (show 0 = p by rw [← HP.out]; unfold cntB; rw [hq]; simp)
      clear hq
      go_wp2
      go_ret
      exact ⟨ret_int HX.out, hB02⟩
    · have HQ := hide hq
      clear hq
      go_wp2_with fail
      refine (search_any A n c B l A' n' c' r W2 (hx.below hB02) ((hr.below hB02).mono hB02.size) (Nat.le_trans hB hB02.size) HO.out).mono ?_
      rintro e W3 ⟨i, b, rfl, h1, h2, hB3⟩
      have hB03 := bstep hB02 hB3
      clear hB02 hB3
      cases b
      · have HX := hide (show 0 = p by rw [← HP.out]; unfold cntB; rw [HO.out, HQ.out, h2 rfl]; rfl)
        clear h1 h2
        go_wp2
        go_ret
        exact ⟨ret_int HX.out, hB03⟩
      · obtain ⟨y, hy, hc⟩ := h1 rfl
        have hlt : i < n := by have := (List.getElem?_eq_some_iff.1 hy).1; rw [HL.out] at this; exact this
        obtain ⟨bk, off, x, rfl, hb, hxk, c0, c1, hrow⟩ := (hx.below hB03).at_ hlt
        have HX := hide (show x.m = p by
          have he := dat_at hxk
          rw [hy] at he
          injection he with he
          rw [← HP.out]; unfold cntB; rw [HO.out, HQ.out, look_found HO.out HQ.out hy hc, he]; rfl)
        clear h1 h2 hy hc hxk hrow
        have q1 : (0 : Int) ≤ (i : Int) := by omega
        have q2 : (i : Int) < (n : Int) := by omega
        go_wp2
        go_ret
        exact ⟨ret_int HX.out, hB03⟩
end Go.Proofs.YtoapjidpfghnlaaGreatDoor
