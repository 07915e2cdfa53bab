/-
  The reference's either, Meet, Join, Within and Distinct.
-/
import Derived.Test.YtljglceaibgknaaGreatDoorLatA
namespace Go.Proofs.YtljglceaibgknaaGreatDoor
open Go.RowKit
attribute [local go_sem] Oper.semAt_some
set_option linter.unusedVariables false
set_option linter.unusedSimpArgs false

/-- The greater or the lesser of two. -/
def fE (g : Bool) (m k : Int) : Int := if g then max m k else min m k
theorem fE_zero (g : Bool) : fE g 0 0 = 0 := by cases g <;> rfl
theorem fE_bound (g : Bool) {m k : Int} (h1 : -1000000 ≤ m ∧ m ≤ 1000000) (h2 : -1000000 ≤ k ∧ k ≤ 1000000) : -1000000 ≤ fE g m k ∧ fE g m k ≤ 1000000 := by
  cases g <;> simp only [fE] <;> simp <;> omega
theorem fE_max {m k : Int} : fE true m k = if m < k then k else m := by
  simp only [fE]
  simp
  split <;> omega
theorem fE_min {m k : Int} : fE false m k = if k < m then k else m := by
  simp only [fE]
  simp
  split <;> omega
theorem eith_len {f : Int → Int → Int} {a b : Bg} (ha : okBag a = true) (hb : okBag b = true) : ∀ k, k ≤ (eithX f a b).length → (aftB [] ((eithX f a b).take k)).length ≤ k
  | 0, _ => by simp [aftB]
  | k + 1, hk => by
    have ih := eith_len (f := f) ha hb k (by omega)
    have h1 : (eithX f a b)[k]? = some ((eithX f a b)[k]'(by omega)) := List.getElem?_eq_getElem (by omega)
    rw [take_snoc' h1, aft_snoc]
    have := put_len (eith_net (f := f) ha hb k).asc ((eithX f a b)[k]'(by omega)).1 ((eithX f a b)[k]'(by omega)).2
    omega
theorem eithX_len (f : Int → Int → Int) (a b : Bg) : (eithX f a b).length = (rws a b).length := by simp [eithX]
theorem eithX_at {f : Int → Int → Int} {a b : Bg} {k : Nat} {r : Rw} (h : (rws a b)[k]? = some r) : (eithX f a b)[k]? = some (r, f (look a r) (look b r)) := by unfold eithX; rw [List.getElem?_map, h]; rfl
theorem eith_num {g : Bool} {a b : Bg} (ha : okBag a = true) (hb : okBag b = true) (k : Nat) : ∀ x ∈ aftB [] ((eithX (fE g) a b).take k), -4000000000000 ≤ x.2 ∧ x.2 ≤ 4000000000000 := by
  intro x hx
  have hn := eith_net (f := fE g) ha hb k
  have h1 := sum_abs (xs := (eithX (fE g) a b).take k) (fun z hz => by
    obtain ⟨r, hr, rfl⟩ := List.mem_map.1 (List.mem_of_mem_take hz)
    exact fE_bound g (look_bound (okBag_asc ha).2.1 r) (look_bound (okBag_asc hb).2.1 r)) x.1
  rw [← hn.sum, look_in (asc_apart hn.asc) hx] at h1
  have h2 : ((eithX (fE g) a b).take k).length ≤ 800 := by
    rw [List.length_take, eithX_len]
    have := rws_len ha hb
    omega
  omega
set_option maxRecDepth 100000 in
set_option maxHeartbeats 4000000 in
theorem RWithin_any (A1 : Option Addr) (n1 c1 : Nat) (la : List It) (A2 : Option Addr) (n2 c2 : Nat) (lb : List It) (w : World) (ha : BagR w w.heap.size A1 n1 la) (hb : BagR w w.heap.size A2 n2 lb) :
    Calls Tryz.prog 24 #[.slice A1 n1 c1, .slice A2 n2 c2] w (RetV w (.bool (leB (dat la) (dat lb)))) := by
  obtain ⟨p, hp⟩ : ∃ p, leB (dat la) (dat lb) = p := ⟨_, rfl⟩
  rw [hp]
  have HP := hide hp
  clear hp
  go_enter Tryz.func24, Tryz.ntmps24
  go_wp2_with fail
  refine (R3Valid_any A1 n1 c1 _ la w ha).mono ?_
  rintro e W1 ⟨rfl, hB1⟩
  cases oa : okBag (dat la)
  · have HQ := hide (show p = false by rw [← HP.out]; unfold leB; rw [oa]; rfl)
    clear oa
    go_wp2
    go_ret
    exact ⟨ret_bool HQ.out.symm, hB1⟩
  have OA := hide oa
  clear oa
  go_wp2_with fail
  refine (R3Valid_any A2 n2 c2 _ lb W1 (hb.below hB1)).mono ?_
  rintro e W2 ⟨rfl, hB2⟩
  have hB02 := bstep hB1 hB2
  clear hB1 hB2
  cases ob : okBag (dat lb)
  · have HQ := hide (show p = false by rw [← HP.out]; unfold leB; rw [OA.out, ob]; rfl)
    clear ob
    go_wp2
    go_ret
    exact ⟨ret_bool HQ.out.symm, hB02⟩
  have OB := hide ob
  have HQ := hide (show p = (rws (dat la) (dat lb)).all fun r => decide (look (dat la) r ≤ look (dat lb) r) by
    rw [← HP.out]
    unfold leB
    rw [OA.out, ob]
    rfl)
  clear ob
  go_wp2_with fail
  refine (RRows2_any A1 n1 c1 la A2 n2 c2 lb W2 ((ha.below hB02).mono hB02.size) ((hb.below hB02).mono hB02.size) OA.out OB.out).mono ?_
  rintro e W3 ⟨A3, n3, c3, l3, rfl, hd3, hr3, hB3⟩
  have hB03 := bstep hB02 hB3
  have HD3 := hide hd3
  have HL3 := hide hr3.len
  have hn3 : n3 ≤ 800 := by have := rws_len OA.out OB.out; rw [← hd3, rwD_len, hr3.len] at this; exact this
  have hXL := hide (show (rws (dat la) (dat lb)).length = n3 by rw [← hd3, rwD_len, hr3.len])
  have ha3 := (ha.below hB03).mono hB03.size
  have hb3 := (hb.below hB03).mono hB03.size
  have HB03 := hide hB03
  clear hB02 hB3 hd3 ha hb hB03
  go_wp2_with fail
  go_loopw [6] (fun i wr => ∃ k : Nat, k ≤ n3 ∧ i = .int .i64 k ∧ ((rws (dat la) (dat lb)).take k).all (fun r => decide (look (dat la) r ≤ look (dat lb) r)) = true ∧ Below W3.heap.size W3 wr) (fun i _ => n3 - (intOf i).toNat)
  case atStart => exact ⟨0, Nat.zero_le _, rfl, rfl, Below.refl _ _⟩
  case round =>
    obtain ⟨k, hk, rfl, hal, hBw⟩ := hrel
    have HAL := hide hal
    clear hal
    by_cases hlt : k < n3
    · obtain ⟨b, off, y, rfl, hbl, hyk, e0, hy⟩ := (hr3.below hBw).at_ hlt
      have hyd : (rws (dat la) (dat lb))[k]? = some y.r := by rw [← HD3.out]; exact rwD_at hyk
      have hyr := rws_ok OA.out OB.out _ (List.mem_of_getElem? hyd)
      obtain ⟨ma, hma⟩ : ∃ m, look (dat la) y.r = m := ⟨_, rfl⟩
      obtain ⟨mb, hmb⟩ : ∃ m, look (dat lb) y.r = m := ⟨_, rfl⟩
      have HYD := hide hyd
      have HMA := hide hma
      have HMB := hide hmb
      have C1 := hide (fun (p : BW wr) => calls_bw (p := p) (v := .int .i64 ma) (by rw [← hma]; exact RN_any A1 n1 c1 W3.heap.size la y.A y.n y.c y.r p.x (ha3.below (bstep hBw p.h)) ((hy.below p.h).mono (Nat.le_trans hBw.size p.h.size)) OA.out hyr))
      have C2 := hide (fun (p : BW wr) => calls_bw (p := p) (v := .int .i64 mb) (by rw [← hmb]; exact RN_any A2 n2 c2 W3.heap.size lb y.A y.n y.c y.r p.x (hb3.below (bstep hBw p.h)) ((hy.below p.h).mono (Nat.le_trans hBw.size p.h.size)) OB.out hyr))
      have y0 := fun (p : BW wr) => BW.cell (a := ⟨b, off + k, none⟩) hbl e0 p
      have q1 : (0 : Int) ≤ (k : Int) := by omega
      have q2 : (k : Int) < (n3 : Int) := by omega
      clear hyd hyr hma hmb hyk
      by_cases hl : mb < ma
      · have z : decide (mb < ma) = true := by simpa using hl
        have HX := hide (show p = false by
          rw [HQ.out, List.all_eq_false]
          exact ⟨y.r, List.mem_of_getElem? HYD.out, by rw [HMA.out, HMB.out]; simp; omega⟩)
        clear hl
        go_wp2_with fail
        (refine wp_region_quiet_bw (by kernel_rfl) (by kernel_rfl) ?_
         repeat (first | go_big_quiet_step ((first | (go_at_call 25; with_reducible exact C1.out _) | (go_at_call 25; with_reducible exact C2.out _))) | quiet_step ((first | (go_at_call 25; with_reducible exact C1.out _) | (go_at_call 25; with_reducible exact C2.out _))))
         refine wpQuiet_nil ?_
         intro wq hw'
         obtain ⟨⟨_, hbq⟩, hw''⟩ := hw'
         subst hw'')
        have HE := hide (bstep HB03.out (hBw.trans (hbq.mono hBw.size)))
        clear C1 C2 y0 e0 hy hBw hbq
        go_wp2
        go_ret
        exact ⟨ret_bool HX.out.symm, HE.out⟩
      · have z : decide (mb < ma) = false := by simpa using hl
        have HX := hide (show ((rws (dat la) (dat lb)).take (k + 1)).all (fun r => decide (look (dat la) r ≤ look (dat lb) r)) = true by
          rw [take_snoc' HYD.out, List.all_append, HAL.out]
          simp only [List.all_cons, List.all_nil]
          rw [HMA.out, HMB.out]
          simp
          omega)
        clear hl
        go_wp2_with fail
        (refine wp_region_quiet_bw (by kernel_rfl) (by kernel_rfl) ?_
         repeat (first | go_big_quiet_step ((first | (go_at_call 25; with_reducible exact C1.out _) | (go_at_call 25; with_reducible exact C2.out _))) | quiet_step ((first | (go_at_call 25; with_reducible exact C1.out _) | (go_at_call 25; with_reducible exact C2.out _))))
         refine wpQuiet_nil ?_
         intro wq hw'
         obtain ⟨⟨_, hbq⟩, hw''⟩ := hw'
         subst hw'')
        have hBf := hBw.trans (hbq.mono hBw.size)
        clear C1 C2 y0 e0 hy hBw hbq
        go_wp2
        go_roundw
        case rel => exact ⟨k + 1, by omega, by go_num, HX.out, hBf⟩
        case measure => simp [intOf] <;> omega
    · obtain rfl : k = n3 := by omega
      have HX := hide (show p = true by have := HAL.out; rw [take_all hXL.out] at this; rw [HQ.out]; exact this)
      have HE := hide (bstep HB03.out hBw)
      clear hBw
      go_wp2
      go_ret
      exact ⟨ret_bool HX.out.symm, HE.out⟩
end Go.Proofs.YtljglceaibgknaaGreatDoor
