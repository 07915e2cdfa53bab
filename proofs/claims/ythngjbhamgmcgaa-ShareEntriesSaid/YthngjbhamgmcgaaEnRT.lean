/-
  The walk of the reference's Together.
-/
import Derived.Test.YthngjbhamgmcgaaEnTo
import Derived.Test.YthngjbhamgmcgaaEnT
import Derived.Test.YthngjbhamgmcgaaEnR
namespace Go.Proofs.Ythngjbhamgmcgaa
open Go.RowKit
attribute [local go_sem] Oper.semAt_some
set_option linter.unusedVariables false

theorem allE_app {a b : List En} (h : allE a = true) (k : allE b = true) : allE (a ++ b) = true := by
  unfold allE at *
  rw [List.all_append, h, k]
  rfl
theorem allE_row {R : List Er} {r : Er} (hr : r ∈ R) (h : allE r.xs = false) : allE (allL R) = false := by
  cases ho : allE (allL R)
  · rfl
  · have h1 : allE r.xs = true := by
      unfold allE at ho ⊢
      rw [List.all_eq_true] at ho ⊢
      exact fun x hx => ho x (List.mem_flatMap.2 ⟨r, hr, hx⟩)
    rw [h1] at h
    cases h
set_option maxRecDepth 100000 in
set_option maxHeartbeats 8000000 in
theorem RTogether_any (A : Option Addr) (n c : Nat) (R : List Er) (w : World) (hT : TabE w w.heap.size A n R) (hn : n ≤ 400) (hr : ∀ r ∈ R, r.n ≤ 60) (hs : ∀ r ∈ R, AllSz r.xs) :
    Calls Try.prog 30 #[.slice A n c] w (RetTo w R) := by
  obtain ⟨i0, hi0, hz0, hz1, hz2⟩ := info_parts4 infoE
  have HL := hide (show R.length = n from hT.1.len1)
  have hlt : lenL R ≤ 24000 := by have := lenL_le hr; rw [HL.out] at this; omega
  have hpre : ∀ k, lenL (R.take k) ≤ 24000 := fun k => by
    have h1 := lenL_le (R := R.take k) fun r hr' => hr r (List.mem_of_mem_take hr')
    have h2 : (R.take k).length ≤ n := by rw [List.length_take, HL.out]; omega
    omega
  have HPRE := hide hpre
  clear hpre
  have hq0 : ¬ ((n : Int) > 400) := by omega
  go_enter Try.func30, Try.ntmps30
  go_wp2_with fail
  go_loopw [4, 5] (fun v i wx => ∃ k m : Nat, k ≤ n ∧ i = .int .i64 k ∧ lenL (R.take k) = m ∧ allE (allL (R.take k)) = true ∧ wx.ownsRow w.heap.size 57 4 v m (flatE (allL (R.take k))) ∧ Below w.heap.size w wx) (fun _ i _ => n - (intOf i).toNat)
  case atStart => exact ⟨0, 0, Nat.zero_le _, rfl, rfl, rfl, World.ownsRow_nil _ _ _ _, Below.refl _ _⟩
  case round =>
    obtain ⟨k, m2, hk2, rfl, hm2, hal, hown, hB⟩ := hrel
    have hp := HPRE.out k
    rw [hm2] at hp
    have hT3 := hT.below hB
    have hWs := hB.size
    by_cases hlt3 : k < n
    · obtain ⟨b, off, r, rfl, hb, hrk, hc⟩ := hT3.1.at1 hlt3
      have hc' : wr.cell? ⟨b, off + k, none⟩ = some (.slice r.a r.n r.c) := hc
      have hrm := List.mem_of_getElem? hrk
      have hrn := hr r hrm
      have hrd := hT3.2 r hrm
      have HV := hide (RvalidE_any r.a r.n r.c r.xs wr ((hT.2 r hrm).up hB) (by omega) (hs r hrm))
      have HRM := hide hrm
      have HN := hide (allL_next hrk).2
      have HA := hide (allL_next hrk).1
      have HM2 := hide hm2
      have HAL := hide hal
      clear hrk hc hm2 hrd hal
      have q1 : (0 : Int) ≤ (k : Int) := by omega
      have q2 : (k : Int) < (n : Int) := by omega
      cases ho : allE r.xs
      · have HX := hide (show ToE R [] 1 from .inl ⟨allE_row HRM.out ho, rfl, rfl⟩)
        rw [ho] at HV
        clear ho hown
        go_wp2_with fail
        refine HV.out.mono ?_
        rintro e w2 ⟨rfl, hB2⟩
        have HB := hide (bstep hB hB2)
        clear hB hB2 HV
        go_wp2
        go_ret2
        exact ⟨[], none, 0, 0, 1, HX.out, rfl, by omega, Reads.none_, HB.out⟩
      · rw [ho] at HV
        have HO := hide ho
        clear ho
        go_wp2_with fail
        refine HV.out.mono ?_
        rintro e w2 ⟨rfl, hB2⟩
        have hown2 := own_below hown hB2
        have hB02 := bstep hB hB2
        have hrd := (hT.below hB02).2 r HRM.out
        have one := one_cellE r.xs
        have hW2 := hB02.size
        have hc2 : w2.cell? ⟨b, off + k, none⟩ = some (.slice r.a r.n r.c) := ((hB2.cell (p := ⟨b, off + k, none⟩) (show b < wr.heap.size by omega)).trans hc')
        clear hown hB hB2 HV hc'
        go_wp2_with (at_builtin; refine wpList_append_any _ rfl _ _ 50 rfl w.heap.size 57 i0 _ 4 56 Try.underlying50 hi0 hz0 hz1 hz2 rfl (by decide) _ m2 _ rfl hown2 w.heap.size r.a r.n r.c (flatE r.xs) rfl hrd one (by unfold maxLen; omega) (by omega) (by omega) ?_; intro v3 w3 hown3 hgrow _; have hB3 : Below w.heap.size w w3 := below_append hB02 hown2 (by omega) hgrow; clear hgrow)
        clear hown2 hB02 one hrd
        go_wp2
        go_roundw
        case rel => exact ⟨k + 1, m2 + r.n, by omega, by go_num, by rw [HN.out, HM2.out], by rw [HA.out]; exact allE_app HAL.out HO.out, by rw [HA.out, flatE_app]; exact hown3, hB3⟩
        case measure => simp [intOf]; omega
    · obtain rfl : k = n := by omega
      rw [take_all HL.out] at hm2 hown hal
      rw [hm2] at hlt
      have HAL := hide hal
      obtain ⟨A5, c5, rfl, _⟩ := own_form hown
      have HS := hide (Sorted_any A5 m2 c5 (allL R) wr (Reads.of_own hown) (by omega))
      clear hown hal hm2
      go_wp2_with fail
      refine HS.out.mono ?_
      rintro e W2 ⟨s, A6, c6, rfl, hpm, hst, hrd, hB2⟩
      have hB02 := bstep hB hB2
      have HP := hide hpm
      have HST := hide hst
      have HT := hide (Twice_any A6 m2 c6 s W2 hrd (by omega))
      clear HS hB hB2 hpm hst
      cases ht : twB s
      · have HX := hide (show ToE R s 0 from .inr ⟨HAL.out, s, HP.out, HST.out, .inr ⟨ht, rfl, rfl⟩⟩)
        rw [ht] at HT
        clear ht
        go_wp2_with fail
        refine HT.out.mono ?_
        rintro e W3 ⟨rfl, hB3⟩
        have HRD := hide (hrd.up hB3)
        have HB := hide (bstep hB02 hB3)
        clear hB3 hB02 HT
        go_wp2
        go_ret2
        exact ⟨s, A6, m2, c6, 0, HX.out, rfl, hlt, HRD.out, HB.out⟩
      · have HX := hide (show ToE R [] 6 from .inr ⟨HAL.out, s, HP.out, HST.out, .inl ⟨ht, rfl, rfl⟩⟩)
        rw [ht] at HT
        clear ht
        go_wp2_with fail
        refine HT.out.mono ?_
        rintro e W3 ⟨rfl, hB3⟩
        have HB := hide (bstep hB02 hB3)
        clear hB3 hB02 HT
        go_wp2
        go_ret2
        exact ⟨[], none, 0, 0, 6, HX.out, rfl, by omega, Reads.none_, HB.out⟩
end Go.Proofs.Ythngjbhamgmcgaa
