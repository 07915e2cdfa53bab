/-
  The walk of ClockTogether, for every gap, times and two places.
-/
import Derived.Test.YtehifbogadohgaaToM
import Derived.Test.YtehifbogadohgaaSeLaw
namespace Go.Proofs.Ytehifbogadohgaa
open Go.RowKit
attribute [local go_sem] Oper.semAt_some

/-- The state of a pass: at, and whether it moved. -/
def PaTo (g : Int) (ts : List Int) (a0 : Int) (k : Nat) (a : Int) (on : Bool) : Prop := match on with
  | false => a = a0 ∧ ∀ t ∈ ts.take k, ¬ (a0 < t ∧ t - a0 < g)
  | true => a0 < a
theorem PaTo.stay {g a0 a t : Int} {ts : List Int} {k : Nat} {on : Bool} (h : PaTo g ts a0 k a on) (ht : ts[k]? = some t) (hn : ¬ (a < t ∧ t - a < g)) : PaTo g ts a0 (k + 1) a on := by
  cases on
  · refine ⟨h.1, fun u hu => ?_⟩
    rw [take_snoc' ht] at hu
    rcases List.mem_append.1 hu with hu | hu
    · exact h.2 u hu
    · rw [List.mem_singleton] at hu; rw [hu, ← h.1]; exact hn
  · exact h
theorem PaTo.move {g a0 a t : Int} {ts : List Int} {k : Nat} {on : Bool} (h : PaTo g ts a0 k a on) (hn : a < t) : PaTo g ts a0 (k + 1) t true := by
  have : a0 ≤ a := by
    cases on
    · rw [h.1]; exact Int.le_refl _
    · exact Int.le_of_lt h
  show a0 < t
  omega
set_option maxRecDepth 100000 in
set_option maxHeartbeats 16000000 in
theorem together_in (g : Int) (A : Option Addr) (n c : Nat) (ts : List Int) (i j : Nat) (w : World) (hl : Reads w w.heap.size 1 A n (ts.map (.int .i64))) (hn : n ≤ 500) (hi : i < n) (hj : j < n) :
    Calls Try.prog 9 #[.int .i64 g, .slice A n c, .int .i64 i, .int .i64 j] w (RetV w (.bool true)) := by
  have HAW := hide (awake_any)
  have HL := hide hl.len1
  have z5 : decide ((n : Int) ≤ 500) = true := by simp; omega
  obtain ⟨ti, hti⟩ : ∃ t, ts[i]? = some t := ⟨_, List.getElem?_eq_getElem (by rw [HL.out]; exact hi)⟩
  obtain ⟨tj, htj⟩ : ∃ t, ts[j]? = some t := ⟨_, List.getElem?_eq_getElem (by rw [HL.out]; exact hj)⟩
  obtain ⟨bb, off, x, rfl, hb, hx, hc⟩ := hl.at1 hi
  obtain rfl : ti = x := by rw [hti] at hx; injection hx
  obtain ⟨bb', off', x, e, _, hx', hc'⟩ := hl.at1 hj
  injection e with e
  injection e with e1 e2
  subst e1 e2
  obtain rfl : tj = x := by rw [htj] at hx'; injection hx'
  have HTI := hide (List.mem_of_getElem? hti)
  have HTJ := hide (List.mem_of_getElem? htj)
  clear hti htj hx hx'
  have q1 : (0 : Int) ≤ (i : Int) := by omega
  have q2 : (i : Int) < (n : Int) := by omega
  have q3 : (0 : Int) ≤ (j : Int) := by omega
  have q4 : (j : Int) < (n : Int) := by omega
  go_enter Try.func9, Try.ntmps9
  go_wp2_with fail
  refine (short_any n w).mono ?_
  rintro e w' ⟨rfl, hw'⟩
  subst hw'
  rw [z5]
  go_wp2_with fail
  refine (Session_any g _ n c ts ti w hl (by omega)).mono ?_
  intro e W1 h1
  obtain ⟨out, E, hse, hret, hB1⟩ := h1
  have HSE := hide hse
  obtain ⟨⟨⟨a, b⟩, F⟩, hf⟩ : ∃ p, sesF out E ti = p := ⟨_, rfl⟩
  have HF := hide hf
  rw [hf] at hret
  subst hret
  clear hse hf
  have hBx := below_val (w := W1) #[.int .i64 a, .int .i64 b] 35
  have xb := Blk.new W1 35 #[.int .i64 a, .int .i64 b]
  have hB02 := bstep hB1 hBx
  have hl2 := hl.up hB02
  have d1 := (hB02.cell (p := ⟨bb, off + j, none⟩) hb).trans hc'
  clear hB1 hBx
  have HS2 := hide (Session_any g (some ⟨bb, off, none⟩) n c ts tj _ hl2 (by omega))
  go_wp2_with fail
  refine HS2.out.mono ?_
  intro e W3 h3
  obtain ⟨⟨⟨a', b'⟩, G⟩, hf⟩ : ∃ p, sesF out E tj = p := ⟨_, rfl⟩
  have HG := hide hf
  clear hf
  obtain ⟨rfl, hB3⟩ := h3.all HSE.out HG.out
  have x3 := xb.below hB3 xb.lt
  have hB03 := bstep hB02 hB3
  have hBy := below_val (w := W3) #[.int .i64 a', .int .i64 b'] 35
  have yb := Blk.new W3 35 #[.int .i64 a', .int .i64 b']
  have x4 := x3.alloc (.cells #[.int .i64 a', .int .i64 b'] 35)
  have hB04 := bstep hB03 hBy
  clear h3 HS2 d1 hl2 hB02 hB03 hBy hB3 xb x3
  obtain ⟨W4, hW4⟩ : ∃ W4, W3.alloc (.cells #[.int .i64 a', .int .i64 b'] 35) = W4 := ⟨_, rfl⟩
  by_cases hE : E = 0
  · subst hE
    have hses := HSE.out.ses
    obtain ⟨wi, hwi, hfi, ci⟩ := hses.sess HTI.out
    obtain ⟨wj, hwj, hfj, cj⟩ := hses.sess HTJ.out
    have ei : ((a, b), F) = (wi, 0) := by rw [← HF.out, ← hfi]; unfold sesF; rw [hses.time HTI.out]; rfl
    have ej : ((a', b'), G) = (wj, 0) := by rw [← HG.out, ← hfj]; unfold sesF; rw [hses.time HTJ.out]; rfl
    injection ei with ei hF
    injection ej with ej hG
    subst hF hG ei ej
    have HSS := hide hses
    have HWI := hide hwi
    have HWJ := hide hwj
    have HCI := hide ci
    have HCJ := hide cj
    clear hfi hfj hwi hwj ci cj hses HF HG
    go_wp2_with fail
    rw [hW4] at x4 hB04 yb
    clear hW4
    have c0 := (hB04.cell (p := ⟨bb, off + i, none⟩) hb).trans hc
    have c1 := (hB04.cell (p := ⟨bb, off + j, none⟩) hb).trans hc'
    go_quiet (fail)
    obtain ⟨W5, hW5⟩ : ∃ W5, W4.drewN nq = W5 := ⟨_, rfl⟩
    have hB05 := below_drewN hB04 nq
    have x5 := x4.drewN nq
    have y5 := yb.drewN nq
    rw [hW5] at hB05 x5 y5 ⊢
    clear hW5 hB04 x4 yb c0 c1 hc hc'
    have e0 := x5.cell 0
    have e1 := x5.cell 1
    have e2 := y5.cell 0
    have e3 := y5.cell 1
    simp at e0 e1 e2 e3
    clear x5 y5
    have hmn : min ti tj ∈ ts := by
      by_cases hm : ti ≤ tj
      · rw [Int.min_eq_left hm]; exact HTI.out
      · rw [Int.min_eq_right (by omega)]; exact HTJ.out
    obtain ⟨W, hW, _, cW⟩ := HSS.out.sess hmn
    have HW := hide hW
    have HCW := hide cW
    have HR0 := hide (show Rch ts W (min ti tj) (min ti tj) from ⟨hmn, Int.le_refl _, cW⟩)
    clear hW cW hmn
    obtain ⟨lo, hlo⟩ : ∃ lo, min ti tj = lo := ⟨_, rfl⟩
    obtain ⟨hh, hhh⟩ : ∃ hh, max ti tj = hh := ⟨_, rfl⟩
    rw [hlo] at HR0 HCW ⊢
    rw [hhh]
    have HLO := hide hlo
    have HHI := hide hhh
    clear hlo hhh
    have hg1 := HSS.out.g1
    have hg2 := HSS.out.g2
    go_wp2_with fail
    go_loopw [15, 16] (fun a on wr => ∃ (av : Int) (ob : Bool), a = .int .i64 av ∧ on = .bool ob ∧ Rch ts W lo av ∧ (ob = false → ∀ t ∈ ts, ¬ (av < t ∧ t - av < g)) ∧ wr = W5) (fun a on _ => 2 * (1000000000001 - intOf a).toNat + bitV on)
    case atStart => exact ⟨lo, true, rfl, rfl, HR0.out, (fun h => by cases h), rfl⟩
    case round =>
      obtain ⟨av, ob, rfl, rfl, hr, hcl, hw⟩ := hrel
      subst hw
      have HR := hide hr
      have HC := hide hcl
      obtain ⟨hav1, hav2⟩ := vtime_bd (HSS.out.time hr.mem)
      clear hr hcl
      cases ob
      · obtain ⟨v, hv⟩ : ∃ v, decide (hh ≤ av) = v := ⟨_, rfl⟩
        have z1 : eqW a b a' b' = v := by
          rw [← hv, ← HHI.out]
          exact together_plain HSS.out HTI.out HTJ.out HWI.out HWJ.out HCI.out HCJ.out HW.out (by rw [HLO.out]; exact HCW.out) (by rw [HLO.out]; exact HR.out) (HC.out rfl)
        have z3 : (v == v) = true := by simp
        have he := fun W => eqWin a b a' b' W
        have hm : Try.prog.eqGuardType Try.prog.depth 35 = false := by kernel_rfl
        go_wp2_with fail
        refine (HAW.out _).mono ?_
        rintro e W8 ⟨rfl, hB8⟩
        have HE := hide (bstep hB05 hB8)
        clear hB8
        go_wp2
        go_ret
        exact ⟨rfl, HE.out⟩
      · go_wp2_with fail
        go_loopw [15, 16, 17] (fun a on i wx => ∃ (k : Nat) (a2 : Int) (o2 : Bool), k ≤ n ∧ i = .int .i64 k ∧ a = .int .i64 a2 ∧ on = .bool o2 ∧ Rch ts W lo a2 ∧ PaTo g ts av k a2 o2 ∧ wx = wr) (fun _ _ i _ => n - (intOf i).toNat)
        case atStart => exact ⟨0, av, false, Nat.zero_le _, rfl, rfl, rfl, HR.out, ⟨rfl, by simp⟩, rfl⟩
        case round =>
          obtain ⟨k, a2, o2, hk, rfl, rfl, rfl, hr2, hpa, hw⟩ := hrel
          subst hw
          have HR2 := hide hr2
          have HPA := hide hpa
          obtain ⟨ha1, ha2⟩ := vtime_bd (HSS.out.time hr2.mem)
          clear hr2 hpa
          by_cases hlt : k < n
          · obtain ⟨b3, o3, t, e, _, htk, hct⟩ := (hl.up hB05).at1 hlt
            injection e with e
            injection e with h1 h2
            subst h1 h2
            have HTK := hide htk
            obtain ⟨ht1, ht2⟩ := vtime_bd (HSS.out.time (List.mem_of_getElem? htk))
            clear htk
            have q5 : (0 : Int) ≤ (k : Int) := by omega
            have q6 : (k : Int) < (n : Int) := by omega
            by_cases hs1 : a2 < t
            · by_cases hs2 : t - a2 < g
              · have HN := hide (Rch.step HSS.out HW.out HR2.out (List.mem_of_getElem? HTK.out) hs1 hs2)
                have HP := hide (HPA.out.move (k := k) hs1)
                go_wp2
                go_roundw
                case rel => exact ⟨k + 1, t, true, by omega, by go_num, rfl, rfl, HN.out, HP.out, trivial⟩
                case measure => simp [intOf]; omega
              · have HP := hide (HPA.out.stay HTK.out (fun h => hs2 h.2))
                go_wp2
                go_roundw
                case rel => exact ⟨k + 1, a2, o2, by omega, by go_num, rfl, rfl, HR2.out, HP.out, trivial⟩
                case measure => simp [intOf]; omega
            · have HP := hide (HPA.out.stay HTK.out (fun h => hs1 h.1))
              go_wp2
              go_roundw
              case rel => exact ⟨k + 1, a2, o2, by omega, by go_num, rfl, rfl, HR2.out, HP.out, trivial⟩
              case measure => simp [intOf]; omega
          · obtain rfl : n = k := by omega
            have HCL := hide (show o2 = false → ∀ t ∈ ts, ¬ (a2 < t ∧ t - a2 < g) from fun h => by
              subst h
              have h : a2 = av ∧ ∀ t ∈ ts.take n, ¬ (av < t ∧ t - av < g) := HPA.out
              rw [take_all HL.out] at h
              rw [h.1]; exact h.2)
            have hms : o2 = true → av < a2 := fun h => by subst h; exact HPA.out
            have hmf : o2 = false → a2 = av := fun h => by subst h; exact HPA.out.1
            go_wp2
            go_roundw
            case rel => exact ⟨a2, o2, rfl, rfl, HR2.out, HCL.out, trivial⟩
            case measure =>
              cases o2
              · have := hmf rfl
                simp [intOf, bitV]; omega
              · have := hms rfl
                simp [intOf, bitV]; omega
  · have hF : F = E := by have h := HF.out; unfold sesF at h; rw [if_neg hE] at h; injection h with _ h; exact h.symm
    have hG : G = E := by have h := HG.out; unfold sesF at h; rw [if_neg hE] at h; injection h with _ h; exact h.symm
    have hE7 := seE_le HSE.out
    subst hF hG
    have z1 : (G != 0) = true := by simpa using hE
    have z2 : (G != 8) = true := by simp; omega
    rw [hW4] at hB04
    clear hE x4 yb HF HG
    go_wp2_with fail
    refine (HAW.out W4).mono ?_
    rintro e W8 ⟨rfl, hB8⟩
    have HE := hide (bstep hB04 hB8)
    clear hB8
    go_wp2
    go_ret
    exact ⟨rfl, HE.out⟩
set_option maxRecDepth 100000 in
set_option maxHeartbeats 8000000 in
theorem together_law (g : Int) (A : Option Addr) (n c : Nat) (ts : List Int) (i j : Int) (w : World) (hl : Reads w w.heap.size 1 A n (ts.map (.int .i64))) :
    Calls Try.prog 9 #[.int .i64 g, .slice A n c, .int .i64 i, .int .i64 j] w (RetV w (.bool true)) := by
  have HAW := hide (awake_any)
  by_cases h5 : n ≤ 500
  · have z5 : decide ((n : Int) ≤ 500) = true := by simp; omega
    by_cases hi0 : i < 0
    · go_enter Try.func9, Try.ntmps9
      go_wp2_with fail
      refine (short_any n w).mono ?_
      rintro e w' ⟨rfl, hw'⟩
      subst hw'
      rw [z5]
      go_wp2_with fail
      refine (HAW.out w).mono ?_
      rintro e W1 ⟨rfl, hB1⟩
      go_wp2
      go_ret
      exact ⟨rfl, hB1⟩
    · by_cases hj0 : j < 0
      · go_enter Try.func9, Try.ntmps9
        go_wp2_with fail
        refine (short_any n w).mono ?_
        rintro e w' ⟨rfl, hw'⟩
        subst hw'
        rw [z5]
        go_wp2_with fail
        refine (HAW.out w).mono ?_
        rintro e W1 ⟨rfl, hB1⟩
        go_wp2
        go_ret
        exact ⟨rfl, hB1⟩
      · by_cases hin : (n : Int) ≤ i
        · go_enter Try.func9, Try.ntmps9
          go_wp2_with fail
          refine (short_any n w).mono ?_
          rintro e w' ⟨rfl, hw'⟩
          subst hw'
          rw [z5]
          go_wp2_with fail
          refine (HAW.out w).mono ?_
          rintro e W1 ⟨rfl, hB1⟩
          go_wp2
          go_ret
          exact ⟨rfl, hB1⟩
        · by_cases hjn : (n : Int) ≤ j
          · go_enter Try.func9, Try.ntmps9
            go_wp2_with fail
            refine (short_any n w).mono ?_
            rintro e w' ⟨rfl, hw'⟩
            subst hw'
            rw [z5]
            go_wp2_with fail
            refine (HAW.out w).mono ?_
            rintro e W1 ⟨rfl, hB1⟩
            go_wp2
            go_ret
            exact ⟨rfl, hB1⟩
          · obtain ⟨i', rfl⟩ : ∃ i' : Nat, i = (i' : Int) := ⟨i.toNat, by omega⟩
            obtain ⟨j', rfl⟩ : ∃ j' : Nat, j = (j' : Int) := ⟨j.toNat, by omega⟩
            exact together_in g A n c ts i' j' w hl h5 (by omega) (by omega)
  · have z5 : decide ((n : Int) ≤ 500) = false := by simp; omega
    go_enter Try.func9, Try.ntmps9
    go_wp2_with fail
    refine (short_any n w).mono ?_
    rintro e w' ⟨rfl, hw'⟩
    subst hw'
    rw [z5]
    go_wp2_with fail
    refine (HAW.out w).mono ?_
    rintro e W1 ⟨rfl, hB1⟩
    go_wp2
    go_ret
    exact ⟨rfl, hB1⟩
end Go.Proofs.Ytehifbogadohgaa
