/-
  The walk of ClockSessions, for every gap, times and time.
-/
import Derived.Test.YtehifbogadohgaaSeT
import Derived.Test.YtehifbogadohgaaCkD
namespace Go.Proofs.Ytehifbogadohgaa
open Go.RowKit
attribute [local go_sem] Oper.semAt_some

theorem RetWd.all {w w' : World} {g : Int} {ts : List Int} {t : Int} {out : List Wd} {E a b F : Int} {e : Ending} (h : RetWd w g ts t e w') (hs : SeE g ts out E) (hf : sesF out E t = ((a, b), F)) : e = .returned (.tuple #[.agg #[.int .i64 a, .int .i64 b], .int .i64 F]) ∧ Below w.heap.size w w' := by
  obtain ⟨o, E', h1, h2, h3⟩ := h
  obtain ⟨e1, e2⟩ := h1.one hs
  subst e1 e2
  rw [hf] at h2
  exact ⟨h2, h3⟩
set_option maxRecDepth 100000 in
set_option maxHeartbeats 8000000 in
theorem sessions_law (g : Int) (A : Option Addr) (n c : Nat) (ts : List Int) (t : Int) (w : World) (hl : Reads w w.heap.size 1 A n (ts.map (.int .i64))) (hn : n ≤ 9223372036854775807) :
    Calls Try.prog 8 #[.int .i64 g, .slice A n c, .int .i64 t] w (RetV w (.bool true)) := by
  have HAW := hide (awake_any)
  have HL := hide hl.len1
  by_cases h5 : n ≤ 500
  · have z5 : decide ((n : Int) ≤ 500) = true := by simp; omega
    go_enter Try.func8, Try.ntmps8
    go_wp2_with fail
    refine (short_any n w).mono ?_
    rintro e w' ⟨rfl, rfl⟩
    rw [z5]
    go_wp2_with fail
    refine (Sessions_any g A n c ts w hl hn).mono ?_
    rintro e W1 ⟨out, A1, n1, c1, E, hm1, rfl, hn1, hR1, hB1⟩
    go_wp2_with fail
    refine (RSessions_any g A n c ts W1 (hl.up hB1) hn).mono ?_
    rintro e W2 ⟨out2, A2, n2, c2, F, hm2, rfl, hn2, hR2, hB2⟩
    have hR1 := hR1.up hB2
    have hB02 := bstep hB1 hB2
    obtain ⟨ho, hE⟩ := hm1.one hm2
    subst ho hE
    have hnE : (E != E) = false := by simp
    have HM := hide hm1
    have HSA := hide (SameW_v A1 A2 n1 n2 c1 c2 out out W2 hR1 hR2 (by rw [HL.out] at hn1; omega) (by rw [HL.out] at hn2; omega) rfl)
    clear hm1 hm2 hB1 hB2 hR2 hR1
    go_wp2_with fail
    refine HSA.out.mono ?_
    rintro e W3 ⟨rfl, hB3⟩
    have hB03 := bstep hB02 hB3
    clear HSA hB02 hB3
    obtain ⟨⟨⟨a, b⟩, G⟩, hf⟩ : ∃ p, sesF out E t = p := ⟨_, rfl⟩
    have HF := hide hf
    clear hf
    go_wp2_with fail
    refine (Session_any g A n c ts t W3 (hl.up hB03) hn).mono ?_
    intro e W4 h4
    obtain ⟨rfl, hB4⟩ := h4.all HM.out HF.out
    clear h4
    have hB04 := bstep hB03 hB4
    have hBx := below_val (w := W4) #[.int .i64 a, .int .i64 b] 35
    have xb := Blk.new W4 35 #[.int .i64 a, .int .i64 b]
    have hB05 := bstep hB04 hBx
    have HS5 := hide (RSession_any g A n c ts t _ (hl.up hB05) hn)
    clear hB03 hB4 hBx
    go_wp2_with fail
    refine HS5.out.mono ?_
    intro e W6 h6
    obtain ⟨rfl, hB6⟩ := h6.all HM.out HF.out
    clear h6
    have x6 := xb.below hB6 xb.lt
    have hB06 := bstep hB05 hB6
    have hBy := below_val (w := W6) #[.int .i64 a, .int .i64 b] 35
    have hB07 := hide (bstep hB06 hBy)
    have x7 := x6.alloc (.cells #[.int .i64 a, .int .i64 b] 35)
    have e0 := x7.cell 0
    have e1 := x7.cell 1
    simp at e0 e1
    have he := fun W => eqWin a b a b W
    have hm : Try.prog.eqGuardType Try.prog.depth 35 = false := by kernel_rfl
    have z1 : eqW a b a b = true := by unfold eqW; simp
    have z2 : (G == G) = true := by simp
    clear HS5 hB05 hB6 hB06 hBy xb x6 x7 hB04
    go_wp2_with fail
    refine (HAW.out _).mono ?_
    rintro e W8 ⟨rfl, hB8⟩
    have HE := hide (bstep hB07.out hB8)
    clear hB8
    go_wp2
    go_ret
    exact ⟨rfl, HE.out⟩
  · have z5 : decide ((n : Int) ≤ 500) = false := by simp; omega
    go_enter Try.func8, Try.ntmps8
    go_wp2_with fail
    refine (short_any n w).mono ?_
    rintro e w' ⟨rfl, rfl⟩
    rw [z5]
    go_wp2_with fail
    refine (HAW.out w).mono ?_
    rintro e W1 ⟨rfl, hB1⟩
    go_wp2
    go_ret
    exact ⟨rfl, hB1⟩
end Go.Proofs.Ytehifbogadohgaa
