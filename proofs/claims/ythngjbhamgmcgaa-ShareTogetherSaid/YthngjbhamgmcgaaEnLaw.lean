/-
  The walk of the law ShareTogether.
-/
import Derived.Test.YthngjbhamgmcgaaEnRT
import Derived.Test.YthngjbhamgmcgaaShE
namespace Go.Proofs.Ythngjbhamgmcgaa
open Go.RowKit
attribute [local go_sem] Oper.semAt_some
set_option linter.unusedVariables false

set_option maxRecDepth 100000 in
set_option maxHeartbeats 8000000 in
theorem together_law (A : Option Addr) (n c : Nat) (R : List Er) (w : World) (hT : TabE w w.heap.size A n R) (hn : n ≤ 9223372036854775807) (hr : ∀ r ∈ R, r.n ≤ 9223372036854775807) (hs : ∀ r ∈ R, AllSz r.xs) :
    Calls Try.prog 6 #[.slice A n c] w (RetV w (.bool true)) := by
  have HL := hide (show R.length = n from hT.1.len1)
  have HR := hide hr
  have HSZ := hide hs
  clear hr hs
  by_cases hbig : 20 < n
  · have q0 : ((n : Int) > 20) := by omega
    go_enter Try.func6, Try.ntmps6
    go_wp2_with fail
    refine (awake_any _).mono ?_
    rintro e w0 ⟨rfl, hB0⟩
    go_wp2_with fail
    go_ret
    exact ⟨rfl, hB0⟩
  · have q0 : ¬ ((n : Int) > 20) := by omega
    go_enter Try.func6, Try.ntmps6
    go_wp2_with fail
    refine (awake_any _).mono ?_
    rintro e w0 ⟨rfl, hB0⟩
    have hT0 := hT.up hB0
    clear hT
    go_wp2_with fail
    go_loopw [3] (fun i wr => ∃ k : Nat, k ≤ n ∧ i = .int .i64 k ∧ (∀ r ∈ R.take k, r.n ≤ 60) ∧ Below w0.heap.size w0 wr) (fun i _ => n - (intOf i).toNat)
    case atStart => exact ⟨0, Nat.zero_le _, rfl, by simp, Below.refl _ _⟩
    case round =>
      obtain ⟨k, hk, rfl, hS, hB⟩ := hrel
      have HS := hide hS
      clear hS
      have hTw := hT0.up hB
      by_cases hlt : k < n
      · obtain ⟨b, off, r, rfl, hb, hrk, hc⟩ := hTw.1.at1 hlt
        have hc' : wr.cell? ⟨b, off + k, none⟩ = some (.slice r.a r.n r.c) := hc
        have hrm := List.mem_of_getElem? hrk
        have HV := hide (heavy_any r.a r.n r.c r.xs wr (hTw.2 r hrm) (HR.out r hrm))
        have HK := hide hrk
        clear hrk hrm hc hTw
        have q1 : (0 : Int) ≤ (k : Int) := by omega
        have q2 : (k : Int) < (n : Int) := by omega
        go_wp2_with fail
        refine HV.out.mono ?_
        rintro e w2 ⟨bb, rfl, hb60, hB2⟩
        have hB02 := bstep hB hB2
        have H60 := hide hb60
        clear hB2 hB HV hb60
        cases bb
        · go_wp2
          go_roundw
          case rel => exact ⟨k + 1, by omega, by go_num, fun s hs => by
            rw [take_snoc' HK.out] at hs
            rcases List.mem_append.1 hs with h | h
            · exact HS.out s h
            · rw [List.mem_singleton.1 h]; exact H60.out trivial, hB02⟩
          case measure => simp [intOf]; omega
        · go_wp2
          go_ret
          exact ⟨rfl, hB0.trans (hB02.mono hB0.size)⟩
      · obtain rfl : k = n := by omega
        have h60 : ∀ r ∈ R, r.n ≤ 60 := by
          have := HS.out
          rwa [take_all HL.out] at this
        have H1 := hide (Together_any A k c R wr hTw (by omega) h60 HSZ.out)
        have H60 := hide h60
        have hB00 := bstep hB0 hB
        clear h60 hT0 hB hB0
        go_wp2_with fail
        refine H1.out.mono ?_
        rintro e W2 ⟨xs, A2, n2, c2, E, hx1, rfl, hn2, hrd2, hB2⟩
        have hT2 := hTw.up hB2
        have hB02 := bstep hB00 hB2
        have H2 := hide (RTogether_any A k c R W2 hT2 (by omega) H60.out HSZ.out)
        have HX1 := hide hx1
        clear hTw hT2 hB00 hB2 H1 hx1
        go_wp2_with fail
        refine H2.out.mono ?_
        rintro e W3 ⟨ys, A3, n3, c3, F, hx2, rfl, hn3, hrd3, hB3⟩
        obtain ⟨e1, e2⟩ := HX1.out.one hx2
        subst e1 e2
        have hrd4 := hrd2.up hB3
        have l1 := hrd4.len (enc := encE) encE_len (by omega)
        have l2 := hrd3.len (enc := encE) encE_len (by omega)
        obtain rfl : n2 = n3 := by rw [← l1, l2]
        have H3 := hide (SameE_one A2 n2 c2 A3 c3 xs W3 hrd4 hrd3 (by omega))
        have hB03 := bstep hB02 hB3
        clear hrd2 hrd3 hrd4 hB02 hB3 H2 hx2 l1 l2
        go_wp2_with fail
        refine H3.out.mono ?_
        rintro e W4 ⟨rfl, hB4⟩
        have HB := hide (bstep hB03 hB4)
        clear hB03 hB4 H3
        go_wp2
        go_ret
        exact ⟨rfl, HB.out⟩
end Go.Proofs.Ythngjbhamgmcgaa
