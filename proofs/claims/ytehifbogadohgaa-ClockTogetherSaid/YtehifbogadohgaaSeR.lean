/-
  The walk of the reference's Sessions, for every gap and times.
-/
import Derived.Test.YtehifbogadohgaaSeS
import Derived.Test.YtehifbogadohgaaCkRV
import Derived.Test.YtehifbogadohgaaApp
namespace Go.Proofs.Ytehifbogadohgaa
open Go.RowKit
attribute [local go_sem] Oper.semAt_some

set_option maxRecDepth 100000 in
set_option maxHeartbeats 4000000 in
theorem RSessions_any (g : Int) (A : Option Addr) (n c : Nat) (ts : List Int) (w : World) (hl : Reads w w.heap.size 1 A n (ts.map (.int .i64))) (hn : n ≤ 9223372036854775807) :
    Calls Try.prog 36 #[.int .i64 g, .slice A n c] w (RetSe w g ts) := by
  obtain ⟨i0, hi0, hz0, hz1, hz2⟩ := info_parts Try.infoWin
  have HL := hide hl.len1
  by_cases h4 : n ≤ 400
  · have z : decide ((400 : Int) < (n : Int)) = false := by simp; omega
    have h4' : ts.length ≤ 400 := by rw [HL.out]; exact h4
    cases hg : inB g 1 1000000000
    · have HX := hide (SeE.bad (E := 7) h4' (show (inB g 1 1000000000 && okTs ts) = false by rw [hg]; rfl) rfl)
      go_enter Try.func36, Try.ntmps36
      go_wp2_with fail
      refine (Within_any g _ _ w).mono ?_
      rintro e w' ⟨rfl, rfl⟩
      rw [hg]
      go_wp2
      go_ret2
      exact ⟨[], none, 0, 0, 7, HX.out, rfl, Nat.zero_le _, Reads.none_, Below.refl _ _⟩
    · go_enter Try.func36, Try.ntmps36
      go_wp2_with fail
      refine (Within_any g _ _ w).mono ?_
      rintro e w0 ⟨rfl, rfl⟩
      rw [hg]
      have HG := hide hg
      obtain ⟨hg1, hg2⟩ := (inB_iff _ _ _).1 hg
      clear hg
      go_wp2_with fail
      go_loopw [6, 7] (fun v i wr => ∃ k : Nat, k ≤ n ∧ i = .int .i64 k ∧ okTs (ts.take k) = true ∧ wr.ownsRow w.heap.size 35 2 v k (flatW (sesL g (ts.take k))) ∧ Below w.heap.size w wr) (fun _ i _ => n - (intOf i).toNat)
      case atStart => exact ⟨0, Nat.zero_le _, rfl, rfl, World.ownsRow_nil _ _ _ _, Below.refl _ _⟩
      case round =>
        obtain ⟨k, hk, rfl, hok, hown, hB⟩ := hrel
        have HOK := hide hok
        clear hok
        have hWs := hB.size
        by_cases hlt : k < n
        · obtain ⟨b, off, x, rfl, hb, hxk, hc⟩ := (hl.below hB).at1 hlt
          have HN := hide (sesL_next (g := g) hxk)
          have HXK := hide hxk
          clear hxk
          have q1 : (0 : Int) ≤ (k : Int) := by omega
          have q2 : (k : Int) < (n : Int) := by omega
          go_wp2_with fail
          refine (RValid_any x wr).mono ?_
          rintro e w1 ⟨rfl, hw1⟩
          subst hw1
          cases hq : vtime x
          · have HX := hide (SeE.bad (g := g) (E := 7) h4' (show (inB g 1 1000000000 && okTs ts) = false by rw [okTs_bad HXK.out hq]; simp) rfl)
            clear hq
            go_wp2
            go_ret2
            exact ⟨[], none, 0, 0, 7, HX.out, rfl, Nat.zero_le _, Reads.none_, hB⟩
          · have HON := hide (okTs_next HXK.out HOK.out hq)
            obtain ⟨hx1, hx2⟩ := vtime_bd hq
            clear hq
            have wr0 : IntKind.i64.wrap (x + g) = x + g := by rw [IntKind.wrap_i64]; omega
            have hrd : Reads (wr.alloc (.cells #[.int .i64 x, .int .i64 (x + g)] 35)).drew (wr.heap.size + 1) 2 (some ⟨wr.heap.size, 0, none⟩) 1 [.int .i64 x, .int .i64 (x + g)] := by
              refine ⟨rfl, fun _ => ⟨wr.heap.size, 0, rfl, by omega, fun j u hu => ?_⟩⟩
              rw [Nat.zero_add]
              exact ((Blk.new wr 35 #[.int .i64 x, .int .i64 (x + g)]).cell j).trans (by simpa using hu)
            have hownA := (hown.alloc (.cells #[.int .i64 x, .int .i64 (x + g)] 35)).drew
            have hBA := (hB.alloc hWs (.cells #[.int .i64 x, .int .i64 (x + g)] 35)).drew
            go_wp2_with fail
            go_region_law ((refine step_append_any _ (by rfl) _ _ _ (by rfl) w.heap.size 35 i0 _ 2 16 Try.underlying22 hi0 hz0 hz1 hz2 rfl (by omega) _ k _ (by rfl) hownA (wr.heap.size + 1) (some ⟨wr.heap.size, 0, none⟩) 1 1 [.int .i64 x, .int .i64 (x + g)] (by rfl) hrd (by simp [Value.oneCell']) (by unfold maxLen; omega) (by omega) (by simp; omega) ?_; intro v3 w3 hown3 hgrow hat))
            all_goals
              have hB3 : Below w.heap.size w w3 := below_append hBA hownA (Nat.le_trans hWs (by simp [World.drew])) hgrow
              have hown4 : w3.ownsRow w.heap.size 35 2 v3 (k + 1) (flatW (sesL g (ts.take (k + 1)))) := by rw [HN.out, flatW_snoc]; exact hown3
              clear hown3 hgrow hat hownA hBA hrd wr0 hc
              go_wp2
              go_roundw
              case rel => exact ⟨k + 1, by omega, by go_num, HON.out, hown4, hB3⟩
              case measure => simp [intOf]; omega
        · obtain rfl : n = k := by omega
          have HO := hide (show okTs ts = true by have := HOK.out; rwa [take_all HL.out] at this)
          have HX := hide (fun out hm => SeE.ok (out := out) (E := 0) h4' (show (inB g 1 1000000000 && okTs ts) = true by rw [HO.out, HG.out]; rfl) hm rfl)
          rw [take_all HL.out] at hown
          obtain ⟨A5, c5, rfl, hR5⟩ := own_form hown
          go_wp2_with fail
          refine (RMerged_any A5 n c5 (sesL g ts) wr hR5 (by omega) (sesL_allV HO.out hg1 hg2)).mono ?_
          rintro e W2 ⟨out, A2, n2, c2, hmg, rfl, hn2, hR, hB2⟩
          have HM := hide (HX.out out hmg)
          have HB := hide (bstep hB hB2)
          have hn2' : n2 ≤ ts.length := by rw [HL.out]; exact hn2
          clear hmg hB hB2 hown hR5
          go_wp2
          go_ret2
          exact ⟨out, A2, n2, c2, 0, HM.out, rfl, hn2', hR, HB.out⟩
  · have z : decide ((400 : Int) < (n : Int)) = true := by simp; omega
    have HX := hide (SeE.long (g := g) (ts := ts) (E := 1) (by rw [HL.out]; exact h4) rfl)
    go_enter Try.func36, Try.ntmps36
    go_wp2
    go_ret2
    exact ⟨[], none, 0, 0, 1, HX.out, rfl, Nat.zero_le _, Reads.none_, Below.refl _ _⟩
end Go.Proofs.Ytehifbogadohgaa
