/-
  The walks of Session on both sides, for every gap, times and time.
-/
import Derived.Test.YtehifbogadohgaaSeR
import Derived.Test.YtehifbogadohgaaCkCont
import Derived.Laws.ResultCell
import Derived.Laws.NewBlocks
namespace Go.Proofs.Ytehifbogadohgaa
open Go.RowKit
attribute [local go_sem] Oper.semAt_some

theorem results_win {fn : Func} {p u : Tmp} (h : fn.results = #[.cell p 35, .tmp u]) (tmps : Array Value) (w : World) (g : Nat) (a b : Int) (hp : tmps.getD p undef = .pointer (some ⟨g, 0, none⟩)) (hg : Blk w g 35 #[.int .i64 a, .int .i64 b]) :
    (results fn tmps).run Try.prog w = .ok (.tuple #[.agg #[.int .i64 a, .int .i64 b], tmps.getD u undef]) w := by
  rw [results_cell_tmp h, hp]
  have := run_loadVar_row (P := Try.prog) w g 35 35 #[.int .i64 a, .int .i64 b] (0, 0) _ hg Try.underlying35 rfl (by kernel_rfl)
  simp [asAddr, this]
/-- The first window that contains a time. -/
def found (t : Int) : List Wd → Wd × Int
  | [] => ((0, 0), 8)
  | x :: l => if cont x.1 x.2 t then (x, 0) else found t l
theorem found_skip {t : Int} : ∀ {a b : List Wd}, (∀ y ∈ a, cont y.1 y.2 t = false) → found t (a ++ b) = found t b
  | [], b, _ => rfl
  | x :: a, b, h => by
    rw [List.cons_append, found, if_neg (by rw [h x List.mem_cons_self]; simp), found_skip fun y hy => h y (List.mem_cons_of_mem _ hy)]
theorem found_at {t : Int} {l : List Wd} {k : Nat} {x : Wd} (hx : l[k]? = some x) (h : ∀ y ∈ l.take k, cont y.1 y.2 t = false) (hc : cont x.1 x.2 t = true) : found t l = (x, 0) := by
  obtain ⟨hk, rfl⟩ := List.getElem?_eq_some_iff.1 hx
  have h2 : found t (l.take k ++ l.drop k) = (l[k], 0) := by rw [found_skip h, List.drop_eq_getElem_cons hk, found, if_pos hc]
  rwa [List.take_append_drop] at h2
theorem found_no {t : Int} {l : List Wd} (h : ∀ y ∈ l, cont y.1 y.2 t = false) : found t l = ((0, 0), 8) := by
  rw [← List.append_nil l, found_skip h]; rfl
def sesF (out : List Wd) (E : Int) (t : Int) : Wd × Int := if E = 0 then (if vtime t then found t out else ((0, 0), 7)) else ((0, 0), E)
/-- A window and an error, handed back. -/
def RetWd (w : World) (g : Int) (ts : List Int) (t : Int) (e : Ending) (w' : World) : Prop := ∃ out E, SeE g ts out E ∧ e = .returned (.tuple #[.agg #[.int .i64 (sesF out E t).1.1, .int .i64 (sesF out E t).1.2], .int .i64 (sesF out E t).2]) ∧ Below w.heap.size w w'
theorem RetWd.mk {w w' : World} {g : Int} {ts : List Int} {t : Int} {out : List Wd} {E a b F : Int} (h : SeE g ts out E) (hf : sesF out E t = ((a, b), F)) (hB : Below w.heap.size w w') : RetWd w g ts t (.returned (.tuple #[.agg #[.int .i64 a, .int .i64 b], .int .i64 F])) w' := ⟨out, E, h, by rw [hf], hB⟩
theorem seE_le {g : Int} {ts : List Int} {out : List Wd} {E : Int} (h : SeE g ts out E) : 0 ≤ E ∧ E ≤ 7 := by
  unfold SeE at h
  split at h <;> omega
/-- The result's cell written. -/
theorem set2 {w : World} {g : Nat} {a b : Value} (h : Blk w g 35 #[a, b]) (c d : Value) : Blk ((w.setCell ⟨g, 0, none⟩ c).setCell ⟨g, 1, none⟩ d) g 35 #[c, d] := (h.set_ 0 c).set_ 1 d
set_option maxRecDepth 100000 in
set_option maxHeartbeats 8000000 in
theorem Session_any (g : Int) (A : Option Addr) (n c : Nat) (ts : List Int) (t : Int) (w : World) (hl : Reads w w.heap.size 1 A n (ts.map (.int .i64))) (hn : n ≤ 9223372036854775807) :
    Calls Try.prog 37 #[.int .i64 g, .slice A n c, .int .i64 t] w (RetWd w g ts t) := by
  have hBr := below_val (w := w) #[.int .i64 0, .int .i64 0] 35
  have xr := Blk.new w 35 #[.int .i64 0, .int .i64 0]
  have hl1 := hl.up hBr
  have HLn := hide hl.len1
  go_enter Try.func37, Try.ntmps37
  go_wp2_with fail
  refine (Sessions_any g A n c ts _ hl1 hn).mono ?_
  rintro e W1 ⟨out, A1, n1, c1, E, hse, rfl, hn1, hR1, hB1⟩
  have xr1 := xr.below hB1 xr.lt
  have hB01 := bstep hBr hB1
  have hg1 := xr1.lt
  have HS := hide hse
  have hEb := seE_le hse
  clear hse hB1 hl1 hBr xr hl
  have e0 := xr1.cell 0
  have e1 := xr1.cell 1
  have f0 := xr1.frozen 0
  have f1 := ((xr1.set_ 0 (.int .i64 0)).frozen 1)
  have e1' := (xr1.set_ 0 (.int .i64 0)).cell 1
  simp at e0 e1 e1'
  have X2 := hide (set2 xr1 (.int .i64 0) (.int .i64 0))
  have B2 := hide ((hB01.setCell (p := ⟨w.heap.size, 0, none⟩) (Nat.le_refl _) (.int .i64 0)).setCell (p := ⟨w.heap.size, 1, none⟩) (Nat.le_refl _) (.int .i64 0))
  by_cases hE : E = 0
  · subst hE
    cases ht : vtime t
    · have HF := hide (show sesF out 0 t = ((0, 0), 7) by unfold sesF; rw [ht]; rfl)
      go_wp2_with fail
      refine (Valid_any t W1).mono ?_
      rintro e w' ⟨rfl, rfl⟩
      rw [ht]
      go_wp2
      (try simp only [Exit.inBlock, Exit.then])
      refine bodyPost_ret_by (results_win rfl _ _ w.heap.size 0 0 rfl X2.out) rfl ?_
      exact RetWd.mk HS.out HF.out B2.out
    · have HF := hide (show sesF out 0 t = found t out by unfold sesF; rw [ht]; rfl)
      go_wp2_with fail
      refine (Valid_any t W1).mono ?_
      rintro e w' ⟨rfl, rfl⟩
      rw [ht]
      have HL1 := hide (show out.length = n1 from hR1.len (enc := encW) encW_len (by omega))
      clear e0 e1 f0 f1 e1' X2 B2 ht
      have hn1' : n1 ≤ 9223372036854775807 := by have := HLn.out; omega
      go_wp2_with fail
      go_loopw [30] (fun i wr => ∃ k : Nat, k ≤ n1 ∧ i = .int .i64 k ∧ (∀ y ∈ out.take k, cont y.1 y.2 t = false) ∧ Below W1.heap.size W1 wr) (fun i _ => n1 - (intOf i).toNat)
      case atStart => exact ⟨0, Nat.zero_le _, rfl, by simp, Below.refl _ _⟩
      case round =>
        obtain ⟨k, hk, rfl, hno, hB⟩ := hrel
        have HNO := hide hno
        clear hno
        by_cases hlt : k < n1
        · obtain ⟨b, off, x, rfl, hb, hxk, hc⟩ := hR1.elem (enc := encW) encW_len HL1.out hlt
          have HXK := hide hxk
          have d0 : W1.cell? ⟨b, off + k * 2, none⟩ = some (.int .i64 x.1) := by simpa using hc 0 _ rfl
          have d1 : W1.cell? ⟨b, off + k * 2 + 1, none⟩ = some (.int .i64 x.2) := by simpa [← Nat.add_assoc] using hc 1 _ rfl
          clear hc hxk
          have c0 := (hB.cell (p := ⟨b, off + k * 2, none⟩) hb).trans d0
          have c1 := (hB.cell (p := ⟨b, off + k * 2 + 1, none⟩) hb).trans d1
          have q1 : (0 : Int) ≤ (k : Int) := by omega
          have q2 : (k : Int) < (n1 : Int) := by omega
          have hBx := below_val (w := wr) #[.int .i64 x.1, .int .i64 x.2] 35
          have xb := Blk.new wr 35 #[.int .i64 x.1, .int .i64 x.2]
          have hB2 : Below W1.heap.size W1 (wr.alloc (.cells #[.int .i64 x.1, .int .i64 x.2] 35)) := hB.trans (hBx.mono hB.size)
          go_wp2_with fail
          refine (Contains_any x.1 x.2 t _).mono ?_
          rintro e W4 ⟨rfl, hB4⟩
          have xb4 := xb.below hB4 xb.lt
          have hB14 := hB2.trans (hB4.mono hB2.size)
          have b0 := xb4.cell 0
          have b1 := xb4.cell 1
          simp at b0 b1
          clear hBx xb hB2 hB4 c0 c1 d0 d1 hB
          cases hct : cont x.1 x.2 t
          · have HN2 := hide (show ∀ y ∈ out.take (k + 1), cont y.1 y.2 t = false from fun y hy => by
              rw [take_snoc' HXK.out] at hy
              rcases List.mem_append.1 hy with hy | hy
              · exact HNO.out y hy
              · rw [List.mem_singleton] at hy; rw [hy]; exact hct)
            clear hct b0 b1
            go_wp2
            go_roundw
            case rel => exact ⟨k + 1, by omega, by go_num, HN2.out, hB14⟩
            case measure => simp [intOf]; omega
          · have HF2 := hide (HF.out.trans (found_at HXK.out HNO.out hct))
            have xr4 := xr1.below hB14 hg1
            have e0 := xr4.cell 0
            have e1 := xr4.cell 1
            have f0 := xr4.frozen 0
            have f1 := ((xr4.set_ 0 (.int .i64 x.1)).frozen 1)
            have e1' := (xr4.set_ 0 (.int .i64 x.1)).cell 1
            simp at e0 e1 e1'
            have X5 := hide (set2 xr4 (.int .i64 x.1) (.int .i64 x.2))
            have hB04 : Below w.heap.size w W4 := hB01.trans (hB14.mono hB01.size)
            have B5 := hide ((hB04.setCell (p := ⟨w.heap.size, 0, none⟩) (Nat.le_refl _) (.int .i64 x.1)).setCell (p := ⟨w.heap.size, 1, none⟩) (Nat.le_refl _) (.int .i64 x.2))
            clear hct hB14 hB04 xr4
            go_wp2
            (try simp only [Exit.inBlock, Exit.then])
            refine bodyPost_ret_by (results_win rfl _ _ w.heap.size x.1 x.2 rfl X5.out) rfl ?_
            exact RetWd.mk HS.out HF2.out B5.out
        · obtain rfl : n1 = k := by omega
          have HF2 := hide (HF.out.trans (found_no (by have := HNO.out; rwa [take_all HL1.out] at this)))
          have xr4 := xr1.below hB hg1
          have e0 := xr4.cell 0
          have e1 := xr4.cell 1
          have f0 := xr4.frozen 0
          have f1 := ((xr4.set_ 0 (.int .i64 0)).frozen 1)
          have e1' := (xr4.set_ 0 (.int .i64 0)).cell 1
          simp at e0 e1 e1'
          have X5 := hide (set2 xr4 (.int .i64 0) (.int .i64 0))
          have hB04 : Below w.heap.size w wr := hB01.trans (hB.mono hB01.size)
          have B5 := hide ((hB04.setCell (p := ⟨w.heap.size, 0, none⟩) (Nat.le_refl _) (.int .i64 0)).setCell (p := ⟨w.heap.size, 1, none⟩) (Nat.le_refl _) (.int .i64 0))
          clear hB hB04 xr4
          go_wp2
          (try simp only [Exit.inBlock, Exit.then])
          refine bodyPost_ret_by (results_win rfl _ _ w.heap.size 0 0 rfl X5.out) rfl ?_
          exact RetWd.mk HS.out HF2.out B5.out
  · have zE : (E != 0) = true := by simpa using hE
    have HF := hide (show sesF out E t = ((0, 0), E) by unfold sesF; rw [if_neg hE])
    clear hE hEb
    go_wp2
    (try simp only [Exit.inBlock, Exit.then])
    refine bodyPost_ret_by (results_win rfl _ _ w.heap.size 0 0 rfl X2.out) rfl ?_
    exact RetWd.mk HS.out HF.out B2.out
set_option maxRecDepth 100000 in
set_option maxHeartbeats 8000000 in
theorem RSession_any (g : Int) (A : Option Addr) (n c : Nat) (ts : List Int) (t : Int) (w : World) (hl : Reads w w.heap.size 1 A n (ts.map (.int .i64))) (hn : n ≤ 9223372036854775807) :
    Calls Try.prog 38 #[.int .i64 g, .slice A n c, .int .i64 t] w (RetWd w g ts t) := by
  have hBr := below_val (w := w) #[.int .i64 0, .int .i64 0] 35
  have xr := Blk.new w 35 #[.int .i64 0, .int .i64 0]
  have hl1 := hl.up hBr
  have HLn := hide hl.len1
  go_enter Try.func38, Try.ntmps38
  go_wp2_with fail
  refine (RSessions_any g A n c ts _ hl1 hn).mono ?_
  rintro e W1 ⟨out, A1, n1, c1, E, hse, rfl, hn1, hR1, hB1⟩
  have xr1 := xr.below hB1 xr.lt
  have hB01 := bstep hBr hB1
  have hg1 := xr1.lt
  have HS := hide hse
  have hEb := seE_le hse
  clear hse hB1 hl1 hBr xr hl
  have e0 := xr1.cell 0
  have e1 := xr1.cell 1
  have f0 := xr1.frozen 0
  have f1 := ((xr1.set_ 0 (.int .i64 0)).frozen 1)
  have e1' := (xr1.set_ 0 (.int .i64 0)).cell 1
  simp at e0 e1 e1'
  have X2 := hide (set2 xr1 (.int .i64 0) (.int .i64 0))
  have B2 := hide ((hB01.setCell (p := ⟨w.heap.size, 0, none⟩) (Nat.le_refl _) (.int .i64 0)).setCell (p := ⟨w.heap.size, 1, none⟩) (Nat.le_refl _) (.int .i64 0))
  by_cases hE : E = 0
  · subst hE
    cases ht : vtime t
    · have HF := hide (show sesF out 0 t = ((0, 0), 7) by unfold sesF; rw [ht]; rfl)
      go_wp2_with fail
      refine (RValid_any t W1).mono ?_
      rintro e w' ⟨rfl, rfl⟩
      rw [ht]
      go_wp2
      (try simp only [Exit.inBlock, Exit.then])
      refine bodyPost_ret_by (results_win rfl _ _ w.heap.size 0 0 rfl X2.out) rfl ?_
      exact RetWd.mk HS.out HF.out B2.out
    · have HF := hide (show sesF out 0 t = found t out by unfold sesF; rw [ht]; rfl)
      go_wp2_with fail
      refine (RValid_any t W1).mono ?_
      rintro e w' ⟨rfl, rfl⟩
      rw [ht]
      have HL1 := hide (show out.length = n1 from hR1.len (enc := encW) encW_len (by omega))
      clear e0 e1 f0 f1 e1' X2 B2 ht
      have hn1' : n1 ≤ 9223372036854775807 := by have := HLn.out; omega
      go_wp2_with fail
      go_loopw [10] (fun i wr => ∃ k : Nat, k ≤ n1 ∧ i = .int .i64 k ∧ (∀ y ∈ out.take k, cont y.1 y.2 t = false) ∧ Below W1.heap.size W1 wr) (fun i _ => n1 - (intOf i).toNat)
      case atStart => exact ⟨0, Nat.zero_le _, rfl, by simp, Below.refl _ _⟩
      case round =>
        obtain ⟨k, hk, rfl, hno, hB⟩ := hrel
        have HNO := hide hno
        clear hno
        by_cases hlt : k < n1
        · obtain ⟨b, off, x, rfl, hb, hxk, hc⟩ := hR1.elem (enc := encW) encW_len HL1.out hlt
          have HXK := hide hxk
          have d0 : W1.cell? ⟨b, off + k * 2, none⟩ = some (.int .i64 x.1) := by simpa using hc 0 _ rfl
          have d1 : W1.cell? ⟨b, off + k * 2 + 1, none⟩ = some (.int .i64 x.2) := by simpa [← Nat.add_assoc] using hc 1 _ rfl
          clear hc hxk
          have c0 := (hB.cell (p := ⟨b, off + k * 2, none⟩) hb).trans d0
          have c1 := (hB.cell (p := ⟨b, off + k * 2 + 1, none⟩) hb).trans d1
          have q1 : (0 : Int) ≤ (k : Int) := by omega
          have q2 : (k : Int) < (n1 : Int) := by omega
          go_wp2_with fail
          refine (RContains_any x.1 x.2 t _).mono ?_
          rintro e W4 ⟨rfl, hB4⟩
          have hB14 := hB.trans (hB4.mono hB.size)
          clear c0 c1
          have b0 := (hB14.cell (p := ⟨b, off + k * 2, none⟩) hb).trans d0
          have b1 := (hB14.cell (p := ⟨b, off + k * 2 + 1, none⟩) hb).trans d1
          clear hB4 d0 d1 hB
          cases hct : cont x.1 x.2 t
          · have HN2 := hide (show ∀ y ∈ out.take (k + 1), cont y.1 y.2 t = false from fun y hy => by
              rw [take_snoc' HXK.out] at hy
              rcases List.mem_append.1 hy with hy | hy
              · exact HNO.out y hy
              · rw [List.mem_singleton] at hy; rw [hy]; exact hct)
            clear hct b0 b1
            go_wp2
            go_roundw
            case rel => exact ⟨k + 1, by omega, by go_num, HN2.out, hB14⟩
            case measure => simp [intOf]; omega
          · have HF2 := hide (HF.out.trans (found_at HXK.out HNO.out hct))
            have xr4 := xr1.below hB14 hg1
            have e0 := xr4.cell 0
            have e1 := xr4.cell 1
            have f0 := xr4.frozen 0
            have f1 := ((xr4.set_ 0 (.int .i64 x.1)).frozen 1)
            have e1' := (xr4.set_ 0 (.int .i64 x.1)).cell 1
            simp at e0 e1 e1'
            have X5 := hide (set2 xr4 (.int .i64 x.1) (.int .i64 x.2))
            have hB04 : Below w.heap.size w W4 := hB01.trans (hB14.mono hB01.size)
            have B5 := hide ((hB04.setCell (p := ⟨w.heap.size, 0, none⟩) (Nat.le_refl _) (.int .i64 x.1)).setCell (p := ⟨w.heap.size, 1, none⟩) (Nat.le_refl _) (.int .i64 x.2))
            clear hct hB14 hB04 xr4
            go_wp2
            (try simp only [Exit.inBlock, Exit.then])
            refine bodyPost_ret_by (results_win rfl _ _ w.heap.size x.1 x.2 rfl X5.out) rfl ?_
            exact RetWd.mk HS.out HF2.out B5.out
        · obtain rfl : n1 = k := by omega
          have HF2 := hide (HF.out.trans (found_no (by have := HNO.out; rwa [take_all HL1.out] at this)))
          have xr4 := xr1.below hB hg1
          have e0 := xr4.cell 0
          have e1 := xr4.cell 1
          have f0 := xr4.frozen 0
          have f1 := ((xr4.set_ 0 (.int .i64 0)).frozen 1)
          have e1' := (xr4.set_ 0 (.int .i64 0)).cell 1
          simp at e0 e1 e1'
          have X5 := hide (set2 xr4 (.int .i64 0) (.int .i64 0))
          have hB04 : Below w.heap.size w wr := hB01.trans (hB.mono hB01.size)
          have B5 := hide ((hB04.setCell (p := ⟨w.heap.size, 0, none⟩) (Nat.le_refl _) (.int .i64 0)).setCell (p := ⟨w.heap.size, 1, none⟩) (Nat.le_refl _) (.int .i64 0))
          clear hB hB04 xr4
          go_wp2
          (try simp only [Exit.inBlock, Exit.then])
          refine bodyPost_ret_by (results_win rfl _ _ w.heap.size 0 0 rfl X5.out) rfl ?_
          exact RetWd.mk HS.out HF2.out B5.out
  · have zE : (E != 0) = true := by simpa using hE
    have HF := hide (show sesF out E t = ((0, 0), E) by unfold sesF; rw [if_neg hE])
    clear hE hEb
    go_wp2
    (try simp only [Exit.inBlock, Exit.then])
    refine bodyPost_ret_by (results_win rfl _ _ w.heap.size 0 0 rfl X2.out) rfl ?_
    exact RetWd.mk HS.out HF.out B2.out
end Go.Proofs.Ytehifbogadohgaa
