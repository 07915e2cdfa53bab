/-
  The walk of the reference's free.
-/
import Derived.Test.YtblepaocekojbaaLcM
namespace Go.Proofs.Ytblepaocekojbaa
open Go.RowKit Go.Shelf Go.Maps Go.Deep
attribute [local go_sem] Oper.semAt_some
set_option linter.unusedVariables false

theorem rowS_split (m : Nat) {s a : Nat} (h : s < a) : ∃ rest, rowS m a = rowS m s ++ ⟨(m : Int), (s : Int)⟩ :: rest := by
  induction a with
  | zero => omega
  | succ a ih =>
    rw [rowS_succ]
    by_cases e : s = a
    · subst e; exact ⟨[], rfl⟩
    · obtain ⟨rest, hr⟩ := ih (by omega)
      exact ⟨rest ++ [⟨(m : Int), (a : Int)⟩], by rw [hr]; simp⟩
theorem slots_split (S : Nat → Nat) {n m s : Nat} (hm : m < n) (hs : s < S m) : ∃ rest, slotsL S n = (slotsL S m ++ rowS m s) ++ ⟨(m : Int), (s : Int)⟩ :: rest := by
  induction n with
  | zero => omega
  | succ n ih =>
    rw [slotsL_succ]
    by_cases e : m = n
    · subst e
      obtain ⟨rest, hr⟩ := rowS_split m hs
      exact ⟨rest, by rw [hr]; simp⟩
    · obtain ⟨rest, hr⟩ := ih (by omega)
      exact ⟨rest ++ rowS n (S n), by rw [hr]; simp⟩
theorem freeL_hit {pre rest tk : List Pl} {x : Pl} (h : ∀ y ∈ pre, y ∈ tk) (hx : ¬ x ∈ tk) : freeL (pre ++ x :: rest) tk = x := by
  unfold freeL
  rw [List.find?_append, List.find?_eq_none.2 (fun y hy => by simp [h y hy])]
  simp [hx]
theorem freeL_none {sl tk : List Pl} (h : ∀ y ∈ sl, y ∈ tk) : freeL sl tk = ⟨0, 0⟩ := by
  unfold freeL
  rw [List.find?_eq_none.2 (fun y hy => by simp [h y hy])]
  rfl
theorem results_pl {fn : Func} {p : Tmp} (h : fn.results = #[.cell p 67]) (tmps : Array Value) (w : World) (g : Nat) (a b : Int) (hp : tmps.getD p undef = .pointer (some ⟨g, 0, none⟩)) (hg : Blk w g 67 #[.int .i64 a, .int .i64 b]) :
    (results fn tmps).run Try.prog w = .ok (.agg #[.int .i64 a, .int .i64 b]) w :=
  results_cell_row h tmps w g 67 #[.int .i64 a, .int .i64 b] (0, 0) _ hp hg Try.underlying67 rfl (by kernel_rfl)
theorem setP {w : World} {g : Nat} {a b : Value} {t : TypeId} (h : Blk w g t #[a, b]) (c d : Value) : Blk ((w.setCell ⟨g, 0, none⟩ c).setCell ⟨g, 1, none⟩ d) g t #[c, d] := (h.set_ 0 c).set_ 1 d
set_option maxRecDepth 100000 in
set_option maxHeartbeats 4000000 in
theorem free_any (A : Option Addr) (q c : Nat) (tk : List Pl) (A2 : Option Addr) (n c2 : Nat) (ss : List Int) (w : World) (hl : Reads w w.heap.size 2 A q (tk.flatMap encPl)) (hs : Reads w w.heap.size 1 A2 n (ss.map (Value.int .i64))) (hq : q ≤ 1000000) (hsl : slotB n ss = true) :
    Calls Try.prog 79 #[.slice A q c, .slice A2 n c2] w (RetV w (.agg #[.int .i64 (freeL (slotsL (natA ss) n) tk).m, .int .i64 (freeL (slotsL (natA ss) n) tk).s])) := by
  have hso := slot_ok hsl hs
  have HSO := hide (fun k hk => hso.2.2 k hk)
  have hn1 := hso.1
  have hn20 := hso.2.1
  obtain ⟨S, hS⟩ : ∃ S, natA ss = S := ⟨_, rfl⟩
  have HS := hide hS
  rw [hS] at HSO ⊢
  clear hso hS hsl
  have hB0 : Below w.heap.size w (w.alloc (.cells #[.int .i64 0, .int .i64 0] 67)) := (Below.refl _ _).alloc (Nat.le_refl _) _
  have k0 := Blk.new w 67 #[.int .i64 0, .int .i64 0]
  have hwl : w.heap.size < (w.alloc (.cells #[.int .i64 0, .int .i64 0] 67)).heap.size := by simp
  obtain ⟨F, hF⟩ : ∃ F, freeL (slotsL S n) tk = F := ⟨_, rfl⟩
  have HF := hide hF
  rw [hF]
  clear hF
  go_enter Try.func79, Try.ntmps79
  go_wp2_with fail
  obtain ⟨W, hW⟩ : ∃ W, w.alloc (.cells #[.int .i64 0, .int .i64 0] 67) = W := ⟨_, rfl⟩
  rw [hW] at hB0 k0 hwl ⊢
  clear hW
  go_loopw [5, 6] (fun i _ wr => ∃ m : Nat, m ≤ n ∧ i = .int .i64 m ∧ (∀ y ∈ slotsL S m, y ∈ tk) ∧ Blk wr w.heap.size 67 #[.int .i64 0, .int .i64 0] ∧ w.heap.size < wr.heap.size ∧ Below w.heap.size w wr) (fun i _ _ => n - (intOf i).toNat)
  case atStart => exact ⟨0, Nat.zero_le _, rfl, (fun y hy => (by cases hy)), k0, hwl, hB0⟩
  case round =>
    clear k0 hwl hB0
    obtain ⟨m, hmn, rfl, hall, kb, hwl, hB⟩ := hrel
    have HALL := hide hall
    clear hall
    by_cases hltm : m < n
    · have hsm := (HSO.out m hltm).2
      obtain ⟨b, off, x0, hA, hb, _, _⟩ := (hs.below hB).at1 hltm
      rw [hA]
      have HA := hide hA
      clear hA
      go_wp2_with fail
      go_loopw [6] (fun i wr => ∃ s : Nat, s ≤ S m ∧ i = .int .i64 s ∧ (∀ y ∈ rowS m s, y ∈ tk) ∧ Blk wr w.heap.size 67 #[.int .i64 0, .int .i64 0] ∧ w.heap.size < wr.heap.size ∧ Below w.heap.size w wr) (fun i _ => S m - (intOf i).toNat)
      case atStart => exact ⟨0, Nat.zero_le _, rfl, (fun y hy => (by cases hy)), kb, hwl, hB⟩
      case round =>
        clear kb hwl hB
        obtain ⟨s, hsn, rfl, hrow, kb, hwl, hB⟩ := hrel
        have HROW := hide hrow
        clear hrow
        obtain ⟨b', off', x, hA, hb', hxk, hc⟩ := (hs.below hB).at1 hltm
        have h1 := (HSO.out m hltm).1
        rw [hxk] at h1
        injection h1 with h1
        subst h1
        rw [HA.out] at hA
        injection hA with hA
        injection hA with hA1 hA2
        subst hA1 hA2
        have e0 : wr.cell? ⟨b, off + m, none⟩ = some (.int .i64 ((S m : Nat) : Int)) := hc
        clear hxk hc
        have q1 : (0 : Int) ≤ (m : Int) := by omega
        have q2 : (m : Int) < (n : Int) := by omega
        by_cases hlts : s < S m
        · have HSP := hide (slots_split S hltm hlts)
          have HI := hide (index_any A q c tk ⟨(m : Int), (s : Int)⟩ wr (hl.up hB) hq)
          have HG := hide (idxP_lt (l := tk) (p := ⟨(m : Int), (s : Int)⟩))
          obtain ⟨v, hv⟩ : ∃ v, idxP tk ⟨(m : Int), (s : Int)⟩ = v := ⟨_, rfl⟩
          rw [hv] at HI HG
          clear hv
          obtain ⟨sm, hsmm⟩ : ∃ sm, S m = sm := ⟨_, rfl⟩
          have HSM := hide hsmm
          rw [hsmm] at e0 hlts hsm hsn
          clear hsmm
          go_wp2_with fail
          refine HI.out.mono ?_
          rintro e W3 ⟨rfl, hB3⟩
          have k3 := kb.below hB3 hwl
          have hwl3 : w.heap.size < W3.heap.size := Nat.lt_of_lt_of_le hwl hB3.size
          have hB03 := bstep hB hB3
          clear kb hwl hB hB3 HI e0
          by_cases hin : (⟨(m : Int), (s : Int)⟩ : Pl) ∈ tk
          · have z : decide (v < 0) = false := by rw [HG.out]; simp [hin]
            have HN := hide (show ∀ y ∈ rowS m (s + 1), y ∈ tk from fun y hy => by
              rw [rowS_succ, List.mem_append, List.mem_singleton] at hy
              rcases hy with h | h
              · exact HROW.out y h
              · rw [h]; exact hin)
            have HK := hide k3
            clear hin k3
            go_wp2
            go_roundw
            case rel => exact ⟨s + 1, by rw [HSM.out]; omega, by go_num, HN.out, HK.out, hwl3, hB03⟩
            case measure => rw [HSM.out]; simp [intOf]; omega
          · have z : decide (v < 0) = true := by rw [HG.out]; simp [hin]
            have HR := hide (show F = ⟨(m : Int), (s : Int)⟩ by
              rw [← HF.out]
              obtain ⟨rest, hr⟩ := HSP.out
              rw [hr]
              refine freeL_hit (fun y hy => ?_) hin
              rw [List.mem_append] at hy
              exact hy.elim (HALL.out y) (HROW.out y))
            have f0 := k3.frozen 0
            have c0 := k3.cell 0
            have c1 := k3.cell 1
            have f1 := (k3.set_ 0 (.int .i64 (m : Int))).frozen 1
            have c1' := (k3.set_ 0 (.int .i64 (m : Int))).cell 1
            simp at c0 c1 c1'
            have HX := hide (setP k3 (.int .i64 (m : Int)) (.int .i64 (s : Int)))
            have HB := hide ((hB03.setCell (p := ⟨w.heap.size, 0, none⟩) (Nat.le_refl _) (.int .i64 (m : Int))).setCell (p := ⟨w.heap.size, 1, none⟩) (Nat.le_refl _) (.int .i64 (s : Int)))
            clear hin k3 hB03
            go_wp2
            (try simp only [Exit.inBlock, Exit.then])
            refine bodyPost_ret_by (results_pl rfl _ _ w.heap.size (m : Int) (s : Int) rfl HX.out) rfl ?_
            exact ⟨by rw [HR.out], HB.out⟩
        · obtain rfl : s = S m := by omega
          have HN := hide (show ∀ y ∈ slotsL S (m + 1), y ∈ tk from fun y hy => by
            rw [slotsL_succ, List.mem_append] at hy
            exact hy.elim (HALL.out y) (HROW.out y))
          have HK := hide kb
          clear kb
          go_wp2
          go_roundw
          case rel => exact ⟨m + 1, by omega, by go_num, HN.out, HK.out, hwl, hB⟩
          case measure => simp [intOf]; omega
    · obtain rfl : n = m := by omega
      have HR := hide (show F = ⟨0, 0⟩ by rw [← HF.out]; exact freeL_none HALL.out)
      have f0 := kb.frozen 0
      have c0 := kb.cell 0
      have f1 := (kb.set_ 0 (.int .i64 0)).frozen 1
      have c1' := (kb.set_ 0 (.int .i64 0)).cell 1
      simp at c0 c1'
      have HX := hide (setP kb (.int .i64 0) (.int .i64 0))
      have HB := hide ((hB.setCell (p := ⟨w.heap.size, 0, none⟩) (Nat.le_refl _) (.int .i64 0)).setCell (p := ⟨w.heap.size, 1, none⟩) (Nat.le_refl _) (.int .i64 0))
      clear kb hB
      go_wp2
      (try simp only [Exit.inBlock, Exit.then])
      refine bodyPost_ret_by (results_pl rfl _ _ w.heap.size 0 0 rfl HX.out) rfl ?_
      exact ⟨by rw [HR.out], HB.out⟩
end Go.Proofs.Ytblepaocekojbaa
