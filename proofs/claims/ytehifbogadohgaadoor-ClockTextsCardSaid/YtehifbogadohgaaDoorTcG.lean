/-
  The walk of the reference's Words. No condition.
-/
import Derived.Test.YtehifbogadohgaaDoorTcF
namespace Go.Proofs.YtehifbogadohgaaDoor
open Go.RowKit
set_option linter.unusedVariables false
set_option linter.unusedSimpArgs false

def RetWd (w : World) (ws : List (List UInt8)) (e : Ending) (w' : World) : Prop := ∃ A c, e = .returned (.slice A ws.length c) ∧ w'.ownsRow w.heap.size 9 1 (.slice A ws.length c) ws.length (ws.map strV) ∧ Below w.heap.size w w'
theorem own_someW {w : World} {base : Nat} {A : Option Addr} {n c : Nat} {xs : List Value} (h : w.ownsRow base 9 1 (.slice A n c) n xs) (hn : 0 < n) : ∃ g, A = some ⟨g, 0, none⟩ := by
  rcases h.2 with ⟨he, h0⟩ | ⟨g', cap, cur, he, _⟩
  · injection he with _ h1 _; omega
  · injection he with h1 _ _; exact ⟨g', h1⟩
theorem take_snocB (s : ByteArray) (k : Nat) (h : k < s.size) : s.data.toList.take (k + 1) = s.data.toList.take k ++ [s[k]] := by
  rw [List.take_succ_eq_append_getElem (by simpa using h)]; rfl
theorem words_short : ∀ (l : List UInt8), ∀ v ∈ wordsL l, v.length ≤ l.length := by
  intro l
  induction hl : l.length generalizing l with
  | zero =>
    obtain rfl := List.length_eq_zero_iff.1 hl
    intro v hv
    obtain rfl : v = [] := by simpa [wordsL] using hv
    exact Nat.le_refl _
  | succ m ih =>
    obtain ⟨k, c, rfl⟩ : ∃ k c, l = k ++ [c] := ⟨l.dropLast, l.getLast (by intro e; rw [e] at hl; cases hl), (List.dropLast_concat_getLast _).symm⟩
    have hk : k.length = m := by rw [List.length_append] at hl; simpa using hl
    have h1 := ih k hk
    have hL : (k ++ [c]).length = k.length + 1 := by simp
    intro v hv
    rw [words_snoc, stW] at hv
    split at hv
    · rcases List.mem_append.1 hv with hv | hv
      · have := h1 v hv; omega
      · obtain rfl : v = [] := by simpa using hv
        exact Nat.zero_le _
    · rcases List.mem_append.1 hv with hv | hv
      · have := h1 v (List.dropLast_subset _ hv); omega
      · obtain rfl : v = (wordsL k).getLastD [] ++ [c] := by simpa using hv
        have h2 : (wordsL k).getLastD [] ∈ wordsL k := by
          rw [List.getLastD_eq_getLast?, List.getLast?_eq_some_getLast (words_ne k)]
          exact List.getLast_mem _
        have h3 := h1 _ h2
        have h4 : ((wordsL k).getLastD [] ++ [c]).length = ((wordsL k).getLastD []).length + 1 := by simp
        omega
set_option maxRecDepth 100000 in
set_option maxHeartbeats 8000000 in
theorem Words_any (s : ByteArray) (w : World) (hs : s.size ≤ 1000000) : Calls Tryd.prog 18 #[.string s] w (RetWd w (wordsL s.data.toList)) := by
  have hB0 : Below w.heap.size w (w.alloc (.cells #[.string ⟨#[]⟩] 9)) := (Below.refl _ _).alloc (Nat.le_refl _) _
  have hown0 : (w.alloc (.cells #[.string ⟨#[]⟩] 9)).ownsRow w.heap.size 9 1 (.slice (some ⟨w.heap.size, 0, none⟩) 1 1) 1 ([[]].map strV) := own_lit w 9 1 1 #[.string ⟨#[]⟩] rfl (by unfold maxLen; omega) (Nat.le_refl _)
  have HB0 := hide hB0
  have HO0 := hide hown0
  clear hB0 hown0
  go_enter Tryd.func18, Tryd.ntmps18
  go_wp2_with fail
  have hB0 := HB0.out
  have hown0 := HO0.out
  go_loopw [3, 4] (fun vo i wr => ∃ (k n : Nat) (A : Option Addr) (c : Nat), k ≤ s.size ∧ i = .int .i64 (k : Int) ∧ vo = .slice A n c ∧ n = (wordsL (s.data.toList.take k)).length ∧ n ≤ k + 1 ∧ wr.ownsRow w.heap.size 9 1 (.slice A n c) n ((wordsL (s.data.toList.take k)).map strV) ∧ Below w.heap.size w wr) (fun _ i _ => s.size - (intOf i).toNat)
  case atStart => exact ⟨0, 1, some ⟨w.heap.size, 0, none⟩, 1, Nat.zero_le _, rfl, rfl, rfl, by omega, hown0, hB0⟩
  case round =>
    clear hB0 hown0 HB0 HO0
    obtain ⟨k, n, A, c, hk, rfl, rfl, hn, hnk, hown, hB⟩ := hrel
    have hsz := hB.size
    by_cases hlt : k < s.size
    · have HSN := hide (take_snocB s k hlt)
      have q1 : (0 : Int) ≤ (k : Int) := by omega
      have q2 : (k : Int) < (s.size : Int) := by omega
      have hc8 := (s[k]).toNat_lt
      have HN := hide hn
      by_cases h32 : (s[k]).toNat = 32
      · have z : (((s[k]).toNat : Int) == 32) = true := by rw [h32]; rfl
        have e32 : s[k] = 32 := UInt8.toNat_inj.1 h32
        have HW := hide (show wordsL (s.data.toList.take (k + 1)) = wordsL (s.data.toList.take k) ++ [[]] from by rw [HSN.out, words_snoc, stW, if_pos e32])
        obtain ⟨A', c', X', hrun, hown', hb'⟩ := wd_app hown hsz (by omega)
        have HO := hide hown'
        have HB := hide (hB.trans hb')
        clear hn hown hB h32 e32 hown' hb' hsz
        go_wp2_with (at_builtin; refine wpList_append_isW rfl _ _ 37 rfl rfl rfl rfl hrun ?_)
        go_roundw
        case rel => exact ⟨k + 1, n + 1, A', c', by omega, by go_num, rfl, by rw [HW.out, List.length_append, ← HN.out]; rfl, by omega, by rw [HW.out]; exact HO.out, HB.out⟩
        case measure => simp [intOf]; omega
      · have z : (((s[k]).toNat : Int) == 32) = false := by rw [beq_eq_false_iff_ne]; omega
        have hne : s[k] ≠ 32 := fun e => h32 (by rw [e]; rfl)
        obtain ⟨ws, v, hwv⟩ : ∃ ws v, wordsL (s.data.toList.take k) = ws ++ [v] := ⟨_, _, (List.dropLast_concat_getLast (words_ne _)).symm⟩
        have HW := hide (show wordsL (s.data.toList.take (k + 1)) = ws ++ [v ++ [s[k]]] from by
          rw [HSN.out, words_snoc, stW, if_neg hne, hwv, List.dropLast_concat]
          simp)
        have hwv0 := hide hwv
        rw [hwv] at hown hn
        have hn1 : n = ws.length + 1 := by rw [hn]; simp
        obtain ⟨g, rfl⟩ := own_someW hown (by omega)
        obtain ⟨w1, w2, w3, w4, w5⟩ := wd_last (x := v ++ [s[k]]) hown hn1
        obtain ⟨j, hj⟩ : ∃ j, ws.length = j := ⟨_, rfl⟩
        rw [hj] at w1 w2 w5 hn1
        have HM := hide (word_more v s k hlt)
        have HO := hide w5
        have HB := hide (hB.setCell (p := ⟨g, j, none⟩) w3 (strV (v ++ [s[k]])))
        have HJ := hide hn1
        unfold strV at w1
        clear hn hown hwv h32 hne w5 hj hn1 hsz
        have hnj : n = j + 1 := HJ.out
        have hw1 : IntKind.i64.wrap ((n : Int) - 1) = (j : Int) := by rw [IntKind.wrap_i64]; omega
        have hw2 : IntKind.i64.wrap ((k : Int) + 1) = (k : Int) + 1 := by rw [IntKind.wrap_i64]; omega
        have q3 : (0 : Int) ≤ (j : Int) := by omega
        have q4 : (j : Int) < (n : Int) := by omega
        have q5 : (k : Int) + 1 ≤ (s.size : Int) := by omega
        have q6 : ((k : Int) + 1).toNat = k + 1 := by omega
        clear hnj
        go_upto_region 7 with fail
        refine Held.begin (fun z => z.cell? ⟨g, j, none⟩ = some (.string ⟨v.toArray⟩)) 17 (by kernel_rfl) ?_
        have hbd := (Below.refl wr.heap.size wr).drew
        obtain ⟨X1, hXe⟩ : ∃ X1, wr.drew = X1 := ⟨_, rfl⟩
        have HD := hide (show ∀ p, X1.cell? p = wr.cell? p ∧ X1.frozen? p = wr.frozen? p from fun p => by rw [← hXe]; exact ⟨rfl, rfl⟩)
        have HOX := hide (show (X1.setCell ⟨g, j, none⟩ (strV (v ++ [s[k]]))).ownsRow w.heap.size 9 1 (.slice (some ⟨g, 0, none⟩) n c) n ((ws ++ [v ++ [s[k]]]).map strV) ∧ Below w.heap.size w (X1.setCell ⟨g, j, none⟩ (strV (v ++ [s[k]]))) from by
          rw [← hXe]
          exact ⟨HO.out, HB.out.drew⟩)
        rw [hXe] at hbd ⊢
        have hS : X1.cell? ⟨g, j, none⟩ = some (.string ⟨v.toArray⟩) := (HD.out _).1.trans w1
        have hfz : X1.frozen? ⟨g, j, none⟩ = false := (HD.out _).2.trans w2
        clear hXe hbd w1 w2 HO HB hB
        refine Held.take (i := 0) (.slice (some ⟨g, 0, none⟩) n c) rfl hS (by kernel_rfl) (by kernel_rfl) (by kernel_rfl) (by kernel_rfl) (fun _ _ _ h => h) rfl (fun y hy => by have x1 := hy; go_simp) ?_
        try simp only [Act.put]
        refine Held.take (i := 1) (.slice (some ⟨g, 0, none⟩) n c) rfl hS (by kernel_rfl) (by kernel_rfl) (by kernel_rfl) (by kernel_rfl) (fun _ _ _ h => h) rfl (fun y hy => by have x1 := hy; go_simp) ?_
        try simp only [Act.put]
        refine Held.take (i := 2) (.int .i64 (n : Int)) rfl hS (by kernel_rfl) (by kernel_rfl) (by kernel_rfl) (by kernel_rfl) (fun _ _ _ h => h) rfl (fun y hy => by have x1 := hy; go_simp) ?_
        try simp only [Act.put]
        refine Held.take (i := 3) (.int .i64 (j : Int)) rfl hS (by kernel_rfl) (by kernel_rfl) (by kernel_rfl) (by kernel_rfl) (fun _ _ _ h => h) rfl (fun y hy => by have x1 := hy; go_simp) ?_
        try simp only [Act.put]
        refine Held.take (i := 4) (.slice (some ⟨g, 0, none⟩) n c) rfl hS (by kernel_rfl) (by kernel_rfl) (by kernel_rfl) (by kernel_rfl) (fun _ _ _ h => h) rfl (fun y hy => by have x1 := hy; go_simp) ?_
        try simp only [Act.put]
        refine Held.take (i := 5) (.slice (some ⟨g, 0, none⟩) n c) rfl hS (by kernel_rfl) (by kernel_rfl) (by kernel_rfl) (by kernel_rfl) (fun _ _ _ h => h) rfl (fun y hy => by have x1 := hy; go_simp) ?_
        try simp only [Act.put]
        refine Held.take (i := 6) (.int .i64 (n : Int)) rfl hS (by kernel_rfl) (by kernel_rfl) (by kernel_rfl) (by kernel_rfl) (fun _ _ _ h => h) rfl (fun y hy => by have x1 := hy; go_simp) ?_
        try simp only [Act.put]
        refine Held.take (i := 7) (.int .i64 (j : Int)) rfl hS (by kernel_rfl) (by kernel_rfl) (by kernel_rfl) (by kernel_rfl) (fun _ _ _ h => h) rfl (fun y hy => by have x1 := hy; go_simp) ?_
        try simp only [Act.put]
        refine Held.take (i := 8) (.pointer (some ⟨g, j, none⟩)) rfl hS (by kernel_rfl) (by kernel_rfl) (by kernel_rfl) (by kernel_rfl) (fun _ _ _ h => h) rfl (fun y hy => by have x1 := hy; go_simp) ?_
        try simp only [Act.put]
        refine Held.take (i := 9) (.string ⟨v.toArray⟩) rfl hS (by kernel_rfl) (by kernel_rfl) (by kernel_rfl) (by kernel_rfl) (fun _ _ _ h => h) rfl (fun y hy => by have x1 := hy; go_simp) ?_
        try simp only [Act.put]
        refine Held.take (i := 10) (.string s) rfl hS (by kernel_rfl) (by kernel_rfl) (by kernel_rfl) (by kernel_rfl) (fun _ _ _ h => h) rfl (fun y hy => by have x1 := hy; go_simp) ?_
        try simp only [Act.put]
        refine Held.take (i := 11) (.int .i64 (k : Int)) rfl hS (by kernel_rfl) (by kernel_rfl) (by kernel_rfl) (by kernel_rfl) (fun _ _ _ h => h) rfl (fun y hy => by have x1 := hy; go_simp) ?_
        try simp only [Act.put]
        refine Held.take (i := 12) (.int .i64 (k : Int)) rfl hS (by kernel_rfl) (by kernel_rfl) (by kernel_rfl) (by kernel_rfl) (fun _ _ _ h => h) rfl (fun y hy => by have x1 := hy; go_simp) ?_
        try simp only [Act.put]
        refine Held.take (i := 13) (.int .i64 ((k : Int) + 1)) rfl hS (by kernel_rfl) (by kernel_rfl) (by kernel_rfl) (by kernel_rfl) (fun _ _ _ h => h) rfl (fun y hy => by have x1 := hy; go_simp) ?_
        try simp only [Act.put]
        have hxs : (s.extract k (k + 1)).size = 1 := by rw [ByteArray.size_extract]; omega
        have HVL := hide (show v.length ≤ 1000000 from by
          have h1 := words_short (s.data.toList.take k) v (by rw [hwv0.out]; simp)
          rw [List.length_take] at h1
          omega)
        refine Held.take (i := 14) (.string (s.extract k (k + 1))) rfl hS (by kernel_rfl) (by kernel_rfl) (by kernel_rfl) (by kernel_rfl) (fun _ _ _ h => h) rfl (fun y hy => by have x1 := hy; go_simp; rw [run_slice_string (P := Tryd.prog) y 9 s .i64 .i64 (k : Int) ((k : Int) + 1) Tryd.underlying9 (by omega) (by omega) (by omega)]; simp [q6]) ?_
        try simp only [Act.put]
        refine Held.take (i := 15) (.string (⟨v.toArray⟩ ++ s.extract k (k + 1))) rfl hS (by kernel_rfl) (by kernel_rfl) (by kernel_rfl) (by kernel_rfl) (fun _ _ _ h => h) rfl (fun y hy => by have x1 := hy; have hvl := HVL.out; go_simp; omega) ?_
        try simp only [Act.put]
        refine Held.take (i := 16) (.pointer (some ⟨g, j, none⟩)) rfl hS (by kernel_rfl) (by kernel_rfl) (by kernel_rfl) (by kernel_rfl) (fun _ _ _ h => h) rfl (fun y hy => by have x1 := hy; go_simp) ?_
        try simp only [Act.put]
        refine Held.one (i := 17) rfl (by kernel_rfl) rfl (fun K hK => ?_)
        unfold Oper.wp
        go_simp
        refine hK _ _ (fun h => absurd rfl h) ?_
        try simp only [Act.put]
        clear hK K hS hfz
        refine Held.done (by kernel_rfl) ?_
        go_wp2_with fail
        go_roundw
        case rel =>
          rw [HM.out]
          exact ⟨k + 1, n, some ⟨g, 0, none⟩, c, by omega, by go_num, rfl, by rw [HW.out, HN.out, hwv0.out]; simp, by omega, by rw [HW.out]; exact HOX.out.1, HOX.out.2⟩
        case measure => simp [intOf]; omega
    · obtain rfl : k = s.size := by omega
      have htk : s.data.toList.take s.size = s.data.toList := List.take_of_length_le (by simp)
      rw [htk] at hn hown
      subst hn
      have HR := hide (show RetWd w (wordsL s.data.toList) (.returned (.slice A (wordsL s.data.toList).length c)) wr from ⟨A, c, rfl, hown, hB⟩)
      clear hown hB hsz
      go_wp2_with fail
      go_ret
      exact HR.out
end Go.Proofs.YtehifbogadohgaaDoor
