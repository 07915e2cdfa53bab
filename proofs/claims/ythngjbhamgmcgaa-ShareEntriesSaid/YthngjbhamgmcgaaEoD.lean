/-
  The walk of share.dealt over entries.
-/
import Derived.Test.YthngjbhamgmcgaaEoR
namespace Go.Proofs.Ythngjbhamgmcgaa
open Go.RowKit Go.Shelf Go.Deep
attribute [local go_sem] Oper.semAt_some
set_option linter.unusedVariables false

set_option maxRecDepth 100000 in
set_option maxHeartbeats 4000000 in
theorem dealtE_any (A : Option Addr) (bo co n c ba bp bg : Nat) (s : List En) (P G : Nat) (w : World) (ho : bo < w.heap.size) (hco : w.cell? ⟨bo, 0, none⟩ = some (.slice A n c)) (hs : Reads w w.heap.size 4 A n (flatE s)) (hls : s.length = n) (hn : n ≤ 40000) (hP1 : 1 ≤ P) (hP : P ≤ 16) (hG : G ≤ 128) (h0 : ∀ x ∈ s, 0 ≤ x.g) (h1 : ∀ x ∈ s, x.g < G)
    (hba : ba < w.heap.size) (hbp : bp < w.heap.size) (hbg : bg < w.heap.size) (hca : w.cell? ⟨ba, 0, none⟩ = some (.slice A n c)) (hcp : w.cell? ⟨bp, 0, none⟩ = some (.int .i64 (P : Int))) (hcg : w.cell? ⟨bg, 0, none⟩ = some (.int .i64 (G : Int))) :
    Calls Try.prog 69 #[.slice (some ⟨bo, 0, none⟩) 1 co, .int .i64 (P : Int), .func (Fn.func 70) #[] #[.pointer (some ⟨ba, 0, none⟩), .pointer (some ⟨bp, 0, none⟩), .pointer (some ⟨bg, 0, none⟩)]] w fun e w' => ∃ b V, e = .returned (.slice (some ⟨b, 0, none⟩) P P) ∧ GridE w' w.heap.size b P V (dealE P G s) ∧ Below w.heap.size w w' := by
  have HLS := hide hls
  have hmk := fun W => run_make_row' (P := Try.prog) 48 50 (.slice none 0 0) 24 Try.underlying48 Try.infoEnts rfl .i64 .i64 P (by omega) (by omega) W
  obtain ⟨i0, hi, hz0, hz1, hz2⟩ := info_parts4 infoE
  have H0 := hide h0
  have H1 := hide h1
  clear h0 h1 hls
  have hG0 := GridE.made w P (Nat.le_refl w.heap.size)
  have hB0 : Below w.heap.size w (w.alloc (.cells (madeCells #[.slice none 0 0] P) 50)) := (Below.refl _ _).alloc (Nat.le_refl _) _
  go_enter Try.func69, Try.ntmps69
  go_wp2_with fail
  go_loopw [8, 19] (fun m i wr => ∃ (k : Nat) (V : Nat → Value), k ≤ 1 ∧ i = .int .i64 k ∧ m = .int .i64 ((k * n : Nat) : Int) ∧ GridE wr w.heap.size w.heap.size P V (dealE P G (s.take (k * n))) ∧ Below w.heap.size w wr) (fun _ i _ => 1 - (intOf i).toNat)
  case atStart => exact ⟨0, _, Nat.zero_le _, rfl, by simp, by rw [Nat.zero_mul]; exact hG0, hB0⟩
  case round =>
    clear hG0 hB0
    obtain ⟨k, V, hk, rfl, rfl, hG1, hB⟩ := hrel
    by_cases hlt : k < 1
    · have hk0 : k = 0 := by omega
      have hco2 : wr.cell? ⟨bo, k, none⟩ = some (.slice A n c) := by rw [hk0]; exact (hB.cell (p := ⟨bo, 0, none⟩) ho).trans hco
      have hG0 : GridE wr w.heap.size w.heap.size P V (dealE P G (s.take 0)) := by rw [hk0, Nat.zero_mul] at hG1; exact hG1
      have q2 : (0 : Int) ≤ (k : Int) := by omega
      have q3 : (k : Int) < 1 := by omega
      have HK0 := hide hk0
      clear hk0 hG1
      go_wp2
      go_loopw [8, 25] (fun m i wr => ∃ (j : Nat) (V : Nat → Value), j ≤ n ∧ i = .int .i64 j ∧ m = .int .i64 (j : Int) ∧ GridE wr w.heap.size w.heap.size P V (dealE P G (s.take j)) ∧ Below w.heap.size w wr) (fun _ i _ => n - (intOf i).toNat)
      case atStart => exact ⟨0, V, Nat.zero_le _, rfl, by rw [HK0.out, Nat.zero_mul], hG0, hB⟩
      case round =>
        clear hG0 hB V hco2
        obtain ⟨j, V, hj, rfl, rfl, hG1, hB⟩ := hrel
        by_cases hlt2 : j < n
        · obtain ⟨b, off, x, hA1, hb, hxk, hc⟩ := (hs.below hB).elem (enc := encE) encE_len HLS.out hlt2
          subst hA1
          have d0 : wr.cell? ⟨b, off + j * 4, none⟩ = some (.int .i64 x.g) := by simpa using hc 0 _ rfl
          have d1 : wr.cell? ⟨b, off + j * 4 + 1, none⟩ = some (.string x.nm) := by simpa [← Nat.add_assoc] using hc 1 _ rfl
          have d2 : wr.cell? ⟨b, off + j * 4 + 2, none⟩ = some (.string x.ky) := by simpa [← Nat.add_assoc] using hc 2 _ rfl
          have d3 : wr.cell? ⟨b, off + j * 4 + 3, none⟩ = some (.string x.vl) := by simpa [← Nat.add_assoc] using hc 3 _ rfl
          have HXK := hide hxk
          have g0 := H0.out x (List.mem_of_getElem? hxk)
          have g1 := H1.out x (List.mem_of_getElem? hxk)
          have HTK := hide (take_snoc' hxk)
          have hp : pN P G x < P := pN_lt hP1 g0 g1
          have hlen := dealE_le P G (s.take j) (pN P G x)
          rw [List.length_take] at hlen
          obtain ⟨p, hpe⟩ : ∃ p, pN P G x = p := ⟨_, rfl⟩
          rw [hpe] at hp hlen
          have HP2 := hide hpe
          have HG01 := hide (And.intro g0 g1)
          clear hc hxk g0 g1 hpe
          obtain ⟨M, hM⟩ : ∃ M, s.take j = M := ⟨_, rfl⟩
          rw [hM] at hG1 hlen
          have HM := hide hM
          clear hM
          have q2 : (0 : Int) ≤ (j : Int) := by omega
          have q3 : (j : Int) < (n : Int) := by omega
          have hB0 : Below wr.heap.size wr (wr.alloc (.cells #[.int .i64 x.g, .string x.nm, .string x.ky, .string x.vl] 57)) := below_val (w := wr) #[.int .i64 x.g, .string x.nm, .string x.ky, .string x.vl] 57
          have hB00 := hB.trans (hB0.mono hB.size)
          have hG2 : GridE (wr.alloc (.cells #[.int .i64 x.g, .string x.nm, .string x.ky, .string x.vl] 57)) w.heap.size w.heap.size P V (dealE P G M) := Grid.alloc hG1 _
          have hblk := Blk.new wr 57 #[.int .i64 x.g, .string x.nm, .string x.ky, .string x.vl]
          have HD := hide (Dealt1_any j P G ba bp bg p (some ⟨b, off, none⟩) n c s x _ ((hs.below hB00).more hB00.size) HLS.out HXK.out HP2.out HG01.out.1 HG01.out.2 hG hP hn ((hB00.cell (p := ⟨ba, 0, none⟩) hba).trans hca) ((hB00.cell (p := ⟨bp, 0, none⟩) hbp).trans hcp) ((hB00.cell (p := ⟨bg, 0, none⟩) hbg).trans hcg))
          clear hB0
          go_wp2_with fail
          refine HD.out.mono ?_
          rintro e W1 ⟨gi, rfl, hbi, hgi, hB1⟩
          have hG3 : GridE W1 w.heap.size w.heap.size P V (dealE P G M) := Grid.below hG2 hB1
          have hB2 := hB00.trans (hB1.mono hB00.size)
          have hblk2 := hblk.below hB1 (by simp)
          have ci := hbi.cell 0
          have e0 := hblk2.cell 0
          have e1 := hblk2.cell 1
          have e2 := hblk2.cell 2
          have e3 := hblk2.cell 3
          simp at ci e0 e1 e2 e3
          have hvb := hB.size
          have hvb1 := hblk2.lt
          have hvb2 := hbi.lt
          obtain ⟨vb, hvbe⟩ : ∃ vb, wr.heap.size = vb := ⟨_, rfl⟩
          rw [hvbe] at e0 e1 e2 e3 hvb hvb1 ⊢
          clear hB00 hG2 hblk HD hB1 hblk2 hbi hG1 hB d0 d1 d2 d3 hvbe hgi
          go_wp2_with fail
          have hc0 := hG3.cell hp
          have hrow := hG3.row p hp
          have hfz := hG3.frozen p
          have ag := hG3.away p hp
          have hsz := hB2.size
          have hgl := hG3.lt
          go_loopw [33] (fun i wr' => (i = .int .i64 0 ∧ wr' = W1) ∨ (i = .int .i64 1 ∧ ∃ V', GridE wr' w.heap.size w.heap.size P V' (dealE P G (M ++ [x])) ∧ Below w.heap.size w wr')) (fun i _ => 1 - (intOf i).toNat)
          case atStart => exact .inl ⟨rfl, rfl⟩
          case round =>
            rcases hrel with ⟨rfl, rfl⟩ | ⟨rfl, V', hG4, hB4⟩
            · have frz := fun o => (Grid.alloc hG3 o).frozen p
              have crz := fun o => (Grid.alloc hG3 o).cell hp
              have q0 : (0 : Int) ≤ (p : Int) := by omega
              have q1 : (p : Int) < (P : Int) := by omega
              obtain ⟨v, hv⟩ : ∃ v, V p = v := ⟨_, rfl⟩
              rw [hv] at hc0 hrow ag crz
              go_wp2_with fail
              go_region_law ((refine step_append_lies _ (by rfl) _ _ _ (by rfl) w.heap.size 57 i0 _ 4 56 Try.underlying50 hi hz0 hz1 hz2 rfl (by omega) v (dealE P G M p).length _ (by rfl) ((hrow.alloc _).drew) ⟨wr.heap.size, 0, none⟩ 1 1 (encE x) (by rfl) (by rfl) (World.news_of_block (cs := #[.int .i64 x.g, .string x.nm, .string x.ky, .string x.vl]) (t := 57) (fr := (0, 0)) (heap_alloc_new wr _)) (by simp [encE, Value.oneCell']) (by omega) (by unfold maxLen; omega) (by omega) (by simp; omega) (wr.heap.size + 1) (by simp) ?_; intro gg cap w1 hown1 hgrow hat hlt3; have hf1 := (hgrow.frozen_far ⟨w.heap.size, p, none⟩ (by simp; omega) (Ne.symm ag)).trans (frz _); have hc1 := (hgrow.cell_far ⟨w.heap.size, p, none⟩ (by simp; omega) (Ne.symm ag)).trans (crz _)))
              all_goals
                have hat' : (Value.slice (some ⟨gg, 0, none⟩) ((dealE P G M p).length + 1) cap).ownBlock = (V p).ownBlock ∨ (Value.slice (some ⟨gg, 0, none⟩) ((dealE P G M p).length + 1) cap).ownBlock = some (wr.alloc (.cells #[.int .i64 x.g, .string x.nm, .string x.ky, .string x.vl] 57)).heap.size := by
                  rcases hat with e | e
                  · left; rw [hv, e]; rfl
                  · right; rw [e, World.size_alloc]; rfl
                rw [← hv] at hgrow
                have hGq : GridE (wr.alloc (.cells #[.int .i64 x.g, .string x.nm, .string x.ky, .string x.vl] 57)).drew w.heap.size w.heap.size P V (dealE P G M) := (Grid.alloc hG3 _).drew
                have hBq : Below w.heap.size w (wr.alloc (.cells #[.int .i64 x.g, .string x.nm, .string x.ky, .string x.vl] 57)).drew := (hB2.alloc hB2.size _).drew
                have hG5 := GridE.deal hGq HP2.out hp hown1 hgrow hat'
                have hB5 := Grid.step_below hGq (v' := .slice (some ⟨gg, 0, none⟩) ((dealE P G M p).length + 1) cap) hp hgrow hBq (Nat.le_refl _)
                clear hown1 hgrow hf1 hc1 hat' hGq hBq
                go_wp2
                go_roundw
                case rel => exact .inr ⟨rfl, _, hG5, hB5⟩
                case measure => simp [intOf]
            · clear hc0 hrow hfz ag ci e0 e1 e2 e3
              go_wp2
              go_roundw
              case rel => exact ⟨j + 1, V', by omega, by go_num, by go_num, by rw [HTK.out, HM.out]; exact hG4, hB4⟩
              case measure => simp [intOf]; omega
        · obtain rfl : j = n := by omega
          go_wp2
          go_roundw
          case rel => exact ⟨k + 1, V, by omega, by go_num, by rw [HK0.out, Nat.zero_add, Nat.one_mul], by rw [HK0.out, Nat.zero_add, Nat.one_mul]; exact hG1, hB⟩
          case measure => simp [intOf]; omega
    · obtain rfl : k = 1 := by omega
      rw [Nat.one_mul, take_all HLS.out] at hG1
      go_wp2
      go_ret
      exact ⟨_, V, rfl, hG1, hB⟩
end Go.Proofs.Ythngjbhamgmcgaa
