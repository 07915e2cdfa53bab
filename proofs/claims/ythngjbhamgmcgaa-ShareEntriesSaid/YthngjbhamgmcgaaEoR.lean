/-
  The walk of the reference's AllDealt.
-/
import Derived.Test.YthngjbhamgmcgaaEoA
import Derived.Deep.RegionLaw
import Derived.Deep.AppendLies
namespace Go.Proofs.Ythngjbhamgmcgaa
open Go.RowKit Go.Shelf Go.Deep
attribute [local go_sem] Oper.semAt_some
set_option linter.unusedVariables false

theorem Try.infoEnts : (Try.prog.info? 50).map (fun i => (i.zero, i.size, i.bytes)) = some (some (.slice none 0 0), 1, 24) := by kernel_rfl
set_option maxRecDepth 100000 in
set_option maxHeartbeats 4000000 in
theorem AllDealt_any (A : Option Addr) (n c : Nat) (l : List En) (P G : Nat) (w : World) (hl : Reads w w.heap.size 4 A n (flatE l)) (hn : n ≤ 40000) (hP1 : 1 ≤ P) (hP : P ≤ 16) (hG : G ≤ 128) (h0 : ∀ x ∈ l, 0 ≤ x.g) (h1 : ∀ x ∈ l, x.g < G) :
    Calls Try.prog 71 #[.slice A n c, .int .i64 (P : Int), .int .i64 (G : Int)] w fun e w' => ∃ b V s, e = .returned (.slice (some ⟨b, 0, none⟩) P P) ∧ s.Perm l ∧ SrtE s ∧ GridE w' w.heap.size b P V (dealE P G s) ∧ Below w.heap.size w w' := by
  have HLL := hide (show l.length = n from hl.len (enc := encE) encE_len (by omega))
  have hmk := fun W => run_make_row' (P := Try.prog) 48 50 (.slice none 0 0) 24 Try.underlying48 Try.infoEnts rfl .i64 .i64 P (by omega) (by omega) W
  obtain ⟨i0, hi, hz0, hz1, hz2⟩ := info_parts4 infoE
  have H0 := hide h0
  have H1 := hide h1
  clear h0 h1
  have hG0 := GridE.made w P (Nat.le_refl w.heap.size)
  have hB0 : Below w.heap.size w (w.alloc (.cells (madeCells #[.slice none 0 0] P) 50)) := (Below.refl _ _).alloc (Nat.le_refl _) _
  have HS := hide (Sorted_own A n c l _ (hl.up hB0) hn)
  go_enter Try.func71, Try.ntmps71
  go_wp2_with fail
  refine HS.out.mono ?_
  rintro e W1 ⟨s, A1, c1, rfl, hp, hst, hown, hB1⟩
  have hGs : GridE W1 w.heap.size w.heap.size P (fun _ => .slice none 0 0) (dealE P G []) := Grid.below hG0 hB1
  have hB2 := bstep hB0 hB1
  have HLS := hide (show s.length = n by rw [hp.length_eq, HLL.out])
  have H0s := hide (show ∀ x ∈ s, 0 ≤ x.g from fun x hx => H0.out x (hp.mem_iff.1 hx))
  have H1s := hide (show ∀ x ∈ s, x.g < G from fun x hx => H1.out x (hp.mem_iff.1 hx))
  have HP := hide hp
  have HST := hide hst
  have HLT := hide (fun g hg => (hown.lt g hg))
  clear hG0 hB0 HS hB1 hp hst
  rw [World.size_alloc] at HLT hown
  obtain ⟨B0, hB0⟩ : ∃ B0, W1.heap.size = B0 := ⟨_, rfl⟩
  rw [hB0] at HLT
  go_wp2_with fail
  go_loopw [9] (fun i wr => ∃ (k : Nat) (V : Nat → Value), k ≤ n ∧ i = .int .i64 k ∧ GridE wr w.heap.size w.heap.size P V (dealE P G (s.take k)) ∧ (∀ p, p < P → ∀ g, (V p).ownBlock = some g → B0 ≤ g) ∧ B0 ≤ wr.heap.size ∧ wr.ownsRow (w.heap.size + 1) 57 4 (.slice A1 n c1) n (flatE s) ∧ Below w.heap.size w wr) (fun i _ => n - (intOf i).toNat)
  case atStart => exact ⟨0, _, Nat.zero_le _, rfl, hGs, (fun p _ g h => by simp [Value.ownBlock] at h), Nat.le_of_eq hB0.symm, hown, hB2⟩
  case round =>
    clear hGs hown hB2 hB0
    obtain ⟨k, V, hk, rfl, hG1, hV, hBs, hown, hB⟩ := hrel
    have HV := hide hV
    clear hV
    by_cases hlt : k < n
    · obtain ⟨b, off, x, hA1, hb, hxk, hc⟩ := (Reads.of_own hown).elem (enc := encE) encE_len HLS.out hlt
      subst hA1
      have hbb : b ≠ w.heap.size := by
        have := (HLT.out b rfl).1
        omega
      have hb0 : b < B0 := (HLT.out b rfl).2
      have d0 : wr.cell? ⟨b, off + k * 4, none⟩ = some (.int .i64 x.g) := by simpa using hc 0 _ rfl
      have d1 : wr.cell? ⟨b, off + k * 4 + 1, none⟩ = some (.string x.nm) := by simpa [← Nat.add_assoc] using hc 1 _ rfl
      have d2 : wr.cell? ⟨b, off + k * 4 + 2, none⟩ = some (.string x.ky) := by simpa [← Nat.add_assoc] using hc 2 _ rfl
      have d3 : wr.cell? ⟨b, off + k * 4 + 3, none⟩ = some (.string x.vl) := by simpa [← Nat.add_assoc] using hc 3 _ rfl
      have HXK := hide hxk
      have g0 := H0s.out x (List.mem_of_getElem? hxk)
      have g1 := H1s.out x (List.mem_of_getElem? hxk)
      have HTK := hide (take_snoc' hxk)
      obtain ⟨wp1, wp2⟩ := part_int (P := P) g0 g1 hG hP
      have hp : pN P G x < P := pN_lt hP1 g0 g1
      have hlen := dealE_le P G (s.take k) (pN P G x)
      rw [List.length_take] at hlen
      obtain ⟨p, hpe⟩ : ∃ p, pN P G x = p := ⟨_, rfl⟩
      rw [hpe] at wp2 hp hlen
      have HP2 := hide hpe
      obtain ⟨gp, hgp⟩ : ∃ gp : Int, IntKind.i64.wrap (x.g * (P : Int)) = gp := ⟨_, rfl⟩
      rw [← wp1, hgp] at wp2
      have hGz : ((G : Int) = 0) = False := eq_false (by omega)
      have hGz' : G ≠ 0 := by omega
      clear hc hxk wp1 g0 g1 hpe
      obtain ⟨M, hM⟩ : ∃ M, s.take k = M := ⟨_, rfl⟩
      rw [hM] at hG1 hlen
      have HM := hide hM
      clear hM
      have hc0 := hG1.cell hp
      have hrow := hG1.row p hp
      have q0 : (0 : Int) ≤ (p : Int) := by omega
      have q1 : (p : Int) < (P : Int) := by omega
      have q2 : (0 : Int) ≤ (k : Int) := by omega
      have q3 : (k : Int) < (n : Int) := by omega
      have hfz := hG1.frozen p
      have frz := fun o => (Grid.alloc hG1 o).frozen p
      have ag := hG1.away p hp
      have crz := fun o => (Grid.alloc hG1 o).cell hp
      have hVp := HV.out p hp
      obtain ⟨v, hv⟩ : ∃ v, V p = v := ⟨_, rfl⟩
      rw [hv] at hc0 hrow ag crz hVp
      have ak : v.ownBlock ≠ some b := fun e => by have := hVp _ e; omega
      have hsz := hB.size
      have hgl := hG1.lt
      have HOWN := hide hown
      clear hown
      go_wp2_with fail
      go_region_law ((refine step_append_lies _ (by rfl) _ _ _ (by rfl) w.heap.size 57 i0 _ 4 56 Try.underlying50 hi hz0 hz1 hz2 rfl (by omega) v (dealE P G M p).length _ (by rfl) ((hrow.alloc _).drew) ⟨wr.heap.size, 0, none⟩ 1 1 (encE x) (by rfl) (by rfl) (World.news_of_block (cs := #[.int .i64 x.g, .string x.nm, .string x.ky, .string x.vl]) (t := 57) (fr := (0, 0)) (heap_alloc_new wr _)) (by simp [encE, Value.oneCell']) (by omega) (by unfold maxLen; omega) (by omega) (by simp; omega) (wr.heap.size + 1) (by simp) ?_; intro gg cap w1 hown1 hgrow hat hlt3; have hf1 := (hgrow.frozen_far ⟨w.heap.size, p, none⟩ (by simp; omega) (Ne.symm ag)).trans (frz _); have hc1 := (hgrow.cell_far ⟨w.heap.size, p, none⟩ (by simp; omega) (Ne.symm ag)).trans (crz _)))
      all_goals
        have hat' : (Value.slice (some ⟨gg, 0, none⟩) ((dealE P G M p).length + 1) cap).ownBlock = (V p).ownBlock ∨ (Value.slice (some ⟨gg, 0, none⟩) ((dealE P G M p).length + 1) cap).ownBlock = some (wr.alloc (.cells #[.int .i64 x.g, .string x.nm, .string x.ky, .string x.vl] 57)).heap.size := by
          rcases hat with e | e
          · left; rw [hv, e]; rfl
          · right; rw [e, World.size_alloc]; rfl
        rw [← hv] at hgrow
        have hGq : GridE (wr.alloc (.cells #[.int .i64 x.g, .string x.nm, .string x.ky, .string x.vl] 57)).drew w.heap.size w.heap.size P V (dealE P G M) := (Grid.alloc hG1 _).drew
        have hBq : Below w.heap.size w (wr.alloc (.cells #[.int .i64 x.g, .string x.nm, .string x.ky, .string x.vl] 57)).drew := (hB.alloc hB.size _).drew
        have hG2 := GridE.deal hGq HP2.out hp hown1 hgrow hat'
        have hB2 := Grid.step_below hGq (v' := .slice (some ⟨gg, 0, none⟩) ((dealE P G M p).length + 1) cap) hp hgrow hBq (Nat.le_refl _)
        have hV2 : ∀ q, q < P → ∀ g, ((fun j => if j = p then Value.slice (some ⟨gg, 0, none⟩) ((dealE P G M p).length + 1) cap else V j) q).ownBlock = some g → B0 ≤ g := by
          intro q hq g hg
          by_cases e : q = p
          · simp only [e, if_true] at hg
            rcases hat' with e2 | e2
            · exact HV.out p hp g (e2 ▸ hg)
            · rw [e2, World.size_alloc] at hg
              injection hg with hg
              omega
          · simp only [if_neg e] at hg
            exact HV.out q hq g hg
        have hown2 : (w1.setCell ⟨w.heap.size, p, none⟩ (.slice (some ⟨gg, 0, none⟩) ((dealE P G M p).length + 1) cap)).ownsRow (w.heap.size + 1) 57 4 (.slice (some ⟨b, off, none⟩) n c1) n (flatE s) := own_block HOWN.out fun g hg => by
          have hgl2 := HLT.out g hg
          rw [blk_setCell_other _ _ _ _ (show g ≠ w.heap.size by omega)]
          rw [hgrow.block g (by simp; omega) (fun e => by have := HV.out p hp g e.symm; omega)]
          exact blk_alloc_lt _ _ _ (by omega)
        have hBs2 : B0 ≤ (w1.setCell ⟨w.heap.size, p, none⟩ (.slice (some ⟨gg, 0, none⟩) ((dealE P G M p).length + 1) cap)).heap.size := by
          have := hgrow.size
          rw [World.size_setCell]
          simp at this
          omega
        clear hown1 hgrow hf1 hc1 hat' hGq hBq
        go_wp2
        go_roundw
        case rel => exact ⟨k + 1, _, by omega, by go_num, by rw [HTK.out, HM.out]; exact hG2, hV2, hBs2, hown2, hB2⟩
        case measure => simp [intOf]; omega
    · obtain rfl : k = n := by omega
      rw [take_all HLS.out] at hG1
      go_wp2
      go_ret
      exact ⟨_, V, s, rfl, HP.out, HST.out, hG1, hB⟩
end Go.Proofs.Ythngjbhamgmcgaa
