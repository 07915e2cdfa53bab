/-
  The walk of share.dealt[string] where the lists are dealt round.
-/
import Derived.Test.YthngjbhamgmcgaaDealR
namespace Go.Proofs.Ythngjbhamgmcgaa
open Go.RowKit Go.Shelf Go.Deep
attribute [local go_sem] Oper.semAt_some

theorem Deal1_any (m P bx p : Nat) (hp : m % P = p) (hP1 : 1 ≤ P) (hP : P ≤ 16) (hm : m ≤ 400) (w : World) (hc : w.cell? ⟨bx, 0, none⟩ = some (.int .i64 (P : Int))) :
    Calls Try.prog 50 #[.int .i64 (m : Int), .pointer (some ⟨bx, 0, none⟩)] w fun e w' => e = .returned (.slice (some ⟨w.heap.size, 0, none⟩) 1 1) ∧ w' = w.alloc (.cells #[.int .i64 (p : Int)] 3) := by
  have h1 := Nat.mod_lt m (show 0 < P by omega)
  rw [hp] at h1
  have hq : (m : Int) % (P : Int) = (p : Int) := by omega
  go_enter Try.func50, Try.ntmps50
  go_wp2
  go_ret
  exact ⟨rfl, rfl⟩

set_option maxRecDepth 100000 in
set_option maxHeartbeats 4000000 in
theorem dealtRound (A : Option Addr) (n c bx : Nat) (R : List RowT) (P : Nat) (w : World) (hx : Tab w w.heap.size A n R) (hn : n ≤ 16) (hss : Short R) (hP1 : 1 ≤ P) (hP : P ≤ 16) (ht : allN R ≤ 400)
    (hbx : bx < w.heap.size) (hcx : w.cell? ⟨bx, 0, none⟩ = some (.int .i64 (P : Int))) :
    Calls Try.prog 74 #[.slice A n c, .int .i64 (P : Int), .func (Fn.func 50) #[] #[.pointer (some ⟨bx, 0, none⟩)]] w fun e w' => ∃ b V, e = .returned (.slice (some ⟨b, 0, none⟩) P P) ∧
      GridS w' w.heap.size b P V (dealS P (flat R)) ∧ Below w.heap.size w w' := by
  have hlen := hx.len
  have HF := hide (fun k => flat_len R w _ n A hx k)
  have HT := hide (fun k => Nat.le_trans (allN_take R k) ht)
  have HS := hide hss
  have HL := hide hlen
  clear hss ht hlen
  have hmk := fun W => run_make_row' (P := Try.prog) 41 43 (.slice none 0 0) 24 Try.underlying41 Try.infoStrs rfl .i64 .i64 P (by omega) (by omega) W
  obtain ⟨i0, hi, hz0, hz1, hz2⟩ := info_parts Try.infoStr
  have hG0 := GridS.made w P (Nat.le_refl w.heap.size)
  have hB0 : Below w.heap.size w (w.alloc (.cells (madeCells #[.slice none 0 0] P) 43)) := (Below.refl _ _).alloc (Nat.le_refl _) _
  go_enter Try.func74, Try.ntmps74
  go_wp2_with fail
  go_loopw [8, 19] (fun m i wr => ∃ (k : Nat) (V : Nat → Value), k ≤ n ∧ i = .int .i64 k ∧ m = .int .i64 ((flat (R.take k)).length : Nat) ∧ GridS wr w.heap.size w.heap.size P V (dealS P (flat (R.take k))) ∧ Below w.heap.size w wr) (fun _ i _ => n - (intOf i).toNat)
  case atStart => exact ⟨0, _, Nat.zero_le _, rfl, rfl, hG0, hB0⟩
  case round =>
    obtain ⟨k, V, hk, rfl, rfl, hG, hB⟩ := hrel
    by_cases hlt : k < n
    · obtain ⟨bl, ol, r, rfl, hbl, hrk, hcr, hr⟩ := (hx.below hB).row hlt
      obtain ⟨h1, h2⟩ := HS.out r (List.mem_of_getElem? hrk)
      clear h2
      have HSn := hide (show flat (R.take (k + 1)) = flat (R.take k) ++ r.xs by rw [take_snoc' hrk, flat_snoc])
      have HF' := hide (show (flat (R.take k)).length + r.n ≤ 400 by
        have h3 := HT.out (k + 1)
        rw [← HF.out, HSn.out, List.length_append, hr.len1] at h3; exact h3)
      obtain ⟨F, hF⟩ : ∃ F, flat (R.take k) = F := ⟨_, rfl⟩
      rw [hF] at hG ⊢
      rw [hF] at HF' HSn
      clear hF
      have HX := hide hr.len1
      have hr0 : Reads w w.heap.size 1 r.a r.n (r.xs.map Value.string) := hx.2 r (List.mem_of_getElem? hrk)
      clear hrk
      go_wp2
      go_loopw [8, 25] (fun m i wr => ∃ (j : Nat) (V : Nat → Value), j ≤ r.n ∧ i = .int .i64 j ∧ m = .int .i64 ((F ++ r.xs.take j).length : Nat) ∧ GridS wr w.heap.size w.heap.size P V (dealS P (F ++ r.xs.take j)) ∧ Below w.heap.size w wr) (fun _ i _ => r.n - (intOf i).toNat)
      case atStart => exact ⟨0, V, Nat.zero_le _, rfl, by simp, by simpa using hG, hB⟩
      case round =>
        clear hG hB V hcr hr
        obtain ⟨j, V, hj, rfl, rfl, hG, hB⟩ := hrel
        have hr : Reads wr w.heap.size 1 r.a r.n (r.xs.map Value.string) := hr0.below hB
        by_cases hlt2 : j < r.n
        · obtain ⟨br, oR, x, hra, hbr, hxj, hcx2⟩ := hr.at1 hlt2
          rw [hra]
          have HTK := hide (take_snoc' hxj)
          have hlm : (F ++ r.xs.take j).length ≤ 400 := by
            have := List.length_take_le j r.xs
            have := HF'.out
            rw [List.length_append]; omega
          obtain ⟨M, hM⟩ : ∃ M, F ++ r.xs.take j = M := ⟨_, rfl⟩
          rw [hM] at hG hlm ⊢
          have HM := hide hM
          clear hM hxj
          obtain ⟨m, hm⟩ : ∃ m, M.length = m := ⟨_, rfl⟩
          rw [hm] at hlm ⊢
          have HMl := hide hm
          clear hm
          have hp : m % P < P := Nat.mod_lt _ hP1
          obtain ⟨p, hpe⟩ : ∃ p, m % P = p := ⟨_, rfl⟩
          rw [hpe] at hp
          have HP := hide hpe
          clear hpe
          go_wp2_with fail
          refine (Deal1_any m P bx p HP.out hP1 hP hlm _ ((hB.cell (p := ⟨bx, 0, none⟩) hbx).trans hcx)).mono ?_
          rintro e w' ⟨rfl, rfl⟩
          go_wp2_with fail
          have hci : (wr.alloc (.cells #[.int .i64 (p : Int)] 3)).cell? ⟨wr.heap.size, 0, none⟩ = some (.int .i64 (p : Int)) := by simp
          have hG1 : GridS (wr.alloc (.cells #[.int .i64 (p : Int)] 3)) w.heap.size w.heap.size P V (dealS P M) := Grid.alloc hG _
          have hB1 := hB.alloc hB.size (.cells #[.int .i64 (p : Int)] 3)
          obtain ⟨ib, hib⟩ : ∃ ib, wr.heap.size = ib := ⟨_, rfl⟩
          rw [hib] at hci ⊢
          obtain ⟨W1, hW1⟩ : ∃ W1, wr.alloc (.cells #[.int .i64 (p : Int)] 3) = W1 := ⟨_, rfl⟩
          rw [hW1] at hci hG1 hB1 ⊢
          have hcx3 : W1.cell? ⟨br, oR + j, none⟩ = some (.string x) := by rw [← hW1, World.cell?_alloc_lt _ _ _ (by have := hB.size; show br < _; omega)]; exact hcx2
          clear hW1 hib hG hB hr hcx2
          have hc0 := hG1.cell hp
          have hrow := hG1.row p hp
          have hfz := hG1.frozen p
          have hlen := dealS_le P M p
          rw [HMl.out] at hlen
          have ag := hG1.away p hp
          have hsz := hB1.size
          have hgl := hG1.lt
          go_loopw [33] (fun i wr' => (i = .int .i64 0 ∧ wr' = W1) ∨ (i = .int .i64 1 ∧ ∃ V', GridS wr' w.heap.size w.heap.size P V' (dealS P (M ++ [x])) ∧ Below w.heap.size w wr')) (fun i _ => 1 - (intOf i).toNat)
          case atStart => exact .inl ⟨rfl, rfl⟩
          case round =>
            rcases hrel with ⟨rfl, rfl⟩ | ⟨rfl, V', hG2, hB2⟩
            · have frz := fun o => (Grid.alloc hG1 o).frozen p
              have crz := fun o => (Grid.alloc hG1 o).cell hp
              go_wp2_with (at_builtin; refine wpList_append_lies _ rfl _ _ _ rfl w.heap.size 9 i0 _ 1 16 Try.underlying43 hi hz0 hz1 hz2 rfl (by omega) (V p) (dealS P M p).length _ (by rfl) (hrow.alloc _) ⟨wr.heap.size, 0, none⟩ 1 1 [.string x] (by rfl) (by rfl) (World.news_of_block (cs := #[.string x]) (t := 9) (fr := (0, 0)) (heap_alloc_new wr _)) (by simp [Value.oneCell']) (by omega) (by unfold maxLen; omega) (by omega) (by simp; omega) (wr.heap.size + 1) (by simp) ?_; intro gg cap w1 hown1 hgrow hat hlt3; have hf1 := (hgrow.frozen_far ⟨w.heap.size, p, none⟩ (by simp; omega) (Ne.symm ag)).trans (frz _); have hc1 := (hgrow.cell_far ⟨w.heap.size, p, none⟩ (by simp; omega) (Ne.symm ag)).trans (crz _))
              have hat' : (Value.slice (some ⟨gg, 0, none⟩) ((dealS P M p).length + 1) cap).ownBlock = (V p).ownBlock ∨ (Value.slice (some ⟨gg, 0, none⟩) ((dealS P M p).length + 1) cap).ownBlock = some (wr.alloc (.cells #[.string x] 9)).heap.size := by
                rcases hat with e | e
                · left; rw [e]; rfl
                · right; rw [e, World.size_alloc]; rfl
              have hGq : GridS (wr.alloc (.cells #[.string x] 9)) w.heap.size w.heap.size P V (dealS P M) := Grid.alloc hG1 _
              have hG2 := GridS.deal hGq (by rw [HMl.out]; exact HP.out) hp hown1 hgrow hat'
              have hB2 := Grid.step_below hGq (v' := .slice (some ⟨gg, 0, none⟩) ((dealS P M p).length + 1) cap) hp hgrow (hB1.alloc hB1.size _) (Nat.le_refl _)
              clear hown1 hgrow hf1 hc1 hat'
              go_roundw
              case rel => exact .inr ⟨rfl, _, hG2, hB2⟩
              case measure => simp [intOf]
            · go_wp2
              go_roundw
              case rel => exact ⟨j + 1, V', by omega, by go_num, by rw [HTK.out, ← List.append_assoc, HM.out, List.length_append, HMl.out]; go_num, by rw [HTK.out, ← List.append_assoc, HM.out]; exact hG2, hB2⟩
              case measure => simp [intOf]; omega
        · obtain rfl : j = r.n := by omega
          rw [List.take_of_length_le (Nat.le_of_eq HX.out), ← HSn.out] at hG ⊢
          go_wp2
          go_roundw
          case rel => exact ⟨k + 1, V, by omega, by go_num, rfl, hG, hB⟩
          case measure => simp [intOf]; omega
    · obtain rfl : k = n := by omega
      rw [List.take_of_length_le (Nat.le_of_eq HL.out)] at hG
      go_wp2
      go_ret
      exact ⟨_, V, rfl, hG, hB⟩
end Go.Proofs.Ythngjbhamgmcgaa
