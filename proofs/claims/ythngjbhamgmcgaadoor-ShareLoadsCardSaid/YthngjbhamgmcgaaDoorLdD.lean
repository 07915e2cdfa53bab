/-
  The walk of share.Least.
-/
import Derived.Test.YthngjbhamgmcgaaDoorLdC
namespace Go.Proofs.YthngjbhamgmcgaaDoor
open Go.RowKit Go.Shelf Go.Deep
attribute [local go_sem] Oper.semAt_some
set_option linter.unusedVariables false
set_option linter.unusedSimpArgs false

set_option maxRecDepth 100000 in
set_option maxHeartbeats 4000000 in
theorem Least_any (A : Option Addr) (n c : Nat) (xs : List ByteArray) (G : Int) (w : World) (hx : Reads w w.heap.size 1 A n (xs.map Value.string)) (hk : Kok xs) :
    Calls Tryd.prog 10 #[.slice A n c, .int .i64 G] w (RetV w (.tuple #[.int .i64 ((lstP G xs : Nat) : Int), .int .i64 (lstE G)])) := by
  have HK := hide (keyed_any A n c _ xs w hx hk)
  have HN := hide (right_any 1 G w)
  have HL := hide hx.len1
  have h60 : n ≤ 60 := by rw [← HL.out]; exact hk.1
  by_cases hG : 1 ≤ G ∧ G ≤ 128
  · have hr1 : rightB 1 G = true := by simp [rightB, hG]
    have HE := hide (show lstE G = 0 by unfold lstE; rw [if_pos hG])
    have HP := hide (show lstP G xs = (bstP G xs (min G.toNat 16)).1 by unfold lstP; rw [if_pos hG])
    have HR := hide (fun (p : Nat) (h1 : 1 ≤ p) (h2 : p ≤ 16) => show rightB (p : Int) G = true by simp [rightB, hG]; omega)
    rw [hr1] at HN
    obtain ⟨g, rfl⟩ : ∃ g : Nat, G = (g : Int) := ⟨G.toNat, by omega⟩
    obtain ⟨M, hM⟩ : ∃ M, min (g : Int).toNat 16 = M := ⟨_, rfl⟩
    rw [hM] at HP
    have hM1 : M ≤ 16 := by omega
    have hM2 : M ≤ g := by omega
    have hM3 : ∀ k, M ≤ k → k < 16 → g ≤ k := by intro k h1 h2; omega
    have hg := hG.2
    clear hG hr1 hM
    go_enter Tryd.func10, Tryd.ntmps10
    go_wp2_with fail
    refine HK.out.mono ?_
    rintro e w' ⟨rfl, rfl⟩
    go_wp2_with fail
    refine HN.out.mono ?_
    rintro e w' ⟨rfl, rfl⟩
    clear HK HN
    go_wp2_with fail
    go_loopw [6, 7, 8, 9, 10] (fun bs ls i _ _ wr => ∃ k : Nat, k ≤ M ∧ i = .int .i64 ((k : Int) + 1) ∧ bs = .int .i64 (((bstP (g : Int) xs k).1 : Nat) : Int) ∧ ls = .int .i64 (((bstP (g : Int) xs k).2 : Nat) : Int) ∧ Below w.heap.size w wr) (fun _ _ i _ _ _ => M + 1 - (intOf i).toNat)
    case atStart => exact ⟨0, Nat.zero_le _, rfl, rfl, by show _ = Value.int .i64 ((xs.length + 1 : Nat) : Int); rw [HL.out]; rfl, Below.refl _ _⟩
    case round =>
      obtain ⟨k, hkk, rfl, rfl, rfl, hB⟩ := hrel
      have HSS := hide (bstP_succ (g : Int) xs k)
      obtain ⟨hb1, hb2⟩ := bstP_le (g : Int) xs k
      obtain ⟨b1, hbb1⟩ : ∃ b1, (bstP (g : Int) xs k).1 = b1 := ⟨_, rfl⟩
      obtain ⟨b2, hbb2⟩ : ∃ b2, (bstP (g : Int) xs k).2 = b2 := ⟨_, rfl⟩
      rw [hbb1] at hb1 ⊢
      rw [hbb2] at hb2 ⊢
      have HB1 := hide hbb1
      have HB2 := hide hbb2
      clear hbb1 hbb2
      by_cases hlt : k < M
      · have HLD := hide (loads_any A n c xs (((k + 1 : Nat) : Int)) (g : Int) wr (hx.up hB) hk (HR.out (k + 1) (by omega) (by omega)))
        rw [show (((k + 1 : Nat)) : Int) = (k : Int) + 1 by omega] at HLD
        have HMX := hide (mxP_16 (HR.out (k + 1) (by omega) (by omega)) (by omega) xs)
        rw [show (((k + 1 : Nat)) : Int) = (k : Int) + 1 by omega] at HMX
        have hmm := mxP_le (g : Int) xs (k + 1)
        have HK2 := hide hk
        have HM3 := hide hM3
        clear hM3 hk
        have p1 : (k : Int) + 1 ≤ (g : Int) := by omega
        have p2 : (k : Int) + 1 ≤ 16 := by omega
        rcases Nat.lt_or_ge 16 g with hc | hc
        · have p3 : (16 : Int) < (g : Int) := by omega
          go_wp2_with fail
          refine HLD.out.mono ?_
          rintro e W1 ⟨cs, rfl, hsz, hget, hB1⟩
          have hB01 := bstep hB hB1
          clear HLD hB hB1
          have hi : (Tryd.prog.info? 49).map (·.size) = some cs.size := by rw [hsz]; kernel_rfl
          have hone := one16 hsz hget
          have hrs := Blk.new W1 49 #[.int .i64 0, .int .i64 0, .int .i64 0, .int .i64 0, .int .i64 0, .int .i64 0, .int .i64 0, .int .i64 0, .int .i64 0, .int .i64 0, .int .i64 0, .int .i64 0, .int .i64 0, .int .i64 0, .int .i64 0, .int .i64 0]
          have hB2 := hB01.alloc hB01.size (.cells #[.int .i64 0, .int .i64 0, .int .i64 0, .int .i64 0, .int .i64 0, .int .i64 0, .int .i64 0, .int .i64 0, .int .i64 0, .int .i64 0, .int .i64 0, .int .i64 0, .int .i64 0, .int .i64 0, .int .i64 0, .int .i64 0] 49)
          have hst := run_storeVar_row (P := Tryd.prog) _ W1.heap.size 49 49 _ cs hrs hi (by rw [hsz]; rfl) hone
          have hrow := setRow_heap _ W1.heap.size _ cs _ _ hrs
          have hBe := below_setRow hB2 hB01.size cs
          have hrd := rd_nums (p := 16) hrow hget (Nat.le_refl _)
          have hsl := fun W => slice16a W1.heap.size W
          go_wp2_with (refine wpList_store_row rfl 49 _ _ rfl W1.heap.size cs rfl rfl 49 _ hrs hi (by rw [hsz]; rfl) hone ?_)
          refine (Max_any _ 16 16 _ (ldN (ofN ((k : Int) + 1) (g : Int)) xs) _ hrd (by omega) (by omega)).mono ?_
          rintro e w' ⟨rfl, rfl⟩
          rw [HMX.out]
          have HBE := hide hBe
          clear hBe hrd hrow hst hrs hB2 hB01 hsl hget hone hi
          obtain ⟨m, hm⟩ : ∃ m, mxP (g : Int) xs (k + 1) = m := ⟨_, rfl⟩
          rw [hm] at hmm ⊢
          rw [hm, HB2.out] at HSS
          obtain ⟨W2, hW2⟩ : ∃ W2, (W1.alloc (.cells #[.int .i64 0, .int .i64 0, .int .i64 0, .int .i64 0, .int .i64 0, .int .i64 0, .int .i64 0, .int .i64 0, .int .i64 0, .int .i64 0, .int .i64 0, .int .i64 0, .int .i64 0, .int .i64 0, .int .i64 0, .int .i64 0] 49)).setRow W1.heap.size cs = W2 := ⟨_, rfl⟩
          rw [hW2] at HBE ⊢
          clear hm hW2 hsz
          by_cases hb : m < b2
          · have hb' : (m : Int) < (b2 : Int) := by omega
            have HT := hide (show bstP (g : Int) xs (k + 1) = (k + 1, m) by rw [HSS.out, if_pos hb])
            go_wp2_with fail
            go_roundw
            case rel => exact ⟨k + 1, by omega, by go_num, by rw [HT.out]; go_num, by rw [HT.out], HBE.out⟩
            case measure => simp [intOf]; omega
          · have hb' : ¬ ((m : Int) < (b2 : Int)) := by omega
            have HT := hide (show bstP (g : Int) xs (k + 1) = bstP (g : Int) xs k by rw [HSS.out, if_neg hb])
            go_wp2_with fail
            go_roundw
            case rel => exact ⟨k + 1, by omega, by go_num, by rw [HT.out, HB1.out], by rw [HT.out, HB2.out], HBE.out⟩
            case measure => simp [intOf]; omega
        · have p3 : ¬ ((16 : Int) < (g : Int)) := by omega
          go_wp2_with fail
          refine HLD.out.mono ?_
          rintro e W1 ⟨cs, rfl, hsz, hget, hB1⟩
          have hB01 := bstep hB hB1
          clear HLD hB hB1
          have hi : (Tryd.prog.info? 49).map (·.size) = some cs.size := by rw [hsz]; kernel_rfl
          have hone := one16 hsz hget
          have hrs := Blk.new W1 49 #[.int .i64 0, .int .i64 0, .int .i64 0, .int .i64 0, .int .i64 0, .int .i64 0, .int .i64 0, .int .i64 0, .int .i64 0, .int .i64 0, .int .i64 0, .int .i64 0, .int .i64 0, .int .i64 0, .int .i64 0, .int .i64 0]
          have hB2 := hB01.alloc hB01.size (.cells #[.int .i64 0, .int .i64 0, .int .i64 0, .int .i64 0, .int .i64 0, .int .i64 0, .int .i64 0, .int .i64 0, .int .i64 0, .int .i64 0, .int .i64 0, .int .i64 0, .int .i64 0, .int .i64 0, .int .i64 0, .int .i64 0] 49)
          have hst := run_storeVar_row (P := Tryd.prog) _ W1.heap.size 49 49 _ cs hrs hi (by rw [hsz]; rfl) hone
          have hrow := setRow_heap _ W1.heap.size _ cs _ _ hrs
          have hBe := below_setRow hB2 hB01.size cs
          have hrd := rd_nums (p := 16) hrow hget (Nat.le_refl _)
          have hsl := fun W => slice16a W1.heap.size W
          go_wp2_with (refine wpList_store_row rfl 49 _ _ rfl W1.heap.size cs rfl rfl 49 _ hrs hi (by rw [hsz]; rfl) hone ?_)
          refine (Max_any _ 16 16 _ (ldN (ofN ((k : Int) + 1) (g : Int)) xs) _ hrd (by omega) (by omega)).mono ?_
          rintro e w' ⟨rfl, rfl⟩
          rw [HMX.out]
          have HBE := hide hBe
          clear hBe hrd hrow hst hrs hB2 hB01 hsl hget hone hi
          obtain ⟨m, hm⟩ : ∃ m, mxP (g : Int) xs (k + 1) = m := ⟨_, rfl⟩
          rw [hm] at hmm ⊢
          rw [hm, HB2.out] at HSS
          obtain ⟨W2, hW2⟩ : ∃ W2, (W1.alloc (.cells #[.int .i64 0, .int .i64 0, .int .i64 0, .int .i64 0, .int .i64 0, .int .i64 0, .int .i64 0, .int .i64 0, .int .i64 0, .int .i64 0, .int .i64 0, .int .i64 0, .int .i64 0, .int .i64 0, .int .i64 0, .int .i64 0] 49)).setRow W1.heap.size cs = W2 := ⟨_, rfl⟩
          rw [hW2] at HBE ⊢
          clear hm hW2 hsz
          by_cases hb : m < b2
          · have hb' : (m : Int) < (b2 : Int) := by omega
            have HT := hide (show bstP (g : Int) xs (k + 1) = (k + 1, m) by rw [HSS.out, if_pos hb])
            go_wp2_with fail
            go_roundw
            case rel => exact ⟨k + 1, by omega, by go_num, by rw [HT.out]; go_num, by rw [HT.out], HBE.out⟩
            case measure => simp [intOf]; omega
          · have hb' : ¬ ((m : Int) < (b2 : Int)) := by omega
            have HT := hide (show bstP (g : Int) xs (k + 1) = bstP (g : Int) xs k by rw [HSS.out, if_neg hb])
            go_wp2_with fail
            go_roundw
            case rel => exact ⟨k + 1, by omega, by go_num, by rw [HT.out, HB1.out], by rw [HT.out, HB2.out], HBE.out⟩
            case measure => simp [intOf]; omega
      · obtain rfl : k = M := by omega
        have HM3 := hide hM3
        have HHK := hide hk
        rcases Nat.lt_or_ge 16 g with hc | hc
        · have p3 : (16 : Int) < (g : Int) := by omega
          have p4 : ¬ ((k : Int) + 1 ≤ 16) := by
            intro h
            have := hM3 k (Nat.le_refl _) (by omega)
            omega
          clear hM3 hk
          go_wp2_with fail
          go_ret2
          exact ⟨by rw [HE.out, HP.out, HB1.out]; rfl, hB⟩
        · have p3 : ¬ ((16 : Int) < (g : Int)) := by omega
          have p4 : ¬ ((k : Int) + 1 ≤ (g : Int)) := by
            intro h
            have := hM3 k (Nat.le_refl _) (by omega)
            omega
          clear hM3 hk
          go_wp2_with fail
          go_ret2
          exact ⟨by rw [HE.out, HP.out, HB1.out]; rfl, hB⟩
  · have hr1 : rightB 1 G = false := by simp [rightB]; omega
    have HE := hide (show lstE G = 7 by unfold lstE; rw [if_neg hG])
    have HP := hide (show lstP G xs = 0 by unfold lstP; rw [if_neg hG])
    rw [hr1] at HN
    clear hG hr1
    go_enter Tryd.func10, Tryd.ntmps10
    go_wp2_with fail
    refine HK.out.mono ?_
    rintro e w' ⟨rfl, rfl⟩
    go_wp2_with fail
    refine HN.out.mono ?_
    rintro e w' ⟨rfl, rfl⟩
    clear HK HN
    go_wp2_with fail
    go_ret2
    exact ⟨by rw [HE.out, HP.out]; rfl, Below.refl _ _⟩
end Go.Proofs.YthngjbhamgmcgaaDoor
