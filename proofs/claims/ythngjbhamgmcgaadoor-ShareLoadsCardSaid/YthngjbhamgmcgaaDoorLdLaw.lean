/-
  The walk of the law ShareLoads.
-/
import Derived.Test.YthngjbhamgmcgaaDoorLdE
import Derived.Test.YthngjbhamgmcgaaDoorSameInts
import Derived.Test.YthngjbhamgmcgaaDoorLong
namespace Go.Proofs.YthngjbhamgmcgaaDoor
open Go.RowKit Go.Shelf Go.Deep
attribute [local go_sem] Oper.semAt_some
set_option linter.unusedVariables false
set_option linter.unusedSimpArgs false

theorem sum_range (g : Nat → Nat) (n : Nat) : ((List.range n).map g).sum = smN g n := by
  induction n with
  | zero => rfl
  | succ n ih => rw [List.range_succ, List.map_append, List.sum_append, ih, smN_succ]; simp
theorem lodL_sum {p G : Int} (h : rightB p G = true) (xs : List ByteArray) : (lodL p G xs).sum = xs.length := by
  unfold lodL
  rw [if_pos h, sum_range]
  refine smN_ld (fun s => ?_) xs
  have := (ofN_spec h s).2
  omega
theorem lodL_sum_le (p G : Int) (xs : List ByteArray) : (lodL p G xs).sum ≤ xs.length := by
  by_cases h : rightB p G = true
  · exact Nat.le_of_eq (lodL_sum h xs)
  · unfold lodL; rw [if_neg h]; exact Nat.zero_le _
theorem take_sum_le (l : List Nat) (k : Nat) : (l.take k).sum ≤ l.sum := by
  have h := congrArg List.sum (List.take_append_drop k l)
  rw [List.sum_append] at h
  omega
theorem lodL_vals2 (l : List Nat) : l.map (fun j => Value.int .i64 ((j : Nat) : Int)) = (l.map fun j => ((j : Nat) : Int)).map (Value.int .i64) := by
  rw [List.map_map]; rfl
set_option maxRecDepth 100000 in
set_option maxHeartbeats 8000000 in
theorem shareLoads_all (A0 : Option Addr) (n0 c0 : Nat) (r : Rw) (A1 : Option Addr) (n1 c1 : Nat) (cols : List Int) (A2 : Option Addr) (n2 c2 : Nat) (ks : List ByteArray) (p G : Int) (w : World)
    (h0 : Reads w w.heap.size 3 A0 n0 (r.flatMap encV)) (h1 : Reads w w.heap.size 1 A1 n1 (cols.map (Value.int .i64))) (h2 : Reads w w.heap.size 1 A2 n2 (ks.map Value.string))
    (l0 : n0 ≤ 9223372036854775807) (l1 : n1 ≤ 9223372036854775807) (l2 : n2 ≤ 9223372036854775807) (z2 : ∀ s ∈ ks, s.size ≤ 9223372036854775807) (ht : Tab w) :
    Calls Tryd.prog 3 #[.slice A0 n0 c0, .slice A1 n1 c1, .slice A2 n2 c2, .int .i64 p, .int .i64 G] w (RetV w (.bool true)) := by
  have HA := hide (awake_any w)
  have HZ := hide z2
  clear z2
  go_enter Tryd.func3, Tryd.ntmps3
  go_wp2_with fail
  refine HA.out.mono ?_
  rintro e W0 ⟨rfl, hB0⟩
  have h0 := h0.up hB0
  have h1 := h1.up hB0
  have h2 := h2.up hB0
  have ht := ht.below hB0
  clear HA
  by_cases x0 : 20 < n0
  · have q : (20 : Int) < (n0 : Int) := by omega
    go_wp2_with fail
    go_ret
    exact ⟨rfl, hB0⟩
  by_cases x1 : 20 < n1
  · have q : (20 : Int) < (n1 : Int) := by omega
    go_wp2_with fail
    go_ret
    exact ⟨rfl, hB0⟩
  have HLG := hide (long_any A2 n2 c2 _ ks W0 h2 l2 HZ.out)
  rcases Bool.eq_false_or_eq_true (longB ks) with hl | hl
  · rw [hl] at HLG
    go_wp2_with fail
    refine HLG.out.mono ?_
    rintro e w' ⟨rfl, rfl⟩
    go_wp2_with fail
    go_ret
    exact ⟨rfl, hB0⟩
  rw [hl] at HLG
  have HK := hide (show Kok ks from long_no hl)
  clear hl
  go_wp2_with fail
  refine HLG.out.mono ?_
  rintro e w' ⟨rfl, rfl⟩
  clear HLG
  have HL0 := hide (h0.len encV_len (by omega))
  go_wp2_with fail
  go_loopw [11] (fun i wr => ∃ k : Nat, k ≤ n0 ∧ i = .int .i64 k ∧ wr = W0) (fun i _ => n0 - (intOf i).toNat)
  case atStart => exact ⟨0, Nat.zero_le _, rfl, rfl⟩
  case round =>
    obtain ⟨k, hk, rfl, rfl⟩ := hrel
    by_cases hlt : k < n0
    · obtain ⟨b, off, x, hA, hb, hxk, hcx⟩ := h0.elem encV_len HL0.out hlt
      have e2 : wr.cell? ⟨b, off + k * 3 + 2, none⟩ = some (.string x.s) := by simpa [← Nat.add_assoc] using hcx 2 _ rfl
      clear hcx hxk
      rw [hA]
      have HA := hide hA
      clear hA
      have q1 : (0 : Int) ≤ (k : Int) := by omega
      have q2 : (k : Int) < (n0 : Int) := by omega
      by_cases hs : x.s.size ≤ 300
      · go_wp2_with fail
        go_roundw
        case rel => exact ⟨k + 1, by omega, by go_num, by trivial⟩
        case measure => simp [intOf]; omega
      · go_wp2_with fail
        go_ret
        exact ⟨rfl, hB0⟩
    · have q2 : ¬ ((k : Int) < (n0 : Int)) := by omega
      have H1 := hide (Key_any A0 n0 c0 r A1 n1 c1 cols wr h0 l0 h1 l1 ht)
      go_wp2_with fail
      refine H1.out.mono ?_
      rintro e W1 ⟨rfl, hB1⟩
      have hB01 := bstep hB0 hB1
      have H2 := hide (RKey_any A0 n0 c0 r A1 n1 c1 cols W1 (h0.up hB1) l0 (h1.up hB1) l1 (ht.below hB1))
      have h2' := h2.up hB1
      clear H1 hB0 hB1 h0 h1 h2 ht
      obtain ⟨K, hK⟩ : ∃ K, keyS r cols = K := ⟨_, rfl⟩
      obtain ⟨E, hE⟩ : ∃ E, prE r cols = E := ⟨_, rfl⟩
      rw [hK, hE] at H2 ⊢
      clear hK hE
      go_wp2_with fail
      refine H2.out.mono ?_
      rintro e W2 ⟨rfl, hB2⟩
      have hB02 := bstep hB01 hB2
      have h2 := h2'.up hB2
      have H3 := hide (Load_any A2 n2 c2 ks p G W2 h2 HK.out)
      clear H2 hB2 hB01 h2'
      go_wp2_with fail
      refine H3.out.mono ?_
      rintro e W3 ⟨A3, c3, rfl, hR3, hB3⟩
      have hB03 := bstep hB02 hB3
      have h2' := h2.up hB3
      have H4 := hide (RLoad_any A2 n2 c2 ks p G W3 h2' HK.out)
      have HSM := hide (take_sum_le (lodL p G ks))
      have HS1 := hide (lodL_sum_le p G ks)
      have HEL := hide (show lodE p G ≠ 0 ∨ (lodL p G ks).sum = n2 by
        by_cases h : rightB p G = true
        · exact .inr (by rw [lodL_sum h]; exact h2'.len1)
        · exact .inl (by unfold lodE; rw [if_neg h]; omega))
      have hks : ks.length ≤ 60 := HK.out.1
      have hsum : (lodL p G ks).sum ≤ 60 := by have := HS1.out; omega
      have hll : (lodL p G ks).length ≤ 16 := by
        by_cases h : rightB p G = true
        · unfold lodL
          rw [if_pos h]
          have := (rightB_iff p G).1 h
          simp
          omega
        · unfold lodL; rw [if_neg h]; exact Nat.zero_le _
      clear H3 hB3 hB02 h2
      obtain ⟨L, hL⟩ : ∃ L, lodL p G ks = L := ⟨_, rfl⟩
      obtain ⟨F, hF⟩ : ∃ F, lodE p G = F := ⟨_, rfl⟩
      rw [hL] at hR3 H4 HSM HS1 HEL hsum hll ⊢
      rw [hF] at H4 HEL ⊢
      obtain ⟨m, hm⟩ : ∃ m, L.length = m := ⟨_, rfl⟩
      have HM := hide hm
      rw [hm] at hR3 H4 hll ⊢
      clear hL hF hm
      go_wp2_with fail
      refine H4.out.mono ?_
      rintro e W4 ⟨A4, c4, rfl, hR4, hB4⟩
      have hB04 := bstep hB03 hB4
      have h2 := h2'.up hB4
      have hR3' := hR3.up hB4
      have H5 := hide (Least_any A2 n2 c2 ks G W4 h2 HK.out)
      clear H4 hB4 hB03 h2' hR3
      go_wp2_with fail
      refine H5.out.mono ?_
      rintro e W5 ⟨rfl, hB5⟩
      have hB05 := bstep hB04 hB5
      have h2' := h2.up hB5
      have hR3 := hR3'.up hB5
      have hR4' := hR4.up hB5
      have H6 := hide (RLeast_any A2 n2 c2 ks G W5 h2' HK.out)
      clear H5 hB5 hB04 h2 hR4 hR3'
      obtain ⟨N, hN⟩ : ∃ N : Int, ((lstP G ks : Nat) : Int) = N := ⟨_, rfl⟩
      obtain ⟨Y, hY⟩ : ∃ Y, lstE G = Y := ⟨_, rfl⟩
      rw [hN, hY] at H6 ⊢
      clear hN hY
      go_wp2_with fail
      refine H6.out.mono ?_
      rintro e W6 ⟨rfl, hB6⟩
      have hB06 := bstep hB05 hB6
      have hR3' := hR3.up hB6
      have hR4 := hR4'.up hB6
      clear H6 hB6 hB05 h2' hR4' hR3
      have H7 := hide (SameInts_any A3 A4 m m c3 c4 _ _ (L.map fun j => ((j : Nat) : Int)) (L.map fun j => ((j : Nat) : Int)) W6 (by rw [← lodL_vals2]; exact hR3') (by rw [← lodL_vals2]; exact hR4) (by omega) (by omega))
      rw [decide_eq_true rfl] at H7
      have hR5 : ∀ q, Reads (W6.drewN q) W6.heap.size 1 A3 m (L.map fun j => Value.int .i64 ((j : Nat) : Int)) := fun q => hR3'
      have HB6 := hide (fun q => below_drewN hB06 q)
      clear hR3' hR4 hB06
      go_wp2_with fail
      refine H7.out.mono ?_
      rintro e W7 ⟨rfl, q7, rfl⟩
      have hR7 := hR5 q7
      clear hR5 H7
      go_wp2_with fail
      go_loopw [24, 25] (fun s i wr => ∃ k : Nat, k ≤ m ∧ i = .int .i64 k ∧ s = .int .i64 (((L.take k).sum : Nat) : Int) ∧ wr = W6.drewN q7) (fun _ i _ => m - (intOf i).toNat)
      case atStart => exact ⟨0, Nat.zero_le _, rfl, rfl, rfl⟩
      case round =>
        obtain ⟨j, hj, rfl, rfl, rfl⟩ := hrel
        by_cases hjt : j < m
        · obtain ⟨b, off, x, hA, hb, hxj, hc⟩ := hR7.at1 hjt
          have HT := hide (show (L.take (j + 1)).sum = (L.take j).sum + x by rw [take_snoc' hxj, List.sum_append]; simp)
          have hb1 := HSM.out (j + 1)
          rw [HT.out] at hb1
          obtain ⟨s, hs⟩ : ∃ s, (L.take j).sum = s := ⟨_, rfl⟩
          rw [hs] at HT hb1 ⊢
          clear hs hxj
          rw [hA]
          have HA := hide hA
          clear hA
          have q1 : (0 : Int) ≤ (j : Int) := by omega
          have q2 : (j : Int) < (m : Int) := by omega
          go_wp2_with fail
          go_roundw
          case rel => exact ⟨j + 1, by omega, by go_num, by rw [HT.out]; go_num, by trivial⟩
          case measure => simp [intOf]; omega
        · have q2 : ¬ ((j : Int) < (m : Int)) := by omega
          have HTS := hide (show (L.take j).sum = L.sum by rw [List.take_of_length_le (by rw [HM.out]; omega)])
          rw [HTS.out]
          obtain ⟨s, hs⟩ : ∃ s, L.sum = s := ⟨_, rfl⟩
          rw [hs] at HEL ⊢
          clear hs
          by_cases hF0 : F = 0
          · have hsn : s = n2 := by rcases HEL.out with h | h; exact absurd hF0 h; exact h
            have HSN := hide hsn
            subst hF0
            rw [hsn]
            clear hsn
            go_wp2_with fail
            go_ret
            exact ⟨rfl, HB6.out q7⟩
          · have z : (F != 0) = true := by simpa using hF0
            go_wp2_with fail
            go_ret
            exact ⟨rfl, HB6.out q7⟩
end Go.Proofs.YthngjbhamgmcgaaDoor
