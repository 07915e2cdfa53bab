/-
  The walks of the reference's Least, and of Key on both sides.
-/
import Derived.Test.YthngjbhamgmcgaaDoorLdD
import Derived.Test.YthngjbhamgmcgaaDoorPjB
import Derived.Test.YthngjbhamgmcgaaDoorTxC
namespace Go.Proofs.YthngjbhamgmcgaaDoor
open Go.RowKit Go.Shelf Go.Deep
attribute [local go_sem] Oper.semAt_some
set_option linter.unusedVariables false
set_option linter.unusedSimpArgs false

theorem lodL_at {p G : Int} {xs : List ByteArray} {j x : Nat} (h : (lodL p G xs)[j]? = some x) : x = ldN (ofN p G) xs j := by
  unfold lodL at h
  split at h
  · rw [List.getElem?_map] at h
    cases hr : (List.range p.toNat)[j]? with
    | none => rw [hr] at h; cases h
    | some y =>
      rw [hr] at h
      obtain ⟨h1, h2⟩ := List.getElem?_eq_some_iff.1 hr
      rw [List.getElem_range] at h2
      subst h2
      injection h with h; exact h.symm
  · cases h
set_option maxRecDepth 100000 in
set_option maxHeartbeats 4000000 in
theorem RLeast_any (A : Option Addr) (n c : Nat) (xs : List ByteArray) (G : Int) (w : World) (hx : Reads w w.heap.size 1 A n (xs.map Value.string)) (hk : Kok xs) :
    Calls Tryd.prog 11 #[.slice A n c, .int .i64 G] w (RetV w (.tuple #[.int .i64 ((lstP G xs : Nat) : Int), .int .i64 (lstE G)])) := by
  have HK := hide (Rkeys_any A n c _ xs w hx hk)
  have HN := hide (In_any G 128 w)
  have HL := hide hx.len1
  have h60 : n ≤ 60 := by rw [← HL.out]; exact hk.1
  by_cases hG : 1 ≤ G ∧ G ≤ 128
  · have hr1 : decide (1 ≤ G ∧ G ≤ 128) = true := by simp [hG]
    have HE := hide (show lstE G = 0 by unfold lstE; rw [if_pos hG])
    have HP := hide (show lstP G xs = (bstP G xs (min G.toNat 16)).1 by unfold lstP; rw [if_pos hG])
    have HR := hide (fun (p : Nat) (h1 : 1 ≤ p) (h2 : p ≤ 16) => show rightB (p : Int) G = true by simp [rightB, hG]; omega)
    rw [hr1] at HN
    obtain ⟨g, rfl⟩ : ∃ g : Nat, G = (g : Int) := ⟨G.toNat, by omega⟩
    obtain ⟨M, hM⟩ : ∃ M, min (g : Int).toNat 16 = M := ⟨_, rfl⟩
    rw [hM] at HP
    have hM0 : 1 ≤ M := by omega
    have hM1 : M ≤ 16 := by omega
    have hM2 : M ≤ g := by omega
    have HM3 := hide (show M = 16 ∨ (M = g ∧ g < 16) by omega)
    have hg := hG.2
    have HKK := hide hk
    clear hG hr1 hM hk
    go_enter Tryd.func11, Tryd.ntmps11
    go_wp2_with fail
    refine HK.out.mono ?_
    rintro e w' ⟨rfl, rfl⟩
    go_wp2_with fail
    refine HN.out.mono ?_
    rintro e w' ⟨rfl, rfl⟩
    clear HK HN
    go_wp2_with fail
    go_loopw [7, 8, 9, 10, 11, 12, 13] (fun bs ls i _ _ _ _ wr => ∃ k b l : Nat, k ≤ M ∧ i = .int .i64 ((k : Int) + 1) ∧ bs = .int .i64 (b : Int) ∧ ls = .int .i64 (l : Int) ∧ (if k = 0 then b = 0 else (b, l) = bstP (g : Int) xs k) ∧ Below w.heap.size w wr) (fun _ _ i _ _ _ _ _ => M + 1 - (intOf i).toNat)
    case atStart => exact ⟨0, 0, 0, Nat.zero_le _, rfl, rfl, rfl, by simp, Below.refl _ _⟩
    case round =>
      obtain ⟨k, b, l, hkk, rfl, rfl, rfl, hbl, hB⟩ := hrel
      have HBL := hide hbl
      clear hbl
      by_cases hlt : k < M
      · have HLD := hide (RLoad_any A n c xs (((k + 1 : Nat) : Int)) (g : Int) wr (hx.up hB) HKK.out)
        have hr := HR.out (k + 1) (by omega) (by omega)
        have hlen : (lodL ((k + 1 : Nat) : Int) (g : Int) xs).length = k + 1 := by unfold lodL; rw [if_pos hr]; simp
        have hle0 : lodE ((k + 1 : Nat) : Int) (g : Int) = 0 := by unfold lodE; rw [if_pos hr]
        rw [hlen, hle0] at HLD
        have HLA := hide (fun j x (h : (lodL ((k + 1 : Nat) : Int) (g : Int) xs)[j]? = some x) => lodL_at h)
        have HMX := hide (show mxF (ldN (ofN ((k + 1 : Nat) : Int) (g : Int)) xs) (k + 1) = mxP (g : Int) xs (k + 1) from rfl)
        have HSS := hide (bstP_succ (g : Int) xs k)
        obtain ⟨f, hf⟩ : ∃ f, ldN (ofN ((k + 1 : Nat) : Int) (g : Int)) xs = f := ⟨_, rfl⟩
        rw [hf] at HMX HLA
        obtain ⟨LL, hLL⟩ : ∃ LL, lodL ((k + 1 : Nat) : Int) (g : Int) xs = LL := ⟨_, rfl⟩
        rw [hLL] at HLD HLA
        rw [show (((k + 1 : Nat)) : Int) = (k : Int) + 1 by omega] at HLD
        clear hlen hle0 hr hf hLL
        have p1 : (k : Int) + 1 ≤ (g : Int) := by omega
        have p2 : (k : Int) + 1 ≤ 16 := by omega
        go_wp2_with fail
        refine HLD.out.mono ?_
        rintro e W1 ⟨A1, c1, rfl, hR1, hB1⟩
        have hB01 := bstep hB hB1
        clear HLD hB hB1
        go_wp2_with fail
        go_loopw [12, 13] (fun m i wq => ∃ j : Nat, j ≤ k + 1 ∧ i = .int .i64 (j : Int) ∧ m = .int .i64 ((mxF f j : Nat) : Int) ∧ wq = W1) (fun _ i _ => k + 1 - (intOf i).toNat)
        case atStart => exact ⟨0, Nat.zero_le _, rfl, rfl, rfl⟩
        case round =>
          obtain ⟨j, hj, rfl, rfl, rfl⟩ := hrel
          by_cases hjt : j < k + 1
          · obtain ⟨b', off', x, hA', hb', hxj, hc⟩ := hR1.at1 hjt
            have hx2 := HLA.out j x hxj
            have HMS := hide (mxF_succ f j)
            rw [← hx2] at HMS
            clear hxj hx2
            rw [hA']
            have HA' := hide hA'
            clear hA'
            obtain ⟨m, hm⟩ : ∃ m, mxF f j = m := ⟨_, rfl⟩
            rw [hm] at HMS ⊢
            clear hm
            have q1 : (0 : Int) ≤ (j : Int) := by omega
            have q2 : (j : Int) < (k : Int) + 1 := by omega
            by_cases hmx : m < x
            · have q3 : (m : Int) < (x : Int) := by omega
              go_wp2_with fail
              go_roundw
              case rel => exact ⟨j + 1, by omega, by go_num, by rw [HMS.out, Nat.max_eq_right (by omega)], by trivial⟩
              case measure => simp [intOf]; omega
            · have q3 : ¬ ((m : Int) < (x : Int)) := by omega
              go_wp2_with fail
              go_roundw
              case rel => exact ⟨j + 1, by omega, by go_num, by rw [HMS.out, Nat.max_eq_left (by omega)], by trivial⟩
              case measure => simp [intOf]; omega
          · obtain rfl : j = k + 1 := by omega
            rw [HMX.out]
            obtain ⟨m, hm⟩ : ∃ m, mxP (g : Int) xs (k + 1) = m := ⟨_, rfl⟩
            have hmm := mxP_le (g : Int) xs (k + 1)
            have HH := hide hm
            rw [hm] at hmm HSS ⊢
            clear hm
            by_cases hk0 : k = 0
            · have h1 : b = 0 := by have := HBL.out; rw [if_pos hk0] at this; exact this
              have HT := hide (show ((k + 1, m) : Nat × Nat) = bstP (g : Int) xs (k + 1) by
                rw [HSS.out, if_pos]
                rw [hk0]
                show m < xs.length + 1
                omega)
              have q4 : ((b : Int) == 0) = true := by rw [h1]; rfl
              clear h1 hk0
              go_wp2_with fail
              go_roundw
              case rel => exact ⟨k + 1, k + 1, m, by omega, by go_num, by go_num, rfl, by rw [if_neg (by omega)]; exact HT.out, hB01⟩
              case measure => simp [intOf]; omega
            · have h1 : (b, l) = bstP (g : Int) xs k := by have := HBL.out; rw [if_neg hk0] at this; exact this
              have h2 := bstP_pos (g : Int) xs (show 1 ≤ k by omega)
              rw [← h1] at h2 HSS
              have hb1 : 1 ≤ b := h2
              have q4 : ((b : Int) == 0) = false := by simp; omega
              clear h1 h2 hk0
              by_cases hml : m < l
              · have q5 : (m : Int) < (l : Int) := by omega
                have HT := hide (show ((k + 1, m) : Nat × Nat) = bstP (g : Int) xs (k + 1) by rw [HSS.out, if_pos hml])
                go_wp2_with fail
                go_roundw
                case rel => exact ⟨k + 1, k + 1, m, by omega, by go_num, by go_num, rfl, by rw [if_neg (by omega)]; exact HT.out, hB01⟩
                case measure => simp [intOf]; omega
              · have q5 : ¬ ((m : Int) < (l : Int)) := by omega
                have HT := hide (show ((b, l) : Nat × Nat) = bstP (g : Int) xs (k + 1) by rw [HSS.out, if_neg hml])
                go_wp2_with fail
                go_roundw
                case rel => exact ⟨k + 1, b, l, by omega, by go_num, rfl, rfl, by rw [if_neg (by omega)]; exact HT.out, hB01⟩
                case measure => simp [intOf]; omega
      · obtain rfl : k = M := by omega
        have HT := hide (show (bstP (g : Int) xs k).1 = b by have := HBL.out; rw [if_neg (by omega)] at this; rw [← this])
        rcases HM3.out with hc | ⟨hc, hc2⟩
        · have p3 : ¬ ((k : Int) + 1 ≤ 16) := by omega
          by_cases hc3 : (k : Int) + 1 ≤ (g : Int)
          · go_wp2_with fail
            go_ret2
            exact ⟨by rw [HE.out, HP.out, HT.out]; rfl, hB⟩
          · go_wp2_with fail
            go_ret2
            exact ⟨by rw [HE.out, HP.out, HT.out]; rfl, hB⟩
        · have p3 : ¬ ((k : Int) + 1 ≤ (g : Int)) := by omega
          go_wp2_with fail
          go_ret2
          exact ⟨by rw [HE.out, HP.out, HT.out]; rfl, hB⟩
  · have hr1 : decide (1 ≤ G ∧ G ≤ 128) = false := by simp; omega
    have HE := hide (show lstE G = 7 by unfold lstE; rw [if_neg hG])
    have HP := hide (show lstP G xs = 0 by unfold lstP; rw [if_neg hG])
    rw [hr1] at HN
    clear hG hr1
    go_enter Tryd.func11, Tryd.ntmps11
    go_wp2_with fail
    refine HK.out.mono ?_
    rintro e w' ⟨rfl, rfl⟩
    go_wp2_with fail
    refine HN.out.mono ?_
    rintro e w' ⟨rfl, rfl⟩
    clear HK HN
    go_wp2_with fail
    go_ret2
    exact ⟨by rw [HE.out, HP.out]; rfl, Below.refl _ _⟩
/-- A row's key. -/
def keyS (r : Rw) (xs : List Int) : ByteArray := if prE r xs = 0 then ⟨(rowT (prL r xs)).toArray⟩ else ⟨#[]⟩
set_option maxHeartbeats 1000000 in
theorem Key_any (A : Option Addr) (n c : Nat) (r : Rw) (A' : Option Addr) (n' c' : Nat) (xs : List Int) (w : World) (hr : Reads w w.heap.size 3 A n (r.flatMap encV)) (hn : n ≤ 9223372036854775807)
    (hx : Reads w w.heap.size 1 A' n' (xs.map (Value.int .i64))) (hn' : n' ≤ 9223372036854775807) (ht : Tab w) :
    Calls Tryd.prog 6 #[.slice A n c, .slice A' n' c'] w (RetV w (.tuple #[.string (keyS r xs), .int .i64 (prE r xs)])) := by
  have HP := hide (Project_any A n c r A' n' c' xs w hr hn hx hn')
  have hle : (prL r xs).length ≤ 8 ∨ prE r xs ≠ 0 := by
    by_cases h : prE r xs = 0
    · refine .inl ?_
      unfold prE at h
      split at h
      · split at h
        · split at h
          · rename_i h1 h2 h3
            unfold prL
            split
            · unfold pick
              exact Nat.le_trans (List.length_filterMap_le _ _) h3
            · exact Nat.zero_le _
          · cases h
        · cases h
      · cases h
    · exact .inr h
  have HL := hide hle
  clear hle hr hx
  go_enter Tryd.func6, Tryd.ntmps6
  go_wp2_with fail
  refine HP.out.mono ?_
  rintro e W1 ⟨A1, c1, rfl, hR1, hB1⟩
  clear HP
  by_cases h : prE r xs = 0
  · have HK := hide (show keyS r xs = ⟨(rowT (prL r xs)).toArray⟩ by unfold keyS; rw [if_pos h])
    have hl : (prL r xs).length ≤ 8 := by rcases HL.out with h1 | h1; exact h1; exact absurd h h1
    have HT := hide (Text_any A1 _ c1 (prL r xs) W1 hR1 (by omega) (ht.below hB1))
    have HE := hide h
    rw [h]
    clear h
    go_wp2_with fail
    refine HT.out.mono ?_
    rintro e W2 ⟨rfl, hB2⟩
    have HB := hide (bstep hB1 hB2)
    clear hB1 hB2 hR1
    go_wp2_with fail
    go_ret2
    rw [HK.out, HE.out]
    exact ⟨rfl, HB.out⟩
  · have HK := hide (show keyS r xs = ⟨#[]⟩ by unfold keyS; rw [if_neg h])
    obtain ⟨E, hE⟩ : ∃ E, prE r xs = E := ⟨_, rfl⟩
    have HE := hide hE
    rw [hE] at h ⊢
    have z : (E != 0) = true := by simpa using h
    clear hE h hR1 HL
    go_wp2_with fail
    go_ret2
    rw [HK.out, HE.out]
    exact ⟨rfl, hB1⟩
set_option maxHeartbeats 1000000 in
theorem RKey_any (A : Option Addr) (n c : Nat) (r : Rw) (A' : Option Addr) (n' c' : Nat) (xs : List Int) (w : World) (hr : Reads w w.heap.size 3 A n (r.flatMap encV)) (hn : n ≤ 9223372036854775807)
    (hx : Reads w w.heap.size 1 A' n' (xs.map (Value.int .i64))) (hn' : n' ≤ 9223372036854775807) (ht : Tab w) :
    Calls Tryd.prog 7 #[.slice A n c, .slice A' n' c'] w (RetV w (.tuple #[.string (keyS r xs), .int .i64 (prE r xs)])) := by
  have HP := hide (RProject_any A n c r A' n' c' xs w hr hn hx hn')
  have hle : (prL r xs).length ≤ 8 ∨ prE r xs ≠ 0 := by
    by_cases h : prE r xs = 0
    · refine .inl ?_
      unfold prE at h
      split at h
      · split at h
        · split at h
          · rename_i h1 h2 h3
            unfold prL
            split
            · unfold pick
              exact Nat.le_trans (List.length_filterMap_le _ _) h3
            · exact Nat.zero_le _
          · cases h
        · cases h
      · cases h
    · exact .inr h
  have HL := hide hle
  clear hle hr hx
  go_enter Tryd.func7, Tryd.ntmps7
  go_wp2_with fail
  refine HP.out.mono ?_
  rintro e W1 ⟨A1, c1, rfl, hR1, hB1⟩
  clear HP
  by_cases h : prE r xs = 0
  · have HK := hide (show keyS r xs = ⟨(rowT (prL r xs)).toArray⟩ by unfold keyS; rw [if_pos h])
    have hl : (prL r xs).length ≤ 8 := by rcases HL.out with h1 | h1; exact h1; exact absurd h h1
    have HT := hide (RText_any A1 _ c1 (prL r xs) W1 hR1 (by omega) (ht.below hB1))
    have HE := hide h
    rw [h]
    clear h
    go_wp2_with fail
    refine HT.out.mono ?_
    rintro e W2 ⟨rfl, hB2⟩
    have HB := hide (bstep hB1 hB2)
    clear hB1 hB2 hR1
    go_wp2_with fail
    go_ret2
    rw [HK.out, HE.out]
    exact ⟨rfl, HB.out⟩
  · have HK := hide (show keyS r xs = ⟨#[]⟩ by unfold keyS; rw [if_neg h])
    obtain ⟨E, hE⟩ : ∃ E, prE r xs = E := ⟨_, rfl⟩
    have HE := hide hE
    rw [hE] at h ⊢
    have z : (E != 0) = true := by simpa using h
    clear hE h hR1 HL
    go_wp2_with fail
    go_ret2
    rw [HK.out, HE.out]
    exact ⟨rfl, hB1⟩
end Go.Proofs.YthngjbhamgmcgaaDoor
