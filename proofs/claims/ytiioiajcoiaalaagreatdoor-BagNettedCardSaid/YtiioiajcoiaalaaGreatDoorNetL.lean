/-
  The walk of BagNetted, for every bag and changes.
-/
import Derived.Test.YtiioiajcoiaalaaGreatDoorNetA
import Derived.Test.YtiioiajcoiaalaaGreatDoorBcL
namespace Go.Proofs.YtiioiajcoiaalaaGreatDoor
open Go.RowKit
attribute [local go_sem] Oper.semAt_some
set_option linter.unusedVariables false
set_option linter.unusedSimpArgs false

theorem okChs_dat (l : List Ch) : okChs l = (decide ((datC l).length ≤ 400) && (datC l).all fun x => okCh x.2.1 x.1 x.2.2) := by
  unfold okChs datC
  rw [List.length_map, List.all_map]
  rfl
theorem apply_dperm {a : Bg} {l c : List Ch} (hp : (datC c).Perm (datC l)) : applyB a c = applyB a l := by
  have hok : okChs c = okChs l := by
    rw [okChs_dat, okChs_dat, hp.length_eq]
    congr 1
    rw [Bool.eq_iff_iff, List.all_eq_true, List.all_eq_true]
    exact ⟨fun h x hx => h x (hp.mem_iff.2 hx), fun h x hx => h x (hp.mem_iff.1 hx)⟩
  have hd : (chD c).Perm (chD l) := by rw [← datC_chD, ← datC_chD]; exact hp.map _
  unfold applyB
  rw [hok]
  cases hl : okChs l
  · simp
  cases ha : okBag a
  · rfl
  have he : aftB a (chD c) = aftB a (chD l) := (aft_net ha (hok.trans hl)).same (aft_net ha hl) fun r => by
    rw [sumG_app, sumG_app, sumG_perm hd]
  rw [he]
theorem same_chgD {A : Option Addr} {n c : Nat} {A' : Option Addr} {n' c' B B' : Nat} {l l' : List Ch} {w : World} (hx : ChgR w B A n l) (hy : ChgR w B' A' n' l') (hd : datC l = datC l') :
    Calls Tryz.prog 17 #[.slice A n c, .slice A' n' c'] w (RetV w (.bool true)) := by
  have hn : n' = n := by
    rw [← hx.len, ← hy.len]
    have := congrArg List.length hd
    unfold datC at this
    simpa using this.symm
  subst hn
  exact ChgSame_one A n' c A' c' B B' l l' w hx hy hd
theorem rev_at {α : Type} {l : List α} {n k : Nat} {x : α} (hl : l.length = n) (hk : k < n) (hx : l[n - 1 - k]? = some x) : l.reverse[k]? = some x := by
  rw [List.getElem?_reverse (by omega), hl]
  exact hx
set_option maxRecDepth 100000 in
set_option maxHeartbeats 4000000 in
theorem bagNetted_all (A1 : Option Addr) (n1 c1 : Nat) (l1 : List It) (A3 : Option Addr) (n3 c3 : Nat) (l3 : List Ch) (w : World)
    (h1 : BagR w w.heap.size A1 n1 l1) (h3 : ChgR w w.heap.size A3 n3 l3) (k1 : n1 ≤ c1) (ht : Tab w) :
    Calls Tryz.prog 6 #[.slice A1 n1 c1, .slice A3 n3 c3] w (RetV w (.bool true)) := by
  obtain ⟨i0, hi, hz0, hz1, hz2⟩ := info_parts3 infoCh
  have hB0 := below_val (w := w) #[.slice A1 n1 c1] 23
  have b0 := Blk.new w 23 #[.slice A1 n1 c1]
  have g1 := h1.step hB0
  have HF := hide (Few_any [⟨A1, n1, c1, l1⟩] 1 w.heap.size _ rfl (by omega) (fun i x hx => by
    have hi := (List.getElem?_eq_some_iff.1 hx).1
    simp only [List.length_cons, List.length_nil] at hi
    match i, hi, hx with
    | 0, _, hx => injection hx with hx; subst hx; exact ⟨by rw [b0.cell]; rfl, g1⟩))
  clear b0 g1
  have H0 := hide hB0
  clear hB0
  have HA := hide (awake_any)
  go_enter Tryz.func6, Tryz.ntmps6
  go_wp2_with fail
  refine HF.out.mono ?_
  rintro e W1 ⟨b, rfl, _, hB1⟩
  have hB01 := bstep H0.out hB1
  clear hB1 HF H0
  cases b
  · go_wp2_with fail
    refine (HA.out W1).mono ?_
    rintro e W2 ⟨rfl, hB2⟩
    have HE := hide (bstep hB01 hB2)
    clear hB01 hB2
    go_wp2
    go_ret
    exact ⟨rfl, HE.out⟩
  go_wp2_with fail
  refine (FewChanges_any A3 n3 c3 l3 W1 (h3.step hB01)).mono ?_
  rintro e W2 ⟨b, rfl, hB2⟩
  have hB02 := bstep hB01 hB2
  clear hB01 hB2
  cases b
  · go_wp2_with fail
    refine (HA.out W2).mono ?_
    rintro e W3 ⟨rfl, hB3⟩
    have HE := hide (bstep hB02 hB3)
    clear hB02 hB3
    go_wp2
    go_ret
    exact ⟨rfl, HE.out⟩
  obtain ⟨d1, E, hp1⟩ : ∃ d E, applyB (dat l1) l3 = (d, E) := ⟨_, _, rfl⟩
  obtain ⟨d2, F, hp2⟩ : ∃ d E, netB l3 = (d, E) := ⟨_, _, rfl⟩
  have zE : (E != E) = false := by simp
  have yE : (E == E) = true := by simp
  have zF : (F != F) = false := by simp
  have HP1 := hide hp1
  have HP2 := hide hp2
  clear hp1 hp2
  go_wp2_with fail
  refine (Netted_any A3 n3 c3 l3 W2 (h3.step hB02) (ht.below hB02)).mono ?_
  rw [HP2.out]
  rintro e W3 ⟨A4, n4, c4, l4, rfl, hd4, hb4, hB3⟩
  have hB03 := bstep hB02 hB3
  clear hB02 hB3
  go_wp2_with fail
  refine (RNetted_any A3 n3 c3 l3 W3 (h3.step hB03)).mono ?_
  rw [HP2.out]
  rintro e W4 ⟨A5, n5, c5, l5, rfl, hd5, hb5, hB4⟩
  have hB04 := bstep hB03 hB4
  have hb4 := hb4.step hB4
  have HS := hide (same_chgD (c := c4) (c' := c5) hb4 hb5 (by rw [hd4, hd5]))
  clear hB03 hB4 hb5 hd5
  go_wp2_with fail
  refine HS.out.mono ?_
  rintro e W5 ⟨rfl, hB5⟩
  have hB05 := bstep hB04 hB5
  have hb4 := hb4.step hB5
  clear hB04 hB5 HS
  by_cases h0 : F = 0
  · subst h0
    have hok3 : okChs l3 = true := by
      cases ho : okChs l3
      · have := HP2.out
        unfold netB at this
        rw [ho] at this
        cases this
      · rfl
    have hn3 : n3 ≤ 400 := by have := (chs_in hok3).2; rw [h3.len] at this; exact this
    have HAP := hide (apply_net (a := dat l1) (c := l4) (by rw [HP2.out]) (by rw [HP2.out]; exact hd4))
    have h35 := h3.step hB05
    have HL3 := hide h3.len
    clear hd4 hok3
    go_wp2_with fail
    go_loopw [9, 10] (fun v i wr => ∃ (k : Nat) (v' : Value), k ≤ n3 ∧ i = .int .i64 ((n3 : Int) - 1 - k) ∧ v' = v ∧ NetI W5 ((datC l3).reverse.take k) v' wr) (fun _ i _ => (intOf i + 1).toNat)
    case atStart => exact ⟨0, _, Nat.zero_le _, by simp, rfl, Below.refl _ _, [], World.ownsRow_nil _ _ _ _, rfl, nofun⟩
    case round =>
      obtain ⟨k, v, hk, rfl, rfl, hI⟩ := hrel
      by_cases hlt : k < n3
      · obtain ⟨b, off, x, rfl, hb, hxk, e0, e1, e2, hrow⟩ := h35.at_ (show n3 - 1 - k < n3 by omega)
        have hD : (datC l3).reverse[k]? = some (x.r, x.t, x.m) := rev_at (by unfold datC; rw [List.length_map]; exact HL3.out) hlt (by unfold datC; rw [List.getElem?_map, hxk]; rfl)
        have HT := hide (take_snoc' hD)
        have hKL : ((datC l3).reverse.take k).length ≤ 400 := by rw [List.length_take]; omega
        obtain ⟨q, hq⟩ : ∃ q, n3 - 1 - k = q := ⟨_, rfl⟩
        rw [hq] at e0 e1 e2
        obtain ⟨qi, hqi⟩ : ∃ qi : Int, (n3 : Int) - 1 - k = qi := ⟨_, rfl⟩
        obtain rfl : qi = (q : Int) := by omega
        have HQI := hide hqi
        rw [hqi]
        have q1 : (0 : Int) ≤ (q : Int) := by omega
        have q2 : (q : Int) < (n3 : Int) := by omega
        have e0 := (hI.bel.cell (p := ⟨b, off + q * 3, none⟩) hb).trans e0
        have e1 := (hI.bel.cell (p := ⟨b, off + q * 3 + 1, none⟩) hb).trans e1
        have e2 := (hI.bel.cell (p := ⟨b, off + q * 3 + 2, none⟩) hb).trans e2
        obtain ⟨hbel, l', g1, g2, g3⟩ := hI
        have hle := hbel.size
        have hll : l'.length ≤ 400 := by rw [← g2] at hKL; simpa [datC] using hKL
        have hrowr := hrow.below hbel
        have hrd : Reads (wr.alloc (.cells #[.int .i64 x.t, .slice x.A x.n x.c, .int .i64 x.m] 45)) (wr.heap.size + 1) 3 (some ⟨wr.heap.size, 0, none⟩) 1 [.int .i64 x.t, .slice x.A x.n x.c, .int .i64 x.m] :=
          ⟨rfl, fun _ => ⟨wr.heap.size, 0, rfl, by omega, fun j u hu => by
            have := (Blk.new wr 45 #[.int .i64 x.t, .slice x.A x.n x.c, .int .i64 x.m]).cell j
            rw [Nat.zero_add, this]; simpa using hu⟩⟩
        have HG2 := hide g2
        clear g2 hKL hxk hD hrow
        go_wp2_with (at_builtin; refine wpList_append_any _ rfl _ _ 24 rfl W5.heap.size 45 i0 _ 3 40 Tryz.underlying24 hi hz0 hz1 hz2 rfl (by decide) v l'.length _ rfl (g1.alloc _) (wr.heap.size + 1) (some ⟨wr.heap.size, 0, none⟩) 1 1 [.int .i64 x.t, .slice x.A x.n x.c, .int .i64 x.m] rfl hrd (by simp [Value.oneCell']) (by unfold maxLen; omega) (by omega) (by simp; omega) ?_; intro v' X3 hown1 hgrow _)
        have HI2 := hide (neti_app hbel g1 HG2.out g3 hrowr hown1 hgrow)
        clear hbel g1 g3 hrowr hown1 hgrow hrd e0 e1 e2 hle
        have z1 : (q : Int) - 1 = (n3 : Int) - 1 - ((k + 1 : Nat) : Int) := by omega
        go_wp2
        go_roundw
        case rel => exact ⟨k + 1, _, by omega, by have := HQI.out; go_num, rfl, by rw [HT.out]; exact HI2.out⟩
        case measure => have := HQI.out; simp [intOf] <;> omega
      · obtain rfl : k = n3 := by omega
        have z0 : (k : Int) - 1 - k = -1 := by omega
        rw [z0]
        rw [take_all (by rw [List.length_reverse]; unfold datC; rw [List.length_map]; exact HL3.out)] at hI
        obtain ⟨A6, n6, c6, l6, rfl, s1, s2, s3⟩ := neti_end hI (by rw [List.length_reverse]; unfold datC; rw [List.length_map, HL3.out]; omega)
        have HAB := hide (apply_dperm (a := dat l1) (l := l3) (c := l6) (by rw [s1]; exact List.reverse_perm _))
        have hB06 := bstep hB05 s3
        have hb4 := hb4.step s3
        clear hI s1 s3 z0
        go_wp2_with fail
        refine (Apply_any A1 n1 c1 l1 A3 k c3 l3 wr (h1.step hB06) (h3.step hB06) (ht.below hB06)).mono ?_
        rw [HP1.out]
        rintro e W7 ⟨A7, n7, c7, l7, rfl, hd7, hb7, hc7, hB7⟩
        have hB07 := bstep hB06 hB7
        have hb4 := hb4.step hB7
        have hb6 := s2.step hB7
        clear hB06 hB7 s2
        go_wp2_with fail
        refine (Apply_any A1 n1 c1 l1 A6 n6 c6 l6 W7 (h1.step hB07) hb6 (ht.below hB07)).mono ?_
        rw [HAB.out, HP1.out]
        rintro e W8 ⟨A8, n8, c8, l8, rfl, hd8, hb8, hc8, hB8⟩
        have hB08 := bstep hB07 hB8
        have hb4 := hb4.step hB8
        have hb7 := hb7.step hB8
        have HS := hide (same_dat (c := c7) (c' := c8) hb7 hb8 (by rw [hd7, hd8]))
        clear hB07 hB8 hb6 hb8 hd8
        go_wp2_with fail
        refine HS.out.mono ?_
        rintro e W9 ⟨rfl, hB9⟩
        have hB09 := bstep hB08 hB9
        have hb4 := hb4.step hB9
        have hb7 := hb7.step hB9
        clear hB08 hB9 HS
        go_wp2_with fail
        refine (Apply_any A1 n1 c1 l1 A4 n4 c4 l4 W9 (h1.step hB09) hb4 (ht.below hB09)).mono ?_
        rw [HAP.out, HP1.out]
        rintro e W10 ⟨A10, n10, c10, l10, rfl, hd10, hb10, hc10, hB10⟩
        have hB010 := bstep hB09 hB10
        have hb7 := hb7.step hB10
        have HS := hide (same_dat (c := c7) (c' := c10) hb7 hb10 (by rw [hd7, hd10]))
        clear hB09 hB10 hb4 hb10 hd10
        go_wp2_with fail
        refine HS.out.mono ?_
        rintro e W11 ⟨rfl, hB11⟩
        have hB011 := bstep hB010 hB11
        clear hB010 hB11 HS hb7 hd7
        go_wp2_with fail
        refine (HA.out W11).mono ?_
        rintro e W12 ⟨rfl, hB12⟩
        have HE := hide (bstep hB011 hB12)
        clear hB011 hB12
        go_wp2
        go_ret
        exact ⟨rfl, HE.out⟩
  · have n0 : (F != 0) = true := by simpa using h0
    clear h0 hd4 hb4
    go_wp2_with fail
    refine (HA.out W5).mono ?_
    rintro e W9 ⟨rfl, hB9⟩
    have HE := hide (bstep hB05 hB9)
    clear hB05 hB9
    go_wp2
    go_ret
    exact ⟨rfl, HE.out⟩
end Go.Proofs.YtiioiajcoiaalaaGreatDoor
