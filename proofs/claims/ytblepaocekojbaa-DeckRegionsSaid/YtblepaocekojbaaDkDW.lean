/-
  The walk of deck.Waves, for every valid graph.
-/
import Derived.Test.YtblepaocekojbaaDkRd2
import Derived.Test.YtblepaocekojbaaDkDWM
namespace Go.Proofs.Ytblepaocekojbaa
open Go.RowKit Go.Shelf Go.Deep
attribute [local go_sem] Oper.semAt_some

theorem pr_ne {g : Gr} (hv : validB g = true) (a b : Nat) (h : Pr (wvNum g) g.es a b) : a < wvK g ∧ b < wvK g ∧ a ≠ b := by
  have h1 := pr_lt hv h
  obtain ⟨_, _, _, _, hne⟩ := h
  exact ⟨h1.1, h1.2, hne⟩

set_option maxRecDepth 100000 in
set_option maxHeartbeats 4000000 in
theorem DWaves_ok (g : Gr) (w : World) (hg : g.Ok w w.heap.size) (hv : validB g = true) : Calls Try.prog 27 #[.agg #[g.v1, g.v2]] w (RetWv g w) := by
  have hb := ok_ops hv
  have hbn : g.n2 ≤ 400 := by
    unfold validB at hv
    simp only [Bool.and_eq_true, decide_eq_true_eq] at hv
    exact hv.1.1.2
  have HV := hide hv
  have HPR := hide (pr_ne hv)
  have hK : wvK g ≤ g.n1 := numb_le _ _
  have hB0 : Below w.heap.size w (w.alloc (.cells #[g.v1, g.v2] 30)) := (Below.refl _ _).alloc (Nat.le_refl _) _
  have b0 : Blk (w.alloc (.cells #[g.v1, g.v2] 30)) w.heap.size 30 #[g.v1, g.v2] := Blk.new w _ _
  have hs0 : (w.alloc (.cells #[g.v1, g.v2] 30)).heap.size = w.heap.size + 1 := World.size_alloc _ _
  clear hv
  go_enter Try.func27, Try.ntmps27
  go_wp2_with fail
  obtain ⟨W0, hW0⟩ : ∃ W0, w.alloc (.cells #[g.v1, g.v2] 30) = W0 := ⟨_, rfl⟩
  rw [hW0] at hB0 b0 hs0 ⊢
  clear hW0
  refine (Valid_any g W0 (hg.up hB0) (by omega) (by omega)).mono ?_
  rintro e W1 ⟨rfl, hB1⟩
  rw [HV.out]
  have b1 := b0.below hB1 (by omega)
  have hB01 := bstep hB0 hB1
  clear b0 hB0 hB1 hs0
  have d0 := b1.cell 0
  have d1 := b1.cell 1
  simp at d0 d1
  go_wp2_with fail
  refine (reads_any g W1 (hg.up hB01) HV.out).mono ?_
  rintro e W2 ⟨gr, V, Ls, rfl, hG, hrd, hln, hB2⟩
  have hB02 := bstep hB01 hB2
  have HLN := hide hln
  clear b1 hB01 hB2 d0 d1 hln
  have HKK := hide (rfl : wvK g = wvK g)
  have hrows : ∀ r, r < wvK g → ∃ A c, W2.cell? ⟨gr, r, none⟩ = some (.slice A (Ls r).length c) ∧ Reads W2 W2.heap.size 1 A (Ls r).length ((Ls r).map (Value.int .i64)) := fun r hr => by
    have h1 := hG.row r hr
    have h2 := hG.cell hr
    obtain ⟨A, c, e, hR⟩ := own_form h1
    exact ⟨A, c, by rw [h2, e], hR⟩
  have hgl := hG.lt
  clear hG
  have HMEM := hide (fun r x => hrd r x)
  clear hrd
  obtain ⟨K, hKe⟩ : ∃ K, wvK g = K := ⟨_, rfl⟩
  rw [hKe] at hrows hK HPR ⊢
  have HKE := hide hKe
  clear hKe HKK
  have hmk := fun W => run_make_row' (P := Try.prog) 22 3 (.int .i64 0) 8 Try.underlying22 infoInt_dk rfl .i64 .i64 K (by omega) (by omega) W
  have m7 := World.rowIs_made W2 (.int .i64 0) K 3
  have hB3 : Below W2.heap.size W2 (W2.alloc (.cells (madeCells #[.int .i64 0] K) 3)) := (Below.refl _ _).alloc (Nat.le_refl _) _
  have hs3 : (W2.alloc (.cells (madeCells #[.int .i64 0] K) 3)).heap.size = W2.heap.size + 1 := World.size_alloc _ _
  go_upto_region 5 with fail
  obtain ⟨W3, hW3⟩ : ∃ W3, W2.alloc (.cells (madeCells #[.int .i64 0] K) 3) = W3 := ⟨_, rfl⟩
  rw [hW3] at m7 hB3 hs3 ⊢
  clear hW3 hmk
  obtain ⟨gb, hgb⟩ : ∃ gb, W2.heap.size = gb := ⟨_, rfl⟩
  rw [hgb] at m7 hB3 hs3 hgl hrows ⊢
  have hrows3 : ∀ r, r < K → ∃ A c, W3.cell? ⟨gr, r, none⟩ = some (.slice A (Ls r).length c) ∧ Reads W3 gb 1 A (Ls r).length ((Ls r).map (Value.int .i64)) := fun r hr => by
    obtain ⟨A, c, h1, h2⟩ := hrows r hr
    exact ⟨A, c, (hB3.cell (p := ⟨gr, r, none⟩) hgl).trans h1, h2.below hB3⟩
  have HROW := hide hrows3
  have hwgb : w.heap.size ≤ gb := by rw [← hgb]; exact hB02.size
  have hBw : Below w.heap.size w W3 := hB02.trans (hB3.mono hwgb)
  clear hrows hrows3 hgb hB02 hB3
  go_wp2_with fail
  go_loopw [6, 24] (fun _ i wr => ∃ k : Nat, k ≤ K ∧ i = .int .i64 k ∧ wr.rowIs gb 3 K (fun x => .int .i64 (if x < k then (-1 : Int) else 0)) ∧ Below gb W3 wr) (fun _ i _ => K - (intOf i).toNat)
  case atStart => exact ⟨0, Nat.zero_le _, rfl, m7.congr (fun i _ => by rw [if_neg (by omega)]), Below.refl _ _⟩
  case round =>
    clear m7
    obtain ⟨k, hk, rfl, hrow, hB⟩ := hrel
    by_cases hlt : k < K
    · have ck := hrow.cell hlt
      have fk := hrow.frozen k
      have sk := hrow.set k (.int .i64 (-1))
      have hB2 := hB.setCell (p := ⟨gb, k, none⟩) (Nat.le_refl _) (.int .i64 (-1))
      clear hrow hB
      go_wp2
      go_roundw
      case rel => exact ⟨k + 1, by omega, by go_num, sk.congr (fun i _ => by
        by_cases e : i = k
        · subst e; rw [if_pos rfl, if_pos (by omega)]
        · rw [if_neg e]
          by_cases e2 : i < k
          · rw [if_pos e2, if_pos (by omega)]
          · rw [if_neg e2, if_neg (by omega)]), hB2⟩
      case measure => simp [intOf]; omega
    · obtain rfl : k = K := by omega
      have hrow1 := hrow.congr (g := fun x => .int .i64 ((fun _ => (-1 : Int)) x)) (fun i hi => by rw [if_pos hi])
      clear hrow
      go_wp2_with fail
      go_loopw [7, 8, 9, 10, 11, 13] (fun lf _ _ _ _ _ wx => ∃ O : Nat → Int, lf = .int .i64 (negs k O : Nat) ∧ Asg (Pr (wvNum g) g.es) k O ∧ wx.rowIs gb 3 k (fun x => .int .i64 (O x)) ∧ Below gb W3 wx) (fun lf _ _ _ _ _ _ => (intOf lf).toNat)
      case atStart => exact ⟨fun _ => -1, by rw [negs_all], Asg.start _ _, hrow1, hB⟩
      case round =>
        clear hrow1 hB
        obtain ⟨O, rfl, hasg, hrow, hB⟩ := hrel
        have HASG := hide hasg
        clear hasg
        have hnk := negs_le k O
        obtain ⟨n0, hn0⟩ : ∃ n0, negs k O = n0 := ⟨_, rfl⟩
        rw [hn0] at hnk ⊢
        have HN0 := hide hn0
        clear hn0
        by_cases hpos : 0 < n0
        · go_wp2_with fail
          go_loopw [7, 9, 10, 11, 13, 38] (fun lf _ _ _ _ i wx => ∃ (r : Nat) (T : Nat → Int), r ≤ k ∧ i = .int .i64 (r : Int) ∧ lf = .int .i64 (negs k T : Nat) ∧ Asg (Pr (wvNum g) g.es) k T ∧ negs k T ≤ n0 ∧ (negs k T = n0 → T = O ∧ ∀ q, q < r → O q < 0 → ∃ a, Pr (wvNum g) g.es a q ∧ O a < 0) ∧ wx.rowIs gb 3 k (fun x => .int .i64 (T x)) ∧ Below gb W3 wx) (fun _ _ _ _ _ i _ => k - (intOf i).toNat)
          case atStart => exact ⟨0, O, Nat.zero_le _, rfl, by rw [HN0.out], HASG.out, by rw [HN0.out]; exact Nat.le_refl _, fun _ => ⟨rfl, fun q hq => by omega⟩, hrow, hB⟩
          case round =>
            clear hrow hB
            obtain ⟨r, T, hr, rfl, rfl, hasgT, hleT, hstT, hrow, hB⟩ := hrel
            have HAT := hide hasgT
            have HST := hide hstT
            clear hasgT hstT
            obtain ⟨nT, hnT⟩ : ∃ nT, negs k T = nT := ⟨_, rfl⟩
            rw [hnT] at hleT HST ⊢
            have HNT := hide hnT
            clear hnT
            by_cases hlt2 : r < k
            · obtain ⟨Ar, cr, hcr, hRr⟩ := HROW.out r hlt2
              have hcw := (hB.cell (p := ⟨gr, r, none⟩) hgl).trans hcr
              have hRw := hRr.below hB
              obtain ⟨n, hn⟩ : ∃ n, (Ls r).length = n := ⟨_, rfl⟩
              rw [hn] at hcw hRw
              have hn400 : n ≤ 400 := by rw [← hn]; exact HLN.out r
              have HLR := hide hn
              clear hcr hRr hn
              have hcr := hrow.cell hlt2
              have hge := HAT.out.ge r hlt2
              have HMR := hide (fun x => HMEM.out r x)
              have hWs := hB.size
              go_wp2_with fail
              go_loopw [11, 13, 45] (fun wv _ j wx => ∃ (j' : Nat) (v : Int), j' ≤ n ∧ j = .int .i64 (j' : Int) ∧ wv = .int .i64 v ∧ Wv T ((Ls r).take j') v ∧ wx = wr) (fun _ _ j _ => n - (intOf j).toNat)
              case atStart => exact ⟨0, 0, Nat.zero_le _, rfl, rfl, Wv.nil _, rfl⟩
              case round =>
                obtain ⟨j, v, hj, rfl, rfl, hwv, hw⟩ := hrel
                subst hw
                have HWV := hide hwv
                clear hwv
                by_cases hlt3 : j < n
                · obtain ⟨b1, off, x, ha, hb1, hxk, hcx⟩ := hRw.at1 hlt3
                  obtain ⟨a, hxa, hpr⟩ := (HMR.out x).1 (List.mem_of_getElem? hxk)
                  have hak := (HPR.out a r hpr).1
                  have HWN := hide (fun (h : 0 ≤ T a) => show Wv T ((Ls r).take (j + 1)) (max v (T a + 1)) from by
                    have := HWV.out.snoc (x := x) (by rw [hxa]; simpa using h)
                    rw [take_snoc' hxk]
                    rw [hxa] at this ⊢
                    simpa using this)
                  rw [hxa] at hcx
                  rw [ha]
                  clear ha hxk hxa
                  have ca := hrow.cell hak
                  have hbd := HAT.out.bd a hak
                  have hga := HAT.out.ge a hak
                  obtain ⟨ta, hta⟩ : ∃ ta, T a = ta := ⟨_, rfl⟩
                  rw [hta] at ca hbd hga HWN
                  have HTA := hide hta
                  clear hta
                  by_cases hneg : ta < 0
                  · have HNX := hide (show nT = n0 → T = O ∧ ∀ q, q < r + 1 → O q < 0 → ∃ a, Pr (wvNum g) g.es a q ∧ O a < 0 from fun h => by
                      obtain ⟨h1, h2⟩ := HST.out h
                      refine ⟨h1, fun q hq hO => ?_⟩
                      by_cases e : q = r
                      · subst e
                        exact ⟨a, hpr, by rw [← h1, HTA.out]; exact hneg⟩
                      · exact h2 q (by omega) hO)
                    by_cases hTr : T r < 0
                    · go_wp2
                      go_roundw
                      case rel => exact ⟨r + 1, T, by omega, by go_num, by rw [HNT.out], HAT.out, by rw [HNT.out]; exact hleT, by rw [HNT.out]; exact HNX.out, hrow, hB⟩
                      case measure => simp [intOf]; omega
                    · go_wp2
                      go_roundw
                      case rel => exact ⟨r + 1, T, by omega, by go_num, by rw [HNT.out], HAT.out, by rw [HNT.out]; exact hleT, by rw [HNT.out]; exact HNX.out, hrow, hB⟩
                      case measure => simp [intOf]; omega
                  · have hw1 : IntKind.i64.wrap (ta + 1) = ta + 1 := by rw [IntKind.wrap_i64]; omega
                    have HW2 := hide (HWN.out (by omega))
                    by_cases hmx : v < ta + 1
                    · go_wp2
                      go_roundw
                      case rel => exact ⟨j + 1, ta + 1, by omega, by go_num, rfl, by have := HW2.out; rwa [show max v (ta + 1) = ta + 1 by omega] at this, trivial⟩
                      case measure => simp [intOf]; omega
                    · go_wp2
                      go_roundw
                      case rel => exact ⟨j + 1, v, by omega, by go_num, rfl, by have := HW2.out; rwa [show max v (ta + 1) = v by omega] at this, trivial⟩
                      case measure => simp [intOf]; omega
                · obtain rfl : j = n := by omega
                  have hwv := HWV.out
                  rw [List.take_of_length_le (by rw [HLR.out]; exact Nat.le_refl _)] at hwv
                  have hv0 := hwv.ge
                  by_cases hTr : T r < 0
                  · have hn1 := negs_pos hlt2 hTr
                    have hput := negs_put hlt2 hTr hv0
                    have HPUT := hide (HAT.out.put hlt2 hTr HPR.out (HMEM.out r) hwv)
                    rw [HNT.out] at hn1 hput
                    obtain ⟨n2, hn2⟩ : ∃ n2, negs k (fun x => if x = r then v else T x) = n2 := ⟨_, rfl⟩
                    rw [hn2] at hput
                    have HN2 := hide hn2
                    have fr := hrow.frozen r
                    have sr := hrow.set r (.int .i64 v)
                    have hB4 := hB.setCell (p := ⟨gb, r, none⟩) (Nat.le_refl _) (.int .i64 v)
                    have hw3 : IntKind.i64.wrap ((nT : Int) - 1) = (nT : Int) - 1 := by rw [IntKind.wrap_i64]; omega
                    clear hwv hn2 hrow hB
                    go_wp2
                    go_roundw
                    case rel => exact ⟨r + 1, _, by omega, by go_num, by rw [HN2.out]; congr 1; omega, HPUT.out, by rw [HN2.out]; omega, fun h => by rw [HN2.out] at h; omega, sr.congr (fun i _ => by
                      by_cases e : i = r
                      · rw [if_pos e, if_pos e]
                      · rw [if_neg e, if_neg e]), hB4⟩
                    case measure => simp [intOf]; omega
                  · have HNX := hide (show nT = n0 → T = O ∧ ∀ q, q < r + 1 → O q < 0 → ∃ a, Pr (wvNum g) g.es a q ∧ O a < 0 from fun h => by
                      obtain ⟨h1, h2⟩ := HST.out h
                      refine ⟨h1, fun q hq hO => ?_⟩
                      by_cases e : q = r
                      · subst e
                        rw [← h1] at hO
                        exact absurd hO hTr
                      · exact h2 q (by omega) hO)
                    clear hwv
                    go_wp2
                    go_roundw
                    case rel => exact ⟨r + 1, T, by omega, by go_num, by rw [HNT.out], HAT.out, by rw [HNT.out]; exact hleT, by rw [HNT.out]; exact HNX.out, hrow, hB⟩
                    case measure => simp [intOf]; omega
            · obtain rfl : r = k := by omega
              by_cases heq : nT = n0
              · have hst := HST.out heq
                have hno := stuck HPR.out (O := O) (fun q hq hO => hst.2 q hq hO) (by rw [HN0.out]; exact hpos)
                have HR := hide (show RetWv g w (.returned (.tuple #[.slice none 0 0, .int .i64 10])) wr from .inr ⟨hno, none, 0, rfl, Reads.none_, hBw.trans (hB.mono hwgb)⟩)
                subst heq
                clear hrow hB hst hno
                go_wp2
                go_ret2
                exact HR.out
              · have n1 : ((nT : Int) == (n0 : Int)) = false := by simp; omega
                have HEQ := hide heq
                clear heq
                go_wp2
                go_roundw
                case rel => exact ⟨T, by rw [HNT.out], HAT.out, hrow, hB⟩
                case measure =>
                  have := HEQ.out
                  simp [intOf]; omega
        · obtain rfl : n0 = 0 := by omega
          have hwv := HASG.out.wave HN0.out HPR.out
          have hall := negs_none HN0.out
          have HR := hide (show RetWv g w (.returned (.tuple #[.slice (some ⟨gb, 0, none⟩) k k, .int .i64 0])) wr from by
            refine .inl ⟨_, hwv, ?_⟩
            rw [HKE.out]
            have hrow2 := hrow.congr (g := fun x => .int .i64 (((if x < k then (O x).toNat else 0 : Nat)) : Int)) (fun i hi => by
              rw [if_pos hi]
              have := hall i hi
              congr 1; omega)
            exact ⟨some ⟨gb, 0, none⟩, k, rfl, reads_rowIs hrow2, hBw.trans (hB.mono hwgb)⟩)
          clear hrow hB hwv hall
          go_wp2
          go_ret2
          exact HR.out
end Go.Proofs.Ytblepaocekojbaa
