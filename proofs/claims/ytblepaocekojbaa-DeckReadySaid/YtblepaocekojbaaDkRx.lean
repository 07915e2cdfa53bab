/-
  The law DeckReady: the walk, for every input that is looked at.
-/
import Derived.Test.YtblepaocekojbaaDkRwF
import Derived.Deep.CutRange
import Derived.Test.YtblepaocekojbaaDkOpen
namespace Go.Proofs.Ytblepaocekojbaa
open Go.RowKit Go.Shelf Go.Deep
attribute [local go_sem] Oper.semAt_some

theorem rowL_ints (K : Nat) (W : Nat → Nat) : ((List.range K).map fun x => ((W x : Nat) : Int)).map (Value.int .i64) = rowL K fun x => .int .i64 ((W x : Nat) : Int) := by simp [rowL]

/-- The loop over the waves: what is known of memory at its head. -/
structure NowAt (g : Gr) (W : Nat → Nat) (B n : Nat) (v : Value) (w : World) : Prop where
  row : w.ownsRow B 3 1 v (dnW g W n).length (intsL (dnW g W n))

set_option maxRecDepth 100000 in
set_option maxHeartbeats 8000000 in
theorem deckReady_near (g : Gr) (A1 : Option Addr) (m1 c1 : Nat) (dn : List Int) (w : World) (hg : g.Ok w w.heap.size)
    (hf : Reads w w.heap.size 1 A1 m1 (dn.map (Value.int .i64)))
    (hm1 : m1 ≤ 60) (hh : heavyB g = false) :
    Calls Try.prog 6 #[.agg #[g.v1, g.v2], .slice A1 m1 c1] w (RetV w (.bool true)) := by
  have hn : g.n1 ≤ 300 ∧ g.n2 ≤ 60 := by
    unfold heavyB at hh
    simp only [Bool.or_eq_false_iff, decide_eq_false_iff_not] at hh
    omega
  obtain ⟨hn1, hn2⟩ := hn
  obtain ⟨i0, hi, hz0, hz1, hz2⟩ := info_parts infoInt_dk
  have hB0 : Below w.heap.size w (w.alloc (.cells #[g.v1, g.v2] 25)) := (Below.refl _ _).alloc (Nat.le_refl _) _
  have b0 : Blk (w.alloc (.cells #[g.v1, g.v2] 25)) w.heap.size 25 #[g.v1, g.v2] := Blk.new w _ _
  have hs0 : (w.alloc (.cells #[g.v1, g.v2] 25)).heap.size = w.heap.size + 1 := World.size_alloc _ _
  have HH := hide hh
  clear hh
  go_enter Try.func6, Try.ntmps6
  go_wp2_with fail
  obtain ⟨W0, hW0⟩ : ∃ W0, w.alloc (.cells #[g.v1, g.v2] 25) = W0 := ⟨_, rfl⟩
  rw [hW0] at hB0 b0 hs0 ⊢
  clear hW0
  refine (awake_any W0).mono ?_
  rintro e W1 ⟨rfl, hB1⟩
  have b1 := b0.below hB1 (by omega)
  have hB01 := bstep hB0 hB1
  have hs1 : w.heap.size < W1.heap.size := by have := hB1.size; omega
  clear b0 hB0 hs0 hB1
  have d0 := b1.cell 0
  have d1 := b1.cell 1
  simp at d0 d1
  go_wp2_with fail
  refine (heavy_any g W1).mono ?_
  rintro e W2 ⟨rfl, hB2⟩
  rw [HH.out]
  have b2 := b1.below hB2 hs1
  have hB02 := bstep hB01 hB2
  have hs2 := Nat.lt_of_lt_of_le hs1 hB2.size
  clear hB01 hB2 b1 d0 d1 hs1
  have d0 := b2.cell 0
  have d1 := b2.cell 1
  simp at d0 d1
  go_wp2_with fail
  refine (made_any g W2 (hg.up hB02) (by omega) (by omega)).mono ?_
  rintro e W3 ⟨g', hlike, rfl, hg3, hB3⟩
  rw [show g'.v1 = .slice g'.a1 g'.n1 g'.c1 from rfl, show g'.v2 = .slice g'.a2 g'.n2 g'.c2 from rfl]
  have HLK := hide hlike
  have hgn1 : g'.n1 ≤ 300 := by have := hlike.n1; omega
  have hgn2 : g'.n2 ≤ 60 := by have := hlike.n2; omega
  have b3 := b2.below hB3 hs2
  have hB03 := bstep hB02 hB3
  have hs3 := Nat.lt_of_lt_of_le hs2 hB3.size
  clear hB02 hB3 b2 d0 d1 hs2 hlike
  have x4 := Blk.new W3 30 #[.slice g'.a1 g'.n1 g'.c1, .slice g'.a2 g'.n2 g'.c2]
  have hB4 : Below W3.heap.size W3 (W3.alloc (.cells #[.slice g'.a1 g'.n1 g'.c1, .slice g'.a2 g'.n2 g'.c2] 30)) := (Below.refl _ _).alloc (Nat.le_refl _) _
  have hs4 : (W3.alloc (.cells #[.slice g'.a1 g'.n1 g'.c1, .slice g'.a2 g'.n2 g'.c2] 30)).heap.size = W3.heap.size + 1 := World.size_alloc _ _
  obtain ⟨xs, E, hof, hxl, hone⟩ := ry_one g dn
  have HONE := hide hone
  clear hof hone
  go_upto_region 6 with fail
  obtain ⟨W4, hW4⟩ : ∃ W4, W3.alloc (.cells #[.slice g'.a1 g'.n1 g'.c1, .slice g'.a2 g'.n2 g'.c2] 30) = W4 := ⟨_, rfl⟩
  rw [hW4] at x4 hB4 hs4 ⊢
  clear hW4
  obtain ⟨bx, hbx⟩ : ∃ bx, W3.heap.size = bx := ⟨_, rfl⟩
  rw [hbx] at x4 hs4 ⊢
  have hxw : w.heap.size < bx := by rw [← hbx]; exact hs3
  have b4 := b3.below hB4 hs3
  have hB04 := bstep hB03 hB4
  have hg4 := hg3.up hB4
  have hs4' : bx < W4.heap.size := by omega
  clear hB03 hB4 b3 hs3 hg3 hbx hs4
  have d0 := x4.cell 0
  have d1 := x4.cell 1
  simp at d0 d1
  go_wp2_with fail
  refine (DReady_any g' A1 m1 c1 dn W4 hg4 (hf.up hB04) (by omega) (by omega) (by omega)).mono ?_
  intro e W5 hret
  obtain ⟨Aa, ca, rfl, ha, hB5⟩ := HONE.out _ _ _ ((HLK.out.retRA dn _ _ _).1 hret)
  clear hret
  have b5 := b4.below hB5 (by omega)
  have x5 := x4.below hB5 hs4'
  have hB05 := bstep hB04 hB5
  have hg5 := hg4.up hB5
  have hs5 := Nat.lt_of_lt_of_le hs4' hB5.size
  clear hB04 hB5 b4 x4 d0 d1 hs4' hg4
  have d0 := b5.cell 0
  have d1 := b5.cell 1
  simp at d0 d1
  go_wp2_with fail
  refine (RReady_any g A1 m1 c1 dn W5 (hg.up hB05) (hf.up hB05) (by omega) (by omega) (by omega)).mono ?_
  intro e W6 hret
  obtain ⟨Ab, cb, rfl, hb, hB6⟩ := HONE.out _ _ _ hret
  clear hret
  have b6 := b5.below hB6 (by omega)
  have x6 := x5.below hB6 hs5
  have hB06 := bstep hB05 hB6
  have hg6 := hg5.up hB6
  have ha6 := ha.up hB6
  have hs6 := Nat.lt_of_lt_of_le hs5 hB6.size
  clear hB05 hB6 b5 x5 d0 d1 hs5 hg5 ha
  have hEE : (E != E) = false := by simp
  go_wp2_with fail
  refine (SameInts_any _ _ _ _ _ _ _ _ xs xs _ ha6 hb (by omega) (by omega)).mono ?_
  rintro e W7 ⟨rfl, q7, hq7⟩
  rw [show decide (xs = xs) = true from by simp]
  have hB67 : Below W6.heap.size W6 W7 := by rw [hq7]; exact below_drewN (Below.refl _ _) q7
  have b7 := b6.below hB67 (by omega)
  have x7 := x6.below hB67 hs6
  have hB07 := bstep hB06 hB67
  have hg7 := hg6.up hB67
  have hs7 := Nat.lt_of_lt_of_le hs6 hB67.size
  clear hB06 hB67 b6 x6 hs6 hg6 ha6 hb hq7
  obtain ⟨ys, EW, hof, hyl, hone⟩ := wv_one g
  have HWV := hide hone
  have HOF := hide hof
  clear hone hof
  have d0 := x7.cell 0
  have d1 := x7.cell 1
  simp at d0 d1
  go_wp2_with fail
  refine (Waves_any g' W7 hg7 (by omega) (by omega)).mono ?_
  intro e W8 hret
  obtain ⟨Aw, cw, rfl, hw, hB8⟩ := HWV.out _ _ _ ((HLK.out.retW _ _ _).1 hret)
  clear hret
  have b8 := b7.below hB8 (by omega)
  have x8 := x7.below hB8 hs7
  have hB08 := bstep hB07 hB8
  have hg8 := hg7.up hB8
  have hs8 := Nat.lt_of_lt_of_le hs7 hB8.size
  clear hB07 hB8 b7 x7 d0 d1 hs7 hg7
  have d0 := b8.cell 0
  have d1 := b8.cell 1
  simp at d0 d1
  go_wp2_with fail
  refine (RRegions_any g W8 (hg.up hB08) (by omega) (by omega)).mono ?_
  rintro e W9 ⟨Ar, cr, rfl, hr, hB9⟩
  have b9 := b8.below hB9 (by omega)
  have x9 := x8.below hB9 hs8
  have hB09 := bstep hB08 hB9
  have hg9 := hg8.up hB9
  have hw9 := hw.up hB9
  have hs9 := Nat.lt_of_lt_of_le hs8 hB9.size
  clear hB08 hB9 b8 x8 d0 d1 hs8 hg8 hw
  by_cases hEW : EW = 0
  case neg =>
    have n1 : (EW != 0) = true := by simpa using hEW
    have HE := hide hB09
    clear b9 x9 hg9 hw9 hB09 hr
    go_wp2
    go_ret
    exact ⟨rfl, HE.out⟩
  subst hEW
  obtain ⟨hv, W, hW, hys⟩ : validB g = true ∧ ∃ W, IsWave (Pr (wvNum g) g.es) W ∧ ys = (List.range (wvK g)).map fun x => ((W x : Nat) : Int) := by
    have h0 := HOF.out
    generalize hz : (0 : Int) = z at h0
    cases h0 with
    | bad h => omega
    | no h hn => omega
    | yes h W hW => exact ⟨h, W, hW, rfl⟩
  have HW := hide hW
  have HV := hide hv
  have HV' := hide (HLK.out.valid.trans hv)
  have hb1 := ok_ops hv
  have hK1 : wvK g ≤ g.n1 := numb_le _ _
  have hKp : 0 < wvK g := numb_pos (Lab.labs g.es) hb1.1
  have HNK := hide (show ∀ i, i < g.n1 → wvNum g i < wvK g from fun i (h : i < g.n1) => numOf_num (Lab.labs g.es) h)
  have HRN := hide (show regE g = 0 from by simp [regE, hv])
  rw [show regN g = g.n1 from by simp [regN, hv], show regL g = rowL g.n1 (fun i => .int .i64 ((wvNum g i : Nat) : Int)) from by simp [regL, hv, wvNum]] at hr
  rw [show regN g = g.n1 from by simp [regN, hv], HRN.out]
  have hyl' : ys.length = wvK g := by rw [hys]; simp
  rw [hyl', hys, rowL_ints] at hw9
  rw [hyl']
  clear hv hW hys hyl'
  obtain ⟨br, offr, rfl, hbr, hrc⟩ := reads_row hr (by omega)
  obtain ⟨bw, offw, rfl, hbw, hwc⟩ := reads_row hw9 hKp
  have HRC := hide hrc
  have HWC := hide hwc
  have HE0 := hide hB09
  have B0 := hide (dnW_zero g W)
  clear hr hw9 hrc hwc hB09
  obtain ⟨K, hKe⟩ : ∃ K, wvK g = K := ⟨_, rfl⟩
  have HKE := hide hKe
  rw [hKe] at HNK hK1 hKp HWC ⊢
  clear hKe
  go_wp2_with fail
  go_loopw [12, 13] (fun v i wr => ∃ n : Nat, n ≤ K + 1 ∧ i = .int .i64 n ∧ NowAt g W W9.heap.size n v wr ∧ Below W9.heap.size W9 wr) (fun _ i _ => K + 1 - (intOf i).toNat)
  case atStart => exact ⟨0, Nat.zero_le _, rfl, ⟨by rw [B0.out]; exact World.ownsRow_nil _ _ _ _⟩, Below.refl _ _⟩
  case round =>
    obtain ⟨n, hn, rfl, ⟨hrow⟩, hB⟩ := hrel
    have hlen := tkn_len (fun t => decide (W (wvNum g t) < n)) g.n1
    rw [show tkn (fun t => decide (W (wvNum g t) < n)) g.n1 = dnW g W n from rfl] at hlen
    by_cases hlt : n ≤ K
    · obtain ⟨An, cn, rfl, hRn⟩ := own_form hrow
      have x10 := x9.below hB hs9
      have hg10 := hg9.up hB
      have HER := hide (dnW_err HV.out W n)
      have hs10 := Nat.lt_of_lt_of_le hs9 hB.size
      have d0 := x10.cell 0
      have d1 := x10.cell 1
      simp at d0 d1
      go_wp2_with fail
      refine (DReady_any g' An _ cn (dnW g W n) wr hg10 hRn (by omega) (by omega) (by omega)).mono ?_
      intro e W10 hret
      obtain ⟨Ad, cd, rfl, hd, hB10⟩ := dnW_ret HV.out W n ((HLK.out.retRA _ _ _ _).1 hret)
      have hlr := tkn_len (rdy g (dnW g W n)) (wvK g)
      have HRD := hide (show ∀ p, p < K → W p = n → hasB (tkn (rdy g (dnW g W n)) (wvK g)) (p : Int) = true from fun p hp hp2 => by
        rw [has_tkn (by rw [HKE.out]; exact hp)]
        exact dnW_rdy HV.out HW.out hp2)
      obtain ⟨rl, hrl⟩ : ∃ rl, tkn (rdy g (dnW g W n)) (wvK g) = rl := ⟨_, rfl⟩
      rw [hrl] at hd hlr HRD ⊢
      rw [HKE.out] at hlr
      clear hret hrl d0 d1 hRn
      have hB1 : Below W9.heap.size W9 W10 := bstep hB hB10
      have hrow1 := own_below hrow hB10
      clear hrow hB hB10 hg10 x10 hs10
      go_wp2_with fail
      go_loopw [16] (fun i wr => ∃ k : Nat, k ≤ K ∧ i = .int .i64 k ∧ Below W10.heap.size W10 wr) (fun i _ => K - (intOf i).toNat)
      case atStart => exact ⟨0, Nat.zero_le _, rfl, Below.refl _ _⟩
      case round =>
        obtain ⟨k, hk, rfl, hB⟩ := hrel
        have hB2 := bstep hB1 hB
        by_cases hlt2 : k < K
        · have ck := (hB2.cell (p := ⟨bw, offw + k, none⟩) hbw).trans (HWC.out k hlt2)
          have hdr := hd.below hB
          have hrd := HRD.out k hlt2
          obtain ⟨x, hx⟩ : ∃ x, W k = x := ⟨_, rfl⟩
          rw [hx] at ck hrd
          clear hx hB2
          have q1 : (0 : Int) ≤ (k : Int) := by omega
          have q2 : (k : Int) < (K : Int) := by omega
          by_cases hxn : x = n
          · have n1 : ((x : Int) == (n : Int)) = true := by simp; omega
            have HRK := hide (hrd hxn)
            clear hrd
            go_wp2_with fail
            refine (Has_any _ _ _ _ rl _ _ hdr (by omega)).mono ?_
            rintro ee w' ⟨rfl, rfl⟩
            rw [HRK.out]
            go_wp2
            go_roundw
            case rel => exact ⟨k + 1, by omega, by go_num, hB⟩
            case measure => simp [intOf]; omega
          · have n1 : ((x : Int) == (n : Int)) = false := by simp; omega
            clear hrd hdr
            go_wp2
            go_roundw
            case rel => exact ⟨k + 1, by omega, by go_num, hB⟩
            case measure => simp [intOf]; omega
        · obtain rfl : k = K := by omega
          have hrow2 := own_below hrow1 hB
          have HNX := hide (fun ys => dnW_next (g := g) (W := W) (n := n) (ys := ys))
          obtain ⟨W11, hW11⟩ : ∃ W11, wr = W11 := ⟨_, rfl⟩
          have HS0 := hide (show nwW g W n 0 = [] from rfl)
          rw [hW11] at hB2 hrow2 ⊢
          clear hB hB1 hrow1 hd hW11
          have hsz := hB2.size
          go_wp2_with fail
          go_loopw [12, 17] (fun v i wr => ∃ t : Nat, t ≤ g.n1 ∧ i = .int .i64 t ∧ wr.ownsRow W9.heap.size 3 1 v (dnW g W n ++ nwW g W n t).length (intsL (dnW g W n ++ nwW g W n t)) ∧ Below W9.heap.size W9 wr) (fun _ i _ => g.n1 - (intOf i).toNat)
          case atStart => exact ⟨0, Nat.zero_le _, rfl, by rw [HS0.out, List.append_nil]; exact hrow2, hB2⟩
          case round =>
            clear hB2 hrow2 hsz
            obtain ⟨t, ht, rfl, hrow, hB⟩ := hrel
            have hsz := hB.size
            have hlen2 := tkn_len (fun t => decide (W (wvNum g t) = n)) t
            rw [show tkn (fun t => decide (W (wvNum g t) = n)) t = nwW g W n t from rfl] at hlen2
            obtain ⟨q, hq⟩ : ∃ q, (dnW g W n ++ nwW g W n t).length = q := ⟨_, rfl⟩
            have hq6 : q ≤ 600 := by rw [← hq, List.length_append]; omega
            rw [hq] at hrow
            have HQ := hide hq
            clear hq hlen2
            by_cases hlt3 : t < g.n1
            · have ct := (hB.cell (p := ⟨br, offr + t, none⟩) hbr).trans (HRC.out t hlt3)
              have hxk := HNK.out t hlt3
              have cw' := (hB.cell (p := ⟨bw, offw + wvNum g t, none⟩) hbw).trans (HWC.out _ hxk)
              have HT := hide (tkn_succ (fun t => decide (W (wvNum g t) = n)) t)
              obtain ⟨x, hx⟩ : ∃ x, wvNum g t = x := ⟨_, rfl⟩
              rw [hx] at ct cw' hxk HT
              obtain ⟨y, hy⟩ : ∃ y, W x = y := ⟨_, rfl⟩
              rw [hy] at cw' HT
              clear hx hy
              have q1 : (0 : Int) ≤ (t : Int) := by omega
              have q2 : (t : Int) < (g.n1 : Int) := by omega
              have q3 : ¬ (x : Int) < 0 := by omega
              have q4 : ¬ (k : Int) ≤ (x : Int) := by omega
              have q5 : (x : Int) < (k : Int) := by omega
              have q6 : (0 : Int) ≤ (x : Int) := by omega
              have q7 : decide ((x : Int) < 0) = false := by simp
              have q8 : decide ((k : Int) ≤ (x : Int)) = false := by simp; omega
              by_cases hyn : y = n
              · have n1 : ((y : Int) == (n : Int)) = true := by simp; omega
                have HT2 := hide (show nwW g W n (t + 1) = nwW g W n t ++ [(t : Int)] from by have h := HT.out; rw [if_pos (by simpa using hyn)] at h; exact h)
                clear HT hyn
                go_wp2_with (at_builtin; refine wpList_append_own _ rfl _ _ 22 rfl W9.heap.size 3 i0 _ 1 8 Try.underlying22 hi hz0 hz1 hz2 rfl (by decide) _ _ _ rfl (hrow.alloc _) ⟨wr.heap.size, 0, none⟩ 1 1 [.int .i64 (t : Int)] rfl rfl (cells_new _ _ _) (by simp [Value.oneCell']) (by unfold maxLen; omega) (by omega) (by simp; omega) ?_; intro v' w1 hown' hgrow _)
                go_roundw
                case rel => exact ⟨t + 1, by omega, by go_num, by rw [HT2.out, ← List.append_assoc, intsL_snoc, List.length_append, HQ.out]; exact hown', below_append (hB.alloc hsz _) (hrow.alloc _) (by simp; omega) hgrow⟩
                case measure => simp [intOf]; omega
              · have n1 : ((y : Int) == (n : Int)) = false := by simp; omega
                have HT2 := hide (show nwW g W n (t + 1) = nwW g W n t from by have h := HT.out; rw [if_neg (by simpa using hyn)] at h; exact h)
                clear HT hyn
                go_wp2
                go_roundw
                case rel => exact ⟨t + 1, by omega, by go_num, by rw [HT2.out, HQ.out]; exact hrow, hB⟩
                case measure => simp [intOf]; omega
            · obtain rfl : t = g.n1 := by omega
              obtain ⟨An2, cn2, rfl, hRn2⟩ := own_form hrow
              go_wp2_with fail
              refine (Sorted_any An2 q cn2 _ _ wr hRn2 (Nat.le_refl _) (by omega)).mono ?_
              rintro e W12 ⟨zs, hzp, hzs, A3, c3, rfl, hown3, hB3⟩
              have hze := HNX.out zs hzp hzs
              subst hze
              have hq' : q = (dnW g W (n + 1)).length := by rw [← HQ.out]; exact hzp.length_eq.symm
              have HEND := hide (show NowAt g W W9.heap.size (n + 1) (.slice A3 q c3) W12 from ⟨by rw [← hq']; exact own_mono hown3 hB.size⟩)
              have HEB := hide (bstep hB hB3)
              clear hown3 hq' hzp hzs hRn2 hrow hB hB3
              go_wp2
              go_roundw
              case rel => exact ⟨n + 1, by omega, by go_num, HEND.out, HEB.out⟩
              case measure => simp [intOf]; omega
    · obtain rfl : n = K + 1 := by omega
      obtain ⟨An, cn, rfl, hRn⟩ := own_form hrow
      have hfull : (dnW g W (K + 1)).length = g.n1 := by rw [← HKE.out]; exact dnW_full HV.out HW.out
      have HE := hide (bstep HE0.out hB)
      have d0 : wr.cell? ⟨w.heap.size, 0, none⟩ = some (.slice g.a1 g.n1 g.c1) := (hB.cell (p := ⟨w.heap.size, 0, none⟩) (by show w.heap.size < _; omega)).trans (b9.cell 0)
      rw [hfull]
      have n1 : ((g.n1 : Int) == (g.n1 : Int)) = true := by simp
      clear hRn hrow hB hfull
      go_wp2
      go_ret
      exact ⟨rfl, HE.out⟩

theorem deckReady_all (g : Gr) (A1 : Option Addr) (m1 c1 : Nat) (dn : List Int) (w : World) (hg : g.Ok w w.heap.size)
    (hf : Reads w w.heap.size 1 A1 m1 (dn.map (Value.int .i64))) (hm1 : m1 ≤ 9223372036854775807) :
    Calls Try.prog 6 #[.agg #[g.v1, g.v2], .slice A1 m1 c1] w (RetV w (.bool true)) := by
  by_cases h : heavyB g = true ∨ 60 < m1
  · exact deckReady_far g A1 m1 c1 w hm1 h
  · exact deckReady_near g A1 m1 c1 dn w hg hf (by omega) (by simpa using fun h' => h (.inl h'))
end Go.Proofs.Ytblepaocekojbaa
