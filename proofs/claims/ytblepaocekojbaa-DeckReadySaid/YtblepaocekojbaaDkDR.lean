/-
  The walk of deck.Ready, for every graph and tasks.
-/
import Derived.Test.YtblepaocekojbaaDkDRa
import Derived.Test.YtblepaocekojbaaDkRz
namespace Go.Proofs.Ytblepaocekojbaa
open Go.RowKit Go.Shelf Go.Deep
attribute [local go_sem] Oper.semAt_some

set_option maxRecDepth 100000 in
set_option maxHeartbeats 4000000 in
theorem DReady_any (g : Gr) (A1 : Option Addr) (m1 c1 : Nat) (dn : List Int) (w : World) (hg : g.Ok w w.heap.size) (hf : Reads w w.heap.size 1 A1 m1 (dn.map (Value.int .i64)))
    (hm1 : m1 ≤ 4611686018427387904) (hn1 : g.n1 ≤ 4611686018427387904) (hn2 : g.n2 ≤ 4611686018427387904) :
    Calls Try.prog 32 #[.agg #[g.v1, g.v2], .slice A1 m1 c1] w (RetRA g dn w) := by
  obtain ⟨i0, hi, hz0, hz1, hz2⟩ := info_parts infoInt_dk
  have hB0 : Below w.heap.size w (w.alloc (.cells #[g.v1, g.v2] 30)) := (Below.refl _ _).alloc (Nat.le_refl _) _
  have b0 : Blk (w.alloc (.cells #[g.v1, g.v2] 30)) w.heap.size 30 #[g.v1, g.v2] := Blk.new w _ _
  have hs0 : (w.alloc (.cells #[g.v1, g.v2] 30)).heap.size = w.heap.size + 1 := World.size_alloc _ _
  go_enter Try.func32, Try.ntmps32
  go_wp2_with fail
  obtain ⟨W0, hW0⟩ : ∃ W0, w.alloc (.cells #[g.v1, g.v2] 30) = W0 := ⟨_, rfl⟩
  rw [hW0] at hB0 b0 hs0 ⊢
  clear hW0
  refine (Valid_any g W0 (hg.up hB0) hn1 hn2).mono ?_
  rintro e W1 ⟨rfl, hB1⟩
  have b1 := b0.below hB1 (by omega)
  have hB01 := bstep hB0 hB1
  have hs1 : w.heap.size < W1.heap.size := by have := hB1.size; omega
  clear b0 hB0 hB1 hs0
  cases hv : validB g
  · have HR := hide (show RetRA g dn w (.returned (.tuple #[.slice none 0 0, .int .i64 1])) W1 from .inl ⟨by simp [errR, hv], none, 0, by simp [errR, hv], Reads.none_, hB01⟩)
    clear hv b1 hB01
    go_wp2
    go_ret2
    exact HR.out
  have HV := hide hv
  have hb := ok_ops hv
  clear hv
  go_wp2_with fail
  refine (ascends_any A1 m1 c1 _ dn W1 (hf.up hB01) (by omega)).mono ?_
  rintro e W2 ⟨rfl, q1, hq⟩
  have hBs : Below W1.heap.size W1 W2 := by rw [hq]; exact below_drewN (Below.refl _ _) q1
  clear hq
  have b2 := b1.below hBs hs1
  have hB02 := bstep hB01 hBs
  have hs2 : w.heap.size < W2.heap.size := by have := hBs.size; omega
  clear b1 hB01 hBs hs1
  cases ha : ascB dn
  · have HR := hide (show RetRA g dn w (.returned (.tuple #[.slice none 0 0, .int .i64 1])) W2 from .inl ⟨by simp [errR, ha], none, 0, by simp [errR, ha], Reads.none_, hB02⟩)
    clear ha b2 hB02
    go_wp2
    go_ret2
    exact HR.out
  have HA := hide ha
  clear ha
  have d0 := b2.cell 0
  have d1 := b2.cell 1
  simp at d0 d1
  go_wp2_with fail
  refine (tasks_any g A1 m1 c1 _ dn W2 (hf.up hB02) (Nat.le_refl _) (by omega)).mono ?_
  rintro e W3 ⟨rfl, hW3⟩
  have hB23 : Below W2.heap.size W2 W3 := by rw [hW3]; exact (Below.refl _ _).alloc (Nat.le_refl _) _
  clear hW3 d0 d1
  have b3 := b2.below hB23 hs2
  have hB03 := bstep hB02 hB23
  have hs3 : w.heap.size < W3.heap.size := by have := hB23.size; omega
  clear b2 hB02 hB23 hs2
  cases ho : dn.any (outT g.n1)
  · have HO := hide ho
    have HE := hide (show errR g dn = 0 from by simp [errR, HV.out, HA.out, ho])
    clear ho
    have hbn : g.n2 ≤ 400 := by
      have hv := HV.out
      unfold validB at hv
      simp only [Bool.and_eq_true, decide_eq_true_eq] at hv
      exact hv.1.1.2
    have HL2 := hide (hg.r2.len encEd_len (by omega))
    have HNK := hide (fun i (h : i < g.n1) => numOf_num (Lab.labs g.es) h)
    have hK : numb (labs g.es) g.n1 ≤ g.n1 := numb_le _ _
    have d0 := b3.cell 0
    have d1 := b3.cell 1
    simp at d0 d1
    go_wp2_with fail
    refine (regions_any g W3 (hg.up hB03) HV.out).mono ?_
    rintro e W4 ⟨Ar, cr, rfl, hr, hB4⟩
    rw [nums_row] at hr
    obtain ⟨ar, offr, rfl, har, hrc⟩ := reads_row hr (by omega)
    have b4 := b3.below hB4 hs3
    have hB04 := bstep hB03 hB4
    have hs4 : w.heap.size < W4.heap.size := by have := hB4.size; omega
    have HRC := hide hrc
    clear hr hrc b3 hB03 hB4 hs3 d0 d1
    go_wp2_with fail
    refine (Max_any (labs g.es) (Lab.labs _) g.n1 cr ar offr W4 (by omega) (by omega) HRC.out).mono ?_
    rintro e W5 ⟨rfl, rfl⟩
    have HKK := hide (show numb (labs g.es) g.n1 = wvK g from rfl)
    have hK1 := numb_pos (Lab.labs g.es) hb.1
    obtain ⟨K, hKe⟩ : ∃ K, numb (labs g.es) g.n1 = K := ⟨_, rfl⟩
    rw [hKe] at HKK hK HNK hK1 ⊢
    clear hKe
    have hk3 : (K : Int) - 1 + 1 = (K : Int) := by omega
    have hmk := fun W => run_make_row' (P := Try.prog) 22 3 (.int .i64 0) 8 Try.underlying22 infoInt_dk rfl .i64 .i64 K (by omega) (by omega) W
    have m1' := World.rowIs_made W4 (.int .i64 0) K 3
    have m2' := World.rowIs_made ((W4.alloc (.cells (madeCells #[.int .i64 0] K) 3)).alloc (.cells #[.slice (some ⟨W4.heap.size, 0, none⟩) K K] 22)) (.int .i64 0) K 3
    have nb := Blk.new (W4.alloc (.cells (madeCells #[.int .i64 0] K) 3)) 22 #[.slice (some ⟨W4.heap.size, 0, none⟩) K K]
    rw [World.size_alloc] at m2' nb
    rw [World.size_alloc] at m2'
    go_upto_region 8 with fail
    obtain ⟨W7, hW7⟩ : ∃ W7, ((W4.alloc (.cells (madeCells #[.int .i64 0] K) 3)).alloc (.cells #[.slice (some ⟨W4.heap.size, 0, none⟩) K K] 22)).alloc (.cells (madeCells #[.int .i64 0] K) 3) = W7 := ⟨_, rfl⟩
    have hB7 : Below W4.heap.size W4 W7 := by
      rw [← hW7]
      exact (((Below.refl _ _).alloc (Nat.le_refl _) _).alloc (by simp) _).alloc (by simp; omega) _
    have ri := (m1'.alloc (.cells #[.slice (some ⟨W4.heap.size, 0, none⟩) K K] 22)).alloc (.cells (madeCells #[.int .i64 0] K) 3)
    have rb := nb.alloc (.cells (madeCells #[.int .i64 0] K) 3)
    have s7 : W7.heap.size = W4.heap.size + 3 := by rw [← hW7]; simp
    rw [hW7] at ri rb m2' ⊢
    clear hW7 m1' nb hmk
    obtain ⟨gi, zi⟩ : ∃ gi, gi = W4.heap.size := ⟨_, rfl⟩
    obtain ⟨bx, zb⟩ : ∃ bx, bx = W4.heap.size + 1 := ⟨_, rfl⟩
    obtain ⟨ga, za⟩ : ∃ ga, ga = W4.heap.size + 1 + 1 := ⟨_, rfl⟩
    rw [← za, ← zb, ← zi]
    rw [← zb] at rb
    rw [← zi] at ri rb har
    rw [← za] at m2'
    have hB7' : Below gi W4 W7 := by rw [zi]; exact hB7
    have y1 : gi < bx ∧ bx < ga ∧ ga < W7.heap.size := by omega
    have y2 : w.heap.size < gi := by omega
    have hBw : Below w.heap.size w W7 := hB04.trans (hB7'.mono (by omega))
    have HOM := hide (fun i (h : i < g.n1) => (hB7'.cell (p := ⟨ar, offr + i, none⟩) har).trans (HRC.out i h))
    have b7 := b4.below hB7' y2
    have hg7 := hg.up hBw
    have hf7 := hf.up hBw
    clear b4 hB04 hB7 hB7' zi zb za s7 HRC hs4
    go_wp2_with fail
    go_loopw [9, 10, 41] (fun _ _ i wr => ∃ k : Nat, k ≤ g.n1 ∧ i = .int .i64 k ∧ wr.rowIs gi 3 K (fun r => .int .i64 ((nIn (wvNum g) dn k r : Nat) : Int)) ∧ wr.rowIs ga 3 K (fun r => .int .i64 ((nAll (wvNum g) k r : Nat) : Int)) ∧ Blk wr bx 22 #[.slice (some ⟨gi, 0, none⟩) K K] ∧ Below gi W7 wr) (fun _ _ i _ => g.n1 - (intOf i).toNat)
    case atStart => exact ⟨0, Nat.zero_le _, rfl, ri, m2', rb, Below.refl _ _⟩
    case round =>
      clear ri m2' rb
      obtain ⟨k, hk, rfl, ri, ra, rb, hB⟩ := hrel
      by_cases hlt : k < g.n1
      · have ck := (hB.cell (p := ⟨ar, offr + k, none⟩) har).trans (HOM.out k hlt)
        have hrk := HNK.out k hlt
        have HIS := hide (fun r => nIn_succ (wvNum g) dn k r)
        have HAS := hide (fun r => nAll_succ (wvNum g) k r)
        have hi1 := nIn_le (wvNum g) dn k (numOf (labs g.es) k)
        have ha1 := nAll_le (wvNum g) k (numOf (labs g.es) k)
        have hfr := hf.below hBw
        rw [show wvNum g k = numOf (labs g.es) k from rfl] at HIS HAS
        obtain ⟨r, hr⟩ : ∃ r, numOf (labs g.es) k = r := ⟨_, rfl⟩
        rw [hr] at ck hrk HIS HAS hi1 ha1
        clear hr
        have ca := ra.cell hrk
        have fa := ra.frozen r
        obtain ⟨va, hva⟩ : ∃ va, nAll (wvNum g) k r = va := ⟨_, rfl⟩
        have sa := ra.set r (.int .i64 ((va : Int) + 1))
        rw [hva] at ca ha1 hi1
        have HVA := hide hva
        have si := ri.setOther (a := ⟨ga, r, none⟩) (by show gi ≠ ga; omega) (.int .i64 ((va : Int) + 1))
        have sb := rb.far (p := ⟨ga, r, none⟩) (by show bx ≠ ga; omega) (.int .i64 ((va : Int) + 1))
        have hB2 := hB.setCell (p := ⟨ga, r, none⟩) (by show gi ≤ ga; omega) (.int .i64 ((va : Int) + 1))
        have hfk := hfr.below (hB2.mono (show w.heap.size ≤ gi by omega))
        have HRA := hide (sa.congr (g := fun q => .int .i64 ((nAll (wvNum g) (k + 1) q : Nat) : Int)) (fun q _ => by
          rw [HAS.out q]
          by_cases e : q = r
          · subst e; rw [if_pos rfl, if_pos rfl, HVA.out]; simp
          · rw [if_neg e, if_neg (fun h => e h.symm)]))
        clear hva sa ri ra rb hB
        go_wp2_with fail
        obtain ⟨W8, hW8⟩ : ∃ W8, wr.setCell ⟨ga, r, none⟩ (.int .i64 ((va : Int) + 1)) = W8 := ⟨_, rfl⟩
        rw [hW8] at si sb hB2 hfk HRA ⊢
        clear hW8
        refine (Contains_any A1 m1 c1 w.heap.size dn (k : Int) W8 hfk hm1).mono ?_
        rintro e W9 ⟨rfl, rfl⟩
        cases hd : hasB dn (k : Int)
        · have HRI := hide (si.congr (g := fun q => .int .i64 ((nIn (wvNum g) dn (k + 1) q : Nat) : Int)) (fun q _ => by
            rw [HIS.out q, if_neg (fun h => by rw [hd] at h; exact absurd h.2 (by simp))]))
          clear hd si
          go_wp2
          go_roundw
          case rel => exact ⟨k + 1, by omega, by go_num, HRI.out, HRA.out, sb, hB2⟩
          case measure => simp [intOf]; omega
        · have ci := si.cell hrk
          have fi := si.frozen r
          obtain ⟨vi, hvi⟩ : ∃ vi, nIn (wvNum g) dn k r = vi := ⟨_, rfl⟩
          have sii := si.set r (.int .i64 ((vi : Int) + 1))
          rw [hvi] at ci hi1
          have HVI := hide hvi
          have HRI := hide (sii.congr (g := fun q => .int .i64 ((nIn (wvNum g) dn (k + 1) q : Nat) : Int)) (fun q _ => by
            rw [HIS.out q]
            by_cases e : q = r
            · subst e; rw [if_pos rfl, if_pos ⟨rfl, hd⟩, HVI.out]; simp
            · rw [if_neg e, if_neg (fun h => e h.1.symm)]))
          have HRA2 := hide (HRA.out.setOther (a := ⟨gi, r, none⟩) (by show ga ≠ gi; omega) (.int .i64 ((vi : Int) + 1)))
          have sb2 := sb.far (p := ⟨gi, r, none⟩) (by show bx ≠ gi; omega) (.int .i64 ((vi : Int) + 1))
          have hB3 := hB2.setCell (p := ⟨gi, r, none⟩) (Nat.le_refl _) (.int .i64 ((vi : Int) + 1))
          have cb := sb.cell 0
          simp at cb
          clear hd hvi si sii sb hB2 hfk
          go_wp2
          go_roundw
          case rel => exact ⟨k + 1, by omega, by go_num, HRI.out, HRA2.out, sb2, hB3⟩
          case measure => simp [intOf]; omega
      · obtain rfl : k = g.n1 := by omega
        have cb := rb.cell 0
        simp at cb
        have y3 : ga < wr.heap.size := ra.lt
        have HI := hide (fun r (h : r < K) => ri.cell h)
        have HAL := hide (fun r (h : r < K) => ra.cell h)
        have b8 := b7.below (hB.mono (show w.heap.size + 1 ≤ gi by omega)) (by omega)
        have hBx := hBw.trans (hB.mono (show w.heap.size ≤ gi by omega))
        clear ri ra rb b7 hBw hB
        go_wp2_with fail
        go_loopw [11, 12, 64] (fun _ _ i wx => ∃ k : Nat, k ≤ K ∧ i = .int .i64 k ∧ (∀ r, r < k → nIn (wvNum g) dn g.n1 r = 0 ∨ nIn (wvNum g) dn g.n1 r = nAll (wvNum g) g.n1 r) ∧ wx = wr) (fun _ _ i _ => K - (intOf i).toNat)
        case atStart => exact ⟨0, Nat.zero_le _, rfl, fun r h => by omega, rfl⟩
        case round =>
          obtain ⟨k, hk, rfl, hall, rfl⟩ := hrel
          have HALL := hide hall
          clear hall
          by_cases hlt : k < K
          · have ci := HI.out k hlt
            have ca := HAL.out k hlt
            have hkw : k < wvK g := by rw [← HKK.out]; exact hlt
            obtain ⟨vi, hvi⟩ : ∃ vi, nIn (wvNum g) dn g.n1 k = vi := ⟨_, rfl⟩
            obtain ⟨va, hva⟩ : ∃ va, nAll (wvNum g) g.n1 k = va := ⟨_, rfl⟩
            rw [hvi] at ci
            rw [hva] at ca
            by_cases hg0 : vi = 0 ∨ vi = va
            · have HN := hide (show ∀ r, r < k + 1 → nIn (wvNum g) dn g.n1 r = 0 ∨ nIn (wvNum g) dn g.n1 r = nAll (wvNum g) g.n1 r from fun r hr => by
                by_cases e : r = k
                · subst e; rw [hvi, hva]; exact hg0
                · exact HALL.out r (by omega))
              clear hvi hva
              by_cases h0 : vi = 0
              · have n1 : ((vi : Int) != 0) = false := by simp; omega
                clear hg0 h0
                go_wp2
                go_roundw
                case rel => exact ⟨k + 1, by omega, by go_num, HN.out, trivial⟩
                case measure => simp [intOf]; omega
              · have n1 : ((vi : Int) != 0) = true := by simp; omega
                have n2 : ((vi : Int) != (va : Int)) = false := by simp; omega
                clear hg0 h0
                go_wp2
                go_roundw
                case rel => exact ⟨k + 1, by omega, by go_num, HN.out, trivial⟩
                case measure => simp [intOf]; omega
            · have n1 : ((vi : Int) != 0) = true := by simp; omega
              have n2 : ((vi : Int) != (va : Int)) = true := by simp; omega
              have hnw : ¬ whole g dn := fun h => by
                have := (whole_iff g dn).1 h k hkw
                rw [hvi, hva] at this
                exact hg0 this
              have HR := hide (show RetRA g dn w (.returned (.tuple #[.slice none 0 0, .int .i64 10])) wr from .inr ⟨HE.out, .inr ⟨hnw, none, 0, rfl, Reads.none_, hBx⟩⟩)
              clear hg0 hvi hva hnw b8 hBx
              go_wp2
              go_ret2
              exact HR.out
          · obtain rfl : k = K := by omega
            have hwh := (whole_iff g dn).2 (by rw [← HKK.out]; exact HALL.out)
            have d0 := b8.cell 0
            have d1 := b8.cell 1
            simp at d0 d1
            have hg8 := hg.up hBx
            clear hg7 hf7
            go_wp2_with fail
            refine (reads_any g wr hg8 HV.out).mono ?_
            rintro e W9 ⟨gr, V, Ls, rfl, hG, hrd, hln, hB9⟩
            rw [← HKK.out] at hG ⊢
            have HRDY := hide (fun p => rdy_in HV.out hwh hrd p)
            have HLN := hide hln
            have hrows : ∀ r, r < k → ∃ A c, W9.cell? ⟨gr, r, none⟩ = some (.slice A (Ls r).length c) ∧ Reads W9 W9.heap.size 1 A (Ls r).length ((Ls r).map (Value.int .i64)) := fun r hr => by
              have h1 := hG.row r hr
              have h2 := hG.cell hr
              obtain ⟨A, c, e, hR⟩ := own_form h1
              exact ⟨A, c, by rw [h2, e], hR⟩
            have HROW := hide hrows
            have hgl := hG.lt
            have HPR := hide (fun r x (h : x ∈ Ls r) => show ∃ a : Nat, x = (a : Int) ∧ a < k from by
              obtain ⟨a, h1, h2⟩ := (hrd r x).1 h
              exact ⟨a, h1, by rw [HKK.out]; exact (pr_lt HV.out h2).1⟩)
            have hBy := bstep hBx hB9
            have cb9 : W9.cell? ⟨bx, 0, none⟩ = some (.slice (some ⟨gi, 0, none⟩) k k) := (hB9.cell (p := ⟨bx, 0, none⟩) (by show bx < _; omega)).trans cb
            have HC9 := hide (show Cnts W9 bx gi k (nIn (wvNum g) dn g.n1) from ⟨cb9, fun r hr => (hB9.cell (p := ⟨gi, r, none⟩) (by show gi < _; omega)).trans (HI.out r hr)⟩)
            have y4 : bx < W9.heap.size := by have := hB9.size; omega
            clear hrows hG hrd hln hwh d0 d1 hBx b8 hB9 HI cb9
            go_wp2_with fail
            go_loopw [13, 14, 15, 83] (fun v _ _ i wx => ∃ p : Nat, p ≤ k ∧ i = .int .i64 p ∧ wx.ownsRow W9.heap.size 3 1 v (tkn (rdy g dn) p).length (intsL (tkn (rdy g dn) p)) ∧ Below W9.heap.size W9 wx) (fun _ _ _ i _ => k - (intOf i).toNat)
            case atStart => exact ⟨0, Nat.zero_le _, rfl, World.ownsRow_nil _ _ _ _, Below.refl _ _⟩
            case round =>
              obtain ⟨p, hp, rfl, hown, hB⟩ := hrel
              have hWs := hB.size
              by_cases hlt : p < k
              · obtain ⟨A, c, hcr, hRr⟩ := HROW.out p hlt
                have cr := (hB.cell (p := ⟨gr, p, none⟩) hgl).trans hcr
                have hRw := hRr.below hB
                have cbx := (hB.cell (p := ⟨bx, 0, none⟩) y4).trans HC9.out.box
                have cix := (hB.cell (p := ⟨gi, p, none⟩) (show gi < _ by omega)).trans (HC9.out.row p hlt)
                have HCX := hide (show Cnts wr bx gi k (nIn (wvNum g) dn g.n1) from ⟨cbx, fun r hr => (hB.cell (p := ⟨gi, r, none⟩) (show gi < _ by omega)).trans (HC9.out.row r hr)⟩)
                have hln := HLN.out p
                have HTK := hide (tkn_succ (rdy g dn) p)
                have hlen := tkn_len (rdy g dn) p
                have HRD := hide (show rdy g dn p = (decide (nIn (wvNum g) dn g.n1 p = 0) && !(Ls p).any (nilC (nIn (wvNum g) dn g.n1))) from HRDY.out p)
                have hxi := nIn_le (wvNum g) dn g.n1 p
                have hxa := nAll_le (wvNum g) g.n1 p
                obtain ⟨vi, hvi⟩ : ∃ vi, nIn (wvNum g) dn g.n1 p = vi := ⟨_, rfl⟩
                rw [hvi] at cix hxi HRD
                obtain ⟨q, hq⟩ : ∃ q, (tkn (rdy g dn) p).length = q := ⟨_, rfl⟩
                rw [hq] at hown hlen
                have HQ := hide hq
                clear hq hvi hcr hRr
                obtain ⟨n, hn⟩ : ∃ n, (Ls p).length = n := ⟨_, rfl⟩
                rw [hn] at cr hRw hln
                clear hn
                by_cases h0 : vi = 0
                · have n1 : ((vi : Int) == 0) = true := by simp; omega
                  have hrd := HRD.out
                  rw [show decide (vi = 0) = true from by simp [h0], Bool.true_and] at hrd
                  have HRD2 := hide hrd
                  clear hrd h0
                  go_wp2_with fail
                  refine (con_ready A n c _ (Ls p) bx gi k (nIn (wvNum g) dn g.n1) wr hRw (by omega) HCX.out (HPR.out p)).mono ?_
                  rintro e W10 ⟨rfl, rfl⟩
                  cases hany : (Ls p).any (nilC (nIn (wvNum g) dn g.n1))
                  · have HT := hide (show tkn (rdy g dn) (p + 1) = tkn (rdy g dn) p ++ [(p : Int)] from by rw [HTK.out, HRD2.out, hany]; rfl)
                    clear hany
                    go_wp2_with (at_builtin; refine wpList_append_own _ rfl _ _ 22 rfl W9.heap.size 3 i0 _ 1 8 Try.underlying22 hi hz0 hz1 hz2 rfl (by decide) _ _ _ rfl (hown.alloc _) ⟨wr.heap.size, 0, none⟩ 1 1 [.int .i64 (p : Int)] rfl rfl (cells_new _ _ _) (by simp [Value.oneCell']) (by unfold maxLen; omega) (by omega) (by simp; omega) ?_; intro v' w1 hown' hgrow _)
                    go_roundw
                    case rel => exact ⟨p + 1, by omega, by go_num, by rw [HT.out, intsL_snoc, List.length_append, HQ.out]; exact hown', below_append (hB.alloc hWs _) (hown.alloc _) (by simp; omega) hgrow⟩
                    case measure => simp [intOf]; omega
                  · have HT := hide (show tkn (rdy g dn) (p + 1) = tkn (rdy g dn) p from by rw [HTK.out, HRD2.out, hany]; rfl)
                    clear hany
                    go_wp2
                    go_roundw
                    case rel => exact ⟨p + 1, by omega, by go_num, by rw [HT.out, HQ.out]; exact hown, hB⟩
                    case measure => simp [intOf]; omega
                · have n1 : ((vi : Int) == 0) = false := by simp; omega
                  have HT := hide (show tkn (rdy g dn) (p + 1) = tkn (rdy g dn) p from by rw [HTK.out, HRD.out]; simp [h0])
                  clear h0
                  go_wp2
                  go_roundw
                  case rel => exact ⟨p + 1, by omega, by go_num, by rw [HT.out, HQ.out]; exact hown, hB⟩
                  case measure => simp [intOf]; omega
              · obtain rfl : p = k := by omega
                obtain ⟨Ao, co, hvo, hRo⟩ := own_form hown
                have HWH := hide ((whole_iff g dn).2 (by rw [← HKK.out]; exact HALL.out))
                have HKK2 := hide (HKK.out.symm)
                have HR := hide (show RetRA g dn w (.returned (.tuple #[.slice Ao (tkn (rdy g dn) p).length co, .int .i64 0])) wr from by
                  refine .inr ⟨HE.out, .inl ⟨HWH.out, ?_⟩⟩
                  rw [HKK2.out]
                  exact ⟨Ao, co, rfl, hRo, bstep hBy hB⟩)
                subst hvo
                clear hown hB hRo
                go_wp2
                go_ret2
                exact HR.out
  · have HR := hide (show RetRA g dn w (.returned (.tuple #[.slice none 0 0, .int .i64 7])) W3 from .inl ⟨by simp [errR, HV.out, HA.out, ho], none, 0, by simp [errR, HV.out, HA.out, ho], Reads.none_, hB03⟩)
    clear ho b3 hB03
    go_wp2
    go_ret2
    exact HR.out
end Go.Proofs.Ytblepaocekojbaa
