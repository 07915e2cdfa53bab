/-
  The law PairGives, for all inputs that read. (Printed by gen_gvW.)
-/
import Derived.Test.YtoapjidpfghnlaaGreatDoorGvC
import Derived.Test.YtoapjidpfghnlaaGreatDoorJnW0
namespace Go.Proofs.YtoapjidpfghnlaaGreatDoor
open Go.RowKit
attribute [local go_sem] Oper.semAt_some wide_fn wide_depth
set_option linter.unusedVariables false
set_option linter.unusedSimpArgs false

set_option maxRecDepth 100000 in
set_option maxHeartbeats 32000000 in
theorem pairGives_all (A1 : Option Addr) (n1 c1 : Nat) (on : List Int) (A2 : Option Addr) (n2 c2 : Nat) (others : List Int) (wide width kind lo hi : Int) (A3 : Option Addr) (n3 c3 : Nat) (la : List Ac) (w : World)
    (h1 : Reads w w.heap.size 1 A1 n1 (on.map (Value.int .i64))) (h2 : Reads w w.heap.size 1 A2 n2 (others.map (Value.int .i64))) (h3 : AcR w w.heap.size A3 n3 la) (ht : Tab w) :
    Calls Tryz.prog 8 #[.agg #[.slice A1 n1 c1, .slice A2 n2 c2, .int .i64 wide, .int .i64 width, .int .i64 kind, .int .i64 lo, .int .i64 hi], .slice A3 n3 c3] w (RetV w (.bool true)) := by
  have hB0 := below_val (w := w) #[.slice A1 n1 c1, .slice A2 n2 c2, .int .i64 wide, .int .i64 width, .int .i64 kind, .int .i64 lo, .int .i64 hi] 24
  have k1 := Blk.new w 24 #[.slice A1 n1 c1, .slice A2 n2 c2, .int .i64 wide, .int .i64 width, .int .i64 kind, .int .i64 lo, .int .i64 hi]
  have hn3 := h3.le
  have hbs : KJs _ w.heap.size #[.slice A1 n1 c1, .slice A2 n2 c2, .int .i64 wide, .int .i64 width, .int .i64 kind, .int .i64 lo, .int .i64 hi] A1 n1 on A2 n2 others A3 n3 la := ⟨k1, h1.up hB0, h2.up hB0, (h3.below hB0).mono hB0.size, ht.below hB0⟩
  clear h1 h2 h3 ht k1
  go_enter Tryz.func8, Tryz.ntmps8
  go_wp2_with fail
  obtain ⟨W0, hW0⟩ : ∃ W0, w.alloc (.cells #[.slice A1 n1 c1, .slice A2 n2 c2, .int .i64 wide, .int .i64 width, .int .i64 kind, .int .i64 lo, .int .i64 hi] 24) = W0 := ⟨_, rfl⟩
  rw [hW0] at hB0 hbs ⊢
  obtain ⟨kb, hkb⟩ : ∃ kb, w.heap.size = kb := ⟨_, rfl⟩
  rw [hkb] at hbs ⊢
  have HKB := hide hkb
  clear hW0 hkb
  refine (klong_any A1 n1 c1 A2 n2 c2 wide width kind lo hi W0).mono ?_
  rintro e W1 hres
  obtain ⟨b1, rfl, hb1, hb⟩ := hres
  have hB1 := bstep hB0 hb
  have hbs1 := hbs.below hb
  clear hb hB0 hbs
  cases b1
  case true =>
    clear hb1
    go_wp2_with fail
    refine (awake9_any W1 hbs1.tab).mono ?_
    rintro e W2 ⟨rfl, hb⟩
    have HB := hide (bstep hB1 hb)
    clear hb hB1 hbs1
    go_wp2
    go_ret
    exact ⟨rfl, HB.out⟩
  case false =>
  obtain ⟨hn1, hn2⟩ := hb1 rfl
  clear hb1
  go_wp2_with fail
  refine (fewA_any A3 n3 c3 la W1 hbs1.ac).mono ?_
  rintro e W2 hres
  obtain ⟨b3, rfl, hb3, hb⟩ := hres
  have hB2 := bstep hB1 hb
  have hbs2 := hbs1.below hb
  clear hb hB1 hbs1
  cases b3
  case false =>
    clear hb3
    go_wp2_with fail
    refine (awake9_any W2 hbs2.tab).mono ?_
    rintro e W3 ⟨rfl, hb⟩
    have HB := hide (bstep hB2 hb)
    clear hb hB2 hbs2
    go_wp2
    go_ret
    exact ⟨rfl, HB.out⟩
  case true =>
  have hn40 := hb3 rfl
  clear hb3
  have d0 : W2.cell? ⟨kb, 0, none⟩ = some (.slice A1 n1 c1) := by simpa using hbs2.ky.cell 0
  have d1 : W2.cell? ⟨kb, 1, none⟩ = some (.slice A2 n2 c2) := by simpa using hbs2.ky.cell 1
  have d5 : W2.cell? ⟨kb, 5, none⟩ = some (.int .i64 lo) := by simpa using hbs2.ky.cell 5
  have d6 : W2.cell? ⟨kb, 6, none⟩ = some (.int .i64 hi) := by simpa using hbs2.ky.cell 6
  have HNK := hide (NewJoiner_any A1 n1 c1 on A2 n2 c2 others lo hi W2 hbs2.on hbs2.ot (by omega) (by omega))
  have HAC := hide hbs2.ac
  have HTAB := hide hbs2.tab
  have HKY := hide hbs2.ky
  have HON := hide hbs2.on
  have HOT := hide hbs2.ot
  have HB2 := hide hB2
  have HN12 := hide (show n1 ≤ 1000 ∧ n2 ≤ 1000 from by omega)
  clear hbs2 hB2 hn1 hn2
  go_wp2_with fail
  refine HNK.out.mono ?_
  rintro e W3 ⟨hb, hres⟩
  clear d0 d1 d5 d6 HNK
  by_cases hE : njE on others lo hi = 0
  case neg =>
    rw [if_neg hE] at hres
    obtain ⟨E, hE2⟩ : ∃ E, njE on others lo hi = E := ⟨_, rfl⟩
    rw [hE2] at hres hE
    subst hres
    have zE : (E != 0) = true := by simpa using hE
    have htab := HTAB.out.below hb
    have HB3 := hide (bstep HB2.out hb)
    clear hb hE hE2
    go_wp2_with fail
    refine (awake9_any W3 htab).mono ?_
    rintro e W4 ⟨rfl, hb⟩
    have HB := hide (bstep HB3.out hb)
    clear hb htab HB3
    go_wp2
    go_ret
    exact ⟨rfl, HB.out⟩
  case pos =>
  rw [if_pos hE] at hres
  obtain ⟨b, bL, bR, s, rfl, hjo, e1, e2, e3, e4, e5, e6⟩ := hres
  obtain ⟨j1, j2, j3, j4⟩ := nj_zero hE
  have hK0 : GvW W2.heap.size b s 0 (.slice none 0 0) (.slice none 0 0) (.slice none 0 0) W3 := ⟨bL, bR, _, _, _, _, _, [], [], [], [], [], hjo, GvS.nil _ _, GvP.nil (by rw [e1, e2]; exact j1) _ _ _⟩
  have hs1 : s.n1 ≤ 1000 := by omega
  have hs2 : s.n2 ≤ 1000 := by omega
  have HSB := hide (show (s.n1 ≤ 1000 ∧ s.n2 ≤ 1000) ∧ (-1000000000 ≤ s.lo ∧ s.lo ≤ 1000000000) ∧ (-1000000000 ≤ s.hi ∧ s.hi ≤ 1000000000) from ⟨⟨hs1, hs2⟩, by rw [e3]; exact j3, by rw [e4]; exact j4⟩)
  have HES := hide (show s.on = on ∧ s.others = others ∧ s.lo = lo ∧ s.hi = hi from ⟨e1, e2, e3, e4⟩)
  have HJ0 := hide hE
  have hL0 : Below W2.heap.size W2 W3 := hb
  clear hjo e1 e2 e3 e4 e5 e6 j1 j2 j3 j4 hs1 hs2 hE hb
  have HK0 := hide hK0
  have HL0 := hide hL0
  clear hK0 hL0
  go_wp2_with fail
  have hK0 := HK0.out
  have hL0 := HL0.out
  go_loopw [7, 8, 9, 10] (fun vl vr vg i wr => ∃ (i1 : Nat) (ul ur ug : Value), i1 ≤ n3 ∧ i = .int .i64 i1 ∧ ul = vl ∧ ur = vr ∧ ug = vg ∧ GvW W2.heap.size b s i1 ul ur ug wr ∧ Below W2.heap.size W2 wr) (fun _ _ _ i _ => n3 - (intOf i).toNat)
  case atStart => exact ⟨0, _, _, _, Nat.zero_le _, rfl, rfl, rfl, rfl, hK0, hL0⟩
  case round =>
    clear hK0 hL0 HK0 HL0
    obtain ⟨i1, vl, vr, vg, hi1, rfl, rfl, rfl, rfl, hK, hL⟩ := hrel
    obtain ⟨⟨Al, nl, cl, hvl⟩, ⟨Ar, nr, cr, hvr⟩, ⟨Ag, ng, cg, hvg⟩⟩ := hK.slices
    subst hvl hvr hvg
    by_cases hlt : i1 < n3
    · have q1 : (0 : Int) ≤ (i1 : Int) := by omega
      have q2 : (i1 : Int) < (n3 : Int) := by omega
      obtain ⟨ba, oa, a, rfl, hba, hak, z0, z1, z2, z3, z4, hrow0, hcap⟩ := HAC.out.at_ hlt
      have e0 := (hL.cell (p := ⟨ba, oa + i1 * 5, none⟩) hba).trans z0
      have e1 := (hL.cell (p := ⟨ba, oa + i1 * 5 + 1, none⟩) hba).trans z1
      have e2 := (hL.cell (p := ⟨ba, oa + i1 * 5 + 2, none⟩) hba).trans z2
      have e3 := (hL.cell (p := ⟨ba, oa + i1 * 5 + 3, none⟩) hba).trans z3
      have e4 := (hL.cell (p := ⟨ba, oa + i1 * 5 + 4, none⟩) hba).trans z4
      have hrow := hrow0.below hL
      have hblw : ba < wr.heap.size := Nat.lt_of_lt_of_le hba hL.size
      have HZ0 := hide z0
      have HZ1 := hide z1
      clear z0 z1 z2 z3 z4 hrow0
      have hbv := below_val (w := wr) #[.int .i64 a.t, .slice a.A a.m a.c, .int .i64 a.q] 57
      have kc := Blk.new wr 57 #[.int .i64 a.t, .slice a.A a.m a.c, .int .i64 a.q]
      clear hak
      go_upto_region 12 with fail
      obtain ⟨W5, hW5⟩ : ∃ W5, wr.alloc (.cells #[.int .i64 a.t, .slice a.A a.m a.c, .int .i64 a.q] 57) = W5 := ⟨_, rfl⟩
      obtain ⟨cb, hcb⟩ : ∃ cb, wr.heap.size = cb := ⟨_, rfl⟩
      rw [hW5] at kc hbv ⊢
      try rw [hcb]
      rw [hcb] at kc
      have g2 : W5.cell? ⟨cb, 2, none⟩ = some (.int .i64 a.q) := by simpa using kc.cell 2
      have f2 := kc.frozen 2
      have HWR := hide hcb
      have HKC := hide kc
      have HBV := hide hbv
      have HK := hide hK
      have HL := hide hL
      have HROW := hide hrow
      clear hW5 hcb e0 e1 e2 e3 e4 hK hL hrow kc hbv hblw
      go_cut [11] from 39 to 101 (fun s11 wx => s11 = .pointer (some ⟨cb, 0, none⟩) ∧ Blk wx cb 57 #[.int .i64 a.t, .slice a.A a.m a.c, .int .i64 1] ∧ Below wr.heap.size wr wx)
      case first =>
        go_wp2_with fail
        go_meet
        case rel =>
          have hwr := HWR.out
          exact ⟨rfl, by simpa using HKC.out.set_ 2 (.int .i64 1), HBV.out.setCell (by show wr.heap.size ≤ cb; omega) _⟩
      case rest =>
      obtain ⟨rfl, hkc, hbv⟩ := hcut
      obtain ⟨W6, hW6⟩ : ∃ V : World, V = wc := ⟨_, rfl⟩
      subst hW6
      clear HKC HBV g2 f2
      have g0 : W6.cell? ⟨cb, 0, none⟩ = some (.int .i64 a.t) := by simpa using hkc.cell 0
      have g1 : W6.cell? ⟨cb, 1, none⟩ = some (.slice a.A a.m a.c) := by simpa using hkc.cell 1
      have g2 : W6.cell? ⟨cb, 2, none⟩ = some (.int .i64 1) := by simpa using hkc.cell 2
      have hK6 := HK.out.below hbv
      have hbase : W2.heap.size ≤ W6.heap.size := Nat.le_trans HL.out.size hbv.size
      have hL6 : Below W2.heap.size W2 W6 := bstep HL.out hbv
      have k0 := (hL6.cell (p := ⟨ba, oa + i1 * 5, none⟩) hba).trans HZ0.out
      have k1 := (hL6.cell (p := ⟨ba, oa + i1 * 5 + 1, none⟩) hba).trans HZ1.out
      have hblw : ba < W6.heap.size := Nat.lt_of_lt_of_le hba hL6.size
      have HROW6 := hide (HROW.out.below hbv)
      have HLT := hide (show i1 < 40 from by omega)
      have HLB := hide (show i1 < n3 ∧ 0 ≤ (i1 : Int) from by omega)
      have HKC := hide hkc
      have HL6 := hide hL6
      clear HROW HK HL hbv hkc HWR
      go_upto_region 14 with fail
      first
      | (iterate 11 (first | go_values | go_skip | go_guarded | go_step | go_upon | go_back)); go_cut [7, 8, 12] from 39 to 101 (fun s7 s8 s12 wx => ∃ A n c ul ur, s7 = ul ∧ s8 = ur ∧ s12 = .slice A n c ∧ GotJ W2.heap.size b s (i1 + 1) ul ur (.slice Ag ng cg) A n c wx ∧ Below W2.heap.size W2 wx)
      | (iterate 12 (first | go_values | go_skip | go_guarded | go_step | go_upon | go_back)); go_cut [7, 8, 12] from 39 to 101 (fun s7 s8 s12 wx => ∃ A n c ul ur, s7 = ul ∧ s8 = ur ∧ s12 = .slice A n c ∧ GotJ W2.heap.size b s (i1 + 1) ul ur (.slice Ag ng cg) A n c wx ∧ Below W2.heap.size W2 wx)
      | (iterate 13 (first | go_values | go_skip | go_guarded | go_step | go_upon | go_back)); go_cut [7, 8, 12] from 39 to 101 (fun s7 s8 s12 wx => ∃ A n c ul ur, s7 = ul ∧ s8 = ur ∧ s12 = .slice A n c ∧ GotJ W2.heap.size b s (i1 + 1) ul ur (.slice Ag ng cg) A n c wx ∧ Below W2.heap.size W2 wx)
      | (iterate 14 (first | go_values | go_skip | go_guarded | go_step | go_upon | go_back)); go_cut [7, 8, 12] from 39 to 101 (fun s7 s8 s12 wx => ∃ A n c ul ur, s7 = ul ∧ s8 = ur ∧ s12 = .slice A n c ∧ GotJ W2.heap.size b s (i1 + 1) ul ur (.slice Ag ng cg) A n c wx ∧ Below W2.heap.size W2 wx)
      | (iterate 15 (first | go_values | go_skip | go_guarded | go_step | go_upon | go_back)); go_cut [7, 8, 12] from 39 to 101 (fun s7 s8 s12 wx => ∃ A n c ul ur, s7 = ul ∧ s8 = ur ∧ s12 = .slice A n c ∧ GotJ W2.heap.size b s (i1 + 1) ul ur (.slice Ag ng cg) A n c wx ∧ Below W2.heap.size W2 wx)
      | (iterate 16 (first | go_values | go_skip | go_guarded | go_step | go_upon | go_back)); go_cut [7, 8, 12] from 39 to 101 (fun s7 s8 s12 wx => ∃ A n c ul ur, s7 = ul ∧ s8 = ur ∧ s12 = .slice A n c ∧ GotJ W2.heap.size b s (i1 + 1) ul ur (.slice Ag ng cg) A n c wx ∧ Below W2.heap.size W2 wx)
      | (iterate 17 (first | go_values | go_skip | go_guarded | go_step | go_upon | go_back)); go_cut [7, 8, 12] from 39 to 101 (fun s7 s8 s12 wx => ∃ A n c ul ur, s7 = ul ∧ s8 = ur ∧ s12 = .slice A n c ∧ GotJ W2.heap.size b s (i1 + 1) ul ur (.slice Ag ng cg) A n c wx ∧ Below W2.heap.size W2 wx)
      | (iterate 18 (first | go_values | go_skip | go_guarded | go_step | go_upon | go_back)); go_cut [7, 8, 12] from 39 to 101 (fun s7 s8 s12 wx => ∃ A n c ul ur, s7 = ul ∧ s8 = ur ∧ s12 = .slice A n c ∧ GotJ W2.heap.size b s (i1 + 1) ul ur (.slice Ag ng cg) A n c wx ∧ Below W2.heap.size W2 wx)
      | (iterate 19 (first | go_values | go_skip | go_guarded | go_step | go_upon | go_back)); go_cut [7, 8, 12] from 39 to 101 (fun s7 s8 s12 wx => ∃ A n c ul ur, s7 = ul ∧ s8 = ur ∧ s12 = .slice A n c ∧ GotJ W2.heap.size b s (i1 + 1) ul ur (.slice Ag ng cg) A n c wx ∧ Below W2.heap.size W2 wx)
      | (iterate 20 (first | go_values | go_skip | go_guarded | go_step | go_upon | go_back)); go_cut [7, 8, 12] from 39 to 101 (fun s7 s8 s12 wx => ∃ A n c ul ur, s7 = ul ∧ s8 = ur ∧ s12 = .slice A n c ∧ GotJ W2.heap.size b s (i1 + 1) ul ur (.slice Ag ng cg) A n c wx ∧ Below W2.heap.size W2 wx)
      | (iterate 21 (first | go_values | go_skip | go_guarded | go_step | go_upon | go_back)); go_cut [7, 8, 12] from 39 to 101 (fun s7 s8 s12 wx => ∃ A n c ul ur, s7 = ul ∧ s8 = ur ∧ s12 = .slice A n c ∧ GotJ W2.heap.size b s (i1 + 1) ul ur (.slice Ag ng cg) A n c wx ∧ Below W2.heap.size W2 wx)
      | (iterate 22 (first | go_values | go_skip | go_guarded | go_step | go_upon | go_back)); go_cut [7, 8, 12] from 39 to 101 (fun s7 s8 s12 wx => ∃ A n c ul ur, s7 = ul ∧ s8 = ur ∧ s12 = .slice A n c ∧ GotJ W2.heap.size b s (i1 + 1) ul ur (.slice Ag ng cg) A n c wx ∧ Below W2.heap.size W2 wx)
      | (iterate 23 (first | go_values | go_skip | go_guarded | go_step | go_upon | go_back)); go_cut [7, 8, 12] from 39 to 101 (fun s7 s8 s12 wx => ∃ A n c ul ur, s7 = ul ∧ s8 = ur ∧ s12 = .slice A n c ∧ GotJ W2.heap.size b s (i1 + 1) ul ur (.slice Ag ng cg) A n c wx ∧ Below W2.heap.size W2 wx)
      case first =>
        by_cases hk0 : a.k = 0
        case pos =>
          have zk : (a.k == 0) = true := by simpa using hk0
          have HC := hide (gv_left a.t a.A a.m a.c a.r W6 hK6 HLT.out hbase HSB.out.1.1 HSB.out.1.2 HROW6.out hcap (HTAB.out.below hL6))
          clear hk0 hK6 hbase hL6 k1
          go_wp2_with fail
          refine HC.out.mono ?_
          rintro e W7 ⟨A, n, c, E2, rfl, hb, hkp, hne, h0⟩
          have kc7 := hkp _ _ HKC.out
          have HL7 := hide (HL6.out.trans hb)
          clear HC hkp g0 g1 g2 k0
          have g0 : W7.cell? ⟨cb, 0, none⟩ = some (.int .i64 a.t) := by simpa using kc7.cell 0
          have g1 : W7.cell? ⟨cb, 1, none⟩ = some (.slice a.A a.m a.c) := by simpa using kc7.cell 1
          clear kc7 hb
          by_cases hz : E2 = 0
          case neg =>
            have zE : (E2 == 0) = false := by simpa using hz
            have HRS := hide (hne hz)
            clear hne h0 hz g0 g1
            go_wp2_with fail
            go_meet
            case rel => exact ⟨A, n, c, _, _, rfl, rfl, rfl, HRS.out, HL7.out⟩
          case pos =>
            obtain ⟨A0, n0, c0, A', c', X', hv, hrun, hlow, hgot⟩ := h0 hz
            injection hv with hv1 hv2 hv3
            subst hz hv1 hv2 hv3
            have HRS := hide hgot
            have HLX := hide (HL7.out.trans hlow)
            clear hne h0 hgot hlow
            go_wp2_with (at_builtin; refine wpList_append_is rfl _ _ 25 rfl rfl rfl rfl hrun ?_)
            go_meet
            case rel => exact ⟨A, n, c, _, _, rfl, rfl, rfl, HRS.out, HLX.out⟩
        case neg =>
        have zk : (a.k == 0) = false := by simpa using hk0
        by_cases hk1 : a.k = 1
        case pos =>
          have zk1 : (a.k == 1) = true := by simpa using hk1
          have HC := hide (gv_right a.t a.A a.m a.c a.r W6 hK6 HLT.out hbase HSB.out.1.1 HSB.out.1.2 HROW6.out hcap (HTAB.out.below hL6))
          clear hk0 hk1 hK6 hbase hL6 k1
          go_wp2_with fail
          refine HC.out.mono ?_
          rintro e W7 ⟨A, n, c, E2, rfl, hb, hkp, hne, h0⟩
          have kc7 := hkp _ _ HKC.out
          have HL7 := hide (HL6.out.trans hb)
          clear HC hkp g0 g1 g2 k0
          have g0 : W7.cell? ⟨cb, 0, none⟩ = some (.int .i64 a.t) := by simpa using kc7.cell 0
          have g1 : W7.cell? ⟨cb, 1, none⟩ = some (.slice a.A a.m a.c) := by simpa using kc7.cell 1
          clear kc7 hb
          by_cases hz : E2 = 0
          case neg =>
            have zE : (E2 == 0) = false := by simpa using hz
            have HRS := hide (hne hz)
            clear hne h0 hz g0 g1
            go_wp2_with fail
            go_meet
            case rel => exact ⟨A, n, c, _, _, rfl, rfl, rfl, HRS.out, HL7.out⟩
          case pos =>
            obtain ⟨A0, n0, c0, A', c', X', hv, hrun, hlow, hgot⟩ := h0 hz
            injection hv with hv1 hv2 hv3
            subst hz hv1 hv2 hv3
            have HRS := hide hgot
            have HLX := hide (HL7.out.trans hlow)
            clear hne h0 hgot hlow
            go_wp2_with (at_builtin; refine wpList_append_is rfl _ _ 25 rfl rfl rfl rfl hrun ?_)
            go_meet
            case rel => exact ⟨A, n, c, _, _, rfl, rfl, rfl, HRS.out, HLX.out⟩
        case neg =>
          have zk1 : (a.k == 1) = false := by simpa using hk1
          have HC := hide (gv_mark a.n W6 hK6 HLT.out hbase HSB.out.2.1 HSB.out.2.2)
          clear hk0 hk1 hK6 hL6 g0 g1 g2
          go_wp2_with fail
          refine HC.out.mono ?_
          rintro e W7 ⟨E2, rfl, hb, hres⟩
          have HRS := hide hres
          have HL7 := hide (HL6.out.trans hb)
          clear HC hres hb k0 k1
          go_wp2_with fail
          go_meet
          case rel => exact ⟨none, 0, 0, _, _, rfl, rfl, rfl, HRS.out, HL7.out⟩
      case rest =>
      obtain ⟨A, n, c, ul, ur, rfl, rfl, rfl, hres, hLx⟩ := hcut
      obtain ⟨V, hV⟩ : ∃ V : World, V = wc := ⟨_, rfl⟩
      subst hV
      obtain ⟨v', X', hrun, hgv, hbx⟩ := hres
      obtain ⟨_, _, ⟨A5, n5, c5, hv'⟩⟩ := hgv.slices
      subst hv'
      have HGV := hide hgv
      have HLF := hide (hLx.trans hbx)
      clear hgv hLx hbx hL6 hK6 hbase k0 k1 g0 g1 g2 hblw hcap hba
      go_wp2_with (at_builtin; refine wpList_append_is rfl _ _ 67 rfl rfl rfl rfl hrun ?_)
      go_roundw
      case rel => exact ⟨i1 + 1, _, _, _, by omega, by go_num, rfl, rfl, rfl, HGV.out, HLF.out⟩
      case measure => simp [intOf]; omega
    · obtain rfl : n3 = i1 := by omega
      obtain ⟨wk, hwk⟩ : ∃ wk : World, wk = wr := ⟨_, rfl⟩
      subst hwk
      obtain ⟨bL', bR', mk, fL, fR, SL, SR, L, R, l, r, g, q1, q2, q3⟩ := hK
      have hGP := q3
      rw [HES.out.1, HES.out.2.1, HES.out.2.2.1, HES.out.2.2.2] at hGP
      have HERR := hide (hGP.err hn40 HJ0.out)
      have HGP := hide hGP
      obtain ⟨Al2, cl2, hvl, _⟩ := own_form q2.l.own
      obtain ⟨Ar2, cr2, hvr, _⟩ := own_form q2.r.own
      obtain ⟨Ag2, cg2, hvg, _⟩ := own_form q2.g.own
      injection hvl with hl1 hl2 hl3
      injection hvr with hr1 hr2 hr3
      injection hvg with hg1 hg2 hg3
      subst hl1 hl2 hl3 hr1 hr2 hr3 hg1 hg2 hg3
      have hbw := hL.size
      have hl40 := q3.ll
      have hr40 := q3.rl
      have hg8 := gl_1000 q3.gl hn40
      have hEl : EvR wk wk.heap.size Al l.length l := ⟨Reads.of_own q2.l.own, fun i hi => (q2.l.rows i hi).mono hbw, by omega⟩
      have hEr : EvR wk wk.heap.size Ar r.length r := ⟨Reads.of_own q2.r.own, fun i hi => (q2.r.rows i hi).mono hbw, by omega⟩
      have hCg : ChgR wk wk.heap.size Ag g.length g := ⟨Reads.of_own q2.g.own, fun i hi => (q2.g.rows i hi).mono hbw, by omega⟩
      have ky := HKY.out.below hL HKY.out.lt
      have d0 : wk.cell? ⟨kb, 0, none⟩ = some (.slice A1 n1 c1) := by simpa using ky.cell 0
      have d1 : wk.cell? ⟨kb, 1, none⟩ = some (.slice A2 n2 c2) := by simpa using ky.cell 1
      have d5 : wk.cell? ⟨kb, 5, none⟩ = some (.int .i64 lo) := by simpa using ky.cell 5
      have d6 : wk.cell? ⟨kb, 6, none⟩ = some (.int .i64 hi) := by simpa using ky.cell 6
      have htab := HTAB.out.below hL
      have HIV := hide (Intervals_any A1 n1 c1 on A2 n2 c2 others lo hi Al l.length cl l Ar r.length cr r wk (HON.out.up hL) (HOT.out.up hL) HN12.out.1 HN12.out.2 hEl hEr (by omega) (by omega) (fun x hx => (q3.lk x hx).2.2) (fun x hx => (q3.rk x hx).2.2) htab)
      have HLw := hide hL
      have HCg := hide hCg
      have HTW := hide htab
      clear q1 q2 q3 hGP hEl hEr hCg hL ky hbw htab
      go_wp2_with fail
      refine HIV.out.mono ?_
      rintro e W8 ⟨A8, n8, c8, k, rfl, hdk, hek, hnc, hb⟩
      clear HIV d0 d1 d5 d6
      have hE8 : (intB on others lo hi (dE l) (dE r)).2 = if limP (pairsI on others lo hi (dE l) (dE r)) then 4 else 0 := HERR.out
      have hD8 : dE k = if (if limP (pairsI on others lo hi (dE l) (dE r)) then (4 : Int) else 0) = 0 then srtG cmpE (pairsI on others lo hi (dE l) (dE r)) else [] := by
        rw [hdk]
        unfold intB
        rw [HERR.out]
      rw [hE8]
      have HB8 := hide (bstep (bstep HB2.out HLw.out) hb)
      have HT8 := hide (HTW.out.below hb)
      clear hE8 hdk
      cases hlim : limP (pairsI on others lo hi (dE l) (dE r))
      case true =>
        simp only [if_true]
        clear hlim hD8 hek hb hnc
        go_wp2_with fail
        refine (awake9_any W8 HT8.out).mono ?_
        rintro e W9 ⟨rfl, hb⟩
        have HB := hide (bstep HB8.out hb)
        clear hb
        go_wp2
        go_ret
        exact ⟨rfl, HB.out⟩
      case false =>
        rw [hlim] at hD8
        simp only [Bool.false_eq_true, if_false, if_true] at hD8 ⊢
        obtain ⟨hsum, hk400, hkok⟩ := HGP.out.fin hD8 hlim
        have hkl : k.length = n8 := hek.len
        have HSUM := hide hsum
        have HKL := hide hkl
        have HEK := hide hek
        have HKO := hide hkok
        have HC8 := hide (HCg.out.keepB hb)
        have hn400 : n8 ≤ 400 := by omega
        clear hlim hD8 hek hb hsum hkok hkl hk400 HCg HERR
        go_wp2_with fail
        have hb0 : Below W8.heap.size W8 W8 := Below.refl _ _
        go_loopw [14, 15] (fun vo i wr => ∃ (k1 : Nat) (Ao : Option Addr) (co : Nat) (lo2 : List Ch), k1 ≤ n8 ∧ i = .int .i64 k1 ∧ vo = .slice Ao lo2.length co ∧ lo2.length = k1 ∧ lo2.map thC = (k.take k1).map eT ∧ (∀ y ∈ lo2, y.n ≤ 1000) ∧
          wr.ownsRow W8.heap.size 57 3 (.slice Ao lo2.length co) lo2.length (lo2.flatMap encCh) ∧ RowsC wr W8.heap.size lo2 ∧ Below W8.heap.size W8 wr) (fun _ i _ => n8 - (intOf i).toNat)
        case atStart => exact ⟨0, none, 0, [], Nat.zero_le _, rfl, rfl, rfl, rfl, nofun, World.ownsRow_nil _ _ _ _, (by intro i hi; cases hi), hb0⟩
        case round =>
          clear hb0
          obtain ⟨k1, Ao, co, lo2, hk1, rfl, rfl, hlen, hlo, hn10, hown, hrows, hBz⟩ := hrel
          have HLEN := hide hlen
          have HLO := hide hlo
          have HN10 := hide hn10
          have hl400 : lo2.length ≤ 400 := by omega
          clear hlen hlo hn10
          by_cases hlt : k1 < n8
          · have q1 : (0 : Int) ≤ (k1 : Int) := by omega
            have q2 : (k1 : Int) < (n8 : Int) := by omega
            obtain ⟨b8, o8, y, hA8, hb8b, hyl, y0', y1', hyr'⟩ := HEK.out.at_ hlt
            have y0 := (hBz.cell (p := ⟨b8, o8 + k1 * 2, none⟩) hb8b).trans y0'
            have y1 := (hBz.cell (p := ⟨b8, o8 + k1 * 2 + 1, none⟩) hb8b).trans y1'
            have hyr := hyr'.below hBz
            have hbl8 : b8 < wr.heap.size := Nat.lt_of_lt_of_le hb8b hBz.size
            clear y0' y1' hyr'
            subst hA8
            have HYO := hide (HKO.out y (List.mem_of_getElem? hyl))
            have HTM := hide (show (k.take (k1 + 1)).map eT = (k.take k1).map eT ++ [eT y] from by rw [take_snoc' hyl, List.map_append]; rfl)
            have hyn := hyr.len
            have hyo := okR_len (HYO.out)
            have hy8 : y.n ≤ 1000 := by omega
            clear hyl hyn hyo
            go_upto_region 32 with fail
            refine Held.begin (fun z => z.cell? ⟨b8, o8 + k1 * 2, none⟩ = some (.int .i64 y.t) ∧ z.cell? ⟨b8, o8 + k1 * 2 + 1, none⟩ = some (.slice y.A y.n y.c)) 14 (by kernel_rfl) ?_
            have hbd := (Below.refl wr.heap.size wr).drew
            obtain ⟨X1, hXe⟩ : ∃ X1, wr.drew = X1 := ⟨_, rfl⟩
            rw [hXe] at hbd ⊢
            have hown1 := own_below hown hbd
            have hrows1 : RowsC X1 W8.heap.size lo2 := fun i hi => (hrows i hi).below hbd
            have hB1 := bstep hBz hbd
            have hyr1 := hyr.below hbd
            have hS : X1.cell? ⟨b8, o8 + k1 * 2, none⟩ = some (.int .i64 y.t) ∧ X1.cell? ⟨b8, o8 + k1 * 2 + 1, none⟩ = some (.slice y.A y.n y.c) := ⟨(hbd.cell (p := ⟨b8, o8 + k1 * 2, none⟩) hbl8).trans y0, (hbd.cell (p := ⟨b8, o8 + k1 * 2 + 1, none⟩) hbl8).trans y1⟩
            have hbl1 : b8 < X1.heap.size := Nat.lt_of_lt_of_le hbl8 hbd.size
            clear hXe hbd hown hrows hBz hyr y0 y1 hbl8
            refine Held.take (i := 0) (.slice Ao lo2.length co) rfl hS (by kernel_rfl) (by kernel_rfl) (by kernel_rfl) (by kernel_rfl) (fun _ _ _ h => h) rfl (fun y hy => by obtain ⟨x1, x2⟩ := hy; go_simp) ?_
            try simp only [Act.put]
            refine Held.take (i := 1) (.slice (some ⟨b8, o8, none⟩) n8 c8) rfl hS (by kernel_rfl) (by kernel_rfl) (by kernel_rfl) (by kernel_rfl) (fun _ _ _ h => h) rfl (fun y hy => by obtain ⟨x1, x2⟩ := hy; go_simp) ?_
            try simp only [Act.put]
            refine Held.take (i := 2) (.int .i64 k1) rfl hS (by kernel_rfl) (by kernel_rfl) (by kernel_rfl) (by kernel_rfl) (fun _ _ _ h => h) rfl (fun y hy => by obtain ⟨x1, x2⟩ := hy; go_simp) ?_
            try simp only [Act.put]
            refine Held.take (i := 3) (.pointer (some ⟨b8, o8 + k1 * 2, none⟩)) rfl hS (by kernel_rfl) (by kernel_rfl) (by kernel_rfl) (by kernel_rfl) (fun _ _ _ h => h) rfl (fun y hy => by obtain ⟨x1, x2⟩ := hy; go_simp) ?_
            try simp only [Act.put]
            refine Held.take (i := 4) (.pointer (some ⟨b8, o8 + k1 * 2, none⟩)) rfl hS (by kernel_rfl) (by kernel_rfl) (by kernel_rfl) (by kernel_rfl) (fun _ _ _ h => h) rfl (fun y hy => by obtain ⟨x1, x2⟩ := hy; go_simp) ?_
            try simp only [Act.put]
            refine Held.take (i := 5) (.int .i64 y.t) rfl hS (by kernel_rfl) (by kernel_rfl) (by kernel_rfl) (by kernel_rfl) (fun _ _ _ h => h) rfl (fun y hy => by obtain ⟨x1, x2⟩ := hy; go_simp) ?_
            try simp only [Act.put]
            refine Held.take (i := 6) (.slice (some ⟨b8, o8, none⟩) n8 c8) rfl hS (by kernel_rfl) (by kernel_rfl) (by kernel_rfl) (by kernel_rfl) (fun _ _ _ h => h) rfl (fun y hy => by obtain ⟨x1, x2⟩ := hy; go_simp) ?_
            try simp only [Act.put]
            refine Held.take (i := 7) (.int .i64 k1) rfl hS (by kernel_rfl) (by kernel_rfl) (by kernel_rfl) (by kernel_rfl) (fun _ _ _ h => h) rfl (fun y hy => by obtain ⟨x1, x2⟩ := hy; go_simp) ?_
            try simp only [Act.put]
            refine Held.take (i := 8) (.pointer (some ⟨b8, o8 + k1 * 2, none⟩)) rfl hS (by kernel_rfl) (by kernel_rfl) (by kernel_rfl) (by kernel_rfl) (fun _ _ _ h => h) rfl (fun y hy => by obtain ⟨x1, x2⟩ := hy; go_simp) ?_
            try simp only [Act.put]
            refine Held.take (i := 9) (.pointer (some ⟨b8, o8 + k1 * 2 + 1, none⟩)) rfl hS (by kernel_rfl) (by kernel_rfl) (by kernel_rfl) (by kernel_rfl) (fun _ _ _ h => h) rfl (fun y hy => by obtain ⟨x1, x2⟩ := hy; go_simp) ?_
            try simp only [Act.put]
            refine Held.take (i := 10) (.slice y.A y.n y.c) rfl hS (by kernel_rfl) (by kernel_rfl) (by kernel_rfl) (by kernel_rfl) (fun _ _ _ h => h) rfl (fun y hy => by obtain ⟨x1, x2⟩ := hy; go_simp) ?_
            try simp only [Act.put]
            refine Held.take (i := 11) (.agg #[.int .i64 y.t, .slice y.A y.n y.c, .int .i64 1]) rfl hS (by kernel_rfl) (by kernel_rfl) (by kernel_rfl) (by kernel_rfl) (fun _ _ _ h => h) rfl (fun y hy => by obtain ⟨x1, x2⟩ := hy; go_simp) ?_
            try simp only [Act.put]
            obtain ⟨A', c', X4, hrun, hown4, hrows4, hblk4, hb4⟩ := oc_app ⟨y.t, y.A, y.n, y.c, y.r, 1⟩ hown1 hrows1 hyr1 hB1.size (Nat.le_refl _) (by omega)
            have kq := below_val (w := X1) #[.int .i64 y.t, .slice y.A y.n y.c, .int .i64 1] 57
            have hS2 : (X1.alloc (.cells #[.int .i64 y.t, .slice y.A y.n y.c, .int .i64 1] 57)).cell? ⟨b8, o8 + k1 * 2, none⟩ = some (.int .i64 y.t) ∧ (X1.alloc (.cells #[.int .i64 y.t, .slice y.A y.n y.c, .int .i64 1] 57)).cell? ⟨b8, o8 + k1 * 2 + 1, none⟩ = some (.slice y.A y.n y.c) := ⟨(kq.cell (p := ⟨b8, o8 + k1 * 2, none⟩) hbl1).trans hS.1, (kq.cell (p := ⟨b8, o8 + k1 * 2 + 1, none⟩) hbl1).trans hS.2⟩
            have hS4 : X4.cell? ⟨b8, o8 + k1 * 2, none⟩ = some (.int .i64 y.t) ∧ X4.cell? ⟨b8, o8 + k1 * 2 + 1, none⟩ = some (.slice y.A y.n y.c) := ⟨(hb4.cell (p := ⟨b8, o8 + k1 * 2, none⟩) hb8b).trans hS.1, (hb4.cell (p := ⟨b8, o8 + k1 * 2 + 1, none⟩) hb8b).trans hS.2⟩
            have hlen2 : (lo2 ++ [(⟨y.t, y.A, y.n, y.c, y.r, 1⟩ : Ch)]).length = lo2.length + 1 := by simp
            have HRES := hide (show lo2.length + 1 = k1 + 1 ∧ (lo2 ++ [(⟨y.t, y.A, y.n, y.c, y.r, 1⟩ : Ch)]).map thC = (k.take (k1 + 1)).map eT ∧ ∀ z ∈ lo2 ++ [(⟨y.t, y.A, y.n, y.c, y.r, 1⟩ : Ch)], z.n ≤ 1000 from
              ⟨by have := HLEN.out; omega, by rw [List.map_append, HLO.out, HTM.out]; rfl, fun z hz => by
                rcases List.mem_append.1 hz with hz | hz
                · exact HN10.out z hz
                · obtain rfl : z = ⟨y.t, y.A, y.n, y.c, y.r, 1⟩ := by simpa using hz
                  exact hy8⟩)
            have HO4 := hide hown4
            have HR4 := hide hrows4
            have HB4 := hide (hB1.trans hb4)
            clear hown1 hrows1 hown4 hrows4 hblk4 hyr1 kq hb4 hB1
            refine Held.one (i := 12) rfl (by kernel_rfl) rfl (fun K hK => ?_)
            unfold Oper.wp
            go_simp
            refine hK _ _ (fun _ => hS2) ?_
            try simp only [Act.put]
            clear hK K
            refine Held.one (i := 13) rfl (by kernel_rfl) rfl (fun K hK => ?_)
            refine wp_append_is _ _ 67 rfl rfl rfl rfl hrun ?_
            refine hK _ _ (fun _ => hS4) ?_
            try simp only [Act.put]
            clear hK K hrun
            refine Held.one (i := 14) rfl (by kernel_rfl) rfl (fun K hK => ?_)
            unfold Oper.wp
            go_simp
            refine hK _ _ (fun h => absurd rfl h) ?_
            try simp only [Act.put]
            clear hK K hS hS2 hS4
            refine Held.done (by kernel_rfl) ?_
            go_wp2_with fail
            go_roundw
            case rel => exact ⟨k1 + 1, A', c', lo2 ++ [⟨y.t, y.A, y.n, y.c, y.r, 1⟩], by omega, by go_num, by rw [hlen2], by rw [hlen2]; exact HRES.out.1, HRES.out.2.1, HRES.out.2.2, by rw [hlen2] at *; exact HO4.out, HR4.out, HB4.out⟩
            case measure => first | (simp [intOf]; done) | (simp [intOf]; omega)
          · obtain rfl : k1 = n8 := by omega
            have htk : k.take k1 = k := List.take_of_length_le (by rw [HKL.out]; omega)
            have hsz : wr.heap.size ≥ W8.heap.size := hBz.size
            have hLz : ChgR wr wr.heap.size Ao lo2.length lo2 := ⟨Reads.of_own hown, fun i hi => (hrows i hi).mono hsz, by omega⟩
            have HTH := hide (show lo2.map thC = k.map eT from by have := HLO.out; rwa [htk] at this)
            have HWM := hide (show ∀ y ∈ lo2, okR y.r = true ∧ -400000 ≤ y.m ∧ y.m ≤ 400000 from fun y hy => by
              have h5 : thC y ∈ k.map eT := by rw [← HTH.out]; exact List.mem_map.2 ⟨y, hy, rfl⟩
              obtain ⟨z, hz, e⟩ := List.mem_map.1 h5
              have e1 : y.r = z.r := congrArg Th.r e.symm
              have e2 : y.m = 1 := congrArg Th.m e.symm
              exact ⟨by rw [e1]; exact HKO.out z hz, by omega, by omega⟩)
            have HSG := hide (summed_any Ag g.length cg g wr (HC8.out.keepB hBz) (by omega) 400000 (by omega) (by omega) (by omega) (fun y hy => (HGP.out.gk y hy).1) (fun y hy => (HGP.out.gk y hy).2))
            have HLZ := hide hLz
            have HBZ := hide (bstep HB8.out hBz)
            have HTZ := hide (HT8.out.below hBz)
            clear hown hrows hBz hsz hLz htk
            go_wp2_with fail
            refine HSG.out.mono ?_
            rintro e V2 ⟨D1, x1, l1, rfl, hl1, hch1, hb2⟩
            have HSM2 := hide (summed_any Ao lo2.length co lo2 V2 (HLZ.out.keepB hb2) (by omega) 400000 (by omega) (by omega) (by omega) HWM.out HN10.out)
            have HB12 := hide hb2
            have HCH1 := hide hch1
            have HL1 := hide hl1
            clear hb2 HSG hch1 hl1
            go_wp2_with fail
            refine HSM2.out.mono ?_
            rintro e V3 ⟨D2, x2, l2, rfl, hl2, hch2, hb3⟩
            have HSC := hide (same_jn (c := x1) (c' := x2) (HCH1.out.keepB hb3) hch2 rfl rfl (HL1.out.trans (HSUM.out.trans ((congrArg sumT HTH.out).symm.trans hl2.symm))))
            have HB13 := hide (bstep HB12.out hb3)
            clear hl2 hch2 hb3 HSM2 HB12 HCH1 HL1
            go_wp2_with fail
            refine HSC.out.mono ?_
            rintro e V4 ⟨rfl, hb4⟩
            have hb14 := bstep HB13.out hb4
            have HT9 := hide (HTZ.out.below hb14)
            have HB9 := hide (bstep HBZ.out hb14)
            clear hb4 hb14 HSC HB13
            go_wp2_with fail
            refine (awake9_any V4 HT9.out).mono ?_
            rintro e V5 ⟨rfl, hb⟩
            have HB := hide (bstep HB9.out hb)
            clear hb
            go_wp2
            go_ret
            exact ⟨rfl, HB.out⟩
end Go.Proofs.YtoapjidpfghnlaaGreatDoor
