/-
  The walk of the reference's side, told the right. No condition. (Printed by gen_jnY.)
-/
import Derived.Test.YtoapjidpfghnlaaGreatDoorJnYc
namespace Go.Proofs.YtoapjidpfghnlaaGreatDoor
open Go.RowKit
attribute [local go_sem] Oper.semAt_some wide_fn wide_depth
set_option linter.unusedVariables false
set_option linter.unusedSimpArgs false
set_option maxRecDepth 100000 in
set_option maxHeartbeats 32000000 in
theorem rside_false {base b q : Nat} {s : JoS} {mk : Int} {vL vR : Value} {Ll Rl : List Ch} (t : Int) (Ar : Option Addr) (nr cr : Nat) (x : Rw) (m : Int) (w : World) (h : JR w base b s mk vL Ll vR Rl)
    (hbl : BdT s.on q (Ll.map thC)) (hbr : BdT s.others q (Rl.map thC)) (hnn : s.on.length = s.others.length) (hq : q ≤ 40) (hbase : base ≤ w.heap.size) (hn1 : s.n1 ≤ 1000) (hn2 : s.n2 ≤ 1000) (hr : RowK w w.heap.size Ar nr x) (hm : -100 ≤ m ∧ m ≤ 100) :
    Calls Tryz.prog 112 #[.pointer (some ⟨b, 0, none⟩), .agg #[.int .i64 t, .slice Ar nr cr, .int .i64 m], .bool false] w (RetRs false w base b s mk vL Ll vR Rl ⟨t, m, x⟩) := by
  obtain ⟨E, hE⟩ : ∃ E, jnE false s.others s.on s.lo s.hi mk ⟨t, m, x⟩ (Ll.map thC) = E := ⟨_, rfl⟩
  have HE := hide (show jnE false (ownS false s) (othS false s) s.lo s.hi mk ⟨t, m, x⟩ ((if false = true then Rl else Ll).map thC) = E from hE)
  have HUE := hide (show (if okCh t x m then (if hasC x s.others then (if t < mk then (12 : Int) else (if (jnL false s.others s.on s.lo s.hi ⟨t, m, x⟩ (Ll.map thC)).any badJ then 4 else 0)) else 7) else 1) = E from hE)
  clear hE
  obtain ⟨AO, cO, hvO, _⟩ := own_form h.l.own
  obtain ⟨AS, cS, hvS, _⟩ := own_form h.r.own
  subst hvO hvS
  obtain ⟨nO, hnO⟩ : ∃ n, Ll.length = n := ⟨_, rfl⟩
  obtain ⟨nS, hnS⟩ : ∃ n, Rl.length = n := ⟨_, rfl⟩
  have hrlen := hr.len
  have HJ := hide h
  have HBL := hide hbl
  have HBR := hide hbr
  have hlO : Ll.length ≤ 40 := by have h5 := hbl.len; rw [List.length_map] at h5; omega
  have hlS : Rl.length ≤ 40 := by have h5 := hbr.len; rw [List.length_map] at h5; omega
  have HLO := hide (show ∀ y ∈ Ll, okR y.r = true ∧ -4000 ≤ y.m ∧ y.m ≤ 4000 ∧ hasC y.r s.on = true ∧ -1000000000000 ≤ y.t ∧ y.t ≤ 1000000000000 from fun y hy => by
    have h5 := hbl.ok (thC y) (List.mem_map.2 ⟨y, hy, rfl⟩)
    have h6 := hbl.num (thC y) (List.mem_map.2 ⟨y, hy, rfl⟩)
    have h7 : (thC y).m = y.m := rfl
    have h8 : (thC y).t = y.t := rfl
    exact ⟨h5.1, by omega, by omega, h5.2.1, by omega, by omega⟩)
  have HLS := hide (show ∀ y ∈ Rl, okR y.r = true ∧ -1000000000 ≤ y.m ∧ y.m ≤ 1000000000 from fun y hy => by
    have h5 := hbr.ok (thC y) (List.mem_map.2 ⟨y, hy, rfl⟩)
    have h6 := hbr.num (thC y) (List.mem_map.2 ⟨y, hy, rfl⟩)
    have h7 : (thC y).m = y.m := rfl
    exact ⟨h5.1, by omega, by omega⟩)
  have hB0 := below_val (w := w) #[.int .i64 t, .slice Ar nr cr, .int .i64 m] 57
  have kb := Blk.new w 57 #[.int .i64 t, .slice Ar nr cr, .int .i64 m]
  have hr0 := (hr.below hB0).mono hB0.size
  have hbw := h.blk.lt
  have hlen1 : s.on.length = s.n1 := h.on.rd.len1
  have hlen2 : s.others.length = s.n2 := h.ot.rd.len1
  have H12 := hide (show s.n1 = s.n2 by omega)
  have HRW := hide hr
  rw [hnO, hnS] at HJ
  rw [hnO] at hlO
  rw [hnS] at hlS
  have HNO := hide hnO
  have HNS := hide hnS
  clear h hr hbl hbr hnn hlen1 hlen2 hnO hnS
  try rw [HNO.out, HNS.out]
  try rw [HNS.out, HNO.out]
  go_enter Tryz.func112, Tryz.ntmps112
  go_upto_region 1 with fail
  obtain ⟨W0, hW0⟩ : ∃ W0, w.alloc (.cells #[.int .i64 t, .slice Ar nr cr, .int .i64 m] 57) = W0 := ⟨_, rfl⟩
  obtain ⟨cb, hcb⟩ : ∃ cb, w.heap.size = cb := ⟨_, rfl⟩
  rw [hW0] at hB0 kb hr0 ⊢
  rw [hcb] at kb ⊢
  clear hW0
  have b0 : W0.cell? ⟨cb, 0, none⟩ = some (.int .i64 t) := by simpa using kb.cell 0
  have b1 : W0.cell? ⟨cb, 1, none⟩ = some (.slice Ar nr cr) := by simpa using kb.cell 1
  have b2 : W0.cell? ⟨cb, 2, none⟩ = some (.int .i64 m) := by simpa using kb.cell 2
  have HB0 := hide hB0
  have HKB := hide kb
  have HR0 := hide hr0
  clear hB0 kb
  go_wp2_with fail
  refine (RValidChange_any t Ar nr cr x m W0 hr0).mono ?_
  rintro e W1 ⟨rfl, hB1⟩
  clear b0 b1 b2 hr0
  obtain ⟨q1, hq1⟩ : ∃ q, okCh t x m = q := ⟨_, rfl⟩
  rw [hq1]
  have HQ1 := hide hq1
  clear hq1
  cases q1
  · have HEE := hide (show E = 1 from by rw [← HUE.out, HQ1.out]; rfl)
    have HB := hide (bstep HB0.out hB1)
    clear hB1
    go_wp2
    refine bodyPost_ret (results_tmp2 rfl _ _ _) rfl ?_
    exact RetRs.bad (HE.out.trans HEE.out) (by decide) HJ.out HB.out
  try simp only [Bool.not_true, Bool.not_false]
  have hxo : okR x = true := (okCh_at (c := ⟨t, m, x⟩) HQ1.out).1
  have hct := (okCh_at (c := ⟨t, m, x⟩) HQ1.out).2.2
  have hnr8 : nr ≤ 8 := by have h5 := okR_len hxo; have h2 : x.length = nr := hrlen; omega
  have HJ1 := hide (HJ.out.below (bstep HB0.out hB1))
  have hbl1 := HJ1.out.blk.lt
  have j0 := HJ1.out.blk.cell 0
  have j1 := HJ1.out.blk.cell 1
  have j4 := HJ1.out.blk.cell 4
  have j5 := HJ1.out.blk.cell 5
  simp [JoS.rcells] at j0 j1 j4 j5
  have p0 := fun (p : BW W1) => BW.cell (a := ⟨b, 0, none⟩) hbl1 j0 p
  have p5 := fun (p : BW W1) => BW.cell (a := ⟨b, 5, none⟩) hbl1 j5 p
  clear j0 j1 j4 j5
  go_wp2_with fail
  (refine wp_region_quiet_bw (by kernel_rfl) (by kernel_rfl) ?_
   repeat (first | go_big_quiet_step ((fail)) | quiet_step ((fail)))
   refine wpQuiet_nil ?_
   intro wq hw'
   obtain ⟨⟨_, hbq⟩, hw''⟩ := hw'
   subst hw'')
  clear p0 p5
  have hB2 := bstep hB1 hbq
  clear hbq hB1
  obtain ⟨W2, hW2⟩ : ∃ V : World, V = wq := ⟨_, rfl⟩
  subst hW2
  have HJ2 := hide (HJ.out.below (bstep HB0.out hB2))
  have hbl2 := HJ2.out.blk.lt
  have j1 := HJ2.out.blk.cell 1
  have j4 := HJ2.out.blk.cell 4
  simp [JoS.rcells] at j1 j4
  have p1 := fun (p : BW W2) => BW.cell (a := ⟨b, 1, none⟩) hbl2 j1 p
  have p4 := fun (p : BW W2) => BW.cell (a := ⟨b, 4, none⟩) hbl2 j4 p
  clear j1 j4
  go_wp2_with fail
  (refine wp_region_quiet_bw (by kernel_rfl) (by kernel_rfl) ?_
   repeat (first | go_big_quiet_step ((fail)) | quiet_step ((fail)))
   refine wpQuiet_nil ?_
   intro wq hw'
   obtain ⟨⟨_, hbq⟩, hw''⟩ := hw'
   subst hw'')
  clear p1 p4
  have hB3 := bstep hB2 hbq
  clear hbq hB2
  obtain ⟨W3, hW3⟩ : ∃ V : World, V = wq := ⟨_, rfl⟩
  subst hW3
  have hB2 := hB3
  clear hB3
  obtain ⟨W2, hW2⟩ : ∃ V : World, V = W3 := ⟨_, rfl⟩
  rw [← hW2] at hB2 ⊢
  clear hW2
  have HJ2 := hide (HJ.out.below (bstep HB0.out hB2))
  have c1 : W2.cell? ⟨cb, 1, none⟩ = some (.slice Ar nr cr) := by simpa using (HKB.out.below hB2 HKB.out.lt).cell 1
  go_wp2_with fail
  refine (rhas_any Ar nr cr x s.A2 s.n2 s.c2 s.others W2 hrlen (by omega) HJ2.out.ot.rd (by omega)).mono ?_
  rintro e W4 ⟨rfl, hb⟩
  have hB4 := bstep hB2 hb
  clear hb hB2 c1 HJ2
  obtain ⟨q2, hq2⟩ : ∃ q, hasC x s.others = q := ⟨_, rfl⟩
  rw [hq2]
  have HQ2 := hide hq2
  clear hq2
  cases q2
  · have HEE := hide (show E = 7 from by rw [← HUE.out, HQ1.out, HQ2.out]; rfl)
    have HB := hide (bstep HB0.out hB4)
    clear hB4
    go_wp2
    refine bodyPost_ret (results_tmp2 rfl _ _ _) rfl ?_
    exact RetRs.bad (HE.out.trans HEE.out) (by decide) HJ.out HB.out
  try simp only [Bool.not_true, Bool.not_false]
  have HJ4 := hide (HJ.out.below (bstep HB0.out hB4))
  have hbl4 := HJ4.out.blk.lt
  have j6 := HJ4.out.blk.cell 6
  simp [JoS.rcells] at j6
  have kb4 := HKB.out.below hB4 HKB.out.lt
  have c0 : W4.cell? ⟨cb, 0, none⟩ = some (.int .i64 t) := by simpa using kb4.cell 0
  have p6 := fun (p : BW W4) => BW.cell (a := ⟨b, 6, none⟩) hbl4 j6 p
  have pc0 := fun (p : BW W4) => BW.cell (a := ⟨cb, 0, none⟩) kb4.lt c0 p
  obtain ⟨q3, hq3⟩ : ∃ q, decide (t < mk) = q := ⟨_, rfl⟩
  have HQ3 := hide hq3
  clear j6 c0
  go_wp2_with fail
  (refine wp_region_quiet_bw (by kernel_rfl) (by kernel_rfl) ?_
   repeat (first | go_big_quiet_step ((fail)) | quiet_step ((fail)))
   refine wpQuiet_nil ?_
   intro wq hw'
   obtain ⟨⟨_, hbq⟩, hw''⟩ := hw'
   subst hw'')
  clear p6 pc0 kb4 hq3
  have hB5 := bstep hB4 hbq
  clear hbq hB4 HJ4
  obtain ⟨W5, hW5⟩ : ∃ V : World, V = wq := ⟨_, rfl⟩
  subst hW5
  cases q3
  case true =>
    have HEE := hide (show E = 12 from by rw [← HUE.out, HQ1.out, HQ2.out, if_pos rfl, if_pos rfl, if_pos (of_decide_eq_true HQ3.out)])
    have HB := hide (bstep HB0.out hB5)
    clear hB5
    go_wp2
    refine bodyPost_ret (results_tmp2 rfl _ _ _) rfl ?_
    exact RetRs.bad (HE.out.trans HEE.out) (by decide) HJ.out HB.out
  have HUE2 := hide (show (if (jnL false s.others s.on s.lo s.hi ⟨t, m, x⟩ (Ll.map thC)).any badJ then (4 : Int) else 0) = E from by
    rw [← HUE.out, HQ1.out, HQ2.out, if_pos rfl, if_pos rfl, if_neg (of_decide_eq_false HQ3.out)])
  go_wp2_with fail
  go_loopw [10, 11, 12, 13, 14] (fun vo i _ _ _ wr => ∃ (j : Nat) (Ao : Option Addr) (co : Nat) (lst : List Ch), j ≤ nO ∧ i = .int .i64 j ∧ vo = .slice Ao lst.length co ∧ lst.map thC = sumT (jnL false s.others s.on s.lo s.hi ⟨t, m, x⟩ ((Ll.take j).map thC)) ∧ (jnL false s.others s.on s.lo s.hi ⟨t, m, x⟩ ((Ll.take j).map thC)).any badJ = false ∧
    Reads wr wr.heap.size 3 Ao lst.length (lst.flatMap encCh) ∧ RowsC wr base lst ∧ (0 < lst.length → ∀ b' off mm, Ao = some ⟨b', off, mm⟩ → W0.heap.size ≤ b') ∧ Below W0.heap.size W0 wr) (fun _ i _ _ _ _ => nO - (intOf i).toNat)
  case atStart => exact ⟨0, none, 0, [], Nat.zero_le _, rfl, rfl, rfl, rfl, ⟨rfl, nofun⟩, (by intro i hi; cases hi), (fun h => absurd h (Nat.lt_irrefl 0)), hB5⟩
  case round =>
    clear hB5
    obtain ⟨j, Ao, co, lst, hj, rfl, rfl, hlst, hbad, hrdo, hrows, hfar, hB⟩ := hrel
    have HFAR := hide hfar
    clear hfar
    have HSM := hide (jnL_small (c := ⟨t, m, x⟩) hxo hm (l := (Ll.take j).map thC) (fun z hz => by
      obtain ⟨y, hy, rfl⟩ := List.mem_map.1 hz
      have h5 := HLO.out y (List.mem_of_mem_take hy)
      exact ⟨h5.1, h5.2.1, h5.2.2.1⟩) hbad)
    have hlen9 : (jnL false s.others s.on s.lo s.hi ⟨t, m, x⟩ ((Ll.take j).map thC)).length ≤ 40 := by
      have h5 := jnL_len false s.others s.on s.lo s.hi ⟨t, m, x⟩ ((Ll.take j).map thC)
      rw [List.length_map, List.length_take] at h5
      omega
    have HLS2 := hide (show ∀ y ∈ lst, okR y.r = true ∧ -1000000000 ≤ y.m ∧ y.m ≤ 1000000000 from fun y hy => by
      have h5 := sumT_small (M := 400000) (by omega) (fun z hz => (HSM.out z hz).1) (fun z hz => (HSM.out z hz).2) (thC y) (by rw [← hlst]; exact List.mem_map.2 ⟨y, hy, rfl⟩)
      have h7 : (thC y).m = y.m := rfl
      have h8 : (thC y).r = y.r := rfl
      rw [h8] at h5
      exact ⟨h5.1, by omega, by omega⟩)
    have hll : lst.length ≤ 40 := by
      have h5 := congrArg List.length hlst
      rw [List.length_map] at h5
      have h6 := sumT_len (jnL false s.others s.on s.lo s.hi ⟨t, m, x⟩ ((Ll.take j).map thC))
      omega
    have HLST := hide hlst
    have HBAD := hide hbad
    clear hlst hbad hlen9
    have hBw := bstep HB0.out hB
    have HJr := hide (HJ.out.below hBw)
    have kbr := HKB.out.below hB HKB.out.lt
    have c0 : wr.cell? ⟨cb, 0, none⟩ = some (.int .i64 t) := by simpa using kbr.cell 0
    have c1 : wr.cell? ⟨cb, 1, none⟩ = some (.slice Ar nr cr) := by simpa using kbr.cell 1
    have c2 : wr.cell? ⟨cb, 2, none⟩ = some (.int .i64 m) := by simpa using kbr.cell 2
    by_cases hlt : j < nO
    · have hownO : wr.ownsRow base 57 3 (.slice AO nO cO) nO (Ll.flatMap encCh) := by
        have h9 := HJr.out.l.own
        rw [HNO.out] at h9
        exact h9
      obtain ⟨bq, oq, y, hA, hbl, hyl, hyc⟩ := (Reads.of_own hownO).elem encCh_len HNO.out hlt
      have hyin := List.mem_of_getElem? hyl
      have hyr := HJr.out.l.rows y hyin
      obtain ⟨hyo, hy1, hy2, hyh, hy3, hy4⟩ := HLO.out y hyin
      have HYIN := hide hyin
      have HNX := hide (jnL_next (left := false) (own := s.others) (oth := s.on) (lo := s.lo) (hi := s.hi) (c := ⟨t, m, x⟩) hyl)
      have e0 : wr.cell? ⟨bq, oq + j * 3, none⟩ = some (.int .i64 y.t) := by simpa using hyc 0 _ rfl
      have e1 : wr.cell? ⟨bq, oq + j * 3 + 1, none⟩ = some (.slice y.A y.n y.c) := by simpa [Nat.add_assoc] using hyc 1 _ rfl
      have e2 : wr.cell? ⟨bq, oq + j * 3 + 2, none⟩ = some (.int .i64 y.m) := by simpa [Nat.add_assoc] using hyc 2 _ rfl
      have q1 : (0 : Int) ≤ (j : Int) := by omega
      have q2 : (j : Int) < (nO : Int) := by omega
      subst hA
      clear hyc hyl hyin hownO
      go_upto_region 14 with fail
      go_cut [12, 13] from 52 to 132 (fun s12 s13 wx => ∃ ab bb : Nat, s12 = .pointer (some ⟨ab, 0, none⟩) ∧ s13 = .pointer (some ⟨bb, 0, none⟩) ∧ ab ≠ bb ∧ (wr.heap.size ≤ ab ∧ wr.heap.size ≤ bb) ∧ Blk wx ab 57 #[.int .i64 t, .slice Ar nr cr, .int .i64 m] ∧ Blk wx bb 57 #[.int .i64 y.t, .slice y.A y.n y.c, .int .i64 y.m] ∧ Below wr.heap.size wr wx)
      case first =>
        have HP1 := hide (show ∀ O1 O2 : Obj, Below wr.heap.size wr ((wr.alloc O1).alloc O2).drew from fun O1 O2 => (((Below.refl _ _).alloc (Nat.le_refl _) _).alloc (by simp) _).drew)
        have HP2 := hide (show ∀ (cs : Array Value) (O2 : Obj), Blk ((wr.alloc (.cells cs 57)).alloc O2).drew wr.heap.size 57 cs from fun cs O2 => ((Blk.new wr 57 cs).alloc O2).below (Below.refl _ _).drew ((Blk.new wr 57 cs).alloc O2).lt)
        have HP3 := hide (show ∀ (O1 : Obj) (cs : Array Value), Blk ((wr.alloc O1).alloc (.cells cs 57)).drew (wr.heap.size + 1) 57 cs from fun O1 cs => by
          have h5 := (Blk.new (wr.alloc O1) 57 cs).below (Below.refl _ _).drew (Blk.new (wr.alloc O1) 57 cs).lt
          rw [World.size_alloc] at h5
          exact h5)
        have hcbl := kbr.lt
        clear hB hrdo hrows hyr kbr hBw
        go_region
        · go_wp2
          go_meet
          case rel => exact ⟨wr.heap.size, wr.heap.size + 1, rfl, rfl, by omega, by omega, HP2.out _ _, HP3.out _ _, HP1.out _ _⟩
        · go_wp2
          go_meet
          case rel => exact ⟨wr.heap.size + 1, wr.heap.size, rfl, rfl, by omega, by omega, HP3.out _ _, HP2.out _ _, HP1.out _ _⟩
      case rest =>
      obtain ⟨ab, bb, rfl, rfl, hab, hfar, ka, kb, hbv⟩ := hcut
      obtain ⟨V, hV⟩ : ∃ V : World, V = wc := ⟨_, rfl⟩
      subst hV
      have hB1 := hB
      have hrdo1 := hrdo
      have hrows1 := hrows
      have hyr1 := hyr
      have hblV := Nat.lt_of_lt_of_le hbl hbv.size
      have u0 := (hbv.cell (p := ⟨cb, 0, none⟩) kbr.lt).trans c0
      have u1 := (hbv.cell (p := ⟨cb, 1, none⟩) kbr.lt).trans c1
      have u2 := (hbv.cell (p := ⟨cb, 2, none⟩) kbr.lt).trans c2
      have v0 := (hbv.cell (p := ⟨bq, oq + j * 3, none⟩) hbl).trans e0
      have v1 := (hbv.cell (p := ⟨bq, oq + j * 3 + 1, none⟩) hbl).trans e1
      have v2 := (hbv.cell (p := ⟨bq, oq + j * 3 + 2, none⟩) hbl).trans e2
      have hcbV := Nat.lt_of_lt_of_le kbr.lt hbv.size
      have hxa : wr.heap.size ≤ ab ∧ wr.heap.size ≤ bb := hfar
      have n1 : cb < ab := Nat.lt_of_lt_of_le kbr.lt hfar.1
      have n2 : cb < bb := Nat.lt_of_lt_of_le kbr.lt hfar.2
      have n3 : bq < ab := Nat.lt_of_lt_of_le hbl hfar.1
      have n4 : bq < bb := Nat.lt_of_lt_of_le hbl hfar.2
      clear hbl hB hrdo hrows hyr c0 c1 c2 e0 e1 e2 kbr hBw
      go_upto_region 16 with fail
      have fa0 := ka.frozen 0
      have fa1 := ka.frozen 1
      have fa2 := ka.frozen 2
      have fb0 := kb.frozen 0
      have fb1 := kb.frozen 1
      have fb2 := kb.frozen 2
      have w0 := ka.cell 0
      have w1 := ka.cell 1
      have w2 := ka.cell 2
      have z0 := kb.cell 0
      have z1 := kb.cell 1
      have z2 := kb.cell 2
      simp at w0 w1 w2 z0 z1 z2
      have HKA := hide ka
      have HKB2 := hide kb
      have HBV := hide hbv
      have HXA := hide hxa
      have HAB := hide hab
      go_cut [12] from 52 to 132 (fun s12 wx => s12 = .pointer (some ⟨ab, 0, none⟩) ∧ Blk wx ab 57 #[.int .i64 y.t, .slice y.A y.n y.c, .int .i64 y.m] ∧ Blk wx bb 57 #[.int .i64 t, .slice Ar nr cr, .int .i64 m] ∧ Below wr.heap.size wr wx)
      case first =>
        clear hB1 hrdo1 hrows1 hyr1
        go_region
        all_goals
          go_wp2
          go_meet
          case rel =>
            first
            | exact ⟨rfl, ((HKA.out.st3 _ _ _).st3_ne HAB.out _ _ _).drw, (((HKB2.out.st3_ne (Ne.symm HAB.out) _ _ _)).st3 _ _ _).drw, (below_st3 (below_st3 HBV.out HXA.out.1 _ _ _) HXA.out.2 _ _ _).drew⟩
            | exact ⟨rfl, ((HKA.out.st3_ne HAB.out _ _ _).st3 _ _ _).drw, ((HKB2.out.st3 _ _ _).st3_ne (Ne.symm HAB.out) _ _ _).drw, (below_st3 (below_st3 HBV.out HXA.out.2 _ _ _) HXA.out.1 _ _ _).drew⟩
      case rest =>
      obtain ⟨_, ka, kb, hbv⟩ := hcut
      obtain ⟨V2, hV2⟩ : ∃ V : World, V = wc := ⟨_, rfl⟩
      subst hV2
      clear hblV u0 u1 u2 v0 v1 v2 hcbV fa0 fa1 fa2 fb0 fb1 fb2 w0 w1 w2 z0 z1 z2 HKA HKB2 HBV hxa n1 n2 n3 n4
      obtain ⟨V, hV⟩ : ∃ V : World, V = V2 := ⟨_, rfl⟩
      rw [← hV] at ka kb hbv ⊢
      clear hV
      go_upto_region 17 with fail
      have hBV := bstep hB1 hbv
      have hrdoV := hrdo1.up hbv
      have hrowsV : RowsC V base lst := fun i hi => (hrows1 i hi).below hbv
      have hbaseV : base ≤ V.heap.size := Nat.le_trans hbase (bstep HB0.out hBV).size
      have hyV := (hyr1.below hbv).mono hbaseV
      have hrV := (HR0.out.below hBV).mono hBV.size
      have HJV := hide (HJ.out.below (bstep HB0.out hBV))
      have hblV := HJV.out.blk.lt
      have j0 := HJV.out.blk.cell 0
      have j1 := HJV.out.blk.cell 1
      have j2 := HJV.out.blk.cell 2
      have j3 := HJV.out.blk.cell 3
      simp [JoS.rcells] at j0 j1 j2 j3
      have a0 : V.cell? ⟨ab, 0, none⟩ = some (.int .i64 y.t) := by simpa using ka.cell 0
      have a1 : V.cell? ⟨ab, 1, none⟩ = some (.slice y.A y.n y.c) := by simpa using ka.cell 1
      have a2 : V.cell? ⟨ab, 2, none⟩ = some (.int .i64 y.m) := by simpa using ka.cell 2
      have b0 : V.cell? ⟨bb, 0, none⟩ = some (.int .i64 t) := by simpa using kb.cell 0
      have b1 : V.cell? ⟨bb, 1, none⟩ = some (.slice Ar nr cr) := by simpa using kb.cell 1
      have b2 : V.cell? ⟨bb, 2, none⟩ = some (.int .i64 m) := by simpa using kb.cell 2
      have p0 := fun (p : BW V) => BW.cell (a := ⟨b, 0, none⟩) hblV j0 p
      have p1 := fun (p : BW V) => BW.cell (a := ⟨b, 1, none⟩) hblV j1 p
      have p2 := fun (p : BW V) => BW.cell (a := ⟨b, 2, none⟩) hblV j2 p
      have p3 := fun (p : BW V) => BW.cell (a := ⟨b, 3, none⟩) hblV j3 p
      have pa0 := fun (p : BW V) => BW.cell (a := ⟨ab, 0, none⟩) ka.lt a0 p
      have pa1 := fun (p : BW V) => BW.cell (a := ⟨ab, 1, none⟩) ka.lt a1 p
      have pb0 := fun (p : BW V) => BW.cell (a := ⟨bb, 0, none⟩) kb.lt b0 p
      have pb1 := fun (p : BW V) => BW.cell (a := ⟨bb, 1, none⟩) kb.lt b1 p
      have hw9 : IntKind.i64.wrap (t - y.t) = t - y.t := by rw [IntKind.wrap_i64]; omega
      have HC1 := hide (fun (p : BW V) => calls_bw (p := p) (R9withinW (t - y.t) s.lo s.hi p.x))
      have HC2 := hide (fun (p : BW V) => calls_bw (p := p) (equal_any s.A1 s.n1 s.c1 s.on s.A2 s.n2 s.c2 s.others y.A y.n y.c y.r Ar nr cr x p.x ((HJV.out.below p.h).on.rd) ((HJV.out.below p.h).ot.rd) H12.out (by omega) ((hyV.below p.h).mono p.h.size) ((hrV.below p.h).mono p.h.size) (okR_all hyo) (okR_all hxo) hyh HQ2.out))
      obtain ⟨u, hu⟩ : ∃ u, btw (t - y.t) s.lo s.hi = u := ⟨_, rfl⟩
      obtain ⟨v2, hv2⟩ : ∃ v2, eqK s.on s.others y.r x = v2 := ⟨_, rfl⟩
      have HMT := hide (show (btw (dtT false ⟨t, m, x⟩ (thC y)) s.lo s.hi && eqJ false s.others s.on ⟨t, m, x⟩ (thC y)) = (u && v2) from by rw [← hu, ← hv2]; rfl)
      rw [hu] at HC1
      rw [hv2] at HC2
      clear hu hv2 j0 j1 j2 j3
      go_cut [100] from 52 to 132 (fun s100 wx => s100 = .bool (!(u && v2)) ∧ Below V.heap.size V wx)
      case first =>
        clear hBV hrdoV hrowsV hyV hrV a0 a1 a2 b0 b1 b2
        cases u
        · skip
          (refine wp_region_quiet_bw (by kernel_rfl) (by kernel_rfl) ?_
           repeat (first | go_big_quiet_step (((go_at_call 77; with_reducible exact HC1.out _))) | quiet_step (((go_at_call 77; with_reducible exact HC1.out _))))
           refine wpQuiet_nil ?_
           intro wq hw'
           obtain ⟨⟨_, hbq⟩, hw''⟩ := hw'
           subst hw'')
          have HBQ := hide hbq
          clear hbq p0 p1 p2 p3 pa0 pa1 pb0 pb1 HC1 HC2
          go_wp2_with fail
          go_meet
          case rel => exact ⟨rfl, HBQ.out⟩
        · cases v2
          · skip
            (refine wp_region_quiet_bw (by kernel_rfl) (by kernel_rfl) ?_
             repeat (first | go_big_quiet_step ((first | (go_at_call 77; with_reducible exact HC1.out _) | (go_at_call 78; with_reducible exact HC2.out _))) | quiet_step ((first | (go_at_call 77; with_reducible exact HC1.out _) | (go_at_call 78; with_reducible exact HC2.out _))))
             refine wpQuiet_nil ?_
             intro wq hw'
             obtain ⟨⟨_, hbq⟩, hw''⟩ := hw'
             subst hw'')
            have HBQ := hide hbq
            clear hbq p0 p1 p2 p3 pa0 pa1 pb0 pb1 HC1 HC2
            go_wp2_with fail
            go_meet
            case rel => exact ⟨rfl, HBQ.out⟩
          · skip
            (refine wp_region_quiet_bw (by kernel_rfl) (by kernel_rfl) ?_
             repeat (first | go_big_quiet_step ((first | (go_at_call 77; with_reducible exact HC1.out _) | (go_at_call 78; with_reducible exact HC2.out _))) | quiet_step ((first | (go_at_call 77; with_reducible exact HC1.out _) | (go_at_call 78; with_reducible exact HC2.out _))))
             refine wpQuiet_nil ?_
             intro wq hw'
             obtain ⟨⟨_, hbq⟩, hw''⟩ := hw'
             subst hw'')
            have HBQ := hide hbq
            clear hbq p0 p1 p2 p3 pa0 pa1 pb0 pb1 HC1 HC2
            go_wp2_with fail
            go_meet
            case rel => exact ⟨rfl, HBQ.out⟩
      case rest =>
        obtain ⟨rfl, hbq⟩ := hcut
        obtain ⟨Y, hY⟩ : ∃ V : World, V = wc := ⟨_, rfl⟩
        subst hY
        have hBY := bstep hBV hbq
        have hrdoY := hrdoV.up hbq
        have hrowsY : RowsC Y base lst := fun i hi => (hrowsV i hi).below hbq
        have hyY := (hyV.below hbq).mono hbq.size
        have hrY := (hrV.below hbq).mono hbq.size
        have a0 := (hbq.cell (p := ⟨ab, 0, none⟩) ka.lt).trans a0
        have a1 := (hbq.cell (p := ⟨ab, 1, none⟩) ka.lt).trans a1
        have a2 := (hbq.cell (p := ⟨ab, 2, none⟩) ka.lt).trans a2
        have b0 := (hbq.cell (p := ⟨bb, 0, none⟩) kb.lt).trans b0
        have b1 := (hbq.cell (p := ⟨bb, 1, none⟩) kb.lt).trans b1
        have b2 := (hbq.cell (p := ⟨bb, 2, none⟩) kb.lt).trans b2
        clear hbq p0 p1 p2 p3 pa0 pa1 pb0 pb1 HC1 HC2 hBV hrdoV hrowsV hyV hrV HJV ka kb hblV
        cases hmt : (u && v2)
        · have HN2 := hide (show lst.map thC = sumT (jnL false s.others s.on s.lo s.hi ⟨t, m, x⟩ ((Ll.take (j + 1)).map thC)) from by
            rw [HNX.out, HMT.out, hmt]; simp only [Bool.false_eq_true, if_false, List.append_nil]; exact HLST.out)
          have HBD := hide (show (jnL false s.others s.on s.lo s.hi ⟨t, m, x⟩ ((Ll.take (j + 1)).map thC)).any badJ = false from by
            rw [HNX.out, HMT.out, hmt]; simp only [Bool.false_eq_true, if_false, List.append_nil]; exact HBAD.out)
          have HRD := hide hrdoY
          have HRR := hide hrowsY
          have HBQ9 := hide hBY
          clear hmt hrdoY hrowsY hBY hyY hrY
          go_wp2_with fail
          go_roundw
          case rel => exact ⟨j + 1, Ao, co, lst, by omega, by go_num, rfl, HN2.out, HBD.out, HRD.out, HRR.out, HFAR.out, HBQ9.out⟩
          case measure => first | (simp [intOf]; done) | (simp [intOf]; omega)
        · have HMT2 := hide (show (btw (dtT false ⟨t, m, x⟩ (thC y)) s.lo s.hi && eqJ false s.others s.on ⟨t, m, x⟩ (thC y)) = true from by rw [HMT.out, hmt])
          clear hmt HMT
          obtain ⟨ra, rb, hRab⟩ : ∃ ra rb : Rw, (jnT false ⟨t, m, x⟩ (thC y)).r = ra ++ rb ∧ ra = y.r ∧ rb = x := ⟨_, _, rfl, rfl, rfl⟩
          have hlen2 : (jnT false ⟨t, m, x⟩ (thC y)).r.length = y.n + nr := by
            have e1 : x.length = nr := hrY.len
            have e2 : y.r.length = y.n := hyY.len
            have e3 : (jnT false ⟨t, m, x⟩ (thC y)).r = y.r ++ x := rfl
            rw [e3, List.length_append, e1, e2]
          clear hRab
          obtain ⟨M, hM⟩ : ∃ M, y.m * m = M := ⟨_, rfl⟩
          have hMb : -400000 ≤ M ∧ M ≤ 400000 := by
            rw [← hM]
            obtain ⟨ma, mb⟩ := hm
            have s1 : (y.m * m).natAbs ≤ 4000 * 100 := by
              rw [Int.natAbs_mul]
              exact Nat.mul_le_mul (by omega) (by omega)
            omega
          have hwm : IntKind.i64.wrap (y.m * m) = M := by rw [hM, IntKind.wrap_i64]; omega
          have HM := hide (show (jnT false ⟨t, m, x⟩ (thC y)).m = M from hM)
          clear hM
          have hyn8 : y.n ≤ 8 := by have h5 := okR_len hyo; have h2 : y.r.length = y.n := hyY.len; omega
          have HRD := hide hrdoY
          have HRR := hide hrowsY
          have HBQ9 := hide hBY
          clear hrdoY hrowsY hBY
          by_cases hN8 : 8 < y.n + nr
          · have d1 : decide ((8 : Int) < (y.n : Int) + (nr : Int)) = true := decide_eq_true (by omega)
            have d1' : decide (8 < y.n + nr) = true := decide_eq_true hN8
            have HEE := hide (show E = 4 from by
              rw [← HUE2.out, if_pos (jnL_bad (List.mem_map.2 ⟨y, HYIN.out, rfl⟩) HMT2.out (by unfold badJ; rw [hlen2]; exact d1'))])
            have HB := hide (bstep HB0.out HBQ9.out)
            clear hN8 hMb hlen2 hyY hrY
            go_wp2_with fail
            refine bodyPost_ret (results_tmp2 rfl _ _ _) rfl ?_
            exact RetRs.bad (HE.out.trans HEE.out) (by decide) HJ.out HB.out
          · have d1 : decide ((8 : Int) < (y.n : Int) + (nr : Int)) = false := decide_eq_false (by omega)
            have d1' : decide (8 < y.n + nr) = false := decide_eq_false hN8
            have hbt : btw M (-1000000) 1000000 = true := btw_iff.2 (by omega)
            have HLN2 := hide hlen2
            have HMB := hide hMb
            clear hN8 hMb hlen2
            have HTH := hide (show ∀ (A6 : Option Addr) (c6 : Nat), thC ⟨max (y.t) (t), A6, y.n + nr, c6, y.r ++ x , M⟩ = jnT false ⟨t, m, x⟩ (thC y) from fun A6 c6 => by
              have h5 := HM.out
              show (⟨max (y.t) (t), M, y.r ++ x ⟩ : Th) = _
              rw [← h5]
              first | rfl | (rw [Int.max_comm]; rfl))
            go_upto_region 21 with (go_at_call 77; refine (R9within_any M (-1000000) 1000000 _).mono ?_; rintro e w' ⟨rfl, rfl⟩; rw [hbt])
            refine Held.begin (fun z => z.cell? ⟨ab, 0, none⟩ = some (.int .i64 y.t) ∧ z.cell? ⟨ab, 1, none⟩ = some (.slice y.A y.n y.c) ∧ z.cell? ⟨bb, 0, none⟩ = some (.int .i64 t) ∧ z.cell? ⟨bb, 1, none⟩ = some (.slice Ar nr cr)) 14 (by kernel_rfl) ?_
            have hbd := (Below.refl Y.heap.size Y).drew
            obtain ⟨X5, hXe⟩ : ∃ X, Y.drew = X := ⟨_, rfl⟩
            rw [hXe] at hbd ⊢
            have hS : X5.cell? ⟨ab, 0, none⟩ = some (.int .i64 y.t) ∧ X5.cell? ⟨ab, 1, none⟩ = some (.slice y.A y.n y.c) ∧ X5.cell? ⟨bb, 0, none⟩ = some (.int .i64 t) ∧ X5.cell? ⟨bb, 1, none⟩ = some (.slice Ar nr cr) := ⟨(hbd.cell (World.block_lt_of_cell? _ _ a0)).trans a0, (hbd.cell (World.block_lt_of_cell? _ _ a1)).trans a1, (hbd.cell (World.block_lt_of_cell? _ _ b0)).trans b0, (hbd.cell (World.block_lt_of_cell? _ _ b1)).trans b1⟩
            have hB5 := bstep HBQ9.out hbd
            have hrd5 := HRD.out.up hbd
            have hrows5 : RowsC X5 base lst := fun i hi => (HRR.out i hi).below hbd
            have hy5 := (hyY.below hbd).mono hbd.size
            have hr5 := (hrY.below hbd).mono hbd.size
            clear hXe hbd a0 a1 a2 b0 b1 b2 hyY hrY
            refine Held.take (i := 0) (.slice Ao lst.length co) rfl hS (by kernel_rfl) (by kernel_rfl) (by kernel_rfl) (by kernel_rfl) (fun _ _ _ h => h) rfl (fun y hy => by obtain ⟨x1, x2, x3, x4⟩ := hy; go_simp) ?_
            try simp only [Act.put]
            refine Held.take (i := 1) (.pointer (some ⟨ab, 0, none⟩)) rfl hS (by kernel_rfl) (by kernel_rfl) (by kernel_rfl) (by kernel_rfl) (fun _ _ _ h => h) rfl (fun y hy => by obtain ⟨x1, x2, x3, x4⟩ := hy; go_simp) ?_
            try simp only [Act.put]
            refine Held.take (i := 2) (.int .i64 y.t) rfl hS (by kernel_rfl) (by kernel_rfl) (by kernel_rfl) (by kernel_rfl) (fun _ _ _ h => h) rfl (fun y hy => by obtain ⟨x1, x2, x3, x4⟩ := hy; go_simp) ?_
            try simp only [Act.put]
            refine Held.take (i := 3) (.pointer (some ⟨bb, 0, none⟩)) rfl hS (by kernel_rfl) (by kernel_rfl) (by kernel_rfl) (by kernel_rfl) (fun _ _ _ h => h) rfl (fun y hy => by obtain ⟨x1, x2, x3, x4⟩ := hy; go_simp) ?_
            try simp only [Act.put]
            refine Held.take (i := 4) (.int .i64 t) rfl hS (by kernel_rfl) (by kernel_rfl) (by kernel_rfl) (by kernel_rfl) (fun _ _ _ h => h) rfl (fun y hy => by obtain ⟨x1, x2, x3, x4⟩ := hy; go_simp) ?_
            try simp only [Act.put]
            refine Held.take (i := 5) (.int .i64 (max (y.t) (t))) rfl hS (by kernel_rfl) (by kernel_rfl) (by kernel_rfl) (by kernel_rfl) (fun _ _ _ h => h) rfl (fun y hy => by obtain ⟨x1, x2, x3, x4⟩ := hy; go_simp) ?_
            try simp only [Act.put]
            refine Held.take (i := 6) (.pointer (some ⟨ab, 1, none⟩)) rfl hS (by kernel_rfl) (by kernel_rfl) (by kernel_rfl) (by kernel_rfl) (fun _ _ _ h => h) rfl (fun y hy => by obtain ⟨x1, x2, x3, x4⟩ := hy; go_simp) ?_
            try simp only [Act.put]
            refine Held.take (i := 7) (.slice y.A y.n y.c) rfl hS (by kernel_rfl) (by kernel_rfl) (by kernel_rfl) (by kernel_rfl) (fun _ _ _ h => h) rfl (fun y hy => by obtain ⟨x1, x2, x3, x4⟩ := hy; go_simp) ?_
            try simp only [Act.put]
            refine Held.take (i := 8) (.pointer (some ⟨bb, 1, none⟩)) rfl hS (by kernel_rfl) (by kernel_rfl) (by kernel_rfl) (by kernel_rfl) (fun _ _ _ h => h) rfl (fun y hy => by obtain ⟨x1, x2, x3, x4⟩ := hy; go_simp) ?_
            try simp only [Act.put]
            refine Held.take (i := 9) (.slice Ar nr cr) rfl hS (by kernel_rfl) (by kernel_rfl) (by kernel_rfl) (by kernel_rfl) (fun _ _ _ h => h) rfl (fun y hy => by obtain ⟨x1, x2, x3, x4⟩ := hy; go_simp) ?_
            try simp only [Act.put]
            refine Held.take (i := 11) (.int .i64 M) rfl hS (by kernel_rfl) (by kernel_rfl) (by kernel_rfl) (by kernel_rfl) (fun _ _ _ h => h) rfl (fun y hy => by obtain ⟨x1, x2, x3, x4⟩ := hy; go_simp) ?_
            try simp only [Act.put]
            refine Held.one (i := 10) rfl (by kernel_rfl) rfl (fun K hK => ?_)
            unfold Oper.wp
            go_simp
            refine (both9_any y.A y.n y.c y.r Ar nr cr x X5 hy5 hr5 (by omega) (by omega)).mono ?_
            rintro e X6 ⟨A6, c6, rfl, hown6, hb6⟩
            have hrow6 : RowK X6 base A6 (y.n + nr) (y.r ++ x ) := RowK.of_own hown6 (by omega)
            have hB6 := bstep hB5 hb6
            have hrd6 := hrd5.up hb6
            have hrows6 : RowsC X6 base lst := fun i hi => (hrows5 i hi).below hb6
            have hS6 : X6.cell? ⟨ab, 0, none⟩ = some (.int .i64 y.t) ∧ X6.cell? ⟨ab, 1, none⟩ = some (.slice y.A y.n y.c) ∧ X6.cell? ⟨bb, 0, none⟩ = some (.int .i64 t) ∧ X6.cell? ⟨bb, 1, none⟩ = some (.slice Ar nr cr) := ⟨(hb6.cell (World.block_lt_of_cell? _ _ hS.1)).trans hS.1, (hb6.cell (World.block_lt_of_cell? _ _ hS.2.1)).trans hS.2.1, (hb6.cell (World.block_lt_of_cell? _ _ hS.2.2.1)).trans hS.2.2.1, (hb6.cell (World.block_lt_of_cell? _ _ hS.2.2.2)).trans hS.2.2.2⟩
            refine hK _ _ (fun _ => hS6) ?_
            try simp only [Act.put]
            clear hK K hS hB5 hrd5 hrows5 hy5 hr5 hown6 hb6
            refine Held.one (i := 12) rfl (by kernel_rfl) rfl (fun K hK => ?_)
            unfold Oper.wp
            go_simp
            refine hK _ _ (fun _ => hS6) ?_
            try simp only [Act.put]
            clear hK K
            have hok6 : okR (y.r ++ x ) = true := okR_join hyo hxo (by
              have h5 := HLN2.out
              have h6 : (jnT false ⟨t, m, x⟩ (thC y)).r = y.r ++ x := rfl
              rw [h6] at h5
              have h7 := of_decide_eq_false d1'
              omega)
            have HPC := hide (PutChange_any Ao lst.length co lst ⟨max (y.t) (t), A6, y.n + nr, c6, y.r ++ x , M⟩ base X6 hrd6 hrows6 (Nat.le_trans hbase (bstep HB0.out hB6).size) hrow6 (by show y.n + nr ≤ 1000; omega) (by omega) hok6 HLS2.out (by have h9 := HMB.out; show -1000000000 ≤ M ∧ M ≤ 1000000000; omega))
            clear hok6 hrow6 hrd6 hrows6
            refine Held.one (i := 13) rfl (by kernel_rfl) rfl (fun K hK => ?_)
            unfold Oper.wp
            go_simp
            refine HPC.out.mono ?_
            rintro e X7 ⟨A7, c7, lst7, rfl, hl7, hown7, hrows7, hb7⟩
            have hS7 : X7.cell? ⟨ab, 0, none⟩ = some (.int .i64 y.t) ∧ X7.cell? ⟨ab, 1, none⟩ = some (.slice y.A y.n y.c) ∧ X7.cell? ⟨bb, 0, none⟩ = some (.int .i64 t) ∧ X7.cell? ⟨bb, 1, none⟩ = some (.slice Ar nr cr) := ⟨(hb7.cell (World.block_lt_of_cell? _ _ hS6.1)).trans hS6.1, (hb7.cell (World.block_lt_of_cell? _ _ hS6.2.1)).trans hS6.2.1, (hb7.cell (World.block_lt_of_cell? _ _ hS6.2.2.1)).trans hS6.2.2.1, (hb7.cell (World.block_lt_of_cell? _ _ hS6.2.2.2)).trans hS6.2.2.2⟩
            have HN2 := hide (show lst7.map thC = sumT (jnL false s.others s.on s.lo s.hi ⟨t, m, x⟩ ((Ll.take (j + 1)).map thC)) from by
              rw [HNX.out, if_pos HMT2.out, sumT_snoc, ← HLST.out, hl7, HTH.out])
            have HBD := hide (show (jnL false s.others s.on s.lo s.hi ⟨t, m, x⟩ ((Ll.take (j + 1)).map thC)).any badJ = false from by
              rw [HNX.out, if_pos HMT2.out, List.any_append, HBAD.out]
              have h9 : badJ (jnT false ⟨t, m, x⟩ (thC y)) = false := by unfold badJ; rw [HLN2.out]; exact d1'
              rw [List.any_cons, h9]; rfl)
            have HRD7 := hide (Reads.of_own hown7)
            have HRR7 := hide hrows7
            have HB7 := hide (bstep hB6 hb7)
            have HF9 := hide (show 0 < lst7.length → ∀ b' off mm, A7 = some ⟨b', off, mm⟩ → W0.heap.size ≤ b' from fun _ b' off mm e => by
              subst e
              have h5 := (hown7.lt b' rfl).1
              have h6 := hB6.size
              omega)
            refine hK _ _ (fun _ => hS7) ?_
            try simp only [Act.put]
            clear hK K HPC hS6 hl7 hown7 hrows7 hb7 hB6
            refine Held.one (i := 14) rfl (by kernel_rfl) rfl (fun K hK => ?_)
            unfold Oper.wp
            go_simp
            refine hK _ _ (fun h => absurd rfl h) ?_
            try simp only [Act.put]
            clear hK K hS7
            refine Held.done (by kernel_rfl) ?_
            go_wp2_with fail
            go_roundw
            case rel => exact ⟨j + 1, A7, c7, lst7, by omega, by go_num, rfl, HN2.out, HBD.out, HRD7.out, HRR7.out, HF9.out, HB7.out⟩
            case measure => first | (simp [intOf]; done) | (simp [intOf]; omega)
    · obtain rfl : j = nO := by omega
      have htk : Ll.take j = Ll := List.take_of_length_le (by rw [HNO.out]; omega)
      have HSU := hide (show lst.map thC = sumT (jnL false s.others s.on s.lo s.hi ⟨t, m, x⟩ (Ll.map thC)) from by have := HLST.out; rwa [htk] at this)
      have HEE := hide (show E = 0 from by
        rw [← HUE2.out]
        have h5 := HBAD.out
        rw [htk] at h5
        rw [h5]; rfl)
      have j4 := HJr.out.blk.cell 5
      simp [JoS.rcells] at j4
      clear HLST HBAD htk
      go_upto_region 24 with fail
      refine Held.begin (fun z => z.cell? ⟨b, 5, none⟩ = some (.slice AS nS cS) ∧ z.cell? ⟨cb, 0, none⟩ = some (.int .i64 t) ∧ z.cell? ⟨cb, 1, none⟩ = some (.slice Ar nr cr) ∧ z.cell? ⟨cb, 2, none⟩ = some (.int .i64 m)) 9 (by kernel_rfl) ?_
      have hbd := (Below.refl wr.heap.size wr).drew
      obtain ⟨X5, hXe⟩ : ∃ X, wr.drew = X := ⟨_, rfl⟩
      rw [hXe] at hbd ⊢
      have hS : X5.cell? ⟨b, 5, none⟩ = some (.slice AS nS cS) ∧ X5.cell? ⟨cb, 0, none⟩ = some (.int .i64 t) ∧ X5.cell? ⟨cb, 1, none⟩ = some (.slice Ar nr cr) ∧ X5.cell? ⟨cb, 2, none⟩ = some (.int .i64 m) := ⟨(hbd.cell (World.block_lt_of_cell? _ _ j4)).trans j4, (hbd.cell (World.block_lt_of_cell? _ _ c0)).trans c0, (hbd.cell (World.block_lt_of_cell? _ _ c1)).trans c1, (hbd.cell (World.block_lt_of_cell? _ _ c2)).trans c2⟩
      have hB5 := bstep hB hbd
      have hBw5 := bstep HB0.out hB5
      have hrd5 := hrdo.up hbd
      have hrows5 : RowsC X5 base lst := fun i hi => (hrows i hi).below hbd
      have HJ5 := hide (HJ.out.below hBw5)
      have hr5 := (HR0.out.below hB5).mono hB5.size
      clear hXe hbd j4 c0 c1 c2 hB hrdo hrows HJr kbr hBw
      refine Held.take (i := 0) (.pointer (some ⟨b, 0, none⟩)) rfl hS (by kernel_rfl) (by kernel_rfl) (by kernel_rfl) (by kernel_rfl) (fun _ _ _ h => h) rfl (fun y hy => by obtain ⟨x1, x2, x3, x4⟩ := hy; go_simp) ?_
      try simp only [Act.put]
      refine Held.take (i := 1) (.pointer (some ⟨b, 0, none⟩)) rfl hS (by kernel_rfl) (by kernel_rfl) (by kernel_rfl) (by kernel_rfl) (fun _ _ _ h => h) rfl (fun y hy => by obtain ⟨x1, x2, x3, x4⟩ := hy; go_simp) ?_
      try simp only [Act.put]
      refine Held.take (i := 2) (.pointer (some ⟨b, 0, none⟩)) rfl hS (by kernel_rfl) (by kernel_rfl) (by kernel_rfl) (by kernel_rfl) (fun _ _ _ h => h) rfl (fun y hy => by obtain ⟨x1, x2, x3, x4⟩ := hy; go_simp) ?_
      try simp only [Act.put]
      refine Held.take (i := 3) (.pointer (some ⟨b, 5, none⟩)) rfl hS (by kernel_rfl) (by kernel_rfl) (by kernel_rfl) (by kernel_rfl) (fun _ _ _ h => h) rfl (fun y hy => by obtain ⟨x1, x2, x3, x4⟩ := hy; go_simp) ?_
      try simp only [Act.put]
      refine Held.take (i := 4) (.slice AS nS cS) rfl hS (by kernel_rfl) (by kernel_rfl) (by kernel_rfl) (by kernel_rfl) (fun _ _ _ h => h) rfl (fun y hy => by obtain ⟨x1, x2, x3, x4⟩ := hy; go_simp) ?_
      try simp only [Act.put]
      refine Held.take (i := 5) (.agg #[.int .i64 t, .slice Ar nr cr, .int .i64 m]) rfl hS (by kernel_rfl) (by kernel_rfl) (by kernel_rfl) (by kernel_rfl) (fun _ _ _ h => h) rfl (fun y hy => by obtain ⟨x1, x2, x3, x4⟩ := hy; go_simp) ?_
      try simp only [Act.put]
      have hownS : X5.ownsRow base 57 3 (.slice AS nS cS) nS (Rl.flatMap encCh) := by
        have h9 := HJ5.out.r.own
        rw [HNS.out] at h9
        exact h9
      have HKP := hide (kept_any AS nS cS Rl ⟨t, Ar, nr, cr, x, m⟩ base X5 (Reads.of_own hownS) HJ5.out.r.rows (Nat.le_trans hbase hBw5.size) hr5 (by show nr ≤ 1000; omega) (by omega) hxo HLS.out (by show -1000000000 ≤ m ∧ m ≤ 1000000000; omega))
      clear hownS hr5
      refine Held.one (i := 6) rfl (by kernel_rfl) rfl (fun K hK => ?_)
      unfold Oper.wp
      go_simp
      refine HKP.out.mono ?_
      rintro e X6 ⟨A6, c6, l6, rfl, hl6, hown6, hrows6, hb6⟩
      have hS6 : X6.cell? ⟨b, 5, none⟩ = some (.slice AS nS cS) ∧ X6.cell? ⟨cb, 0, none⟩ = some (.int .i64 t) ∧ X6.cell? ⟨cb, 1, none⟩ = some (.slice Ar nr cr) ∧ X6.cell? ⟨cb, 2, none⟩ = some (.int .i64 m) := ⟨(hb6.cell (World.block_lt_of_cell? _ _ hS.1)).trans hS.1, (hb6.cell (World.block_lt_of_cell? _ _ hS.2.1)).trans hS.2.1, (hb6.cell (World.block_lt_of_cell? _ _ hS.2.2.1)).trans hS.2.2.1, (hb6.cell (World.block_lt_of_cell? _ _ hS.2.2.2)).trans hS.2.2.2⟩
      have hOC6 : OC X6 base (.slice A6 l6.length c6) l6 := ⟨own_mono hown6 (Nat.le_trans hbase hBw5.size), hrows6⟩
      have hJ6 := HJ5.out.below hb6
      have hfz := hJ6.blk.frozen 5
      obtain ⟨hJ7, hF7⟩ := hJ6.setR hOC6
      have hb67 := hF7.size
      have hq7 := hJ6.quiet
      have hnc : NC X6 W0.heap.size base Ao lst.length lst := ⟨hrd5.up hb6, fun h0 b' off mm e => HFAR.out h0 b' off mm e, fun i hi => (hrows5 i hi).below hb6, by omega⟩
      have hbz : base ≤ X6.heap.size := Nat.le_trans hbase (bstep hBw5 hb6).size
      have HRES := hide (show RetRs false w base b s mk (.slice AO j cO) Ll (.slice AS nS cS) Rl ⟨t, m, x⟩ (.returned (.tuple #[.slice Ao lst.length co, .int .i64 0])) (X6.setCell ⟨b, 5, none⟩ (.slice A6 l6.length c6)) from
        ⟨Ao, lst.length, co, lst, 0, rfl, (HE.out.trans HEE.out).symm, (hnc.frp hF7 hq7 (by rintro k rfl; have := HB0.out.size; omega)).chg (Nat.le_trans hbz hb67), (FrP.of_below (bstep hBw5 hb6)).trans hF7 (fun k hk => .inl hk), fun h => absurd rfl h, fun _ => ⟨HSU.out, _, Ll, _, l6, hJ7, rfl, hl6⟩⟩)
      refine hK _ _ (fun _ => hS6) ?_
      try simp only [Act.put]
      clear hK K hS HKP hl6 hown6 hrows6 hb6 hOC6 hJ6 hJ7 hF7 hb67 hq7 hnc hbz hrd5 hrows5 hB5 hBw5 HJ5
      have hS := hS6
      refine Held.one (i := 7) rfl (by kernel_rfl) rfl (fun K hK => ?_)
      unfold Oper.wp
      go_simp
      refine hK _ _ (fun _ => hS6) ?_
      try simp only [Act.put]
      clear hK K
      refine Held.take (i := 8) (.pointer (some ⟨b, 5, none⟩)) rfl hS (by kernel_rfl) (by kernel_rfl) (by kernel_rfl) (by kernel_rfl) (fun _ _ _ h => h) rfl (fun y hy => by obtain ⟨x1, x2, x3, x4⟩ := hy; go_simp) ?_
      try simp only [Act.put]
      have hc9 := hS6.1
      refine Held.one (i := 9) rfl (by kernel_rfl) rfl (fun K hK => ?_)
      unfold Oper.wp
      go_simp
      refine hK _ _ (fun h => absurd rfl h) ?_
      try simp only [Act.put]
      clear hK K hS hS6 hc9 hfz
      refine Held.done (by kernel_rfl) ?_
      go_wp2_with fail
      refine bodyPost_ret (results_tmp2 rfl _ _ _) rfl ?_
      exact HRES.out
end Go.Proofs.YtoapjidpfghnlaaGreatDoor
