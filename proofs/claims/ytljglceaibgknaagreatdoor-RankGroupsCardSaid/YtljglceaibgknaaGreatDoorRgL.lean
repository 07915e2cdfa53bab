/-
  The walk of RankGroups, for every setup, width and bag.
-/
import Derived.Test.YtljglceaibgknaaGreatDoorRgR
import Derived.Test.YtljglceaibgknaaGreatDoorRkZ
import Derived.Test.YtljglceaibgknaaGreatDoorNetM
namespace Go.Proofs.YtljglceaibgknaaGreatDoor
open Go.RowKit
attribute [local go_sem] Oper.semAt_some
set_option linter.unusedVariables false
set_option linter.unusedSimpArgs false

set_option maxRecDepth 100000 in
set_option maxHeartbeats 4000000 in
theorem SameBags_one (A : Option Addr) (n c : Nat) (A' : Option Addr) (n' c' : Nat) (gl gl' : List Gp) (w : World) (hx : Reads w w.heap.size 1 A n (gl.flatMap encGp)) (hxb : ∀ g ∈ gl, BagR w w.heap.size g.A g.n g.l) (hy : Reads w w.heap.size 1 A' n' (gl'.flatMap encGp)) (hyb : ∀ g ∈ gl', BagR w w.heap.size g.A g.n g.l) (hd : (gl.map fun g => dat g.l) = gl'.map fun g => dat g.l) (hn : n ≤ 1000) :
    Calls Tryz.prog 14 #[.slice A n c, .slice A' n' c'] w (RetV w (.bool true)) := by
  have hl := hx.len encGp_len (by omega)
  have hl' := hy.len encGp_len (by omega)
  have hnn : n' = n := by
    have := congrArg List.length hd
    simp only [List.length_map] at this
    omega
  subst hnn
  have n1 : ((n' : Int) != (n' : Int)) = false := by simp
  have HX := hide hx
  have HY := hide hy
  have HXB := hide hxb
  have HYB := hide hyb
  have HD := hide hd
  clear hx hy hxb hyb hd hl hl'
  go_enter Tryz.func14, Tryz.ntmps14
  go_wp2_with fail
  go_loopw [5] (fun i wr => ∃ q : Nat, q ≤ n' ∧ i = .int .i64 q ∧ Below w.heap.size w wr) (fun i _ => n' - (intOf i).toNat)
  case atStart => exact ⟨0, Nat.zero_le _, rfl, Below.refl _ _⟩
  case round =>
    obtain ⟨q, hq, rfl, hB⟩ := hrel
    by_cases hlt : q < n'
    · obtain ⟨b, off, g, rfl, hg, c0⟩ := gl_at (HX.out.below hB) hlt
      obtain ⟨b', off', g', rfl, hg', c0'⟩ := gl_at (HY.out.below hB) hlt
      have he : dat g.l = dat g'.l := by
        have h1 : (gl.map fun g => dat g.l)[q]? = some (dat g.l) := by rw [List.getElem?_map, hg]; rfl
        have h2 : (gl'.map fun g => dat g.l)[q]? = some (dat g'.l) := by rw [List.getElem?_map, hg']; rfl
        rw [HD.out, h2] at h1
        injection h1 with h1
        exact h1.symm
      have hb1 := (HXB.out g (List.mem_of_getElem? hg)).below hB
      have hb2 := (HYB.out g' (List.mem_of_getElem? hg')).below hB
      have HC := hide (fun (p : BW wr) => calls_bw (p := p) (same_dat (c := g.c) (c' := g'.c) (hb1.below p.h) (hb2.below p.h) he))
      have p0 := fun (p : BW wr) => BW.cell (a := ⟨b, off + q, none⟩) (World.block_lt_of_cell? _ _ c0) c0 p
      have p1 := fun (p : BW wr) => BW.cell (a := ⟨b', off' + q, none⟩) (World.block_lt_of_cell? _ _ c0') c0' p
      have q1 : (0 : Int) ≤ (q : Int) := by omega
      have q2 : (q : Int) < (n' : Int) := by omega
      clear hg hg' c0 c0' he hb1 hb2
      go_wp2_with fail
      (refine wp_region_quiet_bw (by kernel_rfl) (by kernel_rfl) ?_
       repeat (first | go_big_quiet_step (((go_at_call 17; exact HC.out _))) | quiet_step (((go_at_call 17; exact HC.out _))))
       refine wpQuiet_nil ?_
       intro wq hw'
       obtain ⟨⟨_, hbq⟩, hw''⟩ := hw'
       subst hw'')
      have hB2 := bstep hB hbq
      clear hB hbq p0 p1 HC
      go_wp2
      go_roundw
      case rel => exact ⟨q + 1, by omega, by go_num, hB2⟩
      case measure => simp [intOf]; omega
    · obtain rfl : q = n' := by omega
      go_wp2
      go_ret
      exact ⟨rfl, hB⟩
theorem topE_ok {s : Stp} {width : Int} {g : Bg} (h : askE s width g = 0) : topE s width g = (topB s g, 0) := by unfold topE; rw [if_pos h]
set_option maxRecDepth 100000 in
set_option maxHeartbeats 16000000 in
theorem rankGroups_all (k : Sk) (s : Stp) (width : Int) (A : Option Addr) (n c : Nat) (l : List It) (w : World) (hp : Reads w w.heap.size 1 k.A k.n (s.per.map (Value.int .i64))) (hby : Reads w w.heap.size 1 k.A' k.n' (s.by_.map (Value.int .i64))) (hc : k.n ≤ k.c) (hc' : k.n' ≤ k.c')
    (hb : BagR w w.heap.size A n l) (hnc : n ≤ c) (ht : Tab w) :
    Calls Tryz.prog 3 #[k.v s, .int .i64 width, .slice A n c] w (RetV w (.bool true)) := by
  have HLN := hide hb.len
  have hB1 := below_val (w := w) #[.slice k.A k.n k.c, .slice k.A' k.n' k.c', .bool s.dn, .int .i64 s.n] 24
  have k1 := Blk.new w 24 #[.slice k.A k.n k.c, .slice k.A' k.n' k.c', .bool s.dn, .int .i64 s.n]
  have hp1 := hp.up hB1
  have hy1 := hby.up hB1
  have hb1 := (hb.below hB1).mono hB1.size
  have ht1 := ht.below hB1
  have hle := hb.le
  clear hp hby hb ht
  unfold Sk.v
  go_enter Tryz.func3, Tryz.ntmps3
  go_upto_region 1 with fail
  obtain ⟨W0, hW0⟩ : ∃ W0, w.alloc (.cells #[.slice k.A k.n k.c, .slice k.A' k.n' k.c', .bool s.dn, .int .i64 s.n] 24) = W0 := ⟨_, rfl⟩
  obtain ⟨bs, hbs⟩ : ∃ bs, w.heap.size = bs := ⟨_, rfl⟩
  rw [hW0] at hB1 k1 hp1 hy1 hb1 ht1 ⊢
  rw [hbs] at k1 ⊢
  clear hW0 hbs
  have hbx : BoxS W0 bs k s := ⟨by simpa using k1.cell 0, by simpa using k1.cell 1, by simpa using k1.cell 2, by simpa using k1.cell 3⟩
  have hM := many_any k s A n c l W0 hb1
  unfold Sk.v at hM
  have HM := hide hM
  have c0 := hbx.c0
  have c1 := hbx.c1
  have c2 := hbx.c2
  have c3 := hbx.c3
  clear k1 hM
  go_wp2_with fail
  refine HM.out.mono ?_
  rintro e W1 ⟨b, rfl, hsm, hB2⟩
  have hBw := bstep hB1 hB2
  have ht2 := ht1.below hB2
  have hbx2 := hbx.below hB2
  cases b
  case true =>
    have HA := hide (awake10_any W1 ht2)
    clear c0 c1 c2 c3 HM
    go_wp2_with fail
    refine HA.out.mono ?_
    rintro e W2 ⟨rfl, hB3⟩
    have HE := hide (bstep hBw hB3)
    clear hBw hB3
    go_wp2
    go_ret
    exact ⟨rfl, HE.out⟩
  obtain ⟨hkn, hkn', hn60⟩ := hsm rfl
  have hs2 : SetK W1 W1.heap.size k s := ⟨hp1.up hB2, hy1.up hB2, by omega, by omega⟩
  have hb2 := (hb1.below hB2).mono hB2.size
  clear c0 c1 c2 c3 HM hsm hB1 hB2 hbx hp1 hy1 hb1 ht1
  obtain ⟨TT, hTT⟩ : ∃ TT, grpE s width (dat l) = TT := ⟨_, rfl⟩
  have HTT := hide hTT
  have hT := Groups_any k s width A n c l W1 hs2 hc hc' hb2 (by omega) ht2
  unfold Sk.v at hT
  rw [hTT] at hT
  have HT := hide hT
  have c0 := hbx2.c0
  have c1 := hbx2.c1
  have c2 := hbx2.c2
  have c3 := hbx2.c3
  clear hT hTT
  go_wp2_with fail
  refine HT.out.mono ?_
  rintro e W2 ⟨A1, n1, c1', gl, rfl, hd1, hr1, hg1, hn1, hB3⟩
  have hBw := bstep hBw hB3
  have ht3 := ht2.below hB3
  have hbx3 := hbx2.below hB3
  have hs3 := hs2.up hB3
  have hb3 := (hb2.below hB3).mono hB3.size
  have hR := RGroups_any k s width A n c l W2 hs3 hb3 (by omega)
  unfold Sk.v at hR
  rw [HTT.out] at hR
  have HR := hide hR
  clear c0 c1 c2 c3 HT hR hs2 hb2 hB3 hbx2 ht2
  have c0 := hbx3.c0
  have c1 := hbx3.c1
  have c2 := hbx3.c2
  have c3 := hbx3.c3
  go_wp2_with fail
  refine HR.out.mono ?_
  rintro e W3 ⟨A2, n2, c2', gl2, rfl, hd2, hr2, hg2, hn2, hB4⟩
  have hBw := bstep hBw hB4
  have ht4 := ht3.below hB4
  have hbx4 := hbx3.below hB4
  have hs4 := hs3.up hB4
  have hb4 := (hb3.below hB4).mono hB4.size
  have hr1 := hr1.up hB4
  have hg1 : ∀ g ∈ gl, BagR W3 W3.heap.size g.A g.n g.l := fun g hg => ((hg1 g hg).1.below hB4).mono hB4.size
  have HS := hide (SameBags_one A1 n1 c1' A2 n2 c2' gl gl2 W3 hr1 hg1 hr2 (fun g hg => (hg2 g hg).1) (by rw [hd1, hd2]) hn1)
  obtain ⟨E, hE⟩ : ∃ E, TT.2 = E := ⟨_, rfl⟩
  rw [hE]
  have HE := hide hE
  have z1 : (E != E) = false := by simp
  clear c0 c1 c2 c3 HR hs3 hb3 hB4 hbx3 ht3 hg2 hd2 hr2 hE
  go_wp2_with fail
  refine HS.out.mono ?_
  rintro e W4 ⟨rfl, hB5⟩
  have hBw := bstep hBw hB5
  have ht5 := ht4.below hB5
  have hbx5 := hbx4.below hB5
  have hs5 := hs4.up hB5
  have hb5 := (hb4.below hB5).mono hB5.size
  have hr5 := hr1.up hB5
  have hg5 : ∀ g ∈ gl, BagR W4 W4.heap.size g.A g.n g.l := fun g hg => ((hg1 g hg).below hB5).mono hB5.size
  clear HS hs4 hb4 hB5 hbx4 ht4 hr1 hg1
  by_cases hE0 : E ≠ 0
  · have z2 : (E != 0) = true := by simpa using hE0
    have HA := hide (awake10_any W4 ht5)
    go_wp2_with fail
    refine HA.out.mono ?_
    rintro e W5 ⟨rfl, hB6⟩
    have HEE := hide (bstep hBw hB6)
    clear hBw hB6
    go_wp2
    go_ret
    exact ⟨rfl, HEE.out⟩
  have z2 : (E != 0) = false := by simpa using hE0
  have hask0 : askE s width (dat l) = 0 := by
    have h1 := HTT.out
    have h2 := HE.out
    unfold grpE at h1
    split at h1
    · assumption
    · rw [← h1] at h2
      simp only at h2
      omega
  have HASK0 := hide hask0
  have HLAW := hide (grp_law hask0)
  obtain ⟨XX, hXX⟩ : ∃ XX, grpF s (dat l) = XX := ⟨_, rfl⟩
  rw [hXX] at HLAW
  have hdX : (gl.map fun g => dat g.l) = XX := by
    rw [hd1, ← HTT.out]
    unfold grpE
    rw [if_pos hask0]
    exact hXX
  have HDX := hide hdX
  have hl1 : gl.length = n1 := hr5.len encGp_len (by omega)
  have HGLN := hide hl1
  have HRD := hide hr5
  have HBG := hide hg5
  have HSK := hide hs5
  have HBX := hide hbx5
  have HTB := hide ht5
  have HBB := hide hb5
  clear hE0 hd1 hask0 hXX hdX hl1 hr5 hg5 hs5 hbx5 ht5 hb5
  go_wp2_with fail
  go_loopw [11, 12, 13] (fun v1 v2 i wz => ∃ (q : Nat) (A3 : Option Addr) (n3 c3 : Nat) (l3 : List It) (A4 : Option Addr) (n4 c4 : Nat) (l4 : List It), q ≤ n1 ∧ i = .int .i64 q ∧ .slice A3 n3 c3 = v1 ∧ .slice A4 n4 c4 = v2 ∧ BagR wz wz.heap.size A3 n3 l3 ∧ dat l3 = sumB (XX.take q) ∧ BagR wz wz.heap.size A4 n4 l4 ∧ dat l4 = sumB ((XX.take q).map (topB s)) ∧ Below W4.heap.size W4 wz) (fun _ _ i _ => n1 - (intOf i).toNat)
  case atStart => exact ⟨0, none, 0, 0, [], none, 0, 0, [], Nat.zero_le _, rfl, rfl, rfl, BagR.nil _ _, rfl, BagR.nil _ _, rfl, Below.refl _ _⟩
  case round =>
    obtain ⟨q, A3, n3, c3, l3, A4, n4, c4, l4, hq, rfl, rfl, rfl, hb3, hd3, hb4, hd4, hB⟩ := hrel
    by_cases hlt : q < n1
    · obtain ⟨b, off, g, rfl, hgq, hcell⟩ := gl_at (HRD.out.below hB) hlt
      have hgm := List.mem_of_getElem? hgq
      have hXq : XX[q]? = some (dat g.l) := by rw [← HDX.out, List.getElem?_map, hgq]; rfl
      have hXm := List.mem_of_getElem? hXq
      have HT1 := hide (show sumB (XX.take (q + 1)) = plusB (dat l3) (dat g.l) 1 by rw [take_snoc' hXq, sumB_snoc, hd3])
      have HT2 := hide (show sumB ((XX.take (q + 1)).map (topB s)) = plusB (dat l4) (topB s (dat g.l)) 1 by rw [take_snoc' hXq, List.map_append, hd4]; exact sumB_snoc _ _)
      have HAG := hide (HLAW.out.ask _ hXm)
      have hbg := ((HBG.out g hgm).below hB).mono hB.size
      have hbig3 : BigB (dat l3) := by rw [hd3]; exact HLAW.out.all q
      have hbig4 : BigB (dat l4) := by rw [hd4]; exact HLAW.out.tops q
      have HB4 := hide hbig4
      have hgn : g.n ≤ 400 := by
        have := (okBag_asc (HLAW.out.ok _ hXm)).2.2
        rw [dat_len, hbg.len] at this
        exact this
      have HPL := hide (RPlusG_any A3 n3 c3 l3 g.A g.n g.c g.l 1 wr hb3 hbg hbig3 (big_of (HLAW.out.ok _ hXm)) (by omega))
      have q1 : (0 : Int) ≤ (q : Int) := by omega
      have q2 : (q : Int) < (n1 : Int) := by omega
      clear hgq hgm hXq hXm hd3 hd4 hbig3 hbig4 hb3
      go_wp2_with fail
      refine HPL.out.mono ?_
      rintro e X1 ⟨A5, n5, c5, l5, rfl, hd5, hb5, hc5, hB6⟩
      have hB7 := bstep hB hB6
      have hb4 := (hb4.below hB6).mono hB6.size
      have hbg := (hbg.below hB6).mono hB6.size
      have hcell := (hB6.cell (World.block_lt_of_cell? _ _ hcell)).trans hcell
      have HBL5 := hide (show ∀ X, Below X1.heap.size X1 X → BagR X X.heap.size A5 n5 l5 from fun X hX => (hb5.below hX).mono hX.size)
      have HBL4 := hide (show ∀ X, Below X1.heap.size X1 X → BagR X X.heap.size A4 n4 l4 from fun X hX => (hb4.below hX).mono hX.size)
      have HD5 := hide hd5
      have hbxx := (HBX.out.below hB7)
      have HTC := hide (fun (X : World) (hX : Below X1.heap.size X1 X) => Top_any k s width g.A g.n g.c g.l X (HSK.out.up (bstep hB7 hX)) hc hc' ((hbg.below hX).mono hX.size) (by omega) (HTB.out.below (bstep hB7 hX)))
      rw [topE_ok HAG.out] at HTC
      unfold Sk.v at HTC
      clear hB hB6 hb4 hb5 hbg hd5 HPL
      go_wp2_with fail
      refine Held.begin (fun z => z.cell? ⟨bs, 0, none⟩ = some (.slice k.A k.n k.c) ∧ z.cell? ⟨bs, 1, none⟩ = some (.slice k.A' k.n' k.c') ∧ z.cell? ⟨bs, 2, none⟩ = some (.bool s.dn) ∧ z.cell? ⟨bs, 3, none⟩ = some (.int .i64 s.n) ∧ z.cell? ⟨b, off + q, none⟩ = some (.slice g.A g.n g.c)) 100 (by kernel_rfl) ?_
      have hG : Below X1.heap.size X1 X1.drew := (Below.refl _ _).drew
      obtain ⟨X2, hX2⟩ : ∃ X2, X1.drew = X2 := ⟨_, rfl⟩
      have hS : X2.cell? ⟨bs, 0, none⟩ = some (.slice k.A k.n k.c) ∧ X2.cell? ⟨bs, 1, none⟩ = some (.slice k.A' k.n' k.c') ∧ X2.cell? ⟨bs, 2, none⟩ = some (.bool s.dn) ∧ X2.cell? ⟨bs, 3, none⟩ = some (.int .i64 s.n) ∧ X2.cell? ⟨b, off + q, none⟩ = some (.slice g.A g.n g.c) := by rw [← hX2]; exact ⟨hbxx.c0, hbxx.c1, hbxx.c2, hbxx.c3, hcell⟩
      rw [hX2] at hG ⊢
      clear hX2 hbxx hcell
      refine Held.take (i := 0) (.agg #[.slice k.A k.n k.c, .slice k.A' k.n' k.c', .bool s.dn, .int .i64 s.n]) rfl hS (by kernel_rfl) (by kernel_rfl) (by kernel_rfl) (by kernel_rfl) (fun _ _ _ h => h) rfl (fun y hy => by obtain ⟨x1, x2, x3, x4, x5⟩ := hy; go_simp) ?_
      try simp only [Act.put]
      refine Held.take (i := 1) (.int .i64 width) rfl hS (by kernel_rfl) (by kernel_rfl) (by kernel_rfl) (by kernel_rfl) (fun _ _ _ h => h) rfl (fun y hy => by obtain ⟨x1, x2, x3, x4, x5⟩ := hy; go_simp) ?_
      try simp only [Act.put]
      refine Held.take (i := 2) (.slice (some ⟨b, off, none⟩) n1 c1') rfl hS (by kernel_rfl) (by kernel_rfl) (by kernel_rfl) (by kernel_rfl) (fun _ _ _ h => h) rfl (fun y hy => by obtain ⟨x1, x2, x3, x4, x5⟩ := hy; go_simp) ?_
      try simp only [Act.put]
      refine Held.take (i := 3) (.int .i64 (q : Int)) rfl hS (by kernel_rfl) (by kernel_rfl) (by kernel_rfl) (by kernel_rfl) (fun _ _ _ h => h) rfl (fun y hy => by obtain ⟨x1, x2, x3, x4, x5⟩ := hy; go_simp) ?_
      try simp only [Act.put]
      refine Held.take (i := 4) (.pointer (some ⟨b, off + q, none⟩)) rfl hS (by kernel_rfl) (by kernel_rfl) (by kernel_rfl) (by kernel_rfl) (fun _ _ _ h => h) rfl (fun y hy => by obtain ⟨x1, x2, x3, x4, x5⟩ := hy; go_simp) ?_
      try simp only [Act.put]
      refine Held.take (i := 5) (.slice g.A g.n g.c) rfl hS (by kernel_rfl) (by kernel_rfl) (by kernel_rfl) (by kernel_rfl) (fun _ _ _ h => h) rfl (fun y hy => by obtain ⟨x1, x2, x3, x4, x5⟩ := hy; go_simp) ?_
      try simp only [Act.put]
      refine Held.one (i := 6) rfl (by kernel_rfl) rfl (fun K hK => ?_)
      unfold Oper.wp
      go_simp
      refine (HTC.out X2 hG).mono ?_
      rintro e X3 ⟨A6, n6, c6, l6, rfl, hd6, hb6, hc6, hB8⟩
      have hG3 := bstep hG hB8
      have hS3 : X3.cell? ⟨bs, 0, none⟩ = some (.slice k.A k.n k.c) ∧ X3.cell? ⟨bs, 1, none⟩ = some (.slice k.A' k.n' k.c') ∧ X3.cell? ⟨bs, 2, none⟩ = some (.bool s.dn) ∧ X3.cell? ⟨bs, 3, none⟩ = some (.int .i64 s.n) ∧ X3.cell? ⟨b, off + q, none⟩ = some (.slice g.A g.n g.c) := ⟨(hB8.cell (World.block_lt_of_cell? _ _ hS.1)).trans hS.1, (hB8.cell (World.block_lt_of_cell? _ _ hS.2.1)).trans hS.2.1, (hB8.cell (World.block_lt_of_cell? _ _ hS.2.2.1)).trans hS.2.2.1, (hB8.cell (World.block_lt_of_cell? _ _ hS.2.2.2.1)).trans hS.2.2.2.1, (hB8.cell (World.block_lt_of_cell? _ _ hS.2.2.2.2)).trans hS.2.2.2.2⟩
      refine hK _ _ (fun _ => hS3) ?_
      try simp only [Act.put]
      have hS := hS3
      clear hK K hS3 hB8 hG HTC
      refine Held.take (i := 7) (.tuple #[.slice A6 n6 c6, .int .i64 0]) rfl hS (by kernel_rfl) (by kernel_rfl) (by kernel_rfl) (by kernel_rfl) (fun _ _ _ h => h) rfl (fun y hy => by obtain ⟨x1, x2, x3, x4, x5⟩ := hy; go_simp) ?_
      try simp only [Act.put]
      refine Held.take (i := 8) (.slice A6 n6 c6) rfl hS (by kernel_rfl) (by kernel_rfl) (by kernel_rfl) (by kernel_rfl) (fun _ _ _ h => h) rfl (fun y hy => by obtain ⟨x1, x2, x3, x4, x5⟩ := hy; go_simp) ?_
      try simp only [Act.put]
      refine Held.take (i := 9) (.int .i64 0) rfl hS (by kernel_rfl) (by kernel_rfl) (by kernel_rfl) (by kernel_rfl) (fun _ _ _ h => h) rfl (fun y hy => by obtain ⟨x1, x2, x3, x4, x5⟩ := hy; go_simp) ?_
      try simp only [Act.put]
      refine Held.take (i := 10) (.slice A6 n6 c6) rfl hS (by kernel_rfl) (by kernel_rfl) (by kernel_rfl) (by kernel_rfl) (fun _ _ _ h => h) rfl (fun y hy => by obtain ⟨x1, x2, x3, x4, x5⟩ := hy; go_simp) ?_
      try simp only [Act.put]
      refine Held.take (i := 11) (.int .i64 0) rfl hS (by kernel_rfl) (by kernel_rfl) (by kernel_rfl) (by kernel_rfl) (fun _ _ _ h => h) rfl (fun y hy => by obtain ⟨x1, x2, x3, x4, x5⟩ := hy; go_simp) ?_
      try simp only [Act.put]
      refine Held.done (by kernel_rfl) ?_
      have hb5 := HBL5.out X3 hG3
      have hb4 := HBL4.out X3 hG3
      have hoT : okBag (topB s (dat g.l)) = true := (ask_ok HAG.out).top_ok
      replace hd6 : dat l6 = topB s (dat g.l) := hd6
      have HPL2 := hide (RPlusG_any A4 n4 c4 l4 A6 n6 c6 l6 1 X3 hb4 hb6 HB4.out (big_of (by rw [hd6]; exact hoT)) (by omega))
      rw [hd6] at HPL2
      have hBx := bstep hB7 hG3
      clear hS hb4 hb6 hd6 hoT hB7 hG3 HBL4 HBL5
      go_wp2_with fail
      refine HPL2.out.mono ?_
      rintro e X4 ⟨A7, n7, c7, l7, rfl, hd7, hb7, hc7, hB9⟩
      have hb5 := (hb5.below hB9).mono hB9.size
      have hBy := bstep hBx hB9
      clear hB9 hBx HPL2
      go_wp2_with fail
      go_roundw
      case rel =>
        have e1 : dat l5 = sumB (XX.take (q + 1)) := by rw [HT1.out]; exact HD5.out
        have e2 : dat l7 = sumB ((XX.take (q + 1)).map (topB s)) := by rw [HT2.out]; exact hd7
        refine ⟨q + 1, A5, n5, c5, l5, A7, n7, c7, l7, ?_, ?_, rfl, rfl, hb5, e1, hb7, e2, hBy⟩
        · omega
        · go_num
      case measure => simp [intOf]; omega
    · obtain rfl : q = n1 := by omega
      have hXl : XX.length = q := by rw [← HDX.out, List.length_map, HGLN.out]
      have HD3 := hide (show dat l3 = dat l by rw [hd3, take_all hXl]; exact HLAW.out.alle)
      have HD4 := hide (show dat l4 = topB s (dat l) by rw [hd4, take_all hXl]; exact HLAW.out.tope)
      have hbxx := HBX.out.below hB
      have g0 := hbxx.c0
      have g1 := hbxx.c1
      have g2 := hbxx.c2
      have g3 := hbxx.c3
      have hbb := (HBB.out.below hB).mono hB.size
      have hT := Top_any k s width A n c l wr (HSK.out.up hB) hc hc' hbb (by omega) (HTB.out.below hB)
      rw [topE_ok HASK0.out] at hT
      unfold Sk.v at hT
      have HT := hide hT
      clear hT hd3 hd4 hXl hbxx
      go_wp2_with fail
      refine HT.out.mono ?_
      rintro e X1 ⟨A6, n6, c6, l6, rfl, hd6, hb6, hc6, hB6⟩
      replace hd6 : dat l6 = topB s (dat l) := hd6
      have hb3 := (hb3.below hB6).mono hB6.size
      have hb4 := (hb4.below hB6).mono hB6.size
      have hbb := (hbb.below hB6).mono hB6.size
      have hB7 := bstep hB hB6
      have HS1 := hide (same_dat (c := c3) (c' := c) hb3 hbb HD3.out)
      have z3 : ((0 : Int) == 0) = true := rfl
      clear hB hB6 g0 g1 g2 g3 HT
      go_wp2_with fail
      refine HS1.out.mono ?_
      rintro e X2 ⟨rfl, hB8⟩
      have hb4 := (hb4.below hB8).mono hB8.size
      have hb6 := (hb6.below hB8).mono hB8.size
      have hB9 := bstep hB7 hB8
      have HS2 := hide (same_dat (c := c6) (c' := c4) hb6 hb4 (by rw [hd6, HD4.out]))
      clear hB7 hB8 HS1 hb3 hbb
      go_wp2_with fail
      refine HS2.out.mono ?_
      rintro e X3 ⟨rfl, hB10⟩
      have hB11 := bstep hB9 hB10
      have HA := hide (awake10_any X3 (HTB.out.below hB11))
      have hBz := bstep hBw hB11
      clear hB9 hB10 HS2 hb4 hb6 hB11
      go_wp2_with fail
      refine HA.out.mono ?_
      rintro e X4 ⟨rfl, hB12⟩
      have HEE := hide (bstep hBz hB12)
      clear hBz hB12
      go_wp2
      go_ret
      exact ⟨rfl, HEE.out⟩
end Go.Proofs.YtljglceaibgknaaGreatDoor
