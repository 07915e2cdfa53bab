/-
  The law PairVersioned, for all inputs that read.
-/
import Derived.Test.YtoapjidpfghnlaaGreatDoorVtD
import Derived.Test.YtoapjidpfghnlaaGreatDoorPrL3
namespace Go.Proofs.YtoapjidpfghnlaaGreatDoor
open Go.RowKit
attribute [local go_sem] Oper.semAt_some wide_fn wide_depth
set_option linter.unusedVariables false
set_option linter.unusedSimpArgs false

set_option maxRecDepth 100000 in
set_option maxHeartbeats 32000000 in
theorem pairVersioned_all (A1 : Option Addr) (n1 c1 : Nat) (on : List Int) (A2 : Option Addr) (n2 c2 : Nat) (others : List Int) (v2 width v4 v5 v6 : Int) (A3 : Option Addr) (n3 c3 : Nat) (la : List Ac) (w : World)
    (h1 : Reads w w.heap.size 1 A1 n1 (on.map (Value.int .i64))) (h2 : Reads w w.heap.size 1 A2 n2 (others.map (Value.int .i64))) (h3 : AcR w w.heap.size A3 n3 la) (ht : Tab w) :
    Calls Tryz.prog 7 #[.agg #[.slice A1 n1 c1, .slice A2 n2 c2, .int .i64 v2, .int .i64 width, .int .i64 v4, .int .i64 v5, .int .i64 v6], .slice A3 n3 c3] w (RetV w (.bool true)) := by
  obtain ⟨i0, hi0, hz0, hz1, hz2⟩ := info_parts3 infoEv
  have hB0 := below_val (w := w) #[.slice A1 n1 c1, .slice A2 n2 c2, .int .i64 v2, .int .i64 width, .int .i64 v4, .int .i64 v5, .int .i64 v6] 24
  have k1 := Blk.new w 24 #[.slice A1 n1 c1, .slice A2 n2 c2, .int .i64 v2, .int .i64 width, .int .i64 v4, .int .i64 v5, .int .i64 v6]
  have hn3 := h3.le
  have pa := h1.up hB0
  have pb := h2.up hB0
  have pc := h3.below hB0
  have pt := ht.below hB0
  clear h1 h2 h3 ht
  go_enter Tryz.func7, Tryz.ntmps7
  go_wp2_with fail
  obtain ⟨W0, hW0⟩ : ∃ W0, w.alloc (.cells #[.slice A1 n1 c1, .slice A2 n2 c2, .int .i64 v2, .int .i64 width, .int .i64 v4, .int .i64 v5, .int .i64 v6] 24) = W0 := ⟨_, rfl⟩
  rw [hW0] at hB0 k1 pa pb pc pt ⊢
  obtain ⟨kb, hkb⟩ : ∃ kb, w.heap.size = kb := ⟨_, rfl⟩
  have HT := hide pt
  have PA := hide pa
  have PB := hide pb
  have PC := hide (show AcR W0 W0.heap.size A3 n3 la from ⟨pc.rd, fun a ha => (pc.rows a ha).mono hB0.size, pc.caps, pc.le⟩)
  have HB0 := hide hB0
  rw [hkb] at k1 ⊢
  have HK1 := hide k1
  have HKL := hide (show kb < W0.heap.size from k1.lt)
  clear hW0 hkb pa pb pc pt hB0 k1
  have hB0 : Below W0.heap.size W0 W0 := Below.refl _ _
  refine (klong_any A1 n1 c1 A2 n2 c2 v2 width v4 v5 v6 W0).mono ?_
  rintro e W1 hres
  obtain ⟨b1, rfl, hb1, hb⟩ := hres
  have hB1 := bstep hB0 hb
  clear hb hB0
  cases b1
  case true =>
    clear hb1
    go_wp2_with fail
    refine (awake9_any W1 (HT.out.below hB1)).mono ?_
    rintro e W2 ⟨rfl, hb⟩
    have HB := hide (bstep HB0.out (bstep hB1 hb))
    clear hb hB1
    go_wp2
    go_ret
    exact ⟨rfl, HB.out⟩
  case false =>
  obtain ⟨hn1, hn2⟩ := hb1 rfl
  clear hb1
  go_wp2_with fail
  refine (fewA_any A3 n3 c3 la W1 ⟨(PC.out.below hB1).rd, fun a ha => ((PC.out.below hB1).rows a ha).mono hB1.size, (PC.out.below hB1).caps, hn3⟩).mono ?_
  rintro e W2 hres
  obtain ⟨b2, rfl, hb2, hb⟩ := hres
  have hB2 := bstep hB1 hb
  clear hb hB1
  cases b2
  case false =>
    clear hb2
    go_wp2_with fail
    refine (awake9_any W2 (HT.out.below hB2)).mono ?_
    rintro e W3 ⟨rfl, hb⟩
    have HB := hide (bstep HB0.out (bstep hB2 hb))
    clear hb hB2
    go_wp2
    go_ret
    exact ⟨rfl, HB.out⟩
  case true =>
  have hn40 := hb2 rfl
  clear hb2
  have k3 := HK1.out.below hB2 HKL.out
  have d0 : W2.cell? ⟨kb, 0, none⟩ = some (.slice A1 n1 c1) := by simpa using k3.cell 0
  have d1 : W2.cell? ⟨kb, 1, none⟩ = some (.slice A2 n2 c2) := by simpa using k3.cell 1
  have d3 : W2.cell? ⟨kb, 3, none⟩ = some (.int .i64 width) := by simpa using k3.cell 3
  go_wp2_with fail
  refine (NewVersioner_any A1 n1 c1 on A2 n2 c2 others width W2 (PA.out.up hB2) (PB.out.up hB2) (by omega) (by omega)).mono ?_
  rintro e W3 hres
  obtain ⟨hb, hres⟩ := hres
  have hB3 := bstep hB2 hb
  have k4 := k3.below hb k3.lt
  have hs23 := hb.size
  have hs2 := hB2.size
  clear hb k3 d0 d1 d3
  have d0 : W3.cell? ⟨kb, 0, none⟩ = some (.slice A1 n1 c1) := by simpa using k4.cell 0
  have d1 : W3.cell? ⟨kb, 1, none⟩ = some (.slice A2 n2 c2) := by simpa using k4.cell 1
  have d3 : W3.cell? ⟨kb, 3, none⟩ = some (.int .i64 width) := by simpa using k4.cell 3
  by_cases hE : newE on others width = 0
  · rw [if_pos hE] at hres
    obtain ⟨bx, kx, rfl, hbx, hvx, ex1, ex2, ex3⟩ := hres
    go_wp2_with fail
    refine (RNewVersioner_any A1 n1 c1 on A2 n2 c2 others width W3 (PA.out.up hB3) (PB.out.up hB3) (by omega) (by omega)).mono ?_
    rintro e W4 hres
    obtain ⟨hb, hres⟩ := hres
    rw [if_pos hE] at hres
    obtain ⟨by_, ky, rfl, hby, hvy, ey1, ey2, ey3⟩ := hres
    have hvx4 := hvx.below hb
    have hB4 := bstep hB3 hb
    have hs34 := hb.size
    obtain ⟨wd, rfl, hVK⟩ := newE_ok hE
    have ex4 : kx.wd = wd := by omega
    have ey4 : ky.wd = wd := by omega
    have g1 : kx.n = n1 := by rw [← hvx.on.rd.len1, ex1, PA.out.len1]
    have g2 : kx.n' = n2 := by rw [← hvx.ot.rd.len1, ex2, PB.out.len1]
    have g3 : ky.n = n1 := by rw [← hvy.on.rd.len1, ey1, PA.out.len1]
    have g4 : ky.n' = n2 := by rw [← hvy.ot.rd.len1, ey2, PB.out.len1]
    have HX := hide (show kx.on = on ∧ kx.others = others ∧ kx.wd = wd ∧ kx.n ≤ 1000 ∧ kx.n' ≤ 1000 ∧ kx.on.length = kx.n from ⟨ex1, ex2, ex4, by omega, by omega, hvx.on.rd.len1⟩)
    have HY := hide (show ky.on = on ∧ ky.others = others ∧ ky.wd = wd ∧ ky.n ≤ 1000 ∧ ky.n' ≤ 1000 ∧ ky.on.length = ky.n from ⟨ey1, ey2, ey4, by omega, by omega, hvy.on.rd.len1⟩)
    have hw8 := hVK.w8
    have HVK := hide hVK
    have HST := hide (mm_start (w := W0) (W := W4) (bx := bx) (by_ := by_) (kx := kx) (ky := ky) hvx4 hvy (by omega) (by omega) hB4 on others wd n3)
    have hs4 : W0.heap.size ≤ W4.heap.size := hB4.size
    clear ex1 ex2 ex3 ex4 ey1 ey2 ey3 ey4 g1 g2 g3 g4 hVK hvx hvy hvx4 hB3 hB2 hB4 k4 hb d0 d1 d3 hbx hby hs23 hs34 hs2
    go_wp2_with fail
    go_loopw [9, 10, 11, 12] (fun vl vr vg i wr => ∃ k : Nat, k ≤ n3 + 1 ∧ i = .int .i64 k ∧ VtR W0 bx by_ kx ky on others wd n3 k vl vr vg wr) (fun _ _ _ i _ => n3 + 1 - (intOf i).toNat)
    case atStart => exact ⟨0, Nat.zero_le _, rfl, HST.out⟩
    case round =>
      obtain ⟨k, hk, rfl, hR⟩ := hrel
      obtain ⟨mx, a0, a1, a2, a3, l0, l1, l2, l3, l4, l5, l6, hJ⟩ := hR
      obtain ⟨Al, cl, hvl, _⟩ := own_form hJ.M.o4.own
      obtain ⟨Ar, cr, hvr, _⟩ := own_form hJ.M.o5.own
      obtain ⟨Ag, cg, hvg, _⟩ := own_form hJ.M.o6.own
      subst hvl hvr hvg
      have hlen := hJ.len0
      have hJn4 := hJ.n4
      have hJn5 := hJ.n5
      by_cases hle : k ≤ n3
      · have q0 : (k : Int) ≤ (n3 : Int) := by omega
        have hba := below_val (w := wr) #[.int .i64 0, .slice none 0 0] 36
        have kv := Blk.new wr 36 #[.int .i64 0, .slice none 0 0]
        by_cases hlt : k < n3
        · have q1 : (0 : Int) ≤ (k : Int) := by omega
          have q2 : (k : Int) < (n3 : Int) := by omega
          obtain ⟨ba, oa, a, hA, hbal, hak, e0, e1, e2, e3, e4, hra, hca⟩ := (PC.out.below (bstep hJ.low hba)).at_ hlt
          have hra0 : RowK W0 W0.heap.size a.A a.m a.r := PC.out.rows a (List.mem_of_getElem? hak)
          have HRA := hide hra0
          have f0 := kv.frozen 0
          rw [hA]
          have HA := hide hA
          clear hak hA hra hra0 e4
          go_upto_region 14 with fail
          obtain ⟨W1, hW1⟩ : ∃ W1, wr.alloc (.cells #[.int .i64 0, .slice none 0 0] 36) = W1 := ⟨_, rfl⟩
          rw [hW1] at hba kv hbal e0 e1 e2 e3 f0 ⊢
          obtain ⟨xb, hxb⟩ : ∃ xb, wr.heap.size = xb := ⟨_, rfl⟩
          rw [hxb] at kv f0 ⊢
          have e3' : W1.cell? ⟨ba, oa + k * 5 + 2 + 1, none⟩ = some (.slice a.A a.m a.c) := e3
          have hws : W0.heap.size ≤ wr.heap.size := hJ.low.size
          clear hW1
          refine Held.begin (fun z => z.cell? ⟨ba, oa + k * 5 + 2, none⟩ = some (.int .i64 a.t) ∧ z.cell? ⟨ba, oa + k * 5 + 2 + 1, none⟩ = some (.slice a.A a.m a.c)) 13 (by kernel_rfl) ?_
          have hS : W1.drew.cell? ⟨ba, oa + k * 5 + 2, none⟩ = some (.int .i64 a.t) ∧ W1.drew.cell? ⟨ba, oa + k * 5 + 2 + 1, none⟩ = some (.slice a.A a.m a.c) := ⟨e2, e3'⟩
          have kd : Blk W1.drew xb 36 #[.int .i64 0, .slice none 0 0] := kv
          have hbd : Below wr.heap.size wr W1.drew := hba.drew
          have e0d : W1.drew.cell? ⟨ba, oa + k * 5, none⟩ = some (.int .i64 a.k) := e0
          have e1d : W1.drew.cell? ⟨ba, oa + k * 5 + 1, none⟩ = some (.int .i64 a.n) := e1
          have hbad : ba < W1.drew.heap.size := hbal
          have hbaw : ba < wr.heap.size := by
            have h9 := PC.out.rd
            obtain ⟨b9, o9, e9, hlt9, _⟩ := h9.2 (by omega)
            rw [HA.out] at e9
            injection e9 with e9
            injection e9 with e91
            omega
          obtain ⟨X1, hX1⟩ : ∃ X1, W1.drew = X1 := ⟨_, rfl⟩
          rw [hX1] at hS kd hbd e0d e1d hbad ⊢
          clear hX1 hba kv e0 e1 e2 e3 e3' f0 hbal
          refine Held.take (i := 0) (.slice (some ⟨ba, oa, none⟩) n3 c3) rfl hS (by kernel_rfl) (by kernel_rfl) (by kernel_rfl) (by kernel_rfl) (fun _ _ _ h => h) rfl (fun y hy => by obtain ⟨x1, x2⟩ := hy; go_simp) ?_
          try simp only [Act.put]
          refine Held.take (i := 1) (.int .i64 (k : Int)) rfl hS (by kernel_rfl) (by kernel_rfl) (by kernel_rfl) (by kernel_rfl) (fun _ _ _ h => h) rfl (fun y hy => by obtain ⟨x1, x2⟩ := hy; go_simp) ?_
          try simp only [Act.put]
          refine Held.take (i := 2) (.pointer (some ⟨ba, oa + k * 5, none⟩)) rfl hS (by kernel_rfl) (by kernel_rfl) (by kernel_rfl) (by kernel_rfl) (fun _ _ _ h => h) rfl (fun y hy => by obtain ⟨x1, x2⟩ := hy; go_simp) ?_
          try simp only [Act.put]
          refine Held.take (i := 3) (.pointer (some ⟨ba, oa + k * 5 + 2, none⟩)) rfl hS (by kernel_rfl) (by kernel_rfl) (by kernel_rfl) (by kernel_rfl) (fun _ _ _ h => h) rfl (fun y hy => by obtain ⟨x1, x2⟩ := hy; go_simp) ?_
          try simp only [Act.put]
          refine Held.take (i := 4) (.pointer (some ⟨ba, oa + k * 5 + 2, none⟩)) rfl hS (by kernel_rfl) (by kernel_rfl) (by kernel_rfl) (by kernel_rfl) (fun _ _ _ h => h) rfl (fun y hy => by obtain ⟨x1, x2⟩ := hy; go_simp) ?_
          try simp only [Act.put]
          refine Held.take (i := 5) (.int .i64 a.t) rfl hS (by kernel_rfl) (by kernel_rfl) (by kernel_rfl) (by kernel_rfl) (fun _ _ _ h => h) rfl (fun y hy => by obtain ⟨x1, x2⟩ := hy; go_simp) ?_
          try simp only [Act.put]
          refine Held.take (i := 6) (.slice (some ⟨ba, oa, none⟩) n3 c3) rfl hS (by kernel_rfl) (by kernel_rfl) (by kernel_rfl) (by kernel_rfl) (fun _ _ _ h => h) rfl (fun y hy => by obtain ⟨x1, x2⟩ := hy; go_simp) ?_
          try simp only [Act.put]
          refine Held.take (i := 7) (.int .i64 (k : Int)) rfl hS (by kernel_rfl) (by kernel_rfl) (by kernel_rfl) (by kernel_rfl) (fun _ _ _ h => h) rfl (fun y hy => by obtain ⟨x1, x2⟩ := hy; go_simp) ?_
          try simp only [Act.put]
          refine Held.take (i := 8) (.pointer (some ⟨ba, oa + k * 5, none⟩)) rfl hS (by kernel_rfl) (by kernel_rfl) (by kernel_rfl) (by kernel_rfl) (fun _ _ _ h => h) rfl (fun y hy => by obtain ⟨x1, x2⟩ := hy; go_simp) ?_
          try simp only [Act.put]
          refine Held.take (i := 9) (.pointer (some ⟨ba, oa + k * 5 + 2, none⟩)) rfl hS (by kernel_rfl) (by kernel_rfl) (by kernel_rfl) (by kernel_rfl) (fun _ _ _ h => h) rfl (fun y hy => by obtain ⟨x1, x2⟩ := hy; go_simp) ?_
          try simp only [Act.put]
          refine Held.take (i := 10) (.pointer (some ⟨ba, oa + k * 5 + 2 + 1, none⟩)) rfl hS (by kernel_rfl) (by kernel_rfl) (by kernel_rfl) (by kernel_rfl) (fun _ _ _ h => h) rfl (fun y hy => by obtain ⟨x1, x2⟩ := hy; go_simp) ?_
          try simp only [Act.put]
          refine Held.take (i := 11) (.slice a.A a.m a.c) rfl hS (by kernel_rfl) (by kernel_rfl) (by kernel_rfl) (by kernel_rfl) (fun _ _ _ h => h) rfl (fun y hy => by obtain ⟨x1, x2⟩ := hy; go_simp) ?_
          try simp only [Act.put]
          refine Held.take (i := 12) (.agg #[.int .i64 a.t, .slice a.A a.m a.c]) rfl hS (by kernel_rfl) (by kernel_rfl) (by kernel_rfl) (by kernel_rfl) (fun _ _ _ h => h) rfl (fun y hy => by obtain ⟨x1, x2⟩ := hy; go_simp) ?_
          try simp only [Act.put]
          refine Held.one (i := 13) rfl (by kernel_rfl) rfl (fun K hK => ?_)
          have v0 := kd.cell 0
          have v1 := (kd.set_ 0 (.int .i64 a.t)).cell 1
          have f0 := kd.frozen 0
          have f1 := (kd.set_ 0 (.int .i64 a.t)).frozen 1
          simp at v0 v1
          have kx2 := blk_set3 kd (.int .i64 a.t) (.slice a.A a.m a.c)
          have hbx : Below wr.heap.size wr ((X1.setCell ⟨xb, 0, none⟩ (.int .i64 a.t)).setCell ⟨xb, 1, none⟩ (.slice a.A a.m a.c)) := (hbd.setCell (p := ⟨xb, 0, none⟩) (by show wr.heap.size ≤ xb; omega) _).setCell (p := ⟨xb, 1, none⟩) (by show wr.heap.size ≤ xb; omega) _
          have hss : ((X1.setCell ⟨xb, 0, none⟩ (.int .i64 a.t)).setCell ⟨xb, 1, none⟩ (.slice a.A a.m a.c)).heap.size = X1.heap.size := by simp [World.setCell]
          have e0x : ((X1.setCell ⟨xb, 0, none⟩ (.int .i64 a.t)).setCell ⟨xb, 1, none⟩ (.slice a.A a.m a.c)).cell? ⟨ba, oa + k * 5, none⟩ = some (.int .i64 a.k) := by
            rw [World.cell?_setCell_other _ _ _ _ (fun e => by injection e with e; omega), World.cell?_setCell_other _ _ _ _ (fun e => by injection e with e; omega)]
            exact e0d
          have e1x : ((X1.setCell ⟨xb, 0, none⟩ (.int .i64 a.t)).setCell ⟨xb, 1, none⟩ (.slice a.A a.m a.c)).cell? ⟨ba, oa + k * 5 + 1, none⟩ = some (.int .i64 a.n) := by
            rw [World.cell?_setCell_other _ _ _ _ (fun e => by injection e with e; omega), World.cell?_setCell_other _ _ _ _ (fun e => by injection e with e; omega)]
            exact e1d
          have HX2 := hide kx2
          have HBX := hide hbx
          have E0X := hide e0x
          have E1X := hide e1x
          have hbax : ba < ((X1.setCell ⟨xb, 0, none⟩ (.int .i64 a.t)).setCell ⟨xb, 1, none⟩ (.slice a.A a.m a.c)).heap.size := by rw [hss]; exact hbad
          unfold Oper.wp
          go_simp
          refine hK _ _ (fun h => absurd rfl h) ?_
          try simp only [Act.put]
          clear hK K kx2 hbx e0x e1x hss
          refine Held.done (by kernel_rfl) ?_
          obtain ⟨W2, hW2⟩ : ∃ W2, (X1.setCell ⟨xb, 0, none⟩ (.int .i64 a.t)).setCell ⟨xb, 1, none⟩ (.slice a.A a.m a.c) = W2 := ⟨_, rfl⟩
          rw [hW2] at HX2 HBX E0X E1X hbax ⊢
          clear hW2 hS v0 v1 f0 f1 kd hbd e0d e1d hbad
          have hJ2 := hJ.below HBX.out
          have hsx := HBX.out.size
          have hra2 : RowK W2 W2.heap.size a.A a.m a.r := (HRA.out.below hJ2.low).mono hJ2.low.size
          have hfar : Far xb [a0, a1, a2, a3, .slice Al l4.length cl, .slice Ar l5.length cr, .slice Ag l6.length cg] := hJ.M.far (by omega)
          have p0 := fun (p : BW W2) => BW.cell (a := ⟨ba, oa + k * 5, none⟩) hbax E0X.out p
          have p1 := fun (p : BW W2) => BW.cell (a := ⟨ba, oa + k * 5 + 1, none⟩) hbax E1X.out p
          have kx2 := HX2.out
          clear hJ HX2
          go_wp2_with fail
          (refine wp_region_quiet_bw (by kernel_rfl) (by kernel_rfl) ?_
           repeat (first | go_big_quiet_step ((fail)) | quiet_step ((fail)))
           refine wpQuiet_nil ?_
           intro wq hw'
           obtain ⟨⟨_, hbq⟩, hw''⟩ := hw'
           subst hw'')
          have hJ3 := hJ2.below hbq
          have hra3 := (hra2.below hbq).mono hbq.size
          have kx3 := kx2.below hbq kx2.lt
          obtain ⟨W3, hW3⟩ : ∃ W3 : World, W3 = wq := ⟨_, rfl⟩
          subst hW3
          have hws3 : W0.heap.size ≤ W3.heap.size := hJ3.low.size
          have hxb3 := kx3.lt
          clear hbq p0 p1 hJ2 hra2 kx2 hbax
          have HJ3 := hide hJ3
          have HFAR := hide hfar
          clear hfar
          have HLY := hide (HJ3.out.len0.2.2.2.1)
          by_cases z0 : a.k = 0
          · have d9 : (a.k == 0) = true := by simpa using z0
            obtain ⟨E, hE⟩ : ∃ E, lftE on wd mx l0.length (a.t, a.r) = E := ⟨_, rfl⟩
            have HE := hide hE
            have HCX := hide (show ∀ V : World, VO V 130 bx kx a0 a1 mx → OE V W0.heap.size a0 l0 → OE V W0.heap.size a1 l1 → RowK V V.heap.size a.A a.m a.r → Calls Tryz.prog 30 #[.pointer (some ⟨bx, 0, none⟩), .agg #[.int .i64 a.t, .slice a.A a.m a.c]] V (RetVt 130 bx kx W0.heap.size a0 a1 mx l0 l1 true E (a.t, a.r) V) from fun V g1 g2 g3 g4 => by
              have h9 := VLeft_any kx bx a0 a1 mx l0 l1 W0.heap.size ⟨a.t, a.A, a.m, a.c, a.r⟩ V g1 HJ3.out.M.hx g2 g3 g4 HX.out.2.2.2.1 (by rw [HX.out.2.2.1]; exact hw8) HX.out.2.2.2.2.2
              rw [HX.out.2.2.1] at h9
              try rw [HX.out.1] at h9
              rw [show (lftE on wd mx l0.length (a.t, a.r)) = E from HE.out] at h9
              exact h9)
            have HCY := hide (show ∀ V : World, VO V 132 by_ ky a2 a3 mx → OE V W0.heap.size a2 l2 → OE V W0.heap.size a3 l3 → RowK V V.heap.size a.A a.m a.r → Calls Tryz.prog 31 #[.pointer (some ⟨by_, 0, none⟩), .agg #[.int .i64 a.t, .slice a.A a.m a.c]] V (RetVr 132 by_ ky W0.heap.size a2 a3 mx l2 E (a.t, a.r) V) from fun V g1 g2 g3 g4 => by
              have h9 := RLeft_any ky by_ a2 a3 mx l2 l3 W0.heap.size ⟨a.t, a.A, a.m, a.c, a.r⟩ V g1 HJ3.out.M.hy g2 g3 g4 HY.out.2.2.2.1 (by rw [HY.out.2.2.1]; exact hw8) HY.out.2.2.2.2.2 (by have := HJ3.out.len0; omega)
              rw [HY.out.2.2.1] at h9
              try rw [HY.out.1] at h9
              rw [HLY.out] at h9
              rw [show (lftE on wd mx l0.length (a.t, a.r)) = E from HE.out] at h9
              exact h9)
            clear hE
            go_upto_region 27 with fail
            refine Held.begin (fun z => z.cell? ⟨xb, 0, none⟩ = some (.int .i64 a.t) ∧ z.cell? ⟨xb, 1, none⟩ = some (.slice a.A a.m a.c)) 100 (by kernel_rfl) ?_
            obtain ⟨X1, hX1⟩ : ∃ X1, W3.drew = X1 := ⟨_, rfl⟩
            have hD : Below W3.heap.size W3 X1 := by rw [← hX1]; exact (Below.refl _ _).drew
            rw [hX1]
            have hJ4 := HJ3.out.below hD
            have kx4 := kx3.below hD kx3.lt
            have hra4 := (hra3.below hD).mono hD.size
            have hS : X1.cell? ⟨xb, 0, none⟩ = some (.int .i64 a.t) ∧ X1.cell? ⟨xb, 1, none⟩ = some (.slice a.A a.m a.c) := ⟨by simpa using kx4.cell 0, by simpa using kx4.cell 1⟩
            clear hX1 hD kx3 hra3 hJ3
            refine Held.take (i := 0) (.pointer (some ⟨bx, 0, none⟩)) rfl hS (by kernel_rfl) (by kernel_rfl) (by kernel_rfl) (by kernel_rfl) (fun _ _ _ h => h) rfl (fun y hy => by obtain ⟨x1, x2⟩ := hy; go_simp) ?_
            try simp only [Act.put]
            refine Held.take (i := 1) (.agg #[.int .i64 a.t, .slice a.A a.m a.c]) rfl hS (by kernel_rfl) (by kernel_rfl) (by kernel_rfl) (by kernel_rfl) (fun _ _ _ h => h) rfl (fun y hy => by obtain ⟨x1, x2⟩ := hy; go_simp) ?_
            try simp only [Act.put]
            refine Held.take (i := 3) (.pointer (some ⟨by_, 0, none⟩)) rfl hS (by kernel_rfl) (by kernel_rfl) (by kernel_rfl) (by kernel_rfl) (fun _ _ _ h => h) rfl (fun y hy => by obtain ⟨x1, x2⟩ := hy; go_simp) ?_
            try simp only [Act.put]
            refine Held.take (i := 4) (.agg #[.int .i64 a.t, .slice a.A a.m a.c]) rfl hS (by kernel_rfl) (by kernel_rfl) (by kernel_rfl) (by kernel_rfl) (fun _ _ _ h => h) rfl (fun y hy => by obtain ⟨x1, x2⟩ := hy; go_simp) ?_
            try simp only [Act.put]
            refine Held.one (i := 2) rfl (by kernel_rfl) rfl (fun K hK => ?_)
            · unfold Oper.wp
              go_simp
              refine (HCX.out X1 hJ4.M.x hJ4.M.o0 hJ4.M.o1 hra4).mono ?_
              rintro e X2 hres
              have hval := hres.1
              subst hval
              obtain ⟨g1, g2, g3, hlow2, kx5⟩ := keepL_x hJ4.M hJ4.low kx4 HFAR.out hres
              have hS2 : X2.cell? ⟨xb, 0, none⟩ = some (.int .i64 a.t) ∧ X2.cell? ⟨xb, 1, none⟩ = some (.slice a.A a.m a.c) := ⟨by simpa using kx5.cell 0, by simpa using kx5.cell 1⟩
              refine hK _ _ (fun _ => hS2) ?_
              try simp only [Act.put]
              have hra5 : RowK X2 X2.heap.size a.A a.m a.r := (HRA.out.below hlow2).mono hlow2.size
              clear hK K
              refine Held.one (i := 5) rfl (by kernel_rfl) rfl (fun K hK => ?_)
              unfold Oper.wp
              go_simp
              refine (HCY.out X2 g1 g2 g3 hra5).mono ?_
              rintro e X3 hres2
              have hval := hres2.1
              subst hval
              have HAF := hide (afterL_xy hJ4.M hJ4.low kx4 HFAR.out hres hres2)
              have kx6 := HAF.out.1
              have hS3 : X3.cell? ⟨xb, 0, none⟩ = some (.int .i64 a.t) ∧ X3.cell? ⟨xb, 1, none⟩ = some (.slice a.A a.m a.c) := ⟨by simpa using kx6.cell 0, by simpa using kx6.cell 1⟩
              refine hK _ _ (fun _ => hS3) ?_
              try simp only [Act.put]
              have HJ4 := hide hJ4
              clear hK K hS hS2 hres hres2 g1 g2 g3 hlow2 hra4 hra5 kx4 kx5 hJ4
              refine Held.one (i := 6) rfl (by kernel_rfl) rfl (fun K hK => ?_)
              unfold Oper.wp
              go_simp
              refine hK _ _ (fun _ => hS3) ?_
              try simp only [Act.put]
              clear hK K
              refine Held.one (i := 7) rfl (by kernel_rfl) rfl (fun K hK => ?_)
              unfold Oper.wp
              go_simp
              refine hK _ _ (fun _ => hS3) ?_
              try simp only [Act.put]
              clear hK K
              refine Held.done (by kernel_rfl) ?_
              by_cases hz : E = 0
              · subst hz
                have h9 := HAF.out.2.2
                rw [if_pos rfl] at h9
                obtain ⟨a0', a2', ev, l2', hm, t1, cp1, t2⟩ := h9
                have hlow := HAF.out.2.1
                have hws5 := hlow.size
                have hown := hm.o4
                have hra6 : RowK X3 W0.heap.size a.A a.m a.r := HRA.out.below hlow
                have hrd : Reads (X3.alloc (.cells #[.int .i64 a.t, .slice a.A a.m a.c] 36)) (X3.heap.size + 1) 2 (some ⟨X3.heap.size, 0, none⟩) 1 [.int .i64 a.t, .slice a.A a.m a.c] :=
                  ⟨rfl, fun _ => ⟨X3.heap.size, 0, rfl, by omega, fun q u hu => by rw [Nat.zero_add, (Blk.new X3 36 #[.int .i64 a.t, .slice a.A a.m a.c]).cell q]; simpa using hu⟩⟩
                have HFI := hide (show ∀ (v3 : Value) (w3 : World), w3.ownsRow W0.heap.size 36 2 v3 (l4.length + 1) (l4.flatMap encEv ++ [.int .i64 a.t, .slice a.A a.m a.c]) → (X3.alloc (.cells #[.int .i64 a.t, .slice a.A a.m a.c] 36)).grownBy w3 (Value.slice Al l4.length cl).ownBlock → (v3.ownBlock = (Value.slice Al l4.length cl).ownBlock ∨ v3.ownBlock = some (X3.alloc (.cells #[.int .i64 a.t, .slice a.A a.m a.c] 36)).heap.size) →
                    VtR W0 bx by_ kx ky on others wd n3 (k + 1) v3 (.slice Ar l5.length cr) (.slice Ag l6.length cg) w3 from fun v3 w3 o1 o2 o3 => by
                  obtain ⟨p1, p2, p3⟩ := own_push (e' := ⟨a.t, a.A, a.m, a.c, a.r⟩) hown hws5 hra6 o1 o2 o3
                  have m2 := hm.v4 p1 p2 p3
                  have hl2 : Below W0.heap.size W0 w3 := hlow.trans (p3.below hws5 (fun x hx => (hm.os hown x hx).1))
                  exact ⟨mx, a0', a1, a2', a3, l0 ++ [ev], l1, l2', l3, l4 ++ [⟨a.t, a.A, a.m, a.c, a.r⟩], l5, l6, HJ4.out.left hlt HE.out m2 t1 rfl cp1 hca t2 hl2⟩)
                have hl400 : l4.length ≤ 40 := by omega
                have x0 : X3.cell? ⟨xb, 0, none⟩ = some (.int .i64 a.t) := by simpa using kx6.cell 0
                have x1 : X3.cell? ⟨xb, 1, none⟩ = some (.slice a.A a.m a.c) := by simpa using kx6.cell 1
                have hown5 := hown.own.alloc (.cells #[.int .i64 a.t, .slice a.A a.m a.c] 36)
                clear hm hown hra6 kx6 hS3
                go_wp2_with (at_builtin; refine wpList_append_any _ rfl _ _ 25 rfl W0.heap.size 36 i0 _ 2 32 Tryz.underlying25 hi0 hz0 hz1 hz2 rfl (by decide) (.slice Al l4.length cl) l4.length _ rfl hown5 (X3.heap.size + 1) (some ⟨X3.heap.size, 0, none⟩) 1 1 [.int .i64 a.t, .slice a.A a.m a.c] rfl hrd (by simp [Value.oneCell']) (by unfold maxLen; omega) (by omega) (by simp; omega) ?_; intro v3 w3 o1 o2 o3; have HREL := hide (HFI.out v3 w3 o1 o2 o3); clear o1 o2 o3)
                clear x0 x1 hown5 hrd hlow
                go_wp2
                go_roundw
                case rel => exact ⟨k + 1, by omega, by go_num, HREL.out⟩
                case measure => simp [intOf]; omega
              · have z1 : (E == 0) = false := by simpa using hz
                have z2 : (E != E) = false := by simp
                have h9 := HAF.out.2.2
                rw [if_neg hz] at h9
                have HREL := hide (show VtR W0 bx by_ kx ky on others wd n3 (k + 1) (.slice Al l4.length cl) (.slice Ar l5.length cr) (.slice Ag l6.length cg) X3 from ⟨mx, a0, a1, a2, a3, l0, l1, l2, l3, l4, l5, l6, (HJ4.out.same h9 HAF.out.2.1).next hlt⟩)
                clear h9 kx6 hS3
                go_wp2
                go_roundw
                case rel => exact ⟨k + 1, by omega, by go_num, HREL.out⟩
                case measure => simp [intOf]; omega
          · have d9 : (a.k == 0) = false := by simpa using z0
            clear HLY
            have HLY := hide (HJ3.out.len0.2.2.2.2)
            by_cases z1 : a.k = 1
            · have d8 : (a.k == 1) = true := by simpa using z1
              obtain ⟨E, hE⟩ : ∃ E, rgtE wd mx l1.length (a.t, a.r) = E := ⟨_, rfl⟩
              have HE := hide hE
              have HCX := hide (show ∀ V : World, VO V 130 bx kx a0 a1 mx → OE V W0.heap.size a0 l0 → OE V W0.heap.size a1 l1 → RowK V V.heap.size a.A a.m a.r → Calls Tryz.prog 32 #[.pointer (some ⟨bx, 0, none⟩), .agg #[.int .i64 a.t, .slice a.A a.m a.c]] V (RetVt 130 bx kx W0.heap.size a0 a1 mx l0 l1 false E (a.t, a.r) V) from fun V g1 g2 g3 g4 => by
                have h9 := VRight_any kx bx a0 a1 mx l0 l1 W0.heap.size ⟨a.t, a.A, a.m, a.c, a.r⟩ V g1 HJ3.out.M.hx g2 g3 g4 HX.out.2.2.2.1 (by rw [HX.out.2.2.1]; exact hw8) HX.out.2.2.2.2.2
                rw [HX.out.2.2.1] at h9
                try rw [HX.out.1] at h9
                rw [show (rgtE wd mx l1.length (a.t, a.r)) = E from HE.out] at h9
                exact h9)
              have HCY := hide (show ∀ V : World, VO V 132 by_ ky a2 a3 mx → OE V W0.heap.size a2 l2 → OE V W0.heap.size a3 l3 → RowK V V.heap.size a.A a.m a.r → Calls Tryz.prog 33 #[.pointer (some ⟨by_, 0, none⟩), .agg #[.int .i64 a.t, .slice a.A a.m a.c]] V (RetVt 132 by_ ky W0.heap.size a2 a3 mx l2 l3 false E (a.t, a.r) V) from fun V g1 g2 g3 g4 => by
                have h9 := RRight_any ky by_ a2 a3 mx l2 l3 W0.heap.size ⟨a.t, a.A, a.m, a.c, a.r⟩ V g1 HJ3.out.M.hy g2 g3 g4 HY.out.2.2.2.1 (by rw [HY.out.2.2.1]; exact hw8) HY.out.2.2.2.2.2 (by have := HJ3.out.len0; omega)
                rw [HY.out.2.2.1] at h9
                try rw [HY.out.1] at h9
                rw [HLY.out] at h9
                rw [show (rgtE wd mx l1.length (a.t, a.r)) = E from HE.out] at h9
                exact h9)
              clear hE
              go_upto_region 31 with fail
              refine Held.begin (fun z => z.cell? ⟨xb, 0, none⟩ = some (.int .i64 a.t) ∧ z.cell? ⟨xb, 1, none⟩ = some (.slice a.A a.m a.c)) 100 (by kernel_rfl) ?_
              obtain ⟨X1, hX1⟩ : ∃ X1, W3.drew = X1 := ⟨_, rfl⟩
              have hD : Below W3.heap.size W3 X1 := by rw [← hX1]; exact (Below.refl _ _).drew
              rw [hX1]
              have hJ4 := HJ3.out.below hD
              have kx4 := kx3.below hD kx3.lt
              have hra4 := (hra3.below hD).mono hD.size
              have hS : X1.cell? ⟨xb, 0, none⟩ = some (.int .i64 a.t) ∧ X1.cell? ⟨xb, 1, none⟩ = some (.slice a.A a.m a.c) := ⟨by simpa using kx4.cell 0, by simpa using kx4.cell 1⟩
              clear hX1 hD kx3 hra3 hJ3
              refine Held.take (i := 0) (.pointer (some ⟨bx, 0, none⟩)) rfl hS (by kernel_rfl) (by kernel_rfl) (by kernel_rfl) (by kernel_rfl) (fun _ _ _ h => h) rfl (fun y hy => by obtain ⟨x1, x2⟩ := hy; go_simp) ?_
              try simp only [Act.put]
              refine Held.take (i := 1) (.agg #[.int .i64 a.t, .slice a.A a.m a.c]) rfl hS (by kernel_rfl) (by kernel_rfl) (by kernel_rfl) (by kernel_rfl) (fun _ _ _ h => h) rfl (fun y hy => by obtain ⟨x1, x2⟩ := hy; go_simp) ?_
              try simp only [Act.put]
              refine Held.take (i := 3) (.pointer (some ⟨by_, 0, none⟩)) rfl hS (by kernel_rfl) (by kernel_rfl) (by kernel_rfl) (by kernel_rfl) (fun _ _ _ h => h) rfl (fun y hy => by obtain ⟨x1, x2⟩ := hy; go_simp) ?_
              try simp only [Act.put]
              refine Held.take (i := 4) (.agg #[.int .i64 a.t, .slice a.A a.m a.c]) rfl hS (by kernel_rfl) (by kernel_rfl) (by kernel_rfl) (by kernel_rfl) (fun _ _ _ h => h) rfl (fun y hy => by obtain ⟨x1, x2⟩ := hy; go_simp) ?_
              try simp only [Act.put]
              refine Held.one (i := 2) rfl (by kernel_rfl) rfl (fun K hK => ?_)
              · unfold Oper.wp
                go_simp
                refine (HCX.out X1 hJ4.M.x hJ4.M.o0 hJ4.M.o1 hra4).mono ?_
                rintro e X2 hres
                have hval := hres.1
                subst hval
                obtain ⟨g1, g2, g3, hlow2, kx5⟩ := keepR_x hJ4.M hJ4.low kx4 HFAR.out hres
                have hS2 : X2.cell? ⟨xb, 0, none⟩ = some (.int .i64 a.t) ∧ X2.cell? ⟨xb, 1, none⟩ = some (.slice a.A a.m a.c) := ⟨by simpa using kx5.cell 0, by simpa using kx5.cell 1⟩
                refine hK _ _ (fun _ => hS2) ?_
                try simp only [Act.put]
                have hra5 : RowK X2 X2.heap.size a.A a.m a.r := (HRA.out.below hlow2).mono hlow2.size
                clear hK K
                refine Held.one (i := 5) rfl (by kernel_rfl) rfl (fun K hK => ?_)
                unfold Oper.wp
                go_simp
                refine (HCY.out X2 g1 g2 g3 hra5).mono ?_
                rintro e X3 hres2
                have hval := hres2.1
                subst hval
                have HAF := hide (afterR_xy hJ4.M hJ4.low kx4 HFAR.out hres hres2)
                have kx6 := HAF.out.1
                have hS3 : X3.cell? ⟨xb, 0, none⟩ = some (.int .i64 a.t) ∧ X3.cell? ⟨xb, 1, none⟩ = some (.slice a.A a.m a.c) := ⟨by simpa using kx6.cell 0, by simpa using kx6.cell 1⟩
                refine hK _ _ (fun _ => hS3) ?_
                try simp only [Act.put]
                have HJ4 := hide hJ4
                clear hK K hS hS2 hres hres2 g1 g2 g3 hlow2 hra4 hra5 kx4 kx5 hJ4
                refine Held.one (i := 6) rfl (by kernel_rfl) rfl (fun K hK => ?_)
                unfold Oper.wp
                go_simp
                refine hK _ _ (fun _ => hS3) ?_
                try simp only [Act.put]
                clear hK K
                refine Held.one (i := 7) rfl (by kernel_rfl) rfl (fun K hK => ?_)
                unfold Oper.wp
                go_simp
                refine hK _ _ (fun _ => hS3) ?_
                try simp only [Act.put]
                clear hK K
                refine Held.done (by kernel_rfl) ?_
                by_cases hz : E = 0
                · subst hz
                  have h9 := HAF.out.2.2
                  rw [if_pos rfl] at h9
                  obtain ⟨a1', a3', ev, ev', hm, t1, t2, cp1⟩ := h9
                  have hlow := HAF.out.2.1
                  have hws5 := hlow.size
                  have hown := hm.o5
                  have hra6 : RowK X3 W0.heap.size a.A a.m a.r := HRA.out.below hlow
                  have hrd : Reads (X3.alloc (.cells #[.int .i64 a.t, .slice a.A a.m a.c] 36)) (X3.heap.size + 1) 2 (some ⟨X3.heap.size, 0, none⟩) 1 [.int .i64 a.t, .slice a.A a.m a.c] :=
                    ⟨rfl, fun _ => ⟨X3.heap.size, 0, rfl, by omega, fun q u hu => by rw [Nat.zero_add, (Blk.new X3 36 #[.int .i64 a.t, .slice a.A a.m a.c]).cell q]; simpa using hu⟩⟩
                  have HFI := hide (show ∀ (v3 : Value) (w3 : World), w3.ownsRow W0.heap.size 36 2 v3 (l5.length + 1) (l5.flatMap encEv ++ [.int .i64 a.t, .slice a.A a.m a.c]) → (X3.alloc (.cells #[.int .i64 a.t, .slice a.A a.m a.c] 36)).grownBy w3 (Value.slice Ar l5.length cr).ownBlock → (v3.ownBlock = (Value.slice Ar l5.length cr).ownBlock ∨ v3.ownBlock = some (X3.alloc (.cells #[.int .i64 a.t, .slice a.A a.m a.c] 36)).heap.size) →
                      VtR W0 bx by_ kx ky on others wd n3 (k + 1) (.slice Al l4.length cl) v3 (.slice Ag l6.length cg) w3 from fun v3 w3 o1 o2 o3 => by
                    obtain ⟨p1, p2, p3⟩ := own_push (e' := ⟨a.t, a.A, a.m, a.c, a.r⟩) hown hws5 hra6 o1 o2 o3
                    have m2 := hm.v5 p1 p2 p3
                    have hl2 : Below W0.heap.size W0 w3 := hlow.trans (p3.below hws5 (fun x hx => (hm.os hown x hx).1))
                    exact ⟨mx, a0, a1', a2, a3', l0, l1 ++ [ev], l2, l3 ++ [ev'], l4, l5 ++ [⟨a.t, a.A, a.m, a.c, a.r⟩], l6, HJ4.out.right hlt HE.out m2 t1 t2 rfl cp1 hca hl2⟩)
                  have hl400 : l5.length ≤ 40 := by omega
                  have x0 : X3.cell? ⟨xb, 0, none⟩ = some (.int .i64 a.t) := by simpa using kx6.cell 0
                  have x1 : X3.cell? ⟨xb, 1, none⟩ = some (.slice a.A a.m a.c) := by simpa using kx6.cell 1
                  have hown5 := hown.own.alloc (.cells #[.int .i64 a.t, .slice a.A a.m a.c] 36)
                  clear hm hown hra6 kx6 hS3
                  go_wp2_with (at_builtin; refine wpList_append_any _ rfl _ _ 25 rfl W0.heap.size 36 i0 _ 2 32 Tryz.underlying25 hi0 hz0 hz1 hz2 rfl (by decide) (.slice Ar l5.length cr) l5.length _ rfl hown5 (X3.heap.size + 1) (some ⟨X3.heap.size, 0, none⟩) 1 1 [.int .i64 a.t, .slice a.A a.m a.c] rfl hrd (by simp [Value.oneCell']) (by unfold maxLen; omega) (by omega) (by simp; omega) ?_; intro v3 w3 o1 o2 o3; have HREL := hide (HFI.out v3 w3 o1 o2 o3); clear o1 o2 o3)
                  clear x0 x1 hown5 hrd hlow
                  go_wp2
                  go_roundw
                  case rel => exact ⟨k + 1, by omega, by go_num, HREL.out⟩
                  case measure => simp [intOf]; omega
                · have z1 : (E == 0) = false := by simpa using hz
                  have z2 : (E != E) = false := by simp
                  have h9 := HAF.out.2.2
                  rw [if_neg hz] at h9
                  have HREL := hide (show VtR W0 bx by_ kx ky on others wd n3 (k + 1) (.slice Al l4.length cl) (.slice Ar l5.length cr) (.slice Ag l6.length cg) X3 from ⟨mx, a0, a1, a2, a3, l0, l1, l2, l3, l4, l5, l6, (HJ4.out.same h9 HAF.out.2.1).next hlt⟩)
                  clear h9 kx6 hS3
                  go_wp2
                  go_roundw
                  case rel => exact ⟨k + 1, by omega, by go_num, HREL.out⟩
                  case measure => simp [intOf]; omega
            · have d8 : (a.k == 1) = false := by simpa using z1
              obtain ⟨m, hm⟩ : ∃ m : Int, a.n = m := ⟨_, rfl⟩
              rw [hm]
              have HMM := hide hm
              clear hm
              have hl9 := hJ3.len0
              have HVM := hide (show Calls Tryz.prog 34 #[.pointer (some ⟨bx, 0, none⟩), .int .i64 m] W3 (RetVm (fun l => ∀ e ∈ l, e.n ≤ e.c) 130 bx kx W0.heap.size a1 mx m (restV m (dE l0)) (outV on others wd m (dE l0) (dE l1)) W3) from by
                have h9 := VMark_any kx bx a0 a1 mx m l0 l1 W0.heap.size W3 hJ3.M.x hJ3.M.hx hJ3.M.o0 hJ3.M.o1 (by rw [HX.out.1, HX.out.2.1, HX.out.2.2.1]; exact HVK.out) HX.out.2.2.2.1 HX.out.2.2.2.2.1 (by omega) (by omega) (by rw [HX.out.1, HX.out.2.2.1]; exact hJ3.okl) (by rw [HX.out.2.2.1]; exact hJ3.okr) hJ3.c0 hJ3.c1 W0 HT.out hJ3.low hJ3.M.hx
                rw [HX.out.1, HX.out.2.1, HX.out.2.2.1] at h9
                exact h9)
              have HRM := hide (show ∀ (V : World) (mx' : Int), mx' = mx → VO V 132 by_ ky a2 a3 mx' → OE V W0.heap.size a2 l2 → OE V W0.heap.size a3 l3 → Calls Tryz.prog 35 #[.pointer (some ⟨by_, 0, none⟩), .int .i64 m] V (RetVm (fun _ => True) 132 by_ ky W0.heap.size a3 mx m (restV m (dE l2)) (outV on others wd m (dE l0) (dE l1)) V) from fun V mx' hm2 g1 g2 g3 => by
                subst hm2
                have h9 := RMark_any ky by_ a2 a3 mx' m l2 l3 W0.heap.size V g1 HJ3.out.M.hy g2 g3 (by rw [HY.out.1, HY.out.2.1, HY.out.2.2.1]; exact HVK.out) HY.out.2.2.2.1 HY.out.2.2.2.2.1 (by omega) (by omega) (by rw [HY.out.1, HY.out.2.2.1]; exact HJ3.out.okl2) (by rw [HY.out.2.2.1]; exact HJ3.out.okr3)
                rw [HY.out.1, HY.out.2.1, HY.out.2.2.1, HJ3.out.rest2] at h9
                exact h9)
              go_wp2_with fail
              refine HVM.out.mono ?_
              rintro e W4' hres
              unfold RetVm at hres
              by_cases hmk : mrkE mx m = 0
              · rw [if_pos hmk] at hres
                obtain ⟨Ao, no, co, ox, a0', l0', rfl, hv', hO', hd', hcp, hfr, ⟨hrd, hro, hcapo, hfo⟩, hdo, hbar⟩ := hres
                have m1 := hJ3.M.x0 hv' hO' (.inr hfr) (bar_w (B := 0) (Xs := []) hbar)
                have hlow1 : Below W0.heap.size W0 W4' := hJ3.low.trans (hJ3.M.lowx hJ3.M.o0 hJ3.low.size (bar_w (B := 0) (Xs := []) hbar))
                have hbyl : by_ < W3.heap.size := hJ3.M.y.blk.lt
                have hs9 := hbar.size
                clear HVM hv' hO' hbar
                go_wp2_with fail
                refine (HRM.out W4' mx rfl m1.y m1.o2 m1.o3).mono ?_
                rintro e W5 hres
                unfold RetVm at hres
                rw [if_pos hmk] at hres
                obtain ⟨Ap, np, cp, oy, a2', l2', rfl, hv2, hO2, hd2, _, hfr2, ⟨hrd2, hro2, hcapo2, hfo2⟩, hdo2, hbar2⟩ := hres
                have m2 := m1.y2 hv2 hO2 (.inr hfr2) (bar_w (B := 0) (Xs := []) hbar2)
                have hlow2 : Below W0.heap.size W0 W5 := hlow1.trans (m1.lowy m1.o2 hlow1.size (bar_w (B := 0) (Xs := []) hbar2))
                obtain ⟨hrd3, hro3⟩ := evs_bar hrd hro hbar2 m1.hy (blk_not m1.y.blk (by decide)) (fun g off mm e => by have := hfo g off mm e; omega)
                have hlo : ox.length = no := hrd3.len encEv_len (by omega)
                have hlp : oy.length = np := hrd2.len encEv_len (by omega)
                have hnop : no = np := by rw [← hlo, ← hlp, ← dE_len ox, ← dE_len oy, hdo, hdo2]
                subst hnop
                have hno : no ≤ 400 := by
                  have h9 := congrArg List.length hdo
                  rw [dE_len] at h9
                  unfold outV at h9
                  rw [srtG_len Tot.te, List.length_map] at h9
                  have h8 := List.length_filter_le (belowM m) (dE l0)
                  rw [dE_len] at h8
                  omega
                have hrx5 : EvR W5 W5.heap.size Ao no ox := ⟨hrd3, fun i hi => (hro3 i hi).mono hlow2.size, by omega⟩
                have hry5 : EvR W5 W5.heap.size Ap no oy := ⟨hrd2, fun i hi => (hro2 i hi).mono hlow2.size, by omega⟩
                have HDD := hide (show dE ox = dE oy from by rw [hdo, hdo2])
                have HDO := hide hdo
                have HD0 := hide hd'
                have HD2 := hide hd2
                have HCP := hide hcp
                have HRO := hide hro3
                have HMK := hide hmk
                have HLP := hide hlo
                clear hdo hdo2 hd' hd2 hcp hfr hfr2 hrd hrd2 hrd3 hro hro2 hro3 hfo hfo2 hv2 hO2 hbar2 m1 hlow1 HRM hmk hlp hlo hs9 hbyl
                go_wp2_with fail
                refine (EvSame_one Ao no co Ap cp _ _ ox oy W5 hrx5 hry5 HDD.out).mono ?_
                rintro e W6 ⟨rfl, hb⟩
                have m3 := m2.below hb
                have hlow3 := bstep hlow2 hb
                have hrx6 := hrx5.step hb
                have hro6 := HRO.out.below hb
                clear hb m2 hlow2 hrx5 hry5
                have M3 := hide m3
                have HRX := hide hrx6
                have HRO6 := hide hro6
                have HLOW := hide hlow3
                have hs6 := hlow3.size
                clear m3 hrx6 hro6 hlow3
                go_wp2_with fail
                go_loopw [11, 20] (fun vg i wx => ∃ (q : Nat) (g' : List Ev), q ≤ no ∧ i = .int .i64 q ∧ Mm wx W0.heap.size bx by_ kx ky m m a0' a1 a2' a3 (.slice Al l4.length cl) (.slice Ar l5.length cr) vg l0' l1 l2' l3 l4 l5 g' ∧ dE g' = ((dE ox).take q).foldl (fun s x => stepG cmpE s x) (dE l6) ∧ Below W6.heap.size W6 wx) (fun _ i _ => no - (intOf i).toNat)
                case atStart => exact ⟨0, l6, Nat.zero_le _, rfl, M3.out, rfl, Below.refl _ _⟩
                case round =>
                  obtain ⟨q, g', hq, rfl, hmq, hdg, hBq⟩ := hrel
                  obtain ⟨Ah, ch, hvh, _⟩ := own_form hmq.o6.own
                  subst hvh
                  have hg4 : g'.length ≤ 1000 := by
                    have h9 := congrArg List.length hdg
                    rw [fold_len, dE_len, dE_len, List.length_take, dE_len] at h9
                    omega
                  have HDG := hide hdg
                  have hsq := hBq.size
                  clear hdg
                  by_cases hlt9 : q < no
                  · have s1 : (0 : Int) ≤ (q : Int) := by omega
                    have s2 : (q : Int) < (no : Int) := by omega
                    obtain ⟨bq, oq, xx, hAq, hbq9, hxq, e0, e1, hrq⟩ := (HRX.out.step hBq).at_ hlt9
                    have hxB : RowK wr W0.heap.size xx.A xx.n xx.r := (HRO6.out xx (List.mem_of_getElem? hxq)).below hBq
                    have HTQ := hide (show (dE ox).take (q + 1) = (dE ox).take q ++ [(xx.t, xx.r)] from take_snoc' (dE_at hxq))
                    obtain ⟨g1, g2, g3⟩ := hmq.o6.evR (by omega)
                    have HPE := hide (PutEventO_any Ah g'.length ch g' xx wr g1 g3 (by omega) hrq W0.heap.size (by omega) hmq.o6.rows hxB)
                    rw [hAq]
                    have HAQ := hide hAq
                    clear hxq hAq g1 g2 g3 hrq hxB
                    go_wp2_with fail
                    refine HPE.out.mono ?_
                    rintro e W7 hres
                    obtain ⟨An, nn, cn, ln, rfl, hdn, hOn, hfn, hb⟩ := hres
                    have hmq2 := hmq.v6 hOn (.inr hfn) (Bar.of_below hb _)
                    · have HREL := hide (show Mm W7 W0.heap.size bx by_ kx ky m m a0' a1 a2' a3 (.slice Al l4.length cl) (.slice Ar l5.length cr) (.slice An nn cn) l0' l1 l2' l3 l4 l5 ln ∧ dE ln = ((dE ox).take (q + 1)).foldl (fun s x => stepG cmpE s x) (dE l6) ∧ Below W6.heap.size W6 W7 from ⟨hmq2, by rw [hdn, HTQ.out, List.foldl_append, HDG.out]; rfl, bstep hBq hb⟩)
                      clear hmq hmq2 hBq hb hOn hfn hdn e0 e1
                      go_wp2
                      go_roundw
                      case rel => exact ⟨q + 1, ln, by omega, by go_num, HREL.out⟩
                      case measure => simp [intOf]; omega
                  · obtain rfl : q = no := by omega
                    have hq9 : (dE ox).take q = dE ox := List.take_of_length_le (by rw [dE_len, HLP.out]; exact Nat.le_refl _)
                    have HREL := hide (show VtR W0 bx by_ kx ky on others wd n3 (k + 1) (.slice Al l4.length cl) (.slice Ar l5.length cr) (.slice Ah g'.length ch) wr from ⟨m, a0', a1, a2', a3, l0', l1, l2', l3, l4, l5, g', HJ3.out.mark HMK.out (fun h => by omega) hmq HD0.out HD2.out (by rw [HDG.out, hq9, HDO.out]) HCP.out (HLOW.out.trans (hBq.mono hs6))⟩)
                    clear hmq hBq hq9
                    go_wp2
                    go_roundw
                    case rel => exact ⟨k + 1, by omega, by go_num, HREL.out⟩
                    case measure => simp [intOf]; omega
              · rw [if_neg hmk] at hres
                obtain ⟨he, hb⟩ := hres
                subst he
                have hJ4 := hJ3.below hb
                obtain ⟨E, hEE⟩ : ∃ E, mrkE mx m = E := ⟨_, rfl⟩
                rw [hEE]
                clear hb HVM
                go_wp2_with fail
                refine (HRM.out W4' mx rfl hJ4.M.y hJ4.M.o2 hJ4.M.o3).mono ?_
                rintro e W5 hres
                unfold RetVm at hres
                rw [if_neg hmk, hEE] at hres
                obtain ⟨he, hb2⟩ := hres
                subst he
                have hJ5 := hJ4.below hb2
                clear hb2 HRM hEE hmk
                go_wp2_with fail
                refine (EvSame_one none 0 0 none 0 W5.heap.size W5.heap.size [] [] W5 (EvR.nil _ _) (EvR.nil _ _) rfl).mono ?_
                rintro e W6 ⟨rfl, hb3⟩
                have HREL := hide (show VtR W0 bx by_ kx ky on others wd n3 (k + 1) (.slice Al l4.length cl) (.slice Ar l5.length cr) (.slice Ag l6.length cg) W6 from ⟨mx, a0, a1, a2, a3, l0, l1, l2, l3, l4, l5, l6, (hJ5.below hb3).next hlt⟩)
                have z2 : (E != E) = false := by simp
                clear hb3 hJ4 hJ5
                go_wp2_with fail
                go_loopw [11, 20] (fun vg i wx => vg = .slice Ag l6.length cg ∧ i = .int .i64 0 ∧ wx = W6) (fun _ _ _ => 0)
                case atStart => exact ⟨rfl, rfl, rfl⟩
                case round =>
                  obtain ⟨rfl, rfl, hw⟩ := hrel
                  subst hw
                  go_wp2
                  go_roundw
                  case rel => exact ⟨k + 1, by omega, by go_num, HREL.out⟩
                  case measure => simp [intOf]; omega
        · have hkn : k = n3 := by omega
          have q2 : ¬ ((k : Int) < (n3 : Int)) := by omega
          have hJ3 := hJ.below hba
          have HJ3 := hide hJ3
          go_upto_region 17 with fail
          obtain ⟨W3, hW3⟩ : ∃ W3, wr.alloc (.cells #[.int .i64 0, .slice none 0 0] 36) = W3 := ⟨_, rfl⟩
          rw [hW3] at hJ3 HJ3 ⊢
          clear hW3 hba kv hJ
          have hl9 := hJ3.len0
          have HVM := hide (show Calls Tryz.prog 34 #[.pointer (some ⟨bx, 0, none⟩), .int .i64 (1000000000001 : Int)] W3 (RetVm (fun l => ∀ e ∈ l, e.n ≤ e.c) 130 bx kx W0.heap.size a1 mx (1000000000001 : Int) (restV (1000000000001 : Int) (dE l0)) (outV on others wd (1000000000001 : Int) (dE l0) (dE l1)) W3) from by
            have h9 := VMark_any kx bx a0 a1 mx (1000000000001 : Int) l0 l1 W0.heap.size W3 hJ3.M.x hJ3.M.hx hJ3.M.o0 hJ3.M.o1 (by rw [HX.out.1, HX.out.2.1, HX.out.2.2.1]; exact HVK.out) HX.out.2.2.2.1 HX.out.2.2.2.2.1 (by omega) (by omega) (by rw [HX.out.1, HX.out.2.2.1]; exact hJ3.okl) (by rw [HX.out.2.2.1]; exact hJ3.okr) hJ3.c0 hJ3.c1 W0 HT.out hJ3.low hJ3.M.hx
            rw [HX.out.1, HX.out.2.1, HX.out.2.2.1] at h9
            exact h9)
          have HRM := hide (show ∀ (V : World) (mx' : Int), mx' = mx → VO V 132 by_ ky a2 a3 mx' → OE V W0.heap.size a2 l2 → OE V W0.heap.size a3 l3 → Calls Tryz.prog 35 #[.pointer (some ⟨by_, 0, none⟩), .int .i64 (1000000000001 : Int)] V (RetVm (fun _ => True) 132 by_ ky W0.heap.size a3 mx (1000000000001 : Int) (restV (1000000000001 : Int) (dE l2)) (outV on others wd (1000000000001 : Int) (dE l0) (dE l1)) V) from fun V mx' hm2 g1 g2 g3 => by
            subst hm2
            have h9 := RMark_any ky by_ a2 a3 mx' (1000000000001 : Int) l2 l3 W0.heap.size V g1 HJ3.out.M.hy g2 g3 (by rw [HY.out.1, HY.out.2.1, HY.out.2.2.1]; exact HVK.out) HY.out.2.2.2.1 HY.out.2.2.2.2.1 (by omega) (by omega) (by rw [HY.out.1, HY.out.2.2.1]; exact HJ3.out.okl2) (by rw [HY.out.2.2.1]; exact HJ3.out.okr3)
            rw [HY.out.1, HY.out.2.1, HY.out.2.2.1, HJ3.out.rest2] at h9
            exact h9)
          go_wp2_with fail
          refine HVM.out.mono ?_
          rintro e W4' hres
          unfold RetVm at hres
          by_cases hmk : mrkE mx (1000000000001 : Int) = 0
          · rw [if_pos hmk] at hres
            obtain ⟨Ao, no, co, ox, a0', l0', rfl, hv', hO', hd', hcp, hfr, ⟨hrd, hro, hcapo, hfo⟩, hdo, hbar⟩ := hres
            have m1 := hJ3.M.x0 hv' hO' (.inr hfr) (bar_w (B := 0) (Xs := []) hbar)
            have hlow1 : Below W0.heap.size W0 W4' := hJ3.low.trans (hJ3.M.lowx hJ3.M.o0 hJ3.low.size (bar_w (B := 0) (Xs := []) hbar))
            have hbyl : by_ < W3.heap.size := hJ3.M.y.blk.lt
            have hs9 := hbar.size
            clear HVM hv' hO' hbar
            go_wp2_with fail
            refine (HRM.out W4' mx rfl m1.y m1.o2 m1.o3).mono ?_
            rintro e W5 hres
            unfold RetVm at hres
            rw [if_pos hmk] at hres
            obtain ⟨Ap, np, cp, oy, a2', l2', rfl, hv2, hO2, hd2, _, hfr2, ⟨hrd2, hro2, hcapo2, hfo2⟩, hdo2, hbar2⟩ := hres
            have m2 := m1.y2 hv2 hO2 (.inr hfr2) (bar_w (B := 0) (Xs := []) hbar2)
            have hlow2 : Below W0.heap.size W0 W5 := hlow1.trans (m1.lowy m1.o2 hlow1.size (bar_w (B := 0) (Xs := []) hbar2))
            obtain ⟨hrd3, hro3⟩ := evs_bar hrd hro hbar2 m1.hy (blk_not m1.y.blk (by decide)) (fun g off mm e => by have := hfo g off mm e; omega)
            have hlo : ox.length = no := hrd3.len encEv_len (by omega)
            have hlp : oy.length = np := hrd2.len encEv_len (by omega)
            have hnop : no = np := by rw [← hlo, ← hlp, ← dE_len ox, ← dE_len oy, hdo, hdo2]
            subst hnop
            have hno : no ≤ 400 := by
              have h9 := congrArg List.length hdo
              rw [dE_len] at h9
              unfold outV at h9
              rw [srtG_len Tot.te, List.length_map] at h9
              have h8 := List.length_filter_le (belowM (1000000000001 : Int)) (dE l0)
              rw [dE_len] at h8
              omega
            have hrx5 : EvR W5 W5.heap.size Ao no ox := ⟨hrd3, fun i hi => (hro3 i hi).mono hlow2.size, by omega⟩
            have hry5 : EvR W5 W5.heap.size Ap no oy := ⟨hrd2, fun i hi => (hro2 i hi).mono hlow2.size, by omega⟩
            have HDD := hide (show dE ox = dE oy from by rw [hdo, hdo2])
            have HDO := hide hdo
            have HD0 := hide hd'
            have HD2 := hide hd2
            have HCP := hide hcp
            have HRO := hide hro3
            have HMK := hide hmk
            have HLP := hide hlo
            clear hdo hdo2 hd' hd2 hcp hfr hfr2 hrd hrd2 hrd3 hro hro2 hro3 hfo hfo2 hv2 hO2 hbar2 m1 hlow1 HRM hmk hlp hlo hs9 hbyl
            go_wp2_with fail
            refine (EvSame_one Ao no co Ap cp _ _ ox oy W5 hrx5 hry5 HDD.out).mono ?_
            rintro e W6 ⟨rfl, hb⟩
            have m3 := m2.below hb
            have hlow3 := bstep hlow2 hb
            have hrx6 := hrx5.step hb
            have hro6 := HRO.out.below hb
            clear hb m2 hlow2 hrx5 hry5
            have M3 := hide m3
            have HRX := hide hrx6
            have HRO6 := hide hro6
            have HLOW := hide hlow3
            have hs6 := hlow3.size
            clear m3 hrx6 hro6 hlow3
            go_wp2_with fail
            go_loopw [11, 20] (fun vg i wx => ∃ (q : Nat) (g' : List Ev), q ≤ no ∧ i = .int .i64 q ∧ Mm wx W0.heap.size bx by_ kx ky (1000000000001 : Int) (1000000000001 : Int) a0' a1 a2' a3 (.slice Al l4.length cl) (.slice Ar l5.length cr) vg l0' l1 l2' l3 l4 l5 g' ∧ dE g' = ((dE ox).take q).foldl (fun s x => stepG cmpE s x) (dE l6) ∧ Below W6.heap.size W6 wx) (fun _ i _ => no - (intOf i).toNat)
            case atStart => exact ⟨0, l6, Nat.zero_le _, rfl, M3.out, rfl, Below.refl _ _⟩
            case round =>
              obtain ⟨q, g', hq, rfl, hmq, hdg, hBq⟩ := hrel
              obtain ⟨Ah, ch, hvh, _⟩ := own_form hmq.o6.own
              subst hvh
              have hg4 : g'.length ≤ 1000 := by
                have h9 := congrArg List.length hdg
                rw [fold_len, dE_len, dE_len, List.length_take, dE_len] at h9
                omega
              have HDG := hide hdg
              have hsq := hBq.size
              clear hdg
              by_cases hlt9 : q < no
              · have s1 : (0 : Int) ≤ (q : Int) := by omega
                have s2 : (q : Int) < (no : Int) := by omega
                obtain ⟨bq, oq, xx, hAq, hbq9, hxq, e0, e1, hrq⟩ := (HRX.out.step hBq).at_ hlt9
                have hxB : RowK wr W0.heap.size xx.A xx.n xx.r := (HRO6.out xx (List.mem_of_getElem? hxq)).below hBq
                have HTQ := hide (show (dE ox).take (q + 1) = (dE ox).take q ++ [(xx.t, xx.r)] from take_snoc' (dE_at hxq))
                obtain ⟨g1, g2, g3⟩ := hmq.o6.evR (by omega)
                have HPE := hide (PutEventO_any Ah g'.length ch g' xx wr g1 g3 (by omega) hrq W0.heap.size (by omega) hmq.o6.rows hxB)
                rw [hAq]
                have HAQ := hide hAq
                clear hxq hAq g1 g2 g3 hrq hxB
                go_wp2_with fail
                refine HPE.out.mono ?_
                rintro e W7 hres
                obtain ⟨An, nn, cn, ln, rfl, hdn, hOn, hfn, hb⟩ := hres
                have hmq2 := hmq.v6 hOn (.inr hfn) (Bar.of_below hb _)
                · have HREL := hide (show Mm W7 W0.heap.size bx by_ kx ky (1000000000001 : Int) (1000000000001 : Int) a0' a1 a2' a3 (.slice Al l4.length cl) (.slice Ar l5.length cr) (.slice An nn cn) l0' l1 l2' l3 l4 l5 ln ∧ dE ln = ((dE ox).take (q + 1)).foldl (fun s x => stepG cmpE s x) (dE l6) ∧ Below W6.heap.size W6 W7 from ⟨hmq2, by rw [hdn, HTQ.out, List.foldl_append, HDG.out]; rfl, bstep hBq hb⟩)
                  clear hmq hmq2 hBq hb hOn hfn hdn e0 e1
                  go_wp2
                  go_roundw
                  case rel => exact ⟨q + 1, ln, by omega, by go_num, HREL.out⟩
                  case measure => simp [intOf]; omega
              · obtain rfl : q = no := by omega
                have hq9 : (dE ox).take q = dE ox := List.take_of_length_le (by rw [dE_len, HLP.out]; exact Nat.le_refl _)
                have HREL := hide (show VtR W0 bx by_ kx ky on others wd n3 (k + 1) (.slice Al l4.length cl) (.slice Ar l5.length cr) (.slice Ah g'.length ch) wr from ⟨(1000000000001 : Int), a0', a1, a2', a3, l0', l1, l2', l3, l4, l5, g', HJ3.out.mark HMK.out (fun _ => rfl) hmq HD0.out HD2.out (by rw [HDG.out, hq9, HDO.out]) HCP.out (HLOW.out.trans (hBq.mono hs6))⟩)
                clear hmq hBq hq9
                go_wp2
                go_roundw
                case rel => exact ⟨k + 1, by omega, by go_num, HREL.out⟩
                case measure => simp [intOf]; omega
          · exact (HJ3.out.nomark hmk).elim
      · have hkn : k = n3 + 1 := by omega
        have q0 : decide ((k : Int) ≤ (n3 : Int)) = false := decide_eq_false (by omega)
        have q0' : ¬ ((k : Int) ≤ (n3 : Int)) := by omega
        have hf := hJ.fin (by omega)
        have hV : verB on others (wd : Int) (dE l4) (dE l5) = (dE l6, 0) := by rw [hJ.e5]; exact hJ.I.last HVK.out hf (by rw [dE_len]; omega) (by rw [dE_len]; omega)
        have k9 := HK1.out.below hJ.low HKL.out
        have d0 : wr.cell? ⟨kb, 0, none⟩ = some (.slice A1 n1 c1) := by simpa using k9.cell 0
        have d1 : wr.cell? ⟨kb, 1, none⟩ = some (.slice A2 n2 c2) := by simpa using k9.cell 1
        have d3 : wr.cell? ⟨kb, 3, none⟩ = some (.int .i64 (wd : Int)) := by simpa using k9.cell 3
        obtain ⟨g1, g2, g3⟩ := hJ.M.o4.evR hJ.low.size
        obtain ⟨g4, g5, g6⟩ := hJ.M.o5.evR hJ.low.size
        obtain ⟨g7, g8, g9⟩ := hJ.M.o6.evR hJ.low.size
        have HVS := hide (show Calls Tryz.prog 19 #[.slice A1 n1 c1, .slice A2 n2 c2, .int .i64 (wd : Int), .slice Al l4.length cl, .slice Ar l5.length cr] wr (RetEvE wr (dE l6, 0)) from by
          have h9 := Versions_any A1 n1 c1 on A2 n2 c2 others (wd : Int) Al l4.length cl l4 Ar l5.length cr l5 wr (PA.out.up hJ.low) (PB.out.up hJ.low) (by omega) (by omega) g1 g4 (by omega) (by omega) hJ.c4 hJ.c5 (HT.out.below hJ.low)
          rw [hV] at h9
          exact h9)
        have HGG := hide g7
        have HLOW := hide hJ.low
        clear g1 g2 g3 g4 g5 g6 g7 g8 g9 hV k9 hJ hf
        go_wp2_with fail
        refine HVS.out.mono ?_
        rintro e W4' ⟨Ax, nx, cx, lx, rfl, hdx, hrx, _, hb⟩
        have hnx : nx = l6.length := by
          have h9 := congrArg List.length hdx
          rw [dE_len, dE_len] at h9
          rw [← hrx.len]
          exact h9
        subst hnx
        have hgg := HGG.out.step hb
        have hl5 := bstep HLOW.out hb
        have HDX := hide (show dE lx = dE l6 from hdx)
        clear hb hdx d0 d1 d3
        go_wp2_with fail
        refine (EvSame_one Ax l6.length cx Ag cg _ _ lx l6 W4' hrx hgg HDX.out).mono ?_
        rintro e W5 ⟨rfl, hb⟩
        have hl6 := bstep hl5 hb
        clear hb hl5 hrx hgg
        go_wp2_with fail
        refine (awake9_any W5 (HT.out.below hl6)).mono ?_
        rintro e W6 ⟨rfl, hb⟩
        have HB := hide (bstep HB0.out (bstep hl6 hb))
        clear hb hl6
        go_wp2
        go_ret
        exact ⟨rfl, HB.out⟩
  · rw [if_neg hE] at hres
    subst hres
    go_wp2_with fail
    refine (RNewVersioner_any A1 n1 c1 on A2 n2 c2 others width W3 (PA.out.up hB3) (PB.out.up hB3) (by omega) (by omega)).mono ?_
    rintro e W4 hres
    obtain ⟨hb, hres⟩ := hres
    rw [if_neg hE] at hres
    subst hres
    have hB4 := bstep hB3 hb
    obtain ⟨EE, hEE⟩ : ∃ EE, newE on others width = EE := ⟨_, rfl⟩
    rw [hEE]
    have zz : (EE != EE) = false := by simp
    clear hEE hb hB3 hB2 k4 d0 d1 d3 hE hs23 hs2
    go_wp2_with fail
    go_loopw [12] (fun i wr => ∃ k : Nat, k ≤ n3 + 1 ∧ i = .int .i64 k ∧ Below W0.heap.size W0 wr) (fun i _ => n3 + 1 - (intOf i).toNat)
    case atStart => exact ⟨0, Nat.zero_le _, rfl, hB4⟩
    case round =>
      clear hB4
      obtain ⟨k, hk, rfl, hBr⟩ := hrel
      by_cases hle : k ≤ n3
      · have q0 : (k : Int) ≤ (n3 : Int) := by omega
        have hba := below_val (w := wr) #[.int .i64 0, .slice none 0 0] 36
        have kv := Blk.new wr 36 #[.int .i64 0, .slice none 0 0]
        by_cases hlt : k < n3
        · have q1 : (0 : Int) ≤ (k : Int) := by omega
          have q2 : (k : Int) < (n3 : Int) := by omega
          obtain ⟨ba, oa, a, hA, hbal, hak, e0, e1, e2, e3, e4, hra, hca⟩ := (PC.out.below (bstep hBr hba)).at_ hlt
          have hra0 : RowK W0 W0.heap.size a.A a.m a.r := PC.out.rows a (List.mem_of_getElem? hak)
          have HRA := hide hra0
          have f0 := kv.frozen 0
          rw [hA]
          have HA := hide hA
          clear hak hA hra hra0 e4
          go_upto_region 14 with fail
          obtain ⟨W1, hW1⟩ : ∃ W1, wr.alloc (.cells #[.int .i64 0, .slice none 0 0] 36) = W1 := ⟨_, rfl⟩
          rw [hW1] at hba kv hbal e0 e1 e2 e3 f0 ⊢
          obtain ⟨xb, hxb⟩ : ∃ xb, wr.heap.size = xb := ⟨_, rfl⟩
          rw [hxb] at kv f0 ⊢
          have e3' : W1.cell? ⟨ba, oa + k * 5 + 2 + 1, none⟩ = some (.slice a.A a.m a.c) := e3
          have hws : W0.heap.size ≤ wr.heap.size := hBr.size
          clear hW1
          refine Held.begin (fun z => z.cell? ⟨ba, oa + k * 5 + 2, none⟩ = some (.int .i64 a.t) ∧ z.cell? ⟨ba, oa + k * 5 + 2 + 1, none⟩ = some (.slice a.A a.m a.c)) 13 (by kernel_rfl) ?_
          have hS : W1.drew.cell? ⟨ba, oa + k * 5 + 2, none⟩ = some (.int .i64 a.t) ∧ W1.drew.cell? ⟨ba, oa + k * 5 + 2 + 1, none⟩ = some (.slice a.A a.m a.c) := ⟨e2, e3'⟩
          have kd : Blk W1.drew xb 36 #[.int .i64 0, .slice none 0 0] := kv
          have hbd : Below wr.heap.size wr W1.drew := hba.drew
          have e0d : W1.drew.cell? ⟨ba, oa + k * 5, none⟩ = some (.int .i64 a.k) := e0
          have e1d : W1.drew.cell? ⟨ba, oa + k * 5 + 1, none⟩ = some (.int .i64 a.n) := e1
          have hbad : ba < W1.drew.heap.size := hbal
          have hbaw : ba < wr.heap.size := by
            have h9 := PC.out.rd
            obtain ⟨b9, o9, e9, hlt9, _⟩ := h9.2 (by omega)
            rw [HA.out] at e9
            injection e9 with e9
            injection e9 with e91
            omega
          obtain ⟨X1, hX1⟩ : ∃ X1, W1.drew = X1 := ⟨_, rfl⟩
          rw [hX1] at hS kd hbd e0d e1d hbad ⊢
          clear hX1 hba kv e0 e1 e2 e3 e3' f0 hbal
          refine Held.take (i := 0) (.slice (some ⟨ba, oa, none⟩) n3 c3) rfl hS (by kernel_rfl) (by kernel_rfl) (by kernel_rfl) (by kernel_rfl) (fun _ _ _ h => h) rfl (fun y hy => by obtain ⟨x1, x2⟩ := hy; go_simp) ?_
          try simp only [Act.put]
          refine Held.take (i := 1) (.int .i64 (k : Int)) rfl hS (by kernel_rfl) (by kernel_rfl) (by kernel_rfl) (by kernel_rfl) (fun _ _ _ h => h) rfl (fun y hy => by obtain ⟨x1, x2⟩ := hy; go_simp) ?_
          try simp only [Act.put]
          refine Held.take (i := 2) (.pointer (some ⟨ba, oa + k * 5, none⟩)) rfl hS (by kernel_rfl) (by kernel_rfl) (by kernel_rfl) (by kernel_rfl) (fun _ _ _ h => h) rfl (fun y hy => by obtain ⟨x1, x2⟩ := hy; go_simp) ?_
          try simp only [Act.put]
          refine Held.take (i := 3) (.pointer (some ⟨ba, oa + k * 5 + 2, none⟩)) rfl hS (by kernel_rfl) (by kernel_rfl) (by kernel_rfl) (by kernel_rfl) (fun _ _ _ h => h) rfl (fun y hy => by obtain ⟨x1, x2⟩ := hy; go_simp) ?_
          try simp only [Act.put]
          refine Held.take (i := 4) (.pointer (some ⟨ba, oa + k * 5 + 2, none⟩)) rfl hS (by kernel_rfl) (by kernel_rfl) (by kernel_rfl) (by kernel_rfl) (fun _ _ _ h => h) rfl (fun y hy => by obtain ⟨x1, x2⟩ := hy; go_simp) ?_
          try simp only [Act.put]
          refine Held.take (i := 5) (.int .i64 a.t) rfl hS (by kernel_rfl) (by kernel_rfl) (by kernel_rfl) (by kernel_rfl) (fun _ _ _ h => h) rfl (fun y hy => by obtain ⟨x1, x2⟩ := hy; go_simp) ?_
          try simp only [Act.put]
          refine Held.take (i := 6) (.slice (some ⟨ba, oa, none⟩) n3 c3) rfl hS (by kernel_rfl) (by kernel_rfl) (by kernel_rfl) (by kernel_rfl) (fun _ _ _ h => h) rfl (fun y hy => by obtain ⟨x1, x2⟩ := hy; go_simp) ?_
          try simp only [Act.put]
          refine Held.take (i := 7) (.int .i64 (k : Int)) rfl hS (by kernel_rfl) (by kernel_rfl) (by kernel_rfl) (by kernel_rfl) (fun _ _ _ h => h) rfl (fun y hy => by obtain ⟨x1, x2⟩ := hy; go_simp) ?_
          try simp only [Act.put]
          refine Held.take (i := 8) (.pointer (some ⟨ba, oa + k * 5, none⟩)) rfl hS (by kernel_rfl) (by kernel_rfl) (by kernel_rfl) (by kernel_rfl) (fun _ _ _ h => h) rfl (fun y hy => by obtain ⟨x1, x2⟩ := hy; go_simp) ?_
          try simp only [Act.put]
          refine Held.take (i := 9) (.pointer (some ⟨ba, oa + k * 5 + 2, none⟩)) rfl hS (by kernel_rfl) (by kernel_rfl) (by kernel_rfl) (by kernel_rfl) (fun _ _ _ h => h) rfl (fun y hy => by obtain ⟨x1, x2⟩ := hy; go_simp) ?_
          try simp only [Act.put]
          refine Held.take (i := 10) (.pointer (some ⟨ba, oa + k * 5 + 2 + 1, none⟩)) rfl hS (by kernel_rfl) (by kernel_rfl) (by kernel_rfl) (by kernel_rfl) (fun _ _ _ h => h) rfl (fun y hy => by obtain ⟨x1, x2⟩ := hy; go_simp) ?_
          try simp only [Act.put]
          refine Held.take (i := 11) (.slice a.A a.m a.c) rfl hS (by kernel_rfl) (by kernel_rfl) (by kernel_rfl) (by kernel_rfl) (fun _ _ _ h => h) rfl (fun y hy => by obtain ⟨x1, x2⟩ := hy; go_simp) ?_
          try simp only [Act.put]
          refine Held.take (i := 12) (.agg #[.int .i64 a.t, .slice a.A a.m a.c]) rfl hS (by kernel_rfl) (by kernel_rfl) (by kernel_rfl) (by kernel_rfl) (fun _ _ _ h => h) rfl (fun y hy => by obtain ⟨x1, x2⟩ := hy; go_simp) ?_
          try simp only [Act.put]
          refine Held.one (i := 13) rfl (by kernel_rfl) rfl (fun K hK => ?_)
          have v0 := kd.cell 0
          have v1 := (kd.set_ 0 (.int .i64 a.t)).cell 1
          have f0 := kd.frozen 0
          have f1 := (kd.set_ 0 (.int .i64 a.t)).frozen 1
          simp at v0 v1
          have kx2 := blk_set3 kd (.int .i64 a.t) (.slice a.A a.m a.c)
          have hbx : Below wr.heap.size wr ((X1.setCell ⟨xb, 0, none⟩ (.int .i64 a.t)).setCell ⟨xb, 1, none⟩ (.slice a.A a.m a.c)) := (hbd.setCell (p := ⟨xb, 0, none⟩) (by show wr.heap.size ≤ xb; omega) _).setCell (p := ⟨xb, 1, none⟩) (by show wr.heap.size ≤ xb; omega) _
          have hss : ((X1.setCell ⟨xb, 0, none⟩ (.int .i64 a.t)).setCell ⟨xb, 1, none⟩ (.slice a.A a.m a.c)).heap.size = X1.heap.size := by simp [World.setCell]
          have e0x : ((X1.setCell ⟨xb, 0, none⟩ (.int .i64 a.t)).setCell ⟨xb, 1, none⟩ (.slice a.A a.m a.c)).cell? ⟨ba, oa + k * 5, none⟩ = some (.int .i64 a.k) := by
            rw [World.cell?_setCell_other _ _ _ _ (fun e => by injection e with e; omega), World.cell?_setCell_other _ _ _ _ (fun e => by injection e with e; omega)]
            exact e0d
          have e1x : ((X1.setCell ⟨xb, 0, none⟩ (.int .i64 a.t)).setCell ⟨xb, 1, none⟩ (.slice a.A a.m a.c)).cell? ⟨ba, oa + k * 5 + 1, none⟩ = some (.int .i64 a.n) := by
            rw [World.cell?_setCell_other _ _ _ _ (fun e => by injection e with e; omega), World.cell?_setCell_other _ _ _ _ (fun e => by injection e with e; omega)]
            exact e1d
          have HX2 := hide kx2
          have HBX := hide hbx
          have E0X := hide e0x
          have E1X := hide e1x
          have hbax : ba < ((X1.setCell ⟨xb, 0, none⟩ (.int .i64 a.t)).setCell ⟨xb, 1, none⟩ (.slice a.A a.m a.c)).heap.size := by rw [hss]; exact hbad
          unfold Oper.wp
          go_simp
          refine hK _ _ (fun h => absurd rfl h) ?_
          try simp only [Act.put]
          clear hK K kx2 hbx e0x e1x hss
          refine Held.done (by kernel_rfl) ?_
          obtain ⟨W2, hW2⟩ : ∃ W2, (X1.setCell ⟨xb, 0, none⟩ (.int .i64 a.t)).setCell ⟨xb, 1, none⟩ (.slice a.A a.m a.c) = W2 := ⟨_, rfl⟩
          rw [hW2] at HX2 HBX E0X E1X hbax ⊢
          clear hW2 hS v0 v1 f0 f1 kd hbd e0d e1d hbad
          have hBr2 := bstep hBr HBX.out
          have hsx := HBX.out.size
          have hra2 : RowK W2 W2.heap.size a.A a.m a.r := (HRA.out.below hBr2).mono hBr2.size
          have p0 := fun (p : BW W2) => BW.cell (a := ⟨ba, oa + k * 5, none⟩) hbax E0X.out p
          have p1 := fun (p : BW W2) => BW.cell (a := ⟨ba, oa + k * 5 + 1, none⟩) hbax E1X.out p
          have kx2 := HX2.out
          clear hBr HX2
          go_wp2_with fail
          (refine wp_region_quiet_bw (by kernel_rfl) (by kernel_rfl) ?_
           repeat (first | go_big_quiet_step ((fail)) | quiet_step ((fail)))
           refine wpQuiet_nil ?_
           intro wq hw'
           obtain ⟨⟨_, hbq⟩, hw''⟩ := hw'
           subst hw'')
          have hBr3 := bstep hBr2 hbq
          have hra3 := (hra2.below hbq).mono hbq.size
          have kx3 := kx2.below hbq kx2.lt
          obtain ⟨W3, hW3⟩ : ∃ W3 : World, W3 = wq := ⟨_, rfl⟩
          subst hW3
          have hws3 : W0.heap.size ≤ W3.heap.size := hBr3.size
          have hxb3 := kx3.lt
          clear hbq p0 p1 hBr2 hra2 kx2 hbax
          by_cases z0 : a.k = 0
          · have d9 : (a.k == 0) = true := by simpa using z0
            have x0 : W3.cell? ⟨xb, 0, none⟩ = some (.int .i64 a.t) := by simpa using kx3.cell 0
            have x1 : W3.cell? ⟨xb, 1, none⟩ = some (.slice a.A a.m a.c) := by simpa using kx3.cell 1
            have p0 := fun (p : BW W3) => BW.cell (a := ⟨xb, 0, none⟩) hxb3 x0 p
            have p1 := fun (p : BW W3) => BW.cell (a := ⟨xb, 1, none⟩) hxb3 x1 p
            have C1 := hide (fun (p : BW W3) => calls_bw (p := p) ((VLeft_nil ⟨a.t, a.A, a.m, a.c, a.r⟩ p.x).mono fun e w' h => (h : RetV p.x (.int .i64 1) e w')))
            have C2 := hide (fun (p : BW W3) => calls_bw (p := p) ((RLeft_nil ⟨a.t, a.A, a.m, a.c, a.r⟩ p.x).mono fun e w' h => (h : RetV p.x (.int .i64 1) e w')))
            clear x0 x1
            go_wp2_with fail
            (refine wp_region_quiet_bw (by kernel_rfl) (by kernel_rfl) ?_
             repeat (first | go_big_quiet_step ((first | (go_at_call 30; with_reducible exact C1.out _) | (go_at_call 31; with_reducible exact C2.out _))) | quiet_step ((first | (go_at_call 30; with_reducible exact C1.out _) | (go_at_call 31; with_reducible exact C2.out _))))
             refine wpQuiet_nil ?_
             intro wq hw'
             obtain ⟨⟨_, hbq⟩, hw''⟩ := hw'
             subst hw'')
            have HB4 := hide (bstep hBr3 hbq)
            clear hbq p0 p1 C1 C2 hBr3
            go_wp2
            go_roundw
            case rel => exact ⟨k + 1, by omega, by go_num, HB4.out⟩
            case measure => simp [intOf]; omega
          · have d9 : (a.k == 0) = false := by simpa using z0
            by_cases z1 : a.k = 1
            · have d8 : (a.k == 1) = true := by simpa using z1
              have x0 : W3.cell? ⟨xb, 0, none⟩ = some (.int .i64 a.t) := by simpa using kx3.cell 0
              have x1 : W3.cell? ⟨xb, 1, none⟩ = some (.slice a.A a.m a.c) := by simpa using kx3.cell 1
              have p0 := fun (p : BW W3) => BW.cell (a := ⟨xb, 0, none⟩) hxb3 x0 p
              have p1 := fun (p : BW W3) => BW.cell (a := ⟨xb, 1, none⟩) hxb3 x1 p
              have C1 := hide (fun (p : BW W3) => calls_bw (p := p) ((VRight_nil ⟨a.t, a.A, a.m, a.c, a.r⟩ p.x).mono fun e w' h => (h : RetV p.x (.int .i64 1) e w')))
              have C2 := hide (fun (p : BW W3) => calls_bw (p := p) ((RRight_nil ⟨a.t, a.A, a.m, a.c, a.r⟩ p.x).mono fun e w' h => (h : RetV p.x (.int .i64 1) e w')))
              clear x0 x1
              go_wp2_with fail
              (refine wp_region_quiet_bw (by kernel_rfl) (by kernel_rfl) ?_
               repeat (first | go_big_quiet_step ((first | (go_at_call 32; with_reducible exact C1.out _) | (go_at_call 33; with_reducible exact C2.out _))) | quiet_step ((first | (go_at_call 32; with_reducible exact C1.out _) | (go_at_call 33; with_reducible exact C2.out _))))
               refine wpQuiet_nil ?_
               intro wq hw'
               obtain ⟨⟨_, hbq⟩, hw''⟩ := hw'
               subst hw'')
              have HB4 := hide (bstep hBr3 hbq)
              clear hbq p0 p1 C1 C2 hBr3
              go_wp2
              go_roundw
              case rel => exact ⟨k + 1, by omega, by go_num, HB4.out⟩
              case measure => simp [intOf]; omega
            · have d8 : (a.k == 1) = false := by simpa using z1
              go_wp2_with fail
              refine (VMark_nil _ W3).mono ?_
              rintro e W4 ⟨rfl, hb⟩
              have hBr4 := bstep hBr3 hb
              clear hb
              go_wp2_with fail
              refine (RMark_nil _ W4).mono ?_
              rintro e W5 ⟨rfl, hb⟩
              have hBr5 := bstep hBr4 hb
              clear hb hBr4
              go_wp2_with fail
              refine (EvSame_one none 0 0 none 0 W5.heap.size W5.heap.size [] [] W5 (EvR.nil _ _) (EvR.nil _ _) rfl).mono ?_
              rintro e W6 ⟨rfl, hb⟩
              have HB6 := hide (bstep hBr5 hb)
              clear hb hBr5
              go_wp2_with fail
              go_loopw [20] (fun i wx => i = .int .i64 0 ∧ wx = W6) (fun _ _ => 0)
              case atStart => exact ⟨rfl, rfl⟩
              case round =>
                obtain ⟨rfl, hw⟩ := hrel
                subst hw
                go_wp2
                go_roundw
                case rel => exact ⟨k + 1, by omega, by go_num, HB6.out⟩
                case measure => simp [intOf]; omega
        · have hkn : k = n3 := by omega
          have q2 : ¬ ((k : Int) < (n3 : Int)) := by omega
          have hBr3 := bstep hBr hba
          go_upto_region 17 with fail
          obtain ⟨W3, hW3⟩ : ∃ W3, wr.alloc (.cells #[.int .i64 0, .slice none 0 0] 36) = W3 := ⟨_, rfl⟩
          rw [hW3] at hBr3 ⊢
          clear hW3 hba kv hBr
          go_wp2_with fail
          refine (VMark_nil _ W3).mono ?_
          rintro e W4 ⟨rfl, hb⟩
          have hBr4 := bstep hBr3 hb
          clear hb
          go_wp2_with fail
          refine (RMark_nil _ W4).mono ?_
          rintro e W5 ⟨rfl, hb⟩
          have hBr5 := bstep hBr4 hb
          clear hb hBr4
          go_wp2_with fail
          refine (EvSame_one none 0 0 none 0 W5.heap.size W5.heap.size [] [] W5 (EvR.nil _ _) (EvR.nil _ _) rfl).mono ?_
          rintro e W6 ⟨rfl, hb⟩
          have HB6 := hide (bstep hBr5 hb)
          clear hb hBr5
          go_wp2_with fail
          go_loopw [20] (fun i wx => i = .int .i64 0 ∧ wx = W6) (fun _ _ => 0)
          case atStart => exact ⟨rfl, rfl⟩
          case round =>
            obtain ⟨rfl, hw⟩ := hrel
            subst hw
            go_wp2
            go_roundw
            case rel => exact ⟨k + 1, by omega, by go_num, HB6.out⟩
            case measure => simp [intOf]; omega
      · have q0 : decide ((k : Int) ≤ (n3 : Int)) = false := decide_eq_false (by omega)
        have q0' : ¬ ((k : Int) ≤ (n3 : Int)) := by omega
        go_wp2_with fail
        refine (awake9_any wr (HT.out.below hBr)).mono ?_
        rintro e W6 ⟨rfl, hb⟩
        have HB := hide (bstep HB0.out (bstep hBr hb))
        clear hb hBr
        go_wp2
        go_ret
        exact ⟨rfl, HB.out⟩
end Go.Proofs.YtoapjidpfghnlaaGreatDoor
