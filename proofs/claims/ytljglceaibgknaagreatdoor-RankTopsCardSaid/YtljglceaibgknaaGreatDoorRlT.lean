/-
  The walk of RankTops, for every setup, width and bag.
-/
import Derived.Test.YtljglceaibgknaaGreatDoorRlM
import Derived.Test.YtljglceaibgknaaGreatDoorRkY
import Derived.Test.YtljglceaibgknaaGreatDoorRkZ
import Derived.Test.YtljglceaibgknaaGreatDoorLatB
import Derived.Test.YtljglceaibgknaaGreatDoorBgT6
namespace Go.Proofs.YtljglceaibgknaaGreatDoor
open Go.RowKit
attribute [local go_sem] Oper.semAt_some
set_option linter.unusedVariables false
set_option linter.unusedSimpArgs false

set_option maxRecDepth 100000 in
set_option maxHeartbeats 16000000 in
theorem rankTops_all (k : Sk) (s : Stp) (width : Int) (A : Option Addr) (n c : Nat) (l : List It) (w : World) (hp : Reads w w.heap.size 1 k.A k.n (s.per.map (Value.int .i64))) (hby : Reads w w.heap.size 1 k.A' k.n' (s.by_.map (Value.int .i64))) (hc : k.n ≤ k.c) (hc' : k.n' ≤ k.c')
    (hb : BagR w w.heap.size A n l) (hnc : n ≤ c) (ht : Tab w) :
    Calls Tryz.prog 5 #[k.v s, .int .i64 width, .slice A n c] w (RetV w (.bool true)) := by
  have HLN := hide hb.len
  have hB1 := below_val (w := w) #[.slice k.A k.n k.c, .slice k.A' k.n' k.c', .bool s.dn, .int .i64 s.n] 24
  have k1 := Blk.new w 24 #[.slice k.A k.n k.c, .slice k.A' k.n' k.c', .bool s.dn, .int .i64 s.n]
  have hp1 := hp.up hB1
  have hy1 := hby.up hB1
  have hb1 := (hb.below hB1).mono hB1.size
  have ht1 := ht.below hB1
  have hle := hb.le
  clear hp hby hb ht
  unfold Sk.v
  go_enter Tryz.func5, Tryz.ntmps5
  go_upto_region 1 with fail
  obtain ⟨W0, hW0⟩ : ∃ W0, w.alloc (.cells #[.slice k.A k.n k.c, .slice k.A' k.n' k.c', .bool s.dn, .int .i64 s.n] 24) = W0 := ⟨_, rfl⟩
  obtain ⟨bs, hbs⟩ : ∃ bs, w.heap.size = bs := ⟨_, rfl⟩
  rw [hW0] at hB1 k1 hp1 hy1 hb1 ht1 ⊢
  rw [hbs] at k1 ⊢
  clear hW0 hbs
  have hbx : BoxS W0 bs k s := ⟨by simpa using k1.cell 0, by simpa using k1.cell 1, by simpa using k1.cell 2, by simpa using k1.cell 3⟩
  have hM := many_any k s A n c l W0 hb1
  unfold Sk.v at hM
  have HM := hide hM
  have c0 := hbx.c0
  have c1 := hbx.c1
  have c2 := hbx.c2
  have c3 := hbx.c3
  clear k1 hM
  go_wp2_with fail
  refine HM.out.mono ?_
  rintro e W1 ⟨b, rfl, hsm, hB2⟩
  have hBw := bstep hB1 hB2
  have ht2 := ht1.below hB2
  have hbx2 := hbx.below hB2
  cases b
  case true =>
    have HA := hide (awake10_any W1 ht2)
    clear c0 c1 c2 c3 HM
    go_wp2_with fail
    refine HA.out.mono ?_
    rintro e W2 ⟨rfl, hB3⟩
    have HE := hide (bstep hBw hB3)
    clear hBw hB3
    go_wp2
    go_ret
    exact ⟨rfl, HE.out⟩
  obtain ⟨hkn, hkn', hn60⟩ := hsm rfl
  have hs2 : SetK W1 W1.heap.size k s := ⟨hp1.up hB2, hy1.up hB2, by omega, by omega⟩
  have hb2 := (hb1.below hB2).mono hB2.size
  clear c0 c1 c2 c3 HM hsm hB1 hB2 hbx hp1 hy1 hb1 ht1
  obtain ⟨TT, hTT⟩ : ∃ TT, topE s width (dat l) = TT := ⟨_, rfl⟩
  have HTT := hide hTT
  have hT := Top_any k s width A n c l W1 hs2 hc hc' hb2 (by omega) ht2
  unfold Sk.v at hT
  rw [hTT] at hT
  have HT := hide hT
  have c0 := hbx2.c0
  have c1 := hbx2.c1
  have c2 := hbx2.c2
  have c3 := hbx2.c3
  clear hT hTT
  go_wp2_with fail
  refine HT.out.mono ?_
  rintro e W2 ⟨A1, n1, c1', l1, rfl, hd1, hg1, hk1, hB3⟩
  have hBw := bstep hBw hB3
  have ht3 := ht2.below hB3
  have hbx3 := hbx2.below hB3
  have hs3 := hs2.up hB3
  have hb3 := (hb2.below hB3).mono hB3.size
  have hR := RTop_any k s width A n c l W2 hs3 hb3 (by omega)
  unfold Sk.v at hR
  rw [HTT.out] at hR
  have HR := hide hR
  clear c0 c1 c2 c3 HT hR hs2 hb2 hB3 hbx2 ht2
  have c0 := hbx3.c0
  have c1 := hbx3.c1
  have c2 := hbx3.c2
  have c3 := hbx3.c3
  go_wp2_with fail
  refine HR.out.mono ?_
  rintro e W3 ⟨A2, n2, c2', l2, rfl, hd2, hg2, hk2, hB4⟩
  have hBw := bstep hBw hB4
  have ht4 := ht3.below hB4
  have hbx4 := hbx3.below hB4
  have hs4 := hs3.up hB4
  have hb4 := (hb3.below hB4).mono hB4.size
  have hg1 := (hg1.below hB4).mono hB4.size
  have HS := hide (same_dat (c := c1') (c' := c2') hg1 hg2 (by rw [hd1, hd2]))
  obtain ⟨E, hE⟩ : ∃ E, TT.2 = E := ⟨_, rfl⟩
  rw [hE]
  have HE := hide hE
  have z1 : (E != E) = false := by simp
  clear c0 c1 c2 c3 HR hs3 hb3 hB4 hbx3 ht3 hg2 hd2 hE
  go_wp2_with fail
  refine HS.out.mono ?_
  rintro e W4 ⟨rfl, hB5⟩
  have hBw := bstep hBw hB5
  have ht5 := ht4.below hB5
  have hbx5 := hbx4.below hB5
  have hs5 := hs4.up hB5
  have hb5 := (hb4.below hB5).mono hB5.size
  have hg1 := (hg1.below hB5).mono hB5.size
  clear HS hs4 hb4 hB5 hbx4 ht4
  by_cases hE0 : E ≠ 0
  · have z2 : (E != 0) = true := by simpa using hE0
    have HA := hide (awake10_any W4 ht5)
    go_wp2_with fail
    refine HA.out.mono ?_
    rintro e W5 ⟨rfl, hB6⟩
    have HEE := hide (bstep hBw hB6)
    clear hBw hB6
    go_wp2
    go_ret
    exact ⟨rfl, HEE.out⟩
  have z2 : (E != 0) = false := by simpa using hE0
  have HASK := hide (show Askd s width (dat l) from ask_ok (by
    have h1 := HTT.out
    have h2 := HE.out
    unfold topE at h1
    split at h1
    · assumption
    · rw [← h1] at h2
      exact absurd h2 (by
        intro h3
        simp only at h3
        omega)))
  have hdT : dat l1 = topB s (dat l) := by
    rw [hd1, ← HTT.out]
    unfold topE
    have : askE s width (dat l) = 0 := by
      have h1 := HTT.out
      have h2 := HE.out
      unfold topE at h1
      split at h1
      · assumption
      · rw [← h1] at h2
        simp only at h2
        omega
    rw [if_pos this]
  have HOKT := hide (show okBag (dat l1) = true by rw [hdT]; exact HASK.out.top_ok)
  have HDT := hide hdT
  have hw := RWithin_any A1 n1 c1' l1 A n c l W4 hg1 hb5
  rw [show leB (dat l1) (dat l) = true by rw [hdT]; exact HASK.out.top_le] at hw
  have HW := hide hw
  clear hE0 hd1 hdT hw
  go_wp2_with fail
  refine HW.out.mono ?_
  rintro e W5 ⟨rfl, hB6⟩
  have hBw := bstep hBw hB6
  have ht6 := ht5.below hB6
  have hbx6 := hbx5.below hB6
  have hs6 := hs5.up hB6
  have hb6 := (hb5.below hB6).mono hB6.size
  have hg6 := (hg1.below hB6).mono hB6.size
  have hn1 : n1 ≤ 400 := by
    have := (okBag_asc HOKT.out).2.2
    rw [dat_len, hg6.len] at this
    exact this
  clear HW hs5 hb5 hB6 hbx5 ht5 hg1
  go_wp2_with fail
  go_loopw [11] (fun i wz => ∃ q : Nat, q ≤ n ∧ i = .int .i64 q ∧ Below W5.heap.size W5 wz) (fun i _ => n - (intOf i).toNat)
  case atStart => exact ⟨0, Nat.zero_le _, rfl, Below.refl _ _⟩
  case round =>
    obtain ⟨q, hq, rfl, hB⟩ := hrel
    by_cases hlt : q < n
    · obtain ⟨b, off, x, rfl, hbb, hxq, e0, e1, hrow⟩ := (hb6.below hB).at_ hlt
      have hxd := dat_at hxq
      have hxm := List.mem_of_getElem? hxd
      have HXM := hide hxm
      have HXR := hide ((okBag_asc HASK.out.bag).1.ok _ hxm)
      have hgr := hg6.below hB
      have HCN := hide (fun (z : BW wr) => calls_bw (p := z) (RN_any A1 n1 c1' _ l1 x.A x.n x.c x.r z.x (hgr.below z.h) (((hrow.mono hB.size).below z.h).mono z.h.size) HOKT.out HXR.out))
      have p0 := fun (z : BW wr) => BW.cell (a := ⟨b, off + q * 2, none⟩) hbb e0 z
      have p1 := fun (z : BW wr) => BW.cell (a := ⟨b, off + q * 2 + 1, none⟩) hbb e1 z
      obtain ⟨vv, hvv⟩ : ∃ vv, look (dat l1) x.r = vv := ⟨_, rfl⟩
      rw [hvv] at HCN
      have HVV := hide hvv
      have q1 : (0 : Int) ≤ (q : Int) := by omega
      have q2 : (q : Int) < (n : Int) := by omega
      clear hxq hxd hxm hvv
      go_wp2_with fail
      (refine wp_region_quiet_bw (by kernel_rfl) (by kernel_rfl) ?_
       repeat (first | go_big_quiet_step (((go_at_call 25; exact HCN.out _))) | quiet_step (((go_at_call 25; exact HCN.out _))))
       refine wpQuiet_nil ?_
       intro wq hw'
       obtain ⟨⟨_, hbq⟩, hw''⟩ := hw'
       subst hw'')
      have hB7 := bstep hB hbq
      have hrow7 := hrow.below hbq
      have e0 := (hbq.cell hbb).trans e0
      have hbb := Nat.lt_of_lt_of_le hbb hbq.size
      obtain ⟨Wv, hWv⟩ : ∃ Wv : World, Wv = wq := ⟨_, rfl⟩
      subst hWv
      clear hB hbq p0 p1 HCN e1 hgr hrow
      by_cases hve : vv = x.m
      · have z3 : (vv == x.m) = true := by simpa using hve
        clear hve
        go_wp2_with fail
        go_roundw
        case rel => exact ⟨q + 1, by omega, by go_num, hB7⟩
        case measure => simp [intOf]; omega
      have z3 : (vv == x.m) = false := by simpa using hve
      have HLEFT := hide (HASK.out.top_left HXM.out (by
        show look (topB s (dat l)) x.r ≠ x.m
        rw [← HDT.out, HVV.out]
        exact hve))
      have HXP := hide (HASK.out.p _ HXM.out)
      have HXB := hide (HASK.out.b _ HXM.out)
      clear hve
      go_wp2_with fail
      go_loopw [12, 13] (fun z i wz => ∃ p : Nat, p ≤ n1 ∧ i = .int .i64 p ∧ z = .int .i64 (gtot s (gk s x.r) ((dat l1).take p)) ∧ Below Wv.heap.size Wv wz) (fun _ i _ => n1 - (intOf i).toNat)
      case atStart => exact ⟨0, Nat.zero_le _, rfl, rfl, Below.refl _ _⟩
      case round =>
        obtain ⟨p, hp, rfl, rfl, hBr⟩ := hrel
        by_cases hlp : p < n1
        · obtain ⟨bt, ot, y, hA1, hbt, hyp, f0, f1, hrowy⟩ := ((hg6.below hB7).below hBr).at_ hlp
          have hyd := dat_at hyp
          have hym := List.mem_of_getElem? hyd
          have HYM := hide (show (y.r, y.m) ∈ topB s (dat l) by rw [← HDT.out]; exact hym)
          obtain ⟨x2, hx2, hx2e⟩ := HASK.out.top_row HYM.out
          have HYP := hide (show has y.r s.per = true by have := HASK.out.p _ hx2; rw [← hx2e] at this; exact this)
          have HYB := hide (show has y.r s.by_ = true by have := HASK.out.b _ hx2; rw [← hx2e] at this; exact this)
          have hyn := numB_ne ((okBag_asc HOKT.out).2.1 _ hym)
          have HTK := hide (take_snoc' hyd)
          have hgb := gtot_bound s (gk s x.r) (l := (dat l1).take p) (fun z hz => (numB_ne ((okBag_asc HOKT.out).2.1 z (List.mem_of_mem_take hz))).2)
          have hlen : ((dat l1).take p).length ≤ 400 := by rw [List.length_take, dat_len, hg6.len]; omega
          have HGS := hide (gtot_snoc s (gk s x.r) ((dat l1).take p) (y.r, y.m))
          obtain ⟨gt, hgt⟩ : ∃ gt, gtot s (gk s x.r) ((dat l1).take p) = gt := ⟨_, rfl⟩
          rw [hgt] at hgb HGS ⊢
          have hxr := hrow7.below hBr
          have e0r := (hBr.cell hbb).trans e0
          have hbxr := (hbx6.below hB7).below hBr
          have g0 := hbxr.c0
          have HSX := hide (fun (X : World) (hX : Below wr.heap.size wr X) => hs6.up (bstep (bstep hB7 hBr) hX))
          have HP1 := hide (fun (X : World) (hX : Below wr.heap.size wr X) => PicksR_any y.A y.n y.c y.r k.A k.n k.c s.per X (hrowy.below hX).rd hrowy.le (HSX.out X hX).p (by omega) HYP.out)
          have HP2 := hide (fun (X : World) (hX : Below wr.heap.size wr X) => PicksR_any x.A x.n x.c x.r k.A k.n k.c s.per X (hxr.below hX).rd hxr.le (HSX.out X hX).p (by omega) HXP.out)
          have HXK := hide hxr
          have HYK := hide hrowy
          have HBXR := hide hbxr
          have q3 : (0 : Int) ≤ (p : Int) := by omega
          have q4 : (p : Int) < (n1 : Int) := by omega
          simp only at hyn
          have w1 : IntKind.i64.wrap (gt + y.m) = gt + y.m := by rw [IntKind.wrap_i64]; omega
          obtain rfl := hA1
          clear hyp hyd hym hx2 hx2e hgt hxr hrowy hbxr hgb hlen
          go_wp2_with fail
          refine Held.begin (fun z => z.cell? ⟨bt, ot + p * 2, none⟩ = some (.slice y.A y.n y.c) ∧ z.cell? ⟨bs, 0, none⟩ = some (.slice k.A k.n k.c) ∧ z.cell? ⟨b, off + q * 2, none⟩ = some (.slice x.A x.n x.c)) 100 (by kernel_rfl) ?_
          have hG : Below wr.heap.size wr wr.drew := (Below.refl _ _).drew
          obtain ⟨X1, hX1⟩ : ∃ X1, wr.drew = X1 := ⟨_, rfl⟩
          have hS : X1.cell? ⟨bt, ot + p * 2, none⟩ = some (.slice y.A y.n y.c) ∧ X1.cell? ⟨bs, 0, none⟩ = some (.slice k.A k.n k.c) ∧ X1.cell? ⟨b, off + q * 2, none⟩ = some (.slice x.A x.n x.c) := by rw [← hX1]; exact ⟨f0, g0, e0r⟩
          rw [hX1] at hG ⊢
          clear hX1 g0
          refine Held.take (i := 0) (.slice (some ⟨bt, ot, none⟩) n1 c1') rfl hS (by kernel_rfl) (by kernel_rfl) (by kernel_rfl) (by kernel_rfl) (fun _ _ _ h => h) rfl (fun y hy => by obtain ⟨x1, x2, x3⟩ := hy; go_simp) ?_
          try simp only [Act.put]
          refine Held.take (i := 1) (.int .i64 (p : Int)) rfl hS (by kernel_rfl) (by kernel_rfl) (by kernel_rfl) (by kernel_rfl) (fun _ _ _ h => h) rfl (fun y hy => by obtain ⟨x1, x2, x3⟩ := hy; go_simp) ?_
          try simp only [Act.put]
          refine Held.take (i := 2) (.pointer (some ⟨bt, ot + p * 2, none⟩)) rfl hS (by kernel_rfl) (by kernel_rfl) (by kernel_rfl) (by kernel_rfl) (fun _ _ _ h => h) rfl (fun y hy => by obtain ⟨x1, x2, x3⟩ := hy; go_simp) ?_
          try simp only [Act.put]
          refine Held.take (i := 3) (.pointer (some ⟨bt, ot + p * 2, none⟩)) rfl hS (by kernel_rfl) (by kernel_rfl) (by kernel_rfl) (by kernel_rfl) (fun _ _ _ h => h) rfl (fun y hy => by obtain ⟨x1, x2, x3⟩ := hy; go_simp) ?_
          try simp only [Act.put]
          refine Held.take (i := 4) (.slice y.A y.n y.c) rfl hS (by kernel_rfl) (by kernel_rfl) (by kernel_rfl) (by kernel_rfl) (fun _ _ _ h => h) rfl (fun y hy => by obtain ⟨x1, x2, x3⟩ := hy; go_simp) ?_
          try simp only [Act.put]
          refine Held.take (i := 5) (.pointer (some ⟨bs, 0, none⟩)) rfl hS (by kernel_rfl) (by kernel_rfl) (by kernel_rfl) (by kernel_rfl) (fun _ _ _ h => h) rfl (fun y hy => by obtain ⟨x1, x2, x3⟩ := hy; go_simp) ?_
          try simp only [Act.put]
          refine Held.take (i := 6) (.slice k.A k.n k.c) rfl hS (by kernel_rfl) (by kernel_rfl) (by kernel_rfl) (by kernel_rfl) (fun _ _ _ h => h) rfl (fun y hy => by obtain ⟨x1, x2, x3⟩ := hy; go_simp) ?_
          try simp only [Act.put]
          refine Held.take (i := 8) (.slice (some ⟨b, off, none⟩) n c) rfl hS (by kernel_rfl) (by kernel_rfl) (by kernel_rfl) (by kernel_rfl) (fun _ _ _ h => h) rfl (fun y hy => by obtain ⟨x1, x2, x3⟩ := hy; go_simp) ?_
          try simp only [Act.put]
          refine Held.take (i := 9) (.int .i64 (q : Int)) rfl hS (by kernel_rfl) (by kernel_rfl) (by kernel_rfl) (by kernel_rfl) (fun _ _ _ h => h) rfl (fun y hy => by obtain ⟨x1, x2, x3⟩ := hy; go_simp) ?_
          try simp only [Act.put]
          refine Held.take (i := 10) (.pointer (some ⟨b, off + q * 2, none⟩)) rfl hS (by kernel_rfl) (by kernel_rfl) (by kernel_rfl) (by kernel_rfl) (fun _ _ _ h => h) rfl (fun y hy => by obtain ⟨x1, x2, x3⟩ := hy; go_simp) ?_
          try simp only [Act.put]
          refine Held.take (i := 11) (.pointer (some ⟨b, off + q * 2, none⟩)) rfl hS (by kernel_rfl) (by kernel_rfl) (by kernel_rfl) (by kernel_rfl) (fun _ _ _ h => h) rfl (fun y hy => by obtain ⟨x1, x2, x3⟩ := hy; go_simp) ?_
          try simp only [Act.put]
          refine Held.take (i := 12) (.slice x.A x.n x.c) rfl hS (by kernel_rfl) (by kernel_rfl) (by kernel_rfl) (by kernel_rfl) (fun _ _ _ h => h) rfl (fun y hy => by obtain ⟨x1, x2, x3⟩ := hy; go_simp) ?_
          try simp only [Act.put]
          refine Held.take (i := 13) (.pointer (some ⟨bs, 0, none⟩)) rfl hS (by kernel_rfl) (by kernel_rfl) (by kernel_rfl) (by kernel_rfl) (fun _ _ _ h => h) rfl (fun y hy => by obtain ⟨x1, x2, x3⟩ := hy; go_simp) ?_
          try simp only [Act.put]
          refine Held.take (i := 14) (.slice k.A k.n k.c) rfl hS (by kernel_rfl) (by kernel_rfl) (by kernel_rfl) (by kernel_rfl) (fun _ _ _ h => h) rfl (fun y hy => by obtain ⟨x1, x2, x3⟩ := hy; go_simp) ?_
          try simp only [Act.put]
          refine Held.one (i := 7) rfl (by kernel_rfl) rfl (fun K hK => ?_)
          unfold Oper.wp
          go_simp
          refine (HP1.out X1 hG).mono ?_
          rintro e X2 ⟨Ap, cp, rfl, hr1, hB2⟩
          have hr1 := hr1 0
          have hG2 := bstep hG hB2
          have hS2 : X2.cell? ⟨bt, ot + p * 2, none⟩ = some (.slice y.A y.n y.c) ∧ X2.cell? ⟨bs, 0, none⟩ = some (.slice k.A k.n k.c) ∧ X2.cell? ⟨b, off + q * 2, none⟩ = some (.slice x.A x.n x.c) := ⟨(hB2.cell (World.block_lt_of_cell? _ _ hS.1)).trans hS.1, (hB2.cell (World.block_lt_of_cell? _ _ hS.2.1)).trans hS.2.1, (hB2.cell (World.block_lt_of_cell? _ _ hS.2.2)).trans hS.2.2⟩
          refine hK _ _ (fun _ => hS2) ?_
          try simp only [Act.put]
          clear hK K hS hB2 hG
          refine Held.one (i := 15) rfl (by kernel_rfl) rfl (fun K hK => ?_)
          unfold Oper.wp
          go_simp
          refine (HP2.out X2 hG2).mono ?_
          rintro e X3 ⟨Aq, cq, rfl, hr2, hB3⟩
          have hr2 := hr2 0
          have hG3 := bstep hG2 hB3
          have hr1 := hr1.below hB3
          have hS3 : X3.cell? ⟨bt, ot + p * 2, none⟩ = some (.slice y.A y.n y.c) ∧ X3.cell? ⟨bs, 0, none⟩ = some (.slice k.A k.n k.c) ∧ X3.cell? ⟨b, off + q * 2, none⟩ = some (.slice x.A x.n x.c) := ⟨(hB3.cell (World.block_lt_of_cell? _ _ hS2.1)).trans hS2.1, (hB3.cell (World.block_lt_of_cell? _ _ hS2.2.1)).trans hS2.2.1, (hB3.cell (World.block_lt_of_cell? _ _ hS2.2.2)).trans hS2.2.2⟩
          refine hK _ _ (fun _ => hS3) ?_
          try simp only [Act.put]
          clear hK K hS2 hB3 hG2 HP1 HP2
          refine Held.one (i := 16) rfl (by kernel_rfl) rfl (fun K hK => ?_)
          unfold Oper.wp
          go_simp
          have HC0 := hide (R2Compare_any Ap k.n cp (pick y.r s.per) Aq k.n cq (pick x.r s.per) X3 hr1.rd hr2.rd (by omega))
          obtain ⟨cc, hcc⟩ : ∃ cc, cmpR (pick y.r s.per) (pick x.r s.per) = cc := ⟨_, rfl⟩
          have HCC := hide (show cmpR (gk s y.r) (gk s x.r) = cc from hcc)
          rw [hcc] at HC0
          clear hcc hr1 hr2
          refine HC0.out.mono ?_
          rintro e X4 ⟨rfl, hB4⟩
          have hG4 := bstep hG3 hB4
          have hS4 : X4.cell? ⟨bt, ot + p * 2, none⟩ = some (.slice y.A y.n y.c) ∧ X4.cell? ⟨bs, 0, none⟩ = some (.slice k.A k.n k.c) ∧ X4.cell? ⟨b, off + q * 2, none⟩ = some (.slice x.A x.n x.c) := ⟨(hB4.cell (World.block_lt_of_cell? _ _ hS3.1)).trans hS3.1, (hB4.cell (World.block_lt_of_cell? _ _ hS3.2.1)).trans hS3.2.1, (hB4.cell (World.block_lt_of_cell? _ _ hS3.2.2)).trans hS3.2.2⟩
          refine hK _ _ (fun _ => hS4) ?_
          try simp only [Act.put]
          clear hK K hS3 hB4 hG3 HC0
          refine Held.one (i := 17) rfl (by kernel_rfl) rfl (fun K hK => ?_)
          unfold Oper.wp
          go_simp
          refine hK _ _ (fun _ => hS4) ?_
          try simp only [Act.put]
          clear hK K
          refine Held.done (by kernel_rfl) ?_
          have hB8 := bstep hBr hG4
          by_cases hc0 : cc = 0
          · have z4 : (cc != 0) = false := by simpa using hc0
            have HGT := hide (show gtot s (gk s x.r) ((dat l1).take (p + 1)) = gt + y.m by
              rw [HTK.out, HGS.out, if_pos (show cmpR (gk s (y.r, y.m).1) (gk s x.r) = 0 by rw [← hc0]; exact HCC.out)])
            have HLS := hide (show lessB s x.r y.r = false by
              have h1 := HLEFT.out.2 _ HYM.out (show cmpR (gk s (y.r, y.m).1) (gk s (x.r, x.m).1) = 0 by rw [← hc0]; exact HCC.out)
              unfold lessB
              rw [decide_eq_false (show ¬ ordS s x.r y.r < 0 by
                have h2 : 0 ≤ ordS s x.r y.r := by simpa using h1
                omega), Bool.and_false])
            have f1x := (hG4.cell (World.block_lt_of_cell? _ _ f1)).trans f1
            have hbx4 := HBXR.out.below hG4
            have hlb := World.block_lt_of_cell? _ _ hS4.1
            have hlx := World.block_lt_of_cell? _ _ hS4.2.2
            have r0 := fun (z : BW X4) => BW.cell (a := ⟨bt, ot + p * 2, none⟩) hlb hS4.1 z
            have r1 := fun (z : BW X4) => BW.cell (a := ⟨b, off + q * 2, none⟩) hlx hS4.2.2 z
            have g0 := fun (z : BW X4) => BW.cell (a := ⟨bs, 0, none⟩) hbx4.lt hbx4.c0 z
            have g1 := fun (z : BW X4) => BW.cell (a := ⟨bs, 1, none⟩) hbx4.lt hbx4.c1 z
            have g2 := fun (z : BW X4) => BW.cell (a := ⟨bs, 2, none⟩) hbx4.lt hbx4.c2 z
            have g3 := fun (z : BW X4) => BW.cell (a := ⟨bs, 3, none⟩) hbx4.lt hbx4.c3 z
            have HLC := hide (fun (z : BW X4) => calls_bw (p := z) (Less_any k s x.A x.n x.c x.r y.A y.n y.c y.r z.x (HSX.out z.x (hG4.trans (z.h.mono hG4.size))) (by omega) (by omega) ((HXK.out.below hG4).below z.h).rd ((HYK.out.below hG4).below z.h).rd HXK.out.le HYK.out.le))
            unfold Sk.v at HLC
            rw [HLS.out] at HLC
            clear f0 f1 e0r hG4 hS4 hc0 HTK HGS hbx4
            go_wp2_with fail
            (refine wp_region_quiet_bw (by kernel_rfl) (by kernel_rfl) ?_
             repeat (first | go_big_quiet_step (((go_at_call 21; exact HLC.out _))) | quiet_step (((go_at_call 21; exact HLC.out _))))
             refine wpQuiet_nil ?_
             intro wq hw'
             obtain ⟨⟨_, hbq⟩, hw''⟩ := hw'
             subst hw'')
            have hB9 := bstep hB8 hbq
            clear hB8 hbq r0 r1 g0 g1 g2 g3 HLC f1x
            go_wp2_with fail
            go_roundw
            case rel => exact ⟨p + 1, by omega, by go_num, by rw [HGT.out], hB9⟩
            case measure => simp [intOf]; omega
          · have z4 : (cc != 0) = true := by simpa using hc0
            have HGT := hide (show gtot s (gk s x.r) ((dat l1).take (p + 1)) = gt by
              rw [HTK.out, HGS.out, if_neg (show ¬ cmpR (gk s (y.r, y.m).1) (gk s x.r) = 0 by rw [HCC.out]; exact hc0)]
              omega)
            clear f0 f1 e0r hG4 hS4 hc0 HTK HGS
            go_wp2_with fail
            go_roundw
            case rel => exact ⟨p + 1, by omega, by go_num, by rw [HGT.out], hB8⟩
            case measure => simp [intOf]; omega
        · obtain rfl : p = n1 := by omega
          have hgt : gtot s (gk s x.r) ((dat l1).take p) = s.n := by
            rw [take_all (by rw [dat_len, hg6.len]), HDT.out]
            exact HLEFT.out.1
          rw [hgt]
          have c3 := ((hbx6.below hB7).below hBr).c3
          have z5 : (s.n != s.n) = false := by simp
          have hB8 := bstep hB7 hBr
          clear hgt hB7 hBr
          go_wp2_with fail
          go_roundw
          case rel => exact ⟨q + 1, by omega, by go_num, hB8⟩
          case measure => simp [intOf]; omega
    · obtain rfl : q = n := by omega
      have HA := hide (awake10_any wr (ht6.below hB))
      have hBf := bstep hBw hB
      clear hB
      go_wp2_with fail
      refine HA.out.mono ?_
      rintro e W6 ⟨rfl, hB7⟩
      have HEE := hide (bstep hBf hB7)
      clear hBf hB7
      go_wp2
      go_ret
      exact ⟨rfl, HEE.out⟩
end Go.Proofs.YtljglceaibgknaaGreatDoor
