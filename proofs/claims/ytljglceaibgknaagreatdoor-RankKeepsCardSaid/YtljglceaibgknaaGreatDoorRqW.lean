/-
  The walk of RankKeeps, for every setup, width and changes.
-/
import Derived.Test.YtljglceaibgknaaGreatDoorRqT
import Derived.Test.YtljglceaibgknaaGreatDoorRqV
import Derived.Test.YtljglceaibgknaaGreatDoorBcL
namespace Go.Proofs.YtljglceaibgknaaGreatDoor
open Go.RowKit
attribute [local go_sem] Oper.semAt_some wide_fn wide_depth
set_option linter.unusedVariables false
set_option linter.unusedSimpArgs false

theorem BoxS.turn {X : List Nat} {w w' : World} {b : Nat} {k : Sk} {s : Stp} (h : BoxS w b k s) (ht : Turn X w w') (hb : b ∉ X) : BoxS w' b k s :=
  have key : ∀ i, w'.cell? ⟨b, i, none⟩ = w.cell? ⟨b, i, none⟩ := fun i => ht.bar.cell (p := ⟨b, i, none⟩) (show b < w.heap.size from World.block_lt_of_cell? _ ⟨b, 0, none⟩ h.c0) hb
  ⟨(key 0).trans h.c0, (key 1).trans h.c1, (key 2).trans h.c2, (key 3).trans h.c3⟩
theorem RkB.turn {X : List Nat} {w w' : World} {b : Nat} {k : Sk} {s : Stp} {width : Int} {A A' : Option Addr} {n c n' c' : Nat} {l l' : List It} (h : RkB w b k s width A n c l A' n' c' l') (ht : Turn X w w') (hb : b ∉ X) : RkB w' b k s width A n c l A' n' c' l' :=
  ⟨h.blk.turn ht hb, ⟨⟨h.set.p.1, fun h0 => by
    obtain ⟨g, off, e, hg, hc⟩ := h.set.p.2 h0
    exact ⟨g, off, e, hg, fun j u hj => ht.keep _ _ (hc j u hj) (by have := List.mem_of_getElem? hj; obtain ⟨y, _, rfl⟩ := List.mem_map.1 this; exact nofun)⟩⟩, ⟨h.set.b.1, fun h0 => by
    obtain ⟨g, off, e, hg, hc⟩ := h.set.b.2 h0
    exact ⟨g, off, e, hg, fun j u hj => ht.keep _ _ (hc j u hj) (by have := List.mem_of_getElem? hj; obtain ⟨y, _, rfl⟩ := List.mem_map.1 this; exact nofun)⟩⟩, h.set.np, h.set.nb⟩, h.kc, h.kc', h.all.turn ht, h.now.turn ht, h.nc, h.nc'⟩
theorem RkR.turn {X : List Nat} {w w' : World} {b : Nat} {k : Sk} {s : Stp} {width : Int} {A : Option Addr} {n c : Nat} {l : List It} (h : RkR w b k s width A n c l) (ht : Turn X w w') (hb : b ∉ X) : RkR w' b k s width A n c l :=
  ⟨h.blk.turn ht hb, ⟨⟨h.set.p.1, fun h0 => by
    obtain ⟨g, off, e, hg, hc⟩ := h.set.p.2 h0
    exact ⟨g, off, e, hg, fun j u hj => ht.keep _ _ (hc j u hj) (by have := List.mem_of_getElem? hj; obtain ⟨y, _, rfl⟩ := List.mem_map.1 this; exact nofun)⟩⟩, ⟨h.set.b.1, fun h0 => by
    obtain ⟨g, off, e, hg, hc⟩ := h.set.b.2 h0
    exact ⟨g, off, e, hg, fun j u hj => ht.keep _ _ (hc j u hj) (by have := List.mem_of_getElem? hj; obtain ⟨y, _, rfl⟩ := List.mem_map.1 this; exact nofun)⟩⟩, h.set.np, h.set.nb⟩, h.kc, h.kc', h.all.turn ht, h.nc⟩
/-- What the law reads and never writes. -/
structure Kp (w0 : World) (bs : Nat) (k : Sk) (s : Stp) (A : Option Addr) (n : Nat) (l : List Ch) (W : World) : Prop where
  ch : ChgR W W.heap.size A n l
  bx : BoxS W bs k s
  st : SetK W W.heap.size k s
  tab : Tab W
  bel : Below w0.heap.size w0 W
theorem Kp.turn {w0 W W' : World} {bs : Nat} {k : Sk} {s : Stp} {A : Option Addr} {n : Nat} {l : List Ch} {X : List Nat} (h : Kp w0 bs k s A n l W) (ht : Turn X W W') (hX : ∀ x ∈ X, w0.heap.size ≤ x) (hb : bs ∉ X) : Kp w0 bs k s A n l W' :=
  ⟨h.ch.turn ht, h.bx.turn ht hb, h.st.turn ht, ht.tab h.tab, h.bel.trans (ht.bar.below h.bel.size hX)⟩
theorem Kp.below {w0 W W' : World} {bs : Nat} {k : Sk} {s : Stp} {A : Option Addr} {n : Nat} {l : List Ch} (h : Kp w0 bs k s A n l W) (hB : Below W.heap.size W W') : Kp w0 bs k s A n l W' :=
  h.turn (X := []) (Turn.of_below hB) nofun nofun
theorem tell_chs {s : Stp} {width : Int} {d : Bg} {q : Nat} {t : Int} {r : Rw} {m : Int} (hk : Kept s width d q) (hq : 2 * q + 1 ≤ 400) {lc : List Ch} (h1 : lc.map (fun (i : Ch) => (i.r, i.m)) = tellC s width d t r m) (h2 : ∀ i ∈ lc, i.t = t) : okChs lc = true := by
  unfold tellC at h1
  split at h1
  · rename_i h0
    have hk2 := hk.put h0
    have hd := okBag_asc (hk.diff hk2 (by omega))
    obtain ⟨hv, _, _, _⟩ := tell_in h0
    unfold okChs
    rw [Bool.and_eq_true, decide_eq_true_eq, List.all_eq_true]
    refine ⟨?_, fun i hi => ?_⟩
    · have := congrArg List.length h1
      rw [List.length_map] at this
      rw [this]; exact hd.2.2
    · have hm : (i.r, i.m) ∈ plusB (topB s (putB d r m)) (topB s d) (-1) := h1 ▸ List.mem_map.2 ⟨i, hi, rfl⟩
      unfold chV okCh
      rw [h2 i hi, (okCh_in hv).1, hd.1.ok _ hm, hd.2.1 _ hm]
      rfl
  · have : lc = [] := List.map_eq_nil_iff.1 h1
    subst this
    rfl
theorem tell_aft {s : Stp} {width : Int} {d : Bg} {q : Nat} {t : Int} {r : Rw} {m : Int} (hk : Kept s width d q) : aftB (topB s d) (tellC s width d t r m) = topB s (tellD width d t r m) := by
  unfold tellC tellD
  split
  · rename_i h0
    exact hk.after (hk.put h0)
  · rfl
theorem top_nil (s : Stp) : topB s [] = [] := rfl
theorem top_kept {s : Stp} {width : Int} {d : Bg} {q : Nat} (hk : Kept s width d q) : topE s width d = (topB s d, 0) := by unfold topE; rw [if_pos hk.ask]
set_option maxRecDepth 100000 in
set_option maxHeartbeats 16000000 in
theorem rankKeeps_all (k : Sk) (s : Stp) (width : Int) (A : Option Addr) (n c : Nat) (l : List Ch) (w : World) (hp : Reads w w.heap.size 1 k.A k.n (s.per.map (Value.int .i64))) (hby : Reads w w.heap.size 1 k.A' k.n' (s.by_.map (Value.int .i64))) (hc : k.n ≤ k.c) (hc' : k.n' ≤ k.c')
    (hl : ChgR w w.heap.size A n l) (ht : Tab w) :
    Calls Tryz.prog 9 #[k.v s, .int .i64 width, .slice A n c] w (RetV w (.bool true)) := by
  have hB1 := below_val (w := w) #[.slice k.A k.n k.c, .slice k.A' k.n' k.c', .bool s.dn, .int .i64 s.n] 24
  have k1 := Blk.new w 24 #[.slice k.A k.n k.c, .slice k.A' k.n' k.c', .bool s.dn, .int .i64 s.n]
  have hp1 := hp.up hB1
  have hy1 := hby.up hB1
  have hl1 := hl.step hB1
  have ht1 := ht.below hB1
  have hn := hl.le
  clear hp hby hl ht
  unfold Sk.v
  go_enter Tryz.func9, Tryz.ntmps9
  go_upto_region 1 with fail
  obtain ⟨W0, hW0⟩ : ∃ W0, w.alloc (.cells #[.slice k.A k.n k.c, .slice k.A' k.n' k.c', .bool s.dn, .int .i64 s.n] 24) = W0 := ⟨_, rfl⟩
  obtain ⟨bs, hbs⟩ : ∃ bs, w.heap.size = bs := ⟨_, rfl⟩
  rw [hW0] at hB1 k1 hp1 hy1 hl1 ht1 ⊢
  rw [hbs] at k1 ⊢
  have hbl : bs < W0.heap.size := k1.lt
  clear hW0
  have hbx : BoxS W0 bs k s := ⟨by simpa using k1.cell 0, by simpa using k1.cell 1, by simpa using k1.cell 2, by simpa using k1.cell 3⟩
  have hM := many_any k s none 0 0 [] W0 (BagR.nil _ _)
  unfold Sk.v at hM
  have HM := hide hM
  have c0 := hbx.c0
  have c1 := hbx.c1
  have c2 := hbx.c2
  have c3 := hbx.c3
  have HBS := hide hbs
  clear k1 hM hbs
  go_wp2_with fail
  refine HM.out.mono ?_
  rintro e W1 ⟨b, rfl, hsm, hB2⟩
  have hBw := bstep hB1 hB2
  have ht2 := ht1.below hB2
  have hbx2 := hbx.below hB2
  have hl2 := hl1.step hB2
  have hp2 := hp1.up hB2
  have hy2 := hy1.up hB2
  have hbl2 := Nat.lt_of_lt_of_le hbl hB2.size
  clear c0 c1 c2 c3 HM hB1 hB2 hbx hp1 hy1 ht1 hl1 hbl
  cases b
  case true =>
    have HA := hide (awake10_any W1 ht2)
    have HBF := hide hBw
    clear hBw
    go_wp2_with fail
    refine HA.out.mono ?_
    rintro e W9 ⟨rfl, hB9⟩
    have HE := hide (bstep HBF.out hB9)
    clear hB9
    go_wp2
    go_ret
    exact ⟨rfl, HE.out⟩
  obtain ⟨hkn, hkn', _⟩ := hsm rfl
  have hs2 : SetK W1 W1.heap.size k s := ⟨hp2, hy2, by omega, by omega⟩
  have hkp : Kp w bs k s A n l W1 := ⟨hl2, hbx2, hs2, ht2, hBw⟩
  clear hsm hp2 hy2 hs2 hbx2 hBw ht2 hl2
  by_cases hn4 : n ≤ 40
  case neg =>
    have q1 : (40 : Int) < (n : Int) := by omega
    have ht2 := hkp.tab
    have hBw := hkp.bel
    clear hkp
    have HA := hide (awake10_any W1 ht2)
    have HBF := hide hBw
    clear hBw
    go_wp2_with fail
    refine HA.out.mono ?_
    rintro e W9 ⟨rfl, hB9⟩
    have HE := hide (bstep HBF.out hB9)
    clear hB9
    go_wp2
    go_ret
    exact ⟨rfl, HE.out⟩
  have q1 : (n : Int) ≤ 40 := by omega
  have HF := hide (FewChanges_any A n c l W1 hkp.ch)
  go_wp2_with fail
  refine HF.out.mono ?_
  rintro e W2 ⟨b, rfl, hB2⟩
  have hkp2 := hkp.below hB2
  have hbl3 := Nat.lt_of_lt_of_le hbl2 hB2.size
  clear HF hkp hB2 hbl2
  cases b
  case false =>
    have ht2 := hkp2.tab
    have hBw := hkp2.bel
    clear hkp2
    have HA := hide (awake10_any W2 ht2)
    have HBF := hide hBw
    clear hBw
    go_wp2_with fail
    refine HA.out.mono ?_
    rintro e W9 ⟨rfl, hB9⟩
    have HE := hide (bstep HBF.out hB9)
    clear hB9
    go_wp2
    go_ret
    exact ⟨rfl, HE.out⟩
  have hN1 := NewRanker_any k s width W2 hkp2.st hc hc'
  unfold Sk.v at hN1
  have HN1 := hide hN1
  have c0 := hkp2.bx.c0
  have c1 := hkp2.bx.c1
  have c2 := hkp2.bx.c2
  have c3 := hkp2.bx.c3
  clear hN1
  cases ho : okS s width
  case false =>
    have HO := hide ho
    clear ho
    go_wp2_with fail
    refine HN1.out.mono ?_
    rintro e W3 ⟨hB3, hr⟩
    rw [if_neg (by rw [HO.out]; decide)] at hr
    subst hr
    have hkp3 := hkp2.below hB3
    clear c0 c1 c2 c3 hkp2 hB3 HN1
    have hN2 := RNewRanker_any k s width W3 hkp3.st
    unfold Sk.v at hN2
    have HN2 := hide hN2
    have c0 := hkp3.bx.c0
    have c1 := hkp3.bx.c1
    have c2 := hkp3.bx.c2
    have c3 := hkp3.bx.c3
    clear hN2
    go_wp2_with fail
    refine HN2.out.mono ?_
    rintro e W4 ⟨hB4, hr⟩
    rw [if_neg (by rw [HO.out]; decide)] at hr
    subst hr
    have hkp4 := hkp3.below hB4
    clear c0 c1 c2 c3 hkp3 hB4 HN2
    go_wp2_with fail
    go_loopw [11, 12] (fun v i wr => ∃ (q : Nat) (As : Option Addr) (ns cs : Nat) (ls : List It), q ≤ n ∧ i = .int .i64 q ∧ .slice As ns cs = v ∧ BagR wr wr.heap.size As ns ls ∧ ns ≤ cs ∧ dat ls = [] ∧ Kp w bs k s A n l wr) (fun _ i _ => n - (intOf i).toNat)
    case atStart => exact ⟨0, none, 0, 0, [], Nat.zero_le _, rfl, rfl, BagR.nil _ _, Nat.le_refl _, rfl, hkp4⟩
    case round =>
      clear hkp4
      obtain ⟨q, As, ns, cs, ls, hq, rfl, rfl, hsum, hcs, hds, hkp⟩ := hrel
      have HDS := hide hds
      clear hds
      by_cases hlt : q < n
      · obtain ⟨gb, off, x, rfl, hgb, hxk, e0, e1, e2, hrow⟩ := hkp.ch.at_ hlt
        have q2 : (0 : Int) ≤ (q : Int) := by omega
        have q3 : (q : Int) < (n : Int) := by omega
        have HT1 := hide (Tell_nil x.t x.A x.n x.c x.m wr)
        go_wp2_with fail
        refine HT1.out.mono ?_
        rintro e X1 ⟨rfl, hb1⟩
        have hkp1 := hkp.below hb1
        have hsum1 := hsum.step hb1
        have e0 := (hb1.cell (p := ⟨gb, off + q * 3, none⟩) hgb).trans e0
        have e1 := (hb1.cell (p := ⟨gb, off + q * 3 + 1, none⟩) hgb).trans e1
        have e2 := (hb1.cell (p := ⟨gb, off + q * 3 + 2, none⟩) hgb).trans e2
        have HT2 := hide (RTell_nil x.t x.A x.n x.c x.m X1)
        clear hkp hsum hb1 HT1
        go_wp2_with fail
        refine HT2.out.mono ?_
        rintro e X2 ⟨rfl, hb2⟩
        have hkp2 := hkp1.below hb2
        have hsum2 := hsum1.step hb2
        have HSC := hide (same_chg (c := 0) (c' := 0) (ChgR.nil X2 0) (ChgR.nil X2 0) (T := 0) (d := []) ⟨rfl, nofun⟩ ⟨rfl, nofun⟩)
        clear hkp1 hsum1 hb2 HT2 e0 e1 e2 hgb
        go_wp2_with fail
        refine HSC.out.mono ?_
        rintro e X3 ⟨rfl, hb3⟩
        have hkp3 := hkp2.below hb3
        have hsum3 := hsum2.step hb3
        have hAf := RAfter_any As ns cs ls none 0 0 [] X3 hsum3 hcs (ChgR.nil _ _) (by rw [HDS.out]; rfl) rfl
        rw [HDS.out] at hAf
        have HAF := hide hAf
        clear hkp2 hsum2 hb3 HSC hAf
        go_wp2_with fail
        refine HAF.out.mono ?_
        rintro e X4 ⟨As', ns', cs', ls', rfl, hds', hsum4, hcs', hb4⟩
        have HDS4 := hide (show dat ls' = [] from hds')
        have hkp4 := hkp3.below hb4
        have HNW := hide (Now_nil X4)
        clear hkp3 hsum3 hb4 hds' HAF
        go_wp2_with fail
        refine HNW.out.mono ?_
        rintro e X5 ⟨A5, n5, c5, l5, rfl, hd5, hb5, hc5, hB5⟩
        have hkp5 := hkp4.below hB5
        have hsum5 := hsum4.step hB5
        have HAL := hide (All_nil X5)
        clear hkp4 hsum4 hB5 HNW hd5 hb5 hc5
        go_wp2_with fail
        refine HAL.out.mono ?_
        rintro e X6 ⟨A6, n6, c6, l6, rfl, hd6, hb6, hc6, hB6⟩
        have HD6 := hide (show dat l6 = [] from hd6)
        have hkp6 := hkp5.below hB6
        have hsum6 := hsum5.step hB6
        have HRA := hide (RAll_nil X6)
        clear hkp5 hsum5 hB6 HAL hd6 hc6
        go_wp2_with fail
        refine HRA.out.mono ?_
        rintro e X7 ⟨A7, n7, c7, l7, rfl, hd7, hb7, hc7, hB7⟩
        have hkp7 := hkp6.below hB7
        have hsum7 := hsum6.step hB7
        have HSM := hide (same_dat (c := c6) (c' := c7) (hb6.step hB7) hb7 (HD6.out.trans (show [] = dat l7 from hd7.symm)))
        clear hkp6 hsum6 hB7 HRA hd7 hc7 hb6 hb7
        go_wp2_with fail
        refine HSM.out.mono ?_
        rintro e X8 ⟨rfl, hB8⟩
        have hkp8 := hkp7.below hB8
        have hsum8 := hsum7.step hB8
        clear hkp7 hsum7 hB8 HSM
        go_wp2
        go_roundw
        case rel => exact ⟨q + 1, As', ns', cs', ls', by omega, by go_num, rfl, hsum8, hcs', HDS4.out, hkp8⟩
        case measure => simp [intOf]; omega
      · obtain rfl : q = n := by omega
        have ht2 := hkp.tab
        have hBw := hkp.bel
        clear hkp hsum
        have HA := hide (awake10_any wr ht2)
        have HBF := hide hBw
        clear hBw
        go_wp2_with fail
        refine HA.out.mono ?_
        rintro e W9 ⟨rfl, hB9⟩
        have HE := hide (bstep HBF.out hB9)
        clear hB9
        go_wp2
        go_ret
        exact ⟨rfl, HE.out⟩
  have HO := hide ho
  clear ho
  go_wp2_with fail
  refine HN1.out.mono ?_
  rintro e W3 ⟨hB3, hr⟩
  rw [if_pos HO.out] at hr
  obtain ⟨b1, k1, rfl, hge1, hx3⟩ := hr
  have hkp3 := hkp2.below hB3
  have hb1l := hx3.lt
  have hw0 := hkp2.bel.size
  clear c0 c1 c2 c3 hkp2 hB3 HN1
  have hN2 := RNewRanker_any k s width W3 hkp3.st
  unfold Sk.v at hN2
  have HN2 := hide hN2
  have c0 := hkp3.bx.c0
  have c1 := hkp3.bx.c1
  have c2 := hkp3.bx.c2
  have c3 := hkp3.bx.c3
  clear hN2
  go_wp2_with fail
  refine HN2.out.mono ?_
  rintro e W4 ⟨hB4, hr⟩
  rw [if_pos HO.out] at hr
  obtain ⟨b2, k2, rfl, hge2, hy4⟩ := hr
  have hkp4 := hkp3.below hB4
  have hx4 := hx3.up hB4
  have NE := hide (show (b1 ≠ b2 ∧ b1 ≠ bs ∧ b2 ≠ bs) ∧ w.heap.size ≤ b1 ∧ w.heap.size ≤ b2 from ⟨⟨by omega, by omega, by omega⟩, by omega, by have := hkp3.bel.size; omega⟩)
  have HK0 := hide (Kept.nil HO.out)
  clear c0 c1 c2 c3 hkp3 hB4 HN2 hx3 hge1 hge2 hb1l hw0 hbl3
  go_wp2_with fail
  go_loopw [11, 12] (fun v i wr => ∃ (q : Nat) (As : Option Addr) (ns cs : Nat) (ls : List It) (d : Bg) (A1 : Option Addr) (n1 c1 : Nat) (l1 : List It) (A2 : Option Addr) (n2 c2 : Nat) (l2 : List It) (A3 : Option Addr) (n3 c3 : Nat) (l3 : List It),
    q ≤ n ∧ i = .int .i64 q ∧ .slice As ns cs = v ∧ BagR wr wr.heap.size As ns ls ∧ ns ≤ cs ∧ dat ls = topB s d ∧ Kept s width d q ∧ RkB wr b1 k1 s width A1 n1 c1 l1 A2 n2 c2 l2 ∧ dat l1 = d ∧ dat l2 = topB s d ∧ RkR wr b2 k2 s width A3 n3 c3 l3 ∧ dat l3 = d ∧ Kp w bs k s A n l wr) (fun _ i _ => n - (intOf i).toNat)
  case atStart => exact ⟨0, none, 0, 0, [], [], none, 0, 0, [], none, 0, 0, [], none, 0, 0, [], Nat.zero_le _, rfl, rfl, BagR.nil _ _, Nat.le_refl _, (top_nil s).symm, HK0.out, hx4, rfl, (top_nil s).symm, hy4, rfl, hkp4⟩
  case round =>
    clear hkp4 hx4 hy4 HK0
    obtain ⟨q, As, ns, cs, ls, d, A1, n1, c1, l1, A2, n2, c2, l2, A3, n3, c3, l3, hq, rfl, rfl, hsum, hcs, hds, hK, hx, hd1, hd2, hy, hd3, hkp⟩ := hrel
    have HDS := hide hds
    have HD1 := hide hd1
    have HD2 := hide hd2
    have HD3 := hide hd3
    have HK := hide hK
    clear hds hd1 hd2 hd3 hK
    by_cases hlt : q < n
    · obtain ⟨gb, off, x, rfl, hgb, hxk, e0, e1, e2, hrow⟩ := hkp.ch.at_ hlt
      have q2 : (0 : Int) ≤ (q : Int) := by omega
      have q3 : (q : Int) < (n : Int) := by omega
      obtain ⟨E, hE⟩ : ∃ E, tellE width d x.t x.r x.m = E := ⟨_, rfl⟩
      have hT1 := Tell_any x.t x.A x.n x.c x.r x.m wr hx HD1.out HD2.out HK.out (by omega) hrow hkp.tab
      have HT1 := hide hT1
      have HE := hide hE
      have z0 : (E != E) = false := by simp
      clear hT1 hE
      go_wp2_with fail
      refine HT1.out.mono ?_
      rintro e X1 ⟨Aa, na, ca, la, rfl, ⟨ha1, ha2⟩, hcha, hturn, A1', n1', c1', l1', A2', n2', c2', l2', hx1, hd1, hd2⟩
      rw [HE.out]
      have HA1 := hide ha1
      have HA2 := hide ha2
      have HD1' := hide hd1
      have HD2' := hide hd2
      have hkp1 := hkp.turn hturn (by simp; exact NE.out.2.1) (by simp; exact fun h => NE.out.1.2.1 h.symm)
      have hsum1 := hsum.turn hturn
      have hy1 := hy.turn hturn (by simp; exact fun h => NE.out.1.1 h.symm)
      have hrow1 := hrow.turn hturn
      have e0 := hturn.keep _ _ e0 nofun
      have e1 := hturn.item _ _ _ _ _ _ _ e1 e2
      have e2 := hturn.keep _ _ e2 nofun
      clear hkp hsum hy hrow hturn HT1 ha1 ha2 hd1 hd2 hgb hx
      have HT2 := hide (RTell_any x.t x.A x.n x.c x.r x.m X1 hy1 HD3.out HK.out (by omega) hrow1)
      go_wp2_with fail
      refine HT2.out.mono ?_
      rintro e X2 ⟨Ab, nb, cb, lb, rfl, ⟨hb1, hb2⟩, hchb, hturn, A3', n3', c3', l3', hy2, hd3⟩
      rw [HE.out]
      have HD3' := hide hd3
      have hkp2 := hkp1.turn hturn (by simp; exact NE.out.2.2) (by simp; exact fun h => NE.out.1.2.2 h.symm)
      have hsum2 := hsum1.turn hturn
      have hx2 := hx1.turn hturn (by simp; exact NE.out.1.1)
      have hcha2 := hcha.turn hturn
      have HSC := hide (same_chg (c := ca) (c' := cb) hcha2 hchb (T := x.t) (d := tellC s width d x.t x.r x.m) ⟨HA1.out, HA2.out⟩ ⟨hb1, hb2⟩)
      clear hkp1 hsum1 hy1 hrow1 hturn HT2 hb1 hb2 hd3 e0 e1 e2 hx1 hcha
      go_wp2_with fail
      refine HSC.out.mono ?_
      rintro e X3 ⟨rfl, hb3⟩
      have hkp3 := hkp2.below hb3
      have hsum3 := hsum2.step hb3
      have hx3 := hx2.up hb3
      have hy3 := hy2.up hb3
      have hcha3 := hcha2.step hb3
      have hAf := RAfter_any As ns cs ls Aa na ca la X3 hsum3 hcs hcha3 (by rw [HDS.out]; exact HK.out.top.1) (tell_chs HK.out (by omega) HA1.out HA2.out)
      rw [HDS.out, show chD la = tellC s width d x.t x.r x.m from HA1.out, tell_aft HK.out] at hAf
      have HAF := hide hAf
      have HK' := hide (HK.out.tell x.t x.r x.m)
      obtain ⟨d', hd'⟩ : ∃ d', tellD width d x.t x.r x.m = d' := ⟨_, rfl⟩
      rw [hd'] at HAF HK' HD1' HD2' HD3'
      clear hkp2 hsum2 hb3 HSC hAf hx2 hy2 hcha2 hchb hd'
      go_wp2_with fail
      refine HAF.out.mono ?_
      rintro e X4 ⟨As', ns', cs', ls', rfl, hds', hsum4, hcs', hb4⟩
      have HDS4 := hide (show dat ls' = topB s d' from hds')
      have hkp4 := hkp3.below hb4
      have hx4 := hx3.up hb4
      have hy4 := hy3.up hb4
      have hNw := Now_any X4 hx4
      rw [HD2'.out, comb_empty HK'.out.top.1] at hNw
      have HNW := hide hNw
      clear hkp3 hsum3 hb4 hds' HAF hx3 hy3 hcha3 hNw
      go_wp2_with fail
      refine HNW.out.mono ?_
      rintro e X5 ⟨A5, n5, c5, l5, rfl, hd5, hb5, hc5, hB5⟩
      have HD5 := hide (show dat l5 = topB s d' from hd5)
      have hkp5 := hkp4.below hB5
      have hsum5 := hsum4.step hB5
      have hx5 := hx4.up hB5
      have hy5 := hy4.up hB5
      have hAl := All_any X5 hx5
      rw [HD1'.out, comb_empty HK'.out.bag] at hAl
      have HAL := hide hAl
      clear hkp4 hsum4 hB5 HNW hd5 hx4 hy4 hAl
      go_wp2_with fail
      refine HAL.out.mono ?_
      rintro e X6 ⟨A6, n6, c6, l6, rfl, hd6, hb6, hc6, hB6⟩
      have HD6 := hide (show dat l6 = d' from hd6)
      have hkp6 := hkp5.below hB6
      have hsum6 := hsum5.step hB6
      have hx6 := hx5.up hB6
      have hy6 := hy5.up hB6
      have hb5 := hb5.step hB6
      have hRa := RAll_any X6 hy6 (by rw [HD3'.out]; exact HK'.out.bag)
      rw [HD3'.out] at hRa
      have HRA := hide hRa
      clear hkp5 hsum5 hB6 HAL hd6 hx5 hy5 hRa
      go_wp2_with fail
      refine HRA.out.mono ?_
      rintro e X7 ⟨A7, n7, c7, l7, rfl, hd7, hb7, hc7, hB7⟩
      have hkp7 := hkp6.below hB7
      have hsum7 := hsum6.step hB7
      have hx7 := hx6.up hB7
      have hy7 := hy6.up hB7
      have hb5 := hb5.step hB7
      have hb6 := hb6.step hB7
      have HSM := hide (same_dat (c := c6) (c' := c7) hb6 hb7 (HD6.out.trans (show d' = dat l7 from hd7.symm)))
      clear hkp6 hsum6 hB7 HRA hd7 hc7 hx6 hy6 hb7
      go_wp2_with fail
      refine HSM.out.mono ?_
      rintro e X8 ⟨rfl, hB8⟩
      have hkp8 := hkp7.below hB8
      have hsum8 := hsum7.step hB8
      have hx8 := hx7.up hB8
      have hy8 := hy7.up hB8
      have hb5 := hb5.step hB8
      have hb6 := hb6.step hB8
      clear hkp7 hsum7 hB8 HSM hx7 hy7
      have hTp := Top_any k s width A6 n6 c6 l6 X8 hkp8.st hc hc' hb6 (by
        have h6 := (okBag_asc HK'.out.bag).2.2
        rw [← HD6.out, dat_len, hb6.len] at h6
        omega) hkp8.tab
      rw [HD6.out, top_kept HK'.out] at hTp
      unfold Sk.v at hTp
      have HTP := hide hTp
      have s0 := hkp8.bx.c0
      have s1 := hkp8.bx.c1
      have s2 := hkp8.bx.c2
      have s3 := hkp8.bx.c3
      clear hTp
      go_wp2_with fail
      refine HTP.out.mono ?_
      rintro e X9 ⟨A9, n9, c9, l9, rfl, hd9, hb9, hc9, hB9⟩
      have HD9 := hide (show dat l9 = topB s d' from hd9)
      have hkp9 := hkp8.below hB9
      have hsum9 := hsum8.step hB9
      have hx9 := hx8.up hB9
      have hy9 := hy8.up hB9
      have hb5 := hb5.step hB9
      have HS1 := hide (same_dat (c := c5) (c' := cs') hb5 hsum9 (HD5.out.trans HDS4.out.symm))
      clear s0 s1 s2 s3 hkp8 hsum8 hx8 hy8 hB9 hd9 HTP hb6
      go_wp2_with fail
      refine HS1.out.mono ?_
      rintro e Y1 ⟨rfl, hB10⟩
      have hkp10 := hkp9.below hB10
      have hsum10 := hsum9.step hB10
      have hx10 := hx9.up hB10
      have hy10 := hy9.up hB10
      have hb5 := hb5.step hB10
      have hb9 := hb9.step hB10
      have HS2 := hide (same_dat (c := c5) (c' := c9) hb5 hb9 (HD5.out.trans HD9.out.symm))
      clear hkp9 hsum9 hx9 hy9 hB10 HS1
      go_wp2_with fail
      refine HS2.out.mono ?_
      rintro e Y2 ⟨rfl, hB11⟩
      have hkp11 := hkp10.below hB11
      have hsum11 := hsum10.step hB11
      have hx11 := hx10.up hB11
      have hy11 := hy10.up hB11
      clear hkp10 hsum10 hx10 hy10 hB11 HS2 hb5 hb9
      go_wp2
      go_roundw
      case rel => exact ⟨q + 1, As', ns', cs', ls', d', A1', n1', c1', l1', A2', n2', c2', l2', A3', n3', c3', l3', by omega, by go_num, rfl, hsum11, hcs', HDS4.out, HK'.out, hx11, HD1'.out, HD2'.out, hy11, HD3'.out, hkp11⟩
      case measure => simp [intOf]; omega
    · obtain rfl : q = n := by omega
      have ht2 := hkp.tab
      have hBw := hkp.bel
      clear hkp hsum hx hy
      have HA := hide (awake10_any wr ht2)
      have HBF := hide hBw
      clear hBw
      go_wp2_with fail
      refine HA.out.mono ?_
      rintro e W9 ⟨rfl, hB9⟩
      have HE := hide (bstep HBF.out hB9)
      clear hB9
      go_wp2
      go_ret
      exact ⟨rfl, HE.out⟩
end Go.Proofs.YtljglceaibgknaaGreatDoor
