/-
  The reference's Less and the walk of RankValid, for every setup, width and rows.
-/
import Derived.Test.YtljglceaibgknaaGreatDoorRkY
import Derived.Test.YtljglceaibgknaaGreatDoorRkZ
import Derived.Test.YtljglceaibgknaaGreatDoorLongR
namespace Go.Proofs.YtljglceaibgknaaGreatDoor
open Go.RowKit
attribute [local go_sem] Oper.semAt_some
set_option linter.unusedVariables false
set_option linter.unusedSimpArgs false

theorem lessR_eq {s : Stp} {x y : Rw} : (has x s.by_ && has y s.by_ && has x s.per && has y s.per && aheadB s x y) = lessB s x y := by
  unfold lessB
  cases h1 : has x s.by_
  · simp
  cases h2 : has y s.by_
  · simp
  rw [ahead_ord h1 h2]
  cases has x s.per <;> cases has y s.per <;> simp
set_option maxRecDepth 100000 in
set_option maxHeartbeats 4000000 in
theorem RLess_any (k : Sk) (s : Stp) (A : Option Addr) (n c : Nat) (x : Rw) (A' : Option Addr) (n' c' : Nat) (y : Rw) (w : World) (hs : SetK w w.heap.size k s) (hx : Reads w w.heap.size 3 A n (x.flatMap encV)) (hy : Reads w w.heap.size 3 A' n' (y.flatMap encV)) (hn : n ≤ 9223372036854775807) (hn' : n' ≤ 9223372036854775807) :
    Calls Tryz.prog 22 #[k.v s, .slice A n c, .slice A' n' c'] w (RetV w (.bool (lessB s x y))) := by
  have HL := hide (hx.len encV_len (by omega))
  have HL' := hide (hy.len encV_len (by omega))
  obtain ⟨ans, hans⟩ : ∃ ans, lessB s x y = ans := ⟨_, rfl⟩
  rw [hans]
  rw [← lessR_eq] at hans
  have HA := hide hans
  have hB := below_val (w := w) #[.slice k.A k.n k.c, .slice k.A' k.n' k.c', .bool s.dn, .int .i64 s.n] 34
  have kb := Blk.new w 34 #[.slice k.A k.n k.c, .slice k.A' k.n' k.c', .bool s.dn, .int .i64 s.n]
  have hs0 := hs.up hB
  have hx0 := hx.up hB
  have hy0 := hy.up hB
  have hnp := hs.np
  have hnb := hs.nb
  clear hs hx hy hans
  unfold Sk.v
  go_enter Tryz.func22, Tryz.ntmps22
  go_upto_region 1 with fail
  obtain ⟨W, hW⟩ : ∃ W, w.alloc (.cells #[.slice k.A k.n k.c, .slice k.A' k.n' k.c', .bool s.dn, .int .i64 s.n] 34) = W := ⟨_, rfl⟩
  obtain ⟨bs, hbs⟩ : ∃ bs, w.heap.size = bs := ⟨_, rfl⟩
  rw [hW] at hB kb hs0 hx0 hy0 ⊢
  rw [hbs] at kb ⊢
  have hbx : BoxS W bs k s := ⟨by simpa using kb.cell 0, by simpa using kb.cell 1, by simpa using kb.cell 2, by simpa using kb.cell 3⟩
  have HS := hide (fun (X : World) (hX : Below W.heap.size W X) => hs0.up hX)
  have HX := hide (fun (X : World) (hX : Below W.heap.size W X) => hx0.up hX)
  have HY := hide (fun (X : World) (hX : Below W.heap.size W X) => hy0.up hX)
  have HBX := hide (fun (X : World) (hX : Below W.heap.size W X) => hbx.below hX)
  have HBF := hide (fun (X : World) (hX : Below W.heap.size W X) => hbs ▸ bstep hB hX)
  have HB := hide (show ∀ (X : World), Below W.heap.size W X → Below w.heap.size w X from fun X hX => bstep hB hX)
  clear hW kb hs0 hx0 hy0 hbs hB HBF
  have hB0 := Below.refl W.heap.size W
  have c0 := hbx.c0
  have c1 := hbx.c1
  clear hbx
  have HC1 := hide (rhas_any A n c x k.A' k.n' k.c' s.by_ W HL.out hn (HS.out W hB0).b (by omega))
  cases b1 : has x s.by_
  · rw [b1] at HC1
    have HQ := hide (show false = ans by rw [← HA.out]; simp [b1])
    clear b1
    go_wp2_with fail
    refine HC1.out.mono ?_
    rintro e X1 ⟨rfl, hB1⟩
    have HE := hide (HB.out X1 (bstep hB0 hB1))
    clear hB0 hB1
    go_wp2
    go_ret
    exact ⟨ret_bool HQ.out, HE.out⟩
  rw [b1] at HC1
  go_wp2_with fail
  refine HC1.out.mono ?_
  rintro e X1 ⟨rfl, hb1⟩
  have hB1 := bstep hB0 hb1
  have c0 := (HBX.out X1 hB1).c0
  have c1 := (HBX.out X1 hB1).c1
  clear HC1 hb1 
  have HC2 := hide (rhas_any A' n' c' y k.A' k.n' k.c' s.by_ X1 HL'.out hn' (HS.out X1 hB1).b (by omega))
  cases b2 : has y s.by_
  · rw [b2] at HC2
    have HQ := hide (show false = ans by rw [← HA.out]; simp [b2])
    clear b1 b2
    go_wp2_with fail
    refine HC2.out.mono ?_
    rintro e X2 ⟨rfl, hB2⟩
    have HE := hide (HB.out X2 (bstep hB1 hB2))
    clear hB1 hB2
    go_wp2
    go_ret
    exact ⟨ret_bool HQ.out, HE.out⟩
  rw [b2] at HC2
  go_wp2_with fail
  refine HC2.out.mono ?_
  rintro e X2 ⟨rfl, hb2⟩
  have hB2 := bstep hB1 hb2
  have c0 := (HBX.out X2 hB2).c0
  have c1 := (HBX.out X2 hB2).c1
  clear HC2 hb2 hB1
  have HC3 := hide (rhas_any A n c x k.A k.n k.c s.per X2 HL.out hn (HS.out X2 hB2).p (by omega))
  cases b3 : has x s.per
  · rw [b3] at HC3
    have HQ := hide (show false = ans by rw [← HA.out]; simp [b3])
    clear b1 b2 b3
    go_wp2_with fail
    refine HC3.out.mono ?_
    rintro e X3 ⟨rfl, hB3⟩
    have HE := hide (HB.out X3 (bstep hB2 hB3))
    clear hB2 hB3
    go_wp2
    go_ret
    exact ⟨ret_bool HQ.out, HE.out⟩
  rw [b3] at HC3
  go_wp2_with fail
  refine HC3.out.mono ?_
  rintro e X3 ⟨rfl, hb3⟩
  have hB3 := bstep hB2 hb3
  have c0 := (HBX.out X3 hB3).c0
  have c1 := (HBX.out X3 hB3).c1
  clear HC3 hb3 hB2
  have HC4 := hide (rhas_any A' n' c' y k.A k.n k.c s.per X3 HL'.out hn' (HS.out X3 hB3).p (by omega))
  cases b4 : has y s.per
  · rw [b4] at HC4
    have HQ := hide (show false = ans by rw [← HA.out]; simp [b4])
    clear b1 b2 b3 b4
    go_wp2_with fail
    refine HC4.out.mono ?_
    rintro e X4 ⟨rfl, hB4⟩
    have HE := hide (HB.out X4 (bstep hB3 hB4))
    clear hB3 hB4
    go_wp2
    go_ret
    exact ⟨ret_bool HQ.out, HE.out⟩
  rw [b4] at HC4
  go_wp2_with fail
  refine HC4.out.mono ?_
  rintro e X4 ⟨rfl, hb4⟩
  have hB4 := bstep hB3 hb4
  have c0 := (HBX.out X4 hB4).c0
  have c1 := (HBX.out X4 hB4).c1
  clear HC4 hb4 hB3
  have c2 := (HBX.out X4 hB4).c2
  have c3 := (HBX.out X4 hB4).c3
  have hAh := ahead_any k s A n c x A' n' c' y X4 (HS.out X4 hB4) (HX.out X4 hB4) (HY.out X4 hB4) hn hn' b1 b2
  unfold Sk.v at hAh
  obtain ⟨ab, hab⟩ : ∃ ab, aheadB s x y = ab := ⟨_, rfl⟩
  rw [hab] at hAh
  have HAh := hide hAh
  have HQ := hide (show ab = ans by rw [← HA.out, b1, b2, b3, b4, hab]; simp)
  clear hAh hab b1 b2 b3 b4
  go_wp2_with fail
  refine HAh.out.mono ?_
  rintro e X5 ⟨rfl, hb5⟩
  have HE := hide (HB.out X5 (bstep hB4 hb5))
  clear hB4 hb5 HAh
  go_wp2
  go_ret
  exact ⟨ret_bool HQ.out, HE.out⟩
set_option maxRecDepth 100000 in
set_option maxHeartbeats 8000000 in
theorem rankValid_all (k : Sk) (s : Stp) (width : Int) (A : Option Addr) (n c : Nat) (x : Rw) (A' : Option Addr) (n' c' : Nat) (y : Rw) (w : World) (hp : Reads w w.heap.size 1 k.A k.n (s.per.map (Value.int .i64))) (hby : Reads w w.heap.size 1 k.A' k.n' (s.by_.map (Value.int .i64))) (hc : k.n ≤ k.c) (hc' : k.n' ≤ k.c')
    (hx : Reads w w.heap.size 3 A n (x.flatMap encV)) (hn : n ≤ 9223372036854775807) (hy : Reads w w.heap.size 3 A' n' (y.flatMap encV)) (hn' : n' ≤ 9223372036854775807) (ht : Tab w) :
    Calls Tryz.prog 4 #[k.v s, .int .i64 width, .slice A n c, .slice A' n' c'] w (RetV w (.bool true)) := by
  have hB1 := below_val (w := w) #[.slice k.A k.n k.c, .slice k.A' k.n' k.c', .bool s.dn, .int .i64 s.n] 24
  have k1 := Blk.new w 24 #[.slice k.A k.n k.c, .slice k.A' k.n' k.c', .bool s.dn, .int .i64 s.n]
  have hp1 := hp.up hB1
  have hy1 := hby.up hB1
  have hxa := hx.up hB1
  have hya := hy.up hB1
  have ht1 := ht.below hB1
  clear hp hby hx hy ht
  unfold Sk.v
  go_enter Tryz.func4, Tryz.ntmps4
  go_upto_region 1 with fail
  obtain ⟨W0, hW0⟩ : ∃ W0, w.alloc (.cells #[.slice k.A k.n k.c, .slice k.A' k.n' k.c', .bool s.dn, .int .i64 s.n] 24) = W0 := ⟨_, rfl⟩
  obtain ⟨bs, hbs⟩ : ∃ bs, w.heap.size = bs := ⟨_, rfl⟩
  rw [hW0] at hB1 k1 hp1 hy1 hxa hya ht1 ⊢
  rw [hbs] at k1 ⊢
  clear hW0 hbs
  have hbx : BoxS W0 bs k s := ⟨by simpa using k1.cell 0, by simpa using k1.cell 1, by simpa using k1.cell 2, by simpa using k1.cell 3⟩
  have hM := many_any k s none 0 0 [] W0 (BagR.nil _ _)
  unfold Sk.v at hM
  have HM := hide hM
  have c0 := hbx.c0
  have c1 := hbx.c1
  have c2 := hbx.c2
  have c3 := hbx.c3
  clear k1 hM
  go_wp2_with fail
  refine HM.out.mono ?_
  rintro e W1 ⟨b, rfl, hsm, hB2⟩
  have hBw := bstep hB1 hB2
  have ht2 := ht1.below hB2
  have hbx2 := hbx.below hB2
  have hx2 := hxa.up hB2
  have hy2 := hya.up hB2
  cases b
  case true =>
    have HA := hide (awake10_any W1 ht2)
    clear c0 c1 c2 c3 HM
    go_wp2_with fail
    refine HA.out.mono ?_
    rintro e W2 ⟨rfl, hB3⟩
    have HE := hide (bstep hBw hB3)
    clear hBw hB3
    go_wp2
    go_ret
    exact ⟨rfl, HE.out⟩
  obtain ⟨hkn, hkn', _⟩ := hsm rfl
  have hs2 : SetK W1 W1.heap.size k s := ⟨hp1.up hB2, hy1.up hB2, by omega, by omega⟩
  clear c0 c1 c2 c3 HM hsm hB1 hB2 hbx hp1 hy1 ht1 hxa hya
  have hB3 := below_val (w := W1) #[.slice A n c, .slice A' n' c'] 42
  have kr := Blk.new W1 42 #[.slice A n c, .slice A' n' c']
  have hs3 := hs2.up hB3
  have hx3 := hx2.up hB3
  have hy3 := hy2.up hB3
  have ht3 := ht2.below hB3
  have hbx3 := hbx2.below hB3
  have hBw := bstep hBw hB3
  clear hs2 hx2 hy2 ht2 hbx2 hB3
  go_wp2_with fail
  obtain ⟨W2, hW2⟩ : ∃ W2, W1.alloc (.cells #[.slice A n c, .slice A' n' c'] 42) = W2 := ⟨_, rfl⟩
  rw [hW2] at kr hs3 hx3 hy3 ht3 hbx3 hBw ⊢
  clear hW2
  have hrl : RowL W2 W2.heap.size (some ⟨W1.heap.size, 0, none⟩) 2 [⟨A, n, c, x⟩, ⟨A', n', c', y⟩] := ⟨⟨rfl, fun _ => ⟨W1.heap.size, 0, rfl, kr.lt, fun j u hu => by rw [Nat.zero_add, kr.cell]; simpa [encRk] using hu⟩⟩, fun i hi => by
    simp only [List.mem_cons, List.not_mem_nil, or_false] at hi
    rcases hi with rfl | rfl
    · exact RowK.of_reads hx3 (Nat.le_refl _) hn
    · exact RowK.of_reads hy3 (Nat.le_refl _) hn', by omega⟩
  have HLG := hide (LongR_any _ 2 2 _ W2 hrl)
  clear kr hrl
  refine HLG.out.mono ?_
  rintro e W3 ⟨b, rfl, hB4⟩
  have hs4 := hs3.up hB4
  have hx4 := hx3.up hB4
  have hy4 := hy3.up hB4
  have ht4 := ht3.below hB4
  have hbx4 := hbx3.below hB4
  have hBw := bstep hBw hB4
  clear hs3 hx3 hy3 ht3 hbx3 hB4 HLG
  cases b
  case true =>
    have HA := hide (awake10_any W3 ht4)
    go_wp2_with fail
    refine HA.out.mono ?_
    rintro e W4 ⟨rfl, hB3⟩
    have HE := hide (bstep hBw hB3)
    clear hBw hB3
    go_wp2
    go_ret
    exact ⟨rfl, HE.out⟩
  have g0 := fun (p : BW W3) => BW.cell (a := ⟨bs, 0, none⟩) hbx4.lt hbx4.c0 p
  have g1 := fun (p : BW W3) => BW.cell (a := ⟨bs, 1, none⟩) hbx4.lt hbx4.c1 p
  have g2 := fun (p : BW W3) => BW.cell (a := ⟨bs, 2, none⟩) hbx4.lt hbx4.c2 p
  have g3 := fun (p : BW W3) => BW.cell (a := ⟨bs, 3, none⟩) hbx4.lt hbx4.c3 p
  obtain ⟨vb, hvb⟩ : ∃ vb, okS s width = vb := ⟨_, rfl⟩
  obtain ⟨lb, hlb⟩ : ∃ lb, lessB s x y = lb := ⟨_, rfl⟩
  have hC1 := fun (p : BW W3) => calls_bw (p := p) (RkValid_any k s width p.x (hs4.up p.h) hc hc')
  have hC2 := fun (p : BW W3) => calls_bw (p := p) (RefValid_any k s width p.x (hs4.up p.h))
  have hC3 := fun (p : BW W3) => calls_bw (p := p) (Less_any k s A n c x A' n' c' y p.x (hs4.up p.h) (by omega) (by omega) (hx4.up p.h) (hy4.up p.h) hn hn')
  have hC4 := fun (p : BW W3) => calls_bw (p := p) (RLess_any k s A n c x A' n' c' y p.x (hs4.up p.h) (hx4.up p.h) (hy4.up p.h) hn hn')
  have hC5 := fun (p : BW W3) => calls_bw (p := p) (awake10_any p.x (ht4.below p.h))
  unfold Sk.v at hC1 hC2 hC3 hC4
  simp only [hvb] at hC1 hC2
  simp only [hlb] at hC3 hC4
  have HC1 := hide hC1
  have HC2 := hide hC2
  have HC3 := hide hC3
  have HC4 := hide hC4
  have HC5 := hide hC5
  have z1 : (vb == vb) = true := by simp
  have z2 : (lb == lb) = true := by simp
  clear hC1 hC2 hC3 hC4 hC5 hs4 hx4 hy4 ht4 hbx4 hvb hlb
  go_wp2_with fail
  (refine wp_region_quiet_bw (by kernel_rfl) (by kernel_rfl) ?_
   repeat (first | go_big_quiet_step ((first | (go_at_call 19; exact HC1.out _) | (go_at_call 20; exact HC2.out _) | (go_at_call 21; exact HC3.out _) | (go_at_call 22; exact HC4.out _) | (go_at_call 11; exact HC5.out _))) | quiet_step ((first | (go_at_call 19; exact HC1.out _) | (go_at_call 20; exact HC2.out _) | (go_at_call 21; exact HC3.out _) | (go_at_call 22; exact HC4.out _) | (go_at_call 11; exact HC5.out _))))
   refine wpQuiet_nil ?_
   intro wq hw'
   obtain ⟨⟨_, hbq⟩, hw''⟩ := hw'
   subst hw'')
  have HE := hide (bstep hBw hbq)
  clear hBw hbq g0 g1 g2 g3 HC1 HC2 HC3 HC4 HC5
  go_wp2
  go_ret
  exact ⟨rfl, HE.out⟩
end Go.Proofs.YtljglceaibgknaaGreatDoor
