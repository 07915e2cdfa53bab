/-
  The walks of bag.Project and of the reference's Project of a bag.
-/
import Derived.Test.YtiioiajcoiaalaaGreatDoorRsB
namespace Go.Proofs.YtiioiajcoiaalaaGreatDoor
open Go.RowKit
attribute [local go_sem] Oper.semAt_some
set_option linter.unusedVariables false
set_option linter.unusedSimpArgs false

/-- What is known while rows are projected: what lay before, and the worst error so far. -/
def PjZ (W2 : World) (Bw : Nat) (cols : List Int) (l : List It) (k : Nat) (W : World) : Prop :=
  Bar W2.heap.size [Bw] W2 W ∧ Boxed W Bw 28 (.int .i64 (worstF cols (dat (l.take k))))
theorem pjZ_keep {W2 X Y : World} {Bw k : Nat} {cols : List Int} {l : List It} (h : PjZ W2 Bw cols l k X) (hb : Bar W2.heap.size [] X Y) (hw : Bw < W2.heap.size) : PjZ W2 Bw cols l k Y :=
  ⟨h.1.trans (hb.more _), (hb.block _ hw (by simp)).trans h.2⟩
theorem pj_elems {d : Bg} (h : okBag d = true) (cols : List Int) : ∀ x ∈ mk (pjG cols) d, okR x.1 = true ∧ -1000000 ≤ x.2 ∧ x.2 ≤ 1000000 := by
  intro y hy
  obtain ⟨x, hx, rfl⟩ := List.mem_map.1 (List.mem_filter.1 hy).1
  exact ⟨prL_ok ((okBag_asc h).1.ok x hx), (numB_ne ((okBag_asc h).2.1 x hx)).2⟩
theorem mk_len (g : Rw × Int → Rw × Int) (d : Bg) : (mk g d).length ≤ d.length := by
  unfold mk
  exact Nat.le_trans (List.length_filter_le _ _) (by rw [List.length_map]; exact Nat.le_refl _)
set_option maxRecDepth 100000 in
set_option maxHeartbeats 8000000 in
theorem BgProject_any (A : Option Addr) (n c : Nat) (l : List It) (A' : Option Addr) (n' c' : Nat) (cols : List Int) (w : World) (hb : BagR w w.heap.size A n l) (hcr : Reads w w.heap.size 1 A' n' (cols.map (Value.int .i64))) (hn' : n' ≤ 9223372036854775807) (ht : Tab w) :
    Calls Tryz.prog 33 #[.slice A n c, .slice A' n' c'] w (RetC w (pjB (dat l) cols)) := by
  obtain ⟨p, hp⟩ : ∃ p, pjB (dat l) cols = p := ⟨_, rfl⟩
  rw [hp]
  have HP := hide hp
  clear hp
  have HLC := hide hcr.len1
  have hB0 := below_val (w := w) #[.slice A' n' c'] 38
  have c0 := Boxed.new w 38 (.slice A' n' c')
  go_enter Tryz.func33, Tryz.ntmps33
  go_wp2_with fail
  obtain ⟨W0, hW0⟩ : ∃ W0, w.alloc (.cells #[.slice A' n' c'] 38) = W0 := ⟨_, rfl⟩
  rw [hW0] at hB0 c0 ⊢
  clear hW0
  refine (BagValid_any A n c _ l W0 (hb.below hB0)).mono ?_
  rintro e W1 ⟨rfl, hB1⟩
  have hB01 := bstep hB0 hB1
  have c1 : Boxed W1 w.heap.size 38 (.slice A' n' c') := (hB1.block _ c0.lt).trans c0
  cases oa : okBag (dat l)
  · have HQ := hide (show p = ([], 1) by rw [← HP.out]; unfold pjB; rw [oa]; rfl)
    clear oa hB0 hB1 c0 c1
    go_wp2
    go_ret2
    rw [HQ.out]
    exact ⟨none, 0, 0, [], rfl, rfl, BagR.nil _ _, Nat.le_refl _, hB01⟩
  have OA := hide oa
  have k1 := c1.cell
  clear oa hB0 hB1 c0
  have HC := hide (con_c8 A' n' c' _ cols W1 (hcr.up hB01) hn')
  cases hc8 : cols.any (fun c => !btw c 0 7)
  case true =>
    have HQ := hide (show p = ([], 7) by rw [← HP.out]; unfold pjB; rw [OA.out, hc8]; rfl)
    rw [hc8] at HC
    clear hc8
    go_wp2_with fail
    refine HC.out.mono ?_
    rintro e W1' ⟨rfl, rfl⟩
    clear HC k1 c1
    go_wp2
    go_ret2
    rw [HQ.out]
    exact ⟨none, 0, 0, [], rfl, rfl, BagR.nil _ _, Nat.le_refl _, hB01⟩
  rw [hc8] at HC
  have HC8 := hide hc8
  clear hc8
  go_wp2_with fail
  refine HC.out.mono ?_
  rintro e W1' ⟨rfl, rfl⟩
  clear HC k1
  obtain ⟨Bw, hBw⟩ : ∃ Bw, W1.heap.size = Bw := ⟨_, rfl⟩
  have e1 := Boxed.new W1 28 (.int .i64 0)
  have c2 := c1.alloc (.cells #[.int .i64 0] 28)
  have hB2 := below_val (w := W1) #[.int .i64 0] 28
  have hB02 := bstep hB01 hB2
  have hlc := c1.lt
  have hwB := hB01.size
  clear c1 hB01
  go_wp2_with fail
  obtain ⟨W2, hW2⟩ : ∃ W2, W1.alloc (.cells #[.int .i64 0] 28) = W2 := ⟨_, rfl⟩
  rw [hW2] at e1 c2 hB2 hB02 ⊢
  rw [hBw] at e1 hlc hwB
  clear hW2
  refine (made_any A n c 87 #[.pointer (some ⟨w.heap.size, 0, none⟩), .pointer (some ⟨Bw, 0, none⟩)] W2).mono ?_
  rintro e W3 ⟨rfl, hW3⟩
  have m1 := (Boxed.new W2 22 (.slice A n c)).alloc (.cells #[.func (Fn.func 87) #[] #[.pointer (some ⟨w.heap.size, 0, none⟩), .pointer (some ⟨Bw, 0, none⟩)]] 83)
  have m2 := Boxed.new (W2.alloc (.cells #[.slice A n c] 22)) 83 (.func (Fn.func 87) #[] #[.pointer (some ⟨w.heap.size, 0, none⟩), .pointer (some ⟨Bw, 0, none⟩)])
  rw [World.size_alloc] at m2
  have hB23 : Below W2.heap.size W2 ((W2.alloc (.cells #[.slice A n c] 22)).alloc (.cells #[.func (Fn.func 87) #[] #[.pointer (some ⟨w.heap.size, 0, none⟩), .pointer (some ⟨Bw, 0, none⟩)]] 83)) := ((Below.refl _ _).alloc (Nat.le_refl _) _).alloc (by simp) _
  rw [← hW3] at m1 m2 hB23
  have hB03 := bstep hB02 hB23
  have e3 : Boxed W3 Bw 28 (.int .i64 0) := (hB23.block _ e1.lt).trans e1
  have c3 : Boxed W3 w.heap.size 38 (.slice A' n' c') := (hB23.block _ c2.lt).trans c2
  have hlw := e1.lt
  have hl2 := hB23.size
  clear hW3 hB23 e1 c2 hB2
  have low : ∀ {W : World} {v : Value}, Boxed W Bw 28 v → ∀ i ∈ [Bw], w.heap.size ≤ i ∧ ∀ c fz, W.heap[i]? ≠ some (.cells c 64 fz) := fun {W v} hv i hi => by
    obtain rfl : i = Bw := by simpa using hi
    refine ⟨hwB, fun c fz e => ?_⟩
    rw [show W.heap[i]? = _ from hv] at e
    injection e with e
    injection e with _ e
    exact absurd e (by decide)
  have hbel : ∀ {W : World}, Bar W3.heap.size [Bw] W3 W → Below w.heap.size w W := fun {W} h => hB03.trans (h.below hB03.size (by simp; exact hwB))
  have hbx : ∀ {W : World} {b : Nat} {t : TypeId} {v : Value}, Bar W3.heap.size [Bw] W3 W → Boxed W3 b t v → b ≠ Bw → Boxed W b t v := fun {W b t v} h hv hne => (h.block b hv.lt (by simpa using hne)).trans hv
  have HG := hide (gathered_inF 115 #[.pointer (some ⟨W2.heap.size, 0, none⟩), .pointer (some ⟨W2.heap.size + 1, 0, none⟩)] (mk (pjG cols) (dat l)) w.heap.size [Bw] W3 (fun W hW => ht.below (hbel hW)) (enters_of Tryz.func115 (by kernel_rfl) rfl)
    (PjZ W3 Bw cols l n)
    (fun _ X Y row h hg hr => ⟨h.1.grown hg h.1.size (fun k e => .inl (hr k e).1), blk_own h.2 hg (fun k e => (hr k e).2)⟩)
    (fun X Y hXY h => pjZ_keep h hXY (by omega))
    (fun W hW hs => made1_iterF 7 (by omega) W2.heap.size (W2.heap.size + 1) A n c l 87 #[.pointer (some ⟨w.heap.size, 0, none⟩), .pointer (some ⟨Bw, 0, none⟩)] (pjG cols) W w.heap.size (W3.heap.size + 5) [Bw] (KeepT W3.heap.size (W3.heap.size + 5)) (PjZ W3 Bw cols l)
      (fun k V hV => ⟨hbx hV.1 m1 (by omega), hbx hV.1 m2 (by omega), hb.below (hbel hV.1), low hV.2⟩)
      (fun k X Y hX hk => pjZ_keep hX hk.bar (by omega))
      (fun k X o hX => ⟨hX.1.alloc hX.1.size o, hX.2.alloc o⟩)
      ⟨Bar.of_below hW [Bw], (hW.block _ e3.lt).trans e3⟩
      (enters_of Tryz.func87 (by kernel_rfl) rfl)
      (fun k x V hxk hV hr => (pj2_any x w.heap.size Bw A' n' c' cols _ w.heap.size V hr (hbx hV.1 c3 (by omega)) ((hcr.below (hbel hV.1)).more (hbel hV.1).size) hn' hV.2 (by omega) hwB).mono fun e V' ⟨⟨A1, n1, c1, h1, h2⟩, h3, h4⟩ =>
        ⟨⟨A1, n1, c1, h1, h2⟩, ⟨hV.1.trans (h4.mono hV.1.size), by rw [take_snoc' hxk, dat_snoc, worst_snoc]; exact h3⟩, WrB.of_bar h4 (low hV.2)⟩))
    (pj_elems OA.out cols) (by have := mk_len (pjG cols) (dat l); have := (okBag_asc OA.out).2.2; omega) (by have := hB03.size; omega) (by simp; omega))
  have HW := hide (show worstF cols (dat (l.take n)) = worstF cols (dat l) by rw [take_all hb.len])
  have hsp := worst_spec (fun x hx => (okBag_asc OA.out).1.ok x hx) cols
  have h3s : w.heap.size ≤ W3.heap.size := hB03.size
  clear m1 m2 e3 low hb hcr ht
  go_wp2_with fail
  refine (callsIn_wide.1 HG.out).mono ?_
  rintro e W4 ⟨⟨A4, n4, c4, l4, rfl, hnet, hbag, hcap, _, hbar⟩, hz1, hz2⟩
  have hB04 := hbel hbar
  have c4' := hbx hbar c3 (by omega)
  rw [HW.out] at hz2
  have hsz := hbar.size
  have kw := hz2.cell
  have kc := c4'.cell
  clear HG hbel hbx hbar c3 c4' hz1 hz2 HW
  by_cases hbad : ((dat l).any fun x => !okC x.1.length cols) = true
  · rw [if_pos hbad] at hsp
    rw [hsp] at kw
    have HQ := hide (show p = ([], 7) by rw [← HP.out]; unfold pjB; rw [OA.out, HC8.out, hbad]; rfl)
    clear hbad hsp hnet hbag
    go_wp2_with fail
    go_quiet (fail)
    have HE := hide (below_drewN hB04 nq)
    clear hB04 kw kc
    go_wp2
    go_ret2
    rw [HQ.out]
    exact ⟨none, 0, 0, [], rfl, rfl, BagR.nil _ _, Nat.le_refl _, HE.out⟩
  have HB := hide (show ((dat l).any fun x => !okC x.1.length cols) = false by simpa using hbad)
  rw [if_neg hbad] at hsp
  clear hbad
  by_cases h8 : n' ≤ 8
  · have q8 : ¬ (8 : Int) < (n' : Int) := by omega
    have hl8 : cols.length ≤ 8 := by rw [HLC.out]; exact h8
    rw [if_neg (by omega)] at hsp
    rw [hsp] at kw
    have HQ := hide (show p = toldB (aftB [] (pjX (dat l) cols)) by rw [← HP.out]; unfold pjB; rw [OA.out, HC8.out, HB.out]; simp only [Bool.or_self, if_true]; rw [if_neg (by decide), if_pos hl8])
    rw [pj_mk OA.out HB.out hl8] at hnet
    have HD4 := hide (show dat l4 = aftB [] (pjX (dat l) cols) from hnet.same (aft0_all fun y hy => by
      obtain ⟨x, hx, rfl⟩ := List.mem_map.1 hy
      exact pick_ok ((okBag_asc OA.out).1.ok x hx) hl8) fun _ => rfl)
    clear hsp hnet h8 hl8
    go_wp2_with fail
    refine (put_any A4 n4 c4 w.heap.size l4 W4 hbag (by omega) hcap).mono ?_
    intro e W5 h
    rw [HD4.out] at h
    obtain ⟨A5, n5, c5, l5, rfl, r2, r3, r4, r5⟩ := told_ret' hB04 h
    have HE := hide r5
    clear r5 h hB04 kw kc
    go_wp2
    go_ret2
    rw [HQ.out]
    exact ⟨A5, n5, c5, l5, rfl, r2, r3, r4, HE.out⟩
  · have q8 : (8 : Int) < (n' : Int) := by omega
    have hl8 : ¬ cols.length ≤ 8 := by rw [HLC.out]; exact h8
    have HQ := hide (show p = ([], 4) by rw [← HP.out]; unfold pjB; rw [OA.out, HC8.out, HB.out]; simp only [Bool.or_self, if_true]; rw [if_neg (by decide), if_neg hl8])
    by_cases hd : dat l = []
    · rw [if_neg (fun h => h.2 hd)] at hsp
      rw [hsp] at kw
      clear hsp hnet h8 hl8 hd hbag
      go_wp2_with fail
      have HE := hide hB04
      clear hB04 kw kc
      go_ret2
      rw [HQ.out]
      exact ⟨none, 0, 0, [], rfl, rfl, BagR.nil _ _, Nat.le_refl _, HE.out⟩
    · rw [if_pos ⟨by omega, hd⟩] at hsp
      rw [hsp] at kw
      clear hsp hnet h8 hl8 hd hbag
      go_wp2_with fail
      go_quiet (fail)
      have HE := hide (below_drewN hB04 nq)
      clear hB04 kw kc
      go_wp2
      go_ret2
      rw [HQ.out]
      exact ⟨none, 0, 0, [], rfl, rfl, BagR.nil _ _, Nat.le_refl _, HE.out⟩
end Go.Proofs.YtiioiajcoiaalaaGreatDoor
