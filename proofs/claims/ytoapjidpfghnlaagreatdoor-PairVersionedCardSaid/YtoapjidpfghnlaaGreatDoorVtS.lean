/-
  The walks of the program's Left and Right of a versioner. No condition.
  The walks of the reference's Left and Right of a versioner. No condition.
  The walk of the program's Mark of a versioner. No condition.
  The walk of the reference's Mark of a versioner. No condition.
-/
import Derived.Test.YtoapjidpfghnlaaGreatDoorVtE
import Derived.Test.YtoapjidpfghnlaaGreatDoorPvP
import Derived.Test.YtoapjidpfghnlaaGreatDoorPvT
namespace Go.Proofs.YtoapjidpfghnlaaGreatDoor

section
open Go.RowKit
attribute [local go_sem] Oper.semAt_some wide_fn wide_depth
set_option linter.unusedVariables false
set_option linter.unusedSimpArgs false

/-- What lies in memory when an event was appended to one of the lists, and that list stored. -/
theorem vo_push {X X4 : World} {t : TypeId} {b B j : Nat} {cs : Array Value} {vL v' : Value} {l : List Ev} {e' : Ev} {o : Obj} (hv : Blk X b t cs) (ht : t ≠ 36) (ht2 : t ≠ 102) (hBb : B ≤ b) (hB : B ≤ X.heap.size) (hl : OE X B vL l) (hrow : RowK X B e'.A e'.n e'.r)
    (hown : X4.ownsRow B 36 2 v' (l.length + 1) (l.flatMap encEv ++ encEv e')) (hg : (X.alloc o).grownBy X4 vL.ownBlock) (hvo : v'.ownBlock = vL.ownBlock ∨ v'.ownBlock = some (X.alloc o).heap.size) :
    Blk X4 b t cs ∧ OE (X4.setCell ⟨b, j, none⟩ v') B v' (l ++ [e']) ∧ Bar X.heap.size (b :: obl vL) X (X4.setCell ⟨b, j, none⟩ v') ∧ (v'.ownBlock = vL.ownBlock ∨ ∀ g, v'.ownBlock = some g → X.heap.size ≤ g) ∧ Blk (X4.setCell ⟨b, j, none⟩ v') b t (cs.setIfInBounds j v') := by
  have hne : some b ≠ vL.ownBlock := fun e => own_not hl.own (fun h => ht h.symm) b (by unfold obl; rw [← e]; simp) |>.2 _ _ hv
  have hx4 : Blk X4 b t cs := (hv.alloc o).grown hg hne
  have hb4 : Bar X4.heap.size [b] X4 (X4.setCell ⟨b, j, none⟩ v') := (Bar.refl _ _ X4).setCell (p := ⟨b, j, none⟩) (.inr (by simp)) v'
  have hx5 := hx4.set_ j v'
  refine ⟨hx4, ⟨?_, ?_⟩, ?_, ?_, hx5⟩
  · rw [List.length_append, List.flatMap_append]
    have e1 : [e'].flatMap encEv = encEv e' := by simp
    rw [e1]
    refine own_bar hown hb4 fun g hg' hm => ?_
    obtain rfl : g = b := by simpa using hm
    exact own_not hown (fun h => ht h.symm) g (by unfold obl; rw [hg']; simp) |>.2 _ _ hx4
  · intro i hi
    have key : RowK X4 B i.A i.n i.r := by
      rcases List.mem_append.1 hi with hi | hi
      · exact ((hl.rows i hi).alloc o).grown (hl.own.alloc o) (by decide) (Nat.le_refl _) hg
      · obtain rfl : i = e' := by simpa using hi
        exact (hrow.alloc o).grown (hl.own.alloc o) (by decide) (Nat.le_refl _) hg
    exact key.setCell (p := ⟨b, j, none⟩) hx4 ht2 hBb v'
  · refine (((Bar.refl _ _ X).alloc (Nat.le_refl _) o).grown hg (by simp) fun k e => .inr ?_).setCell (p := ⟨b, j, none⟩) (.inr (by simp)) v'
    unfold obl
    rw [e]
    simp
  · rcases hvo with h | h
    · exact .inl h
    · refine .inr fun g hg' => ?_
      rw [h] at hg'
      injection hg' with hg'
      rw [World.size_alloc] at hg'
      omega
/-- What a call that tells an event leaves behind. -/
def RetVt (t : TypeId) (b : Nat) (k : KV) (B : Nat) (vL vR : Value) (mk : Int) (lx rx : List Ev) (left : Bool) (E : Int) (x : Te) (w : World) (e : Ending) (w' : World) : Prop := e = .returned (.int .i64 E) ∧
  if E = 0 then (∃ v' e', VO w' t b k (if left then v' else vL) (if left then vR else v') mk ∧ OE w' B v' ((if left then lx else rx) ++ [e']) ∧ (e'.t, e'.r) = x ∧ e'.n ≤ e'.c ∧ (v'.ownBlock = (if left then vL else vR).ownBlock ∨ ∀ g, v'.ownBlock = some g → w.heap.size ≤ g) ∧ Bar w.heap.size (b :: obl (if left then vL else vR)) w w')
  else Below w.heap.size w w'
theorem RetVt.bad {t : TypeId} {b : Nat} {k : KV} {B : Nat} {vL vR : Value} {mk : Int} {lx rx : List Ev} {left : Bool} {E E' : Int} {x : Te} {w w' : World} (h : E = E') (h0 : E' ≠ 0) (hb : Below w.heap.size w w') : RetVt t b k B vL vR mk lx rx left E x w (.returned (.int .i64 E')) w' := by
  subst h
  exact ⟨rfl, by rw [if_neg h0]; exact hb⟩

theorem VLeft_nil (x : Ev) (w : World) : Calls Tryz.prog 30 #[.pointer none, .agg #[.int .i64 x.t, .slice x.A x.n x.c]] w (fun e w' => e = .returned (.int .i64 1) ∧ Below w.heap.size w w') := by
  have hB := below_val (w := w) #[.int .i64 x.t, .slice x.A x.n x.c] 36
  go_enter Tryz.func30, Tryz.ntmps30
  go_wp2
  go_ret
  exact ⟨rfl, hB⟩
set_option maxRecDepth 100000 in
set_option maxHeartbeats 8000000 in
theorem VLeft_any (k : KV) (b : Nat) (vL vR : Value) (mk : Int) (lx rx : List Ev) (B : Nat) (x : Ev) (w : World) (hv : VO w 130 b k vL vR mk) (hBb : B ≤ b) (hL : OE w B vL lx) (hR : OE w B vR rx) (hx : RowK w w.heap.size x.A x.n x.r) (hk : k.n ≤ 1000) (hw : k.wd ≤ 8) (hon : k.on.length = k.n) :
    Calls Tryz.prog 30 #[.pointer (some ⟨b, 0, none⟩), .agg #[.int .i64 x.t, .slice x.A x.n x.c]] w (RetVt 130 b k B vL vR mk lx rx true (lftE k.on k.wd mk lx.length (x.t, x.r)) (x.t, x.r) w) := by
  obtain ⟨i0, hi0, hz0, hz1, hz2⟩ := info_parts3 infoEv
  obtain ⟨k1, k2, k3, on, k5, k6, k7, ot, wd⟩ := k
  obtain ⟨E, hE⟩ : ∃ E, lftE on wd mk lx.length (x.t, x.r) = E := ⟨_, rfl⟩
  rw [show lftE on wd mk lx.length (x.t, x.r) = E from hE]
  have HE := hide hE
  obtain ⟨AL, cL, hvL, _⟩ := own_form hL.own
  obtain ⟨AR, cR, hvR, _⟩ := own_form hR.own
  subst hvL hvR
  have hbw : b < w.heap.size := hv.blk.lt
  have hsz := hx.len
  have hxle := hx.le
  have hln := (hL.evR (by omega)).1.le
  have hrn := (hR.evR (by omega)).1.le
  have hBw : B ≤ w.heap.size := by omega
  have hBa := below_val (w := w) #[.int .i64 x.t, .slice x.A x.n x.c] 36
  have kx := Blk.new w 36 #[.int .i64 x.t, .slice x.A x.n x.c]
  have hv1 := hv.below hBa
  have hL1 := hL.below hBa
  have hR1 := hR.below hBa
  have hx1 := (hx.below hBa).mono hBa.size
  have HXB9 := hide (show ∀ g, (Value.slice AL lx.length cL).ownBlock = some g → g ≠ w.heap.size from fun g hg e => by have := (hL.own.lt g hg).2; omega)
  clear hv hL hR hx hE
  obtain ⟨xb, hxb⟩ : ∃ xb, w.heap.size = xb := ⟨_, rfl⟩
  rw [hxb] at kx HXB9
  obtain ⟨nl, hnl⟩ : ∃ nl, lx.length = nl := ⟨_, rfl⟩
  obtain ⟨nr, hnr⟩ : ∃ nr, rx.length = nr := ⟨_, rfl⟩
  rw [hnl] at hv1 hL1 hln HE HXB9 ⊢
  rw [hnr] at hv1 hR1 hrn ⊢
  have HNL := hide hnl
  have HNR := hide hnr
  clear hnl hnr
  go_enter Tryz.func30, Tryz.ntmps30
  go_wp2_with fail
  try rw [hxb]
  obtain ⟨W1, hW1⟩ : ∃ W1, w.alloc (.cells #[.int .i64 x.t, .slice x.A x.n x.c] 36) = W1 := ⟨_, rfl⟩
  rw [hW1] at hBa kx hv1 hL1 hR1 hx1 ⊢
  clear hW1
  obtain ⟨q1, hq1⟩ : ∃ q, okE (x.t, x.r) = q := ⟨_, rfl⟩
  refine (event_any x.t x.A x.n x.c x.r W1 hx1).mono ?_
  rintro e W2 ⟨rfl, hb⟩
  have hB2 := bstep hBa hb
  have kx2 := kx.below hb kx.lt
  have hv2 := hv1.below hb
  have hL2 := hL1.below hb
  have hR2 := hR1.below hb
  have hx2 := (hx1.below hb).mono hb.size
  clear hb hBa kx hv1 hL1 hR1 hx1
  rw [hq1]
  have HQ1 := hide hq1
  clear hq1
  cases q1
  · have HEE := hide (show E = 1 from by rw [← HE.out]; unfold lftE; rw [HQ1.out]; rfl)
    have HB := hide hB2
    clear kx2 hv2 hL2 hR2 hx2 hB2
    go_wp2
    go_ret
    exact RetVt.bad HEE.out (by decide) HB.out
  have hx8 : x.n ≤ 8 := by have := okR_eight (okE_row HQ1.out); have h2 : x.r.length = x.n := hsz; rw [← h2]; exact this
  have c0 : W2.cell? ⟨b, 0, none⟩ = some (.slice k1 k2 k3) := by simpa using hv2.blk.cell 0
  have c2 : W2.cell? ⟨b, 2, none⟩ = some (.int .i64 (wd : Int)) := by simpa using hv2.blk.cell 2
  have c3 : W2.cell? ⟨b, 3, none⟩ = some (.slice AL nl cL) := by simpa using hv2.blk.cell 3
  have c4 : W2.cell? ⟨b, 4, none⟩ = some (.slice AR nr cR) := by simpa using hv2.blk.cell 4
  have c5 : W2.cell? ⟨b, 5, none⟩ = some (.int .i64 mk) := by simpa using hv2.blk.cell 5
  have x0 : W2.cell? ⟨xb, 0, none⟩ = some (.int .i64 x.t) := by simpa using kx2.cell 0
  have x1 : W2.cell? ⟨xb, 1, none⟩ = some (.slice x.A x.n x.c) := by simpa using kx2.cell 1
  have hbl := hv2.blk.lt
  have hxl := kx2.lt
  have p0 := fun (p : BW W2) => BW.cell (a := ⟨b, 0, none⟩) hbl c0 p
  have p2 := fun (p : BW W2) => BW.cell (a := ⟨b, 2, none⟩) hbl c2 p
  have px0 := fun (p : BW W2) => BW.cell (a := ⟨xb, 0, none⟩) hxl x0 p
  have px1 := fun (p : BW W2) => BW.cell (a := ⟨xb, 1, none⟩) hxl x1 p
  clear x0 x1 c0 c2
  obtain ⟨q2, hq2⟩ : ∃ q, hasC x.r on = q := ⟨_, rfl⟩
  have C1 := hide (fun (p : BW W2) => calls_bw (p := p) (has_pair k1 k2 k3 on x.A x.n x.c x.r p.x (hv2.on.rd.up p.h) (by show k2 ≤ _; have h9 : k2 ≤ 1000 := hk; omega) hsz (by omega)))
  rw [hq2] at C1
  have HQ2 := hide hq2
  clear hq2
  go_wp2_with fail
  (refine wp_region_quiet_bw (by kernel_rfl) (by kernel_rfl) ?_
   repeat (first | go_big_quiet_step (((go_at_call 82; with_reducible exact C1.out _))) | quiet_step (((go_at_call 82; with_reducible exact C1.out _))))
   refine wpQuiet_nil ?_
   intro wq hw'
   obtain ⟨⟨_, hbq⟩, hw''⟩ := hw'
   subst hw'')
  clear C1
  have hB3 := bstep hB2 hbq
  have kx3 := kx2.below hbq kx2.lt
  have hv3 := hv2.below hbq
  have hL3 := hL2.below hbq
  have hR3 := hR2.below hbq
  have hx3 := (hx2.below hbq).mono hbq.size
  clear hbq p0 p2 px0 px1 hB2 kx2 hv2 hL2 hR2 hx2 hbl hxl c3 c4 c5
  obtain ⟨W3, hW3⟩ : ∃ W3 : World, W3 = wq := ⟨_, rfl⟩
  subst hW3
  cases q2
  · have HEE := hide (show E = 7 from by rw [← HE.out]; unfold lftE; rw [HQ1.out, if_pos rfl]; exact if_neg (fun h => by have h2 := HQ2.out; simp_all))
    have HB := hide hB3
    clear kx3 hv3 hL3 hR3 hx3 hB3
    go_wp2
    go_ret
    exact RetVt.bad HEE.out (by decide) HB.out
  have c0 : W3.cell? ⟨b, 0, none⟩ = some (.slice k1 k2 k3) := by simpa using hv3.blk.cell 0
  have c2 : W3.cell? ⟨b, 2, none⟩ = some (.int .i64 (wd : Int)) := by simpa using hv3.blk.cell 2
  have c3 : W3.cell? ⟨b, 3, none⟩ = some (.slice AL nl cL) := by simpa using hv3.blk.cell 3
  have c4 : W3.cell? ⟨b, 4, none⟩ = some (.slice AR nr cR) := by simpa using hv3.blk.cell 4
  have c5 : W3.cell? ⟨b, 5, none⟩ = some (.int .i64 mk) := by simpa using hv3.blk.cell 5
  have x0 : W3.cell? ⟨xb, 0, none⟩ = some (.int .i64 x.t) := by simpa using kx3.cell 0
  have x1 : W3.cell? ⟨xb, 1, none⟩ = some (.slice x.A x.n x.c) := by simpa using kx3.cell 1
  have hbl := hv3.blk.lt
  have hxl := kx3.lt
  have p2 := fun (p : BW W3) => BW.cell (a := ⟨b, 2, none⟩) hbl c2 p
  have p3 := fun (p : BW W3) => BW.cell (a := ⟨b, 3, none⟩) hbl c3 p
  have p5 := fun (p : BW W3) => BW.cell (a := ⟨b, 5, none⟩) hbl c5 p
  have px0 := fun (p : BW W3) => BW.cell (a := ⟨xb, 0, none⟩) hxl x0 p
  have px1 := fun (p : BW W3) => BW.cell (a := ⟨xb, 1, none⟩) hxl x1 p
  obtain ⟨q3, hq3⟩ : ∃ q, decide (x.t < mk) = q := ⟨_, rfl⟩
  have HQ3 := hide hq3
  clear c0 c2 c3 c4 c5 x0 x1
  go_wp2_with fail
  (refine wp_region_quiet_bw (by kernel_rfl) (by kernel_rfl) ?_
   repeat (first | go_big_quiet_step ((fail)) | quiet_step ((fail)))
   refine wpQuiet_nil ?_
   intro wq hw'
   obtain ⟨⟨_, hbq⟩, hw''⟩ := hw'
   subst hw'')
  have hB4 := bstep hB3 hbq
  have kx4 := kx3.below hbq kx3.lt
  have hv4 := hv3.below hbq
  have hL4 := hL3.below hbq
  have hR4 := hR3.below hbq
  have hx4 := (hx3.below hbq).mono hbq.size
  clear hbq p2 p3 p5 px0 px1 hB3 kx3 hv3 hL3 hR3 hx3 hbl hxl hq3
  obtain ⟨W4, hW4⟩ : ∃ W4 : World, W4 = wq := ⟨_, rfl⟩
  subst hW4
  cases q3
  case true =>
    have HEE := hide (show E = 12 from by rw [← HE.out]; unfold lftE; rw [HQ1.out, if_pos rfl, if_pos (by first | exact HQ2.out | exact of_decide_eq_true HQ2.out)]; exact if_pos (of_decide_eq_true HQ3.out))
    have HB := hide hB4
    clear kx4 hv4 hL4 hR4 hx4 hB4
    go_wp2
    go_ret
    exact RetVt.bad HEE.out (by decide) HB.out
  have c2 : W4.cell? ⟨b, 2, none⟩ = some (.int .i64 (wd : Int)) := by simpa using hv4.blk.cell 2
  have c3 : W4.cell? ⟨b, 3, none⟩ = some (.slice AL nl cL) := by simpa using hv4.blk.cell 3
  have c4 : W4.cell? ⟨b, 4, none⟩ = some (.slice AR nr cR) := by simpa using hv4.blk.cell 4
  have x0 : W4.cell? ⟨xb, 0, none⟩ = some (.int .i64 x.t) := by simpa using kx4.cell 0
  have x1 : W4.cell? ⟨xb, 1, none⟩ = some (.slice x.A x.n x.c) := by simpa using kx4.cell 1
  have hbl := hv4.blk.lt
  have hxl := kx4.lt
  have p2 := fun (p : BW W4) => BW.cell (a := ⟨b, 2, none⟩) hbl c2 p
  have p3 := fun (p : BW W4) => BW.cell (a := ⟨b, 3, none⟩) hbl c3 p
  have px1 := fun (p : BW W4) => BW.cell (a := ⟨xb, 1, none⟩) hxl x1 p
  have hw8 : wd ≤ 8 := hw
  have w1 : IntKind.i64.wrap ((x.n : Int) + (wd : Int)) = (x.n : Int) + (wd : Int) := by rw [IntKind.wrap_i64]; omega
  by_cases h8 : 8 < x.n + wd
  · have d8 : decide ((8 : Int) < (x.n : Int) + (wd : Int)) = true := decide_eq_true (by omega)
    have d9 : decide (8 < x.n + wd) = true := decide_eq_true h8
    have HEE := hide (show E = 4 from by
      rw [← HE.out]; unfold lftE; rw [HQ1.out, if_pos rfl, if_pos HQ2.out, if_neg (of_decide_eq_false HQ3.out)]
      have h3 : x.r.length = x.n := hsz
      rw [show decide (8 < x.r.length + wd) = true from by rw [h3]; exact d9, Bool.true_or, if_pos rfl])
    clear c2 c3 c4 x0 x1 h8
    go_wp2_with fail
    (refine wp_region_quiet_bw (by kernel_rfl) (by kernel_rfl) ?_
     repeat (first | go_big_quiet_step ((fail)) | quiet_step ((fail)))
     refine wpQuiet_nil ?_
     intro wq hw'
     obtain ⟨⟨_, hbq⟩, hw''⟩ := hw'
     subst hw'')
    have HB := hide (bstep hB4 hbq)
    clear kx4 hv4 hL4 hR4 hx4 hB4 hbq p2 p3 px1
    go_wp2
    go_ret
    exact RetVt.bad HEE.out (by decide) HB.out
  have d8 : decide ((8 : Int) < (x.n : Int) + (wd : Int)) = false := decide_eq_false (by omega)
  have d9 : decide (8 < x.n + wd) = false := decide_eq_false h8
  by_cases h4 : 400 ≤ nl
  · have e4 : decide ((400 : Int) ≤ (nl : Int)) = true := decide_eq_true (by omega)
    have e5 : decide (400 ≤ nl) = true := decide_eq_true h4
    have HEE := hide (show E = 4 from by
      rw [← HE.out]; unfold lftE; rw [HQ1.out, if_pos rfl, if_pos HQ2.out, if_neg (of_decide_eq_false HQ3.out), e5, Bool.or_true, if_pos rfl])
    clear c2 c3 c4 x0 x1 h8 h4
    go_wp2_with fail
    (refine wp_region_quiet_bw (by kernel_rfl) (by kernel_rfl) ?_
     repeat (first | go_big_quiet_step ((fail)) | quiet_step ((fail)))
     refine wpQuiet_nil ?_
     intro wq hw'
     obtain ⟨⟨_, hbq⟩, hw''⟩ := hw'
     subst hw'')
    have HB := hide (bstep hB4 hbq)
    clear kx4 hv4 hL4 hR4 hx4 hB4 hbq p2 p3 px1
    go_wp2
    go_ret
    exact RetVt.bad HEE.out (by decide) HB.out
  have e4 : decide ((400 : Int) ≤ (nl : Int)) = false := decide_eq_false (by omega)
  have e5 : decide (400 ≤ nl) = false := decide_eq_false h4
  have HEE := hide (show E = 0 from by
    rw [← HE.out]; unfold lftE; rw [HQ1.out, if_pos rfl, if_pos HQ2.out, if_neg (of_decide_eq_false HQ3.out)]
    have h3 : x.r.length = x.n := hsz
    rw [show decide (8 < x.r.length + wd) = false from by rw [h3]; exact d9, e5]
    rfl)
  clear c2 c3 c4 x0 x1 h8
  go_wp2_with fail
  (refine wp_region_quiet_bw (by kernel_rfl) (by kernel_rfl) ?_
   repeat (first | go_big_quiet_step ((fail)) | quiet_step ((fail)))
   refine wpQuiet_nil ?_
   intro wq hw'
   obtain ⟨⟨_, hbq⟩, hw''⟩ := hw'
   subst hw'')
  have hB5 := bstep hB4 hbq
  have kx5 := kx4.below hbq kx4.lt
  have hv5 := hv4.below hbq
  have hL5 := hL4.below hbq
  have hR5 := hR4.below hbq
  have hx5 := (hx4.below hbq).mono hbq.size
  clear hbq p2 p3 px1 hB4 kx4 hv4 hL4 hR4 hx4 hbl hxl w1
  obtain ⟨W5, hW5⟩ : ∃ W5 : World, W5 = wq := ⟨_, rfl⟩
  subst hW5
  go_upto_region 9 with fail
  refine Held.begin (fun z => z.cell? ⟨b, 3, none⟩ = some (.slice AL nl cL) ∧ z.cell? ⟨xb, 0, none⟩ = some (.int .i64 x.t) ∧ z.cell? ⟨xb, 1, none⟩ = some (.slice x.A x.n x.c)) 15 (by kernel_rfl) ?_
  obtain ⟨X1, hX1⟩ : ∃ X1, W5.drew = X1 := ⟨_, rfl⟩
  have hD : Below W5.heap.size W5 X1 := by rw [← hX1]; exact (Below.refl _ _).drew
  rw [hX1]
  have hB6 := bstep hB5 hD
  have kx6 := kx5.below hD kx5.lt
  have hv6 := hv5.below hD
  have hL6 := hL5.below hD
  have hx6 := (hx5.below hD).mono hD.size
  have hS : X1.cell? ⟨b, 3, none⟩ = some (.slice AL nl cL) ∧ X1.cell? ⟨xb, 0, none⟩ = some (.int .i64 x.t) ∧ X1.cell? ⟨xb, 1, none⟩ = some (.slice x.A x.n x.c) := ⟨by simpa using hv6.blk.cell 3, by simpa using kx6.cell 0, by simpa using kx6.cell 1⟩
  clear hX1 hD hB5 kx5 hv5 hL5 hR5 hx5
  refine Held.take (i := 0) (.pointer (some ⟨b, 0, none⟩)) rfl hS (by kernel_rfl) (by kernel_rfl) (by kernel_rfl) (by kernel_rfl) (fun _ _ _ h => h) rfl (fun y hy => by obtain ⟨x1, x2, x3⟩ := hy; go_simp) ?_
  try simp only [Act.put]
  refine Held.take (i := 1) (.pointer (some ⟨b, 0, none⟩)) rfl hS (by kernel_rfl) (by kernel_rfl) (by kernel_rfl) (by kernel_rfl) (fun _ _ _ h => h) rfl (fun y hy => by obtain ⟨x1, x2, x3⟩ := hy; go_simp) ?_
  try simp only [Act.put]
  refine Held.take (i := 2) (.pointer (some ⟨b, 0, none⟩)) rfl hS (by kernel_rfl) (by kernel_rfl) (by kernel_rfl) (by kernel_rfl) (fun _ _ _ h => h) rfl (fun y hy => by obtain ⟨x1, x2, x3⟩ := hy; go_simp) ?_
  try simp only [Act.put]
  refine Held.take (i := 3) (.pointer (some ⟨b, 3, none⟩)) rfl hS (by kernel_rfl) (by kernel_rfl) (by kernel_rfl) (by kernel_rfl) (fun _ _ _ h => h) rfl (fun y hy => by obtain ⟨x1, x2, x3⟩ := hy; go_simp) ?_
  try simp only [Act.put]
  refine Held.take (i := 4) (.slice AL nl cL) rfl hS (by kernel_rfl) (by kernel_rfl) (by kernel_rfl) (by kernel_rfl) (fun _ _ _ h => h) rfl (fun y hy => by obtain ⟨x1, x2, x3⟩ := hy; go_simp) ?_
  try simp only [Act.put]
  refine Held.take (i := 5) (.pointer (some ⟨xb, 0, none⟩)) rfl hS (by kernel_rfl) (by kernel_rfl) (by kernel_rfl) (by kernel_rfl) (fun _ _ _ h => h) rfl (fun y hy => by obtain ⟨x1, x2, x3⟩ := hy; go_simp) ?_
  try simp only [Act.put]
  refine Held.take (i := 6) (.int .i64 x.t) rfl hS (by kernel_rfl) (by kernel_rfl) (by kernel_rfl) (by kernel_rfl) (fun _ _ _ h => h) rfl (fun y hy => by obtain ⟨x1, x2, x3⟩ := hy; go_simp) ?_
  try simp only [Act.put]
  refine Held.take (i := 7) (.pointer (some ⟨xb, 1, none⟩)) rfl hS (by kernel_rfl) (by kernel_rfl) (by kernel_rfl) (by kernel_rfl) (fun _ _ _ h => h) rfl (fun y hy => by obtain ⟨x1, x2, x3⟩ := hy; go_simp) ?_
  try simp only [Act.put]
  refine Held.take (i := 8) (.slice x.A x.n x.c) rfl hS (by kernel_rfl) (by kernel_rfl) (by kernel_rfl) (by kernel_rfl) (fun _ _ _ h => h) rfl (fun y hy => by obtain ⟨x1, x2, x3⟩ := hy; go_simp) ?_
  try simp only [Act.put]
  refine Held.one (i := 9) rfl (by kernel_rfl) rfl (fun K hK => ?_)
  unfold Oper.wp
  go_simp
  refine (CloneC_any x.A x.n x.c _ 0 x.r X1 hx6 (by omega)).mono ?_
  rintro e X2 hres
  obtain ⟨Ac, cc, rfl, hrow, hcap, hb⟩ := hres
  have hB7 := bstep hB6 hb
  have kx7 := kx6.below hb kx6.lt
  have hv7 := hv6.below hb
  have hL7 := hL6.below hb
  have hS2 : X2.cell? ⟨b, 3, none⟩ = some (.slice AL nl cL) ∧ X2.cell? ⟨xb, 0, none⟩ = some (.int .i64 x.t) ∧ X2.cell? ⟨xb, 1, none⟩ = some (.slice x.A x.n x.c) := ⟨by simpa using hv7.blk.cell 3, by simpa using kx7.cell 0, by simpa using kx7.cell 1⟩
  refine hK _ _ (fun _ => hS2) ?_
  try simp only [Act.put]
  clear hK K hS hb hB6 kx6 hv6 hL6 hx6
  have hS := hS2
  clear hS2
  refine Held.take (i := 10) (.agg #[.int .i64 x.t, .slice Ac x.n cc]) rfl hS (by kernel_rfl) (by kernel_rfl) (by kernel_rfl) (by kernel_rfl) (fun _ _ _ h => h) rfl (fun y hy => by obtain ⟨x1, x2, x3⟩ := hy; go_simp) ?_
  try simp only [Act.put]
  have hxX : xb < X2.heap.size := kx7.lt
  have hxO : ∀ g, (Value.slice AL nl cL).ownBlock = some g → g ≠ xb := fun g hg e => by
    subst e
    exact HXB9.out g hg rfl
  refine Held.one (i := 11) rfl (by kernel_rfl) rfl (fun K hK => ?_)
  have kv := Blk.new X2 36 #[.int .i64 x.t, .slice Ac x.n cc]
  have hBv := below_val (w := X2) #[.int .i64 x.t, .slice Ac x.n cc] 36
  have HS3 := hide (show (X2.alloc (.cells #[.int .i64 x.t, .slice Ac x.n cc] 36)).cell? ⟨b, 3, none⟩ = some (.slice AL nl cL) ∧ (X2.alloc (.cells #[.int .i64 x.t, .slice Ac x.n cc] 36)).cell? ⟨xb, 0, none⟩ = some (.int .i64 x.t) ∧ (X2.alloc (.cells #[.int .i64 x.t, .slice Ac x.n cc] 36)).cell? ⟨xb, 1, none⟩ = some (.slice x.A x.n x.c) from ⟨by simpa using (hv7.below hBv).blk.cell 3, by simpa using (kx7.below hBv kx7.lt).cell 0, by simpa using (kx7.below hBv kx7.lt).cell 1⟩)
  unfold Oper.wp
  go_simp
  refine hK _ _ (fun _ => HS3.out) ?_
  try simp only [Act.put]
  clear hK K hS
  refine Held.one (i := 12) rfl (by kernel_rfl) rfl (fun K hK => ?_)
  have hrd : Reads (X2.alloc (.cells #[.int .i64 x.t, .slice Ac x.n cc] 36)) (X2.heap.size + 1) 2 (some ⟨X2.heap.size, 0, none⟩) 1 [.int .i64 x.t, .slice Ac x.n cc] :=
    ⟨rfl, fun _ => ⟨X2.heap.size, 0, rfl, by omega, fun j u hu => by rw [Nat.zero_add, kv.cell j]; simpa using hu⟩⟩
  have hown7 := hL7.own
  rw [HNL.out] at hown7
  have hB7s : B ≤ X2.heap.size := by have := hB7.size; omega
  refine wp_append_any _ _ _ 25 rfl B 36 i0 _ 2 32 Tryz.underlying25 hi0 hz0 hz1 hz2 rfl (by decide) (.slice AL nl cL) nl _ rfl (hown7.alloc _) (X2.heap.size + 1) (some ⟨X2.heap.size, 0, none⟩) 1 1 [.int .i64 x.t, .slice Ac x.n cc] rfl hrd (by simp [Value.oneCell']) (by unfold maxLen; omega) (by omega) (by simp; omega) ?_
  intro v' X4 hown1 hgrow hvo
  have HVF := hide (show ∃ A' n' c', v' = .slice A' n' c' from by
    obtain ⟨A', c', h, _⟩ := own_form hown1
    exact ⟨A', _, c', h⟩)
  have hrow0 : RowK X2 B Ac x.n x.r := hrow.mono (Nat.zero_le _)
  obtain ⟨g1, g2, g3, g4, g5⟩ := vo_push (j := 3) (e' := ⟨x.t, Ac, x.n, cc, x.r⟩) hv7.blk (by decide) (by decide) hBb hB7s hL7 hrow0 (by rw [HNL.out]; exact hown1) hgrow hvo
  have kx8 : Blk X4 xb 36 #[.int .i64 x.t, .slice x.A x.n x.c] := (kx7.alloc _).grown hgrow (fun e => hxO xb e.symm rfl)
  have HS4 := hide (show X4.cell? ⟨b, 3, none⟩ = some (.slice AL nl cL) ∧ X4.cell? ⟨xb, 0, none⟩ = some (.int .i64 x.t) ∧ X4.cell? ⟨xb, 1, none⟩ = some (.slice x.A x.n x.c) from ⟨by simpa using g1.cell 3, by simpa using kx8.cell 0, by simpa using kx8.cell 1⟩)
  have hon4 := hv7.on
  have hot4 := hv7.ot
  have hXt : ∀ y ∈ b :: obl (Value.slice AL nl cL), ∀ c fz, X2.heap[y]? ≠ some (.cells c 3 fz) := fun y hy => by
    rcases List.mem_cons.1 hy with rfl | hy
    · exact blk_not hv7.blk (by decide)
    · exact (own_not hL7.own (by decide) y hy).2
  have HFIN := hide (show RetVt 130 b ⟨k1, k2, k3, on, k5, k6, k7, ot, wd⟩ B (.slice AL nl cL) (.slice AR nr cR) mk lx rx true E (x.t, x.r) w (.returned (.int .i64 0)) (X4.setCell ⟨b, 3, none⟩ v') from by
    rw [HEE.out]
    refine ⟨rfl, ?_⟩
    rw [if_pos rfl]
    refine ⟨v', ⟨x.t, Ac, x.n, cc, x.r⟩, ⟨by simpa using g5, hon4.bar g3 hXt, hot4.bar g3 hXt⟩, g2, rfl, hcap, ?_, ?_⟩
    · rcases g4 with h | h
      · exact .inl h
      · exact .inr fun g hg => Nat.le_trans hB7.size (h g hg)
    · refine (Bar.of_below hB7 _).trans ⟨g3.os, g3.tape, g3.output, g3.size, fun i hi hp => g3.block i (Nat.lt_of_lt_of_le hi hB7.size) hp⟩)
  have ff := g1.frozen 3
  refine hK _ _ (fun _ => HS4.out) ?_
  try simp only [Act.put]
  clear hK K HS3 g1 g2 g3 g4 g5 kx7 kx8 hv7 hL7 hown7 hown1 hgrow hvo hrow0 hrow hrd kv hBv hon4 hot4 hXt hB7
  have hS := HS4.out
  refine Held.one (i := 13) rfl (by kernel_rfl) rfl (fun K hK => ?_)
  unfold Oper.wp
  go_simp
  refine hK _ _ (fun _ => hS) ?_
  try simp only [Act.put]
  clear hK K
  refine Held.take (i := 14) (.pointer (some ⟨b, 3, none⟩)) rfl hS (by kernel_rfl) (by kernel_rfl) (by kernel_rfl) (by kernel_rfl) (fun _ _ _ h => h) rfl (fun y hy => by obtain ⟨x1, x2, x3⟩ := hy; go_simp) ?_
  try simp only [Act.put]
  obtain ⟨A', n', c', hvf⟩ := HVF.out
  subst hvf
  refine Held.one (i := 15) rfl (by kernel_rfl) rfl (fun K hK => ?_)
  have c9 := hS.1
  unfold Oper.wp
  go_simp
  refine hK _ _ (fun h => absurd rfl h) ?_
  try simp only [Act.put]
  clear hK K
  refine Held.done (by kernel_rfl) ?_
  clear hS HS4 c9 ff
  go_wp2
  go_ret
  exact HFIN.out
theorem VRight_nil (x : Ev) (w : World) : Calls Tryz.prog 32 #[.pointer none, .agg #[.int .i64 x.t, .slice x.A x.n x.c]] w (fun e w' => e = .returned (.int .i64 1) ∧ Below w.heap.size w w') := by
  have hB := below_val (w := w) #[.int .i64 x.t, .slice x.A x.n x.c] 36
  go_enter Tryz.func32, Tryz.ntmps32
  go_wp2
  go_ret
  exact ⟨rfl, hB⟩
set_option maxRecDepth 100000 in
set_option maxHeartbeats 8000000 in
theorem VRight_any (k : KV) (b : Nat) (vL vR : Value) (mk : Int) (lx rx : List Ev) (B : Nat) (x : Ev) (w : World) (hv : VO w 130 b k vL vR mk) (hBb : B ≤ b) (hL : OE w B vL lx) (hR : OE w B vR rx) (hx : RowK w w.heap.size x.A x.n x.r) (hk : k.n ≤ 1000) (hw : k.wd ≤ 8) (hon : k.on.length = k.n) :
    Calls Tryz.prog 32 #[.pointer (some ⟨b, 0, none⟩), .agg #[.int .i64 x.t, .slice x.A x.n x.c]] w (RetVt 130 b k B vL vR mk lx rx false (rgtE k.wd mk rx.length (x.t, x.r)) (x.t, x.r) w) := by
  obtain ⟨i0, hi0, hz0, hz1, hz2⟩ := info_parts3 infoEv
  obtain ⟨k1, k2, k3, on, k5, k6, k7, ot, wd⟩ := k
  obtain ⟨E, hE⟩ : ∃ E, rgtE wd mk rx.length (x.t, x.r) = E := ⟨_, rfl⟩
  rw [show rgtE wd mk rx.length (x.t, x.r) = E from hE]
  have HE := hide hE
  obtain ⟨AL, cL, hvL, _⟩ := own_form hL.own
  obtain ⟨AR, cR, hvR, _⟩ := own_form hR.own
  subst hvL hvR
  have hbw : b < w.heap.size := hv.blk.lt
  have hsz := hx.len
  have hxle := hx.le
  have hln := (hL.evR (by omega)).1.le
  have hrn := (hR.evR (by omega)).1.le
  have hBw : B ≤ w.heap.size := by omega
  have hBa := below_val (w := w) #[.int .i64 x.t, .slice x.A x.n x.c] 36
  have kx := Blk.new w 36 #[.int .i64 x.t, .slice x.A x.n x.c]
  have hv1 := hv.below hBa
  have hL1 := hL.below hBa
  have hR1 := hR.below hBa
  have hx1 := (hx.below hBa).mono hBa.size
  have HXB9 := hide (show ∀ g, (Value.slice AR rx.length cR).ownBlock = some g → g ≠ w.heap.size from fun g hg e => by have := (hR.own.lt g hg).2; omega)
  clear hv hL hR hx hE
  obtain ⟨xb, hxb⟩ : ∃ xb, w.heap.size = xb := ⟨_, rfl⟩
  rw [hxb] at kx HXB9
  obtain ⟨nl, hnl⟩ : ∃ nl, lx.length = nl := ⟨_, rfl⟩
  obtain ⟨nr, hnr⟩ : ∃ nr, rx.length = nr := ⟨_, rfl⟩
  rw [hnl] at hv1 hL1 hln ⊢
  rw [hnr] at hv1 hR1 hrn HE HXB9 ⊢
  have HNL := hide hnl
  have HNR := hide hnr
  clear hnl hnr
  go_enter Tryz.func32, Tryz.ntmps32
  go_wp2_with fail
  try rw [hxb]
  obtain ⟨W1, hW1⟩ : ∃ W1, w.alloc (.cells #[.int .i64 x.t, .slice x.A x.n x.c] 36) = W1 := ⟨_, rfl⟩
  rw [hW1] at hBa kx hv1 hL1 hR1 hx1 ⊢
  clear hW1
  obtain ⟨q1, hq1⟩ : ∃ q, okE (x.t, x.r) = q := ⟨_, rfl⟩
  refine (event_any x.t x.A x.n x.c x.r W1 hx1).mono ?_
  rintro e W2 ⟨rfl, hb⟩
  have hB2 := bstep hBa hb
  have kx2 := kx.below hb kx.lt
  have hv2 := hv1.below hb
  have hL2 := hL1.below hb
  have hR2 := hR1.below hb
  have hx2 := (hx1.below hb).mono hb.size
  clear hb hBa kx hv1 hL1 hR1 hx1
  rw [hq1]
  have HQ1 := hide hq1
  clear hq1
  cases q1
  · have HEE := hide (show E = 1 from by rw [← HE.out]; unfold rgtE; rw [HQ1.out]; rfl)
    have HB := hide hB2
    clear kx2 hv2 hL2 hR2 hx2 hB2
    go_wp2
    go_ret
    exact RetVt.bad HEE.out (by decide) HB.out
  have hx8 : x.n ≤ 8 := by have := okR_eight (okE_row HQ1.out); have h2 : x.r.length = x.n := hsz; rw [← h2]; exact this
  have c0 : W2.cell? ⟨b, 0, none⟩ = some (.slice k1 k2 k3) := by simpa using hv2.blk.cell 0
  have c2 : W2.cell? ⟨b, 2, none⟩ = some (.int .i64 (wd : Int)) := by simpa using hv2.blk.cell 2
  have c3 : W2.cell? ⟨b, 3, none⟩ = some (.slice AL nl cL) := by simpa using hv2.blk.cell 3
  have c4 : W2.cell? ⟨b, 4, none⟩ = some (.slice AR nr cR) := by simpa using hv2.blk.cell 4
  have c5 : W2.cell? ⟨b, 5, none⟩ = some (.int .i64 mk) := by simpa using hv2.blk.cell 5
  have x0 : W2.cell? ⟨xb, 0, none⟩ = some (.int .i64 x.t) := by simpa using kx2.cell 0
  have x1 : W2.cell? ⟨xb, 1, none⟩ = some (.slice x.A x.n x.c) := by simpa using kx2.cell 1
  have hbl := hv2.blk.lt
  have hxl := kx2.lt
  have p0 := fun (p : BW W2) => BW.cell (a := ⟨b, 0, none⟩) hbl c0 p
  have p2 := fun (p : BW W2) => BW.cell (a := ⟨b, 2, none⟩) hbl c2 p
  have px0 := fun (p : BW W2) => BW.cell (a := ⟨xb, 0, none⟩) hxl x0 p
  have px1 := fun (p : BW W2) => BW.cell (a := ⟨xb, 1, none⟩) hxl x1 p
  clear x0 x1 c0 c2
  obtain ⟨q2, hq2⟩ : ∃ q, ((x.n : Int) != (wd : Int)) = !q := ⟨((x.n : Int) == (wd : Int)), rfl⟩
  have HQ2 := hide (show decide (x.r.length = wd) = q2 from by
    have h3 : x.r.length = x.n := hsz
    rw [h3]
    have h4 : ((x.n : Int) == (wd : Int)) = q2 := by
      have h5 : ((x.n : Int) != (wd : Int)) = !((x.n : Int) == (wd : Int)) := rfl
      rw [h5] at hq2
      cases q2 <;> cases hz : ((x.n : Int) == (wd : Int)) <;> simp_all
    rw [← h4]
    by_cases h : x.n = wd
    · simp [h]
    · have : ¬ (x.n : Int) = (wd : Int) := by omega
      simp [h, this])
  have hq2' : ((x.n : Int) == (wd : Int)) = q2 := by
    have h5 : ((x.n : Int) != (wd : Int)) = !((x.n : Int) == (wd : Int)) := rfl
    rw [h5] at hq2
    cases q2 <;> cases hz : ((x.n : Int) == (wd : Int)) <;> simp_all
  have hq3' : (x.n == wd) = q2 := by
    rw [← hq2']
    by_cases h : x.n = wd
    · simp [h]
    · have : ¬ (x.n : Int) = (wd : Int) := by omega
      rw [show (x.n == wd) = false from by simpa using h, show ((x.n : Int) == (wd : Int)) = false from by simpa using this]
  have hq4' : decide (x.n = wd) = q2 := by
    rw [← hq3']
    by_cases h : x.n = wd
    · simp [h]
    · simp [h]
  go_wp2_with fail
  (refine wp_region_quiet_bw (by kernel_rfl) (by kernel_rfl) ?_
   repeat (first | go_big_quiet_step ((fail)) | quiet_step ((fail)))
   refine wpQuiet_nil ?_
   intro wq hw'
   obtain ⟨⟨_, hbq⟩, hw''⟩ := hw'
   subst hw'')
  clear hq2 hq2' hq3' hq4'
  have hB3 := bstep hB2 hbq
  have kx3 := kx2.below hbq kx2.lt
  have hv3 := hv2.below hbq
  have hL3 := hL2.below hbq
  have hR3 := hR2.below hbq
  have hx3 := (hx2.below hbq).mono hbq.size
  clear hbq p0 p2 px0 px1 hB2 kx2 hv2 hL2 hR2 hx2 hbl hxl c3 c4 c5
  obtain ⟨W3, hW3⟩ : ∃ W3 : World, W3 = wq := ⟨_, rfl⟩
  subst hW3
  cases q2
  · have HEE := hide (show E = 9 from by rw [← HE.out]; unfold rgtE; rw [HQ1.out, if_pos rfl]; exact if_neg (fun h => by have h2 := HQ2.out; simp_all))
    have HB := hide hB3
    clear kx3 hv3 hL3 hR3 hx3 hB3
    go_wp2
    go_ret
    exact RetVt.bad HEE.out (by decide) HB.out
  have c0 : W3.cell? ⟨b, 0, none⟩ = some (.slice k1 k2 k3) := by simpa using hv3.blk.cell 0
  have c2 : W3.cell? ⟨b, 2, none⟩ = some (.int .i64 (wd : Int)) := by simpa using hv3.blk.cell 2
  have c3 : W3.cell? ⟨b, 3, none⟩ = some (.slice AL nl cL) := by simpa using hv3.blk.cell 3
  have c4 : W3.cell? ⟨b, 4, none⟩ = some (.slice AR nr cR) := by simpa using hv3.blk.cell 4
  have c5 : W3.cell? ⟨b, 5, none⟩ = some (.int .i64 mk) := by simpa using hv3.blk.cell 5
  have x0 : W3.cell? ⟨xb, 0, none⟩ = some (.int .i64 x.t) := by simpa using kx3.cell 0
  have x1 : W3.cell? ⟨xb, 1, none⟩ = some (.slice x.A x.n x.c) := by simpa using kx3.cell 1
  have hbl := hv3.blk.lt
  have hxl := kx3.lt
  have p2 := fun (p : BW W3) => BW.cell (a := ⟨b, 2, none⟩) hbl c2 p
  have p3 := fun (p : BW W3) => BW.cell (a := ⟨b, 4, none⟩) hbl c4 p
  have p5 := fun (p : BW W3) => BW.cell (a := ⟨b, 5, none⟩) hbl c5 p
  have px0 := fun (p : BW W3) => BW.cell (a := ⟨xb, 0, none⟩) hxl x0 p
  have px1 := fun (p : BW W3) => BW.cell (a := ⟨xb, 1, none⟩) hxl x1 p
  obtain ⟨q3, hq3⟩ : ∃ q, decide (x.t < mk) = q := ⟨_, rfl⟩
  have HQ3 := hide hq3
  clear c0 c2 c3 c4 c5 x0 x1
  go_wp2_with fail
  (refine wp_region_quiet_bw (by kernel_rfl) (by kernel_rfl) ?_
   repeat (first | go_big_quiet_step ((fail)) | quiet_step ((fail)))
   refine wpQuiet_nil ?_
   intro wq hw'
   obtain ⟨⟨_, hbq⟩, hw''⟩ := hw'
   subst hw'')
  have hB4 := bstep hB3 hbq
  have kx4 := kx3.below hbq kx3.lt
  have hv4 := hv3.below hbq
  have hL4 := hL3.below hbq
  have hR4 := hR3.below hbq
  have hx4 := (hx3.below hbq).mono hbq.size
  clear hbq p2 p3 p5 px0 px1 hB3 kx3 hv3 hL3 hR3 hx3 hbl hxl hq3
  obtain ⟨W4, hW4⟩ : ∃ W4 : World, W4 = wq := ⟨_, rfl⟩
  subst hW4
  cases q3
  case true =>
    have HEE := hide (show E = 12 from by rw [← HE.out]; unfold rgtE; rw [HQ1.out, if_pos rfl, if_pos (by first | exact HQ2.out | exact of_decide_eq_true HQ2.out)]; exact if_pos (of_decide_eq_true HQ3.out))
    have HB := hide hB4
    clear kx4 hv4 hL4 hR4 hx4 hB4
    go_wp2
    go_ret
    exact RetVt.bad HEE.out (by decide) HB.out
  have c2 : W4.cell? ⟨b, 2, none⟩ = some (.int .i64 (wd : Int)) := by simpa using hv4.blk.cell 2
  have c3 : W4.cell? ⟨b, 3, none⟩ = some (.slice AL nl cL) := by simpa using hv4.blk.cell 3
  have c4 : W4.cell? ⟨b, 4, none⟩ = some (.slice AR nr cR) := by simpa using hv4.blk.cell 4
  have x0 : W4.cell? ⟨xb, 0, none⟩ = some (.int .i64 x.t) := by simpa using kx4.cell 0
  have x1 : W4.cell? ⟨xb, 1, none⟩ = some (.slice x.A x.n x.c) := by simpa using kx4.cell 1
  have hbl := hv4.blk.lt
  have hxl := kx4.lt
  have p2 := fun (p : BW W4) => BW.cell (a := ⟨b, 2, none⟩) hbl c2 p
  have p3 := fun (p : BW W4) => BW.cell (a := ⟨b, 4, none⟩) hbl c4 p
  have px1 := fun (p : BW W4) => BW.cell (a := ⟨xb, 1, none⟩) hxl x1 p
  by_cases h4 : 400 ≤ nr
  · have e4 : decide ((400 : Int) ≤ (nr : Int)) = true := decide_eq_true (by omega)
    have e5 : decide (400 ≤ nr) = true := decide_eq_true h4
    have q4 : (400 : Int) ≤ (nr : Int) := by omega
    have HEE := hide (show E = 4 from by
      rw [← HE.out]; unfold rgtE; rw [HQ1.out, if_pos rfl, if_pos (of_decide_eq_true HQ2.out), if_neg (of_decide_eq_false HQ3.out), if_pos h4])
    have HB := hide hB4
    clear kx4 hv4 hL4 hR4 hx4 hB4 p2 p3 px1 h4
    go_wp2
    go_ret
    exact RetVt.bad HEE.out (by decide) HB.out
  have e4 : decide ((400 : Int) ≤ (nr : Int)) = false := decide_eq_false (by omega)
  have e5 : decide (400 ≤ nr) = false := decide_eq_false h4
  have q4 : ¬ (400 : Int) ≤ (nr : Int) := by omega
  have HEE := hide (show E = 0 from by
    rw [← HE.out]; unfold rgtE; rw [HQ1.out, if_pos rfl, if_pos (of_decide_eq_true HQ2.out), if_neg (of_decide_eq_false HQ3.out), if_neg h4])
  have hbq : Below W4.heap.size W4 W4 := Below.refl _ _
  go_upto_region 9 with fail
  obtain ⟨wq, hwq⟩ : ∃ wq : World, wq = W4 := ⟨_, rfl⟩
  rw [← hwq]
  rw [← hwq] at hbq
  have hbq : Below W4.heap.size W4 wq := by rw [hwq]; exact Below.refl _ _
  clear hwq c2 c3 c4 x0 x1
  have hB5 := bstep hB4 hbq
  have kx5 := kx4.below hbq kx4.lt
  have hv5 := hv4.below hbq
  have hL5 := hL4.below hbq
  have hR5 := hR4.below hbq
  have hx5 := (hx4.below hbq).mono hbq.size
  clear hbq p2 p3 px1 hB4 kx4 hv4 hL4 hR4 hx4 hbl hxl q4
  obtain ⟨W5, hW5⟩ : ∃ W5 : World, W5 = wq := ⟨_, rfl⟩
  subst hW5
  refine Held.begin (fun z => z.cell? ⟨b, 4, none⟩ = some (.slice AR nr cR) ∧ z.cell? ⟨xb, 0, none⟩ = some (.int .i64 x.t) ∧ z.cell? ⟨xb, 1, none⟩ = some (.slice x.A x.n x.c)) 15 (by kernel_rfl) ?_
  obtain ⟨X1, hX1⟩ : ∃ X1, W5.drew = X1 := ⟨_, rfl⟩
  have hD : Below W5.heap.size W5 X1 := by rw [← hX1]; exact (Below.refl _ _).drew
  rw [hX1]
  have hB6 := bstep hB5 hD
  have kx6 := kx5.below hD kx5.lt
  have hv6 := hv5.below hD
  have hR6 := hR5.below hD
  have hx6 := (hx5.below hD).mono hD.size
  have hS : X1.cell? ⟨b, 4, none⟩ = some (.slice AR nr cR) ∧ X1.cell? ⟨xb, 0, none⟩ = some (.int .i64 x.t) ∧ X1.cell? ⟨xb, 1, none⟩ = some (.slice x.A x.n x.c) := ⟨by simpa using hv6.blk.cell 4, by simpa using kx6.cell 0, by simpa using kx6.cell 1⟩
  clear hX1 hD hB5 kx5 hv5 hL5 hR5 hx5
  refine Held.take (i := 0) (.pointer (some ⟨b, 0, none⟩)) rfl hS (by kernel_rfl) (by kernel_rfl) (by kernel_rfl) (by kernel_rfl) (fun _ _ _ h => h) rfl (fun y hy => by obtain ⟨x1, x2, x3⟩ := hy; go_simp) ?_
  try simp only [Act.put]
  refine Held.take (i := 1) (.pointer (some ⟨b, 0, none⟩)) rfl hS (by kernel_rfl) (by kernel_rfl) (by kernel_rfl) (by kernel_rfl) (fun _ _ _ h => h) rfl (fun y hy => by obtain ⟨x1, x2, x3⟩ := hy; go_simp) ?_
  try simp only [Act.put]
  refine Held.take (i := 2) (.pointer (some ⟨b, 0, none⟩)) rfl hS (by kernel_rfl) (by kernel_rfl) (by kernel_rfl) (by kernel_rfl) (fun _ _ _ h => h) rfl (fun y hy => by obtain ⟨x1, x2, x3⟩ := hy; go_simp) ?_
  try simp only [Act.put]
  refine Held.take (i := 3) (.pointer (some ⟨b, 4, none⟩)) rfl hS (by kernel_rfl) (by kernel_rfl) (by kernel_rfl) (by kernel_rfl) (fun _ _ _ h => h) rfl (fun y hy => by obtain ⟨x1, x2, x3⟩ := hy; go_simp) ?_
  try simp only [Act.put]
  refine Held.take (i := 4) (.slice AR nr cR) rfl hS (by kernel_rfl) (by kernel_rfl) (by kernel_rfl) (by kernel_rfl) (fun _ _ _ h => h) rfl (fun y hy => by obtain ⟨x1, x2, x3⟩ := hy; go_simp) ?_
  try simp only [Act.put]
  refine Held.take (i := 5) (.pointer (some ⟨xb, 0, none⟩)) rfl hS (by kernel_rfl) (by kernel_rfl) (by kernel_rfl) (by kernel_rfl) (fun _ _ _ h => h) rfl (fun y hy => by obtain ⟨x1, x2, x3⟩ := hy; go_simp) ?_
  try simp only [Act.put]
  refine Held.take (i := 6) (.int .i64 x.t) rfl hS (by kernel_rfl) (by kernel_rfl) (by kernel_rfl) (by kernel_rfl) (fun _ _ _ h => h) rfl (fun y hy => by obtain ⟨x1, x2, x3⟩ := hy; go_simp) ?_
  try simp only [Act.put]
  refine Held.take (i := 7) (.pointer (some ⟨xb, 1, none⟩)) rfl hS (by kernel_rfl) (by kernel_rfl) (by kernel_rfl) (by kernel_rfl) (fun _ _ _ h => h) rfl (fun y hy => by obtain ⟨x1, x2, x3⟩ := hy; go_simp) ?_
  try simp only [Act.put]
  refine Held.take (i := 8) (.slice x.A x.n x.c) rfl hS (by kernel_rfl) (by kernel_rfl) (by kernel_rfl) (by kernel_rfl) (fun _ _ _ h => h) rfl (fun y hy => by obtain ⟨x1, x2, x3⟩ := hy; go_simp) ?_
  try simp only [Act.put]
  refine Held.one (i := 9) rfl (by kernel_rfl) rfl (fun K hK => ?_)
  unfold Oper.wp
  go_simp
  refine (CloneC_any x.A x.n x.c _ 0 x.r X1 hx6 (by omega)).mono ?_
  rintro e X2 hres
  obtain ⟨Ac, cc, rfl, hrow, hcap, hb⟩ := hres
  have hB7 := bstep hB6 hb
  have kx7 := kx6.below hb kx6.lt
  have hv7 := hv6.below hb
  have hR7 := hR6.below hb
  have hS2 : X2.cell? ⟨b, 4, none⟩ = some (.slice AR nr cR) ∧ X2.cell? ⟨xb, 0, none⟩ = some (.int .i64 x.t) ∧ X2.cell? ⟨xb, 1, none⟩ = some (.slice x.A x.n x.c) := ⟨by simpa using hv7.blk.cell 4, by simpa using kx7.cell 0, by simpa using kx7.cell 1⟩
  refine hK _ _ (fun _ => hS2) ?_
  try simp only [Act.put]
  clear hK K hS hb hB6 kx6 hv6 hR6 hx6
  have hS := hS2
  clear hS2
  refine Held.take (i := 10) (.agg #[.int .i64 x.t, .slice Ac x.n cc]) rfl hS (by kernel_rfl) (by kernel_rfl) (by kernel_rfl) (by kernel_rfl) (fun _ _ _ h => h) rfl (fun y hy => by obtain ⟨x1, x2, x3⟩ := hy; go_simp) ?_
  try simp only [Act.put]
  have hxX : xb < X2.heap.size := kx7.lt
  have hxO : ∀ g, (Value.slice AR nr cR).ownBlock = some g → g ≠ xb := fun g hg e => by
    subst e
    exact HXB9.out g hg rfl
  refine Held.one (i := 11) rfl (by kernel_rfl) rfl (fun K hK => ?_)
  have kv := Blk.new X2 36 #[.int .i64 x.t, .slice Ac x.n cc]
  have hBv := below_val (w := X2) #[.int .i64 x.t, .slice Ac x.n cc] 36
  have HS3 := hide (show (X2.alloc (.cells #[.int .i64 x.t, .slice Ac x.n cc] 36)).cell? ⟨b, 4, none⟩ = some (.slice AR nr cR) ∧ (X2.alloc (.cells #[.int .i64 x.t, .slice Ac x.n cc] 36)).cell? ⟨xb, 0, none⟩ = some (.int .i64 x.t) ∧ (X2.alloc (.cells #[.int .i64 x.t, .slice Ac x.n cc] 36)).cell? ⟨xb, 1, none⟩ = some (.slice x.A x.n x.c) from ⟨by simpa using (hv7.below hBv).blk.cell 4, by simpa using (kx7.below hBv kx7.lt).cell 0, by simpa using (kx7.below hBv kx7.lt).cell 1⟩)
  unfold Oper.wp
  go_simp
  refine hK _ _ (fun _ => HS3.out) ?_
  try simp only [Act.put]
  clear hK K hS
  refine Held.one (i := 12) rfl (by kernel_rfl) rfl (fun K hK => ?_)
  have hrd : Reads (X2.alloc (.cells #[.int .i64 x.t, .slice Ac x.n cc] 36)) (X2.heap.size + 1) 2 (some ⟨X2.heap.size, 0, none⟩) 1 [.int .i64 x.t, .slice Ac x.n cc] :=
    ⟨rfl, fun _ => ⟨X2.heap.size, 0, rfl, by omega, fun j u hu => by rw [Nat.zero_add, kv.cell j]; simpa using hu⟩⟩
  have hown7 := hR7.own
  rw [HNR.out] at hown7
  have hB7s : B ≤ X2.heap.size := by have := hB7.size; omega
  refine wp_append_any _ _ _ 25 rfl B 36 i0 _ 2 32 Tryz.underlying25 hi0 hz0 hz1 hz2 rfl (by decide) (.slice AR nr cR) nr _ rfl (hown7.alloc _) (X2.heap.size + 1) (some ⟨X2.heap.size, 0, none⟩) 1 1 [.int .i64 x.t, .slice Ac x.n cc] rfl hrd (by simp [Value.oneCell']) (by unfold maxLen; omega) (by omega) (by simp; omega) ?_
  intro v' X4 hown1 hgrow hvo
  have HVF := hide (show ∃ A' n' c', v' = .slice A' n' c' from by
    obtain ⟨A', c', h, _⟩ := own_form hown1
    exact ⟨A', _, c', h⟩)
  have hrow0 : RowK X2 B Ac x.n x.r := hrow.mono (Nat.zero_le _)
  obtain ⟨g1, g2, g3, g4, g5⟩ := vo_push (j := 4) (e' := ⟨x.t, Ac, x.n, cc, x.r⟩) hv7.blk (by decide) (by decide) hBb hB7s hR7 hrow0 (by rw [HNR.out]; exact hown1) hgrow hvo
  have kx8 : Blk X4 xb 36 #[.int .i64 x.t, .slice x.A x.n x.c] := (kx7.alloc _).grown hgrow (fun e => hxO xb e.symm rfl)
  have HS4 := hide (show X4.cell? ⟨b, 4, none⟩ = some (.slice AR nr cR) ∧ X4.cell? ⟨xb, 0, none⟩ = some (.int .i64 x.t) ∧ X4.cell? ⟨xb, 1, none⟩ = some (.slice x.A x.n x.c) from ⟨by simpa using g1.cell 4, by simpa using kx8.cell 0, by simpa using kx8.cell 1⟩)
  have hon4 := hv7.on
  have hot4 := hv7.ot
  have hXt : ∀ y ∈ b :: obl (Value.slice AR nr cR), ∀ c fz, X2.heap[y]? ≠ some (.cells c 3 fz) := fun y hy => by
    rcases List.mem_cons.1 hy with rfl | hy
    · exact blk_not hv7.blk (by decide)
    · exact (own_not hR7.own (by decide) y hy).2
  have HFIN := hide (show RetVt 130 b ⟨k1, k2, k3, on, k5, k6, k7, ot, wd⟩ B (.slice AL nl cL) (.slice AR nr cR) mk lx rx false E (x.t, x.r) w (.returned (.int .i64 0)) (X4.setCell ⟨b, 4, none⟩ v') from by
    rw [HEE.out]
    refine ⟨rfl, ?_⟩
    rw [if_pos rfl]
    refine ⟨v', ⟨x.t, Ac, x.n, cc, x.r⟩, ⟨by simpa using g5, hon4.bar g3 hXt, hot4.bar g3 hXt⟩, g2, rfl, hcap, ?_, ?_⟩
    · rcases g4 with h | h
      · exact .inl h
      · exact .inr fun g hg => Nat.le_trans hB7.size (h g hg)
    · refine (Bar.of_below hB7 _).trans ⟨g3.os, g3.tape, g3.output, g3.size, fun i hi hp => g3.block i (Nat.lt_of_lt_of_le hi hB7.size) hp⟩)
  have ff := g1.frozen 4
  refine hK _ _ (fun _ => HS4.out) ?_
  try simp only [Act.put]
  clear hK K HS3 g1 g2 g3 g4 g5 kx7 kx8 hv7 hR7 hown7 hown1 hgrow hvo hrow0 hrow hrd kv hBv hon4 hot4 hXt hB7
  have hS := HS4.out
  refine Held.one (i := 13) rfl (by kernel_rfl) rfl (fun K hK => ?_)
  unfold Oper.wp
  go_simp
  refine hK _ _ (fun _ => hS) ?_
  try simp only [Act.put]
  clear hK K
  refine Held.take (i := 14) (.pointer (some ⟨b, 4, none⟩)) rfl hS (by kernel_rfl) (by kernel_rfl) (by kernel_rfl) (by kernel_rfl) (fun _ _ _ h => h) rfl (fun y hy => by obtain ⟨x1, x2, x3⟩ := hy; go_simp) ?_
  try simp only [Act.put]
  obtain ⟨A', n', c', hvf⟩ := HVF.out
  subst hvf
  refine Held.one (i := 15) rfl (by kernel_rfl) rfl (fun K hK => ?_)
  have c9 := hS.1
  unfold Oper.wp
  go_simp
  refine hK _ _ (fun h => absurd rfl h) ?_
  try simp only [Act.put]
  clear hK K
  refine Held.done (by kernel_rfl) ?_
  clear hS HS4 c9 ff
  go_wp2
  go_ret
  exact HFIN.out
end

section
open Go.RowKit
attribute [local go_sem] Oper.semAt_some wide_fn wide_depth
set_option linter.unusedVariables false
set_option linter.unusedSimpArgs false

/-- What the reference's Left leaves behind. -/
def RetVr (t : TypeId) (b : Nat) (k : KV) (B : Nat) (vL vR : Value) (mk : Int) (lx : List Ev) (E : Int) (x : Te) (w : World) (e : Ending) (w' : World) : Prop := e = .returned (.int .i64 E) ∧
  if E = 0 then (∃ v' l', VO w' t b k v' vR mk ∧ OE w' B v' l' ∧ dE l' = stepG cmpE (dE lx) x ∧ (∀ g, v'.ownBlock = some g → w.heap.size ≤ g) ∧ Bar w.heap.size [b] w w')
  else Below w.heap.size w w'
theorem RetVr.bad {t : TypeId} {b : Nat} {k : KV} {B : Nat} {vL vR : Value} {mk : Int} {lx : List Ev} {E E' : Int} {x : Te} {w w' : World} (h : E = E') (h0 : E' ≠ 0) (hb : Below w.heap.size w w') : RetVr t b k B vL vR mk lx E x w (.returned (.int .i64 E')) w' := by
  subst h
  exact ⟨rfl, by rw [if_neg h0]; exact hb⟩

theorem OE.evR' {W : World} {B : Nat} {A : Option Addr} {n c : Nat} {l : List Ev} (h : OE W B (.slice A n c) l) (hB : B ≤ W.heap.size) (hn : l.length = n) : EvR W W.heap.size A n l ∧ n = l.length ∧ n ≤ c := h.evR hB
theorem RLeft_nil (x : Ev) (w : World) : Calls Tryz.prog 31 #[.pointer none, .agg #[.int .i64 x.t, .slice x.A x.n x.c]] w (fun e w' => e = .returned (.int .i64 1) ∧ Below w.heap.size w w') := by
  have hB := below_val (w := w) #[.int .i64 x.t, .slice x.A x.n x.c] 36
  go_enter Tryz.func31, Tryz.ntmps31
  go_wp2
  go_ret
  exact ⟨rfl, hB⟩
set_option maxRecDepth 100000 in
set_option maxHeartbeats 8000000 in
theorem RLeft_any (k : KV) (b : Nat) (vL vR : Value) (mk : Int) (lx rx : List Ev) (B : Nat) (x : Ev) (w : World) (hv : VO w 132 b k vL vR mk) (hBb : B ≤ b) (hL : OE w B vL lx) (hR : OE w B vR rx) (hx : RowK w w.heap.size x.A x.n x.r) (hk : k.n ≤ 1000) (hw : k.wd ≤ 8) (hon : k.on.length = k.n) (h40 : lx.length ≤ 400) :
    Calls Tryz.prog 31 #[.pointer (some ⟨b, 0, none⟩), .agg #[.int .i64 x.t, .slice x.A x.n x.c]] w (RetVr 132 b k B vL vR mk lx (lftE k.on k.wd mk lx.length (x.t, x.r)) (x.t, x.r) w) := by
  obtain ⟨i0, hi0, hz0, hz1, hz2⟩ := info_parts3 infoEv
  obtain ⟨k1, k2, k3, on, k5, k6, k7, ot, wd⟩ := k
  obtain ⟨E, hE⟩ : ∃ E, lftE on wd mk lx.length (x.t, x.r) = E := ⟨_, rfl⟩
  rw [show lftE on wd mk lx.length (x.t, x.r) = E from hE]
  have HE := hide hE
  obtain ⟨AL, cL, hvL, _⟩ := own_form hL.own
  obtain ⟨AR, cR, hvR, _⟩ := own_form hR.own
  subst hvL hvR
  have hbw : b < w.heap.size := hv.blk.lt
  have hsz := hx.len
  have hxle := hx.le
  have hln := (hL.evR (by omega)).1.le
  have hrn := (hR.evR (by omega)).1.le
  have hBw : B ≤ w.heap.size := by omega
  have hBa := below_val (w := w) #[.int .i64 x.t, .slice x.A x.n x.c] 36
  have kx := Blk.new w 36 #[.int .i64 x.t, .slice x.A x.n x.c]
  have hv1 := hv.below hBa
  have hL1 := hL.below hBa
  have hR1 := hR.below hBa
  have hx1 := (hx.below hBa).mono hBa.size
  have HXB9 := hide (show ∀ g, (Value.slice AL lx.length cL).ownBlock = some g → g ≠ w.heap.size from fun g hg e => by have := (hL.own.lt g hg).2; omega)
  clear hv hL hR hx hE
  obtain ⟨xb, hxb⟩ : ∃ xb, w.heap.size = xb := ⟨_, rfl⟩
  rw [hxb] at kx HXB9
  obtain ⟨nl, hnl⟩ : ∃ nl, lx.length = nl := ⟨_, rfl⟩
  rw [hnl] at h40
  obtain ⟨nr, hnr⟩ : ∃ nr, rx.length = nr := ⟨_, rfl⟩
  rw [hnl] at hv1 hL1 hln HE HXB9 ⊢
  rw [hnr] at hv1 hR1 hrn ⊢
  have HNL := hide hnl
  have HNR := hide hnr
  clear hnl hnr
  go_enter Tryz.func31, Tryz.ntmps31
  go_wp2_with fail
  try rw [hxb]
  obtain ⟨W1, hW1⟩ : ∃ W1, w.alloc (.cells #[.int .i64 x.t, .slice x.A x.n x.c] 36) = W1 := ⟨_, rfl⟩
  rw [hW1] at hBa kx hv1 hL1 hR1 hx1 ⊢
  clear hW1
  obtain ⟨q1, hq1⟩ : ∃ q, okE (x.t, x.r) = q := ⟨_, rfl⟩
  refine (RValidEvent_any x.t x.A x.n x.c x.r W1 hx1).mono ?_
  rintro e W2 ⟨rfl, hb⟩
  have hB2 := bstep hBa hb
  have kx2 := kx.below hb kx.lt
  have hv2 := hv1.below hb
  have hL2 := hL1.below hb
  have hR2 := hR1.below hb
  have hx2 := (hx1.below hb).mono hb.size
  clear hb hBa kx hv1 hL1 hR1 hx1
  rw [hq1]
  have HQ1 := hide hq1
  clear hq1
  cases q1
  · have HEE := hide (show E = 1 from by rw [← HE.out]; unfold lftE; rw [HQ1.out]; rfl)
    have HB := hide hB2
    clear kx2 hv2 hL2 hR2 hx2 hB2
    go_wp2
    go_ret
    exact RetVr.bad HEE.out (by decide) HB.out
  have hx8 : x.n ≤ 8 := by have := okR_eight (okE_row HQ1.out); have h2 : x.r.length = x.n := hsz; rw [← h2]; exact this
  have c0 : W2.cell? ⟨b, 0, none⟩ = some (.slice k1 k2 k3) := by simpa using hv2.blk.cell 0
  have c2 : W2.cell? ⟨b, 2, none⟩ = some (.int .i64 (wd : Int)) := by simpa using hv2.blk.cell 2
  have c3 : W2.cell? ⟨b, 3, none⟩ = some (.slice AL nl cL) := by simpa using hv2.blk.cell 3
  have c4 : W2.cell? ⟨b, 4, none⟩ = some (.slice AR nr cR) := by simpa using hv2.blk.cell 4
  have c5 : W2.cell? ⟨b, 5, none⟩ = some (.int .i64 mk) := by simpa using hv2.blk.cell 5
  have x0 : W2.cell? ⟨xb, 0, none⟩ = some (.int .i64 x.t) := by simpa using kx2.cell 0
  have x1 : W2.cell? ⟨xb, 1, none⟩ = some (.slice x.A x.n x.c) := by simpa using kx2.cell 1
  have hbl := hv2.blk.lt
  have hxl := kx2.lt
  have p0 := fun (p : BW W2) => BW.cell (a := ⟨b, 0, none⟩) hbl c0 p
  have p2 := fun (p : BW W2) => BW.cell (a := ⟨b, 2, none⟩) hbl c2 p
  have px0 := fun (p : BW W2) => BW.cell (a := ⟨xb, 0, none⟩) hxl x0 p
  have px1 := fun (p : BW W2) => BW.cell (a := ⟨xb, 1, none⟩) hxl x1 p
  clear x0 x1 c0 c2
  obtain ⟨q2, hq2⟩ : ∃ q, hasC x.r on = q := ⟨_, rfl⟩
  have C1 := hide (fun (p : BW W2) => calls_bw (p := p) (rhas_any x.A x.n x.c x.r k1 k2 k3 on p.x hsz (by omega) (hv2.on.rd.up p.h) (by show k2 ≤ _; have h9 : k2 ≤ 1000 := hk; omega)))
  rw [hq2] at C1
  have HQ2 := hide hq2
  clear hq2
  go_wp2_with fail
  (refine wp_region_quiet_bw (by kernel_rfl) (by kernel_rfl) ?_
   repeat (first | go_big_quiet_step (((go_at_call 84; with_reducible exact C1.out _))) | quiet_step (((go_at_call 84; with_reducible exact C1.out _))))
   refine wpQuiet_nil ?_
   intro wq hw'
   obtain ⟨⟨_, hbq⟩, hw''⟩ := hw'
   subst hw'')
  clear C1
  have hB3 := bstep hB2 hbq
  have kx3 := kx2.below hbq kx2.lt
  have hv3 := hv2.below hbq
  have hL3 := hL2.below hbq
  have hR3 := hR2.below hbq
  have hx3 := (hx2.below hbq).mono hbq.size
  clear hbq p0 p2 px0 px1 hB2 kx2 hv2 hL2 hR2 hx2 hbl hxl c3 c4 c5
  obtain ⟨W3, hW3⟩ : ∃ W3 : World, W3 = wq := ⟨_, rfl⟩
  subst hW3
  cases q2
  · have HEE := hide (show E = 7 from by rw [← HE.out]; unfold lftE; rw [HQ1.out, if_pos rfl]; exact if_neg (fun h => by have h2 := HQ2.out; simp_all))
    have HB := hide hB3
    clear kx3 hv3 hL3 hR3 hx3 hB3
    go_wp2
    go_ret
    exact RetVr.bad HEE.out (by decide) HB.out
  have c0 : W3.cell? ⟨b, 0, none⟩ = some (.slice k1 k2 k3) := by simpa using hv3.blk.cell 0
  have c2 : W3.cell? ⟨b, 2, none⟩ = some (.int .i64 (wd : Int)) := by simpa using hv3.blk.cell 2
  have c3 : W3.cell? ⟨b, 3, none⟩ = some (.slice AL nl cL) := by simpa using hv3.blk.cell 3
  have c4 : W3.cell? ⟨b, 4, none⟩ = some (.slice AR nr cR) := by simpa using hv3.blk.cell 4
  have c5 : W3.cell? ⟨b, 5, none⟩ = some (.int .i64 mk) := by simpa using hv3.blk.cell 5
  have x0 : W3.cell? ⟨xb, 0, none⟩ = some (.int .i64 x.t) := by simpa using kx3.cell 0
  have x1 : W3.cell? ⟨xb, 1, none⟩ = some (.slice x.A x.n x.c) := by simpa using kx3.cell 1
  have hbl := hv3.blk.lt
  have hxl := kx3.lt
  have p2 := fun (p : BW W3) => BW.cell (a := ⟨b, 2, none⟩) hbl c2 p
  have p3 := fun (p : BW W3) => BW.cell (a := ⟨b, 3, none⟩) hbl c3 p
  have p5 := fun (p : BW W3) => BW.cell (a := ⟨b, 5, none⟩) hbl c5 p
  have px0 := fun (p : BW W3) => BW.cell (a := ⟨xb, 0, none⟩) hxl x0 p
  have px1 := fun (p : BW W3) => BW.cell (a := ⟨xb, 1, none⟩) hxl x1 p
  obtain ⟨q3, hq3⟩ : ∃ q, decide (x.t < mk) = q := ⟨_, rfl⟩
  have HQ3 := hide hq3
  clear c0 c2 c3 c4 c5 x0 x1
  go_wp2_with fail
  (refine wp_region_quiet_bw (by kernel_rfl) (by kernel_rfl) ?_
   repeat (first | go_big_quiet_step ((fail)) | quiet_step ((fail)))
   refine wpQuiet_nil ?_
   intro wq hw'
   obtain ⟨⟨_, hbq⟩, hw''⟩ := hw'
   subst hw'')
  have hB4 := bstep hB3 hbq
  have kx4 := kx3.below hbq kx3.lt
  have hv4 := hv3.below hbq
  have hL4 := hL3.below hbq
  have hR4 := hR3.below hbq
  have hx4 := (hx3.below hbq).mono hbq.size
  clear hbq p2 p3 p5 px0 px1 hB3 kx3 hv3 hL3 hR3 hx3 hbl hxl hq3
  obtain ⟨W4, hW4⟩ : ∃ W4 : World, W4 = wq := ⟨_, rfl⟩
  subst hW4
  cases q3
  case true =>
    have HEE := hide (show E = 12 from by rw [← HE.out]; unfold lftE; rw [HQ1.out, if_pos rfl, if_pos (by first | exact HQ2.out | exact of_decide_eq_true HQ2.out)]; exact if_pos (of_decide_eq_true HQ3.out))
    have HB := hide hB4
    clear kx4 hv4 hL4 hR4 hx4 hB4
    go_wp2
    go_ret
    exact RetVr.bad HEE.out (by decide) HB.out
  have c2 : W4.cell? ⟨b, 2, none⟩ = some (.int .i64 (wd : Int)) := by simpa using hv4.blk.cell 2
  have c3 : W4.cell? ⟨b, 3, none⟩ = some (.slice AL nl cL) := by simpa using hv4.blk.cell 3
  have c4 : W4.cell? ⟨b, 4, none⟩ = some (.slice AR nr cR) := by simpa using hv4.blk.cell 4
  have x0 : W4.cell? ⟨xb, 0, none⟩ = some (.int .i64 x.t) := by simpa using kx4.cell 0
  have x1 : W4.cell? ⟨xb, 1, none⟩ = some (.slice x.A x.n x.c) := by simpa using kx4.cell 1
  have hbl := hv4.blk.lt
  have hxl := kx4.lt
  have p2 := fun (p : BW W4) => BW.cell (a := ⟨b, 2, none⟩) hbl c2 p
  have p3 := fun (p : BW W4) => BW.cell (a := ⟨b, 3, none⟩) hbl c3 p
  have px1 := fun (p : BW W4) => BW.cell (a := ⟨xb, 1, none⟩) hxl x1 p
  have hw8 : wd ≤ 8 := hw
  have w1 : IntKind.i64.wrap ((x.n : Int) + (wd : Int)) = (x.n : Int) + (wd : Int) := by rw [IntKind.wrap_i64]; omega
  by_cases h8 : 8 < x.n + wd
  · have d8 : decide ((8 : Int) < (x.n : Int) + (wd : Int)) = true := decide_eq_true (by omega)
    have d9 : decide (8 < x.n + wd) = true := decide_eq_true h8
    have HEE := hide (show E = 4 from by
      rw [← HE.out]; unfold lftE; rw [HQ1.out, if_pos rfl, if_pos HQ2.out, if_neg (of_decide_eq_false HQ3.out)]
      have h3 : x.r.length = x.n := hsz
      rw [show decide (8 < x.r.length + wd) = true from by rw [h3]; exact d9, Bool.true_or, if_pos rfl])
    clear c2 c3 c4 x0 x1 h8
    go_wp2_with fail
    (refine wp_region_quiet_bw (by kernel_rfl) (by kernel_rfl) ?_
     repeat (first | go_big_quiet_step ((fail)) | quiet_step ((fail)))
     refine wpQuiet_nil ?_
     intro wq hw'
     obtain ⟨⟨_, hbq⟩, hw''⟩ := hw'
     subst hw'')
    have HB := hide (bstep hB4 hbq)
    clear kx4 hv4 hL4 hR4 hx4 hB4 hbq p2 p3 px1
    go_wp2
    go_ret
    exact RetVr.bad HEE.out (by decide) HB.out
  have d8 : decide ((8 : Int) < (x.n : Int) + (wd : Int)) = false := decide_eq_false (by omega)
  have d9 : decide (8 < x.n + wd) = false := decide_eq_false h8
  by_cases h4 : 400 ≤ nl
  · have e4 : ((nl : Int) == 400) = true := by simp; omega
    have e6 : (nl == 400) = true := by simp; omega
    have e5 : decide (400 ≤ nl) = true := decide_eq_true h4
    have HEE := hide (show E = 4 from by
      rw [← HE.out]; unfold lftE; rw [HQ1.out, if_pos rfl, if_pos HQ2.out, if_neg (of_decide_eq_false HQ3.out), e5, Bool.or_true, if_pos rfl])
    clear c2 c3 c4 x0 x1 h8 h4
    go_wp2_with fail
    (refine wp_region_quiet_bw (by kernel_rfl) (by kernel_rfl) ?_
     repeat (first | go_big_quiet_step ((fail)) | quiet_step ((fail)))
     refine wpQuiet_nil ?_
     intro wq hw'
     obtain ⟨⟨_, hbq⟩, hw''⟩ := hw'
     subst hw'')
    have HB := hide (bstep hB4 hbq)
    clear kx4 hv4 hL4 hR4 hx4 hB4 hbq p2 p3 px1
    go_wp2
    go_ret
    exact RetVr.bad HEE.out (by decide) HB.out
  have e4 : ((nl : Int) == 400) = false := by simp; omega
  have e6 : (nl == 400) = false := by simp; omega
  have e5 : decide (400 ≤ nl) = false := decide_eq_false h4
  have HEE := hide (show E = 0 from by
    rw [← HE.out]; unfold lftE; rw [HQ1.out, if_pos rfl, if_pos HQ2.out, if_neg (of_decide_eq_false HQ3.out)]
    have h3 : x.r.length = x.n := hsz
    rw [show decide (8 < x.r.length + wd) = false from by rw [h3]; exact d9, e5]
    rfl)
  clear c2 c3 c4 x0 x1 h8
  go_wp2_with fail
  (refine wp_region_quiet_bw (by kernel_rfl) (by kernel_rfl) ?_
   repeat (first | go_big_quiet_step ((fail)) | quiet_step ((fail)))
   refine wpQuiet_nil ?_
   intro wq hw'
   obtain ⟨⟨_, hbq⟩, hw''⟩ := hw'
   subst hw'')
  have hB5 := bstep hB4 hbq
  have kx5 := kx4.below hbq kx4.lt
  have hv5 := hv4.below hbq
  have hL5 := hL4.below hbq
  have hR5 := hR4.below hbq
  have hx5 := (hx4.below hbq).mono hbq.size
  clear hbq p2 p3 px1 hB4 kx4 hv4 hL4 hR4 hx4 hbl hxl w1
  obtain ⟨W5, hW5⟩ : ∃ W5 : World, W5 = wq := ⟨_, rfl⟩
  subst hW5
  go_upto_region 9 with fail
  refine Held.begin (fun z => z.cell? ⟨b, 3, none⟩ = some (.slice AL nl cL) ∧ z.cell? ⟨xb, 0, none⟩ = some (.int .i64 x.t) ∧ z.cell? ⟨xb, 1, none⟩ = some (.slice x.A x.n x.c)) 10 (by kernel_rfl) ?_
  obtain ⟨X1, hX1⟩ : ∃ X1, W5.drew = X1 := ⟨_, rfl⟩
  have hD : Below W5.heap.size W5 X1 := by rw [← hX1]; exact (Below.refl _ _).drew
  rw [hX1]
  have hB6 := bstep hB5 hD
  have kx6 := kx5.below hD kx5.lt
  have hv6 := hv5.below hD
  have hL6 := hL5.below hD
  have hR6 := hR5.below hD
  have hx6 := (hx5.below hD).mono hD.size
  have hS : X1.cell? ⟨b, 3, none⟩ = some (.slice AL nl cL) ∧ X1.cell? ⟨xb, 0, none⟩ = some (.int .i64 x.t) ∧ X1.cell? ⟨xb, 1, none⟩ = some (.slice x.A x.n x.c) := ⟨by simpa using hv6.blk.cell 3, by simpa using kx6.cell 0, by simpa using kx6.cell 1⟩
  clear hX1 hD hB5 kx5 hv5 hL5 hR5 hx5
  refine Held.take (i := 0) (.pointer (some ⟨b, 0, none⟩)) rfl hS (by kernel_rfl) (by kernel_rfl) (by kernel_rfl) (by kernel_rfl) (fun _ _ _ h => h) rfl (fun y hy => by obtain ⟨x1, x2, x3⟩ := hy; go_simp) ?_
  try simp only [Act.put]
  refine Held.take (i := 1) (.pointer (some ⟨b, 0, none⟩)) rfl hS (by kernel_rfl) (by kernel_rfl) (by kernel_rfl) (by kernel_rfl) (fun _ _ _ h => h) rfl (fun y hy => by obtain ⟨x1, x2, x3⟩ := hy; go_simp) ?_
  try simp only [Act.put]
  refine Held.take (i := 2) (.pointer (some ⟨b, 0, none⟩)) rfl hS (by kernel_rfl) (by kernel_rfl) (by kernel_rfl) (by kernel_rfl) (fun _ _ _ h => h) rfl (fun y hy => by obtain ⟨x1, x2, x3⟩ := hy; go_simp) ?_
  try simp only [Act.put]
  refine Held.take (i := 3) (.pointer (some ⟨b, 3, none⟩)) rfl hS (by kernel_rfl) (by kernel_rfl) (by kernel_rfl) (by kernel_rfl) (fun _ _ _ h => h) rfl (fun y hy => by obtain ⟨x1, x2, x3⟩ := hy; go_simp) ?_
  try simp only [Act.put]
  refine Held.take (i := 4) (.slice AL nl cL) rfl hS (by kernel_rfl) (by kernel_rfl) (by kernel_rfl) (by kernel_rfl) (fun _ _ _ h => h) rfl (fun y hy => by obtain ⟨x1, x2, x3⟩ := hy; go_simp) ?_
  try simp only [Act.put]
  refine Held.take (i := 5) (.agg #[.int .i64 x.t, .slice x.A x.n x.c]) rfl hS (by kernel_rfl) (by kernel_rfl) (by kernel_rfl) (by kernel_rfl) (fun _ _ _ h => h) rfl (fun y hy => by obtain ⟨x1, x2, x3⟩ := hy; go_simp) ?_
  try simp only [Act.put]
  refine Held.one (i := 6) rfl (by kernel_rfl) rfl (fun K hK => ?_)
  unfold Oper.wp
  go_simp
  refine (OwnEvent_any x.t x.A x.n x.c x.r X1 hx6 (by omega)).mono ?_
  rintro e X2 hres
  obtain ⟨Ac, cc, rfl, hrow, hcap, hb⟩ := hres
  have hB7 := bstep hB6 hb
  have kx7 := kx6.below hb kx6.lt
  have hv7 := hv6.below hb
  have hL7 := hL6.below hb
  have hR7 := hR6.below hb
  have hS2 : X2.cell? ⟨b, 3, none⟩ = some (.slice AL nl cL) ∧ X2.cell? ⟨xb, 0, none⟩ = some (.int .i64 x.t) ∧ X2.cell? ⟨xb, 1, none⟩ = some (.slice x.A x.n x.c) := ⟨by simpa using hv7.blk.cell 3, by simpa using kx7.cell 0, by simpa using kx7.cell 1⟩
  refine hK _ _ (fun _ => hS2) ?_
  try simp only [Act.put]
  clear hK K hS hb hB6 kx6 hv6 hL6 hR6 hx6
  have hS := hS2
  clear hS2
  have hB7s : B ≤ X2.heap.size := by have := hB7.size; omega
  refine Held.one (i := 7) rfl (by kernel_rfl) rfl (fun K hK => ?_)
  unfold Oper.wp
  go_simp
  obtain ⟨e1, e2, e3⟩ := hL7.evR' (by omega) HNL.out
  refine (PutEventO_any AL nl cL lx ⟨x.t, Ac, x.n, cc, x.r⟩ X2 e1 e3 (by omega) (hrow.mono (Nat.zero_le _)) B hB7s hL7.rows (hrow.mono (Nat.zero_le _))).mono ?_
  rintro e X3 hres
  obtain ⟨An, nn, cn, ln, rfl, hdn, hOn, hfr, hb⟩ := hres
  have hB8 := bstep hB7 hb
  have kx8 := kx7.below hb kx7.lt
  have hv8 := hv7.below hb
  have hS3 : X3.cell? ⟨b, 3, none⟩ = some (.slice AL nl cL) ∧ X3.cell? ⟨xb, 0, none⟩ = some (.int .i64 x.t) ∧ X3.cell? ⟨xb, 1, none⟩ = some (.slice x.A x.n x.c) := ⟨by simpa using hv8.blk.cell 3, by simpa using kx8.cell 0, by simpa using kx8.cell 1⟩
  refine hK _ _ (fun _ => hS3) ?_
  try simp only [Act.put]
  have hB3 : Bar X3.heap.size [b] X3 (X3.setCell ⟨b, 3, none⟩ (.slice An nn cn)) := (Bar.refl _ _ X3).setCell (p := ⟨b, 3, none⟩) (.inr (by simp)) _
  have hXt : ∀ y ∈ [b], ∀ c fz, X3.heap[y]? ≠ some (.cells c 3 fz) := fun y hy => by
    obtain rfl : y = b := by simpa using hy
    exact blk_not hv8.blk (by decide)
  have HFIN := hide (show RetVr 132 b ⟨k1, k2, k3, on, k5, k6, k7, ot, wd⟩ B (.slice AL nl cL) (.slice AR nr cR) mk lx E (x.t, x.r) w (.returned (.int .i64 0)) (X3.setCell ⟨b, 3, none⟩ (.slice An nn cn)) from by
    rw [HEE.out]
    refine ⟨rfl, ?_⟩
    rw [if_pos rfl]
    refine ⟨.slice An nn cn, ln, ⟨by simpa using hv8.blk.set_ 3 (.slice An nn cn), hv8.on.bar hB3 hXt, hv8.ot.bar hB3 hXt⟩, hOn.bar hB3 (fun g hg hm => ?_) (fun y hy => ?_), hdn, fun g hg => Nat.le_trans hB7.size (hfr g hg), ?_⟩
    · obtain rfl : g = b := by simpa using hm
      exact (own_not hOn.own (t' := 132) (by decide) g (by unfold obl; rw [hg]; simp)).2 _ _ hv8.blk
    · obtain rfl : y = b := by simpa using hy
      exact ⟨hBb, blk_not hv8.blk (by decide), blk_not hv8.blk (by decide)⟩
    · refine (Bar.of_below hB8 _).trans ⟨hB3.os, hB3.tape, hB3.output, hB3.size, fun i hi hp => hB3.block i (Nat.lt_of_lt_of_le hi hB8.size) hp⟩)
  have ff := hv8.blk.frozen 3
  clear hK K hS hb hB7 hB8 kx7 kx8 hv7 hv8 hL7 hR7 hrow hOn hfr hdn hB3 hXt e1 e3
  have hS := hS3
  clear hS3
  refine Held.one (i := 8) rfl (by kernel_rfl) rfl (fun K hK => ?_)
  unfold Oper.wp
  go_simp
  refine hK _ _ (fun _ => hS) ?_
  try simp only [Act.put]
  clear hK K
  refine Held.take (i := 9) (.pointer (some ⟨b, 3, none⟩)) rfl hS (by kernel_rfl) (by kernel_rfl) (by kernel_rfl) (by kernel_rfl) (fun _ _ _ h => h) rfl (fun y hy => by obtain ⟨x1, x2, x3⟩ := hy; go_simp) ?_
  try simp only [Act.put]
  refine Held.one (i := 10) rfl (by kernel_rfl) rfl (fun K hK => ?_)
  have c9 := hS.1
  unfold Oper.wp
  go_simp
  refine hK _ _ (fun h => absurd rfl h) ?_
  try simp only [Act.put]
  clear hK K
  refine Held.done (by kernel_rfl) ?_
  clear hS c9 ff
  go_wp2
  go_ret
  exact HFIN.out
theorem RRight_nil (x : Ev) (w : World) : Calls Tryz.prog 33 #[.pointer none, .agg #[.int .i64 x.t, .slice x.A x.n x.c]] w (fun e w' => e = .returned (.int .i64 1) ∧ Below w.heap.size w w') := by
  have hB := below_val (w := w) #[.int .i64 x.t, .slice x.A x.n x.c] 36
  go_enter Tryz.func33, Tryz.ntmps33
  go_wp2
  go_ret
  exact ⟨rfl, hB⟩
set_option maxRecDepth 100000 in
set_option maxHeartbeats 8000000 in
theorem RRight_any (k : KV) (b : Nat) (vL vR : Value) (mk : Int) (lx rx : List Ev) (B : Nat) (x : Ev) (w : World) (hv : VO w 132 b k vL vR mk) (hBb : B ≤ b) (hL : OE w B vL lx) (hR : OE w B vR rx) (hx : RowK w w.heap.size x.A x.n x.r) (hk : k.n ≤ 1000) (hw : k.wd ≤ 8) (hon : k.on.length = k.n) (h40 : rx.length ≤ 400) :
    Calls Tryz.prog 33 #[.pointer (some ⟨b, 0, none⟩), .agg #[.int .i64 x.t, .slice x.A x.n x.c]] w (RetVt 132 b k B vL vR mk lx rx false (rgtE k.wd mk rx.length (x.t, x.r)) (x.t, x.r) w) := by
  obtain ⟨i0, hi0, hz0, hz1, hz2⟩ := info_parts3 infoEv
  obtain ⟨k1, k2, k3, on, k5, k6, k7, ot, wd⟩ := k
  obtain ⟨E, hE⟩ : ∃ E, rgtE wd mk rx.length (x.t, x.r) = E := ⟨_, rfl⟩
  rw [show rgtE wd mk rx.length (x.t, x.r) = E from hE]
  have HE := hide hE
  obtain ⟨AL, cL, hvL, _⟩ := own_form hL.own
  obtain ⟨AR, cR, hvR, _⟩ := own_form hR.own
  subst hvL hvR
  have hbw : b < w.heap.size := hv.blk.lt
  have hsz := hx.len
  have hxle := hx.le
  have hln := (hL.evR (by omega)).1.le
  have hrn := (hR.evR (by omega)).1.le
  have hBw : B ≤ w.heap.size := by omega
  have hBa := below_val (w := w) #[.int .i64 x.t, .slice x.A x.n x.c] 36
  have kx := Blk.new w 36 #[.int .i64 x.t, .slice x.A x.n x.c]
  have hv1 := hv.below hBa
  have hL1 := hL.below hBa
  have hR1 := hR.below hBa
  have hx1 := (hx.below hBa).mono hBa.size
  have HXB9 := hide (show ∀ g, (Value.slice AR rx.length cR).ownBlock = some g → g ≠ w.heap.size from fun g hg e => by have := (hR.own.lt g hg).2; omega)
  clear hv hL hR hx hE
  obtain ⟨xb, hxb⟩ : ∃ xb, w.heap.size = xb := ⟨_, rfl⟩
  rw [hxb] at kx HXB9
  obtain ⟨nl, hnl⟩ : ∃ nl, lx.length = nl := ⟨_, rfl⟩
  obtain ⟨nr, hnr⟩ : ∃ nr, rx.length = nr := ⟨_, rfl⟩
  rw [hnr] at h40
  rw [hnl] at hv1 hL1 hln ⊢
  rw [hnr] at hv1 hR1 hrn HE HXB9 ⊢
  have HNL := hide hnl
  have HNR := hide hnr
  clear hnl hnr
  go_enter Tryz.func33, Tryz.ntmps33
  go_wp2_with fail
  try rw [hxb]
  obtain ⟨W1, hW1⟩ : ∃ W1, w.alloc (.cells #[.int .i64 x.t, .slice x.A x.n x.c] 36) = W1 := ⟨_, rfl⟩
  rw [hW1] at hBa kx hv1 hL1 hR1 hx1 ⊢
  clear hW1
  obtain ⟨q1, hq1⟩ : ∃ q, okE (x.t, x.r) = q := ⟨_, rfl⟩
  refine (RValidEvent_any x.t x.A x.n x.c x.r W1 hx1).mono ?_
  rintro e W2 ⟨rfl, hb⟩
  have hB2 := bstep hBa hb
  have kx2 := kx.below hb kx.lt
  have hv2 := hv1.below hb
  have hL2 := hL1.below hb
  have hR2 := hR1.below hb
  have hx2 := (hx1.below hb).mono hb.size
  clear hb hBa kx hv1 hL1 hR1 hx1
  rw [hq1]
  have HQ1 := hide hq1
  clear hq1
  cases q1
  · have HEE := hide (show E = 1 from by rw [← HE.out]; unfold rgtE; rw [HQ1.out]; rfl)
    have HB := hide hB2
    clear kx2 hv2 hL2 hR2 hx2 hB2
    go_wp2
    go_ret
    exact RetVt.bad HEE.out (by decide) HB.out
  have hx8 : x.n ≤ 8 := by have := okR_eight (okE_row HQ1.out); have h2 : x.r.length = x.n := hsz; rw [← h2]; exact this
  have c0 : W2.cell? ⟨b, 0, none⟩ = some (.slice k1 k2 k3) := by simpa using hv2.blk.cell 0
  have c2 : W2.cell? ⟨b, 2, none⟩ = some (.int .i64 (wd : Int)) := by simpa using hv2.blk.cell 2
  have c3 : W2.cell? ⟨b, 3, none⟩ = some (.slice AL nl cL) := by simpa using hv2.blk.cell 3
  have c4 : W2.cell? ⟨b, 4, none⟩ = some (.slice AR nr cR) := by simpa using hv2.blk.cell 4
  have c5 : W2.cell? ⟨b, 5, none⟩ = some (.int .i64 mk) := by simpa using hv2.blk.cell 5
  have x0 : W2.cell? ⟨xb, 0, none⟩ = some (.int .i64 x.t) := by simpa using kx2.cell 0
  have x1 : W2.cell? ⟨xb, 1, none⟩ = some (.slice x.A x.n x.c) := by simpa using kx2.cell 1
  have hbl := hv2.blk.lt
  have hxl := kx2.lt
  have p0 := fun (p : BW W2) => BW.cell (a := ⟨b, 0, none⟩) hbl c0 p
  have p2 := fun (p : BW W2) => BW.cell (a := ⟨b, 2, none⟩) hbl c2 p
  have px0 := fun (p : BW W2) => BW.cell (a := ⟨xb, 0, none⟩) hxl x0 p
  have px1 := fun (p : BW W2) => BW.cell (a := ⟨xb, 1, none⟩) hxl x1 p
  clear x0 x1 c0 c2
  obtain ⟨q2, hq2⟩ : ∃ q, ((x.n : Int) != (wd : Int)) = !q := ⟨((x.n : Int) == (wd : Int)), rfl⟩
  have HQ2 := hide (show decide (x.r.length = wd) = q2 from by
    have h3 : x.r.length = x.n := hsz
    rw [h3]
    have h4 : ((x.n : Int) == (wd : Int)) = q2 := by
      have h5 : ((x.n : Int) != (wd : Int)) = !((x.n : Int) == (wd : Int)) := rfl
      rw [h5] at hq2
      cases q2 <;> cases hz : ((x.n : Int) == (wd : Int)) <;> simp_all
    rw [← h4]
    by_cases h : x.n = wd
    · simp [h]
    · have : ¬ (x.n : Int) = (wd : Int) := by omega
      simp [h, this])
  have hq2' : ((x.n : Int) == (wd : Int)) = q2 := by
    have h5 : ((x.n : Int) != (wd : Int)) = !((x.n : Int) == (wd : Int)) := rfl
    rw [h5] at hq2
    cases q2 <;> cases hz : ((x.n : Int) == (wd : Int)) <;> simp_all
  have hq3' : (x.n == wd) = q2 := by
    rw [← hq2']
    by_cases h : x.n = wd
    · simp [h]
    · have : ¬ (x.n : Int) = (wd : Int) := by omega
      rw [show (x.n == wd) = false from by simpa using h, show ((x.n : Int) == (wd : Int)) = false from by simpa using this]
  have hq4' : decide (x.n = wd) = q2 := by
    rw [← hq3']
    by_cases h : x.n = wd
    · simp [h]
    · simp [h]
  go_wp2_with fail
  (refine wp_region_quiet_bw (by kernel_rfl) (by kernel_rfl) ?_
   repeat (first | go_big_quiet_step ((fail)) | quiet_step ((fail)))
   refine wpQuiet_nil ?_
   intro wq hw'
   obtain ⟨⟨_, hbq⟩, hw''⟩ := hw'
   subst hw'')
  clear hq2 hq2' hq3' hq4'
  have hB3 := bstep hB2 hbq
  have kx3 := kx2.below hbq kx2.lt
  have hv3 := hv2.below hbq
  have hL3 := hL2.below hbq
  have hR3 := hR2.below hbq
  have hx3 := (hx2.below hbq).mono hbq.size
  clear hbq p0 p2 px0 px1 hB2 kx2 hv2 hL2 hR2 hx2 hbl hxl c3 c4 c5
  obtain ⟨W3, hW3⟩ : ∃ W3 : World, W3 = wq := ⟨_, rfl⟩
  subst hW3
  cases q2
  · have HEE := hide (show E = 9 from by rw [← HE.out]; unfold rgtE; rw [HQ1.out, if_pos rfl]; exact if_neg (fun h => by have h2 := HQ2.out; simp_all))
    have HB := hide hB3
    clear kx3 hv3 hL3 hR3 hx3 hB3
    go_wp2
    go_ret
    exact RetVt.bad HEE.out (by decide) HB.out
  have c0 : W3.cell? ⟨b, 0, none⟩ = some (.slice k1 k2 k3) := by simpa using hv3.blk.cell 0
  have c2 : W3.cell? ⟨b, 2, none⟩ = some (.int .i64 (wd : Int)) := by simpa using hv3.blk.cell 2
  have c3 : W3.cell? ⟨b, 3, none⟩ = some (.slice AL nl cL) := by simpa using hv3.blk.cell 3
  have c4 : W3.cell? ⟨b, 4, none⟩ = some (.slice AR nr cR) := by simpa using hv3.blk.cell 4
  have c5 : W3.cell? ⟨b, 5, none⟩ = some (.int .i64 mk) := by simpa using hv3.blk.cell 5
  have x0 : W3.cell? ⟨xb, 0, none⟩ = some (.int .i64 x.t) := by simpa using kx3.cell 0
  have x1 : W3.cell? ⟨xb, 1, none⟩ = some (.slice x.A x.n x.c) := by simpa using kx3.cell 1
  have hbl := hv3.blk.lt
  have hxl := kx3.lt
  have p2 := fun (p : BW W3) => BW.cell (a := ⟨b, 2, none⟩) hbl c2 p
  have p3 := fun (p : BW W3) => BW.cell (a := ⟨b, 4, none⟩) hbl c4 p
  have p5 := fun (p : BW W3) => BW.cell (a := ⟨b, 5, none⟩) hbl c5 p
  have px0 := fun (p : BW W3) => BW.cell (a := ⟨xb, 0, none⟩) hxl x0 p
  have px1 := fun (p : BW W3) => BW.cell (a := ⟨xb, 1, none⟩) hxl x1 p
  obtain ⟨q3, hq3⟩ : ∃ q, decide (x.t < mk) = q := ⟨_, rfl⟩
  have HQ3 := hide hq3
  clear c0 c2 c3 c4 c5 x0 x1
  go_wp2_with fail
  (refine wp_region_quiet_bw (by kernel_rfl) (by kernel_rfl) ?_
   repeat (first | go_big_quiet_step ((fail)) | quiet_step ((fail)))
   refine wpQuiet_nil ?_
   intro wq hw'
   obtain ⟨⟨_, hbq⟩, hw''⟩ := hw'
   subst hw'')
  have hB4 := bstep hB3 hbq
  have kx4 := kx3.below hbq kx3.lt
  have hv4 := hv3.below hbq
  have hL4 := hL3.below hbq
  have hR4 := hR3.below hbq
  have hx4 := (hx3.below hbq).mono hbq.size
  clear hbq p2 p3 p5 px0 px1 hB3 kx3 hv3 hL3 hR3 hx3 hbl hxl hq3
  obtain ⟨W4, hW4⟩ : ∃ W4 : World, W4 = wq := ⟨_, rfl⟩
  subst hW4
  cases q3
  case true =>
    have HEE := hide (show E = 12 from by rw [← HE.out]; unfold rgtE; rw [HQ1.out, if_pos rfl, if_pos (by first | exact HQ2.out | exact of_decide_eq_true HQ2.out)]; exact if_pos (of_decide_eq_true HQ3.out))
    have HB := hide hB4
    clear kx4 hv4 hL4 hR4 hx4 hB4
    go_wp2
    go_ret
    exact RetVt.bad HEE.out (by decide) HB.out
  have c2 : W4.cell? ⟨b, 2, none⟩ = some (.int .i64 (wd : Int)) := by simpa using hv4.blk.cell 2
  have c3 : W4.cell? ⟨b, 3, none⟩ = some (.slice AL nl cL) := by simpa using hv4.blk.cell 3
  have c4 : W4.cell? ⟨b, 4, none⟩ = some (.slice AR nr cR) := by simpa using hv4.blk.cell 4
  have x0 : W4.cell? ⟨xb, 0, none⟩ = some (.int .i64 x.t) := by simpa using kx4.cell 0
  have x1 : W4.cell? ⟨xb, 1, none⟩ = some (.slice x.A x.n x.c) := by simpa using kx4.cell 1
  have hbl := hv4.blk.lt
  have hxl := kx4.lt
  have p2 := fun (p : BW W4) => BW.cell (a := ⟨b, 2, none⟩) hbl c2 p
  have p3 := fun (p : BW W4) => BW.cell (a := ⟨b, 4, none⟩) hbl c4 p
  have px1 := fun (p : BW W4) => BW.cell (a := ⟨xb, 1, none⟩) hxl x1 p
  by_cases h4 : 400 ≤ nr
  · have e4 : ((nr : Int) == 400) = true := by simp; omega
    have e6 : (nr == 400) = true := by simp; omega
    have e5 : decide (400 ≤ nr) = true := decide_eq_true h4
    have HEE := hide (show E = 4 from by
      rw [← HE.out]; unfold rgtE; rw [HQ1.out, if_pos rfl, if_pos (of_decide_eq_true HQ2.out), if_neg (of_decide_eq_false HQ3.out), if_pos h4])
    have HB := hide hB4
    clear kx4 hv4 hL4 hR4 hx4 hB4 p2 p3 px1 h4
    go_wp2
    go_ret
    exact RetVt.bad HEE.out (by decide) HB.out
  have e4 : ((nr : Int) == 400) = false := by simp; omega
  have e6 : (nr == 400) = false := by simp; omega
  have e5 : decide (400 ≤ nr) = false := decide_eq_false h4
  have HEE := hide (show E = 0 from by
    rw [← HE.out]; unfold rgtE; rw [HQ1.out, if_pos rfl, if_pos (of_decide_eq_true HQ2.out), if_neg (of_decide_eq_false HQ3.out), if_neg h4])
  have hbq : Below W4.heap.size W4 W4 := Below.refl _ _
  go_upto_region 9 with fail
  obtain ⟨wq, hwq⟩ : ∃ wq : World, wq = W4 := ⟨_, rfl⟩
  rw [← hwq]
  rw [← hwq] at hbq
  have hbq : Below W4.heap.size W4 wq := by rw [hwq]; exact Below.refl _ _
  clear hwq c2 c3 c4 x0 x1
  have hB5 := bstep hB4 hbq
  have kx5 := kx4.below hbq kx4.lt
  have hv5 := hv4.below hbq
  have hL5 := hL4.below hbq
  have hR5 := hR4.below hbq
  have hx5 := (hx4.below hbq).mono hbq.size
  clear hbq p2 p3 px1 hB4 kx4 hv4 hL4 hR4 hx4 hbl hxl
  obtain ⟨W5, hW5⟩ : ∃ W5 : World, W5 = wq := ⟨_, rfl⟩
  subst hW5
  refine Held.begin (fun z => z.cell? ⟨b, 4, none⟩ = some (.slice AR nr cR) ∧ z.cell? ⟨xb, 0, none⟩ = some (.int .i64 x.t) ∧ z.cell? ⟨xb, 1, none⟩ = some (.slice x.A x.n x.c)) 11 (by kernel_rfl) ?_
  obtain ⟨X1, hX1⟩ : ∃ X1, W5.drew = X1 := ⟨_, rfl⟩
  have hD : Below W5.heap.size W5 X1 := by rw [← hX1]; exact (Below.refl _ _).drew
  rw [hX1]
  have hB6 := bstep hB5 hD
  have kx6 := kx5.below hD kx5.lt
  have hv6 := hv5.below hD
  have hL6 := hL5.below hD
  have hR6 := hR5.below hD
  have hx6 := (hx5.below hD).mono hD.size
  have hS : X1.cell? ⟨b, 4, none⟩ = some (.slice AR nr cR) ∧ X1.cell? ⟨xb, 0, none⟩ = some (.int .i64 x.t) ∧ X1.cell? ⟨xb, 1, none⟩ = some (.slice x.A x.n x.c) := ⟨by simpa using hv6.blk.cell 4, by simpa using kx6.cell 0, by simpa using kx6.cell 1⟩
  clear hX1 hD hB5 kx5 hv5 hL5 hR5 hx5
  refine Held.take (i := 0) (.pointer (some ⟨b, 0, none⟩)) rfl hS (by kernel_rfl) (by kernel_rfl) (by kernel_rfl) (by kernel_rfl) (fun _ _ _ h => h) rfl (fun y hy => by obtain ⟨x1, x2, x3⟩ := hy; go_simp) ?_
  try simp only [Act.put]
  refine Held.take (i := 1) (.pointer (some ⟨b, 0, none⟩)) rfl hS (by kernel_rfl) (by kernel_rfl) (by kernel_rfl) (by kernel_rfl) (fun _ _ _ h => h) rfl (fun y hy => by obtain ⟨x1, x2, x3⟩ := hy; go_simp) ?_
  try simp only [Act.put]
  refine Held.take (i := 2) (.pointer (some ⟨b, 0, none⟩)) rfl hS (by kernel_rfl) (by kernel_rfl) (by kernel_rfl) (by kernel_rfl) (fun _ _ _ h => h) rfl (fun y hy => by obtain ⟨x1, x2, x3⟩ := hy; go_simp) ?_
  try simp only [Act.put]
  refine Held.take (i := 3) (.pointer (some ⟨b, 4, none⟩)) rfl hS (by kernel_rfl) (by kernel_rfl) (by kernel_rfl) (by kernel_rfl) (fun _ _ _ h => h) rfl (fun y hy => by obtain ⟨x1, x2, x3⟩ := hy; go_simp) ?_
  try simp only [Act.put]
  refine Held.take (i := 4) (.slice AR nr cR) rfl hS (by kernel_rfl) (by kernel_rfl) (by kernel_rfl) (by kernel_rfl) (fun _ _ _ h => h) rfl (fun y hy => by obtain ⟨x1, x2, x3⟩ := hy; go_simp) ?_
  try simp only [Act.put]
  refine Held.take (i := 5) (.agg #[.int .i64 x.t, .slice x.A x.n x.c]) rfl hS (by kernel_rfl) (by kernel_rfl) (by kernel_rfl) (by kernel_rfl) (fun _ _ _ h => h) rfl (fun y hy => by obtain ⟨x1, x2, x3⟩ := hy; go_simp) ?_
  try simp only [Act.put]
  refine Held.one (i := 6) rfl (by kernel_rfl) rfl (fun K hK => ?_)
  unfold Oper.wp
  go_simp
  refine (OwnEvent_any x.t x.A x.n x.c x.r X1 hx6 (by omega)).mono ?_
  rintro e X2 hres
  obtain ⟨Ac, cc, rfl, hrow, hcap, hb⟩ := hres
  have hB7 := bstep hB6 hb
  have kx7 := kx6.below hb kx6.lt
  have hv7 := hv6.below hb
  have hL7 := hL6.below hb
  have hR7 := hR6.below hb
  have hS2 : X2.cell? ⟨b, 4, none⟩ = some (.slice AR nr cR) ∧ X2.cell? ⟨xb, 0, none⟩ = some (.int .i64 x.t) ∧ X2.cell? ⟨xb, 1, none⟩ = some (.slice x.A x.n x.c) := ⟨by simpa using hv7.blk.cell 4, by simpa using kx7.cell 0, by simpa using kx7.cell 1⟩
  refine hK _ _ (fun _ => hS2) ?_
  try simp only [Act.put]
  clear hK K hS hb hB6 kx6 hv6 hL6 hR6 hx6
  have hS := hS2
  clear hS2
  have hB7s : B ≤ X2.heap.size := by have := hB7.size; omega
  have hxX : xb < X2.heap.size := kx7.lt
  have hxO : ∀ g, (Value.slice AR nr cR).ownBlock = some g → g ≠ xb := fun g hg e => by
    subst e
    exact HXB9.out g hg rfl
  refine Held.one (i := 7) rfl (by kernel_rfl) rfl (fun K hK => ?_)
  have kv := Blk.new X2 36 #[.int .i64 x.t, .slice Ac x.n cc]
  have hBv := below_val (w := X2) #[.int .i64 x.t, .slice Ac x.n cc] 36
  have HS3 := hide (show (X2.alloc (.cells #[.int .i64 x.t, .slice Ac x.n cc] 36)).cell? ⟨b, 4, none⟩ = some (.slice AR nr cR) ∧ (X2.alloc (.cells #[.int .i64 x.t, .slice Ac x.n cc] 36)).cell? ⟨xb, 0, none⟩ = some (.int .i64 x.t) ∧ (X2.alloc (.cells #[.int .i64 x.t, .slice Ac x.n cc] 36)).cell? ⟨xb, 1, none⟩ = some (.slice x.A x.n x.c) from ⟨by simpa using (hv7.below hBv).blk.cell 4, by simpa using (kx7.below hBv kx7.lt).cell 0, by simpa using (kx7.below hBv kx7.lt).cell 1⟩)
  unfold Oper.wp
  go_simp
  refine hK _ _ (fun _ => HS3.out) ?_
  try simp only [Act.put]
  clear hK K hS
  refine Held.one (i := 8) rfl (by kernel_rfl) rfl (fun K hK => ?_)
  have hrd : Reads (X2.alloc (.cells #[.int .i64 x.t, .slice Ac x.n cc] 36)) (X2.heap.size + 1) 2 (some ⟨X2.heap.size, 0, none⟩) 1 [.int .i64 x.t, .slice Ac x.n cc] :=
    ⟨rfl, fun _ => ⟨X2.heap.size, 0, rfl, by omega, fun j u hu => by rw [Nat.zero_add, kv.cell j]; simpa using hu⟩⟩
  have hown7 := hR7.own
  rw [HNR.out] at hown7
  refine wp_append_any _ _ _ 25 rfl B 36 i0 _ 2 32 Tryz.underlying25 hi0 hz0 hz1 hz2 rfl (by decide) (.slice AR nr cR) nr _ rfl (hown7.alloc _) (X2.heap.size + 1) (some ⟨X2.heap.size, 0, none⟩) 1 1 [.int .i64 x.t, .slice Ac x.n cc] rfl hrd (by simp [Value.oneCell']) (by unfold maxLen; omega) (by omega) (by simp; omega) ?_
  intro v' X4 hown1 hgrow hvo
  have HVF := hide (show ∃ A' n' c', v' = .slice A' n' c' from by
    obtain ⟨A', c', h, _⟩ := own_form hown1
    exact ⟨A', _, c', h⟩)
  have hrow0 : RowK X2 B Ac x.n x.r := hrow.mono (Nat.zero_le _)
  obtain ⟨g1, g2, g3, g4, g5⟩ := vo_push (j := 4) (e' := ⟨x.t, Ac, x.n, cc, x.r⟩) hv7.blk (by decide) (by decide) hBb hB7s hR7 hrow0 (by rw [HNR.out]; exact hown1) hgrow hvo
  have kx8 : Blk X4 xb 36 #[.int .i64 x.t, .slice x.A x.n x.c] := (kx7.alloc _).grown hgrow (fun e => hxO xb e.symm rfl)
  have HS4 := hide (show X4.cell? ⟨b, 4, none⟩ = some (.slice AR nr cR) ∧ X4.cell? ⟨xb, 0, none⟩ = some (.int .i64 x.t) ∧ X4.cell? ⟨xb, 1, none⟩ = some (.slice x.A x.n x.c) from ⟨by simpa using g1.cell 4, by simpa using kx8.cell 0, by simpa using kx8.cell 1⟩)
  have hon4 := hv7.on
  have hot4 := hv7.ot
  have hXt : ∀ y ∈ b :: obl (Value.slice AR nr cR), ∀ c fz, X2.heap[y]? ≠ some (.cells c 3 fz) := fun y hy => by
    rcases List.mem_cons.1 hy with rfl | hy
    · exact blk_not hv7.blk (by decide)
    · exact (own_not hR7.own (by decide) y hy).2
  have HFIN := hide (show RetVt 132 b ⟨k1, k2, k3, on, k5, k6, k7, ot, wd⟩ B (.slice AL nl cL) (.slice AR nr cR) mk lx rx false E (x.t, x.r) w (.returned (.int .i64 0)) (X4.setCell ⟨b, 4, none⟩ v') from by
    rw [HEE.out]
    refine ⟨rfl, ?_⟩
    rw [if_pos rfl]
    refine ⟨v', ⟨x.t, Ac, x.n, cc, x.r⟩, ⟨by simpa using g5, hon4.bar g3 hXt, hot4.bar g3 hXt⟩, g2, rfl, hcap, ?_, ?_⟩
    · rcases g4 with h | h
      · exact .inl h
      · exact .inr fun g hg => Nat.le_trans hB7.size (h g hg)
    · refine (Bar.of_below hB7 _).trans ⟨g3.os, g3.tape, g3.output, g3.size, fun i hi hp => g3.block i (Nat.lt_of_lt_of_le hi hB7.size) hp⟩)
  have ff := g1.frozen 4
  refine hK _ _ (fun _ => HS4.out) ?_
  try simp only [Act.put]
  clear hK K HS3 hL7 g1 g2 g3 g4 g5 kx7 kx8 hv7 hR7 hown7 hown1 hgrow hvo hrow0 hrow hrd kv hBv hon4 hot4 hXt hB7
  have hS := HS4.out
  refine Held.one (i := 9) rfl (by kernel_rfl) rfl (fun K hK => ?_)
  unfold Oper.wp
  go_simp
  refine hK _ _ (fun _ => hS) ?_
  try simp only [Act.put]
  clear hK K
  refine Held.take (i := 10) (.pointer (some ⟨b, 4, none⟩)) rfl hS (by kernel_rfl) (by kernel_rfl) (by kernel_rfl) (by kernel_rfl) (fun _ _ _ h => h) rfl (fun y hy => by obtain ⟨x1, x2, x3⟩ := hy; go_simp) ?_
  try simp only [Act.put]
  obtain ⟨A', n', c', hvf⟩ := HVF.out
  subst hvf
  refine Held.one (i := 11) rfl (by kernel_rfl) rfl (fun K hK => ?_)
  have c9 := hS.1
  unfold Oper.wp
  go_simp
  refine hK _ _ (fun h => absurd rfl h) ?_
  try simp only [Act.put]
  clear hK K
  refine Held.done (by kernel_rfl) ?_
  clear hS HS4 c9 ff
  go_wp2
  go_ret
  exact HFIN.out
end

section
open Go.RowKit
attribute [local go_sem] Oper.semAt_some wide_fn wide_depth
set_option linter.unusedVariables false
set_option linter.unusedSimpArgs false

theorem own_base' {w : World} {base B k : Nat} {e : TypeId} {size : Nat} {v : Value} {xs : List Value} (h : w.ownsRow base e size v k xs) (hB : B ≤ base) : w.ownsRow B e size v k xs := by
  refine ⟨h.1, ?_⟩
  rcases h.2 with h1 | ⟨g, cap, cur, h1, h2, h3⟩
  · exact .inl h1
  · exact .inr ⟨g, cap, cur, h1, Nat.le_trans hB h2, h3⟩
/-- What Mark of a versioner leaves behind. -/
def RetVm (P : List Ev → Prop) (t : TypeId) (b : Nat) (k : KV) (B : Nat) (vR : Value) (mk m : Int) (L R : List Te) (w : World) (e : Ending) (w' : World) : Prop :=
  if mrkE mk m = 0 then (∃ A n c out v' l', e = .returned (.tuple #[.slice A n c, .int .i64 0]) ∧ VO w' t b k v' vR m ∧ OE w' B v' l' ∧ dE l' = L ∧ P l' ∧ (∀ g, v'.ownBlock = some g → w.heap.size ≤ g) ∧ (Reads w' w'.heap.size 2 A n (out.flatMap encEv) ∧ RowsE w' B out ∧ n ≤ c ∧ ∀ g off mm, A = some ⟨g, off, mm⟩ → w.heap.size ≤ g) ∧ dE out = R ∧ Bar w.heap.size [b] w w')
  else e = .returned (.tuple #[.slice none 0 0, .int .i64 (mrkE mk m)]) ∧ Below w.heap.size w w'
theorem VMark_nil (m : Int) (w : World) : Calls Tryz.prog 34 #[.pointer none, .int .i64 m] w (fun e w' => e = .returned (.tuple #[.slice none 0 0, .int .i64 1]) ∧ Below w.heap.size w w') := by
  go_enter Tryz.func34, Tryz.ntmps34
  go_wp2
  refine bodyPost_ret (results_tmp2 rfl _ _ _) rfl ?_
  exact ⟨rfl, Below.refl _ _⟩
/-- An event is appended to a list of the call's own. -/
theorem own_grown {X X4 : World} {N : Nat} {v v2 : Value} {l l2 : List Ev} {o : Obj} (hl : X.ownsRow N 36 2 v l.length (l.flatMap encEv)) (h2 : X.ownsRow N 36 2 v2 l2.length (l2.flatMap encEv)) (hap : ∀ g, v.ownBlock = some g → v2.ownBlock ≠ some g) (hg : (X.alloc o).grownBy X4 v.ownBlock) :
    X4.ownsRow N 36 2 v2 l2.length (l2.flatMap encEv) :=
  (h2.alloc o).kept hg (by
    cases hv : v2.ownBlock with
    | none => exact .inl rfl
    | some b => exact .inr fun e => hap b e.symm hv)
theorem ver_here {on ot : List Int} {wd : Nat} {lx rx : List Ev} (hl : ∀ x ∈ lx, okE (x.t, x.r) = true ∧ hasC x.r on = true ∧ x.r.length + wd ≤ 8) (hr : ∀ y ∈ rx, okE (y.t, y.r) = true ∧ y.r.length = wd) {z : Te} (hz : z ∈ dE lx) : okR (verO on ot wd z (dE rx)).2 = true := by
  obtain ⟨i, hi, rfl⟩ := List.mem_map.1 hz
  obtain ⟨a1, a2, a3⟩ := hl i hi
  refine ver_okR (okE_row a1) (fun y hy => ?_) (fun y hy => ?_) a3
  · obtain ⟨u, hu, rfl⟩ := List.mem_map.1 hy
    exact okE_row (hr u hu).1
  · obtain ⟨u, hu, rfl⟩ := List.mem_map.1 hy
    exact (hr u hu).2
/-- What lies in memory when an event was appended to the rest. -/
theorem fin_rest {X X4 : World} {N B : Nat} {v v2 v' : Value} {l l2 : List Ev} {x : Ev} {o : Obj} (hBN : B ≤ N) (h2 : X.ownsRow N 36 2 v2 l2.length (l2.flatMap encEv)) (hl : X.ownsRow N 36 2 v l.length (l.flatMap encEv)) (hap : ∀ g, v.ownBlock = some g → v2.ownBlock ≠ some g) (hr2 : RowsE X B l2) (hr : RowsE X B l) (hx : RowK X B x.A x.n x.r)
    (hown : X4.ownsRow N 36 2 v' (l.length + 1) (l.flatMap encEv ++ encEv x)) (hg : (X.alloc o).grownBy X4 v.ownBlock) (hvo : v'.ownBlock = v.ownBlock ∨ v'.ownBlock = some (X.alloc o).heap.size) :
    X4.ownsRow N 36 2 v2 l2.length (l2.flatMap encEv) ∧ X4.ownsRow N 36 2 v' (l ++ [x]).length ((l ++ [x]).flatMap encEv) ∧ (∀ g, v2.ownBlock = some g → v'.ownBlock ≠ some g) ∧ RowsE X4 B l2 ∧ RowsE X4 B (l ++ [x]) := by
  refine ⟨own_grown hl h2 hap hg, ?_, fun g hg2 hh => ?_, fun i hi => ((hr2 i hi).alloc o).grown (hl.alloc o) (by decide) hBN hg, fun i hi => ?_⟩
  · rw [List.length_append, List.flatMap_append]
    have e1 : [x].flatMap encEv = encEv x := by simp
    rw [e1]
    exact hown
  · rcases hvo with h | h
    · exact hap g (h.symm.trans hh) hg2
    · rw [h] at hh
      injection hh with hh
      have := (h2.lt g hg2).2
      rw [World.size_alloc] at hh
      omega
  · rcases List.mem_append.1 hi with hi | hi
    · exact ((hr i hi).alloc o).grown (hl.alloc o) (by decide) hBN hg
    · obtain rfl : i = x := by simpa using hi
      exact (hx.alloc o).grown (hl.alloc o) (by decide) hBN hg
set_option maxRecDepth 100000 in
set_option maxHeartbeats 16000000 in
theorem VMark_any (k : KV) (b : Nat) (vL vR : Value) (mk m : Int) (lx rx : List Ev) (B : Nat) (w : World) (hv : VO w 130 b k vL vR mk) (hBb : B ≤ b) (hL : OE w B vL lx) (hR : OE w B vR rx) (hK : VtK k.on k.others k.wd) (hk : k.n ≤ 1000) (hk' : k.n' ≤ 1000)
    (hll : lx.length ≤ 400) (hrl : rx.length ≤ 400) (hokl : ∀ x ∈ lx, okE (x.t, x.r) = true ∧ hasC x.r k.on = true ∧ x.r.length + k.wd ≤ 8) (hokr : ∀ y ∈ rx, okE (y.t, y.r) = true ∧ y.r.length = k.wd) (hcl : ∀ x ∈ lx, x.n ≤ x.c) (hcr : ∀ x ∈ rx, x.n ≤ x.c) (w0 : World) (ht : Tab w0) (hw0 : Below w0.heap.size w0 w) (hb0 : w0.heap.size ≤ b) :
    Calls Tryz.prog 34 #[.pointer (some ⟨b, 0, none⟩), .int .i64 m] w (RetVm (fun l => ∀ e ∈ l, e.n ≤ e.c) 130 b k B vR mk m (restV m (dE lx)) (outV k.on k.others k.wd m (dE lx) (dE rx)) w) := by
  obtain ⟨i0, hi0, hz0, hz1, hz2⟩ := info_parts3 infoEv
  obtain ⟨k1, k2, k3, on, k5, k6, k7, ot, wd⟩ := k
  obtain ⟨AL, cL, hvL, _⟩ := own_form hL.own
  obtain ⟨AR, cR, hvR, _⟩ := own_form hR.own
  subst hvL hvR
  obtain ⟨nl, hnl⟩ : ∃ nl, lx.length = nl := ⟨_, rfl⟩
  obtain ⟨nr, hnr⟩ : ∃ nr, rx.length = nr := ⟨_, rfl⟩
  rw [hnl] at hv hL hll
  rw [hnr] at hv hR hrl ⊢
  have HNL := hide hnl
  have HNR := hide hnr
  have HK := hide hK
  have HOL := hide hokl
  have HOR := hide hokr
  have HCL := hide hcl
  have HCR := hide hcr
  have HT := hide ht
  have hbw := hv.blk.lt
  have hwd : wd ≤ 8 := hK.w8
  obtain ⟨Rs, hRs⟩ : ∃ Rs, restV m (dE lx) = Rs := ⟨_, rfl⟩
  obtain ⟨Os, hOs⟩ : ∃ Os, outV on ot wd m (dE lx) (dE rx) = Os := ⟨_, rfl⟩
  have HRS := hide hRs
  have HOS := hide hOs
  rw [hRs]
  rw [show outV (KV.mk k1 k2 k3 on k5 k6 k7 ot wd).on (KV.mk k1 k2 k3 on k5 k6 k7 ot wd).others (KV.mk k1 k2 k3 on k5 k6 k7 ot wd).wd m (dE lx) (dE rx) = Os from hOs]
  clear hnl hnr hK hokl hokr hcl hcr ht hRs hOs
  have c5 : w.cell? ⟨b, 5, none⟩ = some (.int .i64 mk) := by simpa using hv.blk.cell 5
  go_enter Tryz.func34, Tryz.ntmps34
  go_wp2_with fail
  refine (pwithin_any m mk 1000000000001 w).mono ?_
  rintro e w' ⟨rfl, rfl⟩
  cases hq : btw m mk 1000000000001
  · have HE := hide (show mrkE mk m = 7 from by unfold mrkE; rw [hq]; rfl)
    clear hq hv hL hR c5
    go_wp2
    refine bodyPost_ret (results_tmp2 rfl _ _ _) rfl ?_
    unfold RetVm
    rw [HE.out, if_neg (by decide)]
    exact ⟨rfl, Below.refl _ _⟩
  · have HE := hide (show mrkE mk m = 0 from by unfold mrkE; rw [hq]; rfl)
    have f5 := hv.blk.frozen 5
    have hBar0 : Bar w.heap.size [b] w (w.setCell ⟨b, 5, none⟩ (.int .i64 m)) := (Bar.refl _ _ w).setCell (p := ⟨b, 5, none⟩) (.inr (by simp)) _
    have hXs : XsOk w B [b] := fun y hy => by
      obtain rfl : y = b := by simpa using hy
      exact ⟨hBb, blk_not hv.blk (by decide), blk_not hv.blk (by decide)⟩
    have hnb : ∀ {v : Value} {l : List Ev}, OE w B v l → ∀ g, v.ownBlock = some g → g ∉ [b] := fun h g hg hm => by
      obtain rfl : g = b := by simpa using hm
      exact (own_not h.own (t' := 130) (by decide) g (by unfold obl; rw [hg]; simp)).2 _ _ hv.blk
    have hL1 := hL.bar hBar0 (hnb hL) hXs
    have hR1 := hR.bar hBar0 (hnb hR) hXs
    have hblk1 := hv.blk.set_ 5 (.int .i64 m)
    have hon1 := hv.on.bar hBar0 (fun y hy => (hXs y hy).2.2)
    have hot1 := hv.ot.bar hBar0 (fun y hy => (hXs y hy).2.2)
    have hs1 : (w.setCell ⟨b, 5, none⟩ (.int .i64 m)).heap.size = w.heap.size := by simp [World.setCell]
    have ht1 : Tab (w.setCell ⟨b, 5, none⟩ (.int .i64 m)) := HT.out.below (hw0.setCell (p := ⟨b, 5, none⟩) hb0 _)
    have c3 : (w.setCell ⟨b, 5, none⟩ (.int .i64 m)).cell? ⟨b, 3, none⟩ = some (.slice AL nl cL) := by simpa using hblk1.cell 3
    have hl1 : (w.setCell ⟨b, 5, none⟩ (.int .i64 m)).heap.size = w.heap.size := hs1
    go_upto_region 8 with fail
    obtain ⟨W1, hW1⟩ : ∃ W1, w.setCell ⟨b, 5, none⟩ (.int .i64 m) = W1 := ⟨_, rfl⟩
    rw [hW1] at hBar0 hL1 hR1 hblk1 hon1 hot1 hs1 ht1 c3 ⊢
    have hblk2 : Blk W1 b 130 #[.slice k1 k2 k3, .slice k5 k6 k7, .int .i64 (wd : Int), .slice AL nl cL, .slice AR nr cR, .int .i64 m] := by simpa using hblk1
    obtain ⟨e1, g1, g2⟩ := hL1.evR (by omega)
    obtain ⟨e3, g3, g4⟩ := hR1.evR (by omega)
    clear g1 g2 g3 g4
    have EL := hide e1
    have ER := hide e3
    have HB0 := hide hBar0
    have HV1 := hide hblk2
    have HON := hide hon1
    have HOT := hide hot1
    have HT1 := hide ht1
    have HL1 := hide hL1
    have HR1 := hide hR1
    clear hW1 hv hL hR hBar0 hL1 hR1 hblk1 hblk2 hon1 hot1 ht1 c3 c5 f5 hXs hnb hl1 e1 e3 hq
    have bk0 : Below W1.heap.size W1 W1 := Below.refl _ _
    go_loopw [6, 7, 30] (fun vo vr i wr => ∃ (j : Nat) (lo lr : List Ev), j ≤ nl ∧ i = .int .i64 j ∧ wr.ownsRow W1.heap.size 36 2 vo lo.length (lo.flatMap encEv) ∧ wr.ownsRow W1.heap.size 36 2 vr lr.length (lr.flatMap encEv) ∧ (∀ g, vo.ownBlock = some g → vr.ownBlock ≠ some g) ∧ RowsE wr B lo ∧ RowsE wr B lr ∧
      dE lo = (((dE lx).take j).filter (belowM m)).map (fun x => verO on ot wd x (dE rx)) ∧ dE lr = restV m ((dE lx).take j) ∧ (∀ e ∈ lr, e.n ≤ e.c) ∧ Below W1.heap.size W1 wr) (fun _ _ i _ => nl - (intOf i).toNat)
    case atStart => exact ⟨0, [], [], Nat.zero_le _, rfl, World.ownsRow_nil _ _ _ _, World.ownsRow_nil _ _ _ _, nofun, (by intro i hi; cases hi), (by intro i hi; cases hi), rfl, rfl, (by intro i hi; cases hi), bk0⟩
    case round =>
      clear bk0
      obtain ⟨j, lo, lr, hj, rfl, hown, hownr, hap, hro, hrr, hdo, hdr, hcpr, hBr⟩ := hrel
      have HDO := hide hdo
      have HDR := hide hdr
      have hlo : lo.length ≤ 400 := by
        have h1 := congrArg List.length hdo
        rw [dE_len, List.length_map] at h1
        have h2 := List.length_filter_le (belowM m) ((dE lx).take j)
        rw [List.length_take, dE_len] at h2
        have := HNL.out
        omega
      have hlr : lr.length ≤ 400 := by
        have h1 := congrArg List.length hdr
        unfold restV at h1
        rw [dE_len] at h1
        have h2 := List.length_filter_le (fun x => !belowM m x) ((dE lx).take j)
        rw [List.length_take, dE_len] at h2
        have := HNL.out
        omega
      clear hdo hdr
      by_cases hlt : j < nl
      · have q1 : (0 : Int) ≤ (j : Int) := by omega
        have q2 : (j : Int) < (nl : Int) := by omega
        obtain ⟨bx, ox, x, hA, hbx, hxk, e0, e1, hrx⟩ := (EL.out.step' hBr).at_ hlt
        have hxin := List.mem_of_getElem? hxk
        obtain ⟨hox, hhx, hx8⟩ := HOL.out x hxin
        have hcx := HCL.out x hxin
        have hlx := hrx.len
        have HTK := hide (show (dE lx).take (j + 1) = (dE lx).take j ++ [(x.t, x.r)] from take_snoc' (dE_at hxk))
        have hxB : RowK wr B x.A x.n x.r := (HL1.out.rows x hxin).below hBr
        rw [hA]
        have HA := hide hA
        have hba := below_val (w := wr) #[.int .i64 x.t, .slice x.A x.n x.c] 36
        have kx := Blk.new wr 36 #[.int .i64 x.t, .slice x.A x.n x.c]
        have hown1 := own_below hown hba
        have hownr1 := own_below hownr hba
        have hro1 := hro.below hba
        have hrr1 := hrr.below hba
        have hrx1 := (hrx.below hba).mono hba.size
        have hxB1 := hxB.below hba
        have bk1 := bstep hBr hba
        obtain ⟨Ao, co, hvo, _⟩ := own_form hown
        obtain ⟨Ar, cr, hvr, _⟩ := own_form hownr
        subst hvo hvr
        go_upto_region 10 with fail
        obtain ⟨W2, hW2⟩ : ∃ W2, wr.alloc (.cells #[.int .i64 x.t, .slice x.A x.n x.c] 36) = W2 := ⟨_, rfl⟩
        rw [hW2] at kx hown1 hownr1 hro1 hrr1 hrx1 hxB1 bk1 ⊢
        obtain ⟨xb, hxb⟩ : ∃ xb, wr.heap.size = xb := ⟨_, rfl⟩
        rw [hxb] at kx ⊢
        have hs2 := hBr.size
        have x0 : W2.cell? ⟨xb, 0, none⟩ = some (.int .i64 x.t) := by simpa using kx.cell 0
        have x1 : W2.cell? ⟨xb, 1, none⟩ = some (.slice x.A x.n x.c) := by simpa using kx.cell 1
        have hs22 := bk1.size
        have HXO9 : ∀ g, (Value.slice Ao lo.length co).ownBlock = some g → g ≠ xb := fun g hg e => by have := (hown.lt g hg).2; omega
        clear hW2 hba hxk hxin hA hown hownr hro hrr hrx hxB hBr e0 e1
        by_cases hm : x.t < m
        · have d1 : decide (x.t < m) = true := decide_eq_true hm
          have HDO2 := hide (show (((dE lx).take (j + 1)).filter (belowM m)).map (fun x => verO on ot wd x (dE rx)) = dE lo ++ [verO on ot wd (x.t, x.r) (dE rx)] from by
            rw [HTK.out, List.filter_append, List.map_append, HDO.out]
            have e : ([(x.t, x.r)].filter (belowM m)) = [(x.t, x.r)] := by simp [belowM, hm]
            rw [e]; rfl)
          have HDR2 := hide (show restV m ((dE lx).take (j + 1)) = dE lr from by
            rw [HTK.out, HDR.out]
            unfold restV
            rw [List.filter_append]
            have e : ([(x.t, x.r)].filter fun x => !belowM m x) = [] := by simp [belowM, hm]
            rw [e, List.append_nil])
          clear hm
          go_upto_region 11 with fail
          have hblk := HV1.out.below bk1 HV1.out.lt
          refine Held.begin (fun z => z.cell? ⟨b, 0, none⟩ = some (.slice k1 k2 k3) ∧ z.cell? ⟨b, 1, none⟩ = some (.slice k5 k6 k7) ∧ z.cell? ⟨b, 2, none⟩ = some (.int .i64 (wd : Int)) ∧ z.cell? ⟨b, 4, none⟩ = some (.slice AR nr cR) ∧ z.cell? ⟨xb, 0, none⟩ = some (.int .i64 x.t) ∧ z.cell? ⟨xb, 1, none⟩ = some (.slice x.A x.n x.c)) 100 (by kernel_rfl) ?_
          obtain ⟨X1, hX1⟩ : ∃ X1, W2.drew = X1 := ⟨_, rfl⟩
          have hD : Below W2.heap.size W2 X1 := by rw [← hX1]; exact (Below.refl _ _).drew
          rw [hX1]
          have kx3 := kx.below hD kx.lt
          have hblk3 := hblk.below hD hblk.lt
          have hown3 := own_below hown1 hD
          have hownr3 := own_below hownr1 hD
          have hro3 := hro1.below hD
          have hrr3 := hrr1.below hD
          have hrx3 := (hrx1.below hD).mono hD.size
          have bk3 := bstep bk1 hD
          have hS : X1.cell? ⟨b, 0, none⟩ = some (.slice k1 k2 k3) ∧ X1.cell? ⟨b, 1, none⟩ = some (.slice k5 k6 k7) ∧ X1.cell? ⟨b, 2, none⟩ = some (.int .i64 (wd : Int)) ∧ X1.cell? ⟨b, 4, none⟩ = some (.slice AR nr cR) ∧ X1.cell? ⟨xb, 0, none⟩ = some (.int .i64 x.t) ∧ X1.cell? ⟨xb, 1, none⟩ = some (.slice x.A x.n x.c) := ⟨by simpa using hblk3.cell 0, by simpa using hblk3.cell 1, by simpa using hblk3.cell 2, by simpa using hblk3.cell 4, by simpa using kx3.cell 0, by simpa using kx3.cell 1⟩
          clear hX1 hD kx hblk hown1 hownr1 hro1 hrr1 hrx1 hxB1 bk1 x0 x1 d1
          refine Held.take (i := 0) (.slice Ao lo.length co) rfl hS (by kernel_rfl) (by kernel_rfl) (by kernel_rfl) (by kernel_rfl) (fun _ _ _ h => h) rfl (fun y hy => by obtain ⟨x1, x2, x3, x4, x5, x6⟩ := hy; go_simp) ?_
          try simp only [Act.put]
          refine Held.take (i := 1) (.pointer (some ⟨b, 0, none⟩)) rfl hS (by kernel_rfl) (by kernel_rfl) (by kernel_rfl) (by kernel_rfl) (fun _ _ _ h => h) rfl (fun y hy => by obtain ⟨x1, x2, x3, x4, x5, x6⟩ := hy; go_simp) ?_
          try simp only [Act.put]
          refine Held.take (i := 2) (.pointer (some ⟨b, 0, none⟩)) rfl hS (by kernel_rfl) (by kernel_rfl) (by kernel_rfl) (by kernel_rfl) (fun _ _ _ h => h) rfl (fun y hy => by obtain ⟨x1, x2, x3, x4, x5, x6⟩ := hy; go_simp) ?_
          try simp only [Act.put]
          refine Held.take (i := 3) (.pointer (some ⟨b, 0, none⟩)) rfl hS (by kernel_rfl) (by kernel_rfl) (by kernel_rfl) (by kernel_rfl) (fun _ _ _ h => h) rfl (fun y hy => by obtain ⟨x1, x2, x3, x4, x5, x6⟩ := hy; go_simp) ?_
          try simp only [Act.put]
          refine Held.take (i := 4) (.agg #[.slice k1 k2 k3, .slice k5 k6 k7]) rfl hS (by kernel_rfl) (by kernel_rfl) (by kernel_rfl) (by kernel_rfl) (fun _ _ _ h => h) rfl (fun y hy => by obtain ⟨x1, x2, x3, x4, x5, x6⟩ := hy; go_simp) ?_
          try simp only [Act.put]
          refine Held.take (i := 5) (.pointer (some ⟨b, 0, none⟩)) rfl hS (by kernel_rfl) (by kernel_rfl) (by kernel_rfl) (by kernel_rfl) (fun _ _ _ h => h) rfl (fun y hy => by obtain ⟨x1, x2, x3, x4, x5, x6⟩ := hy; go_simp) ?_
          try simp only [Act.put]
          refine Held.take (i := 6) (.pointer (some ⟨b, 0, none⟩)) rfl hS (by kernel_rfl) (by kernel_rfl) (by kernel_rfl) (by kernel_rfl) (fun _ _ _ h => h) rfl (fun y hy => by obtain ⟨x1, x2, x3, x4, x5, x6⟩ := hy; go_simp) ?_
          try simp only [Act.put]
          refine Held.take (i := 7) (.pointer (some ⟨b, 2, none⟩)) rfl hS (by kernel_rfl) (by kernel_rfl) (by kernel_rfl) (by kernel_rfl) (fun _ _ _ h => h) rfl (fun y hy => by obtain ⟨x1, x2, x3, x4, x5, x6⟩ := hy; go_simp) ?_
          try simp only [Act.put]
          refine Held.take (i := 8) (.int .i64 (wd : Int)) rfl hS (by kernel_rfl) (by kernel_rfl) (by kernel_rfl) (by kernel_rfl) (fun _ _ _ h => h) rfl (fun y hy => by obtain ⟨x1, x2, x3, x4, x5, x6⟩ := hy; go_simp) ?_
          try simp only [Act.put]
          refine Held.take (i := 9) (.agg #[.int .i64 x.t, .slice x.A x.n x.c]) rfl hS (by kernel_rfl) (by kernel_rfl) (by kernel_rfl) (by kernel_rfl) (fun _ _ _ h => h) rfl (fun y hy => by obtain ⟨x1, x2, x3, x4, x5, x6⟩ := hy; go_simp) ?_
          try simp only [Act.put]
          refine Held.take (i := 10) (.pointer (some ⟨b, 0, none⟩)) rfl hS (by kernel_rfl) (by kernel_rfl) (by kernel_rfl) (by kernel_rfl) (fun _ _ _ h => h) rfl (fun y hy => by obtain ⟨x1, x2, x3, x4, x5, x6⟩ := hy; go_simp) ?_
          try simp only [Act.put]
          refine Held.take (i := 11) (.pointer (some ⟨b, 0, none⟩)) rfl hS (by kernel_rfl) (by kernel_rfl) (by kernel_rfl) (by kernel_rfl) (fun _ _ _ h => h) rfl (fun y hy => by obtain ⟨x1, x2, x3, x4, x5, x6⟩ := hy; go_simp) ?_
          try simp only [Act.put]
          refine Held.take (i := 12) (.pointer (some ⟨b, 4, none⟩)) rfl hS (by kernel_rfl) (by kernel_rfl) (by kernel_rfl) (by kernel_rfl) (fun _ _ _ h => h) rfl (fun y hy => by obtain ⟨x1, x2, x3, x4, x5, x6⟩ := hy; go_simp) ?_
          try simp only [Act.put]
          refine Held.take (i := 13) (.slice AR nr cR) rfl hS (by kernel_rfl) (by kernel_rfl) (by kernel_rfl) (by kernel_rfl) (fun _ _ _ h => h) rfl (fun y hy => by obtain ⟨x1, x2, x3, x4, x5, x6⟩ := hy; go_simp) ?_
          try simp only [Act.put]
          refine Held.one (i := 14) rfl (by kernel_rfl) rfl (fun K hK => ?_)
          have HNW := hide ((callsIn_wide (n := 4)).1 (newest_any k1 k2 k3 on k5 k6 k7 ot wd x AR nr cR rx X1 (HON.out.below bk3).rd (HOT.out.below bk3).rd hk hk' hwd hrx3 (ER.out.step' bk3) (by omega) hcx HCR.out (HT1.out.below bk3) hox (fun y hy => (HOR.out y hy).1) hhx (fun y hy => hasC_wide (width := (wd : Int)) (by have h9 : y.r.length = wd := (HOR.out y hy).2; rw [h9]) HK.out.ot) (fun y hy => by rw [← (HR1.out.rows y hy).len]; exact (HOR.out y hy).2)))
          unfold Oper.wp
          go_simp
          refine HNW.out.mono ?_
          rintro e X2 hres
          obtain ⟨Ac, nc, cc, rfl, hrow, hcap, hb⟩ := hres
          have kx4 := kx3.below hb kx3.lt
          have hblk4 := hblk3.below hb hblk3.lt
          have hown4 := own_below hown3 hb
          have hownr4 := own_below hownr3 hb
          have hro4 := hro3.below hb
          have hrr4 := hrr3.below hb
          have bk4 := bstep bk3 hb
          have hS2 : X2.cell? ⟨b, 0, none⟩ = some (.slice k1 k2 k3) ∧ X2.cell? ⟨b, 1, none⟩ = some (.slice k5 k6 k7) ∧ X2.cell? ⟨b, 2, none⟩ = some (.int .i64 (wd : Int)) ∧ X2.cell? ⟨b, 4, none⟩ = some (.slice AR nr cR) ∧ X2.cell? ⟨xb, 0, none⟩ = some (.int .i64 x.t) ∧ X2.cell? ⟨xb, 1, none⟩ = some (.slice x.A x.n x.c) := ⟨by simpa using hblk4.cell 0, by simpa using hblk4.cell 1, by simpa using hblk4.cell 2, by simpa using hblk4.cell 4, by simpa using kx4.cell 0, by simpa using kx4.cell 1⟩
          refine hK _ _ (fun _ => hS2) ?_
          try simp only [Act.put]
          clear hK K hS hb kx3 hblk3 hown3 hownr3 hro3 hrr3 hrx3 bk3 HNW
          have hS := hS2
          clear hS2
          obtain ⟨T, hT⟩ : ∃ T, verO on ot wd (x.t, x.r) (dE rx) = T := ⟨_, rfl⟩
          rw [hT] at hrow HDO2 ⊢
          have htt : T.1 = x.t := by rw [← hT]; rfl
          have HTT := hide htt
          clear hT htt
          refine Held.one (i := 15) rfl (by kernel_rfl) rfl (fun K hK => ?_)
          have kv := Blk.new X2 36 #[.int .i64 T.1, .slice Ac nc cc]
          have hBv := below_val (w := X2) #[.int .i64 T.1, .slice Ac nc cc] 36
          have kx5 := kx4.below hBv kx4.lt
          have hblk5 := hblk4.below hBv hblk4.lt
          have HS3 := hide (show (X2.alloc (.cells #[.int .i64 T.1, .slice Ac nc cc] 36)).cell? ⟨b, 0, none⟩ = some (.slice k1 k2 k3) ∧ (X2.alloc (.cells #[.int .i64 T.1, .slice Ac nc cc] 36)).cell? ⟨b, 1, none⟩ = some (.slice k5 k6 k7) ∧ (X2.alloc (.cells #[.int .i64 T.1, .slice Ac nc cc] 36)).cell? ⟨b, 2, none⟩ = some (.int .i64 (wd : Int)) ∧ (X2.alloc (.cells #[.int .i64 T.1, .slice Ac nc cc] 36)).cell? ⟨b, 4, none⟩ = some (.slice AR nr cR) ∧ (X2.alloc (.cells #[.int .i64 T.1, .slice Ac nc cc] 36)).cell? ⟨xb, 0, none⟩ = some (.int .i64 x.t) ∧ (X2.alloc (.cells #[.int .i64 T.1, .slice Ac nc cc] 36)).cell? ⟨xb, 1, none⟩ = some (.slice x.A x.n x.c) from ⟨by simpa using hblk5.cell 0, by simpa using hblk5.cell 1, by simpa using hblk5.cell 2, by simpa using hblk5.cell 4, by simpa using kx5.cell 0, by simpa using kx5.cell 1⟩)
          unfold Oper.wp
          go_simp
          refine hK _ _ (fun _ => HS3.out) ?_
          try simp only [Act.put]
          clear hK K hS
          refine Held.one (i := 16) rfl (by kernel_rfl) rfl (fun K hK => ?_)
          have hrd : Reads (X2.alloc (.cells #[.int .i64 T.1, .slice Ac nc cc] 36)) (X2.heap.size + 1) 2 (some ⟨X2.heap.size, 0, none⟩) 1 [.int .i64 T.1, .slice Ac nc cc] :=
            ⟨rfl, fun _ => ⟨X2.heap.size, 0, rfl, by omega, fun q u hu => by rw [Nat.zero_add, kv.cell q]; simpa using hu⟩⟩
          have hs4 := bk4.size
          have hxO : ∀ g, (Value.slice Ao lo.length co).ownBlock = some g → g ≠ xb := fun g hg e => by
            subst e
            exact HXO9 g hg rfl
          refine wp_append_any _ _ _ 25 rfl W1.heap.size 36 i0 _ 2 32 Tryz.underlying25 hi0 hz0 hz1 hz2 rfl (by decide) (.slice Ao lo.length co) lo.length _ rfl (hown4.alloc _) (X2.heap.size + 1) (some ⟨X2.heap.size, 0, none⟩) 1 1 [.int .i64 T.1, .slice Ac nc cc] rfl hrd (by simp [Value.oneCell']) (by unfold maxLen; omega) (by omega) (by simp; omega) ?_
          intro v' X4 hown1 hgrow hvo
          have hcells : ∀ q, q < W1.heap.size → X4.heap[q]? = W1.heap[q]? := fun q hq => by
            rw [hgrow.block q (by rw [World.size_alloc]; omega) (fun e => by have := (hown4.lt q e.symm).1; omega), Below.heap_alloc _ _ _ (by omega)]
            exact bk4.block q hq
          have bk5 : Below W1.heap.size W1 X4 := below_append (bk4.trans (hBv.mono hs4)) (hown4.alloc _) (by simp; omega) hgrow
          have kx6 : Blk X4 xb 36 #[.int .i64 x.t, .slice x.A x.n x.c] := kx5.grown hgrow (fun e => hxO xb e.symm rfl)
          have hblk6 := HV1.out.below bk5 HV1.out.lt
          have hS4 : X4.cell? ⟨b, 0, none⟩ = some (.slice k1 k2 k3) ∧ X4.cell? ⟨b, 1, none⟩ = some (.slice k5 k6 k7) ∧ X4.cell? ⟨b, 2, none⟩ = some (.int .i64 (wd : Int)) ∧ X4.cell? ⟨b, 4, none⟩ = some (.slice AR nr cR) ∧ X4.cell? ⟨xb, 0, none⟩ = some (.int .i64 x.t) ∧ X4.cell? ⟨xb, 1, none⟩ = some (.slice x.A x.n x.c) := ⟨by simpa using hblk6.cell 0, by simpa using hblk6.cell 1, by simpa using hblk6.cell 2, by simpa using hblk6.cell 4, by simpa using kx6.cell 0, by simpa using kx6.cell 1⟩
          have hBs : B ≤ W1.heap.size := by omega
          have HREL := hide (show X4.ownsRow W1.heap.size 36 2 v' (lo ++ [(⟨T.1, Ac, nc, cc, T.2⟩ : Ev)]).length ((lo ++ [(⟨T.1, Ac, nc, cc, T.2⟩ : Ev)]).flatMap encEv) ∧ X4.ownsRow W1.heap.size 36 2 (.slice Ar lr.length cr) lr.length (lr.flatMap encEv) ∧ (∀ g, v'.ownBlock = some g → (Value.slice Ar lr.length cr).ownBlock ≠ some g) ∧ RowsE X4 B (lo ++ [(⟨T.1, Ac, nc, cc, T.2⟩ : Ev)]) ∧ RowsE X4 B lr ∧ dE (lo ++ [(⟨T.1, Ac, nc, cc, T.2⟩ : Ev)]) = (((dE lx).take (j + 1)).filter (belowM m)).map (fun x => verO on ot wd x (dE rx)) ∧ dE lr = restV m ((dE lx).take (j + 1)) ∧ (∀ e ∈ lr, e.n ≤ e.c) ∧ Below W1.heap.size W1 X4 from by
            refine ⟨by rw [List.length_append, List.flatMap_append]; exact hown1, own_grown (l2 := lr) hown4 hownr4 hap hgrow, fun g hg hh => ?_, fun i hi => ?_, fun i hi => ((hrr4 i hi).alloc _).grown (hown4.alloc _) (by decide) hBs hgrow, by rw [HDO2.out, dE_snoc], HDR2.out.symm, hcpr, bk5⟩
            · rcases hvo with h | h
              · exact hap g (h.symm.trans hg) hh
              · rw [h] at hg
                injection hg with hg
                have := (hownr4.lt g hh).2
                rw [World.size_alloc] at hg
                omega
            · rcases List.mem_append.1 hi with hi | hi
              · exact ((hro4 i hi).alloc _).grown (hown4.alloc _) (by decide) hBs hgrow
              · obtain rfl : i = ⟨T.1, Ac, nc, cc, T.2⟩ := by simpa using hi
                exact ((hrow.mono (Nat.zero_le _)).alloc _).grown (hown4.alloc _) (by decide) hBs hgrow)
          refine hK _ _ (fun _ => hS4) ?_
          try simp only [Act.put]
          clear hK K HS3 kx4 kx5 kx6 hblk4 hblk5 hblk6 hown4 hownr4 hro4 hrr4 bk4 bk5 hown1 hgrow hvo hrd kv hBv hrow hcells
          refine Held.one (i := 17) rfl (by kernel_rfl) rfl (fun K hK => ?_)
          unfold Oper.wp
          go_simp
          refine hK _ _ (fun _ => hS4) ?_
          try simp only [Act.put]
          clear hK K
          refine Held.done (by kernel_rfl) ?_
          clear hS4
          go_wp2
          go_roundw
          case rel => exact ⟨j + 1, _, lr, by omega, by go_num, HREL.out⟩
          case measure => simp [intOf]; omega
        · have d1 : decide (x.t < m) = false := decide_eq_false hm
          have HDO2 := hide (show dE lo = (((dE lx).take (j + 1)).filter (belowM m)).map (fun x => verO on ot wd x (dE rx)) from by
            rw [HTK.out, List.filter_append, List.map_append, HDO.out]
            have e : ([(x.t, x.r)].filter (belowM m)) = [] := by simp [belowM, hm]
            rw [e]
            simp)
          have HDR2 := hide (show dE (lr ++ [x]) = restV m ((dE lx).take (j + 1)) from by
            rw [HTK.out, dE_snoc, HDR.out]
            unfold restV
            rw [List.filter_append]
            have e : ([(x.t, x.r)].filter fun x => !belowM m x) = [(x.t, x.r)] := by simp [belowM, hm]
            rw [e])
          have kv := Blk.new W2 36 #[.int .i64 x.t, .slice x.A x.n x.c]
          have hBv := below_val (w := W2) #[.int .i64 x.t, .slice x.A x.n x.c] 36
          have hrd : Reads (W2.alloc (.cells #[.int .i64 x.t, .slice x.A x.n x.c] 36)) (W2.heap.size + 1) 2 (some ⟨W2.heap.size, 0, none⟩) 1 [.int .i64 x.t, .slice x.A x.n x.c] :=
            ⟨rfl, fun _ => ⟨W2.heap.size, 0, rfl, by omega, fun q u hu => by rw [Nat.zero_add, kv.cell q]; simpa using hu⟩⟩
          have HCP2 := hide (show ∀ e ∈ lr ++ [x], e.n ≤ e.c from fun e he => by
            rcases List.mem_append.1 he with he | he
            · exact hcpr e he
            · obtain rfl : e = x := by simpa using he
              exact hcx)
          have hBs : B ≤ W1.heap.size := by omega
          have hap2 : ∀ g, (Value.slice Ar lr.length cr).ownBlock = some g → (Value.slice Ao lo.length co).ownBlock ≠ some g := fun g h1 h2 => hap g h2 h1
          have hownr2 := hownr1.alloc (.cells #[.int .i64 x.t, .slice x.A x.n x.c] 36)
          have HBK := hide (bk1.trans (hBv.mono hs22))
          clear hm kv hBv
          go_wp2_with (at_builtin; refine wpList_append_any _ rfl _ _ 25 rfl W1.heap.size 36 i0 _ 2 32 Tryz.underlying25 hi0 hz0 hz1 hz2 rfl (by decide) (.slice Ar lr.length cr) lr.length _ rfl hownr2 (W2.heap.size + 1) (some ⟨W2.heap.size, 0, none⟩) 1 1 [.int .i64 x.t, .slice x.A x.n x.c] rfl hrd (by simp [Value.oneCell']) (by unfold maxLen; omega) (by omega) (by simp; omega) ?_; intro v3 w3 hown4 hgrow hvo; have HREL := hide (fin_rest (x := x) hBs hown1 hownr1 hap2 hro1 hrr1 hxB1 hown4 hgrow hvo); have hB3 : Below W1.heap.size W1 w3 := below_append HBK.out hownr2 (by simp; omega) hgrow; clear hgrow hvo hown4)
          clear hown1 hownr1 hownr2 hro1 hrr1 hrx1 hxB1 bk1 hrd hap2 x0 x1 kx
          go_wp2
          go_roundw
          case rel => exact ⟨j + 1, lo, lr ++ [x], by omega, by go_num, HREL.out.1, HREL.out.2.1, HREL.out.2.2.1, HREL.out.2.2.2.1, HREL.out.2.2.2.2, HDO2.out, HDR2.out, HCP2.out, hB3⟩
          case measure => simp [intOf]; omega
      · obtain rfl : j = nl := by omega
        rw [List.take_of_length_le (by rw [dE_len, HNL.out]; exact Nat.le_refl _)] at HDO HDR
        obtain ⟨Ao, co, hvo, _⟩ := own_form hown
        obtain ⟨Ar, cr, hvr, _⟩ := own_form hownr
        subst hvo hvr
        have hblk := HV1.out.below hBr HV1.out.lt
        have f3 := hblk.frozen 3
        have c3 : wr.cell? ⟨b, 3, none⟩ = some (.slice AL j cL) := by simpa using hblk.cell 3
        have hs2 := hBr.size
        have hbar : Bar wr.heap.size [b] wr (wr.setCell ⟨b, 3, none⟩ (.slice Ar lr.length cr)) := (Bar.refl _ _ wr).setCell (p := ⟨b, 3, none⟩) (.inr (by simp)) _
        have hXs : XsOk wr B [b] := fun y hy => by
          obtain rfl : y = b := by simpa using hy
          exact ⟨hBb, blk_not hblk (by decide), blk_not hblk (by decide)⟩
        have hOo : OE wr B (.slice Ao lo.length co) lo := ⟨own_base' hown (by omega), hro⟩
        have hOr : OE wr B (.slice Ar lr.length cr) lr := ⟨own_base' hownr (by omega), hrr⟩
        have hnb : ∀ {v : Value} {l : List Ev}, OE wr B v l → ∀ g, v.ownBlock = some g → g ∉ [b] := fun h g hg hm => by
          obtain rfl : g = b := by simpa using hm
          exact (own_not h.own (t' := 130) (by decide) g (by unfold obl; rw [hg]; simp)).2 _ _ hblk
        have hOo2 := hOo.bar hbar (hnb hOo) hXs
        have hOr2 := hOr.bar hbar (hnb hOr) hXs
        have hblk2 : Blk (wr.setCell ⟨b, 3, none⟩ (.slice Ar lr.length cr)) b 130 #[.slice k1 k2 k3, .slice k5 k6 k7, .int .i64 (wd : Int), .slice Ar lr.length cr, .slice AR nr cR, .int .i64 m] := by simpa using hblk.set_ 3 (.slice Ar lr.length cr)
        have hVO : VO (wr.setCell ⟨b, 3, none⟩ (.slice Ar lr.length cr)) 130 b ⟨k1, k2, k3, on, k5, k6, k7, ot, wd⟩ (.slice Ar lr.length cr) (.slice AR nr cR) m := ⟨hblk2, (HON.out.below hBr).bar hbar (fun y hy => (hXs y hy).2.2), (HOT.out.below hBr).bar hbar (fun y hy => (hXs y hy).2.2)⟩
        have hfr : ∀ g, (Value.slice Ar lr.length cr).ownBlock = some g → w.heap.size ≤ g := fun g hg => by have := (hownr.lt g hg).1; omega
        have hall : Bar w.heap.size [b] w (wr.setCell ⟨b, 3, none⟩ (.slice Ar lr.length cr)) := (HB0.out.trans (Bar.of_below (hBr.mono (by omega)) _)).trans ⟨hbar.os, hbar.tape, hbar.output, hbar.size, fun i hi hp => hbar.block i (by omega) hp⟩
        have hofr : ∀ g, (Value.slice Ao lo.length co).ownBlock = some g → W1.heap.size ≤ g := fun g hg => (hown.lt g hg).1
        have hss : (wr.setCell ⟨b, 3, none⟩ (.slice Ar lr.length cr)).heap.size = wr.heap.size := by simp [World.setCell]
        have hap9 := hap
        have hcapo := own_capC hown
        clear hown hownr hro hrr hBr hblk hblk2 hOo hOr hbar hXs hnb hap
        go_upto_region 15 with fail
        obtain ⟨W5, hW5⟩ : ∃ W5, wr.setCell ⟨b, 3, none⟩ (.slice Ar lr.length cr) = W5 := ⟨_, rfl⟩
        rw [hW5] at hOo2 hOr2 hVO hall hss ⊢
        clear hW5 f3 c3
        have HS := hide (SortE_any B lo.length (.slice Ao lo.length co) lo W5 hOo2.own (by omega) 71 #[] (enters_of Tryz.func71 (by kernel_rfl) rfl) (fun x y => cmpE (x.t, x.r) (y.t, y.r)) (swo_tot (Tot.te.comap fun x : Ev => (x.t, x.r)))
          (fun x y W hx hy hb => compare_g x y W ((hOo2.rows.bar hOo2.own (by decide) (Nat.le_refl _) hb x hx).mono (by have := hb.size; omega)) ((hOo2.rows.bar hOo2.own (by decide) (Nat.le_refl _) hb y hy).mono (by have := hb.size; omega))))
        have HOO := hide hOo2
        have HOX := hide hOr2
        have HVO := hide hVO
        have HALL := hide hall
        clear hOo2 hOr2 hVO hall
        go_wp2_with fail
        refine HS.out.mono ?_
        rintro e W6 ⟨rfl, l', A', n', c', hv, hperm, hpw, hrd, hb1⟩
        injection hv with hv1 hv2 hv3
        subst hv1 hv2 hv3
        have hlen : l'.length = lo.length := hperm.length_eq
        have HRES := hide (show RetVm (fun l => ∀ e ∈ l, e.n ≤ e.c) 130 b ⟨k1, k2, k3, on, k5, k6, k7, ot, wd⟩ B (.slice AR nr cR) mk m Rs Os w (.returned (.tuple #[.slice Ao lo.length co, .int .i64 0])) W6 from by
          unfold RetVm
          rw [if_pos HE.out]
          have hX : ∀ y ∈ obl (Value.slice Ao lo.length co), W1.heap.size ≤ y := fun y hy => hofr y (by unfold obl at hy; simpa using hy)
          have hXn : ∀ y ∈ obl (Value.slice Ao lo.length co), ∀ c fz, W5.heap[y]? ≠ some (.cells c 3 fz) := fun y hy => (own_not HOO.out.own (by decide) y hy).2
          have hXo : XsOk W5 B (obl (Value.slice Ao lo.length co)) := fun y hy => ⟨by have := hX y hy; omega, (own_not HOO.out.own (by decide) y hy).2, hXn y hy⟩
          refine ⟨_, _, _, l', _, lr, rfl, HVO.out.bar hb1 (fun h => by have := hX b h; omega) hXn, HOX.out.bar hb1 (fun g hg hm => ?_) hXo, by rw [HDR.out, ← HRS.out], hcpr, hfr, ?_, ?_, HALL.out.trans ⟨hb1.os, hb1.tape, hb1.output, hb1.size, fun i hi hp => hb1.block i (by omega) (fun h => by have := hX i h; omega)⟩⟩
          · exact hap9 g (by unfold obl at hm; simpa using hm) hg
          · exact ⟨hrd, fun i hi => HOO.out.rows.bar HOO.out.own (by decide) (Nat.le_refl _) hb1 i (hperm.mem_iff.1 hi), hcapo, fun g off mm e => by
              subst e
              have := hofr g (by simp [Value.ownBlock])
              omega⟩
          · rw [← HOS.out]
            unfold outV
            rw [← HDO.out]
            refine srtG_eq Tot.te (hperm.map _) ?_ (by unfold dE; rw [List.pairwise_map]; exact hpw)
            intro x hx y hy h
            refine cmpE_eq ?_ ?_ h
            · rw [HDO.out] at hx
              obtain ⟨z, hz, rfl⟩ := List.mem_map.1 hx
              exact ver_here HOL.out HOR.out (List.mem_filter.1 hz).1
            · rw [HDO.out] at hy
              obtain ⟨z, hz, rfl⟩ := List.mem_map.1 hy
              exact ver_here HOL.out HOR.out (List.mem_filter.1 hz).1)
        clear hperm hpw hrd hb1
        go_wp2
        refine bodyPost_ret (results_tmp2 rfl _ _ _) rfl ?_
        exact HRES.out
end

section
open Go.RowKit
attribute [local go_sem] Oper.semAt_some wide_fn wide_depth
set_option linter.unusedVariables false
set_option linter.unusedSimpArgs false

theorem own_rebase {w : World} {base N k : Nat} {e : TypeId} {size : Nat} {v : Value} {xs : List Value} (h : w.ownsRow base e size v k xs) (hf : ∀ g, v.ownBlock = some g → N ≤ g) : w.ownsRow N e size v k xs := by
  refine ⟨h.1, ?_⟩
  rcases h.2 with h1 | ⟨g, cap, cur, h1, h2, h3⟩
  · exact .inl h1
  · exact .inr ⟨g, cap, cur, h1, hf g (by rw [h1]; rfl), h3⟩
theorem RMark_nil (m : Int) (w : World) : Calls Tryz.prog 35 #[.pointer none, .int .i64 m] w (fun e w' => e = .returned (.tuple #[.slice none 0 0, .int .i64 1]) ∧ Below w.heap.size w w') := by
  go_enter Tryz.func35, Tryz.ntmps35
  go_wp2
  refine bodyPost_ret (results_tmp2 rfl _ _ _) rfl ?_
  exact ⟨rfl, Below.refl _ _⟩
set_option maxRecDepth 100000 in
set_option maxHeartbeats 16000000 in
theorem RMark_any (k : KV) (b : Nat) (vL vR : Value) (mk m : Int) (lx rx : List Ev) (B : Nat) (w : World) (hv : VO w 132 b k vL vR mk) (hBb : B ≤ b) (hL : OE w B vL lx) (hR : OE w B vR rx) (hK : VtK k.on k.others k.wd) (hk : k.n ≤ 1000) (hk' : k.n' ≤ 1000)
    (hll : lx.length ≤ 400) (hrl : rx.length ≤ 400) (hokl : ∀ x ∈ lx, okE (x.t, x.r) = true ∧ hasC x.r k.on = true ∧ x.r.length + k.wd ≤ 8) (hokr : ∀ y ∈ rx, okE (y.t, y.r) = true ∧ y.r.length = k.wd) :
    Calls Tryz.prog 35 #[.pointer (some ⟨b, 0, none⟩), .int .i64 m] w (RetVm (fun _ => True) 132 b k B vR mk m (restV m (dE lx)) (outV k.on k.others k.wd m (dE lx) (dE rx)) w) := by
  obtain ⟨i0, hi0, hz0, hz1, hz2⟩ := info_parts3 infoEv
  obtain ⟨k1, k2, k3, on, k5, k6, k7, ot, wd⟩ := k
  obtain ⟨AL, cL, hvL, _⟩ := own_form hL.own
  obtain ⟨AR, cR, hvR, _⟩ := own_form hR.own
  subst hvL hvR
  obtain ⟨nl, hnl⟩ : ∃ nl, lx.length = nl := ⟨_, rfl⟩
  obtain ⟨nr, hnr⟩ : ∃ nr, rx.length = nr := ⟨_, rfl⟩
  have hknn : k2 = k6 := by
    have h1 : on.length = k2 := hv.on.rd.len1
    have h2 : ot.length = k6 := hv.ot.rd.len1
    have h3 := hK.fit
    unfold fitK at h3
    rw [Bool.and_eq_true, decide_eq_true_eq] at h3
    have h4 : on.length = ot.length := h3.1
    omega
  have HKN := hide hknn
  clear hknn
  rw [hnl] at hv hL hll
  rw [hnr] at hv hR hrl ⊢
  have HNL := hide hnl
  have HNR := hide hnr
  have HK := hide hK
  have HOL := hide hokl
  have HOR := hide hokr
  have hbw := hv.blk.lt
  have hwd : wd ≤ 8 := hK.w8
  obtain ⟨Rs, hRs⟩ : ∃ Rs, restV m (dE lx) = Rs := ⟨_, rfl⟩
  obtain ⟨Os, hOs⟩ : ∃ Os, outV on ot wd m (dE lx) (dE rx) = Os := ⟨_, rfl⟩
  have HRS := hide hRs
  have HOS := hide hOs
  rw [hRs]
  rw [show outV (KV.mk k1 k2 k3 on k5 k6 k7 ot wd).on (KV.mk k1 k2 k3 on k5 k6 k7 ot wd).others (KV.mk k1 k2 k3 on k5 k6 k7 ot wd).wd m (dE lx) (dE rx) = Os from hOs]
  clear hnl hnr hK hokl hokr hRs hOs
  have c5 : w.cell? ⟨b, 5, none⟩ = some (.int .i64 mk) := by simpa using hv.blk.cell 5
  go_enter Tryz.func35, Tryz.ntmps35
  go_wp2_with fail
  refine (R9within_any m mk 1000000000001 w).mono ?_
  rintro e w' ⟨rfl, rfl⟩
  cases hq : btw m mk 1000000000001
  · have HE := hide (show mrkE mk m = 7 from by unfold mrkE; rw [hq]; rfl)
    clear hq hv hL hR c5
    go_wp2
    refine bodyPost_ret (results_tmp2 rfl _ _ _) rfl ?_
    unfold RetVm
    rw [HE.out, if_neg (by decide)]
    exact ⟨rfl, Below.refl _ _⟩
  · have HE := hide (show mrkE mk m = 0 from by unfold mrkE; rw [hq]; rfl)
    obtain ⟨e1, g1, g2⟩ := hL.evR (by omega)
    obtain ⟨e3, g3, g4⟩ := hR.evR (by omega)
    clear g1 g2 g3 g4
    have EL := hide e1
    have ER := hide e3
    have HV1 := hide hv.blk
    have HON := hide hv.on
    have HOT := hide hv.ot
    have HL1 := hide hL
    have HR1 := hide hR
    clear hv hL hR c5 e1 e3 hq
    have bk0 : Below w.heap.size w w := Below.refl _ _
    go_wp2_with fail
    go_loopw [6, 7, 8] (fun vo vr i wr => ∃ (j : Nat) (lo lr : List Ev), j ≤ nl ∧ i = .int .i64 j ∧ wr.ownsRow w.heap.size 36 2 vo lo.length (lo.flatMap encEv) ∧ wr.ownsRow w.heap.size 36 2 vr lr.length (lr.flatMap encEv) ∧ (∀ g, vo.ownBlock = some g → vr.ownBlock ≠ some g) ∧ RowsE wr B lo ∧ RowsE wr B lr ∧
      dE lo = srtG cmpE ((((dE lx).take j).filter (belowM m)).map (fun x => verO on ot wd x (dE rx))) ∧ dE lr = restV m ((dE lx).take j) ∧ Below w.heap.size w wr) (fun _ _ i _ => nl - (intOf i).toNat)
    case atStart => exact ⟨0, [], [], Nat.zero_le _, rfl, World.ownsRow_nil _ _ _ _, World.ownsRow_nil _ _ _ _, nofun, (by intro i hi; cases hi), (by intro i hi; cases hi), rfl, rfl, bk0⟩
    case round =>
      clear bk0
      obtain ⟨j, lo, lr, hj, rfl, hown, hownr, hap, hro, hrr, hdo, hdr, hBr⟩ := hrel
      have HDO := hide hdo
      have HDR := hide hdr
      have hlo : lo.length ≤ 400 := by
        have h1 := congrArg List.length hdo
        rw [dE_len, srtG_len Tot.te, List.length_map] at h1
        have h2 := List.length_filter_le (belowM m) ((dE lx).take j)
        rw [List.length_take, dE_len] at h2
        have := HNL.out
        omega
      have hlr : lr.length ≤ 400 := by
        have h1 := congrArg List.length hdr
        unfold restV at h1
        rw [dE_len] at h1
        have h2 := List.length_filter_le (fun x => !belowM m x) ((dE lx).take j)
        rw [List.length_take, dE_len] at h2
        have := HNL.out
        omega
      clear hdo hdr
      have hblk0 := HV1.out.below hBr HV1.out.lt
      have c3 : wr.cell? ⟨b, 3, none⟩ = some (.slice AL nl cL) := by simpa using hblk0.cell 3
      by_cases hlt : j < nl
      · have q1 : (0 : Int) ≤ (j : Int) := by omega
        have q2 : (j : Int) < (nl : Int) := by omega
        obtain ⟨bx, ox, x, hA, hbx, hxk, e0, e1, hrx⟩ := (EL.out.step' hBr).at_ hlt
        have hxin := List.mem_of_getElem? hxk
        obtain ⟨hox, hhx, hx8⟩ := HOL.out x hxin
        have hlx := hrx.len
        have hxn8 : x.n ≤ 8 := by have h9 : x.r.length + wd ≤ 8 := hx8; omega
        have HTK := hide (show (dE lx).take (j + 1) = (dE lx).take j ++ [(x.t, x.r)] from take_snoc' (dE_at hxk))
        have hxB : RowK wr B x.A x.n x.r := (HL1.out.rows x hxin).below hBr
        rw [hA] at c3
        have HA := hide hA
        have hba := below_val (w := wr) #[.int .i64 x.t, .slice x.A x.n x.c] 36
        have kx := Blk.new wr 36 #[.int .i64 x.t, .slice x.A x.n x.c]
        have hown1 := own_below hown hba
        have hownr1 := own_below hownr hba
        have hro1 := hro.below hba
        have hrr1 := hrr.below hba
        have hrx1 := (hrx.below hba).mono hba.size
        have hxB1 := hxB.below hba
        have bk1 := bstep hBr hba
        obtain ⟨Ao, co, hvo, _⟩ := own_form hown
        obtain ⟨Ar, cr, hvr, _⟩ := own_form hownr
        subst hvo hvr
        have HXO9 : ∀ g, (Value.slice Ao lo.length co).ownBlock = some g → g ≠ wr.heap.size := fun g hg e => by have := (hown.lt g hg).2; omega
        go_upto_region 10 with fail
        obtain ⟨W2, hW2⟩ : ∃ W2, wr.alloc (.cells #[.int .i64 x.t, .slice x.A x.n x.c] 36) = W2 := ⟨_, rfl⟩
        rw [hW2] at kx hown1 hownr1 hro1 hrr1 hrx1 hxB1 bk1 ⊢
        obtain ⟨xb, hxb⟩ : ∃ xb, wr.heap.size = xb := ⟨_, rfl⟩
        rw [hxb] at kx HXO9 ⊢
        have hs2 := hBr.size
        have x0 : W2.cell? ⟨xb, 0, none⟩ = some (.int .i64 x.t) := by simpa using kx.cell 0
        have x1 : W2.cell? ⟨xb, 1, none⟩ = some (.slice x.A x.n x.c) := by simpa using kx.cell 1
        have hs22 := bk1.size
        clear hW2 hba hxk hxin hA hown hownr hro hrr hrx hxB hBr e0 e1 hblk0 c3
        by_cases hm : x.t < m
        · have d1 : decide (m ≤ x.t) = false := decide_eq_false (by omega)
          have d2 : ¬ m ≤ x.t := by omega
          have HDO2 := hide (show srtG cmpE ((((dE lx).take (j + 1)).filter (belowM m)).map (fun x => verO on ot wd x (dE rx))) = stepG cmpE (dE lo) (verO on ot wd (x.t, x.r) (dE rx)) from by
            rw [HTK.out, List.filter_append, List.map_append, HDO.out, ← srtG_snoc]
            have e : ([(x.t, x.r)].filter (belowM m)) = [(x.t, x.r)] := by simp [belowM, hm]
            rw [e]; rfl)
          have HDR2 := hide (show restV m ((dE lx).take (j + 1)) = dE lr from by
            rw [HTK.out, HDR.out]
            unfold restV
            rw [List.filter_append]
            have e : ([(x.t, x.r)].filter fun x => !belowM m x) = [] := by simp [belowM, hm]
            rw [e, List.append_nil])
          clear hm
          go_upto_region 12 with fail
          have hblk := HV1.out.below bk1 HV1.out.lt
          refine Held.begin (fun z => z.cell? ⟨b, 0, none⟩ = some (.slice k1 k2 k3) ∧ z.cell? ⟨b, 1, none⟩ = some (.slice k5 k6 k7) ∧ z.cell? ⟨b, 2, none⟩ = some (.int .i64 (wd : Int)) ∧ z.cell? ⟨b, 4, none⟩ = some (.slice AR nr cR) ∧ z.cell? ⟨xb, 0, none⟩ = some (.int .i64 x.t) ∧ z.cell? ⟨xb, 1, none⟩ = some (.slice x.A x.n x.c)) 100 (by kernel_rfl) ?_
          obtain ⟨X1, hX1⟩ : ∃ X1, W2.drew = X1 := ⟨_, rfl⟩
          have hD : Below W2.heap.size W2 X1 := by rw [← hX1]; exact (Below.refl _ _).drew
          rw [hX1]
          have kx3 := kx.below hD kx.lt
          have hblk3 := hblk.below hD hblk.lt
          have hown3 := own_below hown1 hD
          have hownr3 := own_below hownr1 hD
          have hro3 := hro1.below hD
          have hrr3 := hrr1.below hD
          have hrx3 := (hrx1.below hD).mono hD.size
          have bk3 := bstep bk1 hD
          have hS : X1.cell? ⟨b, 0, none⟩ = some (.slice k1 k2 k3) ∧ X1.cell? ⟨b, 1, none⟩ = some (.slice k5 k6 k7) ∧ X1.cell? ⟨b, 2, none⟩ = some (.int .i64 (wd : Int)) ∧ X1.cell? ⟨b, 4, none⟩ = some (.slice AR nr cR) ∧ X1.cell? ⟨xb, 0, none⟩ = some (.int .i64 x.t) ∧ X1.cell? ⟨xb, 1, none⟩ = some (.slice x.A x.n x.c) := ⟨by simpa using hblk3.cell 0, by simpa using hblk3.cell 1, by simpa using hblk3.cell 2, by simpa using hblk3.cell 4, by simpa using kx3.cell 0, by simpa using kx3.cell 1⟩
          clear hX1 hD kx hblk hown1 hownr1 hro1 hrr1 hrx1 hxB1 bk1 x0 x1 d1 d2
          refine Held.take (i := 0) (.slice Ao lo.length co) rfl hS (by kernel_rfl) (by kernel_rfl) (by kernel_rfl) (by kernel_rfl) (fun _ _ _ h => h) rfl (fun y hy => by obtain ⟨x1, x2, x3, x4, x5, x6⟩ := hy; go_simp) ?_
          try simp only [Act.put]
          refine Held.take (i := 1) (.pointer (some ⟨xb, 0, none⟩)) rfl hS (by kernel_rfl) (by kernel_rfl) (by kernel_rfl) (by kernel_rfl) (fun _ _ _ h => h) rfl (fun y hy => by obtain ⟨x1, x2, x3, x4, x5, x6⟩ := hy; go_simp) ?_
          try simp only [Act.put]
          refine Held.take (i := 2) (.int .i64 x.t) rfl hS (by kernel_rfl) (by kernel_rfl) (by kernel_rfl) (by kernel_rfl) (fun _ _ _ h => h) rfl (fun y hy => by obtain ⟨x1, x2, x3, x4, x5, x6⟩ := hy; go_simp) ?_
          try simp only [Act.put]
          refine Held.take (i := 3) (.pointer (some ⟨xb, 1, none⟩)) rfl hS (by kernel_rfl) (by kernel_rfl) (by kernel_rfl) (by kernel_rfl) (fun _ _ _ h => h) rfl (fun y hy => by obtain ⟨x1, x2, x3, x4, x5, x6⟩ := hy; go_simp) ?_
          try simp only [Act.put]
          refine Held.take (i := 4) (.slice x.A x.n x.c) rfl hS (by kernel_rfl) (by kernel_rfl) (by kernel_rfl) (by kernel_rfl) (fun _ _ _ h => h) rfl (fun y hy => by obtain ⟨x1, x2, x3, x4, x5, x6⟩ := hy; go_simp) ?_
          try simp only [Act.put]
          refine Held.take (i := 5) (.pointer (some ⟨b, 0, none⟩)) rfl hS (by kernel_rfl) (by kernel_rfl) (by kernel_rfl) (by kernel_rfl) (fun _ _ _ h => h) rfl (fun y hy => by obtain ⟨x1, x2, x3, x4, x5, x6⟩ := hy; go_simp) ?_
          try simp only [Act.put]
          refine Held.take (i := 6) (.pointer (some ⟨b, 0, none⟩)) rfl hS (by kernel_rfl) (by kernel_rfl) (by kernel_rfl) (by kernel_rfl) (fun _ _ _ h => h) rfl (fun y hy => by obtain ⟨x1, x2, x3, x4, x5, x6⟩ := hy; go_simp) ?_
          try simp only [Act.put]
          refine Held.take (i := 7) (.pointer (some ⟨b, 0, none⟩)) rfl hS (by kernel_rfl) (by kernel_rfl) (by kernel_rfl) (by kernel_rfl) (fun _ _ _ h => h) rfl (fun y hy => by obtain ⟨x1, x2, x3, x4, x5, x6⟩ := hy; go_simp) ?_
          try simp only [Act.put]
          refine Held.take (i := 8) (.slice k1 k2 k3) rfl hS (by kernel_rfl) (by kernel_rfl) (by kernel_rfl) (by kernel_rfl) (fun _ _ _ h => h) rfl (fun y hy => by obtain ⟨x1, x2, x3, x4, x5, x6⟩ := hy; go_simp) ?_
          try simp only [Act.put]
          refine Held.take (i := 9) (.pointer (some ⟨b, 0, none⟩)) rfl hS (by kernel_rfl) (by kernel_rfl) (by kernel_rfl) (by kernel_rfl) (fun _ _ _ h => h) rfl (fun y hy => by obtain ⟨x1, x2, x3, x4, x5, x6⟩ := hy; go_simp) ?_
          try simp only [Act.put]
          refine Held.take (i := 10) (.pointer (some ⟨b, 0, none⟩)) rfl hS (by kernel_rfl) (by kernel_rfl) (by kernel_rfl) (by kernel_rfl) (fun _ _ _ h => h) rfl (fun y hy => by obtain ⟨x1, x2, x3, x4, x5, x6⟩ := hy; go_simp) ?_
          try simp only [Act.put]
          refine Held.take (i := 11) (.pointer (some ⟨b, 1, none⟩)) rfl hS (by kernel_rfl) (by kernel_rfl) (by kernel_rfl) (by kernel_rfl) (fun _ _ _ h => h) rfl (fun y hy => by obtain ⟨x1, x2, x3, x4, x5, x6⟩ := hy; go_simp) ?_
          try simp only [Act.put]
          refine Held.take (i := 12) (.slice k5 k6 k7) rfl hS (by kernel_rfl) (by kernel_rfl) (by kernel_rfl) (by kernel_rfl) (fun _ _ _ h => h) rfl (fun y hy => by obtain ⟨x1, x2, x3, x4, x5, x6⟩ := hy; go_simp) ?_
          try simp only [Act.put]
          refine Held.take (i := 13) (.pointer (some ⟨b, 0, none⟩)) rfl hS (by kernel_rfl) (by kernel_rfl) (by kernel_rfl) (by kernel_rfl) (fun _ _ _ h => h) rfl (fun y hy => by obtain ⟨x1, x2, x3, x4, x5, x6⟩ := hy; go_simp) ?_
          try simp only [Act.put]
          refine Held.take (i := 14) (.pointer (some ⟨b, 0, none⟩)) rfl hS (by kernel_rfl) (by kernel_rfl) (by kernel_rfl) (by kernel_rfl) (fun _ _ _ h => h) rfl (fun y hy => by obtain ⟨x1, x2, x3, x4, x5, x6⟩ := hy; go_simp) ?_
          try simp only [Act.put]
          refine Held.take (i := 15) (.pointer (some ⟨b, 2, none⟩)) rfl hS (by kernel_rfl) (by kernel_rfl) (by kernel_rfl) (by kernel_rfl) (fun _ _ _ h => h) rfl (fun y hy => by obtain ⟨x1, x2, x3, x4, x5, x6⟩ := hy; go_simp) ?_
          try simp only [Act.put]
          refine Held.take (i := 16) (.int .i64 (wd : Int)) rfl hS (by kernel_rfl) (by kernel_rfl) (by kernel_rfl) (by kernel_rfl) (fun _ _ _ h => h) rfl (fun y hy => by obtain ⟨x1, x2, x3, x4, x5, x6⟩ := hy; go_simp) ?_
          try simp only [Act.put]
          refine Held.take (i := 17) (.agg #[.int .i64 x.t, .slice x.A x.n x.c]) rfl hS (by kernel_rfl) (by kernel_rfl) (by kernel_rfl) (by kernel_rfl) (fun _ _ _ h => h) rfl (fun y hy => by obtain ⟨x1, x2, x3, x4, x5, x6⟩ := hy; go_simp) ?_
          try simp only [Act.put]
          refine Held.take (i := 18) (.pointer (some ⟨b, 0, none⟩)) rfl hS (by kernel_rfl) (by kernel_rfl) (by kernel_rfl) (by kernel_rfl) (fun _ _ _ h => h) rfl (fun y hy => by obtain ⟨x1, x2, x3, x4, x5, x6⟩ := hy; go_simp) ?_
          try simp only [Act.put]
          refine Held.take (i := 19) (.pointer (some ⟨b, 0, none⟩)) rfl hS (by kernel_rfl) (by kernel_rfl) (by kernel_rfl) (by kernel_rfl) (fun _ _ _ h => h) rfl (fun y hy => by obtain ⟨x1, x2, x3, x4, x5, x6⟩ := hy; go_simp) ?_
          try simp only [Act.put]
          refine Held.take (i := 20) (.pointer (some ⟨b, 4, none⟩)) rfl hS (by kernel_rfl) (by kernel_rfl) (by kernel_rfl) (by kernel_rfl) (fun _ _ _ h => h) rfl (fun y hy => by obtain ⟨x1, x2, x3, x4, x5, x6⟩ := hy; go_simp) ?_
          try simp only [Act.put]
          refine Held.take (i := 21) (.slice AR nr cR) rfl hS (by kernel_rfl) (by kernel_rfl) (by kernel_rfl) (by kernel_rfl) (fun _ _ _ h => h) rfl (fun y hy => by obtain ⟨x1, x2, x3, x4, x5, x6⟩ := hy; go_simp) ?_
          try simp only [Act.put]
          refine Held.one (i := 22) rfl (by kernel_rfl) rfl (fun K hK => ?_)
          have HNW := hide (newest9_any k1 k2 k3 on k5 k6 k7 ot wd x AR nr cR rx X1 (HON.out.below bk3).rd (HOT.out.below bk3).rd HKN.out hk hwd hrx3 (ER.out.step' bk3) (by omega) hox (fun y hy => (HOR.out y hy).1) hhx (fun y hy => hasC_wide (width := (wd : Int)) (by have h9 : y.r.length = wd := (HOR.out y hy).2; rw [h9]) HK.out.ot))
          unfold Oper.wp
          go_simp
          refine HNW.out.mono ?_
          rintro e X2 hres
          obtain ⟨Ab, nb, cb, rfl, hrow, hb⟩ := hres
          have kx4 := kx3.below hb kx3.lt
          have hblk4 := hblk3.below hb hblk3.lt
          have hown4 := own_below hown3 hb
          have hownr4 := own_below hownr3 hb
          have hro4 := hro3.below hb
          have hrr4 := hrr3.below hb
          have hrx4 := (hrx3.below hb).mono hb.size
          have bk4 := bstep bk3 hb
          have hS2 : X2.cell? ⟨b, 0, none⟩ = some (.slice k1 k2 k3) ∧ X2.cell? ⟨b, 1, none⟩ = some (.slice k5 k6 k7) ∧ X2.cell? ⟨b, 2, none⟩ = some (.int .i64 (wd : Int)) ∧ X2.cell? ⟨b, 4, none⟩ = some (.slice AR nr cR) ∧ X2.cell? ⟨xb, 0, none⟩ = some (.int .i64 x.t) ∧ X2.cell? ⟨xb, 1, none⟩ = some (.slice x.A x.n x.c) := ⟨by simpa using hblk4.cell 0, by simpa using hblk4.cell 1, by simpa using hblk4.cell 2, by simpa using hblk4.cell 4, by simpa using kx4.cell 0, by simpa using kx4.cell 1⟩
          refine hK _ _ (fun _ => hS2) ?_
          try simp only [Act.put]
          clear hK K hS hb kx3 hblk3 hown3 hownr3 hro3 hrr3 hrx3 bk3 HNW
          have hS := hS2
          clear hS2
          have hnb8 : nb ≤ 8 := by
            have h1 := hrow.len
            rw [rowN_len (fun y hy => by obtain ⟨u, hu, rfl⟩ := List.mem_map.1 hy; exact (HOR.out u hu).2)] at h1
            omega
          refine Held.one (i := 23) rfl (by kernel_rfl) rfl (fun K hK => ?_)
          unfold Oper.wp
          go_simp
          refine (both9_any x.A x.n x.c x.r Ab nb cb _ X2 hrx4 hrow (by omega) (by omega)).mono ?_
          rintro e X3 ⟨Ac, cc, rfl, hownb, hb⟩
          have hrow3 : RowK X3 0 Ac (x.n + nb) (x.r ++ rowN wd (newN on ot (x.t, x.r) (dE rx))) := RowK.of_own hownb (by omega)
          have kx5 := kx4.below hb kx4.lt
          have hblk5 := hblk4.below hb hblk4.lt
          have hown5 := own_below hown4 hb
          have hownr5 := own_below hownr4 hb
          have hro5 := hro4.below hb
          have hrr5 := hrr4.below hb
          have hrx5 := (hrx4.below hb).mono hb.size
          have bk5 := bstep bk4 hb
          have hS2 : X3.cell? ⟨b, 0, none⟩ = some (.slice k1 k2 k3) ∧ X3.cell? ⟨b, 1, none⟩ = some (.slice k5 k6 k7) ∧ X3.cell? ⟨b, 2, none⟩ = some (.int .i64 (wd : Int)) ∧ X3.cell? ⟨b, 4, none⟩ = some (.slice AR nr cR) ∧ X3.cell? ⟨xb, 0, none⟩ = some (.int .i64 x.t) ∧ X3.cell? ⟨xb, 1, none⟩ = some (.slice x.A x.n x.c) := ⟨by simpa using hblk5.cell 0, by simpa using hblk5.cell 1, by simpa using hblk5.cell 2, by simpa using hblk5.cell 4, by simpa using kx5.cell 0, by simpa using kx5.cell 1⟩
          refine hK _ _ (fun _ => hS2) ?_
          try simp only [Act.put]
          clear hK K hS hb kx4 hblk4 hown4 hownr4 hro4 hrr4 hrx4 bk4 hownb hrow
          have hS := hS2
          clear hS2
          obtain ⟨mm, hmm⟩ : ∃ mm, x.n + nb = mm := ⟨_, rfl⟩
          rw [hmm] at hrow3 ⊢
          clear hmm
          obtain ⟨Tr, hTr⟩ : ∃ Tr, x.r ++ rowN wd (newN on ot (x.t, x.r) (dE rx)) = Tr := ⟨_, rfl⟩
          rw [hTr] at hrow3
          have hT : verO on ot wd (x.t, x.r) (dE rx) = (x.t, Tr) := by rw [← hTr]; rfl
          rw [hT] at HDO2
          clear hTr hT
          refine Held.take (i := 24) (.agg #[.int .i64 x.t, .slice Ac mm cc]) rfl hS (by kernel_rfl) (by kernel_rfl) (by kernel_rfl) (by kernel_rfl) (fun _ _ _ h => h) rfl (fun y hy => by obtain ⟨x1, x2, x3, x4, x5, x6⟩ := hy; go_simp) ?_
          try simp only [Act.put]
          have hs5 := bk5.size
          refine Held.one (i := 25) rfl (by kernel_rfl) rfl (fun K hK => ?_)
          have hBs : B ≤ X3.heap.size := by omega
          have hOo : OE X3 B (.slice Ao lo.length co) lo := ⟨own_base' hown5 (by omega), hro5⟩
          obtain ⟨g1, g2, g3⟩ := hOo.evR hBs
          have HPE := hide (PutEventO_any Ao lo.length co lo ⟨x.t, Ac, mm, cc, Tr⟩ X3 g1 g3 (by omega) (hrow3.mono (Nat.zero_le _)) B hBs hro5 (hrow3.mono (Nat.zero_le _)))
          clear g1 g2 g3 hOo
          unfold Oper.wp
          go_simp
          refine HPE.out.mono ?_
          rintro e X4 hres
          obtain ⟨An, nn, cn, ln, rfl, hdn, hOn, hfr, hb⟩ := hres
          have kx6 := kx5.below hb kx5.lt
          have hblk6 := hblk5.below hb hblk5.lt
          have bk6 := bstep bk5 hb
          have hS4 : X4.cell? ⟨b, 0, none⟩ = some (.slice k1 k2 k3) ∧ X4.cell? ⟨b, 1, none⟩ = some (.slice k5 k6 k7) ∧ X4.cell? ⟨b, 2, none⟩ = some (.int .i64 (wd : Int)) ∧ X4.cell? ⟨b, 4, none⟩ = some (.slice AR nr cR) ∧ X4.cell? ⟨xb, 0, none⟩ = some (.int .i64 x.t) ∧ X4.cell? ⟨xb, 1, none⟩ = some (.slice x.A x.n x.c) := ⟨by simpa using hblk6.cell 0, by simpa using hblk6.cell 1, by simpa using hblk6.cell 2, by simpa using hblk6.cell 4, by simpa using kx6.cell 0, by simpa using kx6.cell 1⟩
          have HREL := hide (show X4.ownsRow w.heap.size 36 2 (.slice An nn cn) ln.length (ln.flatMap encEv) ∧ X4.ownsRow w.heap.size 36 2 (.slice Ar lr.length cr) lr.length (lr.flatMap encEv) ∧ (∀ g, (Value.slice An nn cn).ownBlock = some g → (Value.slice Ar lr.length cr).ownBlock ≠ some g) ∧ RowsE X4 B ln ∧ RowsE X4 B lr ∧ dE ln = srtG cmpE ((((dE lx).take (j + 1)).filter (belowM m)).map (fun x => verO on ot wd x (dE rx))) ∧ dE lr = restV m ((dE lx).take (j + 1)) ∧ Below w.heap.size w X4 from by
            refine ⟨own_rebase hOn.own (fun g hg => Nat.le_trans hs5 (hfr g hg)), own_below hownr5 hb, fun g hg hh => ?_, hOn.rows, hrr5.below hb, by rw [hdn, HDO2.out], HDR2.out.symm, bk6⟩
            have h1 := hfr g hg
            have h2 := (hownr5.lt g hh).2
            omega)
          refine hK _ _ (fun _ => hS4) ?_
          try simp only [Act.put]
          clear hK K hS hb kx5 kx6 hblk5 hblk6 hown5 hownr5 hro5 hrr5 hrx5 bk5 bk6 hrow3 hOn hfr hdn HPE
          refine Held.one (i := 26) rfl (by kernel_rfl) rfl (fun K hK => ?_)
          unfold Oper.wp
          go_simp
          refine hK _ _ (fun _ => hS4) ?_
          try simp only [Act.put]
          clear hK K
          refine Held.done (by kernel_rfl) ?_
          clear hS4
          go_wp2
          go_roundw
          case rel => exact ⟨j + 1, _, lr, by omega, by go_num, HREL.out⟩
          case measure => simp [intOf]; omega
        · have d1 : decide (m ≤ x.t) = true := decide_eq_true (by omega)
          have d2 : m ≤ x.t := by omega
          have HDO2 := hide (show dE lo = srtG cmpE ((((dE lx).take (j + 1)).filter (belowM m)).map (fun x => verO on ot wd x (dE rx))) from by
            rw [HTK.out, List.filter_append, List.map_append, HDO.out]
            have e : ([(x.t, x.r)].filter (belowM m)) = [] := by simp [belowM, hm]
            rw [e]
            simp)
          have HDR2 := hide (show dE (lr ++ [x]) = restV m ((dE lx).take (j + 1)) from by
            rw [HTK.out, dE_snoc, HDR.out]
            unfold restV
            rw [List.filter_append]
            have e : ([(x.t, x.r)].filter fun x => !belowM m x) = [(x.t, x.r)] := by simp [belowM, hm]
            rw [e])
          have kv := Blk.new W2 36 #[.int .i64 x.t, .slice x.A x.n x.c]
          have hBv := below_val (w := W2) #[.int .i64 x.t, .slice x.A x.n x.c] 36
          have hrd : Reads (W2.alloc (.cells #[.int .i64 x.t, .slice x.A x.n x.c] 36)) (W2.heap.size + 1) 2 (some ⟨W2.heap.size, 0, none⟩) 1 [.int .i64 x.t, .slice x.A x.n x.c] :=
            ⟨rfl, fun _ => ⟨W2.heap.size, 0, rfl, by omega, fun q u hu => by rw [Nat.zero_add, kv.cell q]; simpa using hu⟩⟩
          have hBs : B ≤ w.heap.size := by omega
          have hap2 : ∀ g, (Value.slice Ar lr.length cr).ownBlock = some g → (Value.slice Ao lo.length co).ownBlock ≠ some g := fun g h1 h2 => hap g h2 h1
          have hownr2 := hownr1.alloc (.cells #[.int .i64 x.t, .slice x.A x.n x.c] 36)
          have HBK := hide (bk1.trans (hBv.mono hs22))
          clear hm kv hBv
          go_wp2_with (at_builtin; refine wpList_append_any _ rfl _ _ 25 rfl w.heap.size 36 i0 _ 2 32 Tryz.underlying25 hi0 hz0 hz1 hz2 rfl (by decide) (.slice Ar lr.length cr) lr.length _ rfl hownr2 (W2.heap.size + 1) (some ⟨W2.heap.size, 0, none⟩) 1 1 [.int .i64 x.t, .slice x.A x.n x.c] rfl hrd (by simp [Value.oneCell']) (by unfold maxLen; omega) (by omega) (by simp; omega) ?_; intro v3 w3 hown4 hgrow hvo; have HREL := hide (fin_rest (x := x) hBs hown1 hownr1 hap2 hro1 hrr1 hxB1 hown4 hgrow hvo); have hB3 : Below w.heap.size w w3 := below_append HBK.out hownr2 (by simp; omega) hgrow; clear hgrow hvo hown4)
          clear hown1 hownr1 hownr2 hro1 hrr1 hrx1 hxB1 bk1 hrd hap2 x0 x1 kx
          go_wp2
          go_roundw
          case rel => exact ⟨j + 1, lo, lr ++ [x], by omega, by go_num, HREL.out.1, HREL.out.2.1, HREL.out.2.2.1, HREL.out.2.2.2.1, HREL.out.2.2.2.2, HDO2.out, HDR2.out, hB3⟩
          case measure => simp [intOf]; omega
      · obtain rfl : j = nl := by omega
        rw [List.take_of_length_le (by rw [dE_len, HNL.out]; exact Nat.le_refl _)] at HDO HDR
        obtain ⟨Ao, co, hvo, hrdo⟩ := own_form hown
        obtain ⟨Ar, cr, hvr, _⟩ := own_form hownr
        subst hvo hvr
        have f3 := hblk0.frozen 3
        have f5 := (hblk0.set_ 3 (.slice Ar lr.length cr)).frozen 5
        have c5 : (wr.setCell ⟨b, 3, none⟩ (.slice Ar lr.length cr)).cell? ⟨b, 5, none⟩ = some (.int .i64 mk) := by simpa using (hblk0.set_ 3 (.slice Ar lr.length cr)).cell 5
        have hs2 := hBr.size
        have hbar : Bar wr.heap.size [b] wr ((wr.setCell ⟨b, 3, none⟩ (.slice Ar lr.length cr)).setCell ⟨b, 5, none⟩ (.int .i64 m)) := ((Bar.refl _ _ wr).setCell (p := ⟨b, 3, none⟩) (.inr (by simp)) _).setCell (p := ⟨b, 5, none⟩) (.inr (by simp)) _
        have hXs : XsOk wr B [b] := fun y hy => by
          obtain rfl : y = b := by simpa using hy
          exact ⟨hBb, blk_not hblk0 (by decide), blk_not hblk0 (by decide)⟩
        have hOo : OE wr B (.slice Ao lo.length co) lo := ⟨own_base' hown (by omega), hro⟩
        have hOr : OE wr B (.slice Ar lr.length cr) lr := ⟨own_base' hownr (by omega), hrr⟩
        have hnb : ∀ {v : Value} {l : List Ev}, OE wr B v l → ∀ g, v.ownBlock = some g → g ∉ [b] := fun h g hg hm => by
          obtain rfl : g = b := by simpa using hm
          exact (own_not h.own (t' := 132) (by decide) g (by unfold obl; rw [hg]; simp)).2 _ _ hblk0
        have hOo2 := hOo.bar hbar (hnb hOo) hXs
        have hOr2 := hOr.bar hbar (hnb hOr) hXs
        have hblk2 : Blk ((wr.setCell ⟨b, 3, none⟩ (.slice Ar lr.length cr)).setCell ⟨b, 5, none⟩ (.int .i64 m)) b 132 #[.slice k1 k2 k3, .slice k5 k6 k7, .int .i64 (wd : Int), .slice Ar lr.length cr, .slice AR nr cR, .int .i64 m] := by simpa using (hblk0.set_ 3 (.slice Ar lr.length cr)).set_ 5 (.int .i64 m)
        have hVO : VO ((wr.setCell ⟨b, 3, none⟩ (.slice Ar lr.length cr)).setCell ⟨b, 5, none⟩ (.int .i64 m)) 132 b ⟨k1, k2, k3, on, k5, k6, k7, ot, wd⟩ (.slice Ar lr.length cr) (.slice AR nr cR) m := ⟨hblk2, (HON.out.below hBr).bar hbar (fun y hy => (hXs y hy).2.2), (HOT.out.below hBr).bar hbar (fun y hy => (hXs y hy).2.2)⟩
        have hfr : ∀ g, (Value.slice Ar lr.length cr).ownBlock = some g → w.heap.size ≤ g := fun g hg => (hownr.lt g hg).1
        have hofr : ∀ g, (Value.slice Ao lo.length co).ownBlock = some g → w.heap.size ≤ g := fun g hg => (hown.lt g hg).1
        have hcapo := own_capC hown
        have HRES := hide (show RetVm (fun _ => True) 132 b ⟨k1, k2, k3, on, k5, k6, k7, ot, wd⟩ B (.slice AR nr cR) mk m Rs Os w (.returned (.tuple #[.slice Ao lo.length co, .int .i64 0])) ((wr.setCell ⟨b, 3, none⟩ (.slice Ar lr.length cr)).setCell ⟨b, 5, none⟩ (.int .i64 m)) from by
          unfold RetVm
          rw [if_pos HE.out]
          refine ⟨_, _, _, lo, _, lr, rfl, hVO, hOr2, by rw [HDR.out, ← HRS.out], trivial, hfr, ⟨Reads.of_own hOo2.own, hOo2.rows, hcapo, fun g off mm e => ?_⟩, by rw [HDO.out, ← HOS.out]; rfl, (Bar.of_below hBr _).trans ⟨hbar.os, hbar.tape, hbar.output, hbar.size, fun i hi hp => hbar.block i (by omega) hp⟩⟩
          subst e
          exact hofr g (by simp [Value.ownBlock]))
        clear hown hownr hro hrr hBr hblk2 hOo hOr hbar hXs hnb hap hOo2 hOr2 hVO hrdo
        go_wp2
        refine bodyPost_ret (results_tmp2 rfl _ _ _) rfl ?_
        exact HRES.out
end

end Go.Proofs.YtoapjidpfghnlaaGreatDoor
