/-
  The walk of bag.Within, for every two bags.
-/
import Derived.Test.YtiioiajcoiaalaaGreatDoorLatC
namespace Go.Proofs.YtiioiajcoiaalaaGreatDoor
open Go.RowKit Go.Shelf
attribute [local go_sem] Oper.semAt_some wide_fn wide_depth
set_option linter.unusedVariables false
set_option linter.unusedSimpArgs false

theorem res_wi {b1 : Nat} {v1 : Value} {w : World} {tmps : Array Value} (h4 : tmps.getD 4 undef = .pointer (some ⟨b1, 0, none⟩)) (h1 : w.cell? ⟨b1, 0, none⟩ = some v1) :
    (results Tryz.f20 tmps).run Tryz.prog w = .ok v1 w := by
  have hr : Tryz.f20.results = #[.cell 4 4] := rfl
  simp only [Array.getD_eq_getD_getElem?] at h4
  simp only [results, hr]
  simp [Sem.run_bind, h4]
  go_simp
/-- The boxes of the iterator. -/
structure TwoB (ob : Nat) (W : World) : Prop where
  a : ∃ v, Boxed W ob 23 v
  b : ∃ v, Boxed W (ob + 1) 23 v
theorem TwoB.lt {ob : Nat} {W : World} (h : TwoB ob W) : ob + 1 < W.heap.size := by obtain ⟨v, hv⟩ := h.b; exact hv.lt
theorem twoB_from {ob C : Nat} : OwnFrom C (fun (_ : List Pe) W => TwoB ob W) := by
  intro pre X Y row h hg hr
  obtain ⟨⟨va, h5⟩, ⟨vb, h6⟩⟩ := h
  exact ⟨⟨va, blk_own h5 hg fun k e => (hr k e).2⟩, ⟨vb, blk_own h6 hg fun k e => (hr k e).2⟩⟩
set_option maxRecDepth 100000 in
set_option maxHeartbeats 8000000 in
theorem Within_gen
    (A : Option Addr) (n c : Nat) (la : List It) (A' : Option Addr) (n' c' : Nat) (lb : List It) (w : World) (ha : BagR w w.heap.size A n la) (hb : BagR w w.heap.size A' n' lb) (hc : n ≤ c) (hc' : n' ≤ c') :
    CallsIn Fence.wide 4 Tryz.prog 20 #[.slice A n c, .slice A' n' c'] w (RetV w (.bool (leB (dat la) (dat lb)))) := by
  obtain ⟨p, hp⟩ : ∃ p, leB (dat la) (dat lb) = p := ⟨_, rfl⟩
  rw [hp]
  have HP := hide hp
  clear hp
  have hB0 : Below w.heap.size w (w.alloc (.cells #[.bool false] 4)) := (Below.refl _ _).alloc (Nat.le_refl _) _
  have xr := Boxed.new w 4 (.bool false)
  refine callsIn_of_wp_marks Tryz.func20 rfl trivial ?_ rfl
  simp only [Tryz.ntmps20, List.size_toArray, List.length_cons, List.length_nil, Nat.reduceAdd, Nat.reduceSub, Array.replicate_succ, Array.replicate_zero, List.push_toArray, List.append_toArray, List.nil_append, List.cons_append]
  gi_wp2_with fail
  obtain ⟨W0, hW0⟩ : ∃ W0, w.alloc (.cells #[.bool false] 4) = W0 := ⟨_, rfl⟩
  rw [hW0] at hB0 xr ⊢
  clear hW0
  refine (callsIn_wide.2 (BagValid_any A n c _ la W0 (ha.below hB0))).mono ?_
  rintro e W1 ⟨rfl, hB1⟩
  have hB01 := bstep hB0 hB1
  have yr : Boxed W1 w.heap.size 4 (.bool false) := (hB1.block _ xr.lt).trans xr
  clear hB0 hB1 xr
  cases hva : okBag (dat la)
  · have HX := hide (show p = false by rw [← HP.out]; unfold leB; rw [hva]; rfl)
    have kr := yr.cell
    have fr := yr.frozen
    have E1 := hide (yr.set (.bool false)).cell
    have E3 := hide (hB01.setCell (p := ⟨w.heap.size, 0, none⟩) (Nat.le_refl _) (.bool false))
    clear yr ha hb hB01
    gi_wp2
    refine ⟨_, res_wi rfl E1.out, ?_⟩
    exact ⟨ret_bool HX.out.symm, E3.out⟩
  have HVA := hide hva
  clear hva
  gi_wp2_with fail
  refine (callsIn_wide.2 (BagValid_any A' n' c' _ lb W1 (hb.below hB01))).mono ?_
  rintro e W2 ⟨rfl, hB2⟩
  have hB02 := bstep hB01 hB2
  have zr : Boxed W2 w.heap.size 4 (.bool false) := (hB2.block _ yr.lt).trans yr
  clear hB01 hB2 yr
  cases hvb : okBag (dat lb)
  · have HX := hide (show p = false by rw [← HP.out]; unfold leB; rw [HVA.out, hvb]; rfl)
    have kr := zr.cell
    have fr := zr.frozen
    have E1 := hide (zr.set (.bool false)).cell
    have E3 := hide (hB02.setCell (p := ⟨w.heap.size, 0, none⟩) (Nat.le_refl _) (.bool false))
    clear zr ha hb hB02
    gi_wp2
    refine ⟨_, res_wi rfl E1.out, ?_⟩
    exact ⟨ret_bool HX.out.symm, E3.out⟩
  have HVB := hide hvb
  have HQ := hide (show p = (prs (dat la) (dat lb)).all (fun t => decide (t.2.1 ≤ t.2.2)) by
    rw [← HP.out, le_prs HVA.out hvb]
    unfold leB
    rw [HVA.out, hvb]
    rfl)
  clear hvb
  gi_wp2_with fail
  refine (callsIn_wide.2 (pairs_any _ _ _ ⟨_, _, _, rfl⟩ ⟨_, _, _, rfl⟩)).mono ?_
  rintro e W3 ⟨rfl, hW3⟩
  obtain ⟨ob, hob⟩ : ∃ ob, W2.heap.size = ob := ⟨_, rfl⟩
  have k1 := (Boxed.new W2 23 (.slice A n c)).alloc (.cells #[.slice A' n' c'] 23)
  have k2 := Boxed.new (W2.alloc (.cells #[.slice A n c] 23)) 23 (.slice A' n' c')
  have hB23 : Below W2.heap.size W2 W3 := by rw [hW3]; exact ((Below.refl _ _).alloc (Nat.le_refl _) _).alloc (by simp) _
  have hs3 : W3.heap.size = ob + 2 := by rw [hW3, ← hob]; simp
  have lte := zr.lt
  rw [← hW3] at k1 k2
  rw [World.size_alloc] at k2
  rw [hob]
  rw [hob] at k1 k2 hB23 lte
  clear hW3
  have hra : BagR W2 W2.heap.size A n la := (ha.below hB02).mono hB02.size
  have hrb : BagR W2 W2.heap.size A' n' lb := (hb.below hB02).mono hB02.size
  have hN : W2.heap.size ≤ ob + 2 := by omega
  clear ha hb
  gi_wp2_with fail
  refine wpIn_iter (n := 4) rfl (by omega) (gf := 113) (lb := #[.pointer (some ⟨ob, 0, none⟩), .pointer (some ⟨ob + 1, 0, none⟩)]) rfl trivial (enters_of Tryz.func113 (by kernel_rfl) rfl) (encs := encPe) (xs := prI la lb) (Wr := WrQ ob (ob + 1)) (Kp := Bar (ob + 2) [])
    (fun W hW l J Jx hJw _ hY h0 => pairs1_in 3 (by omega) l (ob + 2) [] W2 ob (ob + 1) la lb J Jx W hJw hY hN (by omega) (by omega) (by omega) (by omega) (by omega) (by simp) (by simp) (by simp) A n c A' n' c' ((hW.block _ k1.lt).trans k1) ((hW.block _ k2.lt).trans k2) hra hrb hc hc' (by rw [hob]; exact hB23.trans (hW.mono (by omega))) h0)
    (fun _ => rfl) (fun X Y h => h.wr.oth) bar_t (bar_b (by omega))
    (fun pre W => (TwoB ob W ∧ Below ob W2 W) ∧ ((pre.map datP).all fun t => decide (t.2.1 ≤ t.2.2)) = true)
    (fun c pre W => (c = .ret ∧ p = false) ∧ Boxed W w.heap.size 4 (.bool false) ∧ Below w.heap.size w W)
    (OwnFrom.and (OwnFrom.and twoB_from (ownFrom_below (by omega) (by omega))) (ownFrom_pure _ _))
    (fun c pre X Y row h hg hr => ⟨h.1, blk_own h.2.1 hg (fun k e => (hr k e).2), h.2.2.grown hg h.2.2.size fun k e => by have := (hr k e).1; omega⟩)
    (fun s X Y h k => ⟨⟨⟨k.a, k.b⟩, h.1.2.trans (k.wr.bar.below (by have := h.1.2.size; omega) (by simp))⟩, h.2⟩)
    (fun c s X Y h k => ⟨h.1, (k.wr.bar.block _ h.2.1.lt (by simp; omega)).trans h.2.1, h.2.2.trans (k.wr.bar.below (by have := h.2.2.size; omega) (by simp; omega))⟩)
    ⟨⟨⟨⟨_, k1⟩, ⟨_, k2⟩⟩, hB23⟩, rfl⟩
    (fun pre x a' W => ∃ nb, ob + 2 ≤ nb ∧ Blk W nb 77 #[.int .i64 x.m, .int .i64 x.k] ∧ a' = { tmps := #[.slice A n c, .slice A' n' c', undef, undef, .pointer (some ⟨w.heap.size, 0, none⟩), undef, .pointer (some ⟨nb, 0, none⟩), .slice A n c, .bool true, .bool false, .bool false, .slice A' n' c', .bool true, .bool false, .bool false, .slice A n c, .slice A' n' c', .func (Fn.func 113) #[] #[.pointer (some ⟨ob, 0, none⟩), .pointer (some ⟨ob + 1, 0, none⟩)], .slice x.A x.n x.c, .agg #[.int .i64 x.m, .int .i64 x.k], undef, undef, undef, undef, undef], defers := [] })
    (fun pre x a' _ X Y row hs hg hr => by
      obtain ⟨nb, h1, h2, h3⟩ := hs
      exact ⟨nb, h1, blk_own h2 hg (fun r e => (hr r e).2), h3⟩)
    ?assign ?body ?done ?stop
  case assign =>
    rintro l pre x W K hpx ⟨⟨hI, hBW⟩, hAll⟩ hK
    have hWs : ob + 2 ≤ W.heap.size := by have := hI.lt; omega
    dsimp only [encPe]
    gi_wp2
    refine hK _ _ ((KeepsOthers.alloc _ _).from _) ((Bar.refl _ _ _).alloc hWs _) ⟨⟨⟨hI.a.imp fun v h => h.alloc _, hI.b.imp fun v h => h.alloc _⟩, hBW.alloc (by omega) _⟩, hAll⟩ ⟨W.heap.size, hWs, Blk.new W _ _, rfl⟩
  case body =>
    rintro l pre x a' W hpx ⟨⟨hI, hBW⟩, hAll⟩ ⟨nb, hnb, hbn, rfl⟩
    have HALL := hide hAll
    clear hAll
    have hBwW : Below w.heap.size w W := hB02.trans (hBW.mono (by omega))
    have m0 := hbn.cell 0
    have m1 := hbn.cell 1
    simp at m0 m1
    have hxin : datP x ∈ prs (dat la) (dat lb) := by rw [← prI_dat]; exact List.mem_map_of_mem (hpx.subset (by simp))
    by_cases h0 : x.k < x.m
    · have z : decide (x.k < x.m) = true := by simpa using h0
      have HBAD := hide (show p = false by
        rw [HQ.out, List.all_eq_false]
        exact ⟨datP x, hxin, by show ¬ decide (x.m ≤ x.k) = true; rw [decide_eq_true_eq]; omega⟩)
      have yr : Boxed W w.heap.size 4 (.bool false) := (hBW.block _ (by omega)).trans zr
      have kr := yr.cell
      have fr := yr.frozen
      have E4 := hide (yr.set (.bool false))
      have E3 := hide (hBwW.setCell (p := ⟨w.heap.size, 0, none⟩) (Nat.le_refl _) (.bool false))
      clear h0 hBwW hBW hbn hI yr
      gi_wp2
      exact ⟨(KeepsOthers.setCell _ _ _).from _, ⟨rfl, HBAD.out⟩, E4.out, E3.out⟩
    · have z : decide (x.k < x.m) = false := by simpa using h0
      have HAL2 := hide (show ((pre ++ [x]).map datP).all (fun t => decide (t.2.1 ≤ t.2.2)) = true by
        rw [List.map_append, List.all_append, HALL.out]
        simp [datP]
        omega)
      have HI := hide hI
      have HBW := hide hBW
      clear h0 hBwW hbn hI hBW
      gi_wp2
      exact ⟨KeepsFrom.refl _ _, Bar.refl _ _ _, ⟨HI.out, HBW.out⟩, HAL2.out⟩
  case done =>
    rintro D W hD ⟨⟨hI, hBW⟩, hAll⟩ hK
    rw [prI_dat] at hAll
    have HX := hide (show p = true by rw [HQ.out]; exact hAll)
    have hBwW : Below w.heap.size w W := hB02.trans (hBW.mono (by omega))
    have yr : Boxed W w.heap.size 4 (.bool false) := (hBW.block _ (by omega)).trans zr
    have kr := yr.cell
    have fr := yr.frozen
    have e4 := yr.set (.bool true)
    have e3 := hBwW.setCell (p := ⟨w.heap.size, 0, none⟩) (Nat.le_refl _) (.bool true)
    have hKF : (W.setCell ⟨w.heap.size, 0, none⟩ (.bool true)).heap[D]? = some (.deferred (some [])) := (Below.heap_setCell _ _ _ D (by show D ≠ w.heap.size; omega)).trans hK
    obtain ⟨WF, hWF⟩ : ∃ WF, W.setCell ⟨w.heap.size, 0, none⟩ (.bool true) = WF := ⟨_, rfl⟩
    have HWF := hide hWF
    rw [hWF] at e3 e4 hKF
    have C1 := hide (show (WF.putObj D (.deferred none)).cell? ⟨w.heap.size, 0, none⟩ = some (.bool true) from by
      rw [World.cell?_of_block (w := WF) (a := ⟨w.heap.size, 0, none⟩) (World.putObj_heap_other (by show w.heap.size ≠ D; omega))]; exact e4.cell)
    have HB := hide (e3.grown (grownBy_putObj' WF D (.deferred none)) e3.size (fun k e => by cases e; have := hB02.size; omega))
    have KF := hide hKF
    clear hWF hKF e3 e4 yr hI hBW hBwW hAll
    gi_wp2
    rw [HWF.out]
    refine ⟨by simp, .inl ⟨_, _, rfl, run_takeDeferred KF.out, ?_⟩⟩
    refine ⟨_, res_wi rfl C1.out, ?_⟩
    exact ⟨ret_bool HX.out.symm, HB.out⟩
  case stop =>
    rintro D c pre W hD _ ⟨⟨rfl, hpf⟩, e4, e3⟩ hK
    have HX := hide hpf
    have C1 := hide (show (W.putObj D (.deferred none)).cell? ⟨w.heap.size, 0, none⟩ = some (.bool false) from by
      rw [World.cell?_of_block (w := W) (a := ⟨w.heap.size, 0, none⟩) (World.putObj_heap_other (by show w.heap.size ≠ D; omega))]; exact e4.cell)
    have HB := hide (e3.grown (grownBy_putObj' W D (.deferred none)) e3.size (fun k e => by cases e; have := hB02.size; omega))
    clear e3 e4 hpf
    gi_wp2
    refine ⟨by simp, .inl ⟨_, _, rfl, run_takeDeferred hK, ?_⟩⟩
    refine ⟨_, res_wi rfl C1.out, ?_⟩
    exact ⟨ret_bool HX.out.symm, HB.out⟩
end Go.Proofs.YtiioiajcoiaalaaGreatDoor
