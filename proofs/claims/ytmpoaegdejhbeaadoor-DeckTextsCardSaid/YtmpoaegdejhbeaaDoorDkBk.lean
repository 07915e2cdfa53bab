/-
  The walk of deck.Back, for every graph and tasks.
-/
import Derived.Test.YtmpoaegdejhbeaaDoorDkCt
import Derived.Test.YtmpoaegdejhbeaaDoorDkCol
import Derived.Laws.EntriesVeiled
namespace Go.Proofs.YtmpoaegdejhbeaaDoor
open Go.RowKit Go.Shelf Go.Deep Go.Maps
attribute [local go_sem] Oper.semAt_some wide_fn wide_depth

theorem infoBool_dk : (Tryd.prog.info? 4).map (fun i => (i.zero, i.size, i.bytes)) = some (some (.bool false), 1, 1) := by kernel_rfl
theorem those_any (g : Gr) (f : FuncId) (cs : Array Value) (w : World) : Calls Tryd.prog 32 #[.agg #[g.v1, g.v2], .func (.func f) #[] cs] w fun e w' =>
    e = .returned (.func (.func 46) #[] #[.pointer (some ⟨w.heap.size, 0, none⟩), .pointer (some ⟨w.heap.size + 1, 0, none⟩)]) ∧ w' = (w.alloc (.cells #[g.v1, g.v2] 31)).alloc (.cells #[.func (.func f) #[] cs] 71) := by
  go_enter Tryd.func32, Tryd.ntmps32
  go_wp2
  go_ret
  exact ⟨rfl, rfl⟩

theorem Gr.Ok.more_ {g : Gr} {w : World} {B B' : Nat} (h : g.Ok w B) (hB : B ≤ B') : g.Ok w B' := ⟨h.r1.more hB, h.r2.more hB⟩
theorem out_no {xs : List Int} {n k : Nat} {x : Int} (h : xs.any (outT n) = false) (hx : xs[k]? = some x) : 0 ≤ x ∧ x < (n : Int) := by
  have h1 : outT n x = false := by
    cases h2 : outT n x
    · rfl
    · rw [any_hit (outT n) xs k x hx h2] at h; cases h
  unfold outT at h1
  simp only [Bool.or_eq_false_iff, decide_eq_false_iff_not] at h1
  omega
theorem nums_row (L : Nat → Nat) (n : Nat) : (nums L n).map (Value.int .i64) = rowL n fun i => .int .i64 ((numOf L i : Nat) : Int) := by
  unfold nums rowL numOf
  rw [List.map_map]; rfl
theorem reads_row {w : World} {B n : Nat} {A : Option Addr} {f : Nat → Value} (h : Reads w B 1 A n (rowL n f)) (hn : 0 < n) : ∃ b off, A = some ⟨b, off, none⟩ ∧ b < B ∧ ∀ i, i < n → w.cell? ⟨b, off + i, none⟩ = some (f i) := by
  obtain ⟨b, off, e, hb, hc⟩ := h.2 hn
  exact ⟨b, off, e, hb, fun i hi => hc i _ (rowL_get f hi)⟩

set_option maxRecDepth 100000 in
set_option maxHeartbeats 4000000 in
theorem Back_ok (g : Gr) (A1 : Option Addr) (m1 c1 : Nat) (fallen : List Int) (A2 : Option Addr) (m2 c2 : Nat) (gone : List Int) (w : World) (hg : g.Ok w w.heap.size) (hf : Reads w w.heap.size 1 A1 m1 (fallen.map (Value.int .i64))) (hgo : Reads w w.heap.size 1 A2 m2 (gone.map (Value.int .i64)))
    (hm1 : m1 ≤ 4611686018427387904) (hm2 : m2 ≤ 4611686018427387904) (hv : validB g = true) (ha1 : ascB fallen = true) (ha2 : ascB gone = true) (ho1 : fallen.any (outT g.n1) = false) (ho2 : gone.any (outT g.n1) = false)
    (S : Nat → Bool) (hS : IsBack (labs g.es) g.es fallen gone S) :
    Calls Tryd.prog 14 #[.agg #[g.v1, g.v2], .slice A1 m1 c1, .slice A2 m2 c2] w (RetSlE w 1 (tkn (fun t => S (labs g.es t)) g.n1).length (intsL (tkn (fun t => S (labs g.es t)) g.n1)) 0) := by
  have hb := ok_ops hv
  have hbn : g.n2 ≤ 400 := by
    unfold validB at hv
    simp only [Bool.and_eq_true, decide_eq_true_eq] at hv
    exact hv.1.1.2
  have hl1 := hf.len1
  have HV := hide hv
  have HA1 := hide ha1
  have HA2 := hide ha2
  have HO1 := hide ho1
  have HO2 := hide ho2
  have HS := hide hS
  have HF1 := hide hl1
  clear hv ha1 ha2 ho1 ho2 hS hl1
  have hmk := fun W => run_make_row' (P := Tryd.prog) 64 4 (.bool false) 1 Tryd.underlying64 infoBool_dk rfl .i64 .i64 g.n1 (by omega) (by omega) W
  go_enter Tryd.func14, Tryd.ntmps14
  have hB0 : Below w.heap.size w ((w.alloc (.cells #[g.v1, g.v2] 31)).alloc (.cells #[.slice A2 m2 c2] 22)) := ((Below.refl _ _).alloc (Nat.le_refl _) _).alloc (by simp) _
  have b0 : Blk ((w.alloc (.cells #[g.v1, g.v2] 31)).alloc (.cells #[.slice A2 m2 c2] 22)) w.heap.size 31 #[g.v1, g.v2] := (Blk.new w _ _).alloc _
  have b1 : Blk ((w.alloc (.cells #[g.v1, g.v2] 31)).alloc (.cells #[.slice A2 m2 c2] 22)) (w.heap.size + 1) 22 #[.slice A2 m2 c2] := by
    have := Blk.new (w.alloc (.cells #[g.v1, g.v2] 31)) 22 #[.slice A2 m2 c2]
    rwa [World.size_alloc] at this
  have hs0 : ((w.alloc (.cells #[g.v1, g.v2] 31)).alloc (.cells #[.slice A2 m2 c2] 22)).heap.size = w.heap.size + 2 := by simp
  go_wp2_with fail
  obtain ⟨W0, hW0⟩ : ∃ W0, (w.alloc (.cells #[g.v1, g.v2] 31)).alloc (.cells #[.slice A2 m2 c2] 22) = W0 := ⟨_, rfl⟩
  rw [hW0] at hB0 b0 b1 hs0 ⊢
  clear hW0
  have hg0 := hg.up hB0
  refine (Valid_any g W0 hg0 (by omega) (by omega)).mono ?_
  rintro e W1 ⟨rfl, hB1⟩
  rw [HV.out]
  have b01 := b0.below hB1 (by omega)
  have b11 := b1.below hB1 (by omega)
  have hB01 := bstep hB0 hB1
  have k1 := b11.cell 0
  simp at k1
  clear hg0 b0 b1
  go_wp2_with fail
  refine (ascends_any A1 m1 c1 _ fallen W1 (hf.up hB01) (by omega)).mono ?_
  rintro e W2 ⟨rfl, q1, rfl⟩
  rw [HA1.out]
  have k2 : (W1.drewN q1).cell? ⟨w.heap.size + 1, 0, none⟩ = some (.slice A2 m2 c2) := k1
  have b02 : Blk (W1.drewN q1) w.heap.size 31 #[g.v1, g.v2] := b01
  have hB02 := below_drewN hB01 q1
  have hs1 : w.heap.size + 2 ≤ (W1.drewN q1).heap.size := by rw [← hs0]; exact hB1.size
  generalize W1.drewN q1 = W2 at k2 b02 hB02 hs1 ⊢
  clear b01 b11 hB01 k1 hB1 hs0 hB0 W1 W0
  go_wp2_with fail
  refine (ascends_any A2 m2 c2 _ gone W2 (hgo.up hB02) (by omega)).mono ?_
  rintro e W3 ⟨rfl, q2, rfl⟩
  rw [HA2.out]
  have k3 : (W2.drewN q2).cell? ⟨w.heap.size + 1, 0, none⟩ = some (.slice A2 m2 c2) := k2
  have b03 : Blk (W2.drewN q2) w.heap.size 31 #[g.v1, g.v2] := b02
  have hB03 := below_drewN hB02 q2
  have hs3 : w.heap.size + 2 ≤ (W2.drewN q2).heap.size := hs1
  generalize W2.drewN q2 = W3 at k3 b03 hB03 hs3 ⊢
  clear b02 hB02 hs1 k2 W2
  have d0 := b03.cell 0
  have d1 := b03.cell 1
  simp at d0 d1
  go_wp2_with fail
  refine (tasks_any g A1 m1 c1 _ fallen W3 (hf.up hB03) (Nat.le_refl _) (by omega)).mono ?_
  rintro e W4 ⟨rfl, hW4⟩
  rw [HO1.out]
  have hB34 : Below W3.heap.size W3 W4 := by rw [hW4]; exact (Below.refl _ _).alloc (Nat.le_refl _) _
  clear hW4
  have b04 := b03.below hB34 (by omega)
  have k4 : W4.cell? ⟨w.heap.size + 1, 0, none⟩ = some (.slice A2 m2 c2) := (hB34.cell (p := ⟨w.heap.size + 1, 0, none⟩) (by show w.heap.size + 1 < _; omega)).trans k3
  have hB04 := bstep hB03 hB34
  have hs4 := Nat.le_trans hs3 hB34.size
  clear hB34 b03 d0 d1 k3 hB03 hs3 W3
  have d0 := b04.cell 0
  have d1 := b04.cell 1
  simp at d0 d1
  go_wp2_with fail
  refine (tasks_any g A2 m2 c2 _ gone W4 (hgo.up hB04) (Nat.le_refl _) (by omega)).mono ?_
  rintro e W5 ⟨rfl, hW5⟩
  rw [HO2.out]
  have hB45 : Below W4.heap.size W4 W5 := by rw [hW5]; exact (Below.refl _ _).alloc (Nat.le_refl _) _
  clear hW5
  have b05 := b04.below hB45 (by omega)
  have k5 : W5.cell? ⟨w.heap.size + 1, 0, none⟩ = some (.slice A2 m2 c2) := (hB45.cell (p := ⟨w.heap.size + 1, 0, none⟩) (by show w.heap.size + 1 < _; omega)).trans k4
  have hB05 := bstep hB04 hB45
  have hs5 := Nat.le_trans hs4 hB45.size
  clear hB45 b04 d0 d1 k4 hB04 hs4 W4
  have d0 := b05.cell 0
  have d1 := b05.cell 1
  simp at d0 d1
  go_wp2_with fail
  refine (regions_any g W5 (hg.up hB05) HV.out).mono ?_
  rintro e W6 ⟨A8, c8, rfl, hR6, hB56⟩
  rw [nums_row] at hR6
  obtain ⟨a8, o8, rfl, ha8, hro⟩ := reads_row hR6 (by omega)
  have b06 := b05.below hB56 (by omega)
  have k6 : W6.cell? ⟨w.heap.size + 1, 0, none⟩ = some (.slice A2 m2 c2) := (hB56.cell (p := ⟨w.heap.size + 1, 0, none⟩) (by show w.heap.size + 1 < _; omega)).trans k5
  have hB06 := bstep hB05 hB56
  have hs6 := Nat.le_trans hs5 hB56.size
  clear hR6 hB56 b05 d0 d1 k5 hB05 hs5 W5
  have d0 := b06.cell 0
  have d1 := b06.cell 1
  simp at d0 d1
  replace d0 : W6.cell? ⟨w.heap.size, 0, none⟩ = some (.slice g.a1 g.n1 g.c1) := d0
  replace d1 : W6.cell? ⟨w.heap.size, 1, none⟩ = some (.slice g.a2 g.n2 g.c2) := d1
  have hx0 : w.heap.size < W6.heap.size := by omega
  have hx1 : w.heap.size + 1 < W6.heap.size := by omega
  have r7 : (W6.alloc (.cells #[.slice (some ⟨a8, o8, none⟩) g.n1 c8] 22)).heap.size = W6.heap.size + 1 := World.size_alloc _ _
  have m7 := World.rowIs_made (W6.alloc (.cells #[.slice (some ⟨a8, o8, none⟩) g.n1 c8] 22)) (.bool false) g.n1 4
  rw [r7] at m7
  go_upto_region 8 with fail
  obtain ⟨W7, hW7⟩ : ∃ W7, (((W6.alloc (.cells #[.slice (some ⟨a8, o8, none⟩) g.n1 c8] 22)).alloc (.cells (madeCells #[.bool false] g.n1) 4)).alloc (.cells #[.slice (some ⟨W6.heap.size + 1, 0, none⟩) g.n1 g.n1] 64)).alloc (.cells #[.nilFunc] 65) = W7 := ⟨_, rfl⟩
  have B7 : Below W6.heap.size W6 W7 := by
    rw [← hW7]
    exact ((((Below.refl _ _).alloc (Nat.le_refl _) _).alloc (by simp) _).alloc (by simp; omega) _).alloc (by simp; omega) _
  have s7 : W7.heap.size = W6.heap.size + 4 := by rw [← hW7]; simp
  have n8 : Blk W7 W6.heap.size 22 #[.slice (some ⟨a8, o8, none⟩) g.n1 c8] := by
    rw [← hW7]; exact (((Blk.new W6 _ _).alloc _).alloc _).alloc _
  have nb : W7.rowIs (W6.heap.size + 1) 4 g.n1 (fun _ => .bool false) := by
    rw [← hW7]; exact (m7.alloc _).alloc _
  have n9 : Blk W7 (W6.heap.size + 2) 64 #[.slice (some ⟨W6.heap.size + 1, 0, none⟩) g.n1 g.n1] := by
    rw [← hW7]
    have := (Blk.new ((W6.alloc (.cells #[.slice (some ⟨a8, o8, none⟩) g.n1 c8] 22)).alloc (.cells (madeCells #[.bool false] g.n1) 4)) 64 #[.slice (some ⟨W6.heap.size + 1, 0, none⟩) g.n1 g.n1]).alloc (.cells #[.nilFunc] 65)
    simpa [World.size_alloc, Nat.add_assoc] using this
  have n10 : Blk W7 (W6.heap.size + 3) 65 #[.nilFunc] := by
    rw [← hW7]
    have := Blk.new (((W6.alloc (.cells #[.slice (some ⟨a8, o8, none⟩) g.n1 c8] 22)).alloc (.cells (madeCells #[.bool false] g.n1) 4)).alloc (.cells #[.slice (some ⟨W6.heap.size + 1, 0, none⟩) g.n1 g.n1] 64)) 65 #[.nilFunc]
    simpa [World.size_alloc, Nat.add_assoc] using this
  rw [hW7]
  clear hW7 m7 r7 hmk
  obtain ⟨b8, z8⟩ : ∃ b8, b8 = W6.heap.size := ⟨_, rfl⟩
  obtain ⟨gb, zg⟩ : ∃ gb, gb = W6.heap.size + 1 := ⟨_, rfl⟩
  obtain ⟨b9, z9⟩ : ∃ b9, b9 = W6.heap.size + 2 := ⟨_, rfl⟩
  obtain ⟨b10, z10⟩ : ∃ b10, b10 = W6.heap.size + 3 := ⟨_, rfl⟩
  rw [show W6.heap.size + 1 + 1 + 1 = b10 from z10.symm, show W6.heap.size + 1 + 1 = b9 from z9.symm, ← zg, ← z8]
  rw [← z8] at n8
  rw [← zg] at nb
  rw [← z9, ← zg] at n9
  rw [← z10] at n10
  have y8 : b8 ≤ W6.heap.size ∧ W6.heap.size ≤ b8 := by omega
  have yg : gb ≤ W6.heap.size + 1 ∧ W6.heap.size + 1 ≤ gb := by omega
  have y9 : b9 ≤ W6.heap.size + 2 ∧ W6.heap.size + 2 ≤ b9 := by omega
  have y10 : b10 ≤ W6.heap.size + 3 ∧ W6.heap.size + 3 ≤ b10 := by omega
  clear z8 zg z9 z10
  have e10 := n10.cell 0
  have f10 := n10.frozen 0
  simp at e10
  have B8 := B7.setCell (p := ⟨b10, 0, none⟩) (by show W6.heap.size ≤ b10; omega) (.func (Fn.func 29) #[] #[.pointer (some ⟨b9, 0, none⟩), .pointer (some ⟨w.heap.size, 0, none⟩), .pointer (some ⟨b8, 0, none⟩), .pointer (some ⟨b10, 0, none⟩), .pointer (some ⟨w.heap.size + 1, 0, none⟩)])
  have s8 : (W7.setCell ⟨b10, 0, none⟩ (.func (Fn.func 29) #[] #[.pointer (some ⟨b9, 0, none⟩), .pointer (some ⟨w.heap.size, 0, none⟩), .pointer (some ⟨b8, 0, none⟩), .pointer (some ⟨b10, 0, none⟩), .pointer (some ⟨w.heap.size + 1, 0, none⟩)])).heap.size = W6.heap.size + 4 := by rw [← s7]; simp [World.setCell]
  have p8 := (n8.far (p := ⟨b10, 0, none⟩) (by show b8 ≠ b10; omega) (.func (Fn.func 29) #[] #[.pointer (some ⟨b9, 0, none⟩), .pointer (some ⟨w.heap.size, 0, none⟩), .pointer (some ⟨b8, 0, none⟩), .pointer (some ⟨b10, 0, none⟩), .pointer (some ⟨w.heap.size + 1, 0, none⟩)])).cell 0
  have pb := nb.setOther (a := ⟨b10, 0, none⟩) (by show gb ≠ b10; omega) (.func (Fn.func 29) #[] #[.pointer (some ⟨b9, 0, none⟩), .pointer (some ⟨w.heap.size, 0, none⟩), .pointer (some ⟨b8, 0, none⟩), .pointer (some ⟨b10, 0, none⟩), .pointer (some ⟨w.heap.size + 1, 0, none⟩)])
  have p9 := (n9.far (p := ⟨b10, 0, none⟩) (by show b9 ≠ b10; omega) (.func (Fn.func 29) #[] #[.pointer (some ⟨b9, 0, none⟩), .pointer (some ⟨w.heap.size, 0, none⟩), .pointer (some ⟨b8, 0, none⟩), .pointer (some ⟨b10, 0, none⟩), .pointer (some ⟨w.heap.size + 1, 0, none⟩)])).cell 0
  have p10 := (n10.set_ 0 (.func (Fn.func 29) #[] #[.pointer (some ⟨b9, 0, none⟩), .pointer (some ⟨w.heap.size, 0, none⟩), .pointer (some ⟨b8, 0, none⟩), .pointer (some ⟨b10, 0, none⟩), .pointer (some ⟨w.heap.size + 1, 0, none⟩)])).cell 0
  simp at p8 p9 p10
  go_upto_region 9 with fail
  obtain ⟨W8, hW8⟩ : ∃ W8, W7.setCell ⟨b10, 0, none⟩ (.func (Fn.func 29) #[] #[.pointer (some ⟨b9, 0, none⟩), .pointer (some ⟨w.heap.size, 0, none⟩), .pointer (some ⟨b8, 0, none⟩), .pointer (some ⟨b10, 0, none⟩), .pointer (some ⟨w.heap.size + 1, 0, none⟩)]) = W8 := ⟨_, rfl⟩
  rw [hW8] at B8 s8 p8 pb p9 p10 ⊢
  clear hW8 n8 nb n9 n10 e10 f10 B7 s7 W7
  have H0 : ∀ b o, b < W6.heap.size → W8.cell? ⟨b, o, none⟩ = W6.cell? ⟨b, o, none⟩ := fun b o hb => B8.cell (p := ⟨b, o, none⟩) hb
  have hG : Goes g (numOf (labs g.es)) A2 m2 c2 gone (W6.heap.size + 4) gb w.heap.size (w.heap.size + 1) b8 b9 b10 a8 o8 c8 W8 :=
    ⟨by omega, by omega, by omega, by omega, by omega, by omega, by omega, by omega, (H0 _ _ (by omega)).trans d1, (H0 _ _ (by omega)).trans k6, p8, p9, p10, ((hg.up hB06).below B8).more_ (by omega), fun i hi => (H0 _ _ ha8).trans (hro i hi), ((hgo.up hB06).below B8).more (by omega)⟩
  have hB08 := bstep hB06 B8
  have hb0 := b06.below B8 (by omega)
  have hf8 := hf.below hB08
  have HG8 := hide hg
  have HGO8 := hide hgo
  clear H0 p8 p9 p10 d0 d1 k6 hro b06 hg hgo hf B8 hB06
  have hNof : ∀ i, i < g.n1 → numOf (labs g.es) i < g.n1 := fun i hi => numOf_lt (Lab.labs _) hi
  have HNOF := hide hNof
  clear hNof
  go_wp2_with fail
  go_loopw [12, 47] (fun _ i wr => ∃ (k : Nat) (T : Nat → Bool), k ≤ m1 ∧ i = .int .i64 k ∧ Fell (numOf (labs g.es)) g.es gone (fallen.take k) T ∧ wr.rowIs gb 4 g.n1 (fun j => .bool (T j)) ∧ Bar (W6.heap.size + 4) [gb] W8 wr) (fun _ i _ => m1 - (intOf i).toNat)
  case atStart => exact ⟨0, _, Nat.zero_le _, rfl, Fell.start _ _ _, pb, Bar.refl _ _ _⟩
  case round =>
    clear pb
    obtain ⟨k, T, hk, rfl, hfl, hrow, hB⟩ := hrel
    have HFL := hide hfl
    clear hfl
    have hGr := hG.bar hB
    have hBw : Below w.heap.size W8 wr := hB.below (by omega) (by simp; omega)
    have hfr := hf8.below hBw
    have hWs := hB.size
    by_cases hlt : k < m1
    · obtain ⟨b, off, x, ha, hb1, hxk, hc⟩ := hfr.at1 hlt
      have hxo := out_no HO1.out hxk
      have HFN := hide (fun T' (h : Went (Nx (numOf (labs g.es)) g.es gone) (numOf (labs g.es) x.toNat) T T') => by have := HFL.out.step x h; rwa [← take_snoc' hxk] at this)
      obtain ⟨t, ht⟩ := Int.eq_ofNat_of_zero_le hxo.1
      rw [ht] at hc hxo HFN
      simp only [Int.toNat_natCast] at HFN
      clear hxk ht
      have htn : t < g.n1 := by omega
      have k8 := hGr.c8'
      have k10 := hGr.c10
      have kt := hGr.rof t htn
      have hzn := HNOF.out t htn
      obtain ⟨z, hz⟩ : ∃ z, numOf (labs g.es) t = z := ⟨_, rfl⟩
      rw [hz] at kt hzn HFN
      have q1 : (0 : Int) ≤ (t : Int) := by omega
      have q2 : (t : Int) < (g.n1 : Int) := by omega
      rw [ha]
      clear ha hz
      go_wp2_with fail
      go_still_tail 5, (by kernel_rfl)
      change wpList _ _ _ _ _ wr.drew
      have hG3 : Goes g (numOf (labs g.es)) A2 m2 c2 gone (W6.heap.size + 4) gb w.heap.size (w.heap.size + 1) b8 b9 b10 a8 o8 c8 wr.drew := hGr.bar ((Bar.refl _ _ _).drew)
      have hrow3 : wr.drew.rowIs gb 4 g.n1 (fun j => .bool (T j)) := hrow
      have hB3 : Bar (W6.heap.size + 4) [gb] W8 wr.drew := hB.drew
      have hs3 : W6.heap.size + 4 ≤ wr.drew.heap.size := by rw [← s8]; exact hWs
      clear k8 k10 kt hGr hrow hB hBw hfr hc hWs
      obtain ⟨W9, hW9⟩ : ∃ W9, wr.drew = W9 := ⟨_, rfl⟩
      rw [hW9] at hG3 hrow3 hB3 hs3 ⊢
      clear hW9
      go_wp2_with fail
      refine (go_any g (numOf (labs g.es)) A2 m2 c2 gone (W6.heap.size + 4) gb w.heap.size (w.heap.size + 1) b8 b9 b10 a8 o8 c8 HV.out HNOF.out hm2 _ T z W9 (Nat.le_refl _) hzn hG3 hrow3 hs3).mono ?_
      rintro ee w5 ⟨rfl, T5, hwent, hrow5, hB5⟩
      have HE := hide (HFN.out T5 hwent)
      have hB6 := hB3.trans (hB5.less hs3)
      clear hwent hG3 hrow3 hB3 hB5
      go_wp2
      go_roundw
      case rel => exact ⟨k + 1, T5, by omega, by go_num, HE.out, hrow5, hB6⟩
      case measure => simp [intOf]; omega
    · obtain rfl : k = m1 := by omega
      have hfin := HFL.out
      rw [take_all HF1.out] at hfin
      have HBK := hide (fun t => back_same (Lab.labs g.es) HS.out hfin.back t)
      have hb9 : Blk wr w.heap.size 31 #[g.v1, g.v2] := (hB.block _ (by omega) (by simp; omega)).trans hb0
      have d0 := hb9.cell 0
      have d1 := hb9.cell 1
      simp at d0 d1
      have hBA : Below w.heap.size w ((wr.alloc (.cells #[g.v1, g.v2] 31)).alloc (.cells #[.func (.func 33) #[] #[.pointer (some ⟨b9, 0, none⟩), .pointer (some ⟨b8, 0, none⟩)]] 71)) := ((hB08.trans hBw).alloc (by omega) _).alloc (by simp; omega) _
      have c0 := Blk.new wr 31 #[g.v1, g.v2]
      have c1' := Blk.new (wr.alloc (.cells #[g.v1, g.v2] 31)) 71 #[.func (.func 33) #[] #[.pointer (some ⟨b9, 0, none⟩), .pointer (some ⟨b8, 0, none⟩)]]
      rw [World.size_alloc] at c1'
      have hsA : ((wr.alloc (.cells #[g.v1, g.v2] 31)).alloc (.cells #[.func (.func 33) #[] #[.pointer (some ⟨b9, 0, none⟩), .pointer (some ⟨b8, 0, none⟩)]] 71)).heap.size = wr.heap.size + 2 := by simp
      have hko : Below wr.heap.size wr ((wr.alloc (.cells #[g.v1, g.v2] 31)).alloc (.cells #[.func (.func 33) #[] #[.pointer (some ⟨b9, 0, none⟩), .pointer (some ⟨b8, 0, none⟩)]] 71)) := ((Below.refl _ _).alloc (Nat.le_refl _) _).alloc (by simp) _
      have l8 := hGr.l8
      have l8a := hGr.l8a
      have hT : Takes g.n1 g.a1 g.c1 (numOf (labs g.es)) T (wr.heap.size + 2) wr.heap.size (wr.heap.size + 1) b8 b9 gb a8 o8 c8 g.n1 ((wr.alloc (.cells #[g.v1, g.v2] 31)).alloc (.cells #[.func (.func 33) #[] #[.pointer (some ⟨b9, 0, none⟩), .pointer (some ⟨b8, 0, none⟩)]] 71)) :=
        ⟨by omega, by omega, by omega, by omega, by omega, by omega, (c0.alloc _).cell 0, c1'.cell 0, (hko.cell (p := ⟨b8, 0, none⟩) (by show b8 < _; omega)).trans hGr.c8', (hko.cell (p := ⟨b9, 0, none⟩) (by show b9 < _; omega)).trans hGr.c9,
          fun i hi => (hko.cell (p := ⟨a8, o8 + i, none⟩) (by show a8 < _; omega)).trans (hGr.rof i hi), fun i hi => (hko.cell (p := ⟨gb, i, none⟩) (by show gb < _; omega)).trans (hrow.cell hi)⟩
      clear hfr hrow hGr hBw hB c0 c1' hko hf8 hb0 hb9
      go_wp2_with fail
      refine (those_any g _ _ _).mono ?_
      rintro e W9 ⟨rfl, rfl⟩
      obtain ⟨WA, hWA⟩ : ∃ WA, (wr.alloc (.cells #[g.v1, g.v2] 31)).alloc (.cells #[.func (.func 33) #[] #[.pointer (some ⟨b9, 0, none⟩), .pointer (some ⟨b8, 0, none⟩)]] 71) = WA := ⟨_, rfl⟩
      rw [hWA] at hBA hsA hT ⊢
      clear hWA
      go_wp2_with fail
      refine ((callsIn_wide (n := 3)).1 (Collect_in 3 (by omega) 46 _ (enters_of Tryd.func46 (by kernel_rfl) rfl) (tkn (fun t => T (numOf (labs g.es) t)) g.n1) _ g.n1 (by omega) WA
        (those_stops 1 (by omega) _ _ HNOF.out hb.2 (by omega) (by simp; omega) WA (by omega) hT))).mono ?_
      rintro e WB ⟨A, c, rfl, hRB, hBB⟩
      rw [show (fun t => T (numOf (labs g.es) t)) = (fun t => S (labs g.es t)) from funext HBK.out] at hRB ⊢
      have HE := hide (bstep hBA hBB)
      clear hBA hBB
      go_wp2
      go_ret2
      exact ⟨A, c, rfl, hRB, HE.out⟩
end Go.Proofs.YtmpoaegdejhbeaaDoor
