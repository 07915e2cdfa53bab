/-
  The walk of tidewrightlaw26.told (made's, turned round). No condition.
-/
import Derived.Test.YtmpoaegdejhbeaaDoorDkMd
namespace Go.Proofs.YtmpoaegdejhbeaaDoor
open Go.RowKit Go.Shelf Go.Deep
attribute [local go_sem] Oper.semAt_some
set_option linter.unusedVariables false
set_option linter.unusedSimpArgs false

theorem infoEdge_tl : (Tryd.prog.info? 50).map (fun i => (i.zero, i.size, i.bytes)) = some (some (.agg #[.int .i64 0, .int .i64 0, .bool false]), 3, 24) := by kernel_rfl
set_option maxRecDepth 100000 in
set_option maxHeartbeats 4000000 in
theorem told_any (g : Gr) (w : World) (hg : g.Ok w w.heap.size) (hn1 : g.n1 ≤ 1000) (hn2 : g.n2 ≤ 1000) :
    Calls Tryd.prog 12 #[.agg #[g.v1, g.v2]] w fun e w' => ∃ g', Like g g' ∧ e = .returned (.agg #[g'.v1, g'.v2]) ∧ g'.Ok w' w'.heap.size ∧ Below w.heap.size w w' := by
  obtain ⟨i0, hi, hz0, hz1, hz2⟩ := info_parts infoInt_dk
  obtain ⟨i1, hi1, hy0, hy1, hy2⟩ := info_parts infoEdge_tl
  have HL2 := hide (hg.r2.len encEd_len (by omega))
  have b1 := Blk.new w 31 #[g.v1, g.v2]
  have b2 := Blk.new (w.alloc (.cells #[g.v1, g.v2] 31)) 25 #[.slice none 0 0, .slice none 0 0]
  have b3 := Blk.new ((w.alloc (.cells #[g.v1, g.v2] 31)).alloc (.cells #[.slice none 0 0, .slice none 0 0] 25)) 25 #[.slice none 0 0, .slice none 0 0]
  simp only [World.size_alloc] at b2 b3
  go_enter Tryd.func12, Tryd.ntmps12
  go_upto_region 2 with fail
  obtain ⟨W0, hW0⟩ : ∃ W0, ((w.alloc (.cells #[g.v1, g.v2] 31)).alloc (.cells #[.slice none 0 0, .slice none 0 0] 25)).alloc (.cells #[.slice none 0 0, .slice none 0 0] 25) = W0 := ⟨_, rfl⟩
  have hB0 : Below w.heap.size w W0 := by
    rw [← hW0]; exact (((Below.refl _ _).alloc (Nat.le_refl _) _).alloc (by simp) _).alloc (by simp; omega) _
  have hs0 : W0.heap.size = w.heap.size + 3 := by rw [← hW0]; simp
  have k1 : Blk W0 w.heap.size 31 #[g.v1, g.v2] := by rw [← hW0]; exact (b1.alloc _).alloc _
  have k2 : Blk W0 (w.heap.size + 1) 25 #[.slice none 0 0, .slice none 0 0] := by rw [← hW0]; exact b2.alloc _
  have k3 : Blk W0 (w.heap.size + 1 + 1) 25 #[.slice none 0 0, .slice none 0 0] := by rw [← hW0]; exact b3
  rw [hW0]
  clear hW0 b1 b2 b3
  obtain ⟨bo, ho⟩ : ∃ bo, w.heap.size + 1 + 1 = bo := ⟨_, rfl⟩
  obtain ⟨br, hr⟩ : ∃ br, w.heap.size + 1 = br := ⟨_, rfl⟩
  rw [ho, hr]
  rw [ho] at k3
  rw [hr] at k2
  have yo : w.heap.size + 2 ≤ bo ∧ bo ≤ w.heap.size + 2 := by omega
  have yr : w.heap.size + 1 ≤ br ∧ br ≤ w.heap.size + 1 := by omega
  clear ho hr
  have c0 : W0.cell? ⟨w.heap.size, 0, none⟩ = some (.slice g.a1 g.n1 g.c1) := k1.cell 0
  have o0 : W0.cell? ⟨bo, 0, none⟩ = some (.slice none 0 0) := k3.cell 0
  have fo : W0.frozen? ⟨bo, 0, none⟩ = false := k3.frozen 0
  have hro := (hg.r1.below hB0).more (show w.heap.size ≤ W0.heap.size by omega)
  go_wp2_with (at_builtin; refine wpList_append_any _ rfl _ _ 22 rfl W0.heap.size 3 i0 _ 1 8 Tryd.underlying22 hi hz0 hz1 hz2 rfl (by decide) (.slice none 0 0) 0 [] rfl (World.ownsRow_nil _ _ _ _) W0.heap.size g.a1 g.n1 g.c1 (g.ops.map (Value.int .i64)) rfl hro (ints_one _) (by unfold maxLen; omega) (by omega) (Nat.le_refl _) ?_; intro v' W1 hown hgrow _; rw [Nat.zero_add, List.nil_append] at hown; obtain ⟨A1, c1, rfl, hR1⟩ := own_form hown; have o1 := (hgrow.cell_far ⟨bo, 0, none⟩ (by show bo < _; omega) (by simp [Value.ownBlock])).trans o0; have f1 := (hgrow.frozen_far ⟨bo, 0, none⟩ (by show bo < _; omega) (by simp [Value.ownBlock])).trans fo)
  have hB01 : Below W0.heap.size W0 W1 := (Below.refl _ _).grown hgrow (Nat.le_refl _) (by simp [Value.ownBlock])
  have hs1 := hB01.size
  have hS2 : (W1.setCell ⟨bo, 0, none⟩ (.slice A1 g.n1 c1)).heap.size = W1.heap.size := by simp [World.setCell]
  have k31 := (k3.below hB01 (by omega)).set_ 0 (.slice A1 g.n1 c1)
  have hO2 := ownsRow_setCell_below hown (a := ⟨bo, 0, none⟩) (by show bo < _; omega) (.slice A1 g.n1 c1)
  have k11 := (k1.below hB01 (by omega)).far (p := ⟨bo, 0, none⟩) (by show w.heap.size ≠ bo; omega) (.slice A1 g.n1 c1)
  have k21 := (k2.below hB01 (by omega)).far (p := ⟨bo, 0, none⟩) (by show br ≠ bo; omega) (.slice A1 g.n1 c1)
  have hB02 := (hB0.trans (hB01.mono (by omega))).setCell (p := ⟨bo, 0, none⟩) (by show w.heap.size ≤ bo; omega) (.slice A1 g.n1 c1)
  obtain ⟨W2, hW2⟩ : ∃ W2, W1.setCell ⟨bo, 0, none⟩ (.slice A1 g.n1 c1) = W2 := ⟨_, rfl⟩
  rw [hW2] at hS2 k31 hO2 k11 k21 hB02 ⊢
  simp only [List.setIfInBounds_toArray, List.set_cons_zero] at k31
  clear hW2 c0 o0 fo hro o1 f1 k1 k2 k3 hown hgrow hR1 hB01 hB0
  have hg2 : g.Ok W2 w.heap.size := hg.below hB02
  have hs2 : w.heap.size + 3 ≤ W2.heap.size := by omega
  have hs03 : w.heap.size + 3 ≤ W0.heap.size := by omega
  clear hS2 hs1 hs0 hg
  go_wp2_with fail
  go_loopw [4] (fun i wr => ∃ (k : Nat) (v : Value), k ≤ g.n2 ∧ i = .int .i64 k ∧ Blk wr bo 25 #[.slice A1 g.n1 c1, v] ∧ wr.ownsRow W2.heap.size 50 3 v k ((g.es.take k).flatMap encEd) ∧ Bar W2.heap.size [bo] W2 wr) (fun i _ => g.n2 - (intOf i).toNat)
  case atStart => exact ⟨0, _, Nat.zero_le _, rfl, k31, World.ownsRow_nil _ _ _ _, Bar.refl _ _ _⟩
  case round =>
    clear k31
    obtain ⟨k, v, hk, rfl, hblk, hown, hB⟩ := hrel
    have hBw : Below w.heap.size W2 wr := hB.below (by omega) (by simp; omega)
    have hgr := hg2.below hBw
    have hWs := hB.size
    have c1' : wr.cell? ⟨w.heap.size, 1, none⟩ = some (.slice g.a2 g.n2 g.c2) := (hB.cell (p := ⟨w.heap.size, 1, none⟩) (by show w.heap.size < _; omega) (by simp; omega)).trans (k11.cell 1)
    have o1 : wr.cell? ⟨bo, 1, none⟩ = some v := hblk.cell 1
    have fo := hblk.frozen 1
    by_cases hlt : k < g.n2
    · obtain ⟨b, off, e, ha, hb, hek, hce⟩ := hgr.r2.elem encEd_len HL2.out hlt
      have HSN := hide (show (g.es.take (k + 1)).flatMap encEd = (g.es.take k).flatMap encEd ++ [.int .i64 e.f, .int .i64 e.t, .bool e.s] by rw [take_snoc' hek, flatE_snoc])
      clear hek
      have e0 : wr.cell? ⟨b, off + k * 3, none⟩ = some (.int .i64 e.f) := by simpa using hce 0 _ rfl
      have e1 : wr.cell? ⟨b, off + k * 3 + 1, none⟩ = some (.int .i64 e.t) := by simpa [← Nat.add_assoc] using hce 1 _ rfl
      have e2 : wr.cell? ⟨b, off + k * 3 + 2, none⟩ = some (.bool e.s) := by simpa [← Nat.add_assoc] using hce 2 _ rfl
      clear hce
      rw [ha] at c1'
      clear ha hgr
      have q1 : (0 : Int) ≤ (k : Int) := by omega
      have q2 : (k : Int) < (g.n2 : Int) := by omega
      have hne : v.ownBlock ≠ some bo := fun e => by have := (hown.lt _ e).1; omega
      have hbwr : bo < wr.heap.size := by omega
      have crz : ∀ o, (wr.alloc o).cell? ⟨bo, 1, none⟩ = some v := fun o => (hblk.alloc o).cell 1
      have frz := fun o => (hblk.alloc o).frozen 1
      have nb1 : v.ownBlock ≠ some w.heap.size := fun e => by have := (hown.lt _ e).1; omega
      have nb2 : v.ownBlock ≠ some b := fun e => by have := (hown.lt _ e).1; omega
      go_wp2_with fail
      have hown3 : wr.drew.ownsRow W2.heap.size 50 3 v k ((g.es.take k).flatMap encEd) := hown.drew
      have hblk3 : Blk wr.drew bo 25 #[.slice A1 g.n1 c1, v] := hblk
      have hB3 : Bar W2.heap.size [bo] W2 wr.drew := hB.drew
      have hS : wr.drew.cell? ⟨bo, 1, none⟩ = some v ∧ wr.drew.cell? ⟨w.heap.size, 1, none⟩ = some (.slice (some ⟨b, off, none⟩) g.n2 g.c2) ∧ wr.drew.cell? ⟨b, off + k * 3, none⟩ = some (.int .i64 e.f) ∧ wr.drew.cell? ⟨b, off + k * 3 + 1, none⟩ = some (.int .i64 e.t) ∧ wr.drew.cell? ⟨b, off + k * 3 + 2, none⟩ = some (.bool e.s) := ⟨o1, c1', e0, e1, e2⟩
      refine Held.begin (fun x => x.cell? ⟨bo, 1, none⟩ = some v ∧ x.cell? ⟨w.heap.size, 1, none⟩ = some (.slice (some ⟨b, off, none⟩) g.n2 g.c2) ∧ x.cell? ⟨b, off + k * 3, none⟩ = some (.int .i64 e.f) ∧ x.cell? ⟨b, off + k * 3 + 1, none⟩ = some (.int .i64 e.t) ∧ x.cell? ⟨b, off + k * 3 + 2, none⟩ = some (.bool e.s)) 24 (by kernel_rfl) ?_
      obtain ⟨W3, hW3⟩ : ∃ W3, wr.drew = W3 := ⟨_, rfl⟩
      rw [hW3] at hown3 hblk3 hB3 hS ⊢
      clear hW3 hblk hown hB hWs hBw c1' o1 fo e0 e1 e2
      have hWs3 := hB3.size
      have hbw3 : bo < W3.heap.size := by omega
      refine Held.take (i := 0) (.pointer (some ⟨bo, 1, none⟩)) rfl hS (by kernel_rfl) (by kernel_rfl) (by kernel_rfl) (by kernel_rfl) (fun _ _ _ h => h) rfl (fun x hx => by obtain ⟨x1, x2, x3, x4, x5⟩ := hx; go_simp) ?_
      try simp only [Act.put]
      refine Held.take (i := 1) (v) rfl hS (by kernel_rfl) (by kernel_rfl) (by kernel_rfl) (by kernel_rfl) (fun _ _ _ h => h) rfl (fun x hx => by obtain ⟨x1, x2, x3, x4, x5⟩ := hx; go_simp) ?_
      try simp only [Act.put]
      refine Held.take (i := 2) (.pointer (some ⟨w.heap.size, 1, none⟩)) rfl hS (by kernel_rfl) (by kernel_rfl) (by kernel_rfl) (by kernel_rfl) (fun _ _ _ h => h) rfl (fun x hx => by obtain ⟨x1, x2, x3, x4, x5⟩ := hx; go_simp) ?_
      try simp only [Act.put]
      refine Held.take (i := 3) (.slice (some ⟨b, off, none⟩) g.n2 g.c2) rfl hS (by kernel_rfl) (by kernel_rfl) (by kernel_rfl) (by kernel_rfl) (fun _ _ _ h => h) rfl (fun x hx => by obtain ⟨x1, x2, x3, x4, x5⟩ := hx; go_simp) ?_
      try simp only [Act.put]
      refine Held.take (i := 4) (.int .i64 (k : Int)) rfl hS (by kernel_rfl) (by kernel_rfl) (by kernel_rfl) (by kernel_rfl) (fun _ _ _ h => h) rfl (fun x hx => by obtain ⟨x1, x2, x3, x4, x5⟩ := hx; go_simp) ?_
      try simp only [Act.put]
      refine Held.take (i := 5) (.pointer (some ⟨b, off + k * 3, none⟩)) rfl hS (by kernel_rfl) (by kernel_rfl) (by kernel_rfl) (by kernel_rfl) (fun _ _ _ h => h) rfl (fun x hx => by obtain ⟨x1, x2, x3, x4, x5⟩ := hx; go_simp) ?_
      try simp only [Act.put]
      refine Held.take (i := 6) (.pointer (some ⟨b, off + k * 3, none⟩)) rfl hS (by kernel_rfl) (by kernel_rfl) (by kernel_rfl) (by kernel_rfl) (fun _ _ _ h => h) rfl (fun x hx => by obtain ⟨x1, x2, x3, x4, x5⟩ := hx; go_simp) ?_
      try simp only [Act.put]
      refine Held.take (i := 7) (.int .i64 e.f) rfl hS (by kernel_rfl) (by kernel_rfl) (by kernel_rfl) (by kernel_rfl) (fun _ _ _ h => h) rfl (fun x hx => by obtain ⟨x1, x2, x3, x4, x5⟩ := hx; go_simp) ?_
      try simp only [Act.put]
      refine Held.take (i := 8) (.pointer (some ⟨w.heap.size, 1, none⟩)) rfl hS (by kernel_rfl) (by kernel_rfl) (by kernel_rfl) (by kernel_rfl) (fun _ _ _ h => h) rfl (fun x hx => by obtain ⟨x1, x2, x3, x4, x5⟩ := hx; go_simp) ?_
      try simp only [Act.put]
      refine Held.take (i := 9) (.slice (some ⟨b, off, none⟩) g.n2 g.c2) rfl hS (by kernel_rfl) (by kernel_rfl) (by kernel_rfl) (by kernel_rfl) (fun _ _ _ h => h) rfl (fun x hx => by obtain ⟨x1, x2, x3, x4, x5⟩ := hx; go_simp) ?_
      try simp only [Act.put]
      refine Held.take (i := 10) (.int .i64 (k : Int)) rfl hS (by kernel_rfl) (by kernel_rfl) (by kernel_rfl) (by kernel_rfl) (fun _ _ _ h => h) rfl (fun x hx => by obtain ⟨x1, x2, x3, x4, x5⟩ := hx; go_simp) ?_
      try simp only [Act.put]
      refine Held.take (i := 11) (.pointer (some ⟨b, off + k * 3, none⟩)) rfl hS (by kernel_rfl) (by kernel_rfl) (by kernel_rfl) (by kernel_rfl) (fun _ _ _ h => h) rfl (fun x hx => by obtain ⟨x1, x2, x3, x4, x5⟩ := hx; go_simp) ?_
      try simp only [Act.put]
      refine Held.take (i := 12) (.pointer (some ⟨b, off + k * 3 + 1, none⟩)) rfl hS (by kernel_rfl) (by kernel_rfl) (by kernel_rfl) (by kernel_rfl) (fun _ _ _ h => h) rfl (fun x hx => by obtain ⟨x1, x2, x3, x4, x5⟩ := hx; go_simp) ?_
      try simp only [Act.put]
      refine Held.take (i := 13) (.int .i64 e.t) rfl hS (by kernel_rfl) (by kernel_rfl) (by kernel_rfl) (by kernel_rfl) (fun _ _ _ h => h) rfl (fun x hx => by obtain ⟨x1, x2, x3, x4, x5⟩ := hx; go_simp) ?_
      try simp only [Act.put]
      refine Held.take (i := 14) (.pointer (some ⟨w.heap.size, 1, none⟩)) rfl hS (by kernel_rfl) (by kernel_rfl) (by kernel_rfl) (by kernel_rfl) (fun _ _ _ h => h) rfl (fun x hx => by obtain ⟨x1, x2, x3, x4, x5⟩ := hx; go_simp) ?_
      try simp only [Act.put]
      refine Held.take (i := 15) (.slice (some ⟨b, off, none⟩) g.n2 g.c2) rfl hS (by kernel_rfl) (by kernel_rfl) (by kernel_rfl) (by kernel_rfl) (fun _ _ _ h => h) rfl (fun x hx => by obtain ⟨x1, x2, x3, x4, x5⟩ := hx; go_simp) ?_
      try simp only [Act.put]
      refine Held.take (i := 16) (.int .i64 (k : Int)) rfl hS (by kernel_rfl) (by kernel_rfl) (by kernel_rfl) (by kernel_rfl) (fun _ _ _ h => h) rfl (fun x hx => by obtain ⟨x1, x2, x3, x4, x5⟩ := hx; go_simp) ?_
      try simp only [Act.put]
      refine Held.take (i := 17) (.pointer (some ⟨b, off + k * 3, none⟩)) rfl hS (by kernel_rfl) (by kernel_rfl) (by kernel_rfl) (by kernel_rfl) (fun _ _ _ h => h) rfl (fun x hx => by obtain ⟨x1, x2, x3, x4, x5⟩ := hx; go_simp) ?_
      try simp only [Act.put]
      refine Held.take (i := 18) (.pointer (some ⟨b, off + k * 3 + 2, none⟩)) rfl hS (by kernel_rfl) (by kernel_rfl) (by kernel_rfl) (by kernel_rfl) (fun _ _ _ h => h) rfl (fun x hx => by obtain ⟨x1, x2, x3, x4, x5⟩ := hx; go_simp) ?_
      try simp only [Act.put]
      refine Held.take (i := 19) (.bool e.s) rfl hS (by kernel_rfl) (by kernel_rfl) (by kernel_rfl) (by kernel_rfl) (fun _ _ _ h => h) rfl (fun x hx => by obtain ⟨x1, x2, x3, x4, x5⟩ := hx; go_simp) ?_
      try simp only [Act.put]
      refine Held.take (i := 20) (.agg #[.int .i64 e.f, .int .i64 e.t, .bool e.s]) rfl hS (by kernel_rfl) (by kernel_rfl) (by kernel_rfl) (by kernel_rfl) (fun _ _ _ h => h) rfl (fun x hx => by obtain ⟨x1, x2, x3, x4, x5⟩ := hx; go_simp) ?_
      try simp only [Act.put]
      refine Held.one (i := 21) rfl (by kernel_rfl) rfl (fun K hK => ?_)
      have hS4 : (W3.alloc (.cells #[.int .i64 e.f, .int .i64 e.t, .bool e.s] 50)).cell? ⟨bo, 1, none⟩ = some v ∧ (W3.alloc (.cells #[.int .i64 e.f, .int .i64 e.t, .bool e.s] 50)).cell? ⟨w.heap.size, 1, none⟩ = some (.slice (some ⟨b, off, none⟩) g.n2 g.c2) ∧ (W3.alloc (.cells #[.int .i64 e.f, .int .i64 e.t, .bool e.s] 50)).cell? ⟨b, off + k * 3, none⟩ = some (.int .i64 e.f) ∧ (W3.alloc (.cells #[.int .i64 e.f, .int .i64 e.t, .bool e.s] 50)).cell? ⟨b, off + k * 3 + 1, none⟩ = some (.int .i64 e.t) ∧ (W3.alloc (.cells #[.int .i64 e.f, .int .i64 e.t, .bool e.s] 50)).cell? ⟨b, off + k * 3 + 2, none⟩ = some (.bool e.s) :=
        ⟨(World.cell?_alloc_lt W3 _ ⟨bo, 1, none⟩ hbw3).trans hS.1, (World.cell?_alloc_lt W3 _ ⟨w.heap.size, 1, none⟩ (by show w.heap.size < _; omega)).trans hS.2.1, (World.cell?_alloc_lt W3 _ ⟨b, off + k * 3, none⟩ (by show b < _; omega)).trans hS.2.2.1, (World.cell?_alloc_lt W3 _ ⟨b, off + k * 3 + 1, none⟩ (by show b < _; omega)).trans hS.2.2.2.1, (World.cell?_alloc_lt W3 _ ⟨b, off + k * 3 + 2, none⟩ (by show b < _; omega)).trans hS.2.2.2.2⟩
      have HS4 := hide hS4
      clear hS4
      unfold Oper.wp
      go_simp
      refine hK _ _ (fun _ => HS4.out) ?_
      try simp only [Act.put]
      clear hK K
      refine Held.one (i := 22) rfl (by kernel_rfl) rfl (fun K hK => ?_)
      have hrd : Reads (W3.alloc (.cells #[.int .i64 e.f, .int .i64 e.t, .bool e.s] 50)) (W3.heap.size + 1) 3 (some ⟨W3.heap.size, 0, none⟩) 1 [.int .i64 e.f, .int .i64 e.t, .bool e.s] :=
        ⟨rfl, fun _ => ⟨W3.heap.size, 0, rfl, by omega, fun j u hu => by
          have := (Blk.new W3 50 #[.int .i64 e.f, .int .i64 e.t, .bool e.s]).cell j
          rw [Nat.zero_add, this]; simpa using hu⟩⟩
      refine wp_append_any _ _ _ 23 rfl W2.heap.size 50 i1 _ 3 24 Tryd.underlying23 hi1 hy0 hy1 hy2 rfl (by decide) v k _ rfl (hown3.alloc _) (W3.heap.size + 1) (some ⟨W3.heap.size, 0, none⟩) 1 1 [.int .i64 e.f, .int .i64 e.t, .bool e.s] rfl hrd (by simp [Value.oneCell']) (by unfold maxLen; omega) (by omega) (by simp; omega) ?_
      intro v' w1 hown1 hgrow _
      obtain ⟨gg, cap, rfl⟩ := ownsRow_succ hown1
      have hblk5 := (hblk3.alloc _).grown hgrow (Ne.symm hne)
      have hS5 : w1.cell? ⟨bo, 1, none⟩ = some v ∧ w1.cell? ⟨w.heap.size, 1, none⟩ = some (.slice (some ⟨b, off, none⟩) g.n2 g.c2) ∧ w1.cell? ⟨b, off + k * 3, none⟩ = some (.int .i64 e.f) ∧ w1.cell? ⟨b, off + k * 3 + 1, none⟩ = some (.int .i64 e.t) ∧ w1.cell? ⟨b, off + k * 3 + 2, none⟩ = some (.bool e.s) :=
        ⟨hblk5.cell 1, (hgrow.cell_far ⟨w.heap.size, 1, none⟩ (by simp; omega) (Ne.symm nb1)).trans HS4.out.2.1, (hgrow.cell_far ⟨b, off + k * 3, none⟩ (by simp; omega) (Ne.symm nb2)).trans HS4.out.2.2.1, (hgrow.cell_far ⟨b, off + k * 3 + 1, none⟩ (by simp; omega) (Ne.symm nb2)).trans HS4.out.2.2.2.1, (hgrow.cell_far ⟨b, off + k * 3 + 2, none⟩ (by simp; omega) (Ne.symm nb2)).trans HS4.out.2.2.2.2⟩
      have hgl := (hown1.lt gg rfl).1
      refine hK _ _ (fun _ => hS5) ?_
      try simp only [Act.put]
      clear hK K hS HS4 hrd
      refine Held.take (i := 23) (.pointer (some ⟨bo, 1, none⟩)) rfl hS5 (by kernel_rfl) (by kernel_rfl) (by kernel_rfl) (by kernel_rfl) (fun _ _ _ h => h) rfl (fun x hx => by obtain ⟨x1, x2, x3, x4, x5⟩ := hx; go_simp) ?_
      try simp only [Act.put]
      refine Held.one (i := 24) rfl (by kernel_rfl) rfl (fun K hK => ?_)
      have o1 : w1.cell? ⟨bo, 1, none⟩ = some v := hS5.1
      have fo := hblk5.frozen 1
      clear hS5
      have hown6 := ownsRow_setCell_below hown1 (a := ⟨bo, 1, none⟩) (by show bo < _; omega) (.slice (some ⟨gg, 0, none⟩) (k + 1) cap)
      have hblk6 := hblk5.set_ 1 (.slice (some ⟨gg, 0, none⟩) (k + 1) cap)
      have hB6 := ((hB3.alloc (by omega) (.cells #[.int .i64 e.f, .int .i64 e.t, .bool e.s] 50)).grown hgrow (by simp; omega) (fun x ex => .inl (hown3.lt x ex).1)).setCell (p := ⟨bo, 1, none⟩) (.inr (by simp)) (.slice (some ⟨gg, 0, none⟩) (k + 1) cap)
      clear hgrow hown1 hown3 hblk3 hblk5 hB3
      unfold Oper.wp
      go_simp
      refine hK _ _ (fun h => absurd rfl h) ?_
      try simp only [Act.put]
      clear hK K
      refine Held.done (by kernel_rfl) ?_
      go_wp2
      go_roundw
      case rel => exact ⟨k + 1, _, by omega, by go_num, hblk6, by rw [HSN.out]; exact hown6, hB6⟩
      case measure => simp [intOf]; omega
    · obtain rfl : k = g.n2 := by omega
      rw [take_all HL2.out] at hown
      obtain ⟨A2, c2, rfl, hR2⟩ := own_form hown
      have hO2' : wr.ownsRow (w.heap.size + 3) 3 1 (.slice A1 g.n1 c1) g.n1 (g.ops.map (Value.int .i64)) := own_mono (owns_bar hO2 hB (by simp; omega)) hs03
      have o0 : wr.cell? ⟨bo, 0, none⟩ = some (.slice A1 g.n1 c1) := hblk.cell 0
      have bk2 : Blk wr br 25 #[.slice none 0 0, .slice none 0 0] := (hB.block br (by omega) (by simp; omega)).trans k21
      have r0 : wr.cell? ⟨br, 0, none⟩ = some (.slice none 0 0) := bk2.cell 0
      have r1 : wr.cell? ⟨br, 1, none⟩ = some (.slice none 0 0) := bk2.cell 1
      have fr0 := bk2.frozen 0
      have fr1 := bk2.frozen 1
      have bk3 := bk2.set_ 0 (.slice A1 g.n1 c1)
      have bk4 := bk3.set_ 1 (.slice A2 g.n2 c2)
      have z0 : (wr.setCell ⟨br, 0, none⟩ (.slice A1 g.n1 c1)).cell? ⟨br, 0, none⟩ = some (.slice A1 g.n1 c1) := bk3.cell 0
      have z1 : ((wr.setCell ⟨br, 0, none⟩ (.slice A1 g.n1 c1)).setCell ⟨br, 1, none⟩ (.slice A2 g.n2 c2)).cell? ⟨br, 1, none⟩ = some (.slice A2 g.n2 c2) := bk4.cell 1
      have o1' : wr.cell? ⟨bo, 1, none⟩ = some (.slice A2 g.n2 c2) := o1
      have y1 : (wr.setCell ⟨br, 0, none⟩ (.slice A1 g.n1 c1)).cell? ⟨br, 1, none⟩ = some (.slice none 0 0) := bk3.cell 1
      have y2 : (wr.setCell ⟨br, 0, none⟩ (.slice A1 g.n1 c1)).frozen? ⟨br, 1, none⟩ = false := bk3.frozen 1
      have hrd1 : Reads wr wr.heap.size 1 A1 g.n1 (g.ops.map (Value.int .i64)) := by
        obtain ⟨A', c', e, h⟩ := own_form hO2'
        cases e; exact h
      have HOK := hide (show (⟨A1, g.n1, c1, g.ops, A2, g.n2, c2, g.es⟩ : Gr).Ok ((wr.setCell ⟨br, 0, none⟩ (.slice A1 g.n1 c1)).setCell ⟨br, 1, none⟩ (.slice A2 g.n2 c2)) ((wr.setCell ⟨br, 0, none⟩ (.slice A1 g.n1 c1)).setCell ⟨br, 1, none⟩ (.slice A2 g.n2 c2)).heap.size from
        ⟨by
          have h1 := ownsRow_setCell_below hO2' (a := ⟨br, 0, none⟩) (by show br < _; omega) (.slice A1 g.n1 c1)
          have h2 := ownsRow_setCell_below h1 (a := ⟨br, 1, none⟩) (by show br < _; omega) (.slice A2 g.n2 c2)
          obtain ⟨A', c', e, h⟩ := own_form h2
          cases e; exact h, by
          have h1 := ownsRow_setCell_below hown (a := ⟨br, 0, none⟩) (by show br < _; omega) (.slice A1 g.n1 c1)
          have h2 := ownsRow_setCell_below h1 (a := ⟨br, 1, none⟩) (by show br < _; omega) (.slice A2 g.n2 c2)
          obtain ⟨A', c', e, h⟩ := own_form h2
          cases e; exact h⟩)
      have HBE := hide (((hB02.trans hBw).setCell (p := ⟨br, 0, none⟩) (by show w.heap.size ≤ br; omega) (.slice A1 g.n1 c1)).setCell (p := ⟨br, 1, none⟩) (by show w.heap.size ≤ br; omega) (.slice A2 g.n2 c2))
      clear hrd1 hown hO2' bk2 bk3 bk4 hblk hR2 hB hBw
      go_wp2
      (try simp only [Exit.inBlock, Exit.then])
      refine bodyPost_ret (by simp [results, Tryd.results12, go_sem, z0, z1]; rfl) rfl ?_
      exact ⟨⟨A1, g.n1, c1, g.ops, A2, g.n2, c2, g.es⟩, ⟨rfl, rfl, rfl, rfl⟩, rfl, HOK.out, HBE.out⟩
end Go.Proofs.YtmpoaegdejhbeaaDoor
