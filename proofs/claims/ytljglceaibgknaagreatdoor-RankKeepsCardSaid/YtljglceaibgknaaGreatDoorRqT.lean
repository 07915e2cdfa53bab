/-
  The walk of the reference's NewRanker. No condition. (Printed by gen_rnew.)
-/
import Derived.Test.YtljglceaibgknaaGreatDoorRqS
namespace Go.Proofs.YtljglceaibgknaaGreatDoor
open Go.RowKit
attribute [local go_sem] Oper.semAt_some wide_fn wide_depth
set_option linter.unusedVariables false
set_option linter.unusedSimpArgs false

def RetNewR (s : Stp) (width : Int) (w : World) (e : Ending) (w' : World) : Prop := Below w.heap.size w w' ∧
  if okS s width = true then ∃ b k, e = .returned (.tuple #[.pointer (some ⟨b, 0, none⟩), .int .i64 0]) ∧ w.heap.size ≤ b ∧ RkR w' b k s width none 0 0 []
  else e = .returned (.tuple #[.pointer none, .int .i64 1])
set_option maxRecDepth 100000 in
set_option maxHeartbeats 16000000 in
theorem RNewRanker_any (k : Sk) (s : Stp) (width : Int) (w : World) (hs : SetK w w.heap.size k s)  : Calls Tryz.prog 41 #[k.v s, .int .i64 width] w (RetNewR s width w) := by
  obtain ⟨per, by_, dn, sn⟩ := s
  obtain ⟨i0, hi, hz0, hz1, hz2⟩ := info_parts3 infoInt1
  unfold Sk.v
  have hB := below_val (w := w) #[.slice k.A k.n k.c, .slice k.A' k.n' k.c', .bool dn, .int .i64 sn] 34
  have kb := Blk.new w 34 #[.slice k.A k.n k.c, .slice k.A' k.n' k.c', .bool dn, .int .i64 sn]
  have hs1 := hs.up hB
  go_enter Tryz.func41, Tryz.ntmps41
  go_upto_region 1 with fail
  obtain ⟨W, hW⟩ : ∃ W, w.alloc (.cells #[.slice k.A k.n k.c, .slice k.A' k.n' k.c', .bool dn, .int .i64 sn] 34) = W := ⟨_, rfl⟩
  obtain ⟨bs, hbs⟩ : ∃ bs, w.heap.size = bs := ⟨_, rfl⟩
  rw [hbs] at hs
  rw [hW] at hB kb hs1 ⊢
  rw [hbs] at kb hB ⊢
  have hbx : BoxS W bs k ⟨per, by_, dn, sn⟩ := ⟨by simpa using kb.cell 0, by simpa using kb.cell 1, by simpa using kb.cell 2, by simpa using kb.cell 3⟩
  clear hW
  have HV0 := RefValid_any k ⟨per, by_, dn, sn⟩ width W hs1
  unfold Sk.v at HV0
  have HV := hide HV0
  have c0 := hbx.c0
  have c1 := hbx.c1
  have c2 := hbx.c2
  have c3 := hbx.c3
  clear HV0
  cases ho : okS ⟨per, by_, dn, sn⟩ width
  · rw [ho] at HV
    have HO := hide ho
    clear ho
    go_wp2_with fail
    refine HV.out.mono ?_
    rintro e W1 ⟨rfl, hB1⟩
    go_wp2
    go_ret2
    refine ⟨hbs ▸ hB.trans (hB1.mono (by have := hB.size; rw [hbs] at this; exact this)), ?_⟩
    rw [HO.out]
    rfl
  · rw [ho] at HV
    have HO := hide ho
    clear ho
    go_wp2_with fail
    refine HV.out.mono ?_
    rintro e W1 ⟨rfl, hB1⟩
    have hBw : Below bs w W1 := hB.trans (hB1.mono (by have := hB.size; rw [hbs] at this; exact this))
    have kb1 := kb.below hB1 kb.lt
    clear hB hB1 kb hs1 hbx HV c0 c1 c2 c3
    go_wp2_with fail
    refine Helds.begin (fun y => y.cell? ⟨bs, 0, none⟩ = some (.slice k.A k.n k.c) ∧ y.cell? ⟨bs, 1, none⟩ = some (.slice k.A' k.n' k.c')) [9, 10, 11] (by kernel_rfl) ?_
    obtain ⟨X1, hX1⟩ : ∃ X1, W1.drew = X1 := ⟨_, rfl⟩
    have hD : Below W1.heap.size W1 X1 := by rw [← hX1]; exact (Below.refl _ _).drew
    rw [hX1]
    have kbX1 := kb1.below hD kb1.lt
    have hBX1 : Below bs w X1 := hBw.trans (hD.mono (Nat.le_of_lt kb1.lt))
    have hS : X1.cell? ⟨bs, 0, none⟩ = some (.slice k.A k.n k.c) ∧ X1.cell? ⟨bs, 1, none⟩ = some (.slice k.A' k.n' k.c') := ⟨by simpa using kbX1.cell 0, by simpa using kbX1.cell 1⟩
    clear hX1 kb1 hBw hD
    refine Helds.take (i := 1) (.pointer (some ⟨bs, 0, none⟩)) rfl hS (by kernel_rfl) (by kernel_rfl) (by kernel_rfl) (by kernel_rfl) (fun _ _ _ h => h) rfl (fun y hy => by obtain ⟨x1, x2⟩ := hy; go_simp) ?_
    try simp only [Act.put]
    refine Helds.take (i := 5) (.pointer (some ⟨bs, 1, none⟩)) rfl hS (by kernel_rfl) (by kernel_rfl) (by kernel_rfl) (by kernel_rfl) (fun _ _ _ h => h) rfl (fun y hy => by obtain ⟨x1, x2⟩ := hy; go_simp) ?_
    try simp only [Act.put]
    refine Helds.take (i := 2) (.slice k.A k.n k.c) rfl hS (by kernel_rfl) (by kernel_rfl) (by kernel_rfl) (by kernel_rfl) (fun _ _ _ h => h) rfl (fun y hy => by obtain ⟨x1, x2⟩ := hy; go_simp) ?_
    try simp only [Act.put]
    refine Helds.take (i := 6) (.slice k.A' k.n' k.c') rfl hS (by kernel_rfl) (by kernel_rfl) (by kernel_rfl) (by kernel_rfl) (fun _ _ _ h => h) rfl (fun y hy => by obtain ⟨x1, x2⟩ := hy; go_simp) ?_
    try simp only [Act.put]
    refine Helds.two (i := 0) (j := 4) rfl rfl (by kernel_rfl) rfl rfl (fun K hK => ?_) (fun K hK => ?_)
    · -- 0
      unfold Oper.wp
      go_simp
      have l0 := own_lit X1 3 1 0 #[] rfl (by unfold maxLen; omega) (Nat.le_of_lt kbX1.lt : bs ≤ X1.heap.size)
      have kbX2 := kbX1.alloc (.cells #[] 3)
      have hBX2 : Below bs w (X1.alloc (.cells #[] 3)) := hBX1.alloc (Nat.le_of_lt kbX1.lt) _
      obtain ⟨g0, hg0⟩ : ∃ g0, X1.heap.size = g0 := ⟨_, rfl⟩
      have gb0 : bs < g0 := hg0 ▸ kbX1.lt
      have gs0 : g0 < (X1.alloc (.cells #[] 3)).heap.size := by rw [World.size_alloc, hg0]; omega
      obtain ⟨X2, hX2⟩ : ∃ X2, X1.alloc (.cells #[] 3) = X2 := ⟨_, rfl⟩
      rw [hg0] at l0 ⊢
      rw [hX2] at l0 kbX2 hBX2 gs0   ⊢
      clear hX2 hg0
      have hS : X2.cell? ⟨bs, 0, none⟩ = some (.slice k.A k.n k.c) ∧ X2.cell? ⟨bs, 1, none⟩ = some (.slice k.A' k.n' k.c') := ⟨by simpa using kbX2.cell 0, by simpa using kbX2.cell 1⟩
      refine hK _ _ (fun _ => hS) ?_
      try simp only [Act.put]
      clear hK K kbX1 hBX1
      refine Helds.two (i := 3) (j := 4) rfl rfl (by kernel_rfl) rfl rfl (fun K hK => ?_) (fun K hK => ?_)
      · -- 0 3 4 7
        refine wp_append_any _ _ _ 22 rfl bs 3 i0 _ 1 8 Tryz.underlying22 hi hz0 hz1 hz2 rfl (by decide) (.slice (some ⟨g0, 0, none⟩) 0 0) 0 [] rfl l0 bs k.A k.n k.c (per.map (Value.int .i64)) rfl (hs.keep fun _ hp => hBX2.cell hp).p (by intro u hu; obtain ⟨y, _, rfl⟩ := List.mem_map.1 hu; rfl) (by have := hs.np; have := hs.nb; unfold maxLen; omega) (by have := hs.np; have := hs.nb; omega) (Nat.le_of_lt kbX2.lt) ?_
        intro v3 X3 a3 hgrow3 hat3
        rw [Nat.zero_add, List.nil_append] at a3
        have kbX3 := kbX2.grown hgrow3 (by intro h; injection h with h; have h9 : bs = g0 := h; omega)
        have hBX3 : Below bs w X3 := below_append hBX2 l0 (Nat.le_of_lt kbX2.lt) hgrow3
        have ff3 : ∃ A3 d3, v3 = .slice A3 k.n d3 := (own_form a3).elim fun A3 h => h.elim fun d3 h => ⟨A3, d3, h.1⟩
        obtain ⟨A3, d3, rfl⟩ := ff3
        have hS : X3.cell? ⟨bs, 0, none⟩ = some (.slice k.A k.n k.c) ∧ X3.cell? ⟨bs, 1, none⟩ = some (.slice k.A' k.n' k.c') := ⟨by simpa using kbX3.cell 0, by simpa using kbX3.cell 1⟩
        refine hK _ _ (fun _ => hS) ?_
        try simp only [Act.put]
        clear hK K kbX2 hBX2
        refine Helds.take (i := 8) (.pointer (some ⟨bs, 0, none⟩)) rfl hS (by kernel_rfl) (by kernel_rfl) (by kernel_rfl) (by kernel_rfl) (fun _ _ _ h => h) rfl (fun y hy => by obtain ⟨x1, x2⟩ := hy; go_simp) ?_
        try simp only [Act.put]
        refine Helds.one (i := 4) rfl (by kernel_rfl) rfl (fun K hK => ?_)
        unfold Oper.wp
        go_simp
        have l4 := own_lit X3 3 1 0 #[] rfl (by unfold maxLen; omega) (Nat.le_of_lt kbX3.lt : bs ≤ X3.heap.size)
        have kbX4 := kbX3.alloc (.cells #[] 3)
        have hBX4 : Below bs w (X3.alloc (.cells #[] 3)) := hBX3.alloc (Nat.le_of_lt kbX3.lt) _
        have a3o := a3
        have a3 := a3.alloc (.cells #[] 3)
        obtain ⟨g4, hg4⟩ : ∃ g4, X3.heap.size = g4 := ⟨_, rfl⟩
        have gb4 : bs < g4 := hg4 ▸ kbX3.lt
        have gs4 : g4 < (X3.alloc (.cells #[] 3)).heap.size := by rw [World.size_alloc, hg4]; omega
        have nb3 : (.slice A3 k.n d3 : Value).ownBlock ≠ some g4 := fun e => by have := (a3o.lt _ e).2; omega
        obtain ⟨X4, hX4⟩ : ∃ X4, X3.alloc (.cells #[] 3) = X4 := ⟨_, rfl⟩
        rw [hg4] at l4 ⊢
        rw [hX4] at l4 kbX4 hBX4 gs4 a3  ⊢
        clear hX4 hg4 a3o
        have hS : X4.cell? ⟨bs, 0, none⟩ = some (.slice k.A k.n k.c) ∧ X4.cell? ⟨bs, 1, none⟩ = some (.slice k.A' k.n' k.c') := ⟨by simpa using kbX4.cell 0, by simpa using kbX4.cell 1⟩
        refine hK _ _ (fun _ => hS) ?_
        try simp only [Act.put]
        clear hK K kbX3 hBX3
        refine Helds.one (i := 7) rfl (by kernel_rfl) rfl (fun K hK => ?_)
        refine wp_append_any _ _ _ 22 rfl bs 3 i0 _ 1 8 Tryz.underlying22 hi hz0 hz1 hz2 rfl (by decide) (.slice (some ⟨g4, 0, none⟩) 0 0) 0 [] rfl l4 bs k.A' k.n' k.c' (by_.map (Value.int .i64)) rfl (hs.keep fun _ hp => hBX4.cell hp).b (by intro u hu; obtain ⟨y, _, rfl⟩ := List.mem_map.1 hu; rfl) (by have := hs.np; have := hs.nb; unfold maxLen; omega) (by have := hs.np; have := hs.nb; omega) (Nat.le_of_lt kbX4.lt) ?_
        intro v7 X5 a7 hgrow7 hat7
        rw [Nat.zero_add, List.nil_append] at a7
        have kbX5 := kbX4.grown hgrow7 (by intro h; injection h with h; have h9 : bs = g4 := h; omega)
        have hBX5 : Below bs w X5 := below_append hBX4 l4 (Nat.le_of_lt kbX4.lt) hgrow7
        have a3 := a3.kept hgrow7 (.inr nb3)
        have ff7 : ∃ A3 d3, v7 = .slice A3 k.n' d3 := (own_form a7).elim fun A3 h => h.elim fun d3 h => ⟨A3, d3, h.1⟩
        obtain ⟨A7, d7, rfl⟩ := ff7
        have hS : X5.cell? ⟨bs, 0, none⟩ = some (.slice k.A k.n k.c) ∧ X5.cell? ⟨bs, 1, none⟩ = some (.slice k.A' k.n' k.c') := ⟨by simpa using kbX5.cell 0, by simpa using kbX5.cell 1⟩
        refine hK _ _ (fun _ => hS) ?_
        try simp only [Act.put]
        clear hK K kbX4 hBX4
        have hr5 := Reads.of_own a3
        have hr4 := Reads.of_own a7
        have hk3 := own_capC a3
        have hk4 := own_capC a7
        have hnp := hs.np
        have hnb := hs.nb
        clear hs a3 a7
        have f0 := kbX5.frozen 0
        have c0 := hS.1
        refine Helds.one (i := 9) rfl (by kernel_rfl) rfl (fun K hK => ?_)
        unfold Oper.wp
        go_simp
        refine hK _ _ (fun h => absurd (by decide) h) ?_
        try simp only [Act.put]
        clear hK K
        have kb5 := kbX5.set_ 0 (.slice A3 k.n d3)
        have hB5 : Below bs w (X5.setCell ⟨bs, 0, none⟩ (.slice A3 k.n d3)) := hBX5.setCell (p := ⟨bs, 0, none⟩) (Nat.le_refl _) _
        have hr6 : Reads (X5.setCell ⟨bs, 0, none⟩ (.slice A3 k.n d3)) X5.heap.size 1 A3 k.n (per.map (Value.int .i64)) := hr5.off (fun u hu => by rw [hS.1]; obtain ⟨y, _, rfl⟩ := List.mem_map.1 hu; exact fun h => by cases h) _
        have hr7 : Reads (X5.setCell ⟨bs, 0, none⟩ (.slice A3 k.n d3)) X5.heap.size 1 A7 k.n' (by_.map (Value.int .i64)) := hr4.off (fun u hu => by rw [hS.1]; obtain ⟨y, _, rfl⟩ := List.mem_map.1 hu; exact fun h => by cases h) _
        have hz5 : (X5.setCell ⟨bs, 0, none⟩ (.slice A3 k.n d3)).heap.size = X5.heap.size := by simp [World.setCell]
        rw [← hz5] at hr6 hr7
        obtain ⟨Y4, hY4⟩ : ∃ Y4, X5.setCell ⟨bs, 0, none⟩ (.slice A3 k.n d3) = Y4 := ⟨_, rfl⟩
        rw [hY4] at kb5 hB5 hr6 hr7 ⊢
        clear hY4 hz5 hr5 hr4 hBX5 kbX5 f0 c0 hS
        refine Helds.one (i := 10) rfl (by kernel_rfl) rfl (fun K hK => ?_)
        unfold Oper.wp
        go_simp
        refine hK _ _ (fun h => absurd (by decide) h) ?_
        try simp only [Act.put]
        clear hK K
        have f1 := kb5.frozen 1
        have g1 : Y4.cell? ⟨bs, 1, none⟩ = some (.slice k.A' k.n' k.c') := by simpa using kb5.cell 1
        refine Helds.one (i := 11) rfl (by kernel_rfl) rfl (fun K hK => ?_)
        unfold Oper.wp
        go_simp
        refine hK _ _ (fun h => absurd (by decide) h) ?_
        try simp only [Act.put]
        clear hK K
        refine Helds.done (by kernel_rfl) ?_
        have kb6 := kb5.set_ 1 (.slice A7 k.n' d7)
        have hB6 : Below bs w (Y4.setCell ⟨bs, 1, none⟩ (.slice A7 k.n' d7)) := hB5.setCell (p := ⟨bs, 1, none⟩) (Nat.le_refl _) _
        have hr8 : Reads (Y4.setCell ⟨bs, 1, none⟩ (.slice A7 k.n' d7)) Y4.heap.size 1 A3 k.n (per.map (Value.int .i64)) := hr6.off (fun u hu => by rw [g1]; obtain ⟨y, _, rfl⟩ := List.mem_map.1 hu; exact fun h => by cases h) _
        have hr9 : Reads (Y4.setCell ⟨bs, 1, none⟩ (.slice A7 k.n' d7)) Y4.heap.size 1 A7 k.n' (by_.map (Value.int .i64)) := hr7.off (fun u hu => by rw [g1]; obtain ⟨y, _, rfl⟩ := List.mem_map.1 hu; exact fun h => by cases h) _
        have hz6 : (Y4.setCell ⟨bs, 1, none⟩ (.slice A7 k.n' d7)).heap.size = Y4.heap.size := by simp [World.setCell]
        rw [← hz6] at hr8 hr9
        obtain ⟨Y5, hY5⟩ : ∃ Y5, Y4.setCell ⟨bs, 1, none⟩ (.slice A7 k.n' d7) = Y5 := ⟨_, rfl⟩
        rw [hY5] at kb6 hB6 hr8 hr9 ⊢
        clear hY5 hz6 hr6 hr7 hB5 kb5 f1 g1
        have c0 : Y5.cell? ⟨bs, 0, none⟩ = some (.slice A3 k.n d3) := by simpa using kb6.cell 0
        have c1 : Y5.cell? ⟨bs, 1, none⟩ = some (.slice A7 k.n' d7) := by simpa using kb6.cell 1
        have c2 : Y5.cell? ⟨bs, 2, none⟩ = some (.bool dn) := by simpa using kb6.cell 2
        have c3 : Y5.cell? ⟨bs, 3, none⟩ = some (.int .i64 sn) := by simpa using kb6.cell 3
        go_wp2
        go_ret2
        have hB7 := below_val (w := Y5) #[.slice A3 k.n d3, .slice A7 k.n' d7, .bool dn, .int .i64 sn, .int .i64 width, .slice none 0 0] 139
        have kb7 := Blk.new Y5 139 #[.slice A3 k.n d3, .slice A7 k.n' d7, .bool dn, .int .i64 sn, .int .i64 width, .slice none 0 0]
        refine ⟨hbs ▸ hB6.trans (hB7.mono (Nat.le_of_lt kb6.lt)), ?_⟩
        rw [if_pos HO.out]
        exact ⟨Y5.heap.size, ⟨A3, k.n, d3, A7, k.n', d7⟩, rfl, hbs ▸ Nat.le_of_lt kb6.lt, ⟨kb7, ⟨hr8.alloc (Nat.le_refl _) _, hr9.alloc (Nat.le_refl _) _, hnp, hnb⟩, hk3, hk4, BagR.nil _ _, Nat.le_refl _⟩⟩
      · -- 0 4 3 7
        unfold Oper.wp
        go_simp
        have l4 := own_lit X2 3 1 0 #[] rfl (by unfold maxLen; omega) (Nat.le_of_lt kbX2.lt : bs ≤ X2.heap.size)
        have kbX3 := kbX2.alloc (.cells #[] 3)
        have hBX3 : Below bs w (X2.alloc (.cells #[] 3)) := hBX2.alloc (Nat.le_of_lt kbX2.lt) _
        have l0 := l0.alloc (.cells #[] 3)
        obtain ⟨g4, hg4⟩ : ∃ g4, X2.heap.size = g4 := ⟨_, rfl⟩
        have gb4 : bs < g4 := hg4 ▸ kbX2.lt
        have gs4 : g4 < (X2.alloc (.cells #[] 3)).heap.size := by rw [World.size_alloc, hg4]; omega
        have ne4_0 : g0 < g4 := by rw [← hg4]; exact gs0
        have gs0 : g0 < (X2.alloc (.cells #[] 3)).heap.size := by rw [World.size_alloc]; omega
        obtain ⟨X3, hX3⟩ : ∃ X3, X2.alloc (.cells #[] 3) = X3 := ⟨_, rfl⟩
        rw [hg4] at l4 ⊢
        rw [hX3] at l4 kbX3 hBX3 gs4 l0 gs0 ⊢
        clear hX3 hg4
        have hS : X3.cell? ⟨bs, 0, none⟩ = some (.slice k.A k.n k.c) ∧ X3.cell? ⟨bs, 1, none⟩ = some (.slice k.A' k.n' k.c') := ⟨by simpa using kbX3.cell 0, by simpa using kbX3.cell 1⟩
        refine hK _ _ (fun _ => hS) ?_
        try simp only [Act.put]
        clear hK K kbX2 hBX2
        refine Helds.one (i := 3) rfl (by kernel_rfl) rfl (fun K hK => ?_)
        refine wp_append_any _ _ _ 22 rfl bs 3 i0 _ 1 8 Tryz.underlying22 hi hz0 hz1 hz2 rfl (by decide) (.slice (some ⟨g0, 0, none⟩) 0 0) 0 [] rfl l0 bs k.A k.n k.c (per.map (Value.int .i64)) rfl (hs.keep fun _ hp => hBX3.cell hp).p (by intro u hu; obtain ⟨y, _, rfl⟩ := List.mem_map.1 hu; rfl) (by have := hs.np; have := hs.nb; unfold maxLen; omega) (by have := hs.np; have := hs.nb; omega) (Nat.le_of_lt kbX3.lt) ?_
        intro v3 X4 a3 hgrow3 hat3
        rw [Nat.zero_add, List.nil_append] at a3
        have kbX4 := kbX3.grown hgrow3 (by intro h; injection h with h; have h9 : bs = g0 := h; omega)
        have hBX4 : Below bs w X4 := below_append hBX3 l0 (Nat.le_of_lt kbX3.lt) hgrow3
        have l4 := l4.kept hgrow3 (.inr (by intro h; injection h with h; have h9 : g4 = g0 := h; omega))
        have gt4 := gs4
        have gs4 : g4 < X4.heap.size := Nat.lt_of_lt_of_le gs4 hgrow3.size
        have nb3 : v3.ownBlock ≠ some g4 := by
          intro e
          rcases hat3 with h | h <;> rw [h] at e <;> injection e with e
          · have h2 : g0 = g4 := e
            omega
          · omega
        have ff3 : ∃ A3 d3, v3 = .slice A3 k.n d3 := (own_form a3).elim fun A3 h => h.elim fun d3 h => ⟨A3, d3, h.1⟩
        obtain ⟨A3, d3, rfl⟩ := ff3
        have hS : X4.cell? ⟨bs, 0, none⟩ = some (.slice k.A k.n k.c) ∧ X4.cell? ⟨bs, 1, none⟩ = some (.slice k.A' k.n' k.c') := ⟨by simpa using kbX4.cell 0, by simpa using kbX4.cell 1⟩
        refine hK _ _ (fun _ => hS) ?_
        try simp only [Act.put]
        clear hK K kbX3 hBX3
        refine Helds.take (i := 8) (.pointer (some ⟨bs, 0, none⟩)) rfl hS (by kernel_rfl) (by kernel_rfl) (by kernel_rfl) (by kernel_rfl) (fun _ _ _ h => h) rfl (fun y hy => by obtain ⟨x1, x2⟩ := hy; go_simp) ?_
        try simp only [Act.put]
        refine Helds.one (i := 7) rfl (by kernel_rfl) rfl (fun K hK => ?_)
        refine wp_append_any _ _ _ 22 rfl bs 3 i0 _ 1 8 Tryz.underlying22 hi hz0 hz1 hz2 rfl (by decide) (.slice (some ⟨g4, 0, none⟩) 0 0) 0 [] rfl l4 bs k.A' k.n' k.c' (by_.map (Value.int .i64)) rfl (hs.keep fun _ hp => hBX4.cell hp).b (by intro u hu; obtain ⟨y, _, rfl⟩ := List.mem_map.1 hu; rfl) (by have := hs.np; have := hs.nb; unfold maxLen; omega) (by have := hs.np; have := hs.nb; omega) (Nat.le_of_lt kbX4.lt) ?_
        intro v7 X5 a7 hgrow7 hat7
        rw [Nat.zero_add, List.nil_append] at a7
        have kbX5 := kbX4.grown hgrow7 (by intro h; injection h with h; have h9 : bs = g4 := h; omega)
        have hBX5 : Below bs w X5 := below_append hBX4 l4 (Nat.le_of_lt kbX4.lt) hgrow7
        have a3 := a3.kept hgrow7 (.inr nb3)
        have ff7 : ∃ A3 d3, v7 = .slice A3 k.n' d3 := (own_form a7).elim fun A3 h => h.elim fun d3 h => ⟨A3, d3, h.1⟩
        obtain ⟨A7, d7, rfl⟩ := ff7
        have hS : X5.cell? ⟨bs, 0, none⟩ = some (.slice k.A k.n k.c) ∧ X5.cell? ⟨bs, 1, none⟩ = some (.slice k.A' k.n' k.c') := ⟨by simpa using kbX5.cell 0, by simpa using kbX5.cell 1⟩
        refine hK _ _ (fun _ => hS) ?_
        try simp only [Act.put]
        clear hK K kbX4 hBX4
        have hr5 := Reads.of_own a3
        have hr4 := Reads.of_own a7
        have hk3 := own_capC a3
        have hk4 := own_capC a7
        have hnp := hs.np
        have hnb := hs.nb
        clear hs a3 a7
        have f0 := kbX5.frozen 0
        have c0 := hS.1
        refine Helds.one (i := 9) rfl (by kernel_rfl) rfl (fun K hK => ?_)
        unfold Oper.wp
        go_simp
        refine hK _ _ (fun h => absurd (by decide) h) ?_
        try simp only [Act.put]
        clear hK K
        have kb5 := kbX5.set_ 0 (.slice A3 k.n d3)
        have hB5 : Below bs w (X5.setCell ⟨bs, 0, none⟩ (.slice A3 k.n d3)) := hBX5.setCell (p := ⟨bs, 0, none⟩) (Nat.le_refl _) _
        have hr6 : Reads (X5.setCell ⟨bs, 0, none⟩ (.slice A3 k.n d3)) X5.heap.size 1 A3 k.n (per.map (Value.int .i64)) := hr5.off (fun u hu => by rw [hS.1]; obtain ⟨y, _, rfl⟩ := List.mem_map.1 hu; exact fun h => by cases h) _
        have hr7 : Reads (X5.setCell ⟨bs, 0, none⟩ (.slice A3 k.n d3)) X5.heap.size 1 A7 k.n' (by_.map (Value.int .i64)) := hr4.off (fun u hu => by rw [hS.1]; obtain ⟨y, _, rfl⟩ := List.mem_map.1 hu; exact fun h => by cases h) _
        have hz5 : (X5.setCell ⟨bs, 0, none⟩ (.slice A3 k.n d3)).heap.size = X5.heap.size := by simp [World.setCell]
        rw [← hz5] at hr6 hr7
        obtain ⟨Y4, hY4⟩ : ∃ Y4, X5.setCell ⟨bs, 0, none⟩ (.slice A3 k.n d3) = Y4 := ⟨_, rfl⟩
        rw [hY4] at kb5 hB5 hr6 hr7 ⊢
        clear hY4 hz5 hr5 hr4 hBX5 kbX5 f0 c0 hS
        refine Helds.one (i := 10) rfl (by kernel_rfl) rfl (fun K hK => ?_)
        unfold Oper.wp
        go_simp
        refine hK _ _ (fun h => absurd (by decide) h) ?_
        try simp only [Act.put]
        clear hK K
        have f1 := kb5.frozen 1
        have g1 : Y4.cell? ⟨bs, 1, none⟩ = some (.slice k.A' k.n' k.c') := by simpa using kb5.cell 1
        refine Helds.one (i := 11) rfl (by kernel_rfl) rfl (fun K hK => ?_)
        unfold Oper.wp
        go_simp
        refine hK _ _ (fun h => absurd (by decide) h) ?_
        try simp only [Act.put]
        clear hK K
        refine Helds.done (by kernel_rfl) ?_
        have kb6 := kb5.set_ 1 (.slice A7 k.n' d7)
        have hB6 : Below bs w (Y4.setCell ⟨bs, 1, none⟩ (.slice A7 k.n' d7)) := hB5.setCell (p := ⟨bs, 1, none⟩) (Nat.le_refl _) _
        have hr8 : Reads (Y4.setCell ⟨bs, 1, none⟩ (.slice A7 k.n' d7)) Y4.heap.size 1 A3 k.n (per.map (Value.int .i64)) := hr6.off (fun u hu => by rw [g1]; obtain ⟨y, _, rfl⟩ := List.mem_map.1 hu; exact fun h => by cases h) _
        have hr9 : Reads (Y4.setCell ⟨bs, 1, none⟩ (.slice A7 k.n' d7)) Y4.heap.size 1 A7 k.n' (by_.map (Value.int .i64)) := hr7.off (fun u hu => by rw [g1]; obtain ⟨y, _, rfl⟩ := List.mem_map.1 hu; exact fun h => by cases h) _
        have hz6 : (Y4.setCell ⟨bs, 1, none⟩ (.slice A7 k.n' d7)).heap.size = Y4.heap.size := by simp [World.setCell]
        rw [← hz6] at hr8 hr9
        obtain ⟨Y5, hY5⟩ : ∃ Y5, Y4.setCell ⟨bs, 1, none⟩ (.slice A7 k.n' d7) = Y5 := ⟨_, rfl⟩
        rw [hY5] at kb6 hB6 hr8 hr9 ⊢
        clear hY5 hz6 hr6 hr7 hB5 kb5 f1 g1
        have c0 : Y5.cell? ⟨bs, 0, none⟩ = some (.slice A3 k.n d3) := by simpa using kb6.cell 0
        have c1 : Y5.cell? ⟨bs, 1, none⟩ = some (.slice A7 k.n' d7) := by simpa using kb6.cell 1
        have c2 : Y5.cell? ⟨bs, 2, none⟩ = some (.bool dn) := by simpa using kb6.cell 2
        have c3 : Y5.cell? ⟨bs, 3, none⟩ = some (.int .i64 sn) := by simpa using kb6.cell 3
        go_wp2
        go_ret2
        have hB7 := below_val (w := Y5) #[.slice A3 k.n d3, .slice A7 k.n' d7, .bool dn, .int .i64 sn, .int .i64 width, .slice none 0 0] 139
        have kb7 := Blk.new Y5 139 #[.slice A3 k.n d3, .slice A7 k.n' d7, .bool dn, .int .i64 sn, .int .i64 width, .slice none 0 0]
        refine ⟨hbs ▸ hB6.trans (hB7.mono (Nat.le_of_lt kb6.lt)), ?_⟩
        rw [if_pos HO.out]
        exact ⟨Y5.heap.size, ⟨A3, k.n, d3, A7, k.n', d7⟩, rfl, hbs ▸ Nat.le_of_lt kb6.lt, ⟨kb7, ⟨hr8.alloc (Nat.le_refl _) _, hr9.alloc (Nat.le_refl _) _, hnp, hnb⟩, hk3, hk4, BagR.nil _ _, Nat.le_refl _⟩⟩
    · -- 4 0 3 7
      unfold Oper.wp
      go_simp
      have l4 := own_lit X1 3 1 0 #[] rfl (by unfold maxLen; omega) (Nat.le_of_lt kbX1.lt : bs ≤ X1.heap.size)
      have kbX2 := kbX1.alloc (.cells #[] 3)
      have hBX2 : Below bs w (X1.alloc (.cells #[] 3)) := hBX1.alloc (Nat.le_of_lt kbX1.lt) _
      obtain ⟨g4, hg4⟩ : ∃ g4, X1.heap.size = g4 := ⟨_, rfl⟩
      have gb4 : bs < g4 := hg4 ▸ kbX1.lt
      have gs4 : g4 < (X1.alloc (.cells #[] 3)).heap.size := by rw [World.size_alloc, hg4]; omega
      obtain ⟨X2, hX2⟩ : ∃ X2, X1.alloc (.cells #[] 3) = X2 := ⟨_, rfl⟩
      rw [hg4] at l4 ⊢
      rw [hX2] at l4 kbX2 hBX2 gs4   ⊢
      clear hX2 hg4
      have hS : X2.cell? ⟨bs, 0, none⟩ = some (.slice k.A k.n k.c) ∧ X2.cell? ⟨bs, 1, none⟩ = some (.slice k.A' k.n' k.c') := ⟨by simpa using kbX2.cell 0, by simpa using kbX2.cell 1⟩
      refine hK _ _ (fun _ => hS) ?_
      try simp only [Act.put]
      clear hK K kbX1 hBX1
      refine Helds.one (i := 0) rfl (by kernel_rfl) rfl (fun K hK => ?_)
      unfold Oper.wp
      go_simp
      have l0 := own_lit X2 3 1 0 #[] rfl (by unfold maxLen; omega) (Nat.le_of_lt kbX2.lt : bs ≤ X2.heap.size)
      have kbX3 := kbX2.alloc (.cells #[] 3)
      have hBX3 : Below bs w (X2.alloc (.cells #[] 3)) := hBX2.alloc (Nat.le_of_lt kbX2.lt) _
      have l4 := l4.alloc (.cells #[] 3)
      obtain ⟨g0, hg0⟩ : ∃ g0, X2.heap.size = g0 := ⟨_, rfl⟩
      have gb0 : bs < g0 := hg0 ▸ kbX2.lt
      have gs0 : g0 < (X2.alloc (.cells #[] 3)).heap.size := by rw [World.size_alloc, hg0]; omega
      have ne0_4 : g4 < g0 := by rw [← hg0]; exact gs4
      have gs4 : g4 < (X2.alloc (.cells #[] 3)).heap.size := by rw [World.size_alloc]; omega
      obtain ⟨X3, hX3⟩ : ∃ X3, X2.alloc (.cells #[] 3) = X3 := ⟨_, rfl⟩
      rw [hg0] at l0 ⊢
      rw [hX3] at l0 kbX3 hBX3 gs0 l4 gs4 ⊢
      clear hX3 hg0
      have hS : X3.cell? ⟨bs, 0, none⟩ = some (.slice k.A k.n k.c) ∧ X3.cell? ⟨bs, 1, none⟩ = some (.slice k.A' k.n' k.c') := ⟨by simpa using kbX3.cell 0, by simpa using kbX3.cell 1⟩
      refine hK _ _ (fun _ => hS) ?_
      try simp only [Act.put]
      clear hK K kbX2 hBX2
      refine Helds.one (i := 3) rfl (by kernel_rfl) rfl (fun K hK => ?_)
      refine wp_append_any _ _ _ 22 rfl bs 3 i0 _ 1 8 Tryz.underlying22 hi hz0 hz1 hz2 rfl (by decide) (.slice (some ⟨g0, 0, none⟩) 0 0) 0 [] rfl l0 bs k.A k.n k.c (per.map (Value.int .i64)) rfl (hs.keep fun _ hp => hBX3.cell hp).p (by intro u hu; obtain ⟨y, _, rfl⟩ := List.mem_map.1 hu; rfl) (by have := hs.np; have := hs.nb; unfold maxLen; omega) (by have := hs.np; have := hs.nb; omega) (Nat.le_of_lt kbX3.lt) ?_
      intro v3 X4 a3 hgrow3 hat3
      rw [Nat.zero_add, List.nil_append] at a3
      have kbX4 := kbX3.grown hgrow3 (by intro h; injection h with h; have h9 : bs = g0 := h; omega)
      have hBX4 : Below bs w X4 := below_append hBX3 l0 (Nat.le_of_lt kbX3.lt) hgrow3
      have l4 := l4.kept hgrow3 (.inr (by intro h; injection h with h; have h9 : g4 = g0 := h; omega))
      have gt4 := gs4
      have gs4 : g4 < X4.heap.size := Nat.lt_of_lt_of_le gs4 hgrow3.size
      have nb3 : v3.ownBlock ≠ some g4 := by
        intro e
        rcases hat3 with h | h <;> rw [h] at e <;> injection e with e
        · have h2 : g0 = g4 := e
          omega
        · omega
      have ff3 : ∃ A3 d3, v3 = .slice A3 k.n d3 := (own_form a3).elim fun A3 h => h.elim fun d3 h => ⟨A3, d3, h.1⟩
      obtain ⟨A3, d3, rfl⟩ := ff3
      have hS : X4.cell? ⟨bs, 0, none⟩ = some (.slice k.A k.n k.c) ∧ X4.cell? ⟨bs, 1, none⟩ = some (.slice k.A' k.n' k.c') := ⟨by simpa using kbX4.cell 0, by simpa using kbX4.cell 1⟩
      refine hK _ _ (fun _ => hS) ?_
      try simp only [Act.put]
      clear hK K kbX3 hBX3
      refine Helds.take (i := 8) (.pointer (some ⟨bs, 0, none⟩)) rfl hS (by kernel_rfl) (by kernel_rfl) (by kernel_rfl) (by kernel_rfl) (fun _ _ _ h => h) rfl (fun y hy => by obtain ⟨x1, x2⟩ := hy; go_simp) ?_
      try simp only [Act.put]
      refine Helds.one (i := 7) rfl (by kernel_rfl) rfl (fun K hK => ?_)
      refine wp_append_any _ _ _ 22 rfl bs 3 i0 _ 1 8 Tryz.underlying22 hi hz0 hz1 hz2 rfl (by decide) (.slice (some ⟨g4, 0, none⟩) 0 0) 0 [] rfl l4 bs k.A' k.n' k.c' (by_.map (Value.int .i64)) rfl (hs.keep fun _ hp => hBX4.cell hp).b (by intro u hu; obtain ⟨y, _, rfl⟩ := List.mem_map.1 hu; rfl) (by have := hs.np; have := hs.nb; unfold maxLen; omega) (by have := hs.np; have := hs.nb; omega) (Nat.le_of_lt kbX4.lt) ?_
      intro v7 X5 a7 hgrow7 hat7
      rw [Nat.zero_add, List.nil_append] at a7
      have kbX5 := kbX4.grown hgrow7 (by intro h; injection h with h; have h9 : bs = g4 := h; omega)
      have hBX5 : Below bs w X5 := below_append hBX4 l4 (Nat.le_of_lt kbX4.lt) hgrow7
      have a3 := a3.kept hgrow7 (.inr nb3)
      have ff7 : ∃ A3 d3, v7 = .slice A3 k.n' d3 := (own_form a7).elim fun A3 h => h.elim fun d3 h => ⟨A3, d3, h.1⟩
      obtain ⟨A7, d7, rfl⟩ := ff7
      have hS : X5.cell? ⟨bs, 0, none⟩ = some (.slice k.A k.n k.c) ∧ X5.cell? ⟨bs, 1, none⟩ = some (.slice k.A' k.n' k.c') := ⟨by simpa using kbX5.cell 0, by simpa using kbX5.cell 1⟩
      refine hK _ _ (fun _ => hS) ?_
      try simp only [Act.put]
      clear hK K kbX4 hBX4
      have hr5 := Reads.of_own a3
      have hr4 := Reads.of_own a7
      have hk3 := own_capC a3
      have hk4 := own_capC a7
      have hnp := hs.np
      have hnb := hs.nb
      clear hs a3 a7
      have f0 := kbX5.frozen 0
      have c0 := hS.1
      refine Helds.one (i := 9) rfl (by kernel_rfl) rfl (fun K hK => ?_)
      unfold Oper.wp
      go_simp
      refine hK _ _ (fun h => absurd (by decide) h) ?_
      try simp only [Act.put]
      clear hK K
      have kb5 := kbX5.set_ 0 (.slice A3 k.n d3)
      have hB5 : Below bs w (X5.setCell ⟨bs, 0, none⟩ (.slice A3 k.n d3)) := hBX5.setCell (p := ⟨bs, 0, none⟩) (Nat.le_refl _) _
      have hr6 : Reads (X5.setCell ⟨bs, 0, none⟩ (.slice A3 k.n d3)) X5.heap.size 1 A3 k.n (per.map (Value.int .i64)) := hr5.off (fun u hu => by rw [hS.1]; obtain ⟨y, _, rfl⟩ := List.mem_map.1 hu; exact fun h => by cases h) _
      have hr7 : Reads (X5.setCell ⟨bs, 0, none⟩ (.slice A3 k.n d3)) X5.heap.size 1 A7 k.n' (by_.map (Value.int .i64)) := hr4.off (fun u hu => by rw [hS.1]; obtain ⟨y, _, rfl⟩ := List.mem_map.1 hu; exact fun h => by cases h) _
      have hz5 : (X5.setCell ⟨bs, 0, none⟩ (.slice A3 k.n d3)).heap.size = X5.heap.size := by simp [World.setCell]
      rw [← hz5] at hr6 hr7
      obtain ⟨Y4, hY4⟩ : ∃ Y4, X5.setCell ⟨bs, 0, none⟩ (.slice A3 k.n d3) = Y4 := ⟨_, rfl⟩
      rw [hY4] at kb5 hB5 hr6 hr7 ⊢
      clear hY4 hz5 hr5 hr4 hBX5 kbX5 f0 c0 hS
      refine Helds.one (i := 10) rfl (by kernel_rfl) rfl (fun K hK => ?_)
      unfold Oper.wp
      go_simp
      refine hK _ _ (fun h => absurd (by decide) h) ?_
      try simp only [Act.put]
      clear hK K
      have f1 := kb5.frozen 1
      have g1 : Y4.cell? ⟨bs, 1, none⟩ = some (.slice k.A' k.n' k.c') := by simpa using kb5.cell 1
      refine Helds.one (i := 11) rfl (by kernel_rfl) rfl (fun K hK => ?_)
      unfold Oper.wp
      go_simp
      refine hK _ _ (fun h => absurd (by decide) h) ?_
      try simp only [Act.put]
      clear hK K
      refine Helds.done (by kernel_rfl) ?_
      have kb6 := kb5.set_ 1 (.slice A7 k.n' d7)
      have hB6 : Below bs w (Y4.setCell ⟨bs, 1, none⟩ (.slice A7 k.n' d7)) := hB5.setCell (p := ⟨bs, 1, none⟩) (Nat.le_refl _) _
      have hr8 : Reads (Y4.setCell ⟨bs, 1, none⟩ (.slice A7 k.n' d7)) Y4.heap.size 1 A3 k.n (per.map (Value.int .i64)) := hr6.off (fun u hu => by rw [g1]; obtain ⟨y, _, rfl⟩ := List.mem_map.1 hu; exact fun h => by cases h) _
      have hr9 : Reads (Y4.setCell ⟨bs, 1, none⟩ (.slice A7 k.n' d7)) Y4.heap.size 1 A7 k.n' (by_.map (Value.int .i64)) := hr7.off (fun u hu => by rw [g1]; obtain ⟨y, _, rfl⟩ := List.mem_map.1 hu; exact fun h => by cases h) _
      have hz6 : (Y4.setCell ⟨bs, 1, none⟩ (.slice A7 k.n' d7)).heap.size = Y4.heap.size := by simp [World.setCell]
      rw [← hz6] at hr8 hr9
      obtain ⟨Y5, hY5⟩ : ∃ Y5, Y4.setCell ⟨bs, 1, none⟩ (.slice A7 k.n' d7) = Y5 := ⟨_, rfl⟩
      rw [hY5] at kb6 hB6 hr8 hr9 ⊢
      clear hY5 hz6 hr6 hr7 hB5 kb5 f1 g1
      have c0 : Y5.cell? ⟨bs, 0, none⟩ = some (.slice A3 k.n d3) := by simpa using kb6.cell 0
      have c1 : Y5.cell? ⟨bs, 1, none⟩ = some (.slice A7 k.n' d7) := by simpa using kb6.cell 1
      have c2 : Y5.cell? ⟨bs, 2, none⟩ = some (.bool dn) := by simpa using kb6.cell 2
      have c3 : Y5.cell? ⟨bs, 3, none⟩ = some (.int .i64 sn) := by simpa using kb6.cell 3
      go_wp2
      go_ret2
      have hB7 := below_val (w := Y5) #[.slice A3 k.n d3, .slice A7 k.n' d7, .bool dn, .int .i64 sn, .int .i64 width, .slice none 0 0] 139
      have kb7 := Blk.new Y5 139 #[.slice A3 k.n d3, .slice A7 k.n' d7, .bool dn, .int .i64 sn, .int .i64 width, .slice none 0 0]
      refine ⟨hbs ▸ hB6.trans (hB7.mono (Nat.le_of_lt kb6.lt)), ?_⟩
      rw [if_pos HO.out]
      exact ⟨Y5.heap.size, ⟨A3, k.n, d3, A7, k.n', d7⟩, rfl, hbs ▸ Nat.le_of_lt kb6.lt, ⟨kb7, ⟨hr8.alloc (Nat.le_refl _) _, hr9.alloc (Nat.le_refl _) _, hnp, hnb⟩, hk3, hk4, BagR.nil _ _, Nat.le_refl _⟩⟩
end Go.Proofs.YtljglceaibgknaaGreatDoor
