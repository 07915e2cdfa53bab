/-
  A ranker in memory, and the walk of NewRanker. No condition.
-/
import Derived.Test.YtljglceaibgknaaGreatDoorRqM
import Derived.Test.YtljglceaibgknaaGreatDoorRkZ
import Derived.Test.YtljglceaibgknaaGreatDoorOrdV
namespace Go.Proofs.YtljglceaibgknaaGreatDoor
open Go.RowKit
attribute [local go_sem] Oper.semAt_some wide_fn wide_depth
set_option linter.unusedVariables false
set_option linter.unusedSimpArgs false

/-- Numbers, copied. -/
def RetIn (w : World) (n : Nat) (xs : List Value) (e : Ending) (w' : World) : Prop := ∃ A' c', e = .returned (.slice A' n c') ∧ Reads w' w'.heap.size 1 A' n xs ∧ n ≤ c' ∧ Below w.heap.size w w'
theorem infoInt1 : (Tryz.prog.info? 3).map (fun i => (i.zero, i.size, i.bytes)) = some (some (.int .i64 0), 1, 8) := by kernel_rfl
set_option maxRecDepth 100000 in
set_option maxHeartbeats 2000000 in
theorem CloneN_any (A : Option Addr) (n c : Nat) (xs : List Int) (w : World) (hx : Reads w w.heap.size 1 A n (xs.map (Value.int .i64))) (hn : n ≤ 1000) :
    Calls Tryz.prog 104 #[.slice A n c] w (RetIn w n (xs.map (Value.int .i64))) := by
  obtain ⟨i0, hi, hz0, hz1, hz2⟩ := info_parts3 infoInt1
  cases A with
  | none =>
    have hn0 : n = 0 := by
      rcases Nat.eq_zero_or_pos n with h | h
      · exact h
      · obtain ⟨b, off, e, _⟩ := hx.2 h
        cases e
    subst hn0
    have hq := fun w => run_eql_slice_nil (P := Tryz.prog) w 22 3 none 0 c Tryz.underlying22
    go_enter Tryz.func104, Tryz.ntmps104
    go_wp2
    go_ret
    exact ⟨none, _, rfl, hx, Nat.zero_le _, Below.refl _ _⟩
  | some a =>
    have hlit := own_lit w 3 1 0 #[] rfl (by unfold maxLen; omega) (Nat.le_refl w.heap.size)
    have hB0 := below_val (w := w) #[] 3
    have hrd := hx.alloc (Nat.le_refl _) (.cells #[] 3)
    clear hx
    have hq := fun w => run_eql_slice_nil (P := Tryz.prog) w 22 3 (some a) n c Tryz.underlying22
    go_enter Tryz.func104, Tryz.ntmps104
    go_wp2_with (at_builtin; refine wpList_append_any _ rfl _ _ 22 rfl w.heap.size 3 i0 _ 1 8 Tryz.underlying22 hi hz0 hz1 hz2 rfl (by decide) (.slice (some ⟨w.heap.size, 0, none⟩) 0 0) 0 [] rfl hlit w.heap.size (some a) n c (xs.map (Value.int .i64)) rfl hrd (by intro u hu; obtain ⟨y, _, rfl⟩ := List.mem_map.1 hu; rfl) (by unfold maxLen; omega) (by omega) (by simp) ?_; intro v' W1 hown hgrow _; rw [Nat.zero_add, List.nil_append] at hown)
    have hB1 : Below w.heap.size w W1 := below_append hB0 hlit (by simp) hgrow
    obtain ⟨A', c', rfl, hR⟩ := own_form hown
    go_ret
    exact ⟨A', c', rfl, hR, own_capC hown, hB1⟩

theorem Reads.off {w : World} {B size n : Nat} {A : Option Addr} {xs : List Value} (h : Reads w B size A n xs) {p : Addr} (hp : ∀ u ∈ xs, w.cell? p ≠ some u) (v : Value) : Reads (w.setCell p v) B size A n xs :=
  ⟨h.1, fun hn => by
    obtain ⟨b, off, e, hb, hc⟩ := h.2 hn
    refine ⟨b, off, e, hb, fun j u hj => ?_⟩
    refine (World.cell?_setCell_other w _ _ v (fun e => ?_)).trans (hc j u hj)
    subst e
    exact hp u (List.mem_of_getElem? hj) (hc j u hj)⟩
/-- A ranker's block: its setup's numbers lie below it. -/
structure RkB (w : World) (b : Nat) (k : Sk) (s : Stp) (width : Int) (A : Option Addr) (n c : Nat) (l : List It) (A' : Option Addr) (n' c' : Nat) (l' : List It) : Prop where
  blk : Blk w b 137 #[.slice k.A k.n k.c, .slice k.A' k.n' k.c', .bool s.dn, .int .i64 s.n, .int .i64 width, .slice A n c, .slice A' n' c']
  set : SetK w b k s
  kc : k.n ≤ k.c
  kc' : k.n' ≤ k.c'
  all : BagR w w.heap.size A n l
  now : BagR w w.heap.size A' n' l'
  nc : n ≤ c
  nc' : n' ≤ c'
/-- What NewRanker hands back. -/
def RetNew (s : Stp) (width : Int) (w : World) (e : Ending) (w' : World) : Prop := Below w.heap.size w w' ∧
  if okS s width = true then ∃ b k, e = .returned (.tuple #[.pointer (some ⟨b, 0, none⟩), .int .i64 0]) ∧ w.heap.size ≤ b ∧ RkB w' b k s width none 0 0 [] none 0 0 []
  else e = .returned (.tuple #[.pointer none, .int .i64 1])
set_option maxRecDepth 100000 in
set_option maxHeartbeats 8000000 in
theorem NewRanker_any (k : Sk) (s : Stp) (width : Int) (w : World) (hs : SetK w w.heap.size k s) (hc : k.n ≤ k.c) (hc' : k.n' ≤ k.c') : Calls Tryz.prog 40 #[k.v s, .int .i64 width] w (RetNew s width w) := by
  obtain ⟨per, by_, dn, sn⟩ := s
  unfold Sk.v
  have hB := below_val (w := w) #[.slice k.A k.n k.c, .slice k.A' k.n' k.c', .bool dn, .int .i64 sn] 24
  have kb := Blk.new w 24 #[.slice k.A k.n k.c, .slice k.A' k.n' k.c', .bool dn, .int .i64 sn]
  have hs1 := hs.up hB
  clear hs
  go_enter Tryz.func40, Tryz.ntmps40
  go_upto_region 1 with fail
  obtain ⟨W, hW⟩ : ∃ W, w.alloc (.cells #[.slice k.A k.n k.c, .slice k.A' k.n' k.c', .bool dn, .int .i64 sn] 24) = W := ⟨_, rfl⟩
  obtain ⟨bs, hbs⟩ : ∃ bs, w.heap.size = bs := ⟨_, rfl⟩
  rw [hW] at hB kb hs1 ⊢
  rw [hbs] at kb ⊢
  have hbx : BoxS W bs k ⟨per, by_, dn, sn⟩ := ⟨by simpa using kb.cell 0, by simpa using kb.cell 1, by simpa using kb.cell 2, by simpa using kb.cell 3⟩
  clear hW
  have HV0 := RkValid_any k ⟨per, by_, dn, sn⟩ width W hs1 hc hc'
  unfold Sk.v at HV0
  have HV := hide HV0
  have c0 := hbx.c0
  have c1 := hbx.c1
  have c2 := hbx.c2
  have c3 := hbx.c3
  clear HV0
  cases ho : okS ⟨per, by_, dn, sn⟩ width
  · rw [ho] at HV
    have HO := hide ho
    clear ho
    go_wp2_with fail
    refine HV.out.mono ?_
    rintro e W1 ⟨rfl, hB1⟩
    go_wp2
    go_ret2
    refine ⟨hbs ▸ bstep hB hB1, ?_⟩
    rw [HO.out]
    rfl
  · rw [ho] at HV
    have HO := hide ho
    clear ho
    go_wp2_with fail
    refine HV.out.mono ?_
    rintro e W1 ⟨rfl, hB1⟩
    have hBw : Below w.heap.size w W1 := bstep hB hB1
    have kb1 := kb.below hB1 kb.lt
    have hs2 := hs1.up hB1
    clear hB hB1 kb hs1 hbx HV c0 c1 c2 c3
    go_wp2_with fail
    refine Helds.begin (fun y => y.cell? ⟨bs, 0, none⟩ = some (.slice k.A k.n k.c) ∧ y.cell? ⟨bs, 1, none⟩ = some (.slice k.A' k.n' k.c')) [7, 8, 9] (by kernel_rfl) ?_
    obtain ⟨X1, hX1⟩ : ∃ X1, W1.drew = X1 := ⟨_, rfl⟩
    have hD : Below W1.heap.size W1 X1 := by rw [← hX1]; exact (Below.refl _ _).drew
    rw [hX1]
    have kb2 := kb1.below hD kb1.lt
    have hs3 := hs2.up hD
    have hBx := bstep hBw hD
    have hS : X1.cell? ⟨bs, 0, none⟩ = some (.slice k.A k.n k.c) ∧ X1.cell? ⟨bs, 1, none⟩ = some (.slice k.A' k.n' k.c') := ⟨by simpa using kb2.cell 0, by simpa using kb2.cell 1⟩
    clear hX1 kb1 hs2 hBw hD
    refine Helds.take (i := 0) (.pointer (some ⟨bs, 0, none⟩)) rfl hS (by kernel_rfl) (by kernel_rfl) (by kernel_rfl) (by kernel_rfl) (fun _ _ _ h => h) rfl (fun y hy => by obtain ⟨x1, x2⟩ := hy; go_simp) ?_
    try simp only [Act.put]
    refine Helds.take (i := 3) (.pointer (some ⟨bs, 1, none⟩)) rfl hS (by kernel_rfl) (by kernel_rfl) (by kernel_rfl) (by kernel_rfl) (fun _ _ _ h => h) rfl (fun y hy => by obtain ⟨x1, x2⟩ := hy; go_simp) ?_
    try simp only [Act.put]
    refine Helds.take (i := 1) (.slice k.A k.n k.c) rfl hS (by kernel_rfl) (by kernel_rfl) (by kernel_rfl) (by kernel_rfl) (fun _ _ _ h => h) rfl (fun y hy => by obtain ⟨x1, x2⟩ := hy; go_simp) ?_
    try simp only [Act.put]
    refine Helds.take (i := 4) (.slice k.A' k.n' k.c') rfl hS (by kernel_rfl) (by kernel_rfl) (by kernel_rfl) (by kernel_rfl) (fun _ _ _ h => h) rfl (fun y hy => by obtain ⟨x1, x2⟩ := hy; go_simp) ?_
    try simp only [Act.put]
    refine Helds.one (i := 2) rfl (by kernel_rfl) rfl (fun K hK => ?_)
    unfold Oper.wp
    go_simp
    refine (CloneN_any k.A k.n k.c per X1 hs3.p hs3.np).mono ?_
    rintro e X2 ⟨A3, d3, rfl, hr3, hk3, hB3⟩
    have kb3 := kb2.below hB3 kb2.lt
    have hs4 := hs3.up hB3
    have hBy := bstep hBx hB3
    have hS : X2.cell? ⟨bs, 0, none⟩ = some (.slice k.A k.n k.c) ∧ X2.cell? ⟨bs, 1, none⟩ = some (.slice k.A' k.n' k.c') := ⟨by simpa using kb3.cell 0, by simpa using kb3.cell 1⟩
    refine hK _ _ (fun _ => hS) ?_
    try simp only [Act.put]
    clear hK K kb2 hs3 hBx hB3
    refine Helds.take (i := 6) (.pointer (some ⟨bs, 0, none⟩)) rfl hS (by kernel_rfl) (by kernel_rfl) (by kernel_rfl) (by kernel_rfl) (fun _ _ _ h => h) rfl (fun y hy => by obtain ⟨x1, x2⟩ := hy; go_simp) ?_
    try simp only [Act.put]
    refine Helds.one (i := 5) rfl (by kernel_rfl) rfl (fun K hK => ?_)
    unfold Oper.wp
    go_simp
    refine (CloneN_any k.A' k.n' k.c' by_ X2 hs4.b hs4.nb).mono ?_
    rintro e X3 ⟨A4, d4, rfl, hr4, hk4, hB4⟩
    have kb4 := kb3.below hB4 kb3.lt
    have hr5 := hr3.up hB4
    have hBz := bstep hBy hB4
    have hS : X3.cell? ⟨bs, 0, none⟩ = some (.slice k.A k.n k.c) ∧ X3.cell? ⟨bs, 1, none⟩ = some (.slice k.A' k.n' k.c') := ⟨by simpa using kb4.cell 0, by simpa using kb4.cell 1⟩
    refine hK _ _ (fun _ => hS) ?_
    try simp only [Act.put]
    have hnp := hs4.np
    have hnb := hs4.nb
    clear hK K kb3 hs4 hBy hB4 hr3
    have f0 := kb4.frozen 0
    have c0 := hS.1
    refine Helds.one (i := 7) rfl (by kernel_rfl) rfl (fun K hK => ?_)
    unfold Oper.wp
    go_simp
    refine hK _ _ (fun h => absurd (by decide) h) ?_
    try simp only [Act.put]
    clear hK K
    have kb5 := kb4.set_ 0 (.slice A3 k.n d3)
    have hB5 : Below w.heap.size w (X3.setCell ⟨bs, 0, none⟩ (.slice A3 k.n d3)) := hBz.setCell (p := ⟨bs, 0, none⟩) (by rw [← hbs]; exact Nat.le_refl _) _
    have hr6 : Reads (X3.setCell ⟨bs, 0, none⟩ (.slice A3 k.n d3)) X3.heap.size 1 A3 k.n (per.map (Value.int .i64)) := hr5.off (fun u hu => by rw [hS.1]; obtain ⟨y, _, rfl⟩ := List.mem_map.1 hu; exact fun h => by cases h) _
    have hr7 : Reads (X3.setCell ⟨bs, 0, none⟩ (.slice A3 k.n d3)) X3.heap.size 1 A4 k.n' (by_.map (Value.int .i64)) := hr4.off (fun u hu => by rw [hS.1]; obtain ⟨y, _, rfl⟩ := List.mem_map.1 hu; exact fun h => by cases h) _
    have hz5 : (X3.setCell ⟨bs, 0, none⟩ (.slice A3 k.n d3)).heap.size = X3.heap.size := by simp [World.setCell]
    rw [← hz5] at hr6 hr7
    obtain ⟨X4, hX4⟩ : ∃ X4, X3.setCell ⟨bs, 0, none⟩ (.slice A3 k.n d3) = X4 := ⟨_, rfl⟩
    rw [hX4] at kb5 hB5 hr6 hr7 ⊢
    clear hX4 hz5 hr5 hr4 hBz kb4 f0 c0 hS
    refine Helds.one (i := 8) rfl (by kernel_rfl) rfl (fun K hK => ?_)
    unfold Oper.wp
    go_simp
    refine hK _ _ (fun h => absurd (by decide) h) ?_
    try simp only [Act.put]
    clear hK K
    have f1 := kb5.frozen 1
    have g1 : X4.cell? ⟨bs, 1, none⟩ = some (.slice k.A' k.n' k.c') := by simpa using kb5.cell 1
    refine Helds.one (i := 9) rfl (by kernel_rfl) rfl (fun K hK => ?_)
    unfold Oper.wp
    go_simp
    refine hK _ _ (fun h => absurd (by decide) h) ?_
    try simp only [Act.put]
    clear hK K
    refine Helds.done (by kernel_rfl) ?_
    have kb6 := kb5.set_ 1 (.slice A4 k.n' d4)
    have hB6 : Below w.heap.size w (X4.setCell ⟨bs, 1, none⟩ (.slice A4 k.n' d4)) := hB5.setCell (p := ⟨bs, 1, none⟩) (by rw [← hbs]; exact Nat.le_refl _) _
    have hr8 : Reads (X4.setCell ⟨bs, 1, none⟩ (.slice A4 k.n' d4)) X4.heap.size 1 A3 k.n (per.map (Value.int .i64)) := hr6.off (fun u hu => by rw [g1]; obtain ⟨y, _, rfl⟩ := List.mem_map.1 hu; exact fun h => by cases h) _
    have hr9 : Reads (X4.setCell ⟨bs, 1, none⟩ (.slice A4 k.n' d4)) X4.heap.size 1 A4 k.n' (by_.map (Value.int .i64)) := hr7.off (fun u hu => by rw [g1]; obtain ⟨y, _, rfl⟩ := List.mem_map.1 hu; exact fun h => by cases h) _
    have hz6 : (X4.setCell ⟨bs, 1, none⟩ (.slice A4 k.n' d4)).heap.size = X4.heap.size := by simp [World.setCell]
    rw [← hz6] at hr8 hr9
    obtain ⟨X5, hX5⟩ : ∃ X5, X4.setCell ⟨bs, 1, none⟩ (.slice A4 k.n' d4) = X5 := ⟨_, rfl⟩
    rw [hX5] at kb6 hB6 hr8 hr9 ⊢
    clear hX5 hz6 hr6 hr7 hB5 kb5 f1 g1
    have c0 : X5.cell? ⟨bs, 0, none⟩ = some (.slice A3 k.n d3) := by simpa using kb6.cell 0
    have c1 : X5.cell? ⟨bs, 1, none⟩ = some (.slice A4 k.n' d4) := by simpa using kb6.cell 1
    have c2 : X5.cell? ⟨bs, 2, none⟩ = some (.bool dn) := by simpa using kb6.cell 2
    have c3 : X5.cell? ⟨bs, 3, none⟩ = some (.int .i64 sn) := by simpa using kb6.cell 3
    go_wp2
    go_ret2
    have hB7 := below_val (w := X5) #[.slice A3 k.n d3, .slice A4 k.n' d4, .bool dn, .int .i64 sn, .int .i64 width, .slice none 0 0, .slice none 0 0] 137
    have kb7 := Blk.new X5 137 #[.slice A3 k.n d3, .slice A4 k.n' d4, .bool dn, .int .i64 sn, .int .i64 width, .slice none 0 0, .slice none 0 0]
    refine ⟨bstep hB6 hB7, ?_⟩
    rw [if_pos HO.out]
    exact ⟨X5.heap.size, ⟨A3, k.n, d3, A4, k.n', d4⟩, rfl, hB6.size, ⟨kb7, ⟨hr8.alloc (Nat.le_refl _) _, hr9.alloc (Nat.le_refl _) _, hnp, hnb⟩, hk3, hk4, BagR.nil _ _, BagR.nil _ _, Nat.le_refl _, Nat.le_refl _⟩⟩
end Go.Proofs.YtljglceaibgknaaGreatDoor
