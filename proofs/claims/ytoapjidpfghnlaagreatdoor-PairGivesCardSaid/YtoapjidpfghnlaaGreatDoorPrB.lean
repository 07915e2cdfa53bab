/-
  XOrdT's law where operations are guarded: an operation that is wanted is taken or carried out as any other; one that is not wanted leaves nothing. Own theorems over the kit's 'wpOp'; no condition.
  The walk of pair.keys.below. No condition.
-/
import Derived.Test.YtoapjidpfghnlaaGreatDoorRngH
import Derived.Test.YtoapjidpfghnlaaGreatDoorPrO
namespace Go.Proofs.YtoapjidpfghnlaaGreatDoor

section
open Go

section
variable {P : Program} {ops : Array Oper} {Q : Exit → Act → World → Prop} {md : Region.Mode} {S : World → Prop} {s : Nat}
theorem Held.takeG {i : Nat} {o : Oper} (v : Value) {n : Nat} {l : Array Bool} {a : Act} {w : World} (hi : ops[i]? = some o) (hS : S w)
    (hse : Region.noSelect ops = true) (hf : Region.free md ops l i = true) (hr : (Region.ready md ops l).contains i = true) (hw : waitsB md ops s i = true)
    (hQ : ∀ c a w, Q (.panic c) (a.put o.dst v) w → Q (.panic c) a w) (hg : Region.wanted o (yielded ops a.tmps) = true) (hy : ∀ x, S x → (execOp a.eval o).run P x = .ok (.value v) x)
    (h : Held P md ops Q S s n (l.setIfInBounds i true) (a.put o.dst v) w) : Held P md ops Q S s (n + 1) l a w :=
  Held.first hi (Region.noSelect_spec hse) hQ (waitsB_spec hw) n l a w (Region.free_spec hi hf) (by simpa using hr) (.inl ⟨hg, hy⟩) hS h
theorem Held.skip {i : Nat} {o : Oper} {n : Nat} {l : Array Bool} {a : Act} {w : World} (hi : ops[i]? = some o) (hS : S w)
    (hse : Region.noSelect ops = true) (hf : Region.free md ops l i = true) (hr : (Region.ready md ops l).contains i = true) (hw : waitsB md ops s i = true)
    (hQ : ∀ c a w, Q (.panic c) (a.put o.dst undef) w → Q (.panic c) a w) (hg : Region.wanted o (yielded ops a.tmps) = false)
    (h : Held P md ops Q S s n (l.setIfInBounds i true) (a.put o.dst undef) w) : Held P md ops Q S s (n + 1) l a w :=
  Held.first hi (Region.noSelect_spec hse) hQ (waitsB_spec hw) n l a w (Region.free_spec hi hf) (by simpa using hr) (.inr ⟨hg, rfl⟩) hS h
theorem Held.oneG {i : Nat} {o : Oper} {n : Nat} {l : Array Bool} {a : Act} {w : World} (ho : ops[i]? = some o) (hr : Region.ready md ops l = [i]) (hg : Region.wanted o (yielded ops a.tmps) = true)
    (h : ∀ K : Act → World → Prop, (∀ b x, (i ≠ s → S x) → Held P md ops Q S s n (l.setIfInBounds i true) b x → K b x) → Oper.wp P o a w K Q) : Held P md ops Q S s (n + 1) l a w := by
  constructor
  · intro h0; rw [hr] at h0; cases h0
  · intro j hj
    rw [hr] at hj
    obtain rfl : j = i := by simpa using hj
    refine wpOp_step ho (fun K hK => ?_)
    rw [if_pos hg]
    exact h K (fun b x h1 h2 => hK b x ⟨h1, h2⟩)
end
end

section
open Go.RowKit
attribute [local go_sem] Oper.semAt_some wide_fn wide_depth
set_option linter.unusedVariables false
set_option linter.unusedSimpArgs false

set_option maxRecDepth 100000 in
set_option maxHeartbeats 8000000 in
theorem below_any (A : Option Addr) (n c : Nat) (on : List Int) (A' : Option Addr) (n' c' : Nat) (others : List Int) (wide width : Int) (w : World) (hx : Reads w w.heap.size 1 A n (on.map (Value.int .i64))) (hx' : Reads w w.heap.size 1 A' n' (others.map (Value.int .i64))) (hn : n ≤ 9223372036854775807) (hn' : n' ≤ 9223372036854775807)
    (h1 : -9223372036854775807 ≤ wide ∧ wide ≤ 9223372036854775807) (h2 : -9223372036854775807 ≤ width ∧ width ≤ 9223372036854775807) :
    Calls Tryz.prog 63 #[.agg #[.slice A n c, .slice A' n' c'], .int .i64 wide, .int .i64 width] w (RetV w (.bool (insK on wide && insK others width))) := by
  have hB := below_val (w := w) #[.slice A n c, .slice A' n' c'] 91
  have k1 := Blk.new w 91 #[.slice A n c, .slice A' n' c']
  have hr1 := hx.up hB
  have hr2 := hx'.up hB
  obtain ⟨u, hu⟩ : ∃ u, insK on wide = u := ⟨_, rfl⟩
  obtain ⟨v, hv⟩ : ∃ v, insK others width = v := ⟨_, rfl⟩
  rw [hu, hv]
  have hu' : (on.any fun x => !btw x 0 (wide - 1)) = !u := by rw [← hu]; unfold insK; rw [← any_all_not, Bool.not_not]
  have hv' : (others.any fun x => !btw x 0 (width - 1)) = !v := by rw [← hv]; unfold insK; rw [← any_all_not, Bool.not_not]
  have HCA := hide (fun (X : World) (hX : Below w.heap.size w X) (b : Nat) (hb : Boxed X b 3 (.int .i64 wide)) => hu' ▸ con_ints A n c X.heap.size on X (hx.up hX) hn (Nat.le_refl _) 120 #[.pointer (some ⟨b, 0, none⟩)] (fun x => !btw x 0 (wide - 1)) (enters_of Tryz.func120 (by kernel_rfl) rfl)
    (fun x _ Y hY => below11_any x b wide Y (Boxed.cell ((hY.block _ hb.lt).trans hb)) h1))
  have HCB := hide (fun (X : World) (hX : Below w.heap.size w X) (b : Nat) (hb : Boxed X b 3 (.int .i64 width)) => hv' ▸ con_ints A' n' c' X.heap.size others X (hx'.up hX) hn' (Nat.le_refl _) 120 #[.pointer (some ⟨b, 0, none⟩)] (fun x => !btw x 0 (width - 1)) (enters_of Tryz.func120 (by kernel_rfl) rfl)
    (fun x _ Y hY => below11_any x b width Y (Boxed.cell ((hY.block _ hb.lt).trans hb)) h2))
  clear hx hx' hu hv hu' hv' hr1 hr2
  go_enter Tryz.func63, Tryz.ntmps63
  go_upto_region 2 with fail
  obtain ⟨W, hW⟩ : ∃ W, w.alloc (.cells #[.slice A n c, .slice A' n' c'] 91) = W := ⟨_, rfl⟩
  obtain ⟨bk, hbk⟩ : ∃ bk, w.heap.size = bk := ⟨_, rfl⟩
  rw [hW] at hB k1 ⊢
  rw [hbk] at k1 ⊢
  clear hW
  refine Held.begin (fun z => z.cell? ⟨bk, 0, none⟩ = some (.slice A n c) ∧ z.cell? ⟨bk, 1, none⟩ = some (.slice A' n' c')) 100 (by kernel_rfl) ?_
  obtain ⟨X1, hX1⟩ : ∃ X1, W.drew = X1 := ⟨_, rfl⟩
  have hD : Below W.heap.size W X1 := by rw [← hX1]; exact (Below.refl _ _).drew
  rw [hX1]
  have hB1 := bstep hB hD
  have k2 := k1.below hD k1.lt
  have hS : X1.cell? ⟨bk, 0, none⟩ = some (.slice A n c) ∧ X1.cell? ⟨bk, 1, none⟩ = some (.slice A' n' c') := ⟨by simpa using k2.cell 0, by simpa using k2.cell 1⟩
  clear hX1 hD k1 hB
  refine Held.take (i := 0) (.pointer (some ⟨bk, 0, none⟩)) rfl hS (by kernel_rfl) (by kernel_rfl) (by kernel_rfl) (by kernel_rfl) (fun _ _ _ h => h) rfl (fun y hy => by obtain ⟨x1, x2⟩ := hy; go_simp) ?_
  try simp only [Act.put]
  refine Held.take (i := 1) (.slice A n c) rfl hS (by kernel_rfl) (by kernel_rfl) (by kernel_rfl) (by kernel_rfl) (fun _ _ _ h => h) rfl (fun y hy => by obtain ⟨x1, x2⟩ := hy; go_simp) ?_
  try simp only [Act.put]
  refine Held.take (i := 2) (.func (Fn.func 119) #[] #[]) rfl hS (by kernel_rfl) (by kernel_rfl) (by kernel_rfl) (by kernel_rfl) (fun _ _ _ h => h) rfl (fun y hy => by obtain ⟨x1, x2⟩ := hy; go_simp) ?_
  try simp only [Act.put]
  refine Held.take (i := 3) (.int .i64 wide) rfl hS (by kernel_rfl) (by kernel_rfl) (by kernel_rfl) (by kernel_rfl) (fun _ _ _ h => h) rfl (fun y hy => by obtain ⟨x1, x2⟩ := hy; go_simp) ?_
  try simp only [Act.put]
  refine Held.one (i := 4) rfl (by kernel_rfl) rfl (fun K hK => ?_)
  unfold Oper.wp
  go_simp
  refine (below1_any wide X1).mono ?_
  rintro e X2 ⟨rfl, hX2⟩
  have hb2 : Below X1.heap.size X1 X2 := by rw [hX2]; exact below_val _ _
  have bx2 : Boxed X2 X1.heap.size 3 (.int .i64 wide) := by rw [hX2]; exact Boxed.new _ _ _
  have hB2 := bstep hB1 hb2
  have k3 := k2.below hb2 k2.lt
  have hS : X2.cell? ⟨bk, 0, none⟩ = some (.slice A n c) ∧ X2.cell? ⟨bk, 1, none⟩ = some (.slice A' n' c') := ⟨by simpa using k3.cell 0, by simpa using k3.cell 1⟩
  refine hK _ _ (fun _ => hS) ?_
  try simp only [Act.put]
  clear hK K hX2 hb2 hB1 k2
  refine Held.one (i := 5) rfl (by kernel_rfl) rfl (fun K hK => ?_)
  unfold Oper.wp
  go_simp
  refine (HCA.out X2 hB2 _ bx2).mono ?_
  rintro e X3 ⟨rfl, hb3⟩
  have hB3 := bstep hB2 hb3
  have k4 := k3.below hb3 k3.lt
  have hS : X3.cell? ⟨bk, 0, none⟩ = some (.slice A n c) ∧ X3.cell? ⟨bk, 1, none⟩ = some (.slice A' n' c') := ⟨by simpa using k4.cell 0, by simpa using k4.cell 1⟩
  refine hK _ _ (fun _ => hS) ?_
  try simp only [Act.put]
  clear hK K hb3 hB2 k3 bx2
  cases u
  · skip
    refine Held.take (i := 6) (.bool false) rfl hS (by kernel_rfl) (by kernel_rfl) (by kernel_rfl) (by kernel_rfl) (fun _ _ _ h => h) rfl (fun y hy => by obtain ⟨x1, x2⟩ := hy; go_simp) ?_
    try simp only [Act.put]
    refine Held.take (i := 7) (.bool false) rfl hS (by kernel_rfl) (by kernel_rfl) (by kernel_rfl) (by kernel_rfl) (fun _ _ _ h => h) rfl (fun y hy => by obtain ⟨x1, x2⟩ := hy; go_simp) ?_
    try simp only [Act.put]
    refine Held.skip (i := 8) rfl hS (by kernel_rfl) (by kernel_rfl) (by kernel_rfl) (by kernel_rfl) (fun _ _ _ h => h) (by rfl) ?_
    try simp only [Act.put]
    refine Held.skip (i := 9) rfl hS (by kernel_rfl) (by kernel_rfl) (by kernel_rfl) (by kernel_rfl) (fun _ _ _ h => h) (by rfl) ?_
    try simp only [Act.put]
    refine Held.skip (i := 10) rfl hS (by kernel_rfl) (by kernel_rfl) (by kernel_rfl) (by kernel_rfl) (fun _ _ _ h => h) (by rfl) ?_
    try simp only [Act.put]
    refine Held.skip (i := 11) rfl hS (by kernel_rfl) (by kernel_rfl) (by kernel_rfl) (by kernel_rfl) (fun _ _ _ h => h) (by rfl) ?_
    try simp only [Act.put]
    refine Held.skip (i := 12) rfl hS (by kernel_rfl) (by kernel_rfl) (by kernel_rfl) (by kernel_rfl) (fun _ _ _ h => h) (by rfl) ?_
    try simp only [Act.put]
    refine Held.skip (i := 13) rfl hS (by kernel_rfl) (by kernel_rfl) (by kernel_rfl) (by kernel_rfl) (fun _ _ _ h => h) (by rfl) ?_
    try simp only [Act.put]
    refine Held.skip (i := 14) rfl hS (by kernel_rfl) (by kernel_rfl) (by kernel_rfl) (by kernel_rfl) (fun _ _ _ h => h) (by rfl) ?_
    try simp only [Act.put]
    refine Held.take (i := 15) (.bool false) rfl hS (by kernel_rfl) (by kernel_rfl) (by kernel_rfl) (by kernel_rfl) (fun _ _ _ h => h) rfl (fun y hy => by obtain ⟨x1, x2⟩ := hy; go_simp) ?_
    try simp only [Act.put]
    refine Held.one (i := 16) rfl (by kernel_rfl) rfl (fun K hK => ?_)
    unfold Oper.wp
    go_simp
    refine hK _ _ (fun _ => hS) ?_
    try simp only [Act.put]
    clear hK K
    refine Held.done (by kernel_rfl) ?_
    clear hS
    go_wp2
    go_ret
    exact ⟨rfl, hB3⟩
  · skip
    refine Held.take (i := 6) (.bool true) rfl hS (by kernel_rfl) (by kernel_rfl) (by kernel_rfl) (by kernel_rfl) (fun _ _ _ h => h) rfl (fun y hy => by obtain ⟨x1, x2⟩ := hy; go_simp) ?_
    try simp only [Act.put]
    refine Held.take (i := 7) (.bool true) rfl hS (by kernel_rfl) (by kernel_rfl) (by kernel_rfl) (by kernel_rfl) (fun _ _ _ h => h) rfl (fun y hy => by obtain ⟨x1, x2⟩ := hy; go_simp) ?_
    try simp only [Act.put]
    refine Held.takeG (i := 8) (.pointer (some ⟨bk, 1, none⟩)) rfl hS (by kernel_rfl) (by kernel_rfl) (by kernel_rfl) (by kernel_rfl) (fun _ _ _ h => h) (by rfl) (fun y hy => by obtain ⟨x1, x2⟩ := hy; go_simp) ?_
    try simp only [Act.put]
    refine Held.takeG (i := 9) (.slice A' n' c') rfl hS (by kernel_rfl) (by kernel_rfl) (by kernel_rfl) (by kernel_rfl) (fun _ _ _ h => h) (by rfl) (fun y hy => by obtain ⟨x1, x2⟩ := hy; go_simp) ?_
    try simp only [Act.put]
    refine Held.takeG (i := 10) (.func (Fn.func 119) #[] #[]) rfl hS (by kernel_rfl) (by kernel_rfl) (by kernel_rfl) (by kernel_rfl) (fun _ _ _ h => h) (by rfl) (fun y hy => by obtain ⟨x1, x2⟩ := hy; go_simp) ?_
    try simp only [Act.put]
    refine Held.takeG (i := 11) (.int .i64 width) rfl hS (by kernel_rfl) (by kernel_rfl) (by kernel_rfl) (by kernel_rfl) (fun _ _ _ h => h) (by rfl) (fun y hy => by obtain ⟨x1, x2⟩ := hy; go_simp) ?_
    try simp only [Act.put]
    refine Held.oneG (i := 12) rfl (by kernel_rfl) (by rfl) (fun K hK => ?_)
    unfold Oper.wp
    go_simp
    refine (below1_any width X3).mono ?_
    rintro e X4 ⟨rfl, hX4⟩
    have hb4 : Below X3.heap.size X3 X4 := by rw [hX4]; exact below_val _ _
    have bx4 : Boxed X4 X3.heap.size 3 (.int .i64 width) := by rw [hX4]; exact Boxed.new _ _ _
    have hB4 := bstep hB3 hb4
    have k5 := k4.below hb4 k4.lt
    have hS : X4.cell? ⟨bk, 0, none⟩ = some (.slice A n c) ∧ X4.cell? ⟨bk, 1, none⟩ = some (.slice A' n' c') := ⟨by simpa using k5.cell 0, by simpa using k5.cell 1⟩
    refine hK _ _ (fun _ => hS) ?_
    try simp only [Act.put]
    clear hK K hX4 hb4 hB3 k4
    refine Held.oneG (i := 13) rfl (by kernel_rfl) (by rfl) (fun K hK => ?_)
    unfold Oper.wp
    go_simp
    refine (HCB.out X4 hB4 _ bx4).mono ?_
    rintro e X5 ⟨rfl, hb5⟩
    have hB5 := bstep hB4 hb5
    have k6 := k5.below hb5 k5.lt
    have hS : X5.cell? ⟨bk, 0, none⟩ = some (.slice A n c) ∧ X5.cell? ⟨bk, 1, none⟩ = some (.slice A' n' c') := ⟨by simpa using k6.cell 0, by simpa using k6.cell 1⟩
    refine hK _ _ (fun _ => hS) ?_
    try simp only [Act.put]
    clear hK K hb5 hB4 k5 bx4
    rw [Bool.true_and]
    refine Held.takeG (i := 14) (.bool v) rfl hS (by kernel_rfl) (by kernel_rfl) (by kernel_rfl) (by kernel_rfl) (fun _ _ _ h => h) (by rfl) (fun y hy => by obtain ⟨x1, x2⟩ := hy; go_simp) ?_
    try simp only [Act.put]
    refine Held.take (i := 15) (.bool v) rfl hS (by kernel_rfl) (by kernel_rfl) (by kernel_rfl) (by kernel_rfl) (fun _ _ _ h => h) rfl (fun y hy => by obtain ⟨x1, x2⟩ := hy; go_simp) ?_
    try simp only [Act.put]
    refine Held.one (i := 16) rfl (by kernel_rfl) rfl (fun K hK => ?_)
    unfold Oper.wp
    go_simp
    refine hK _ _ (fun _ => hS) ?_
    try simp only [Act.put]
    clear hK K
    refine Held.done (by kernel_rfl) ?_
    clear hS
    go_wp2
    go_ret
    exact ⟨rfl, hB5⟩
end

end Go.Proofs.YtoapjidpfghnlaaGreatDoor
