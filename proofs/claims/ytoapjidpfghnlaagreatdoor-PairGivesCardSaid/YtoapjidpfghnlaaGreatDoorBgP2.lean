/-
  The walks of the program's comparison of values and rows.
  The walk of the program's row.Compare, for every two rows.
  Bags in memory: a slice of items, each with a row; rows lie below a bound, or in blocks of values of the call's own.
  The walk of the program's bag.Valid, for every bag.
  'Bar N X w w'': below block N, but for the blocks of the list X, the world is as it was. For a loop over an iterator whose body writes variables that lie in boxes. Plain theorems over any program; no condition.
  A range over a function whose iterator walks a list xs that is known and may write blocks of its own: one law for the loop. The body is told which element comes. Plain theorems over any program; no condition.
  What the program's bag.pairs goes through: items of two bags, row by row; the memory of its iterator.
  The walks of the program's bag.pairs and of the iterator that it hands back.
-/
import Derived.Test.YtoapjidpfghnlaaGreatDoorQbw
import Derived.RangeFuncNested
import Derived.RangeFuncBound
import Derived.RangeFuncCalls
import Derived.RangeFuncLeaves
import Derived.StillTailTactics
import Derived.LoopIn
import Derived.OwnWalkIn
import Derived.TacticsInMore
namespace Go.Proofs.YtoapjidpfghnlaaGreatDoor

section
section
open Go.RowKit
attribute [local go_sem] Oper.semAt_some

theorem cls_cases (v : Val) : cls v = 0 ∨ cls v = 1 ∨ cls v = 2 := by unfold cls; split <;> omega
theorem kind_any (v : Val) (w : World) : Calls Tryz.prog 220 #[.agg #[.int .i64 v.k, .int .i64 v.n, .string v.s]] w (RetV w (.int .i64 (cls v))) := by
  have hB := below_val (w := w) #[.int .i64 v.k, .int .i64 v.n, .string v.s] 102
  obtain ⟨bb, hbb⟩ : ∃ bb, btw v.k 1 2 = bb := ⟨_, rfl⟩
  have HC := hide (show cls v = if bb then v.k else 0 from by
    rw [← hbb]
    unfold cls btw
    by_cases h : v.k = 1 ∨ v.k = 2
    · rw [if_pos h, if_pos (by simp; omega)]
    · rw [if_neg h, if_neg (by simp; omega)])
  have HBB := hide hbb
  rw [HC.out]
  clear hbb
  obtain ⟨k, n, s⟩ := v
  simp only at HBB hB ⊢
  cases bb
  · go_enter Tryz.func220, Tryz.ntmps220
    go_wp2_with (go_at_call 185; refine (within_any _ _ _ _).mono ?_; rintro e w' ⟨rfl, rfl⟩; rw [HBB.out])
    go_ret
    exact ⟨rfl, hB⟩
  · go_enter Tryz.func220, Tryz.ntmps220
    go_wp2_with (go_at_call 185; refine (within_any _ _ _ _).mono ?_; rintro e w' ⟨rfl, rfl⟩; rw [HBB.out])
    go_ret
    exact ⟨rfl, hB⟩

theorem below_two {w : World} (a b : Obj) : Below w.heap.size w ((w.alloc a).alloc b) := ((Below.refl _ _).alloc (Nat.le_refl _) _).alloc (by simp) _
theorem cv1_any (a b : Val) (w : World) : Calls Tryz.prog 221 #[.agg #[.int .i64 a.k, .int .i64 a.n, .string a.s], .agg #[.int .i64 b.k, .int .i64 b.n, .string b.s]] w (RetV w (.int .i64 0)) := by
  have hB := below_two (w := w) (.cells #[.int .i64 a.k, .int .i64 a.n, .string a.s] 102) (.cells #[.int .i64 b.k, .int .i64 b.n, .string b.s] 102)
  go_enter Tryz.func221, Tryz.ntmps221
  go_wp2
  go_ret
  exact ⟨rfl, hB⟩
theorem cv2_any (a b : Val) (w : World) : Calls Tryz.prog 222 #[.agg #[.int .i64 a.k, .int .i64 a.n, .string a.s], .agg #[.int .i64 b.k, .int .i64 b.n, .string b.s]] w (RetV w (.int .i64 (cmpI a.n b.n))) := by
  have hB := below_two (w := w) (.cells #[.int .i64 a.k, .int .i64 a.n, .string a.s] 102) (.cells #[.int .i64 b.k, .int .i64 b.n, .string b.s] 102)
  go_enter Tryz.func222, Tryz.ntmps222
  go_wp2_with (go_at_call 129; refine (cmpi_any _ _ _).mono ?_; rintro e w' ⟨rfl, rfl⟩)
  go_ret
  exact ⟨rfl, hB⟩
theorem cv3_any (a b : Val) (w : World) : Calls Tryz.prog 223 #[.agg #[.int .i64 a.k, .int .i64 a.n, .string a.s], .agg #[.int .i64 b.k, .int .i64 b.n, .string b.s]] w (RetV w (.int .i64 (cmpS a.s b.s))) := by
  have hB := below_two (w := w) (.cells #[.int .i64 a.k, .int .i64 a.n, .string a.s] 102) (.cells #[.int .i64 b.k, .int .i64 b.n, .string b.s] 102)
  go_enter Tryz.func223, Tryz.ntmps223
  go_wp2_with (go_at_call 224; refine (cmps_any _ _ _).mono ?_; rintro e w' ⟨rfl, rfl⟩)
  go_ret
  exact ⟨rfl, hB⟩

theorem hix (i : Int) (f : Value) (h : #[Value.func (Fn.func 221) #[] #[], Value.func (Fn.func 222) #[] #[], Value.func (Fn.func 223) #[] #[]][i.toNat]? = some f) (h0 : 0 ≤ i) (h1 : i < 3) (W : World) :
   (Instr.index 252 (.agg #[.func (Fn.func 221) #[] #[], .func (Fn.func 222) #[] #[], .func (Fn.func 223) #[] #[]]) (.int .i64 i)).run Tryz.prog W = .ok f W := by
  have u := Tryz.underlying252
  have z := Tryz.sizeOf169
  unfold Instr.index
  rcases (show i = 0 ∨ i = 1 ∨ i = 2 by omega) with rfl | rfl | rfl
  all_goals
    simp at h
    subst h
    go_simp
theorem cmpI_self (x : Int) : cmpI x x = 0 := Tot.int.self x
theorem cmpV_0 {a b : Val} (ha : cls a = 0) (h : cmpI (cls a) (cls b) = 0) : cmpV a b = 0 := by
  have hb := cmpI_zero h
  unfold cmpV
  rw [h, show nnV a = 0 from by simp [nnV, ha], show nnV b = 0 from by simp [nnV, ← hb, ha], show ssV a = ByteArray.empty from by simp [ssV, ha], show ssV b = ByteArray.empty from by simp [ssV, ← hb, ha], cmpI_self, Tot.str.self]; rfl
theorem cmpV_1 {a b : Val} (ha : cls a = 1) (h : cmpI (cls a) (cls b) = 0) : cmpV a b = cmpI a.n b.n := by
  have hb := cmpI_zero h
  unfold cmpV
  rw [h, show nnV a = a.n from by simp [nnV, ha], show nnV b = b.n from by simp [nnV, ← hb, ha], show ssV a = ByteArray.empty from by simp [ssV, ha], show ssV b = ByteArray.empty from by simp [ssV, ← hb, ha], Tot.str.self]
  unfold thenC
  rw [if_pos rfl]
  split <;> simp_all
theorem cmpV_2 {a b : Val} (ha : cls a = 2) (h : cmpI (cls a) (cls b) = 0) : cmpV a b = cmpS a.s b.s := by
  have hb := cmpI_zero h
  unfold cmpV
  rw [h, show nnV a = 0 from by simp [nnV, ha], show nnV b = 0 from by simp [nnV, ← hb, ha], show ssV a = a.s from by simp [ssV, ha], show ssV b = b.s from by simp [ssV, ← hb, ha], cmpI_self]; rfl
theorem cmpV_ne {a b : Val} (h : cmpI (cls a) (cls b) ≠ 0) : cmpV a b = cmpI (cls a) (cls b) := by unfold cmpV thenC; rw [if_neg h]

set_option maxRecDepth 100000 in
set_option maxHeartbeats 4000000 in
theorem CompareValues_any (a b : Val) (w : World) : Calls Tryz.prog 182 #[.agg #[.int .i64 a.k, .int .i64 a.n, .string a.s], .agg #[.int .i64 b.k, .int .i64 b.n, .string b.s]] w (RetV w (.int .i64 (cmpV a b))) := by
  have hB := below_two (w := w) (.cells #[.int .i64 a.k, .int .i64 a.n, .string a.s] 102) (.cells #[.int .i64 b.k, .int .i64 b.n, .string b.s] 102)
  have x1 := (Blk.new w 102 #[.int .i64 a.k, .int .i64 a.n, .string a.s]).alloc (.cells #[.int .i64 b.k, .int .i64 b.n, .string b.s] 102)
  have x2 := Blk.new (w.alloc (.cells #[.int .i64 a.k, .int .i64 a.n, .string a.s] 102)) 102 #[.int .i64 b.k, .int .i64 b.n, .string b.s]
  rw [World.size_alloc] at x2
  go_enter Tryz.func182, Tryz.ntmps182
  go_wp2_with fail
  obtain ⟨W0, hW0⟩ : ∃ W0, (w.alloc (.cells #[.int .i64 a.k, .int .i64 a.n, .string a.s] 102)).alloc (.cells #[.int .i64 b.k, .int .i64 b.n, .string b.s] 102) = W0 := ⟨_, rfl⟩
  rw [hW0] at hB x1 x2 ⊢
  clear hW0
  have l1 := x1.lt
  have l2 := x2.lt
  refine (kind_any a W0).mono ?_
  rintro e W1 ⟨rfl, hB1⟩
  have y1 := x1.below hB1 l1
  have y2 := x2.below hB1 l2
  have hB01 := bstep hB hB1
  have c0 := y2.cell 0
  have c1 := y2.cell 1
  have c2 := y2.cell 2
  simp at c0 c1 c2
  have l3 := hB1.size
  clear x1 x2 hB hB1
  go_wp2_with fail
  refine (kind_any b W1).mono ?_
  rintro e W2 ⟨rfl, hB2⟩
  have z1 := y1.below hB2 (by omega)
  have z2 := y2.below hB2 (by omega)
  have hB02 := bstep hB01 hB2
  have l4 := hB2.size
  clear y1 y2 hB01 hB2 c0 c1 c2
  go_wp2_with fail
  refine (cmpi_any (cls a) (cls b) W2).mono ?_
  rintro e w' ⟨rfl, rfl⟩
  by_cases h0 : cmpI (cls a) (cls b) = 0
  · have HV0 := hide (fun h => cmpV_0 (a := a) (b := b) h h0)
    have HV1 := hide (fun h => cmpV_1 (a := a) (b := b) h h0)
    have HV2 := hide (fun h => cmpV_2 (a := a) (b := b) h h0)
    rw [h0]
    clear h0
    have p0 := fun (p : BW W2) => BW.cell (a := ⟨w.heap.size, 0, none⟩) (by show w.heap.size < _; omega) (z1.cell 0) p
    have p1 := fun (p : BW W2) => BW.cell (a := ⟨w.heap.size, 1, none⟩) (by show w.heap.size < _; omega) (z1.cell 1) p
    have p2 := fun (p : BW W2) => BW.cell (a := ⟨w.heap.size, 2, none⟩) (by show w.heap.size < _; omega) (z1.cell 2) p
    have q0 := fun (p : BW W2) => BW.cell (a := ⟨w.heap.size + 1, 0, none⟩) (by show w.heap.size + 1 < _; omega) (z2.cell 0) p
    have q1 := fun (p : BW W2) => BW.cell (a := ⟨w.heap.size + 1, 1, none⟩) (by show w.heap.size + 1 < _; omega) (z2.cell 1) p
    have q2 := fun (p : BW W2) => BW.cell (a := ⟨w.heap.size + 1, 2, none⟩) (by show w.heap.size + 1 < _; omega) (z2.cell 2) p
    simp at p0 p1 p2 q0 q1 q2
    have C1 := hide (fun (p : BW W2) => calls_bw (p := p) (cv1_any a b p.x))
    have C2 := hide (fun (p : BW W2) => calls_bw (p := p) (cv2_any a b p.x))
    have C3 := hide (fun (p : BW W2) => calls_bw (p := p) (cv3_any a b p.x))
    obtain ⟨x, hx⟩ : ∃ x, cls a = x := ⟨_, rfl⟩
    have hc := cls_cases a
    rw [hx] at hc HV0 HV1 HV2 ⊢
    clear hx l1 l2 l3 l4 z1 z2
    rcases hc with rfl | rfl | rfl
    · have hI := fun W => hix 0 _ rfl (by omega) (by omega) W
      go_wp2_with fail
      (refine wp_region_quiet_bw (by kernel_rfl) (by kernel_rfl) ?_
       repeat (first | go_big_quiet_step (((go_at_call 221; exact C1.out _))) | quiet_step (((go_at_call 221; exact C1.out _))))
       refine wpQuiet_nil ?_
       intro wq hw'
       obtain ⟨⟨_, hbq⟩, hw''⟩ := hw'
       subst hw'')
      have HE := hide (bstep hB02 hbq)
      clear hbq p0 p1 p2 q0 q1 q2 hB02
      go_wp2
      go_ret
      exact ⟨ret_int (HV0.out (by first | rfl | trivial)).symm, HE.out⟩
    · have hI := fun W => hix 1 _ rfl (by omega) (by omega) W
      go_wp2_with fail
      (refine wp_region_quiet_bw (by kernel_rfl) (by kernel_rfl) ?_
       repeat (first | go_big_quiet_step (((go_at_call 222; exact C2.out _))) | quiet_step (((go_at_call 222; exact C2.out _))))
       refine wpQuiet_nil ?_
       intro wq hw'
       obtain ⟨⟨_, hbq⟩, hw''⟩ := hw'
       subst hw'')
      have HE := hide (bstep hB02 hbq)
      clear hbq p0 p1 p2 q0 q1 q2 hB02
      go_wp2
      go_ret
      exact ⟨ret_int (HV1.out (by first | rfl | trivial)).symm, HE.out⟩
    · have hI := fun W => hix 2 _ rfl (by omega) (by omega) W
      go_wp2_with fail
      (refine wp_region_quiet_bw (by kernel_rfl) (by kernel_rfl) ?_
       repeat (first | go_big_quiet_step (((go_at_call 223; exact C3.out _))) | quiet_step (((go_at_call 223; exact C3.out _))))
       refine wpQuiet_nil ?_
       intro wq hw'
       obtain ⟨⟨_, hbq⟩, hw''⟩ := hw'
       subst hw'')
      have HE := hide (bstep hB02 hbq)
      clear hbq p0 p1 p2 q0 q1 q2 hB02
      go_wp2
      go_ret
      exact ⟨ret_int (HV2.out (by first | rfl | trivial)).symm, HE.out⟩
  · have HV := hide (cmpV_ne h0)
    obtain ⟨x, hx⟩ : ∃ x, cmpI (cls a) (cls b) = x := ⟨_, rfl⟩
    rw [hx] at h0 HV ⊢
    have n1 : (x != 0) = true := by simpa using h0
    clear h0 hx z1 z2
    go_wp2
    go_ret
    exact ⟨ret_int HV.out.symm, hB02⟩
end

section
open Go.RowKit
attribute [local go_sem] Oper.semAt_some

/-- What is compared, behind k values that were equal. -/
theorem cmpR_drop {x y : Rw} : ∀ {k : Nat}, (∀ i, i < k → ∃ a b, x[i]? = some a ∧ y[i]? = some b ∧ cmpV a b = 0) → cmpR x y = cmpR (x.drop k) (y.drop k)
  | 0, _ => by simp
  | k + 1, h => by
    rw [cmpR_drop (k := k) fun i hi => h i (by omega)]
    obtain ⟨a, b, ha, hb, hc⟩ := h k (by omega)
    have hx : x.drop k = a :: x.drop (k + 1) := by
      obtain ⟨h1, h2⟩ := List.getElem?_eq_some_iff.1 ha
      rw [List.drop_eq_getElem_cons h1, h2]
    have hy : y.drop k = b :: y.drop (k + 1) := by
      obtain ⟨h1, h2⟩ := List.getElem?_eq_some_iff.1 hb
      rw [List.drop_eq_getElem_cons h1, h2]
    rw [hx, hy]
    show thenC (cmpV a b) _ = _
    unfold thenC
    rw [if_pos hc]
theorem cmpR_at {x y : Rw} {k : Nat} (h : ∀ i, i < k → ∃ a b, x[i]? = some a ∧ y[i]? = some b ∧ cmpV a b = 0) {a b : Val} (ha : x[k]? = some a) (hb : y[k]? = some b) (hc : cmpV a b ≠ 0) : cmpR x y = cmpV a b := by
  rw [cmpR_drop h]
  obtain ⟨h1, h2⟩ := List.getElem?_eq_some_iff.1 ha
  obtain ⟨h3, h4⟩ := List.getElem?_eq_some_iff.1 hb
  rw [List.drop_eq_getElem_cons h1, List.drop_eq_getElem_cons h3, h2, h4]
  show thenC (cmpV a b) _ = _
  unfold thenC
  rw [if_neg hc]
theorem cmpR_gt {x y : Rw} {k : Nat} (h : ∀ i, i < k → ∃ a b, x[i]? = some a ∧ y[i]? = some b ∧ cmpV a b = 0) (hx : k < x.length) (hy : y.length ≤ k) : cmpR x y = 1 := by
  rw [cmpR_drop h, List.drop_eq_getElem_cons hx, List.drop_eq_nil_of_le hy]; rfl
theorem cmpR_end {x y : Rw} {k : Nat} (h : ∀ i, i < k → ∃ a b, x[i]? = some a ∧ y[i]? = some b ∧ cmpV a b = 0) (hx : x.length ≤ k) : cmpR x y = if k < y.length then -1 else 0 := by
  rw [cmpR_drop h, List.drop_eq_nil_of_le hx]
  by_cases hy : k < y.length
  · rw [List.drop_eq_getElem_cons hy, if_pos hy]; rfl
  · rw [List.drop_eq_nil_of_le (by omega), if_neg hy]; rfl

set_option maxRecDepth 100000 in
set_option maxHeartbeats 4000000 in
theorem cmpf_any (A : Option Addr) (n c : Nat) (x : Rw) (A' : Option Addr) (n' c' : Nat) (y : Rw) (w : World) (hx : Reads w w.heap.size 3 A n (x.flatMap encV)) (hy : Reads w w.heap.size 3 A' n' (y.flatMap encV)) (hn : n ≤ 9223372036854775807) :
    Calls Tryz.prog 181 #[.slice A n c, .slice A' n' c', .func (Fn.func 182) #[] #[]] w (RetV w (.int .i64 (cmpR x y))) := by
  have HL := hide (hx.len encV_len (by omega))
  have HL' := hide (hy.len encV_len (by omega))
  go_enter Tryz.func181, Tryz.ntmps181
  go_wp2_with fail
  go_loopw [13] (fun i wr => ∃ k : Nat, k ≤ n ∧ i = .int .i64 k ∧ (∀ i, i < k → ∃ a b, x[i]? = some a ∧ y[i]? = some b ∧ cmpV a b = 0) ∧ Below w.heap.size w wr) (fun i _ => n - (intOf i).toNat)
  case atStart => exact ⟨0, Nat.zero_le _, rfl, fun i hi => absurd hi (Nat.not_lt_zero _), Below.refl _ _⟩
  case round =>
    obtain ⟨k, hk, rfl, heq, hBw⟩ := hrel
    have HE := hide heq
    clear heq
    by_cases hlt : k < n
    · obtain ⟨b, off, e, rfl, hb, hek, hce⟩ := hx.below hBw |>.elem encV_len HL.out hlt
      have HEK := hide hek
      have e0 : wr.cell? ⟨b, off + k * 3, none⟩ = some (.int .i64 e.k) := by simpa using hce 0 _ rfl
      have e1 : wr.cell? ⟨b, off + k * 3 + 1, none⟩ = some (.int .i64 e.n) := by simpa [← Nat.add_assoc] using hce 1 _ rfl
      have e2 : wr.cell? ⟨b, off + k * 3 + 2, none⟩ = some (.string e.s) := by simpa [← Nat.add_assoc] using hce 2 _ rfl
      clear hce hek
      have q1 : (0 : Int) ≤ (k : Int) := by omega
      have q2 : (k : Int) < (n : Int) := by omega
      by_cases hlt' : k < n'
      · obtain ⟨b', off', e', rfl, hb', hek', hce'⟩ := hy.below hBw |>.elem encV_len HL'.out hlt'
        have HEK' := hide hek'
        have f0 : wr.cell? ⟨b', off' + k * 3, none⟩ = some (.int .i64 e'.k) := by simpa using hce' 0 _ rfl
        have f1 : wr.cell? ⟨b', off' + k * 3 + 1, none⟩ = some (.int .i64 e'.n) := by simpa [← Nat.add_assoc] using hce' 1 _ rfl
        have f2 : wr.cell? ⟨b', off' + k * 3 + 2, none⟩ = some (.string e'.s) := by simpa [← Nat.add_assoc] using hce' 2 _ rfl
        clear hce' hek'
        have q3 : (k : Int) < (n' : Int) := by omega
        have hws := hBw.size
        have g0 := (World.cell?_alloc_lt wr (.cells #[.int .i64 e.k, .int .i64 e.n, .string e.s] 102) ⟨b', off' + k * 3, none⟩ (by show b' < _; omega)).trans f0
        have g1 := (World.cell?_alloc_lt wr (.cells #[.int .i64 e.k, .int .i64 e.n, .string e.s] 102) ⟨b', off' + k * 3 + 1, none⟩ (by show b' < _; omega)).trans f1
        have g2 := (World.cell?_alloc_lt wr (.cells #[.int .i64 e.k, .int .i64 e.n, .string e.s] 102) ⟨b', off' + k * 3 + 2, none⟩ (by show b' < _; omega)).trans f2
        have hBa := hBw.trans ((below_two (w := wr) (.cells #[.int .i64 e.k, .int .i64 e.n, .string e.s] 102) (.cells #[.int .i64 e'.k, .int .i64 e'.n, .string e'.s] 102)).mono hws)
        go_wp2_with fail
        refine (CompareValues_any e e' _).mono ?_
        rintro ee w1 ⟨rfl, hB1⟩
        have hB2 := bstep hBa hB1
        by_cases hc : cmpV e e' = 0
        · have HX := hide (show ∀ i, i < k + 1 → ∃ a b, x[i]? = some a ∧ y[i]? = some b ∧ cmpV a b = 0 from fun i hi => by
            by_cases h : i = k
            · subst h; exact ⟨e, e', HEK.out, HEK'.out, hc⟩
            · exact HE.out i (by omega))
          rw [hc]
          clear hc hB1 hBa hBw e0 e1 e2 f0 f1 f2 g0 g1 g2
          go_wp2
          go_roundw
          case rel => exact ⟨k + 1, by omega, by go_num, HX.out, hB2⟩
          case measure => simp [intOf]; omega
        · have HX := hide (cmpR_at HE.out HEK.out HEK'.out hc)
          obtain ⟨z, hz⟩ : ∃ z, cmpV e e' = z := ⟨_, rfl⟩
          rw [hz] at hc HX ⊢
          have n1 : (z != 0) = true := by simpa using hc
          clear hc hz hB1 hBa hBw e0 e1 e2 f0 f1 f2 g0 g1 g2
          go_wp2
          go_ret
          exact ⟨ret_int HX.out.symm, hB2⟩
      · have HX := hide (cmpR_gt HE.out (by rw [HL.out]; exact hlt) (by rw [HL'.out]; omega))
        have hB2 := hBw.trans ((below_val (w := wr) #[.int .i64 e.k, .int .i64 e.n, .string e.s] 102).mono hBw.size)
        go_wp2
        go_ret
        exact ⟨ret_int HX.out.symm, hB2⟩
    · obtain rfl : k = n := by omega
      have HX := hide (cmpR_end HE.out (by rw [HL.out]; exact Nat.le_refl _))
      by_cases h : k < n'
      · have HY := hide (show cmpR x y = -1 from by rw [HX.out, if_pos (by rw [HL'.out]; exact h)])
        go_wp2
        go_ret
        exact ⟨ret_int HY.out.symm, hBw⟩
      · have HY := hide (show cmpR x y = 0 from by rw [HX.out, if_neg (by rw [HL'.out]; exact h)])
        go_wp2
        go_ret
        exact ⟨ret_int HY.out.symm, hBw⟩
theorem Compare_any (A : Option Addr) (n c : Nat) (x : Rw) (A' : Option Addr) (n' c' : Nat) (y : Rw) (w : World) (hx : Reads w w.heap.size 3 A n (x.flatMap encV)) (hy : Reads w w.heap.size 3 A' n' (y.flatMap encV)) (hn : n ≤ 9223372036854775807) :
    Calls Tryz.prog 130 #[.slice A n c, .slice A' n' c'] w (RetV w (.int .i64 (cmpR x y))) := by
  go_enter Tryz.func130, Tryz.ntmps130
  go_wp2_with fail
  refine (cmpf_any A n c x A' n' c' y w hx hy hn).mono ?_
  rintro ee w1 ⟨rfl, hB1⟩
  go_wp2
  go_ret
  exact ⟨rfl, hB1⟩
end

section
open Go.RowKit

structure It where
  A : Option Addr
  n : Nat
  c : Nat
  r : Rw
  m : Int
def encIt (i : It) : List Value := [.slice i.A i.n i.c, .int .i64 i.m]
theorem encIt_len (i : It) : (encIt i).length = 2 := rfl
def dat (l : List It) : Bg := l.map fun i => (i.r, i.m)
/-- A row in memory. -/
structure RowK (w : World) (B : Nat) (A : Option Addr) (n : Nat) (r : Rw) : Prop where
  rd : Reads w w.heap.size 3 A n (r.flatMap encV)
  at_ : 0 < n → ∀ b off m, A = some ⟨b, off, m⟩ → b < B ∨ ∃ c fz, w.heap[b]? = some (.cells c 102 fz)
  le : n ≤ 9223372036854775807
section
variable {w w' : World} {B B' : Nat} {A : Option Addr} {n : Nat} {r : Rw}
theorem RowK.len (h : RowK w B A n r) : r.length = n := h.rd.len encV_len (by omega)
theorem RowK.mono (h : RowK w B A n r) (hB : B ≤ B') : RowK w B' A n r := ⟨h.rd, fun h0 b off m e => by
  rcases h.at_ h0 b off m e with h | h
  · exact .inl (by omega)
  · exact .inr h, h.le⟩
theorem RowK.of_reads (h : Reads w B 3 A n (r.flatMap encV)) (hB : B ≤ w.heap.size) (hn : n ≤ 9223372036854775807) : RowK w B A n r :=
  ⟨h.more hB, fun h0 b off m e => by
    obtain ⟨b', off', e', hb, _⟩ := h.2 h0
    rw [e'] at e
    injection e with e
    injection e with e1
    exact .inl (by omega), hn⟩
theorem RowK.below (h : RowK w B A n r) (hb : Below w.heap.size w w') : RowK w' B A n r :=
  ⟨h.rd.up hb, fun h0 b off m e => by
    rcases h.at_ h0 b off m e with h1 | ⟨c, fz, h1⟩
    · exact .inl h1
    · exact .inr ⟨c, fz, by rw [hb.block b (Array.getElem?_eq_some_iff.1 h1).1]; exact h1⟩, h.le⟩
/-- A write to a block that is neither below the bound nor of values turns no row. -/
theorem RowK.keep (h : RowK w B A n r) {p : Nat → Prop} (hk : ∀ k, k < w.heap.size → ¬ p k → w'.heap[k]? = w.heap[k]?) (hs : w.heap.size ≤ w'.heap.size) (hp : ∀ k, p k → B ≤ k ∧ ∀ c fz, w.heap[k]? ≠ some (.cells c 102 fz)) : RowK w' B A n r := by
  have hne : 0 < n → ∀ b off m, A = some ⟨b, off, m⟩ → ¬ p b := fun h0 b off m e hpb => by
    obtain ⟨h1, h2⟩ := hp b hpb
    rcases h.at_ h0 b off m e with h3 | ⟨c, fz, h3⟩
    · omega
    · exact h2 c fz h3
  refine ⟨⟨h.rd.1, fun h0 => ?_⟩, fun h0 b off m e => ?_, h.le⟩
  · obtain ⟨b, off, e, hb, hc⟩ := h.rd.2 h0
    refine ⟨b, off, e, by omega, fun j u hu => ?_⟩
    rw [World.cell?_of_block (hk b hb (hne h0 b off none e))]
    exact hc j u hu
  · rcases h.at_ h0 b off m e with h3 | ⟨c, fz, h3⟩
    · exact .inl h3
    · exact .inr ⟨c, fz, by rw [hk b (Array.getElem?_eq_some_iff.1 h3).1 (hne h0 b off m e)]; exact h3⟩
theorem own_cells {base : Nat} {e : TypeId} {size k : Nat} {v : Value} {xs : List Value} (h : w.ownsRow base e size v k xs) {g : Nat} (hg : v.ownBlock = some g) : ∃ c fz, w.heap[g]? = some (.cells c e fz) := by
  rcases h.2 with ⟨rfl, _⟩ | ⟨g', cap, cur, rfl, _, h3, _⟩
  · cases hg
  · have : g' = g := by simpa [Value.ownBlock] using hg
    subst this
    exact ⟨_, _, h3⟩
theorem RowK.of_own {base : Nat} {c : Nat} (h : w.ownsRow base 102 3 (.slice A n c) n (r.flatMap encV)) (hn : n ≤ 9223372036854775807) : RowK w B A n r :=
  ⟨Reads.of_own h, fun h0 b off m e => by
    obtain ⟨g, cap, hv, _⟩ := h.form h0
    have hA : A = some ⟨g, 0, none⟩ := by injection hv
    rw [hA] at e
    injection e with e
    injection e with e1
    subst e1
    subst hA
    exact .inr (own_cells h (g := g) rfl), hn⟩
/-- An append to a row of another type turns no row. -/
theorem RowK.grown (h : RowK w B A n r) {base : Nat} {e : TypeId} {size k : Nat} {v : Value} {xs : List Value} (hown : w.ownsRow base e size v k xs) (he : e ≠ 102) (hB : B ≤ base) (hg : w.grownBy w' v.ownBlock) : RowK w' B A n r :=
  h.keep (p := fun k => v.ownBlock = some k) (fun k hk hp => hg.block k hk fun e => hp e.symm) hg.size fun k hk => by
    refine ⟨Nat.le_trans hB (hown.lt k hk).1, fun c fz hc => ?_⟩
    obtain ⟨c', fz', h'⟩ := own_cells hown hk
    rw [h'] at hc
    injection hc with hc
    injection hc with _ h2
    exact he h2
theorem RowK.alloc (h : RowK w B A n r) (o : Obj) : RowK (w.alloc o) B A n r := h.below ((Below.refl _ _).alloc (Nat.le_refl _) _)
/-- A store into a block of another type turns no row. -/
theorem RowK.setCell (h : RowK w B A n r) {p : Addr} {cs : Array Value} {e : TypeId} {fz : Nat × Nat} (hp : w.heap[p.block]? = some (.cells cs e fz)) (he : e ≠ 102) (hB : B ≤ p.block) (u : Value) : RowK (w.setCell p u) B A n r :=
  h.keep (p := fun k => k = p.block) (fun k _ hne => Below.heap_setCell w p u k hne) (by simp [World.setCell]) fun k hk => by
    subst hk
    refine ⟨hB, fun c fz' hc => ?_⟩
    rw [hp] at hc
    injection hc with hc
    injection hc with _ h2
    exact he h2
end

/-- All rows of a list of items. -/
def Rows_ (w : World) (B : Nat) (l : List It) : Prop := ∀ i ∈ l, RowK w B i.A i.n i.r
/-- A bag in memory. -/
structure BagR (w : World) (B : Nat) (A : Option Addr) (n : Nat) (l : List It) : Prop where
  rd : Reads w w.heap.size 2 A n (l.flatMap encIt)
  rows : Rows_ w B l
  le : n ≤ 9223372036854775807
section
variable {w w' : World} {B B' : Nat} {A : Option Addr} {n : Nat} {l : List It}
theorem Rows_.mono (h : Rows_ w B l) (hB : B ≤ B') : Rows_ w B' l := fun i hi => (h i hi).mono hB
theorem BagR.len (h : BagR w B A n l) : l.length = n := h.rd.len encIt_len (by omega)
theorem BagR.mono (h : BagR w B A n l) (hB : B ≤ B') : BagR w B' A n l := ⟨h.rd, h.rows.mono hB, h.le⟩
theorem BagR.nil (w : World) (B : Nat) : BagR w B none 0 [] := ⟨Reads.none_, (by intro i hi; cases hi), by omega⟩
/-- Item k. -/
theorem BagR.at_ (h : BagR w B A n l) {k : Nat} (hk : k < n) : ∃ b off i, A = some ⟨b, off, none⟩ ∧ b < w.heap.size ∧ l[k]? = some i ∧ w.cell? ⟨b, off + k * 2, none⟩ = some (.slice i.A i.n i.c) ∧ w.cell? ⟨b, off + k * 2 + 1, none⟩ = some (.int .i64 i.m) ∧ RowK w B i.A i.n i.r := by
  obtain ⟨b, off, i, e, hb, hi, hc⟩ := h.rd.elem encIt_len h.len hk
  exact ⟨b, off, i, e, hb, hi, by simpa using hc 0 _ rfl, by simpa [← Nat.add_assoc] using hc 1 _ rfl, h.rows i (List.mem_of_getElem? hi)⟩
end
end

section
open Go.RowKit
attribute [local go_sem] Oper.semAt_some

def upB (p : Option Rw) (r : Rw) : Bool := match p with
  | none => true
  | some q => decide (cmpR q r < 0)
def lastR (p : Option Rw) : Bg → Option Rw
  | [] => p
  | x :: l => lastR (some x.1) l
end

section
open Go.RowKit

theorem wide_fn (f : FuncId) : Fence.wide.fn f := trivial
theorem wide_depth : Fence.wide.depth = none := rfl

structure Bar (N : Nat) (X : List Nat) (w w' : World) : Prop where
  os : w'.os = w.os
  tape : w'.tape = w.tape
  output : w'.output = w.output
  size : w.heap.size ≤ w'.heap.size
  block : ∀ k, k < N → k ∉ X → w'.heap[k]? = w.heap[k]?

section
variable {N : Nat} {X : List Nat} {a b w w' : World}
theorem Bar.refl (N : Nat) (X : List Nat) (w : World) : Bar N X w w := ⟨rfl, rfl, rfl, Nat.le_refl _, fun _ _ _ => rfl⟩
theorem Bar.trans (h : Bar N X a b) (k : Bar N X b w) : Bar N X a w :=
  ⟨k.os.trans h.os, k.tape.trans h.tape, k.output.trans h.output, Nat.le_trans h.size k.size, fun i hi hx => (k.block i hi hx).trans (h.block i hi hx)⟩
theorem Bar.of_below (h : Below N a w) (X : List Nat) : Bar N X a w := ⟨h.os, h.tape, h.output, h.size, fun k hk _ => h.block k hk⟩
theorem Bar.below (h : Bar N X a w) {B : Nat} (hB : B ≤ N) (hX : ∀ x ∈ X, B ≤ x) : Below B a w :=
  ⟨h.os, h.tape, h.output, h.size, fun k hk => h.block k (by omega) (fun hx => by have := hX k hx; omega)⟩
theorem Bar.drew (h : Bar N X a w) : Bar N X a w.drew := ⟨h.os, h.tape, h.output, h.size, h.block⟩
theorem Bar.alloc (h : Bar N X a w) (hN : N ≤ w.heap.size) (o : Obj) : Bar N X a (w.alloc o) :=
  h.trans ⟨rfl, rfl, rfl, by simp, fun k hk _ => Below.heap_alloc _ _ _ (by omega)⟩
theorem Bar.setCell (h : Bar N X a w) {p : Addr} (hp : N ≤ p.block ∨ p.block ∈ X) (u : Value) : Bar N X a (w.setCell p u) :=
  h.trans ⟨rfl, rfl, rfl, by simp [World.setCell], fun k hk hx => Below.heap_setCell _ _ _ _ (by
    rintro rfl
    rcases hp with hp | hp
    · omega
    · exact hx hp)⟩
theorem Bar.grown (h : Bar N X a w) {row : Option Nat} (hg : w.grownBy w' row) (hN : N ≤ w.heap.size) (hr : ∀ k, row = some k → N ≤ k ∨ k ∈ X) : Bar N X a w' :=
  h.trans ⟨hg.os, hg.tape, hg.output, hg.size, fun k hk hx => hg.block k (by omega) (fun e => by
    rcases hr k e.symm with h | h
    · omega
    · exact hx h)⟩
theorem Bar.boxed (h : Bar N X a w) {B : Nat} {t : TypeId} {v : Value} (hb : Boxed a B t v) (hB : B < N) (hX : B ∉ X) : Boxed w B t v := (h.block B hB hX).trans hb
theorem bar_t {A B C : World} (h : Bar N X A B) (k : Bar N X B C) : Bar N X A C := h.trans k
theorem bar_b {w : World} (hn : N ≤ w.heap.size) (W : World) (l : Nat) (o o' : Obj) (hl : w.heap.size ≤ l) (h : W.heap[l]? = some o) (_ : o.isCells = false) (_ : o.isWalk = false) : Bar N X W (W.putObj l o') :=
  (Bar.refl N X W).grown (grownBy_putObj' W l o') (by have := (Array.getElem?_eq_some_iff.1 h).1; omega) (fun k e => by cases e; exact .inl (by omega))
theorem ownFrom_bar {β : Type} {B : Nat} {w₀ : World} (hn : N ≤ w₀.heap.size) (hB : N ≤ B) : OwnFrom B (fun (_ : β) W => Bar N X w₀ W) :=
  fun _ _ _ _ hs hg hr => hs.grown hg (Nat.le_trans hn hs.size) (fun k e => .inl (Nat.le_trans hB (hr k e).1))
end

theorem Boxed.setOther {W : World} {B : Nat} {t : TypeId} {v : Value} (h : Boxed W B t v) {p : Addr} (hne : B ≠ p.block) (u : Value) : Boxed (W.setCell p u) B t v := (Below.heap_setCell W p u B hne).trans h

/-- 'out = append(out, ..)', out in box B, its row at or beyond N, the box below N: all that the walk owes behind it. -/
theorem Boxed.collected {W w1 : World} {N B : Nat} {t e : TypeId} {size : Nat} {v v' : Value} {k m : Nat} {xs ys : List Value} {tmp : Obj}
    (hv : Boxed W B t v) (hrow : W.ownsRow N e size v k xs) (hN : N ≤ W.heap.size) (hB : B < N)
    (hown' : w1.ownsRow N e size v' m ys) (hgrow : (W.alloc tmp).grownBy w1 v.ownBlock) :
    Boxed w1 B t v ∧ Boxed (w1.setCell ⟨B, 0, none⟩ v') B t v' ∧ (w1.setCell ⟨B, 0, none⟩ v').ownsRow N e size v' m ys ∧ KeepsOthers W (w1.setCell ⟨B, 0, none⟩ v') ∧ Bar N [B] W (w1.setCell ⟨B, 0, none⟩ v') := by
  have hne : some B ≠ v.ownBlock := fun e => by have := (hrow.lt B e.symm).1; omega
  have hne' : some B ≠ v'.ownBlock := fun e => by have := (hown'.lt B e.symm).1; omega
  have hv1 : Boxed w1 B t v := (hv.alloc tmp).kept hgrow hne
  refine ⟨hv1, hv1.set v', hown'.kept (grownBy_setCell' w1 B v') (.inr hne'.symm), ?_, ?_⟩
  · refine ((KeepsOthers.alloc W tmp).trans (KeepsOthers.of_grownBy hgrow fun j o ej hj => ?_)).trans (KeepsOthers.setCell _ _ _)
    rcases (hrow.alloc tmp).2 with ⟨rfl, _⟩ | ⟨g, cap, cur, rfl, _, hgb, _⟩
    · simp [Value.ownBlock] at ej
    · obtain rfl : g = j := by simpa [Value.ownBlock] using ej
      rw [hgb] at hj; cases hj; rfl
  · exact (((Bar.refl N [B] W).alloc hN tmp).grown hgrow (by simp; omega) fun j ej => .inl (hrow.lt j ej).1).setCell (.inr (by simp)) v'

end

section
open Go.RowKit

section
variable {F : Fence} {n : Nat} {P : Program} {α : Type}

/-- The iterator g over the list xs: Wr is what it does to memory between two rounds; Kp is what a round must keep. -/
def IterOf (F : Fence) (n : Nat) (P : Program) (g : Nat) (lb : Array Value) (encs : α → Array Value) (xs : List α) (Wr Kp : World → World → Prop) (W : World) : Prop :=
  ∀ (l : Nat) (J Jx : List α → World → Prop), (∀ s X Y, J s X → Wr X Y → J s Y) → (∀ s X Y, Jx s X → Wr X Y → Jx s Y) →
    (∀ pre x W1, pre ++ [x] <+: xs → J pre W1 → YieldAt F (n - 1) P l (encs x) W1 fun e W' =>
      (e = .returned (.bool true) ∧ J (pre ++ [x]) W' ∧ Kp W1 W') ∨ (e = .returned (.bool false) ∧ Jx (pre ++ [x]) W')) →
    J [] W → CallsIn F n P g (#[.func (.yield l) #[] #[]] ++ lb) W fun e W' => (∃ v, e = .returned v) ∧ (J xs W' ∨ ∃ pre, pre <+: xs ∧ Jx pre W')

/-- How a round's body is left. -/
def rndPost (B : Nat) (Kp : World → World → Prop) (I : List α → World → Prop) (Ix : Code → List α → World → Prop) (s : List α) (W : World) : Exit → Act → World → Prop
  | .normal, _, W' => KeepsFrom B W W' ∧ Kp W W' ∧ I s W'
  | .ret, _, W' => KeepsFrom B W W' ∧ Ix .ret s W'
  | .exit id, _, W' => KeepsFrom B W W' ∧ Ix (.exit id) s W'
  | _, _, _ => False

theorem wpIn_iter {g : Operand} {ps : Array Tmp} {assign body : Code} {Q : Exit → Act → World → Prop} {a : Act} {w : World} (hro : F.round = none) (h1 : 1 ≤ n) {gf : Nat} {lb : Array Value}
    (hg : a.eval g = .func (.func gf) #[] lb) (hFg : F.fn gf) (eg : ∀ args w, (callFunc gf args).run P w = .ok (.enter gf args) w)
    {encs : α → Array Value} {xs : List α} {Wr Kp : World → World → Prop} (hit : ∀ W, Below w.heap.size w W → IterOf F (n - 1) P gf lb encs xs Wr Kp W) (hps : ∀ x, (encs x).size = ps.size)
    (hWr : ∀ X Y, Wr X Y → KeepsOthers X Y) (hKt : ∀ {A B C : World}, Kp A B → Kp B C → Kp A C)
    (hKb : ∀ (W : World) (l : Nat) (o o' : Obj), w.heap.size ≤ l → W.heap[l]? = some o → o.isCells = false → o.isWalk = false → Kp W (W.putObj l o'))
    (I : List α → World → Prop) (Ix : Code → List α → World → Prop) (hI : OwnFrom w.heap.size I) (hIx : ∀ c, OwnFrom w.heap.size (Ix c)) (hIw : ∀ s X Y, I s X → Wr X Y → I s Y) (hIxw : ∀ c s X Y, Ix c s X → Wr X Y → Ix c s Y) (h0 : I [] w)
    (Ax : List α → α → Act → World → Prop) (hAx : ∀ pre x a', OwnFrom w.heap.size (fun (_ : Unit) W => Ax pre x a' W))
    (hassign : ∀ (l : Nat) (pre : List α) (x : α) (W : World) (K : Act → World → Prop), pre ++ [x] <+: xs → I pre W → (∀ a' W', KeepsFrom w.heap.size W W' → Kp W W' → I pre W' → Ax pre x a' W' → K a' W') →
      assign.wpIn (F.inRound l) (n - 1 - 1) P (Exit.then K (fun _ _ _ => False)) { tmps := (ps.zip (encs x)).foldl (fun t (p, v) => t.setIfInBounds p v) a.tmps, defers := [] } W)
    (hbody : ∀ (l : Nat) (pre : List α) (x : α) (a' : Act) (W : World), pre ++ [x] <+: xs → I pre W → Ax pre x a' W → body.wpIn (F.inRound l) (n - 1 - 1) P (rndPost w.heap.size Kp I Ix (pre ++ [x]) W) a' W)
    (hdone : ∀ (D : Nat) (W : World), w.heap.size ≤ D → I xs W → W.heap[D]? = some (.deferred (some [])) → Q .normal { a with defers := { target := .collected D, args := #[] } :: a.defers } W)
    (hstop : ∀ (D : Nat) (c : Code) (pre : List α) (W : World), w.heap.size ≤ D → pre <+: xs → Ix c pre W → W.heap[D]? = some (.deferred (some [])) → c.wpIn F n P Q { a with defers := { target := .collected D, args := #[] } :: a.defers } W) :
    (Code.rangeFunc g ps assign body).wpIn F n P Q a w := by
  refine wpIn_rangeFunc fun fn hfn => ?_
  rw [hro]
  obtain ⟨N, hN⟩ : ∃ N, w.heap.size = N := ⟨_, rfl⟩
  let rc : LoopState → Option Code → Loop := fun st pe => { state := st, pending := pe, fn, tmps := a.tmps, params := ps, assign, body, defers := w.heap.size }
  let W1 := (w.alloc (.deferred (some []))).alloc (.loop (rc .ready none))
  have lL : W1.heap[N + 1]? = some (.loop (rc .ready none)) := by
    have h := World.alloc_heap_new (w.alloc (.deferred (some []))) (.loop (rc .ready none))
    rw [World.size_alloc, hN] at h; exact h
  have lD : W1.heap[N]? = some (.deferred (some [])) := by
    have h := World.alloc_heap_new w (.deferred (some []))
    rw [hN] at h
    exact (Below.heap_alloc _ _ _ (by rw [World.size_alloc, hN]; omega)).trans h
  have hB1 : Below w.heap.size w W1 := ((Below.refl _ w).alloc (Nat.le_refl _) _).alloc (by simp) _
  refine ⟨w.heap.size + 1, [{ target := .collected w.heap.size, args := #[] }], W1, { target := .fn (.func gf) lb, args := #[.func (.yield (w.heap.size + 1)) #[] #[]] }, W1, gf, #[.func (.yield (w.heap.size + 1)) #[] #[]] ++ lb, W1,
    run_enterLoop_outer _ _ _ _ _, by simp only [resolve, hg]; simp [go_sem], fun f' hf' => by simp [Target.leads] at hf'; subst hf'; exact hFg, by simp [invoke, go_sem, eg], fun _ => h1, ?_⟩
  -- both blocks of book-keeping, whatever the record says
  let Bk : Loop → World → Prop := fun r W => W.heap[N + 1]? = some (.loop r) ∧ W.heap[N]? = some (.deferred (some []))
  have bkF : ∀ {r : Loop} {X Y : World}, KeepsFrom N X Y → Bk r X → Bk r Y := fun h k => ⟨h.same _ _ (by omega) k.1 rfl, h.same _ _ (Nat.le_refl _) k.2 rfl⟩
  have bkP : ∀ {r r' : Loop} {X : World}, Bk r X → Bk r' (X.putObj (N + 1) (.loop r')) := fun k => ⟨World.putObj_heap_same (Array.getElem?_eq_some_iff.1 k.1).1, (World.putObj_heap_other (by omega)).trans k.2⟩
  have bkI : ∀ {β : Type} {J : β → World → Prop} {s : β} {r : Loop} {X : World} (r' : Loop), OwnFrom N J → J s X → Bk r X → J s (X.putObj (N + 1) (.loop r')) := fun r' hJ hs k => hJ.putObj _ hs (by omega) k.1 rfl
  have bkK : ∀ {r : Loop} {X : World} (r' : Loop), Bk r X → Kp X (X.putObj (N + 1) (.loop r')) := fun {r X} r' k => hKb X (N + 1) _ _ (by omega) k.1 rfl rfl
  have bkE : ∀ {r : Loop} {X : World} (j : Option Code), Bk r X → (Instr.endRound (N + 1) j).run P X = .ok (.bool j.isNone) (X.putObj (N + 1) (.loop { r with state := if j.isNone then .ready else .done, pending := j })) := fun j k => run_endRound j k.1
  rw [hN] at hI hassign hbody hdone hstop
  have hIx' : ∀ c, OwnFrom N (Ix c) := fun c => hN ▸ hIx c
  have hAx' : ∀ pre x a', OwnFrom N (fun (_ : Unit) W => Ax pre x a' W) := fun pre x a' => hN ▸ hAx pre x a'
  have hI1 : I [] W1 := hI.alloc _ (hI.alloc _ h0)
  have hc := hit W1 hB1 (N + 1) (fun pre W => I pre W ∧ Bk (rc .ready none) W) (fun pre W => ∃ c, Ix c pre W ∧ Bk (rc .done (some c)) W)
    (fun s X Y h k => ⟨hIw s X Y h.1 k, bkF ((hWr X Y k).from N) h.2⟩) (fun s X Y ⟨c, h1, h2⟩ k => ⟨c, hIxw c s X Y h1 k, bkF ((hWr X Y k).from N) h2⟩) ?_ ⟨hI1, lL, lD⟩
  · rw [hN]
    refine hc.mono ?_
    rintro e W2 ⟨⟨v, rfl⟩, (⟨hi, hk⟩ | ⟨pre, hp, c, hi, hk⟩)⟩
    · exact ⟨none, _, run_endLoop hk.1 (by simp [rc]), hdone N _ (Nat.le_refl _) (bkI _ hI hi hk) (bkP (r' := _) hk).2⟩
    · exact ⟨some c, _, run_endLoop hk.1 (by simp [rc]), hstop N c pre _ (Nat.le_refl _) hp (bkI _ (hIx' c) hi hk) (bkP (r' := _) hk).2⟩
  · rintro pre x W hpx ⟨hi, hk⟩
    refine ⟨fn, _, assign, body, run_yield (args := encs x) hk.1 (hps x), roundIn_of_wpIn hfn (hassign _ pre x W _ hpx hi fun a' Wa hkf hkp hia hax => ?_)⟩
    have hka := bkF hkf hk
    refine ⟨_, run_beginRound hka.1 rfl, ?_⟩
    have hkb := bkP (r' := { rc .ready none with state := .busy }) hka
    have fin : ∀ {W3 : World} (j : Option Code), KeepsFrom N (Wa.putObj (N + 1) (.loop { rc .ready none with state := .busy })) W3 →
        (Instr.endRound (N + 1) j).run P W3 = .ok (.bool j.isNone) (W3.putObj (N + 1) (.loop (rc (if j.isNone then .ready else .done) j))) ∧ Bk { rc .ready none with state := .busy } W3 := fun j h => ⟨bkE j (bkF h hkb), bkF h hkb⟩
    refine wpIn_mono (hbody _ pre x a' _ hpx (bkI _ hI hia hka) (bkI (s := ()) _ (hAx' pre x a') hax hka)) ?_
    rintro e a3 W3 hp
    cases e with
    | normal =>
      obtain ⟨h3, hp3, hi3⟩ := hp
      obtain ⟨hr, hb3⟩ := fin none h3
      exact ⟨_, _, hr, .inl ⟨rfl, ⟨bkI _ hI hi3 hb3, bkP hb3⟩, hKt hkp (hKt (bkK _ hka) (hKt hp3 (bkK _ hb3)))⟩⟩
    | ret =>
      obtain ⟨h3, hi3⟩ := hp
      obtain ⟨hr, hb3⟩ := fin (some .ret) h3
      exact ⟨_, _, hr, .inr ⟨rfl, .ret, bkI _ (hIx' _) hi3 hb3, bkP hb3⟩⟩
    | exit id =>
      obtain ⟨h3, hi3⟩ := hp
      obtain ⟨hr, hb3⟩ := fin (some (.exit id)) h3
      exact ⟨_, _, hr, .inr ⟨rfl, .exit id, bkI _ (hIx' _) hi3 hb3, bkP hb3⟩⟩
    | goto t => exact hp.elim
    | panic ch => exact hp.elim
    | outgrown => exact hp.elim
end
end

section
open Go.RowKit

structure Pe where
  A : Option Addr
  n : Nat
  c : Nat
  r : Rw
  m : Int
  k : Int
def encPe (e : Pe) : Array Value := #[.slice e.A e.n e.c, .agg #[.int .i64 e.m, .int .i64 e.k]]
def datP (e : Pe) : Pr2 := (e.r, e.m, e.k)
def leftE (x : It) : Pe := ⟨x.A, x.n, x.c, x.r, x.m, 0⟩
def rightE (y : It) : Pe := ⟨y.A, y.n, y.c, y.r, 0, y.m⟩
def midE (x y : It) : Pe := ⟨y.A, y.n, y.c, y.r, x.m, y.m⟩
def prI : List It → List It → List Pe
  | [], [] => []
  | [], y :: b => rightE y :: prI [] b
  | x :: a, [] => leftE x :: prI a []
  | x :: a, y :: b => if cmpR x.r y.r < 0 then leftE x :: prI a (y :: b) else if 0 < cmpR x.r y.r then rightE y :: prI (x :: a) b else midE x y :: prI a b
termination_by a b => a.length + b.length
/-- What the iterator does between two rounds. -/
structure WrP (Ba Bb : Nat) (X Y : World) : Prop where
  bar : Bar X.heap.size [Ba, Bb] X Y
  oth : KeepsOthers X Y
/-- The iterator's boxes within a round: what was there is as it was, but for them. -/
structure PW (Ba Bb nb : Nat) (va vb : Value) (cs : Array Value) (X Y : World) : Prop where
  a : Boxed Y Ba 40 va
  b : Boxed Y Bb 40 vb
  n : Blk Y nb 233 cs
  wr : WrP Ba Bb X Y
  la : Ba < X.heap.size
  lb : Bb < X.heap.size
  ln : X.heap.size ≤ nb
  ne : Ba ≠ Bb
section
variable {Ba Bb nb : Nat} {va vb : Value} {cs : Array Value} {X Y Z : World}
end
/-- .. and its boxes are boxes still. -/
structure WrQ (Ba Bb : Nat) (X Y : World) : Prop where
  wr : WrP Ba Bb X Y
  a : ∃ v, Boxed Y Ba 40 v
  b : ∃ v, Boxed Y Bb 40 v
theorem PW.q {Ba Bb nb : Nat} {va vb : Value} {cs : Array Value} {X Y : World} (h : PW Ba Bb nb va vb cs X Y) : WrQ Ba Bb X Y := ⟨h.wr, ⟨_, h.a⟩, ⟨_, h.b⟩⟩
/-- The rest of a slice of items. -/
def tailA (A : Option Addr) (c : Nat) : Option Addr := if c = 1 then A else A.map (·.add 2)
end
end

section
open Go.RowKit
attribute [local go_sem] Oper.semAt_some wide_fn wide_depth

/-- How many elements the slice in a box has. -/
def boxN (W : World) (b : Nat) : Nat := match W.cell? ⟨b, 0, none⟩ with
  | some (.slice _ n _) => n
  | _ => 0
end

end Go.Proofs.YtoapjidpfghnlaaGreatDoor
