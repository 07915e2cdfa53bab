/-
  What the rounds of pair.Intervals collect: plain data, and how it lies. No condition.
-/
import Derived.Test.YtoapjidpfghnlaaGreatDoorPrI
import Derived.Test.YtoapjidpfghnlaaGreatDoorRngH
namespace Go.Proofs.YtoapjidpfghnlaaGreatDoor
open Go.RowKit
set_option linter.unusedVariables false

/-- What an event is joined to among those that have its key. -/
def pairsF (lo hi : Int) (x : Te) (pre : List Te) : List Te := (pre.filter fun y => btw (y.1 - x.1) lo hi).map fun y => (max x.1 y.1, x.2 ++ y.2)
theorem pairsF_snoc (lo hi : Int) (x : Te) (pre : List Te) (y : Te) : pairsF lo hi x (pre ++ [y]) = pairsF lo hi x pre ++ if btw (y.1 - x.1) lo hi then [(max x.1 y.1, x.2 ++ y.2)] else [] := by
  unfold pairsF
  rw [List.filter_append, List.map_append]
  congr 1
  by_cases h : btw (y.1 - x.1) lo hi = true
  · simp [h]
  · have h' : btw (y.1 - x.1) lo hi = false := by simpa using h
    simp [h']
theorem pairsF_pre (lo hi : Int) (x : Te) {a b : List Te} (h : a <+: b) : pairsF lo hi x a <+: pairsF lo hi x b := by
  obtain ⟨c, rfl⟩ := h
  unfold pairsF
  rw [List.filter_append, List.map_append]
  exact List.prefix_append _ _
theorem ofS_eq {on others : List Int} {l r : Rw} (hl : l.all okV = true) (hr : r.all okV = true) (hn : nonul (pick l on) = true) : (nonul (pick r others) && decide (ofS others r = ofS on l)) = eqK on others l r := by
  rw [← eqK_text hl hr, hn, Bool.true_and]
  cases h2 : nonul (pick r others)
  · rfl
  · rw [Bool.true_and, Bool.true_and]
    unfold ofS
    rw [hn, h2, if_pos rfl, if_pos rfl, Bool.eq_iff_iff, decide_eq_true_iff, decide_eq_true_iff]
    constructor
    · intro e
      have e1 := congrArg (fun b => b.data.toList) e
      simpa using e1.symm
    · intro e
      rw [e]
theorem okR_vals {r : Rw} (h : okR r = true) : r.all okV = true := by unfold okR at h; rw [Bool.and_eq_true] at h; simpa using h.1
theorem okR_eight {r : Rw} (h : okR r = true) : r.length ≤ 8 := by unfold okR at h; rw [Bool.and_eq_true, decide_eq_true_eq] at h; exact h.2
/-- The pairs of an event whose key has no null: those of its partners. -/
theorem pairs_part {on others : List Int} {lo hi : Int} {x : Te} {lr : List Ev} (hx : okR x.2 = true) (hr : ∀ y ∈ lr, okR y.r = true) (hn : nonul (pick x.2 on) = true) :
    pairsOf on others lo hi x (dE lr) = pairsF lo hi x (dE (lr.filter (mtE others (ofS on x.2)))) := by
  unfold pairsOf pairsF
  congr 1
  induction lr with
  | nil => rfl
  | cons y lr ih =>
    have ih := ih fun z hz => hr z (List.mem_cons_of_mem _ hz)
    have hm : mtE others (ofS on x.2) y = eqK on others x.2 y.r := ofS_eq (okR_vals hx) (okR_vals (hr y List.mem_cons_self)) hn
    have h1 : dE (y :: lr) = (y.t, y.r) :: dE lr := rfl
    rw [h1, List.filter_cons, List.filter_cons, hm, ih]
    cases h2 : eqK on others x.2 y.r
    · simp
    · have h3 : dE (y :: lr.filter (mtE others (ofS on x.2))) = (y.t, y.r) :: dE (lr.filter (mtE others (ofS on x.2))) := rfl
      simp [h3, List.filter_cons]
/-- .. of one that has a null: none. -/
theorem pairs_null {on others : List Int} {lo hi : Int} {x : Te} {l : List Te} (hn : nonul (pick x.2 on) = false) : pairsOf on others lo hi x l = [] := by
  unfold pairsOf eqK
  rw [hn]
  simp
theorem pairsI_pre (on others : List Int) (lo hi : Int) {a b : List Te} (r : List Te) (h : a <+: b) : pairsI on others lo hi a r <+: pairsI on others lo hi b r := by
  obtain ⟨c, rfl⟩ := h
  unfold pairsI
  rw [List.flatMap_append]
  exact List.prefix_append _ _
theorem limP_pre {a b : List Te} (h : limP a = true) (hp : a <+: b) : limP b = true := by
  obtain ⟨c, rfl⟩ := hp
  exact limP_app h
theorem limP_snoc (a : List Te) (c : Te) (h : limP a = false) : limP (a ++ [c]) = (decide (8 < c.2.length) || decide (a.length = 400)) := by
  unfold limP at *
  rw [Bool.or_eq_false_iff] at h
  have h2 := h.2
  rw [decide_eq_false_iff_not] at h2
  rw [List.any_append, h.1, Bool.false_or]
  have h3 : ([c].any badP) = decide (8 < c.2.length) := by simp [badP]
  rw [h3]
  congr 1
  rw [decide_eq_decide, List.length_append]
  simp
  omega
theorem dE_pre {a b : List Ev} (h : a <+: b) : dE a <+: dE b := by
  obtain ⟨c, rfl⟩ := h
  rw [dE_app]
  exact List.prefix_append _ _
/-- The pairs so far, and those of all: a beginning. -/
theorem sofar_pre {on others : List Int} {lo hi : Int} {ll lr : List Ev} {k : Nat} {x : Ev} (hx : ll[k]? = some x) {pre : List Ev} {y : Ev} (ho : okR x.r = true) (hr : ∀ y ∈ lr, okR y.r = true) (hn : nonul (pick x.r on) = true) (hp : pre ++ [y] <+: lr.filter (mtE others (ofS on x.r))) :
    pairsI on others lo hi (dE (ll.take k)) (dE lr) ++ pairsF lo hi (x.t, x.r) (dE (pre ++ [y])) <+: pairsI on others lo hi (dE ll) (dE lr) := by
  have h1 : pairsI on others lo hi (dE (ll.take k)) (dE lr) ++ pairsF lo hi (x.t, x.r) (dE (pre ++ [y])) <+: pairsI on others lo hi (dE (ll.take (k + 1))) (dE lr) := by
    rw [take_snoc' hx, dE_snoc (ll.take k) x, pairsI_snoc, pairs_part (x := (x.t, x.r)) ho hr hn, List.prefix_append_right_inj]
    exact pairsF_pre _ _ _ (dE_pre hp)
  exact h1.trans (pairsI_pre _ _ _ _ _ (dE_pre (List.take_prefix _ _)))
/-- What lies in memory between two rounds: box ob holds what was joined so far. -/
structure OutE (B ob : Nat) (cs : List Te) (W : World) : Prop where
  ow : ∃ (v : Value) (l : List Ev), Boxed W ob 25 v ∧ W.ownsRow (ob + 1) 36 2 v l.length (l.flatMap encEv) ∧ dE l = cs ∧ RowsE W B l
theorem OutE.below {B ob : Nat} {cs : List Te} {W W' : World} (h : OutE B ob cs W) (hb : Below W.heap.size W W') : OutE B ob cs W' := by
  obtain ⟨v, l, h1, h2, h3, h4⟩ := h.ow
  exact ⟨v, l, (hb.block _ h1.lt).trans h1, own_below h2 hb, h3, h4.below hb⟩
theorem OutE.others {B ob C : Nat} (hC : B ≤ C) {cs : List Te} {X Y : World} {row : Option Nat} (h : OutE B ob cs X) (hg : X.grownBy Y row) (hr : ∀ r, row = some r → C ≤ r ∧ ∃ o : Obj, X.heap[r]? = some o ∧ o.isCells = false) : OutE B ob cs Y := by
  obtain ⟨v, l, h1, h2, h3, h4⟩ := h.ow
  have hr2 : ∀ k, row = some k → ∃ o : Obj, X.heap[k]? = some o ∧ o.isCells = false := fun k e => (hr k e).2
  refine ⟨v, l, blk_own h1 hg hr2, h2.kept hg ?_, h3, fun i hi => (h4 i hi).others hg fun k e => ⟨Nat.le_trans hC (hr k e).1, (hr k e).2⟩⟩
  cases hv : v.ownBlock with
  | none => exact .inl rfl
  | some b =>
    refine .inr fun e => ?_
    obtain ⟨c, fz, hc⟩ := own_cells h2 hv
    obtain ⟨o, ho, hcc⟩ := hr2 b e.symm
    rw [hc] at ho
    cases ho; cases hcc
theorem Marks.up {M N : Nat} {ds : List Deferred} {X Y : World} (h : Marks M N ds X) (hb : Below X.heap.size X Y) : Marks M N ds Y :=
  h.kept fun k o hk ho _ => by rw [← ho]; exact hb.block k (Array.getElem?_eq_some_iff.1 ho).1
theorem Reads.left {M : Nat} {w w' : World} {s n : Nat} {A : Option Addr} {xs : List Value} (hl : Left M w w') (h : Reads w w.heap.size s A n xs) : Reads w' w'.heap.size s A n xs := h.keepCells hl.cells (by rw [hl.size]; exact Nat.le_refl _)
theorem RowsE.left {M B : Nat} {w w' : World} {l : List Ev} (hl : Left M w w') (h : RowsE w B l) (hB : B ≤ w.heap.size) : RowsE w' w'.heap.size l := fun i hi => (h i hi).keepCells hl.cells (by rw [hl.size]; exact Nat.le_refl _) (by rw [hl.size]; exact hB)
theorem off_own {w : World} {base B : Nat} {e : TypeId} {size k : Nat} {v : Value} {xs : List Value} (h : w.ownsRow base e size v k xs) (he : e ≠ 102) (hB : B ≤ base) : ∀ g, g ∈ obl v → B ≤ g ∧ ∀ c fz, w.heap[g]? ≠ some (.cells c 102 fz) := by
  intro g hg
  unfold obl at hg
  cases hv : v.ownBlock with
  | none => rw [hv] at hg; simp at hg
  | some b =>
    rw [hv] at hg
    obtain rfl : g = b := by simpa using hg
    refine ⟨Nat.le_trans hB (h.lt g hv).1, fun c fz hc => ?_⟩
    obtain ⟨c', fz', h'⟩ := own_cells h hv
    rw [h'] at hc
    injection hc with hc
    injection hc with _ h2
    exact he h2
theorem RowsE.bar {w w' : World} {base B : Nat} {e : TypeId} {size k : Nat} {v : Value} {xs : List Value} {l : List Ev} (h : RowsE w B l) (ho : w.ownsRow base e size v k xs) (he : e ≠ 102) (hB : B ≤ base) (hb : Bar w.heap.size (obl v) w w') : RowsE w' B l := fun i hi =>
  (h i hi).keep (p := fun k => k ∈ obl v) (fun k hk hp => hb.block k hk hp) hb.size fun k hk => off_own ho he hB k hk
end Go.Proofs.YtoapjidpfghnlaaGreatDoor
