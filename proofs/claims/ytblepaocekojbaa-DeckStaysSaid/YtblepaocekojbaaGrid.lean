/-
  A slice of slices that the call itself makes, whose rows grow by append: Grid. Plain memory; no program.
-/
import Derived.Test.YtblepaocekojbaaMem
import Derived.Deep.OwnRows
namespace Go.Proofs.Ytblepaocekojbaa
open Go.RowKit Go.Deep

theorem own_block {w w' : World} {base : Nat} {e : TypeId} {size n : Nat} {v : Value} {xs : List Value} (h : w.ownsRow base e size v n xs) (hk : ∀ g, v.ownBlock = some g → w'.heap[g]? = w.heap[g]?) : w'.ownsRow base e size v n xs := by
  refine ⟨h.1, ?_⟩
  rcases h.2 with h1 | ⟨g, cap, cur, rfl, h2, h3, h4⟩
  · exact .inl h1
  · exact .inr ⟨g, cap, cur, rfl, h2, (hk g rfl).trans h3, h4⟩

/-- Block b holds N slices 'V p', each owning a row of 'L p' elements with the cells 'G p'; no two lie in one block, none in b. -/
structure Grid (w : World) (base b : Nat) (te e : TypeId) (sz N : Nat) (V : Nat → Value) (L : Nat → Nat) (G : Nat → List Value) : Prop where
  low : base ≤ b
  top : w.rowIs b te N V
  row : ∀ p, p < N → w.ownsRow base e sz (V p) (L p) (G p)
  away : ∀ p, p < N → (V p).ownBlock ≠ some b
  apart : ∀ p q, p < N → q < N → p ≠ q → (V p).ownBlock = none ∨ (V p).ownBlock ≠ (V q).ownBlock

section
variable {w w' : World} {base b sz N : Nat} {te e : TypeId} {V V' : Nat → Value} {L L' : Nat → Nat} {G G' : Nat → List Value}

theorem Grid.cell (h : Grid w base b te e sz N V L G) {p : Nat} (hp : p < N) : w.cell? ⟨b, p, none⟩ = some (V p) := h.top.cell hp
theorem Grid.frozen (h : Grid w base b te e sz N V L G) (p : Nat) : w.frozen? ⟨b, p, none⟩ = false := h.top.frozen p
theorem Grid.drewN (h : Grid w base b te e sz N V L G) (n : Nat) : Grid (w.drewN n) base b te e sz N V L G := ⟨h.low, h.top, h.row, h.away, h.apart⟩
theorem Grid.drew (h : Grid w base b te e sz N V L G) : Grid w.drew base b te e sz N V L G := ⟨h.low, h.top, h.row, h.away, h.apart⟩
theorem Grid.lt (h : Grid w base b te e sz N V L G) : b < w.heap.size := h.top.lt
theorem Grid.made (w : World) (te e : TypeId) (sz N : Nat) (hb : base ≤ w.heap.size) :
    Grid (w.alloc (.cells (madeCells #[.slice none 0 0] N) te)) base w.heap.size te e sz N (fun _ => .slice none 0 0) (fun _ => 0) (fun _ => []) :=
  ⟨hb, World.rowIs_made w _ N te, fun _ _ => World.ownsRow_nil _ _ _ _, fun _ _ => by simp [Value.ownBlock], fun _ _ _ _ _ => .inl rfl⟩
/-- A world that keeps all blocks that were there. -/
theorem Grid.kept (h : Grid w base b te e sz N V L G) (hk : ∀ g, g < w.heap.size → w'.heap[g]? = w.heap[g]?) : Grid w' base b te e sz N V L G :=
  ⟨h.low, h.top.of_block (hk _ h.lt), fun p hp => own_block (h.row p hp) fun g hg => hk g ((h.row p hp).lt g hg).2, h.away, h.apart⟩
theorem Grid.alloc (h : Grid w base b te e sz N V L G) (o : Obj) : Grid (w.alloc o) base b te e sz N V L G := h.kept fun _ hg => blk_alloc_lt _ _ _ hg
theorem Grid.below (h : Grid w base b te e sz N V L G) (hb : Below w.heap.size w w') : Grid w' base b te e sz N V L G := h.kept fun g hg => hb.block g hg
theorem Grid.congr (h : Grid w base b te e sz N V L G) (hL : ∀ p, p < N → L p = L' p) (hG : ∀ p, p < N → G p = G' p) : Grid w base b te e sz N V L' G' :=
  ⟨h.low, h.top, fun p hp => by rw [← hL p hp, ← hG p hp]; exact h.row p hp, h.away, h.apart⟩

/-- Row p grows: an append to it, and the store of what comes back. -/
theorem Grid.step (h : Grid w base b te e sz N V L G) {p m : Nat} {news : List Value} {v' : Value} (hp : p < N) (hown : w'.ownsRow base e sz v' (L p + m) (G p ++ news)) (hg : w.grownBy w' (V p).ownBlock)
    (hat : v'.ownBlock = (V p).ownBlock ∨ v'.ownBlock = some w.heap.size) :
    Grid (w'.setCell ⟨b, p, none⟩ v') base b te e sz N (fun j => if j = p then v' else V j) (fun j => if j = p then L j + m else L j) (fun j => if j = p then G j ++ news else G j) := by
  have hbl := h.lt
  have hb : w'.heap[b]? = w.heap[b]? := hg.block b hbl (fun e => h.away p hp e.symm)
  have hvb : v'.ownBlock ≠ some b := by
    rcases hat with e | e
    · rw [e]; exact h.away p hp
    · rw [e]; intro e'; injection e' with e'; omega
  have keep : ∀ q, q < N → q ≠ p → ∀ g, (V q).ownBlock = some g → (w'.setCell ⟨b, p, none⟩ v').heap[g]? = w.heap[g]? := by
    intro q hq hne g hgq
    have h1 : g ≠ b := fun e => h.away q hq (by rw [hgq, e])
    rw [blk_setCell_other _ _ _ _ h1]
    refine hg.block g ((h.row q hq).lt g hgq).2 fun e => ?_
    rcases h.apart q p hq hp hne with h2 | h2
    · rw [hgq] at h2; cases h2
    · exact h2 (by rw [hgq, e])
  have sep : ∀ q, q < N → q ≠ p → (V q).ownBlock = none ∨ (V q).ownBlock ≠ v'.ownBlock := by
    intro q hq hne
    rcases hat with e | e
    · rw [e]; exact h.apart q p hq hp hne
    · cases hv : (V q).ownBlock with
      | none => exact .inl rfl
      | some g => right; rw [e]; intro e'; injection e' with e'; have := ((h.row q hq).lt g hv).2; omega
  refine ⟨h.low, (h.top.of_block hb).set p v', fun q hq => ?_, fun q hq => ?_, fun q r hq hr hne => ?_⟩
  · by_cases e : q = p
    · subst e
      simp only [if_true]
      refine own_block hown fun g hg' => blk_setCell_other _ _ _ _ (fun e' => hvb (by rw [hg']; exact congrArg some e'))
    · simp only [if_neg e]
      exact own_block (h.row q hq) (keep q hq e)
  · by_cases e : q = p
    · subst e; simpa using hvb
    · simpa [if_neg e] using h.away q hq
  · by_cases e : q = p
    · subst e
      have hrq : ¬ r = q := fun h => hne h.symm
      simp only [if_true, if_neg hrq]
      rcases sep r hr (fun h => hne h.symm) with h1 | h1
      · cases hv : v'.ownBlock with
        | none => exact .inl rfl
        | some g => right; rw [h1]; simp
      · exact .inr fun e => h1 e.symm
    · by_cases e2 : r = p
      · subst e2
        simp only [if_true, if_neg e]
        exact sep q hq e
      · simp only [if_neg e, if_neg e2]
        exact h.apart q r hq hr hne

/-- The step keeps what lay below. -/
theorem Grid.step_below (h : Grid w base b te e sz N V L G) {B p : Nat} {a : World} {v' : Value} (hp : p < N) (hg : w.grownBy w' (V p).ownBlock) (hB : Below B a w) (hbase : B ≤ base) :
    Below B a (w'.setCell ⟨b, p, none⟩ v') := by
  have hb := h.low
  have hlt := h.lt
  refine (hB.grown hg (by omega) fun k hk => ?_).setCell (by show B ≤ b; omega) _
  have := ((h.row p hp).lt k hk).1
  omega
end
end Go.Proofs.Ytblepaocekojbaa
