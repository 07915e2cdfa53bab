/-
  'Turn X w w'': w' is w but for new blocks and for slices that were written in blocks of the list X, where no item and no change lies. What reads as rows, bags, changes or numbers reads so behind it. No condition.
-/
import Derived.Test.YtljglceaibgknaaGreatDoorBgP1
import Derived.Test.YtljglceaibgknaaGreatDoorBgL
import Derived.Test.YtljglceaibgknaaGreatDoorBgS1
namespace Go.Proofs.YtljglceaibgknaaGreatDoor
open Go.RowKit
set_option linter.unusedVariables false
set_option linter.unusedSimpArgs false

theorem bar_mono {N N' : Nat} {X : List Nat} {a w : World} (h : Bar N X a w) (hN : N' ≤ N) : Bar N' X a w := ⟨h.os, h.tape, h.output, h.size, fun k hk hx => h.block k (by omega) hx⟩
theorem bar_more {N : Nat} {X X' : List Nat} {a w : World} (h : Bar N X a w) (hX : ∀ x ∈ X, x ∈ X') : Bar N X' a w := ⟨h.os, h.tape, h.output, h.size, fun k hk hx => h.block k hk fun hm => hx (hX k hm)⟩
def NoSl (u : Value) : Prop := ∀ A n c, u ≠ .slice A n c
structure Turn (X : List Nat) (w w' : World) : Prop where
  bar : Bar w.heap.size X w w'
  keep : ∀ p u, w.cell? p = some u → NoSl u → w'.cell? p = some u
  item : ∀ b o A n c k m, w.cell? ⟨b, o, none⟩ = some (.slice A n c) → w.cell? ⟨b, o + 1, none⟩ = some (.int k m) → w'.cell? ⟨b, o, none⟩ = some (.slice A n c)
  typ : ∀ (b : Nat) (c : Array Value) (t : TypeId) (fz : Nat × Nat), w.heap[b]? = some (.cells c t fz) → ∃ c', w'.heap[b]? = some (.cells c' t fz)
  tab : Tab w → Tab w'
section
variable {X X' : List Nat} {w w' w'' : World}
theorem Turn.of_below (h : Below w.heap.size w w') : Turn X w w' :=
  ⟨Bar.of_below h X, fun p u hu _ => (h.cell (World.block_lt_of_cell? _ _ hu)).trans hu, fun b o A n c k m hs _ => (h.cell (p := ⟨b, o, none⟩) (World.block_lt_of_cell? _ _ hs)).trans hs,
    fun b c t fz hb => ⟨c, (h.block b (Array.getElem?_eq_some_iff.1 hb).1).trans hb⟩, fun ht => ht.below h⟩
theorem Turn.refl (X : List Nat) (w : World) : Turn X w w := Turn.of_below (Below.refl _ _)
theorem Turn.size (h : Turn X w w') : w.heap.size ≤ w'.heap.size := h.bar.size
theorem Turn.trans (h : Turn X w w') (k : Turn X w' w'') : Turn X w w'' :=
  ⟨h.bar.trans (bar_mono k.bar h.size), fun p u hu hn => k.keep p u (h.keep p u hu hn) hn,
    fun b o A n c k' m hs hi => k.item b o A n c k' m (h.item b o A n c k' m hs hi) (h.keep _ _ hi nofun),
    fun b c t fz hb => (h.typ b c t fz hb).elim fun c' h' => k.typ b c' t fz h', fun ht => k.tab (h.tab ht)⟩
theorem Turn.more (h : Turn X w w') (hX : ∀ x ∈ X, x ∈ X') : Turn X' w w' := ⟨bar_more h.bar hX, h.keep, h.item, h.typ, h.tab⟩
theorem Turn.below (h : Turn X w w') (k : Below w'.heap.size w' w'') : Turn X w w'' := h.trans (Turn.of_below k)
/-- A slice is written where neither an item nor a change lies. -/
theorem Turn.spot {b o : Nat} {A0 : Option Addr} {n0 c0 : Nat} (h5 : w.cell? ⟨b, o, none⟩ = some (.slice A0 n0 c0)) (h6 : ∀ k m, w.cell? ⟨b, o + 1, none⟩ ≠ some (.int k m)) (v : Value) : Turn [b] w (w.setCell ⟨b, o, none⟩ v) := by
  have hz : (w.setCell ⟨b, o, none⟩ v).heap.size = w.heap.size := by simp [World.setCell]
  refine ⟨(Bar.refl _ _ w).setCell (.inr (by simp)) v, fun p u hu hn => ?_, fun b' o' A n c k m hs hi => ?_, fun b' c t fz hb => ?_, fun ht => ?_⟩
  · refine (World.cell?_setCell_other w _ _ v (fun e => ?_)).trans hu
    rw [← e, h5] at hu
    injection hu with hu
    exact hn _ _ _ hu.symm
  · refine (World.cell?_setCell_other w _ _ v (fun e => ?_)).trans hs
    injection e with e1 e2
    subst e1 e2
    exact h6 k m hi
  · by_cases e : b = b'
    · subst e
      exact ⟨_, by simp [World.setCell, Array.getElem?_modify, hb]; rfl⟩
    · exact ⟨c, (Below.heap_setCell w ⟨b, o, none⟩ v b' (fun h => e h.symm)).trans hb⟩
  · unfold Tab Lib.TabIs World.var? at *
    cases hg : Tryz.prog.globalNamed "internal/strconv.uint64pow10" with
    | none => simp [hg] at ht
    | some g =>
      simp only [hg, Option.bind_some] at ht ⊢
      have hne : g ≠ b := by
        rintro rfl
        cases hh : w.heap[g]? with
        | none => rw [hh] at ht; cases ht
        | some ob =>
          rw [hh] at ht
          cases ob with
          | cells cs t fz =>
            injection ht with ht
            have hc : w.cell? ⟨g, o, none⟩ = cs[o]? := cell_of_row w g o cs t fz hh
            rw [hc, ht] at h5
            simp at h5
          | _ => cases ht
      rw [Below.heap_setCell w ⟨b, o, none⟩ v g hne]
      exact ht
theorem Reads.turn {size n : Nat} {A : Option Addr} {xs : List Value} (h : Reads w w.heap.size size A n xs) (hx : ∀ u ∈ xs, NoSl u) (ht : Turn X w w') : Reads w' w'.heap.size size A n xs :=
  ⟨h.1, fun hn => by
    obtain ⟨b, off, e, hb, hc⟩ := h.2 hn
    exact ⟨b, off, e, Nat.lt_of_lt_of_le hb ht.size, fun j u hj => ht.keep _ _ (hc j u hj) (hx u (List.mem_of_getElem? hj))⟩⟩
theorem RowK.turn {A : Option Addr} {n : Nat} {r : Rw} (h : RowK w w.heap.size A n r) (ht : Turn X w w') : RowK w' w'.heap.size A n r :=
  ⟨h.rd.turn (fun u hu => by
    obtain ⟨y, _, hy⟩ := List.mem_flatMap.1 hu
    unfold encV at hy
    simp only [List.mem_cons, List.not_mem_nil, or_false] at hy
    rcases hy with rfl | rfl | rfl <;> exact nofun) ht, fun h0 b off m e => by
      rcases h.at_ h0 b off m e with h1 | ⟨c, fz, h1⟩
      · exact .inl (Nat.lt_of_lt_of_le h1 ht.size)
      · obtain ⟨c', h2⟩ := ht.typ _ _ _ _ h1
        exact .inr ⟨c', fz, h2⟩, h.le⟩
theorem nextIt {l : List It} : ∀ {j : Nat} {A : Option Addr} {n c : Nat}, (l.flatMap encIt)[j]? = some (.slice A n c) → ∃ k m, (l.flatMap encIt)[j + 1]? = some (.int k m) := by
  induction l with
  | nil => intro j A n c h; cases h
  | cons x l ih =>
    intro j A n c h
    rw [List.flatMap_cons] at h ⊢
    match j with
    | 0 => exact ⟨.i64, x.m, rfl⟩
    | 1 =>
      have : some (Value.int .i64 x.m) = some (.slice A n c) := h
      cases this
    | j + 2 =>
      have h' : (l.flatMap encIt)[j]? = some (.slice A n c) := h
      exact ih h'
theorem nextCh {l : List Ch} : ∀ {j : Nat} {A : Option Addr} {n c : Nat}, (l.flatMap encCh)[j]? = some (.slice A n c) → ∃ k m, (l.flatMap encCh)[j + 1]? = some (.int k m) := by
  induction l with
  | nil => intro j A n c h; cases h
  | cons x l ih =>
    intro j A n c h
    rw [List.flatMap_cons] at h ⊢
    match j with
    | 0 =>
      have : some (Value.int .i64 x.t) = some (.slice A n c) := h
      cases this
    | 1 => exact ⟨.i64, x.m, rfl⟩
    | 2 =>
      have : some (Value.int .i64 x.m) = some (.slice A n c) := h
      cases this
    | j + 3 =>
      have h' : (l.flatMap encCh)[j]? = some (.slice A n c) := h
      exact ih h'
/-- A list in which each slice has a number behind it. -/
theorem Reads.turnI {size n : Nat} {A : Option Addr} {xs : List Value} (h : Reads w w.heap.size size A n xs) (hx : ∀ j A n c, xs[j]? = some (.slice A n c) → ∃ k m, xs[j + 1]? = some (.int k m)) (ht : Turn X w w') : Reads w' w'.heap.size size A n xs :=
  ⟨h.1, fun hn => by
    obtain ⟨b, off, e, hb, hc⟩ := h.2 hn
    refine ⟨b, off, e, Nat.lt_of_lt_of_le hb ht.size, fun j u hj => ?_⟩
    by_cases hu : NoSl u
    · exact ht.keep _ _ (hc j u hj) hu
    · have : ∃ A n c, u = .slice A n c := by
        cases u with
        | slice A n c => exact ⟨A, n, c, rfl⟩
        | _ => exact absurd (fun _ _ _ h => by cases h) hu
      obtain ⟨A', n', c', rfl⟩ := this
      obtain ⟨k, m, hk⟩ := hx j A' n' c' hj
      exact ht.item _ _ _ _ _ k m (hc j _ hj) (by have := hc (j + 1) _ hk; rwa [← Nat.add_assoc] at this)⟩
theorem BagR.turn {A : Option Addr} {n : Nat} {l : List It} (h : BagR w w.heap.size A n l) (ht : Turn X w w') : BagR w' w'.heap.size A n l :=
  ⟨h.rd.turnI (fun j A n c hj => nextIt hj) ht, fun i hi => (h.rows i hi).turn ht, h.le⟩
theorem ChgR.turn {A : Option Addr} {n : Nat} {l : List Ch} (h : ChgR w w.heap.size A n l) (ht : Turn X w w') : ChgR w' w'.heap.size A n l :=
  ⟨h.rd.turnI (fun j A n c hj => nextCh hj) ht, fun i hi => (h.rows i hi).turn ht, h.le⟩
theorem Blk.turn {g : Nat} {t : TypeId} {cs : Array Value} (h : Blk w g t cs) (ht : Turn X w w') (hg : g ∉ X) : Blk w' g t cs := (ht.bar.block g h.lt hg).trans h
end
end Go.Proofs.YtljglceaibgknaaGreatDoor
