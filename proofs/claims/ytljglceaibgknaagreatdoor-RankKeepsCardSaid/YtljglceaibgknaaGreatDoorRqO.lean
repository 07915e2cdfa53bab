/-
  A bag stays as it is when a cell of a ranker that holds a slice is written: no item lies there. No condition.
-/
import Derived.Test.YtljglceaibgknaaGreatDoorRqN
namespace Go.Proofs.YtljglceaibgknaaGreatDoor
open Go.RowKit
set_option linter.unusedVariables false
set_option linter.unusedSimpArgs false

theorem encIt_next {l : List It} : ∀ {j : Nat} {A : Option Addr} {n c : Nat}, (l.flatMap encIt)[j]? = some (.slice A n c) → ∃ k m, (l.flatMap encIt)[j + 1]? = some (.int k m) := by
  induction l with
  | nil => intro j A n c h; cases h
  | cons x l ih =>
    intro j A n c h
    rw [List.flatMap_cons] at h ⊢
    match j with
    | 0 => exact ⟨.i64, x.m, rfl⟩
    | 1 =>
      have : some (Value.int .i64 x.m) = some (.slice A n c) := h
      cases this
    | j + 2 =>
      have h' : (l.flatMap encIt)[j]? = some (.slice A n c) := h
      exact ih h'
theorem BagR.off {w : World} {B : Nat} {A : Option Addr} {n : Nat} {l : List It} (h : BagR w B A n l) {b o : Nat} {A0 : Option Addr} {n0 c0 : Nat} (h5 : w.cell? ⟨b, o, none⟩ = some (.slice A0 n0 c0)) (h6 : ∀ k m, w.cell? ⟨b, o + 1, none⟩ ≠ some (.int k m)) (v : Value) : BagR (w.setCell ⟨b, o, none⟩ v) B A n l := by
  have hz : (w.setCell ⟨b, o, none⟩ v).heap.size = w.heap.size := by simp [World.setCell]
  refine ⟨⟨h.rd.1, fun hn => ?_⟩, fun i hi => ⟨?_, ?_, (h.rows i hi).le⟩, h.le⟩
  · obtain ⟨b', off, e, hb, hc⟩ := h.rd.2 hn
    refine ⟨b', off, e, by rw [hz]; exact hb, fun j u hj => ?_⟩
    refine (World.cell?_setCell_other w _ _ v (fun e => ?_)).trans (hc j u hj)
    injection e with e1 e2
    subst e1
    have h1 := hc j u hj
    rw [← e2, h5] at h1
    injection h1 with h1
    subst h1
    obtain ⟨k, m, hk⟩ := encIt_next hj
    have h2 := hc (j + 1) _ hk
    rw [← Nat.add_assoc, ← e2] at h2
    exact h6 k m h2
  · rw [hz]
    refine (h.rows i hi).rd.off (fun u hu => ?_) v
    obtain ⟨y, _, hy⟩ := List.mem_flatMap.1 hu
    rw [h5]
    unfold encV at hy
    simp only [List.mem_cons, List.not_mem_nil, or_false] at hy
    rcases hy with rfl | rfl | rfl <;> exact fun h => by cases h
  · intro h0 b' off m e
    rcases (h.rows i hi).at_ h0 b' off m e with h1 | ⟨c, fz, h1⟩
    · exact .inl h1
    · right
      by_cases hb : b = b'
      · subst hb
        exact ⟨_, fz, by simp [World.setCell, Array.getElem?_modify, h1]; rfl⟩
      · exact ⟨c, fz, (Below.heap_setCell w ⟨b, o, none⟩ v b' (fun e => hb e.symm)).trans h1⟩
theorem RkB.lt {w : World} {b : Nat} {k : Sk} {s : Stp} {width : Int} {A A' : Option Addr} {n c n' c' : Nat} {l l' : List It} (h : RkB w b k s width A n c l A' n' c' l') : b < w.heap.size := h.blk.lt
theorem RkB.box {w : World} {b : Nat} {k : Sk} {s : Stp} {width : Int} {A A' : Option Addr} {n c n' c' : Nat} {l l' : List It} (h : RkB w b k s width A n c l A' n' c' l') : BoxS w b k s := ⟨h.blk.cell 0, h.blk.cell 1, h.blk.cell 2, h.blk.cell 3⟩
theorem RkB.up {w w' : World} {b : Nat} {k : Sk} {s : Stp} {width : Int} {A A' : Option Addr} {n c n' c' : Nat} {l l' : List It} (h : RkB w b k s width A n c l A' n' c' l') (hb : Below w.heap.size w w') : RkB w' b k s width A n c l A' n' c' l' :=
  ⟨h.blk.below hb h.lt, h.set.keep fun _ hp => hb.cell (Nat.lt_trans hp h.lt), h.kc, h.kc', (h.all.below hb).mono hb.size, (h.now.below hb).mono hb.size, h.nc, h.nc'⟩
/-- All rows behind a change. -/
theorem RkB.set5 {w : World} {b : Nat} {k : Sk} {s : Stp} {width : Int} {A A' : Option Addr} {n c n' c' : Nat} {l l' : List It} (h : RkB w b k s width A n c l A' n' c' l') {A2 : Option Addr} {n2 c2 : Nat} {l2 : List It} (h2 : BagR w w.heap.size A2 n2 l2) (hc : n2 ≤ c2) :
    RkB (w.setCell ⟨b, 5, none⟩ (.slice A2 n2 c2)) b k s width A2 n2 c2 l2 A' n' c' l' := by
  have hz : (w.setCell ⟨b, 5, none⟩ (.slice A2 n2 c2)).heap.size = w.heap.size := by simp [World.setCell]
  have c5 : w.cell? ⟨b, 5, none⟩ = some (.slice A n c) := h.blk.cell 5
  have c6 : ∀ k m, w.cell? ⟨b, 5 + 1, none⟩ ≠ some (.int k m) := fun k m e => by
    have h6 : w.cell? ⟨b, 6, none⟩ = some (.slice A' n' c') := h.blk.cell 6
    rw [h6] at e
    cases e
  refine ⟨h.blk.set_ 5 _, ⟨h.set.p.setCell (Nat.le_refl _) _, h.set.b.setCell (Nat.le_refl _) _, h.set.np, h.set.nb⟩, h.kc, h.kc', ?_, ?_, hc, h.nc'⟩
  · rw [hz]; exact h2.off c5 c6 _
  · rw [hz]; exact h.now.off c5 c6 _
/-- The first places behind a change. -/
theorem RkB.set6 {w : World} {b : Nat} {k : Sk} {s : Stp} {width : Int} {A A' : Option Addr} {n c n' c' : Nat} {l l' : List It} (h : RkB w b k s width A n c l A' n' c' l') {A2 : Option Addr} {n2 c2 : Nat} {l2 : List It} (h2 : BagR w w.heap.size A2 n2 l2) (hc : n2 ≤ c2) :
    RkB (w.setCell ⟨b, 6, none⟩ (.slice A2 n2 c2)) b k s width A n c l A2 n2 c2 l2 := by
  have hz : (w.setCell ⟨b, 6, none⟩ (.slice A2 n2 c2)).heap.size = w.heap.size := by simp [World.setCell]
  have c5 : w.cell? ⟨b, 6, none⟩ = some (.slice A' n' c') := h.blk.cell 6
  have c6 : ∀ k m, w.cell? ⟨b, 6 + 1, none⟩ ≠ some (.int k m) := fun k m e => by
    have h6 : w.cell? ⟨b, 7, none⟩ = none := h.blk.cell 7
    rw [show 6 + 1 = 7 from rfl, h6] at e
    cases e
  refine ⟨h.blk.set_ 6 _, ⟨h.set.p.setCell (Nat.le_refl _) _, h.set.b.setCell (Nat.le_refl _) _, h.set.np, h.set.nb⟩, h.kc, h.kc', ?_, ?_, h.nc, hc⟩
  · rw [hz]; exact h.all.off c5 c6 _
  · rw [hz]; exact h2.off c5 c6 _
end Go.Proofs.YtljglceaibgknaaGreatDoor
