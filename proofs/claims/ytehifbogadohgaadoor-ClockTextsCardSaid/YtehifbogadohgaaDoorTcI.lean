/-
  The walk of the program's Format. No condition but the table of powers of ten.
-/
import Derived.Test.YtehifbogadohgaaDoorTcH
import Derived.Test.YtehifbogadohgaaDoorLib1
namespace Go.Proofs.YtehifbogadohgaaDoor
open Go.RowKit
set_option linter.unusedVariables false
set_option linter.unusedSimpArgs false

/-- A list of words grows by one. -/
theorem wd_app1 (x : List UInt8) {X : World} {N : Nat} {A : Option Addr} {n c : Nat} {ws : List (List UInt8)} (hown : X.ownsRow N 9 1 (.slice A n c) n (ws.map strV)) (hN : N ≤ X.heap.size) (hl : n ≤ 1000000) :
    ∃ A' c' X', (Builtin.append_ #[37, 37] 37 #[.slice A n c, .slice (some ⟨X.heap.size, 0, none⟩) 1 1]).run Tryd.prog (X.alloc (.cells #[.string ⟨x.toArray⟩] 9)) = .ok (.slice A' (n + 1) c') X' ∧
      X'.ownsRow N 9 1 (.slice A' (n + 1) c') (n + 1) ((ws ++ [x]).map strV) ∧ (∀ k, k < X.heap.size → (Value.slice A n c).ownBlock ≠ some k → X'.heap[k]? = X.heap[k]?) ∧ Below N X X' := by
  obtain ⟨i0, hi, hz0, hz1, hz2⟩ := info_partsW infoStrW
  obtain ⟨o, ho⟩ : ∃ o : Obj, (.cells #[.string ⟨x.toArray⟩] 9 : Obj) = o := ⟨_, rfl⟩
  have hs : (X.alloc o).heap.size = X.heap.size + 1 := World.size_alloc _ _
  have kq := Blk.new X 9 #[.string ⟨x.toArray⟩]
  have hba : Below X.heap.size X (X.alloc (.cells #[.string ⟨x.toArray⟩] 9)) := (Below.refl _ _).alloc (Nat.le_refl _) _
  rw [ho] at kq hba ⊢
  have hown1 := own_below hown hba
  have hrd : Reads (X.alloc o) (X.alloc o).heap.size 1 (some ⟨X.heap.size, 0, none⟩) 1 [.string ⟨x.toArray⟩] := ⟨rfl, fun _ => ⟨X.heap.size, 0, rfl, by omega, fun j u hu => by rw [Nat.zero_add, kq.cell j]; simpa using hu⟩⟩
  obtain ⟨v', X', hrun, h2, h3, h4⟩ := run_append_any (P := Tryd.prog) (X.alloc o) N 37 37 9 i0 _ 1 16 Tryd.underlying37 hi hz0 hz1 hz2 rfl (by decide) (.slice A n c) n (ws.map strV) hown1 (X.alloc o).heap.size (some ⟨X.heap.size, 0, none⟩) 1 1 [.string ⟨x.toArray⟩] hrd (by
    intro u hu
    obtain rfl : u = .string ⟨x.toArray⟩ := by simpa using hu
    rfl) (by unfold maxLen; omega) (by omega) (by omega)
  obtain ⟨A', c', rfl, _⟩ := own_form h2
  exact ⟨A', c', X', hrun, by rw [List.map_append]; exact h2, fun k hk hne => (h3.block k (by omega) fun e => hne e.symm).trans (hba.block k hk), below_append (hba.mono hN) hown1 (by omega) h3⟩
/-- Two literals, in either order. -/
theorem two_lit (W : World) (kw : List UInt8) (ns : List Int) (hn : ns.length ≤ 4) :
    ((((W.alloc (.cells #[.string ⟨kw.toArray⟩] 9)).alloc (.cells (ns.map (Value.int .i64)).toArray 3)).drew).ownsRow W.heap.size 9 1 (.slice (some ⟨W.heap.size, 0, none⟩) 1 1) 1 ([kw].map strV) ∧
      Blk (((W.alloc (.cells #[.string ⟨kw.toArray⟩] 9)).alloc (.cells (ns.map (Value.int .i64)).toArray 3)).drew) (W.heap.size + 1) 3 (ns.map (Value.int .i64)).toArray) ∧
    ((((W.alloc (.cells (ns.map (Value.int .i64)).toArray 3)).alloc (.cells #[.string ⟨kw.toArray⟩] 9)).drew).ownsRow W.heap.size 9 1 (.slice (some ⟨W.heap.size + 1, 0, none⟩) 1 1) 1 ([kw].map strV) ∧
      Blk (((W.alloc (.cells (ns.map (Value.int .i64)).toArray 3)).alloc (.cells #[.string ⟨kw.toArray⟩] 9)).drew) W.heap.size 3 (ns.map (Value.int .i64)).toArray) := by
  have hs1 : ∀ O : Obj, (W.alloc O).heap.size = W.heap.size + 1 := fun O => World.size_alloc _ _
  have hB : ∀ (X : World) (O : Obj), Below X.heap.size X (X.alloc O).drew := fun X O => ((Below.refl _ _).alloc (Nat.le_refl _) _).drew
  refine ⟨⟨?_, ?_⟩, ?_, ?_⟩
  · exact own_below (own_lit W 9 1 1 #[.string ⟨kw.toArray⟩] rfl (by unfold maxLen; omega) (Nat.le_refl _)) (hB _ _)
  · have := Blk.new (W.alloc (.cells #[.string ⟨kw.toArray⟩] 9)) 3 (ns.map (Value.int .i64)).toArray
    rw [hs1] at this
    exact this.below (Below.refl _ _).drew this.lt
  · have := own_lit (W.alloc (.cells (ns.map (Value.int .i64)).toArray 3)) 9 1 1 #[.string ⟨kw.toArray⟩] rfl (by unfold maxLen; omega) (base := W.heap.size) (by rw [hs1]; omega)
    rw [hs1] at this
    exact own_below this (Below.refl _ _).drew
  · have := Blk.new W 3 (ns.map (Value.int .i64)).toArray
    exact this.below (hB _ _) this.lt
end Go.Proofs.YtehifbogadohgaaDoor
