/-
  Lists of rows in memory.
-/
import Derived.Test.YtljglceaibgknaaGreatDoorBgL
namespace Go.Proofs.YtljglceaibgknaaGreatDoor
open Go.RowKit

structure Rk where
  A : Option Addr
  n : Nat
  c : Nat
  r : Rw
def encRk (i : Rk) : List Value := [.slice i.A i.n i.c]
theorem encRk_len (i : Rk) : (encRk i).length = 1 := rfl
theorem infoRk : (Tryz.prog.info? 42).map (fun i => (i.zero, i.size, i.bytes)) = some (some (.slice none 0 0), 1, 24) := by kernel_rfl
/-- The rows of a list. -/
def rwD (l : List Rk) : List Rw := l.map (·.r)
theorem rwD_snoc (l : List Rk) (i : Rk) : rwD (l ++ [i]) = rwD l ++ [i.r] := by simp [rwD]
theorem rwD_len (l : List Rk) : (rwD l).length = l.length := by simp [rwD]
theorem rwD_at {l : List Rk} {k : Nat} {i : Rk} (h : l[k]? = some i) : (rwD l)[k]? = some i.r := by unfold rwD; rw [List.getElem?_map, h]; rfl
def RowsK (w : World) (B : Nat) (l : List Rk) : Prop := ∀ i ∈ l, RowK w B i.A i.n i.r
structure RowL (w : World) (B : Nat) (A : Option Addr) (n : Nat) (l : List Rk) : Prop where
  rd : Reads w w.heap.size 1 A n (l.flatMap encRk)
  rows : RowsK w B l
  le : n ≤ 9223372036854775807
section
variable {w w' : World} {B B' : Nat} {A : Option Addr} {n : Nat} {l : List Rk}
theorem RowL.len (h : RowL w B A n l) : l.length = n := h.rd.len encRk_len (by omega)
theorem RowL.below (h : RowL w B A n l) (hb : Below w.heap.size w w') : RowL w' B A n l := ⟨h.rd.up hb, fun i hi => (h.rows i hi).below hb, h.le⟩
theorem RowL.mono (h : RowL w B A n l) (hB : B ≤ B') : RowL w B' A n l := ⟨h.rd, fun i hi => (h.rows i hi).mono hB, h.le⟩
theorem RowL.step {w w' : World} {A : Option Addr} {n : Nat} {l : List Rk} (h : RowL w w.heap.size A n l) (hb : Below w.heap.size w w') : RowL w' w'.heap.size A n l := (h.below hb).mono hb.size
theorem RowL.nil (w : World) (B : Nat) : RowL w B none 0 [] := ⟨Reads.none_, nofun, by omega⟩
theorem RowL.at_ (h : RowL w B A n l) {k : Nat} (hk : k < n) : ∃ b off i, A = some ⟨b, off, none⟩ ∧ b < w.heap.size ∧ l[k]? = some i ∧ w.cell? ⟨b, off + k, none⟩ = some (.slice i.A i.n i.c) ∧ RowK w B i.A i.n i.r := by
  obtain ⟨b, off, i, e, hb, hi, hc⟩ := h.rd.elem encRk_len h.len hk
  exact ⟨b, off, i, e, hb, hi, by simpa using hc 0 _ rfl, h.rows i (List.mem_of_getElem? hi)⟩
end
/-- Rows put together so far. -/
structure RwlI (w : World) (d : List Rw) (v : Value) (W : World) : Prop where
  bel : Below w.heap.size w W
  ow : ∃ l : List Rk, W.ownsRow w.heap.size 42 1 v l.length (l.flatMap encRk) ∧ rwD l = d ∧ RowsK W w.heap.size l
theorem RwlI.nil (w : World) : RwlI w [] (.slice none 0 0) w := ⟨Below.refl _ _, [], World.ownsRow_nil _ _ _ _, rfl, nofun⟩
theorem RwlI.below {w W W' : World} {d : List Rw} {v : Value} (h : RwlI w d v W) (hb : Below W.heap.size W W') : RwlI w d v W' := by
  obtain ⟨h1, l, h2, h3, h5⟩ := h
  exact ⟨bstep h1 hb, l, own_below h2 hb, h3, fun i hi => (h5 i hi).below hb⟩
theorem rwli_app {w X2 X3 : World} {d : List Rw} {v v' : Value} {l : List Rk} {Ac : Option Addr} {n cc : Nat} {r : Rw} (hB : Below w.heap.size w X2) (h1 : X2.ownsRow w.heap.size 42 1 v l.length (l.flatMap encRk)) (h2 : rwD l = d) (h3 : RowsK X2 w.heap.size l)
    (hrow : RowK X2 w.heap.size Ac n r) (hown : X3.ownsRow w.heap.size 42 1 v' (l.length + 1) (l.flatMap encRk ++ [.slice Ac n cc])) (hgrow : (X2.alloc (.cells #[.slice Ac n cc] 42)).grownBy X3 v.ownBlock) : RwlI w (d ++ [r]) v' X3 := by
  have hs := hB.size
  refine ⟨below_append (hB.alloc hs _) (h1.alloc _) (by simp; omega) hgrow, l ++ [⟨Ac, n, cc, r⟩], ?_, by rw [rwD_snoc, h2], fun i hi => ?_⟩
  · rw [List.length_append, List.flatMap_append]
    simpa [encRk] using hown
  · have key : RowK X2 w.heap.size i.A i.n i.r := by
      rcases List.mem_append.1 hi with h | h
      · exact h3 i h
      · obtain rfl : i = ⟨Ac, n, cc, r⟩ := by simpa using h
        exact hrow
    exact (key.alloc _).grown (h1.alloc _) (by decide) (Nat.le_refl _) hgrow
theorem rwli_end {w W : World} {d : List Rw} {v : Value} (h : RwlI w d v W) (hd : d.length ≤ 100000) : ∃ A n c l, v = .slice A n c ∧ rwD l = d ∧ RowL W W.heap.size A n l ∧ Below w.heap.size w W := by
  obtain ⟨h1, l, h2, h3, h5⟩ := h
  have hl : l.length = d.length := by rw [← h3, rwD_len]
  obtain ⟨A, c, rfl, _⟩ := own_form h2
  exact ⟨A, _, c, l, rfl, h3, ⟨Reads.of_own h2, fun i hi => (h5 i hi).mono h1.size, by omega⟩, h1⟩
/-- One element, as an append reads it. -/
theorem one_reads (w : World) (t : TypeId) (cs : List Value) (k : Nat) (hk : cs.length = k) : Reads (w.alloc (.cells cs.toArray t)) (w.heap.size + 1) k (some ⟨w.heap.size, 0, none⟩) 1 cs :=
  ⟨by omega, fun _ => ⟨w.heap.size, 0, rfl, by omega, fun j u hu => by
    have := (Blk.new w t cs.toArray).cell j
    rw [Nat.zero_add, this]; simpa using hu⟩⟩
end Go.Proofs.YtljglceaibgknaaGreatDoor
