/-
  What the program's bag.pairs goes through: items of two bags, row by row; the memory of its iterator.
-/
import Derived.Test.YtiioiajcoiaalaaGreatDoorBgV
import Derived.Test.YtiioiajcoiaalaaGreatDoorRng
namespace Go.Proofs.YtiioiajcoiaalaaGreatDoor
open Go.RowKit

structure Pe where
  A : Option Addr
  n : Nat
  c : Nat
  r : Rw
  m : Int
  k : Int
def encPe (e : Pe) : Array Value := #[.slice e.A e.n e.c, .agg #[.int .i64 e.m, .int .i64 e.k]]
def datP (e : Pe) : Pr2 := (e.r, e.m, e.k)
def leftE (x : It) : Pe := ⟨x.A, x.n, x.c, x.r, x.m, 0⟩
def rightE (y : It) : Pe := ⟨y.A, y.n, y.c, y.r, 0, y.m⟩
def midE (x y : It) : Pe := ⟨y.A, y.n, y.c, y.r, x.m, y.m⟩
def prI : List It → List It → List Pe
  | [], [] => []
  | [], y :: b => rightE y :: prI [] b
  | x :: a, [] => leftE x :: prI a []
  | x :: a, y :: b => if cmpR x.r y.r < 0 then leftE x :: prI a (y :: b) else if 0 < cmpR x.r y.r then rightE y :: prI (x :: a) b else midE x y :: prI a b
termination_by a b => a.length + b.length
theorem prI_dat : ∀ (a b : List It), (prI a b).map datP = prs (dat a) (dat b)
  | [], [] => by rw [prI, dat]; simp [prs]
  | [], y :: b => by
    have h := prI_dat [] b
    rw [prI, List.map_cons, h]
    simp [prs, dat, datP, rightE]
  | x :: a, [] => by
    have h := prI_dat a []
    rw [prI, List.map_cons, h, dat_cons, show dat [] = [] from rfl, prs.eq_2]
    rfl
  | x :: a, y :: b => by
    rw [prI, dat_cons, dat_cons, prs.eq_3]
    by_cases h1 : cmpR x.r y.r < 0
    · rw [if_pos h1, if_pos h1, List.map_cons, prI_dat a (y :: b)]; rfl
    · rw [if_neg h1, if_neg h1]
      by_cases h2 : 0 < cmpR x.r y.r
      · rw [if_pos h2, if_pos h2, List.map_cons, prI_dat (x :: a) b]; rfl
      · rw [if_neg h2, if_neg h2, List.map_cons, prI_dat a b]; rfl
termination_by a b => a.length + b.length
theorem prI_row : ∀ (a b : List It) {w : World} {B : Nat}, Rows_ w B a → Rows_ w B b → ∀ e ∈ prI a b, RowK w B e.A e.n e.r
  | [], [], _, _, _, _, e, he => by rw [prI] at he; cases he
  | [], y :: b, _, _, ha, hb, e, he => by
    rw [prI] at he
    rcases List.mem_cons.1 he with rfl | he
    · exact hb y (by simp)
    · exact prI_row [] b ha (fun i hi => hb i (List.mem_cons_of_mem _ hi)) e he
  | x :: a, [], _, _, ha, hb, e, he => by
    rw [prI] at he
    rcases List.mem_cons.1 he with rfl | he
    · exact ha x (by simp)
    · exact prI_row a [] (fun i hi => ha i (List.mem_cons_of_mem _ hi)) hb e he
  | x :: a, y :: b, _, _, ha, hb, e, he => by
    have ha' : ∀ i ∈ a, _ := fun i hi => ha i (List.mem_cons_of_mem _ hi)
    have hb' : ∀ i ∈ b, _ := fun i hi => hb i (List.mem_cons_of_mem _ hi)
    rw [prI] at he
    split at he
    · rcases List.mem_cons.1 he with rfl | he
      · exact ha x (by simp)
      · exact prI_row a (y :: b) ha' hb e he
    · split at he
      · rcases List.mem_cons.1 he with rfl | he
        · exact hb y (by simp)
        · exact prI_row (x :: a) b ha hb' e he
      · rcases List.mem_cons.1 he with rfl | he
        · exact hb y (by simp)
        · exact prI_row a b ha' hb' e he
termination_by a b => a.length + b.length
theorem prI_len : ∀ (a b : List It), (prI a b).length ≤ a.length + b.length
  | [], [] => by rw [prI]; simp
  | [], y :: b => by rw [prI]; have := prI_len [] b; simp at this ⊢; omega
  | x :: a, [] => by rw [prI]; have := prI_len a []; simp at this ⊢; omega
  | x :: a, y :: b => by
    rw [prI]
    split
    · have := prI_len a (y :: b); simp at this ⊢; omega
    · split
      · have := prI_len (x :: a) b; simp at this ⊢; omega
      · have := prI_len a b; simp at this ⊢; omega
termination_by a b => a.length + b.length

/-- What the iterator does between two rounds. -/
structure WrP (Ba Bb : Nat) (X Y : World) : Prop where
  bar : Bar X.heap.size [Ba, Bb] X Y
  oth : KeepsOthers X Y
theorem Bar.step {N : Nat} {X : List Nat} {a b c : World} (h : Bar N X a b) (k : Bar b.heap.size X b c) (hN : N ≤ b.heap.size) : Bar N X a c := h.trans ⟨k.os, k.tape, k.output, k.size, fun i hi => k.block i (by omega)⟩
/-- The iterator's boxes within a round: what was there is as it was, but for them. -/
structure PW (Ba Bb nb : Nat) (va vb : Value) (cs : Array Value) (X Y : World) : Prop where
  a : Boxed Y Ba 23 va
  b : Boxed Y Bb 23 vb
  n : Blk Y nb 77 cs
  wr : WrP Ba Bb X Y
  la : Ba < X.heap.size
  lb : Bb < X.heap.size
  ln : X.heap.size ≤ nb
  ne : Ba ≠ Bb
section
variable {Ba Bb nb : Nat} {va vb : Value} {cs : Array Value} {X Y Z : World}
theorem PW.start (ha : Boxed X Ba 23 va) (hb : Boxed X Bb 23 vb) (hne : Ba ≠ Bb) (cs : Array Value) : PW Ba Bb X.heap.size va vb cs X (X.alloc (.cells cs 77)) :=
  ⟨ha.alloc _, hb.alloc _, Blk.new X _ _, ⟨(Bar.refl _ _ X).alloc (Nat.le_refl _) _, KeepsOthers.alloc _ _⟩, ha.lt, hb.lt, Nat.le_refl _, hne⟩
theorem PW.below (h : PW Ba Bb nb va vb cs X Y) (hb : Below Y.heap.size Y Z) : PW Ba Bb nb va vb cs X Z :=
  ⟨(hb.block _ h.a.lt).trans h.a, (hb.block _ h.b.lt).trans h.b, h.n.below hb h.n.lt, ⟨h.wr.bar.trans (Bar.of_below (hb.mono h.wr.bar.size) _), h.wr.oth.trans ⟨hb.size, fun k o hk _ => by rw [← hk]; exact hb.block k (Array.getElem?_eq_some_iff.1 hk).1⟩⟩, h.la, h.lb, h.ln, h.ne⟩
theorem PW.drew (h : PW Ba Bb nb va vb cs X Y) : PW Ba Bb nb va vb cs X Y.drew := h.below ((Below.refl _ _).drew)
theorem PW.setN (h : PW Ba Bb nb va vb cs X Y) (i : Nat) (u : Value) : PW Ba Bb nb va vb (cs.setIfInBounds i u) X (Y.setCell ⟨nb, i, none⟩ u) :=
  ⟨Boxed.setOther h.a (by have := h.la; have := h.ln; show Ba ≠ nb; omega) u, Boxed.setOther h.b (by have := h.lb; have := h.ln; show Bb ≠ nb; omega) u, h.n.set_ i u, ⟨h.wr.bar.setCell (.inl h.ln) u, h.wr.oth.trans (KeepsOthers.setCell _ _ _)⟩, h.la, h.lb, h.ln, h.ne⟩
theorem PW.setA (h : PW Ba Bb nb va vb cs X Y) (u : Value) : PW Ba Bb nb u vb cs X (Y.setCell ⟨Ba, 0, none⟩ u) :=
  ⟨h.a.set u, Boxed.setOther h.b (by have := h.ne; show Bb ≠ Ba; omega) u, h.n.far (by have := h.la; have := h.ln; show nb ≠ Ba; omega) u, ⟨h.wr.bar.setCell (.inr (by simp)) u, h.wr.oth.trans (KeepsOthers.setCell _ _ _)⟩, h.la, h.lb, h.ln, h.ne⟩
theorem PW.setB (h : PW Ba Bb nb va vb cs X Y) (u : Value) : PW Ba Bb nb va u cs X (Y.setCell ⟨Bb, 0, none⟩ u) :=
  ⟨Boxed.setOther h.a (by have := h.ne; show Ba ≠ Bb; omega) u, h.b.set u, h.n.far (by have := h.lb; have := h.ln; show nb ≠ Bb; omega) u, ⟨h.wr.bar.setCell (.inr (by simp)) u, h.wr.oth.trans (KeepsOthers.setCell _ _ _)⟩, h.la, h.lb, h.ln, h.ne⟩
end
/-- .. and its boxes are boxes still. -/
structure WrQ (Ba Bb : Nat) (X Y : World) : Prop where
  wr : WrP Ba Bb X Y
  a : ∃ v, Boxed Y Ba 23 v
  b : ∃ v, Boxed Y Bb 23 v
theorem PW.q {Ba Bb nb : Nat} {va vb : Value} {cs : Array Value} {X Y : World} (h : PW Ba Bb nb va vb cs X Y) : WrQ Ba Bb X Y := ⟨h.wr, ⟨_, h.a⟩, ⟨_, h.b⟩⟩
/-- The rest of a slice of items. -/
def tailA (A : Option Addr) (c : Nat) : Option Addr := if c = 1 then A else A.map (·.add 2)
theorem BagR.tail {w : World} {B : Nat} {A : Option Addr} {n c : Nat} {x : It} {l : List It} (h : BagR w B A (n + 1) (x :: l)) (hc : n + 1 ≤ c) : BagR w B (tailA A c) n l := by
  refine ⟨⟨?_, fun h0 => ?_⟩, fun i hi => h.rows i (List.mem_cons_of_mem _ hi), by have := h.le; omega⟩
  · have := h.rd.1
    rw [List.flatMap_cons, List.length_append, encIt_len] at this
    omega
  · obtain ⟨b, off, e, hb, hcl⟩ := h.rd.2 (by omega)
    refine ⟨b, off + 2, by rw [e]; unfold tailA; rw [if_neg (by omega)]; simp [add_plain], hb, fun j u hu => ?_⟩
    have := hcl (j + 2) u (by rw [List.flatMap_cons]; exact (List.getElem?_append_right (by simp [encIt_len])).trans (by simpa [encIt_len] using hu))
    rw [show off + 2 + j = off + (j + 2) by omega]
    exact this
end Go.Proofs.YtiioiajcoiaalaaGreatDoor
