/-
  Bags in memory: a slice of items, each with a row; rows lie below a bound, or in blocks of values of the call's own.
-/
import Derived.Test.YtiioiajcoiaalaaGreatDoorBgR4
namespace Go.Proofs.YtiioiajcoiaalaaGreatDoor
open Go.RowKit

structure It where
  A : Option Addr
  n : Nat
  c : Nat
  r : Rw
  m : Int
def encIt (i : It) : List Value := [.slice i.A i.n i.c, .int .i64 i.m]
theorem encIt_len (i : It) : (encIt i).length = 2 := rfl
def dat (l : List It) : Bg := l.map fun i => (i.r, i.m)
theorem dat_len (l : List It) : (dat l).length = l.length := by simp [dat]
theorem dat_snoc (l : List It) (i : It) : dat (l ++ [i]) = dat l ++ [(i.r, i.m)] := by simp [dat]
theorem dat_cons (i : It) (l : List It) : dat (i :: l) = (i.r, i.m) :: dat l := rfl

/-- A row in memory. -/
structure RowK (w : World) (B : Nat) (A : Option Addr) (n : Nat) (r : Rw) : Prop where
  rd : Reads w w.heap.size 3 A n (r.flatMap encV)
  at_ : 0 < n → ∀ b off m, A = some ⟨b, off, m⟩ → b < B ∨ ∃ c fz, w.heap[b]? = some (.cells c 64 fz)
  le : n ≤ 9223372036854775807
section
variable {w w' : World} {B B' : Nat} {A : Option Addr} {n : Nat} {r : Rw}
theorem RowK.len (h : RowK w B A n r) : r.length = n := h.rd.len encV_len (by omega)
theorem RowK.mono (h : RowK w B A n r) (hB : B ≤ B') : RowK w B' A n r := ⟨h.rd, fun h0 b off m e => by
  rcases h.at_ h0 b off m e with h | h
  · exact .inl (by omega)
  · exact .inr h, h.le⟩
theorem RowK.of_reads (h : Reads w B 3 A n (r.flatMap encV)) (hB : B ≤ w.heap.size) (hn : n ≤ 9223372036854775807) : RowK w B A n r :=
  ⟨h.more hB, fun h0 b off m e => by
    obtain ⟨b', off', e', hb, _⟩ := h.2 h0
    rw [e'] at e
    injection e with e
    injection e with e1
    exact .inl (by omega), hn⟩
theorem RowK.below (h : RowK w B A n r) (hb : Below w.heap.size w w') : RowK w' B A n r :=
  ⟨h.rd.up hb, fun h0 b off m e => by
    rcases h.at_ h0 b off m e with h1 | ⟨c, fz, h1⟩
    · exact .inl h1
    · exact .inr ⟨c, fz, by rw [hb.block b (Array.getElem?_eq_some_iff.1 h1).1]; exact h1⟩, h.le⟩
theorem RowK.drewN (h : RowK w B A n r) (q : Nat) : RowK (w.drewN q) B A n r := ⟨h.rd, h.at_, h.le⟩
/-- A write to a block that is neither below the bound nor of values turns no row. -/
theorem RowK.keep (h : RowK w B A n r) {p : Nat → Prop} (hk : ∀ k, k < w.heap.size → ¬ p k → w'.heap[k]? = w.heap[k]?) (hs : w.heap.size ≤ w'.heap.size) (hp : ∀ k, p k → B ≤ k ∧ ∀ c fz, w.heap[k]? ≠ some (.cells c 64 fz)) : RowK w' B A n r := by
  have hne : 0 < n → ∀ b off m, A = some ⟨b, off, m⟩ → ¬ p b := fun h0 b off m e hpb => by
    obtain ⟨h1, h2⟩ := hp b hpb
    rcases h.at_ h0 b off m e with h3 | ⟨c, fz, h3⟩
    · omega
    · exact h2 c fz h3
  refine ⟨⟨h.rd.1, fun h0 => ?_⟩, fun h0 b off m e => ?_, h.le⟩
  · obtain ⟨b, off, e, hb, hc⟩ := h.rd.2 h0
    refine ⟨b, off, e, by omega, fun j u hu => ?_⟩
    rw [World.cell?_of_block (hk b hb (hne h0 b off none e))]
    exact hc j u hu
  · rcases h.at_ h0 b off m e with h3 | ⟨c, fz, h3⟩
    · exact .inl h3
    · exact .inr ⟨c, fz, by rw [hk b (Array.getElem?_eq_some_iff.1 h3).1 (hne h0 b off m e)]; exact h3⟩
theorem own_cells {base : Nat} {e : TypeId} {size k : Nat} {v : Value} {xs : List Value} (h : w.ownsRow base e size v k xs) {g : Nat} (hg : v.ownBlock = some g) : ∃ c fz, w.heap[g]? = some (.cells c e fz) := by
  rcases h.2 with ⟨rfl, _⟩ | ⟨g', cap, cur, rfl, _, h3, _⟩
  · cases hg
  · have : g' = g := by simpa [Value.ownBlock] using hg
    subst this
    exact ⟨_, _, h3⟩
theorem RowK.of_own {base : Nat} {c : Nat} (h : w.ownsRow base 64 3 (.slice A n c) n (r.flatMap encV)) (hn : n ≤ 9223372036854775807) : RowK w B A n r :=
  ⟨Reads.of_own h, fun h0 b off m e => by
    obtain ⟨g, cap, hv, _⟩ := h.form h0
    have hA : A = some ⟨g, 0, none⟩ := by injection hv
    rw [hA] at e
    injection e with e
    injection e with e1
    subst e1
    subst hA
    exact .inr (own_cells h (g := g) rfl), hn⟩
/-- An append to a row of another type turns no row. -/
theorem RowK.grown (h : RowK w B A n r) {base : Nat} {e : TypeId} {size k : Nat} {v : Value} {xs : List Value} (hown : w.ownsRow base e size v k xs) (he : e ≠ 64) (hB : B ≤ base) (hg : w.grownBy w' v.ownBlock) : RowK w' B A n r :=
  h.keep (p := fun k => v.ownBlock = some k) (fun k hk hp => hg.block k hk fun e => hp e.symm) hg.size fun k hk => by
    refine ⟨Nat.le_trans hB (hown.lt k hk).1, fun c fz hc => ?_⟩
    obtain ⟨c', fz', h'⟩ := own_cells hown hk
    rw [h'] at hc
    injection hc with hc
    injection hc with _ h2
    exact he h2
theorem RowK.alloc (h : RowK w B A n r) (o : Obj) : RowK (w.alloc o) B A n r := h.below ((Below.refl _ _).alloc (Nat.le_refl _) _)
/-- A store into a block of another type turns no row. -/
theorem RowK.setCell (h : RowK w B A n r) {p : Addr} {cs : Array Value} {e : TypeId} {fz : Nat × Nat} (hp : w.heap[p.block]? = some (.cells cs e fz)) (he : e ≠ 64) (hB : B ≤ p.block) (u : Value) : RowK (w.setCell p u) B A n r :=
  h.keep (p := fun k => k = p.block) (fun k _ hne => Below.heap_setCell w p u k hne) (by simp [World.setCell]) fun k hk => by
    subst hk
    refine ⟨hB, fun c fz' hc => ?_⟩
    rw [hp] at hc
    injection hc with hc
    injection hc with _ h2
    exact he h2
end

/-- All rows of a list of items. -/
def Rows_ (w : World) (B : Nat) (l : List It) : Prop := ∀ i ∈ l, RowK w B i.A i.n i.r
/-- A bag in memory. -/
structure BagR (w : World) (B : Nat) (A : Option Addr) (n : Nat) (l : List It) : Prop where
  rd : Reads w w.heap.size 2 A n (l.flatMap encIt)
  rows : Rows_ w B l
  le : n ≤ 9223372036854775807
section
variable {w w' : World} {B B' : Nat} {A : Option Addr} {n : Nat} {l : List It}
theorem Rows_.below (h : Rows_ w B l) (hb : Below w.heap.size w w') : Rows_ w' B l := fun i hi => (h i hi).below hb
theorem Rows_.mono (h : Rows_ w B l) (hB : B ≤ B') : Rows_ w B' l := fun i hi => (h i hi).mono hB
theorem BagR.len (h : BagR w B A n l) : l.length = n := h.rd.len encIt_len (by omega)
theorem BagR.below (h : BagR w B A n l) (hb : Below w.heap.size w w') : BagR w' B A n l := ⟨h.rd.up hb, h.rows.below hb, h.le⟩
theorem BagR.mono (h : BagR w B A n l) (hB : B ≤ B') : BagR w B' A n l := ⟨h.rd, h.rows.mono hB, h.le⟩
theorem BagR.drewN (h : BagR w B A n l) (q : Nat) : BagR (w.drewN q) B A n l := ⟨h.rd, fun i hi => (h.rows i hi).drewN q, h.le⟩
theorem BagR.nil (w : World) (B : Nat) : BagR w B none 0 [] := ⟨Reads.none_, (by intro i hi; cases hi), by omega⟩
/-- Item k. -/
theorem BagR.at_ (h : BagR w B A n l) {k : Nat} (hk : k < n) : ∃ b off i, A = some ⟨b, off, none⟩ ∧ b < w.heap.size ∧ l[k]? = some i ∧ w.cell? ⟨b, off + k * 2, none⟩ = some (.slice i.A i.n i.c) ∧ w.cell? ⟨b, off + k * 2 + 1, none⟩ = some (.int .i64 i.m) ∧ RowK w B i.A i.n i.r := by
  obtain ⟨b, off, i, e, hb, hi, hc⟩ := h.rd.elem encIt_len h.len hk
  exact ⟨b, off, i, e, hb, hi, by simpa using hc 0 _ rfl, by simpa [← Nat.add_assoc] using hc 1 _ rfl, h.rows i (List.mem_of_getElem? hi)⟩
end
theorem dat_at {l : List It} {k : Nat} {i : It} (h : l[k]? = some i) : (dat l)[k]? = some (i.r, i.m) := by unfold dat; rw [List.getElem?_map, h]; rfl
end Go.Proofs.YtiioiajcoiaalaaGreatDoor
