/-
  The walk of tidewrightref26.Back, for every graph and tasks.
-/
import Derived.Test.YtmpoaegdejhbeaaDoorDkTk
namespace Go.Proofs.YtmpoaegdejhbeaaDoor
open Go.RowKit Go.Shelf Go.Deep
attribute [local go_sem] Oper.semAt_some

/-- How many of n cells of block b hold 'false'. -/
def cntW (w : World) (b n : Nat) : Nat := (List.range n).countP fun i => match w.cell? ⟨b, i, none⟩ with
  | some (.bool false) => true
  | _ => false
theorem cntW_row {w : World} {b n : Nat} {t : TypeId} {T : Nat → Bool} (h : w.rowIs b t n (fun j => .bool (T j))) : cntW w b n = cnt n T := by
  unfold cntW cnt
  apply List.countP_congr
  intro i hi
  rw [h.cell (List.mem_range.1 hi)]
  cases T i <;> simp

/-- A set between the seeds and what goes back. -/
structure Upto (L : Nat → Nat) (es : List Ed) (fallen gone : List Int) (T : Nat → Bool) : Prop where
  has : ∀ t ∈ fallen, T (L t.toNat) = true
  least : ∀ P : Nat → Prop, Cls (Nx L es gone) P → (∀ r, seedOf L fallen r → P r) → ∀ x, T x = true → P x
theorem Upto.put {L : Nat → Nat} {es : List Ed} {fallen gone : List Int} {T : Nat → Bool} (h : Upto L es fallen gone T) {x y : Nat} (hx : T x = true) (hn : Nx L es gone x y) : Upto L es fallen gone (put T y) :=
  ⟨fun t ht => put_true.2 (.inr (h.has t ht)), fun P hc hs z hz => by
    rcases put_true.1 hz with rfl | hz
    · exact hc x _ (h.least P hc hs x hx) hn
    · exact h.least P hc hs z hz⟩
/-- Shut for one edge. -/
def Shut (L : Nat → Nat) (gone : List Int) (T : Nat → Bool) (e : Ed) : Prop := e.s = true → (T (L e.f.toNat) = true → T (L e.t.toNat) = true) ∧ (T (L e.t.toNat) = true → hasB gone e.f = true → T (L e.f.toNat) = true)
theorem Upto.back {L : Nat → Nat} {es : List Ed} {fallen gone : List Int} {T : Nat → Bool} (h : Upto L es fallen gone T) (hs : ∀ e ∈ es, Shut L gone T e) : IsBack L es fallen gone T := fun r =>
  ⟨fun hr P hc hs' => h.least P hc hs' r hr, fun hr => hr (fun x => T x = true) (fun x y hx ⟨e, he, h1, h2⟩ => by
    rcases h2 with ⟨rfl, rfl⟩ | ⟨rfl, rfl, h3⟩
    · exact (hs e he h1).1 hx
    · exact (hs e he h1).2 hx h3) (fun r ⟨u, hu, e⟩ => by rw [e]; exact h.has u hu)⟩
theorem back_uniq {L : Nat → Nat} {es : List Ed} {fallen gone : List Int} {S T : Nat → Bool} (hS : IsBack L es fallen gone S) (hT : IsBack L es fallen gone T) : S = T := by
  funext r
  have : S r = true ↔ T r = true := by rw [hS, hT]
  cases h1 : S r <;> cases h2 : T r <;> simp_all
/-- In a round, behind some edges 'l': what it began with is T. -/
structure Pass (L : Nat → Nat) (gone : List Int) (n : Nat) (T : Nat → Bool) (l : List Ed) (b : Bool) (T' : Nat → Bool) : Prop where
  still : b = false → T' = T ∧ ∀ e ∈ l, Shut L gone T e
  turned : b = true → cnt n T' + 1 ≤ cnt n T
theorem Pass.snoc {L : Nat → Nat} {gone : List Int} {n : Nat} {T T' : Nat → Bool} {l : List Ed} {b : Bool} (h : Pass L gone n T l b T') {e : Ed} (he : Shut L gone T' e) : Pass L gone n T (l ++ [e]) b T' :=
  ⟨fun hb => ⟨(h.still hb).1, fun e' h' => by
    rcases List.mem_append.1 h' with h' | h'
    · exact (h.still hb).2 e' h'
    · obtain rfl : e' = e := by simpa using h'
      rwa [(h.still hb).1] at he⟩, h.turned⟩
theorem Pass.turn {L : Nat → Nat} {gone : List Int} {n : Nat} {T T' : Nat → Bool} {l l' : List Ed} {b : Bool} (h : Pass L gone n T l b T') {x : Nat} (hx : x < n) (hf : T' x = false) : Pass L gone n T l' true (put T' x) :=
  ⟨fun hb => absurd hb (by simp), fun _ => by
    have h1 := cnt_put hx hf
    cases b
    · rw [(h.still rfl).1] at h1 hf ⊢; omega
    · have := h.turned rfl; omega⟩

/-- The seeds as a set. -/
def seedB (L : Nat → Nat) (fs : List Int) (r : Nat) : Bool := fs.any fun t => decide (r = L t.toNat)
theorem seedB_snoc (L : Nat → Nat) (fs : List Int) (t : Int) : seedB L (fs ++ [t]) = put (seedB L fs) (L t.toNat) := by
  funext r
  unfold seedB put
  rw [List.any_append]
  by_cases h : r = L t.toNat
  · simp [h]
  · simp [h]
theorem seedB_upto (L : Nat → Nat) (es : List Ed) (fs gone : List Int) : Upto L es fs gone (seedB L fs) :=
  ⟨fun t ht => List.any_eq_true.2 ⟨t, ht, by simp⟩, fun P _ hs x hx => by
    obtain ⟨t, ht, e⟩ := List.any_eq_true.1 hx
    exact hs x ⟨t, ht, by simpa using e⟩⟩

end Go.Proofs.YtmpoaegdejhbeaaDoor
