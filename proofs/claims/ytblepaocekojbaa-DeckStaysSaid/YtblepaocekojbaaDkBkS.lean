/-
  What goes back, told by labels and told by numbers of regions: the same tasks. Plain theorems; no condition.
-/
import Derived.Test.YtblepaocekojbaaDkBkM
namespace Go.Proofs.Ytblepaocekojbaa

def seedOf (of : Nat → Nat) (fallen : List Int) (r : Nat) : Prop := ∃ t ∈ fallen, r = of t.toNat
/-- S holds the regions that go back. -/
def IsBack (of : Nat → Nat) (es : List Ed) (fallen gone : List Int) (S : Nat → Bool) : Prop := ∀ r, S r = true ↔ Lst (Nx of es gone) (seedOf of fallen) r
theorem IsBack.exists_ (of : Nat → Nat) (es : List Ed) (fallen gone : List Int) : ∃ S, IsBack of es fallen gone S := by
  have h : ∀ r, ∃ b : Bool, b = true ↔ Lst (Nx of es gone) (seedOf of fallen) r := fun r => by
    by_cases h : Lst (Nx of es gone) (seedOf of fallen) r
    · exact ⟨true, by simp [h]⟩
    · exact ⟨false, by simp [h]⟩
  exact ⟨fun r => (h r).choose, fun r => (h r).choose_spec⟩

theorem numb_mono (L : Nat → Nat) {a b : Nat} (h : a ≤ b) : numb L a ≤ numb L b := by
  obtain ⟨d, rfl⟩ := Nat.le.dest h
  clear h
  induction d with
  | zero => exact Nat.le_refl _
  | succ d ih =>
    rw [show a + (d + 1) = (a + d) + 1 by omega, numb_succ]
    split <;> omega
theorem numb_lt {L : Nat → Nat} {a b : Nat} (ha : L a = a) (h : a < b) : numb L a < numb L b := by
  have h1 := numb_mono L (show a + 1 ≤ b from h)
  rw [numb_succ, if_pos ha] at h1
  omega
theorem numb_inj {L : Nat → Nat} {a b : Nat} (ha : L a = a) (hb : L b = b) (h : numb L a = numb L b) : a = b := by
  rcases Nat.lt_trichotomy a b with h1 | h1 | h1
  · have := numb_lt ha h1; omega
  · exact h1
  · have := numb_lt hb h1; omega

/-- A region's number, for each task. -/
def numOf (L : Nat → Nat) (t : Nat) : Nat := numb L (L t)
theorem numOf_lt {L : Nat → Nat} (hL : Lab L) {i n : Nat} (h : i < n) : numOf L i < n := Nat.lt_of_le_of_lt (Nat.le_trans (numb_le _ _) (hL.le i)) h
theorem numOf_eq {L : Nat → Nat} (hL : Lab L) {i k : Nat} : numOf L i = numOf L k ↔ L i = L k :=
  ⟨fun h => numb_inj (hL.idem i) (hL.idem k) h, fun h => by unfold numOf; rw [h]⟩
theorem back_same {L : Nat → Nat} (hL : Lab L) {es : List Ed} {fallen gone : List Int} {S T : Nat → Bool} (hS : IsBack L es fallen gone S) (hT : IsBack (numOf L) es fallen gone T) (t : Nat) : T (numOf L t) = S (L t) := by
  have key : T (numOf L t) = true ↔ S (L t) = true := by
    rw [hS, hT]
    constructor
    · intro h
      obtain ⟨r, h1, h2, h3⟩ := h (fun m => ∃ r, m = numb L r ∧ L r = r ∧ Lst (Nx L es gone) (seedOf L fallen) r) (by
        rintro x y ⟨r, rfl, h2, h3⟩ ⟨e, he, hs, h4⟩
        rcases h4 with ⟨h4, rfl⟩ | ⟨h4, rfl, h5⟩
        · have : L e.f.toNat = r := numb_inj (hL.idem _) h2 h4
          exact ⟨L e.t.toNat, rfl, hL.idem _, Lst.cls _ _ r _ h3 ⟨e, he, hs, .inl ⟨this, rfl⟩⟩⟩
        · have : L e.t.toNat = r := numb_inj (hL.idem _) h2 h4
          exact ⟨L e.f.toNat, rfl, hL.idem _, Lst.cls _ _ r _ h3 ⟨e, he, hs, .inr ⟨this, rfl, h5⟩⟩⟩) (by
        rintro r ⟨u, hu, rfl⟩
        exact ⟨L u.toNat, rfl, hL.idem _, Lst.seed ⟨u, hu, rfl⟩⟩)
      have : L t = r := numb_inj (hL.idem _) h2 h1
      rw [this]; exact h3
    · intro h P hc hs
      have h1 := h (fun r => P (numb L r)) (by
        rintro x y hx ⟨e, he, hs', h4⟩
        rcases h4 with ⟨rfl, rfl⟩ | ⟨rfl, rfl, h5⟩
        · exact hc _ _ hx ⟨e, he, hs', .inl ⟨rfl, rfl⟩⟩
        · exact hc _ _ hx ⟨e, he, hs', .inr ⟨rfl, rfl, h5⟩⟩) (by
        rintro r ⟨u, hu, rfl⟩
        exact hs _ ⟨u, hu, rfl⟩)
      exact h1
  cases h1 : T (numOf L t) <;> cases h2 : S (L t) <;> simp_all

/-- The set behind k of the fallen tasks. -/
structure Fell (of : Nat → Nat) (es : List Ed) (gone : List Int) (fs : List Int) (T : Nat → Bool) : Prop where
  shut : ∀ x y, T x = true → Nx of es gone x y → T y = true
  has : ∀ t ∈ fs, T (of t.toNat) = true
  least : ∀ P : Nat → Prop, Cls (Nx of es gone) P → (∀ r, seedOf of fs r → P r) → ∀ x, T x = true → P x
theorem Fell.start (of : Nat → Nat) (es : List Ed) (gone : List Int) : Fell of es gone [] (fun _ => false) := ⟨by simp, by simp, by simp⟩
theorem Fell.step {of : Nat → Nat} {es : List Ed} {gone fs : List Int} {T T' : Nat → Bool} (h : Fell of es gone fs T) (t : Int) (hw : Went (Nx of es gone) (of t.toNat) T T') : Fell of es gone (fs ++ [t]) T' :=
  ⟨fun x y hx hn => by
    cases ht : T x
    · exact hw.shut x hx ht y hn
    · exact hw.mono y (h.shut x y ht hn), fun u hu => by
    rcases List.mem_append.1 hu with hu | hu
    · exact hw.mono _ (h.has u hu)
    · obtain rfl : u = t := by simpa using hu
      exact hw.has, fun P hc hs x hx => hw.least P hc (hs _ ⟨t, by simp, rfl⟩) (h.least P hc fun r ⟨u, hu, e⟩ => hs r ⟨u, by simp [hu], e⟩) x hx⟩
theorem Fell.back {of : Nat → Nat} {es : List Ed} {gone fs : List Int} {T : Nat → Bool} (h : Fell of es gone fs T) : IsBack of es fs gone T := fun r =>
  ⟨fun hr P hc hs => h.least P hc hs r hr, fun hr => hr (fun x => T x = true) (fun x y hx hn => h.shut x y hx hn) (fun r ⟨u, hu, e⟩ => by rw [e]; exact h.has u hu)⟩
end Go.Proofs.Ytblepaocekojbaa
