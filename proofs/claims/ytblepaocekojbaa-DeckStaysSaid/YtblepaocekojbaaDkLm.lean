/-
  The plain laws behind DeckBack: what is in the list of what goes back; more that falls, more goes back; the ascending list of the fallen tasks and one more.
-/
import Derived.Test.YtblepaocekojbaaDkMd
import Derived.Test.YtblepaocekojbaaDkSo
import Derived.Test.YtblepaocekojbaaDkAw
namespace Go.Proofs.Ytblepaocekojbaa

theorem mem_tkn {p : Nat → Bool} {n : Nat} {x : Int} : x ∈ tkn p n ↔ ∃ t : Nat, t < n ∧ p t = true ∧ x = (t : Int) := by
  unfold tkn
  rw [List.mem_map]
  constructor
  · rintro ⟨t, ht, rfl⟩
    rw [List.mem_filter, List.mem_range] at ht
    exact ⟨t, ht.1, ht.2, rfl⟩
  · rintro ⟨t, h1, h2, rfl⟩
    exact ⟨t, List.mem_filter.2 ⟨List.mem_range.2 h1, h2⟩, rfl⟩
theorem hasB_mem {xs : List Int} {y : Int} : hasB xs y = true ↔ y ∈ xs := by
  unfold hasB
  rw [List.any_eq_true]
  exact ⟨fun ⟨x, h1, h2⟩ => by rwa [← (by simpa using h2 : x = y)], fun h => ⟨y, h, by simp⟩⟩
theorem has_tkn {p : Nat → Bool} {n t : Nat} (ht : t < n) : hasB (tkn p n) (t : Int) = p t := by
  have : hasB (tkn p n) (t : Int) = true ↔ p t = true := by
    rw [hasB_mem, mem_tkn]
    exact ⟨fun ⟨u, _, h2, h3⟩ => by rwa [show t = u by omega], fun h => ⟨t, ht, h, rfl⟩⟩
  cases h1 : hasB (tkn p n) (t : Int) <;> cases h2 : p t <;> simp_all
theorem back_mono {L : Nat → Nat} {es : List Ed} {F F' gone : List Int} {S S' : Nat → Bool} (hS : IsBack L es F gone S) (hS' : IsBack L es F' gone S') (h : ∀ t ∈ F, t ∈ F') {r : Nat} (hr : S r = true) : S' r = true :=
  (hS' r).2 fun P hc hs => (hS r).1 hr P hc fun x ⟨t, ht, e⟩ => hs x ⟨t, h t ht, e⟩
theorem back_seed {L : Nat → Nat} {es : List Ed} {F gone : List Int} {S : Nat → Bool} (hS : IsBack L es F gone S) {t : Int} (ht : t ∈ F) : S (L t.toNat) = true := (hS _).2 (Lst.seed ⟨t, ht, rfl⟩)
/-- Whoever goes back: its readers too. -/
theorem back_edge {es : List Ed} {F gone : List Int} {S : Nat → Bool} (hS : IsBack (labs es) es F gone S) {e : Ed} (he : e ∈ es) (h : S (labs es e.f.toNat) = true) : S (labs es e.t.toNat) = true := by
  cases hs : e.s
  · rw [← labs_closed he hs]; exact h
  · exact (hS _).2 (Lst.cls _ _ _ _ ((hS _).1 h) ⟨e, he, hs, .inl ⟨rfl, rfl⟩⟩)
theorem asc_pair {xs : List Int} : ascB xs = true ↔ xs.Pairwise (fun a b => a < b) := by
  induction xs with
  | nil => simp [ascB]
  | cons x r ih =>
    cases r with
    | nil => simp [ascB]
    | cons y r =>
      rw [ascB, Bool.and_eq_true, ih, decide_eq_true_eq, List.pairwise_cons (a := x)]
      constructor
      · rintro ⟨h1, h2⟩
        refine ⟨fun z hz => ?_, h2⟩
        rcases List.mem_cons.1 hz with rfl | hz
        · exact h1
        · exact Int.lt_trans h1 ((List.pairwise_cons.1 h2).1 z hz)
      · rintro ⟨h1, h2⟩
        exact ⟨h1 y (by simp), h2⟩
theorem asc_more {F ys : List Int} {m : Int} (hF : ascB F = true) (hm : hasB F m = false) (hp : ys.Perm (F ++ [m])) (hs : srt ys) : ascB ys = true := by
  have hnd : ys.Nodup := by
    rw [hp.nodup_iff, List.nodup_append]
    refine ⟨(asc_pair.1 hF).imp fun h => by omega, by simp, fun a ha b hb e => ?_⟩
    have hb' : b = m := by simpa using hb
    have : hasB F m = true := hasB_mem.2 (by rw [← hb', ← e]; exact ha)
    rw [hm] at this; cases this
  rw [asc_pair]
  unfold srt at hs
  exact List.Pairwise.imp₂ (fun a b h1 h2 => by omega) hs hnd
theorem out_any {xs : List Int} {n : Nat} : xs.any (outT n) = false ↔ ∀ x ∈ xs, 0 ≤ x ∧ x < (n : Int) := by
  rw [List.any_eq_false]
  constructor
  · intro h x hx
    have h1 := h x hx
    unfold outT at h1
    simp only [Bool.or_eq_true, decide_eq_true_eq, not_or] at h1
    omega
  · intro h x hx
    have h1 := h x hx
    unfold outT
    simp only [Bool.or_eq_true, decide_eq_true_eq, not_or]
    omega
theorem err_more {g : Gr} {F gone ys : List Int} {m : Int} (h : errB g F gone = 0) (h0 : 0 ≤ m) (h1 : m < (g.n1 : Int)) (hm : hasB F m = false) (hp : ys.Perm (F ++ [m])) (hs : srt ys) : errB g ys gone = 0 := by
  obtain ⟨e1, e2, e3, e4, e5⟩ := errB_ok h
  have a1 := asc_more e2 hm hp hs
  have a2 : ys.any (outT g.n1) = false := out_any.2 fun x hx => by
    rcases List.mem_append.1 (hp.mem_iff.1 hx) with hx | hx
    · exact out_any.1 e4 x hx
    · obtain rfl : x = m := by simpa using hx
      exact ⟨h0, h1⟩
  unfold errB
  rw [e1, a1, e3, a2, e5]; rfl
/-- What Back answers. -/
theorem back_list (g : Gr) (F gone : List Int) : ∃ xs, (errB g F gone = 0 → ∃ S, IsBack (labs g.es) g.es F gone S ∧ xs = tkn (fun t => S (labs g.es t)) g.n1) ∧ (errB g F gone ≠ 0 → xs = []) := by
  by_cases h : errB g F gone = 0
  · obtain ⟨S, hS⟩ := IsBack.exists_ (labs g.es) g.es F gone
    exact ⟨_, fun _ => ⟨S, hS, rfl⟩, fun h' => absurd h h'⟩
  · exact ⟨[], fun h' => absurd h' h, fun _ => rfl⟩
theorem tkn_le {p : Nat → Bool} {n : Nat} : (tkn p n).length ≤ n := tkn_len p n
end Go.Proofs.Ytblepaocekojbaa
