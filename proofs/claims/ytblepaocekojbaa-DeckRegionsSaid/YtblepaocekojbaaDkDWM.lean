/-
  Waves by assigning: whoever has all that it reads gets its number; where nobody can get one, there are no waves. Plain theorems; no condition.
-/
import Derived.Test.YtblepaocekojbaaDkWvM
namespace Go.Proofs.Ytblepaocekojbaa

/-- How many of K have no number yet. -/
def negs (K : Nat) (O : Nat → Int) : Nat := (List.range K).countP fun x => decide (O x < 0)
theorem negs_le (K : Nat) (O : Nat → Int) : negs K O ≤ K := by
  unfold negs
  exact Nat.le_trans List.countP_le_length (by simp)
theorem negs_all (K : Nat) : negs K (fun _ => -1) = K := by
  unfold negs
  rw [List.countP_eq_length.2 (fun _ _ => by simp)]; simp
theorem negs_put {K r : Nat} {O : Nat → Int} (hr : r < K) (h : O r < 0) {v : Int} (hv : 0 ≤ v) : negs K (fun x => if x = r then v else O x) + 1 = negs K O := by
  unfold negs
  obtain ⟨l1, l2, hl⟩ := List.append_of_mem (List.mem_range.2 hr)
  have hnd : (List.range K).Nodup := List.nodup_range
  rw [hl] at hnd
  rw [hl, List.countP_append, List.countP_append, List.countP_cons, List.countP_cons]
  have e1 : ¬ (decide ((if r = r then v else O r) < 0) = true) := by simp; omega
  have e2 : decide (O r < 0) = true := by simpa using h
  rw [if_neg e1, if_pos e2]
  have m : ∀ l : List Nat, r ∉ l → l.countP (fun x => decide ((if x = r then v else O x) < 0)) = l.countP (fun x => decide (O x < 0)) := fun l hl => by
    apply List.countP_congr
    intro x hx
    rw [if_neg (fun e => hl (by rw [← e]; exact hx))]
  rw [List.nodup_append] at hnd
  have n1 : r ∉ l1 := fun hx => hnd.2.2 r hx r (by simp) rfl
  have n2 : r ∉ l2 := (List.nodup_cons.1 hnd.2.1).1
  rw [m l1 n1, m l2 n2]
  omega
theorem negs_pos {K r : Nat} {O : Nat → Int} (hr : r < K) (h : O r < 0) : 1 ≤ negs K O := by
  have := negs_put hr h (v := 0) (Int.le_refl _)
  omega
theorem negs_none {K : Nat} {O : Nat → Int} (h : negs K O = 0) : ∀ r, r < K → 0 ≤ O r := fun r hr => by
  rcases Int.lt_or_le (O r) 0 with h1 | h1
  · have := negs_pos hr h1; omega
  · exact h1

/-- Numbers given so far. -/
structure Asg (R : Nat → Nat → Prop) (K : Nat) (O : Nat → Int) : Prop where
  ge : ∀ x, x < K → -1 ≤ O x
  up : ∀ r, r < K → 0 ≤ O r → ∀ a, R a r → 0 ≤ O a ∧ O a < O r
  tight : ∀ r, r < K → 0 ≤ O r → O r = 0 ∨ ∃ a, R a r ∧ O r = O a + 1
  bd : ∀ r, r < K → O r + (negs K O : Int) < (K : Int) ∨ O r < 0
theorem Asg.start (R : Nat → Nat → Prop) (K : Nat) : Asg R K (fun _ => -1) := ⟨fun _ _ => by omega, fun _ _ h => by omega, fun _ _ h => by omega, fun _ _ => .inr (by omega)⟩
/-- What region r's number would be, behind the list l of what it reads. -/
structure Wv (O : Nat → Int) (l : List Int) (v : Int) : Prop where
  up : ∀ x ∈ l, 0 ≤ O x.toNat ∧ O x.toNat < v
  tight : v = 0 ∨ ∃ x ∈ l, v = O x.toNat + 1
theorem Wv.nil (O : Nat → Int) : Wv O [] 0 := ⟨by simp, .inl rfl⟩
theorem Wv.snoc {O : Nat → Int} {l : List Int} {v : Int} (h : Wv O l v) {x : Int} (hx : 0 ≤ O x.toNat) : Wv O (l ++ [x]) (max v (O x.toNat + 1)) :=
  ⟨fun y hy => by
    rcases List.mem_append.1 hy with hy | hy
    · have := h.up y hy
      omega
    · obtain rfl : y = x := by simpa using hy
      omega, by
    by_cases hc : v ≤ O x.toNat + 1
    · exact .inr ⟨x, by simp, by omega⟩
    · rcases h.tight with h0 | ⟨y, hy, e⟩
      · exact .inl (by omega)
      · exact .inr ⟨y, List.mem_append_left _ hy, by omega⟩⟩
theorem Wv.ge {O : Nat → Int} {l : List Int} {v : Int} (h : Wv O l v) : 0 ≤ v := by
  rcases h.tight with h0 | ⟨x, hx, e⟩
  · omega
  · have := h.up x hx; omega
section
variable {R : Nat → Nat → Prop} {K r : Nat} {O : Nat → Int} {l : List Int} {v : Int}
theorem Asg.put (h : Asg R K O) (hr : r < K) (hneg : O r < 0) (hR : ∀ a b, R a b → a < K ∧ b < K ∧ a ≠ b) (hl : ∀ x, x ∈ l ↔ ∃ a : Nat, x = (a : Int) ∧ R a r) (hw : Wv O l v) : Asg R K (fun x => if x = r then v else O x) := by
  have hv := hw.ge
  have hn := negs_put hr hneg hv
  refine ⟨fun x hx => ?_, fun q hq h0 a ha => ?_, fun q hq h0 => ?_, fun q hq => ?_⟩
  · by_cases e : x = r
    · rw [if_pos e]; omega
    · rw [if_neg e]; exact h.ge x hx
  · by_cases e : q = r
    · subst e
      rw [if_pos rfl]
      have hne := (hR a q ha).2.2
      rw [if_neg hne]
      have := hw.up (a : Int) ((hl _).2 ⟨a, rfl, ha⟩)
      simpa using this
    · rw [if_neg e] at h0 ⊢
      have h1 := h.up q hq h0 a ha
      by_cases ea : a = r
      · rw [ea] at h1; omega
      · rw [if_neg ea]; exact h1
  · by_cases e : q = r
    · subst e
      rw [if_pos rfl]
      rcases hw.tight with h1 | ⟨x, hx, e1⟩
      · exact .inl h1
      · obtain ⟨a, rfl, ha⟩ := (hl x).1 hx
        refine .inr ⟨a, ha, ?_⟩
        rw [if_neg (hR a q ha).2.2]
        simpa using e1
    · rw [if_neg e] at h0 ⊢
      rcases h.tight q hq h0 with h1 | ⟨a, ha, e1⟩
      · exact .inl h1
      · refine .inr ⟨a, ha, ?_⟩
        have h1 := h.up q hq h0 a ha
        by_cases ea : a = r
        · rw [ea] at h1; omega
        · rw [if_neg ea]; exact e1
  · have hb : ∀ x, x < K → O x + (negs K O : Int) < (K : Int) ∨ O x < 0 := h.bd
    by_cases e : q = r
    · refine .inl ?_
      rw [if_pos e]
      rcases hw.tight with h1 | ⟨x, hx, e1⟩
      · have := negs_le K O
        omega
      · obtain ⟨a, rfl, ha⟩ := (hl x).1 hx
        have h2 := hw.up _ hx
        simp only [Int.toNat_natCast] at e1 h2
        rcases hb a (hR a r ha).1 with h3 | h3
        · omega
        · omega
    · rw [if_neg e]
      rcases hb q hq with h3 | h3
      · exact .inl (by omega)
      · exact .inr h3
theorem Asg.wave (h : Asg R K O) (h0 : negs K O = 0) (hR : ∀ a b, R a b → a < K ∧ b < K ∧ a ≠ b) : IsWave R (fun x => if x < K then (O x).toNat else 0) := by
  have hall := negs_none h0
  refine ⟨fun a b hab => ?_, fun b => ?_⟩
  · obtain ⟨ha, hb, _⟩ := hR a b hab
    rw [if_pos ha, if_pos hb]
    have := h.up b hb (hall b hb) a hab
    omega
  · by_cases hb : b < K
    · rw [if_pos hb]
      rcases h.tight b hb (hall b hb) with h1 | ⟨a, ha, e⟩
      · exact .inl (by omega)
      · refine .inr ⟨a, ha, ?_⟩
        rw [if_pos (hR a b ha).1]
        have := hall a (hR a b ha).1
        omega
    · rw [if_neg hb]; exact .inl rfl
/-- Nobody can get a number: there are no waves. -/
theorem stuck (hR : ∀ a b, R a b → a < K ∧ b < K ∧ a ≠ b) (hs : ∀ r, r < K → O r < 0 → ∃ a, R a r ∧ O a < 0) (hn : 0 < negs K O) : ∀ W, ¬ IsWave R W := by
  intro W hW
  have key : ∀ k r, W r = k → r < K → O r < 0 → False := by
    intro k
    induction k using Nat.strongRecOn with
    | _ k ih =>
      intro r hk hr hneg
      obtain ⟨a, ha, hna⟩ := hs r hr hneg
      have := hW.up a r ha
      exact ih (W a) (by omega) a rfl (hR a r ha).1 hna
  have hex : ∃ r, r < K ∧ O r < 0 := by
    unfold negs at hn
    obtain ⟨r, hr, hp⟩ := List.countP_pos_iff.1 hn
    exact ⟨r, List.mem_range.1 hr, by simpa using hp⟩
  obtain ⟨r, hr, hneg⟩ := hex
  exact key _ r rfl hr hneg
end
end Go.Proofs.Ytblepaocekojbaa
