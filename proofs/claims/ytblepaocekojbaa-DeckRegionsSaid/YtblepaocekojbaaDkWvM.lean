/-
  Waves in plain numbers: the one function that stands above all it reads, and no higher than it must; rounds over the edges find it, if there is one. Plain theorems; no condition.
-/
import Derived.Test.YtblepaocekojbaaDkReg
namespace Go.Proofs.Ytblepaocekojbaa

/-- Region b reads region a. -/
def Pr (num : Nat → Nat) (es : List Ed) (a b : Nat) : Prop := ∃ e ∈ es, num e.f.toNat = a ∧ num e.t.toNat = b ∧ a ≠ b
structure IsWave (R : Nat → Nat → Prop) (W : Nat → Nat) : Prop where
  up : ∀ a b, R a b → W a < W b
  tight : ∀ b, W b = 0 ∨ ∃ a, R a b ∧ W b = W a + 1
theorem IsWave.le {R : Nat → Nat → Prop} {W : Nat → Nat} (h : IsWave R W) {V : Nat → Nat} (hV : ∀ a b, R a b → V a < V b) : ∀ b, W b ≤ V b := by
  have key : ∀ k b, W b = k → W b ≤ V b := by
    intro k
    induction k with
    | zero => intro b hb; omega
    | succ k ih =>
      intro b hb
      rcases h.tight b with h0 | ⟨a, hr, ha⟩
      · omega
      · have h1 := ih a (by omega)
        have h2 := hV a b hr
        omega
  exact fun b => key _ b rfl
theorem IsWave.uniq {R : Nat → Nat → Prop} {W V : Nat → Nat} (h : IsWave R W) (k : IsWave R V) : W = V := by
  funext b
  exact Nat.le_antisymm (h.le k.up b) (k.le h.up b)

def cntL (n : Nat) (W : Nat → Nat) (k : Nat) : Nat := (List.range n).countP fun x => decide (W x < k)
theorem cntL_step {n : Nat} {W : Nat → Nat} {k x : Nat} (hx : x < n) (hW : W x = k) : cntL n W k + 1 ≤ cntL n W (k + 1) := by
  unfold cntL
  obtain ⟨l1, l2, hl⟩ := List.append_of_mem (List.mem_range.2 hx)
  rw [hl, List.countP_append, List.countP_append, List.countP_cons, List.countP_cons]
  have e1 : ¬ (decide (W x < k) = true) := by simp; omega
  have e2 : decide (W x < k + 1) = true := by simp; omega
  rw [if_neg e1, if_pos e2]
  have m : ∀ l : List Nat, l.countP (fun x => decide (W x < k)) ≤ l.countP (fun x => decide (W x < k + 1)) := fun l => List.countP_mono_left fun x _ hx => by
    simp at hx ⊢; omega
  have m1 := m l1
  have m2 := m l2
  omega
/-- A wave's number is less than how many regions there are. -/
theorem IsWave.lt {R : Nat → Nat → Prop} {W : Nat → Nat} (h : IsWave R W) {n : Nat} (hR : ∀ a b, R a b → a < n ∧ b < n) (b : Nat) (hb : b < n) : W b < n := by
  have chain : ∀ d k, k + d = W b → ∃ x, x < n ∧ W x = k := by
    intro d
    induction d with
    | zero => intro k hk; exact ⟨b, hb, by omega⟩
    | succ d ih =>
      intro k hk
      obtain ⟨x, hx, hWx⟩ := ih (k + 1) (by omega)
      rcases h.tight x with h0 | ⟨a, hr, ha⟩
      · omega
      · exact ⟨a, (hR a x hr).1, by omega⟩
  have cn : ∀ k, k ≤ W b + 1 → k ≤ cntL n W k := by
    intro k
    induction k with
    | zero => intro _; omega
    | succ k ih =>
      intro hk
      obtain ⟨x, hx, hWx⟩ := chain (W b - k) k (by omega)
      have h1 := cntL_step (n := n) hx hWx
      have h2 := ih (by omega)
      omega
  have h1 := cn (W b + 1) (Nat.le_refl _)
  have h2 : cntL n W (W b + 1) ≤ n := by
    unfold cntL
    exact Nat.le_trans List.countP_le_length (by simp)
  omega

/-- What the rounds keep. -/
structure Low (R : Nat → Nat → Prop) (O : Nat → Nat) : Prop where
  low : ∀ V : Nat → Nat, (∀ a b, R a b → V a < V b) → ∀ x, O x ≤ V x
  near : ∀ b, O b = 0 ∨ ∃ a, R a b ∧ O b ≤ O a + 1
theorem Low.zero (R : Nat → Nat → Prop) : Low R (fun _ => 0) := ⟨fun _ _ _ => Nat.zero_le _, fun _ => .inl rfl⟩
/-- Behind p rounds, what is no higher than p is reached. -/
def Upto' (R : Nat → Nat → Prop) (p : Nat) (O : Nat → Nat) : Prop := ∀ W, IsWave R W → ∀ x, W x ≤ p → W x ≤ O x
theorem Upto'.zero (R : Nat → Nat → Prop) : Upto' R 0 (fun _ => 0) := fun _ _ _ h => h
/-- Within a round that began with O, behind the edges of l: T, turned or not. -/
structure Rnd (num : Nat → Nat) (es : List Ed) (O : Nat → Nat) (l : List Ed) (b : Bool) (T : Nat → Nat) : Prop where
  low : Low (Pr num es) T
  mono : ∀ x, O x ≤ T x
  past : ∀ e ∈ l, num e.f.toNat ≠ num e.t.toNat → O (num e.f.toNat) + 1 ≤ T (num e.t.toNat)
  still : b = false → T = O
  turned : b = true → ∃ x, O x < T x
section
variable {num : Nat → Nat} {es l : List Ed} {O T : Nat → Nat} {b : Bool}
theorem Rnd.start (h : Low (Pr num es) O) : Rnd num es O [] false O := ⟨h, fun _ => Nat.le_refl _, by simp, fun _ => rfl, fun h => by cases h⟩
theorem Rnd.skip (h : Rnd num es O l b T) {e : Ed} (hc : num e.f.toNat ≠ num e.t.toNat → T (num e.f.toNat) + 1 ≤ T (num e.t.toNat)) : Rnd num es O (l ++ [e]) b T :=
  ⟨h.low, h.mono, fun e' he hne => by
    rcases List.mem_append.1 he with he | he
    · exact h.past e' he hne
    · obtain rfl : e' = e := by simpa using he
      have h1 := hc hne
      have h2 := h.mono (num e'.f.toNat)
      omega, h.still, h.turned⟩
theorem Rnd.turn (h : Rnd num es O l b T) {e : Ed} (he : e ∈ es) (hne : num e.f.toNat ≠ num e.t.toNat) (hlt : T (num e.t.toNat) < T (num e.f.toNat) + 1) :
    Rnd num es O (l ++ [e]) true (fun x => if x = num e.t.toNat then T (num e.f.toNat) + 1 else T x) := by
  have hR : Pr num es (num e.f.toNat) (num e.t.toNat) := ⟨e, he, rfl, rfl, hne⟩
  have up : ∀ x, T x ≤ if x = num e.t.toNat then T (num e.f.toNat) + 1 else T x := fun x => by
    by_cases hx : x = num e.t.toNat
    · rw [if_pos hx, hx]; omega
    · rw [if_neg hx]; exact Nat.le_refl _
  refine ⟨⟨fun V hV x => ?_, fun c => ?_⟩, fun x => Nat.le_trans (h.mono x) (up x), fun e' he' hne' => ?_, fun h => absurd h (by simp), fun _ => ⟨num e.t.toNat, ?_⟩⟩
  · by_cases hx : x = num e.t.toNat
    · rw [if_pos hx]
      have h1 := h.low.low V hV (num e.f.toNat)
      have h2 := hV _ _ hR
      rw [hx]; omega
    · rw [if_neg hx]; exact h.low.low V hV x
  · by_cases hc : c = num e.t.toNat
    · refine .inr ⟨num e.f.toNat, by rw [hc]; exact hR, ?_⟩
      rw [if_pos hc, if_neg hne]; exact Nat.le_refl _
    · rw [if_neg hc]
      rcases h.low.near c with h0 | ⟨a, hr, ha⟩
      · exact .inl h0
      · exact .inr ⟨a, hr, Nat.le_trans ha (Nat.add_le_add_right (up a) 1)⟩
  · rcases List.mem_append.1 he' with he' | he'
    · exact Nat.le_trans (h.past e' he' hne') (up _)
    · obtain rfl : e' = e := by simpa using he'
      rw [if_pos rfl]
      have := h.mono (num e'.f.toNat)
      omega
  · rw [if_pos rfl]
    have := h.mono (num e.t.toNat)
    omega
theorem Rnd.next (h : Rnd num es O es b T) {p : Nat} (hp : Upto' (Pr num es) p O) : Upto' (Pr num es) (p + 1) T := by
  intro W hW x hx
  by_cases h1 : W x ≤ p
  · exact Nat.le_trans (hp W hW x h1) (h.mono x)
  · rcases hW.tight x with h0 | ⟨a, ⟨e, he, ef, et, hne⟩, ha⟩
    · omega
    · have h2 := hp W hW a (by omega)
      have h3 := h.past e he (by rw [ef, et]; exact hne)
      rw [ef, et] at h3
      omega
/-- A round that turns nothing: these are the waves. -/
theorem Rnd.wave (h : Rnd num es O es false O) : IsWave (Pr num es) O := by
  have up : ∀ a c, Pr num es a c → O a < O c := fun a c ⟨e, he, ef, et, hne⟩ => by
    have := h.past e he (by rw [ef, et]; exact hne)
    rw [ef, et] at this
    omega
  refine ⟨up, fun c => ?_⟩
  rcases h.low.near c with h0 | ⟨a, hr, ha⟩
  · exact .inl h0
  · have := up a c hr
    exact .inr ⟨a, hr, by omega⟩
/-- Behind n rounds, a round that turns something: there are no waves. -/
theorem Rnd.none_ (h : Rnd num es O es true T) {n : Nat} (hR : ∀ a c, Pr num es a c → a < n ∧ c < n) (hp : Upto' (Pr num es) n O) : ∀ W, ¬ IsWave (Pr num es) W := by
  intro W hW
  obtain ⟨x, hx⟩ := h.turned rfl
  have h1 := h.low.low W hW.up x
  have h2 : W x ≤ n := by
    rcases hW.tight x with h0 | ⟨a, hr, _⟩
    · omega
    · exact Nat.le_of_lt (hW.lt hR x (hR a x hr).2)
  have h3 := hp W hW x h2
  omega
end

/-! How many regions there are. -/
theorem numOf_num {L : Nat → Nat} (hL : Lab L) {i n : Nat} (h : i < n) : numOf L i < numb L n := by
  unfold numOf
  exact numb_lt (hL.idem i) (Nat.lt_of_le_of_lt (hL.le i) h)
theorem max_num {L : Nat → Nat} (hL : Lab L) (i : Nat) : max (numb L i) (numOf L i + 1) = numb L (i + 1) := by
  rw [numb_succ]
  by_cases h : L i = i
  · rw [if_pos h, show numOf L i = numb L i by unfold numOf; rw [h]]; omega
  · rw [if_neg h]
    have h1 := hL.le i
    have h2 : numOf L i < numb L i := by unfold numOf; exact numb_lt (hL.idem i) (by omega)
    omega
theorem pr_lt {g : Gr} (hv : validB g = true) {a b : Nat} (h : Pr (numOf (labs g.es)) g.es a b) : a < numb (labs g.es) g.n1 ∧ b < numb (labs g.es) g.n1 := by
  obtain ⟨e, he, rfl, rfl, _⟩ := h
  obtain ⟨k, hk⟩ := List.mem_iff_getElem?.1 he
  obtain ⟨v1, v2, v3, _, _⟩ := ok_edge hv hk
  exact ⟨numOf_num (Lab.labs _) (by omega), numOf_num (Lab.labs _) (by omega)⟩
end Go.Proofs.Ytblepaocekojbaa
