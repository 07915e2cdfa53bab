/-
  A region that draws its order and whose last operation writes a cell that the region loads: one condition S on the world, asked of every operation but that last one, s. Own theorems over the kit's 'wpOp'; no condition.
-/
import Derived.OrdersHeld
import Derived.Deep.RegionHeld
namespace Go.Proofs.YtehifbogadohgaaDoor
open Go

section
variable {P : Program} {ops : Array Oper} {Q : Exit → Act → World → Prop} {md : Region.Mode} {S : World → Prop} {s : Nat}

/-- Every order from here on is good; behind each operation but s the world meets S. -/
def Held (P : Program) (md : Region.Mode) (ops : Array Oper) (Q : Exit → Act → World → Prop) (S : World → Prop) (s : Nat) : Nat → Array Bool → Act → World → Prop
  | 0, l, a, w => Region.ready md ops l = [] ∧ Q .normal a w
  | n + 1, l, a, w => (Region.ready md ops l = [] → Q .normal a w) ∧
      ∀ i ∈ Region.ready md ops l, wpOp P ops Q i (fun b x => (i ≠ s → S x) ∧ Held P md ops Q S s n (l.setIfInBounds i true) b x) a w

theorem Held.any : ∀ (n : Nat) (l : Array Bool) (a : Act) (w : World), Held P md ops Q S s n l a w → wpAny P md ops Q n l a w := by
  intro n
  induction n with
  | zero => intro l a w h; exact h
  | succ n ih => intro l a w h; exact ⟨h.1, fun i hi => wpOp_mono (fun b x hx => ih _ b x hx.2) (h.2 i hi)⟩

/-- An operation that s waits for, and that yields v wherever S holds, may go first. -/
theorem Held.first {i : Nat} {o : Oper} {v : Value} (hi : ops[i]? = some o) (hsel : ∀ (j : Nat) (o : Oper) cs b, ops[j]? = some o → o.op ≠ .select cs b)
    (hQ : ∀ c a w, Q (.panic c) (a.put o.dst v) w → Q (.panic c) a w) (hs : ∀ os, ops[s]? = some os → ∃ e ∈ os.after, Region.binds md e = true ∧ e.on = i) (n : Nat) :
    ∀ (l : Array Bool) (a : Act) (w : World),
      (∀ j oj, ops[j]? = some oj → j ≠ i → l.getD j true = false → (∀ e ∈ oj.after, Region.binds md e = true → e.on ≠ i) → o.apart ops oj = true) →
      i ∈ Region.ready md ops l → YieldsIf P ops S o v a → S w → Held P md ops Q S s n (l.setIfInBounds i true) (a.put o.dst v) w → Held P md ops Q S s (n + 1) l a w := by
  induction n with
  | zero =>
    intro l a w _ hr hy hS H
    constructor
    · intro h; rw [h] at hr; cases hr
    · intro j hj
      by_cases e : j = i
      · subst e; exact hy.wpOp hi hS ⟨fun _ => hS, H⟩
      · have h0 := ready_mono hj e
        rw [H.1] at h0; cases h0
  | succ n ih =>
    intro l a w hf hr hy hS H
    constructor
    · intro h; rw [h] at hr; cases hr
    · intro j hj
      by_cases e : j = i
      · subst e; exact hy.wpOp hi hS ⟨fun _ => hS, H⟩
      · obtain ⟨hun, oj, hoj, hall⟩ := mem_ready.1 hj
        have hno : ∀ e ∈ oj.after, Region.binds md e = true → e.on ≠ i := by
          intro x hx hb heq
          have g1 := hall x hx hb
          have g0 := (mem_ready.1 hr).1
          rw [heq] at g1
          by_cases hlt : i < l.size
          · simp [hlt] at g0 g1; rw [g0] at g1; cases g1
          · simp [Array.getElem?_eq_none (Nat.le_of_not_lt hlt)] at g1
        have hjs : j ≠ s := by
          rintro rfl
          obtain ⟨x, hx, hb, heq⟩ := hs oj hoj
          exact hno x hx hb heq
        have key := wpOp_putIf hoj (hf j oj hoj e hun hno) (fun cs b => hsel i o cs b hi) (fun cs b => hsel j oj cs b hoj) hQ hy (H.2 j (ready_mono hj e))
        refine wpOp_mono (fun b x hx => ⟨hx.2.1, ih _ b x ?_ (ready_mono hr (Ne.symm e)) hx.1 (hx.2.1 hjs) ?_⟩) key
        · intro k ok hk hki hu hn
          refine hf k ok hk hki ?_ hn
          by_cases ek : j = k
          · subst ek; exact hun
          · rwa [getD_set_ne true ek] at hu
        · rw [Array.setIfInBounds_comm _ _ e]; exact hx.2.2

/-- s waits for i: as a Bool that the kernel reckons. -/
def waitsB (md : Region.Mode) (ops : Array Oper) (s i : Nat) : Bool := match ops[s]? with
  | some o => o.after.any fun e => Region.binds md e && e.on == i
  | none => true
theorem waitsB_spec {s i : Nat} (h : waitsB md ops s i = true) : ∀ os, ops[s]? = some os → ∃ e ∈ os.after, Region.binds md e = true ∧ e.on = i := by
  intro os ho
  unfold waitsB at h
  rw [ho] at h
  obtain ⟨e, he, hb⟩ := Array.any_eq_true'.1 h
  simp only [Bool.and_eq_true, beq_iff_eq] at hb
  exact ⟨e, he, hb.1, hb.2⟩
theorem Held.take {i : Nat} {o : Oper} (v : Value) {n : Nat} {l : Array Bool} {a : Act} {w : World} (hi : ops[i]? = some o) (hS : S w)
    (hse : Region.noSelect ops = true) (hf : Region.free md ops l i = true) (hr : (Region.ready md ops l).contains i = true) (hw : waitsB md ops s i = true)
    (hQ : ∀ c a w, Q (.panic c) (a.put o.dst v) w → Q (.panic c) a w) (hg : o.guard = none) (hy : ∀ x, S x → (execOp a.eval o).run P x = .ok (.value v) x)
    (h : Held P md ops Q S s n (l.setIfInBounds i true) (a.put o.dst v) w) : Held P md ops Q S s (n + 1) l a w :=
  Held.first hi (Region.noSelect_spec hse) hQ (waitsB_spec hw) n l a w (Region.free_spec hi hf) (by simpa using hr) (.inl ⟨by simp [Region.wanted, hg], hy⟩) hS h
/-- One operation alone may come up: it is carried out where it stands. -/
theorem Held.one {i : Nat} {o : Oper} {n : Nat} {l : Array Bool} {a : Act} {w : World} (ho : ops[i]? = some o) (hr : Region.ready md ops l = [i]) (hg : o.guard = none)
    (h : ∀ K : Act → World → Prop, (∀ b x, (i ≠ s → S x) → Held P md ops Q S s n (l.setIfInBounds i true) b x → K b x) → Oper.wp P o a w K Q) : Held P md ops Q S s (n + 1) l a w := by
  constructor
  · intro h0; rw [hr] at h0; cases h0
  · intro j hj
    rw [hr] at hj
    obtain rfl : j = i := by simpa using hj
    refine wpOp_step ho (fun K hK => ?_)
    rw [if_pos (by simp [Region.wanted, hg])]
    exact h K (fun b x h1 h2 => hK b x ⟨h1, h2⟩)
/-- Two operations may come up. -/
theorem Held.two {i j : Nat} {o o' : Oper} {n : Nat} {l : Array Bool} {a : Act} {w : World} (ho : ops[i]? = some o) (ho' : ops[j]? = some o') (hr : Region.ready md ops l = [i, j]) (hg : o.guard = none) (hg' : o'.guard = none)
    (h : ∀ K : Act → World → Prop, (∀ b x, (i ≠ s → S x) → Held P md ops Q S s n (l.setIfInBounds i true) b x → K b x) → Oper.wp P o a w K Q)
    (h' : ∀ K : Act → World → Prop, (∀ b x, (j ≠ s → S x) → Held P md ops Q S s n (l.setIfInBounds j true) b x → K b x) → Oper.wp P o' a w K Q) : Held P md ops Q S s (n + 1) l a w := by
  constructor
  · intro h0; rw [hr] at h0; cases h0
  · intro k hk
    rw [hr] at hk
    simp only [List.mem_cons, List.not_mem_nil, or_false] at hk
    rcases hk with rfl | rfl
    · refine wpOp_step ho (fun K hK => ?_)
      rw [if_pos (by simp [Region.wanted, hg])]
      exact h K (fun b x h1 h2 => hK b x ⟨h1, h2⟩)
    · refine wpOp_step ho' (fun K hK => ?_)
      rw [if_pos (by simp [Region.wanted, hg'])]
      exact h' K (fun b x h1 h2 => hK b x ⟨h1, h2⟩)
theorem Held.done {n : Nat} {l : Array Bool} {a : Act} {w : World} (hr : Region.ready md ops l = []) (h : Q .normal a w) : Held P md ops Q S s n l a w := by
  cases n with
  | zero => exact ⟨hr, h⟩
  | succ n => exact ⟨fun _ => h, by rw [hr]; simp⟩
theorem Held.begin {id : Nat} {a : Act} {w : World} (S : World → Prop) (s : Nat) (hm : P.follows .mixedOrders = true)
    (h : Held P .any ops Q S s ops.size (Array.replicate ops.size false) a w.drew) : (Code.region id ops true).wp P Q a w :=
  wp_region_any hm (Held.any _ _ _ _ h)
end
end Go.Proofs.YtehifbogadohgaaDoor
