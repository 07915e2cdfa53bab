/-
  Values, rows and bags as plain data: the order of rows; bags that ascend are known by how often each row is there.
-/
import Derived.Test.YtiioiajcoiaalaaGreatDoorMem
namespace Go.Proofs.YtiioiajcoiaalaaGreatDoor

structure Val where
  k : Int
  n : Int
  s : ByteArray
  deriving DecidableEq
abbrev Rw := List Val
abbrev Bg := List (Rw × Int)
def ltS (s t : ByteArray) : Prop := s.data.toList < t.data.toList
instance (s t : ByteArray) : Decidable (ltS s t) := inferInstanceAs (Decidable (s.data.toList < t.data.toList))
def cmpI (x y : Int) : Int := if x < y then -1 else if y < x then 1 else 0
def cmpS (s t : ByteArray) : Int := if ltS s t then -1 else if ltS t s then 1 else 0
def thenC (c d : Int) : Int := if c = 0 then d else c
def cls (v : Val) : Int := if v.k = 1 ∨ v.k = 2 then v.k else 0
def nnV (v : Val) : Int := if cls v = 1 then v.n else 0
def ssV (v : Val) : ByteArray := if cls v = 2 then v.s else ByteArray.empty
def cmpV (a b : Val) : Int := thenC (cmpI (cls a) (cls b)) (thenC (cmpI (nnV a) (nnV b)) (cmpS (ssV a) (ssV b)))
def cmpR : Rw → Rw → Int
  | [], [] => 0
  | [], _ :: _ => -1
  | _ :: _, [] => 1
  | a :: x, b :: y => thenC (cmpV a b) (cmpR x y)
def okV (v : Val) : Bool := (v.k == 0 && v.n == 0 && v.s.size == 0) || (v.k == 1 && v.s.size == 0 && decide (-1000000000000000 ≤ v.n) && decide (v.n ≤ 1000000000000000)) || (v.k == 2 && v.n == 0 && decide (v.s.size ≤ 200))
def okR (r : Rw) : Bool := r.all okV && decide (r.length ≤ 8)

/-- A comparison. -/
structure Tot {α : Type} (f : α → α → Int) : Prop where
  anti : ∀ x y, f y x = - f x y
  le : ∀ x y z, f x y ≤ 0 → f y z ≤ 0 → f x z ≤ 0
  lt1 : ∀ x y z, f x y < 0 → f y z ≤ 0 → f x z < 0
  lt2 : ∀ x y z, f x y ≤ 0 → f y z < 0 → f x z < 0
theorem Tot.self {α : Type} {f : α → α → Int} (h : Tot f) (x : α) : f x x = 0 := by have := h.anti x x; omega
theorem Tot.int : Tot cmpI := by
  constructor <;> intro x y <;> (try intro z) <;> unfold cmpI <;> (try intro h1 h2) <;> (repeat split at *) <;> omega
theorem ltS_irrefl (s : ByteArray) : ¬ ltS s s := List.lt_irrefl _
theorem ltS_trans {a b c : ByteArray} (h : ltS a b) (k : ltS b c) : ltS a c := List.lt_trans h k
theorem ltS_eq {a b : ByteArray} (h : ¬ ltS a b) (k : ¬ ltS b a) : a = b := by
  have : a.data.toList = b.data.toList := List.le_antisymm (List.not_lt.1 k) (List.not_lt.1 h)
  cases a; cases b
  congr 1
  exact Array.toList_inj.1 this
theorem Tot.str : Tot cmpS := by
  have key : ∀ x y z, cmpS x y ≤ 0 → cmpS y z ≤ 0 → cmpS x z ≤ 0 ∧ (cmpS x y < 0 ∨ cmpS y z < 0 → cmpS x z < 0) := fun x y z h1 h2 => by
    have a1 : ¬ ltS y x := fun h => by
      unfold cmpS at h1
      rw [if_neg (fun k => ltS_irrefl _ (ltS_trans h k)), if_pos h] at h1; omega
    have a2 : ¬ ltS z y := fun h => by
      unfold cmpS at h2
      rw [if_neg (fun k => ltS_irrefl _ (ltS_trans h k)), if_pos h] at h2; omega
    by_cases b1 : ltS x y
    · have : ltS x z := by
        by_cases b2 : ltS y z
        · exact ltS_trans b1 b2
        · rw [← ltS_eq b2 a2]; exact b1
      have e : cmpS x z = -1 := by unfold cmpS; rw [if_pos this]
      rw [e]; omega
    · have e1 := ltS_eq b1 a1
      subst e1
      have e0 : cmpS x x = 0 := by unfold cmpS; rw [if_neg (ltS_irrefl _), if_neg (ltS_irrefl _)]
      refine ⟨h2, fun h => ?_⟩
      omega
  refine ⟨fun x y => ?_, fun x y z h1 h2 => (key x y z h1 h2).1, fun x y z h1 h2 => (key x y z (by omega) h2).2 (.inl h1), fun x y z h1 h2 => (key x y z h1 (by omega)).2 (.inr h2)⟩
  unfold cmpS
  by_cases b1 : ltS x y
  · have b2 : ¬ ltS y x := fun k => ltS_irrefl _ (ltS_trans b1 k)
    simp [b1, b2]
  · by_cases b2 : ltS y x
    · simp [b1, b2]
    · simp [b1, b2]
theorem Tot.comap {α β : Type} {f : β → β → Int} (h : Tot f) (g : α → β) : Tot (fun x y => f (g x) (g y)) := ⟨fun _ _ => h.anti _ _, fun _ _ _ => h.le _ _ _, fun _ _ _ => h.lt1 _ _ _, fun _ _ _ => h.lt2 _ _ _⟩
theorem thenC_key {α : Type} {f : α → α → Int} (hf : Tot f) {x y z : α} {gxy gyz gxz : Int} (hg : gxy ≤ 0 → gyz ≤ 0 → gxz ≤ 0 ∧ (gxy < 0 ∨ gyz < 0 → gxz < 0)) (h1 : thenC (f x y) gxy ≤ 0) (h2 : thenC (f y z) gyz ≤ 0) :
    thenC (f x z) gxz ≤ 0 ∧ (thenC (f x y) gxy < 0 ∨ thenC (f y z) gyz < 0 → thenC (f x z) gxz < 0) := by
  unfold thenC at *
  by_cases i1 : f x y = 0
  · rw [if_pos i1] at h1
    by_cases i2 : f y z = 0
    · rw [if_pos i2] at h2
      have i3 : f x z = 0 := by
        have a := hf.le x y z (by omega) (by omega)
        have b := hf.le z y x (by rw [hf.anti y z]; omega) (by rw [hf.anti x y]; omega)
        rw [hf.anti x z] at b
        omega
      rw [if_pos i1, if_pos i2, if_pos i3]
      exact hg h1 h2
    · rw [if_neg i2] at h2
      have i3 := hf.lt2 x y z (by omega) (by omega)
      rw [if_neg (show f x z ≠ 0 by omega)]
      omega
  · rw [if_neg i1] at h1
    have h2' : f y z ≤ 0 := by
      by_cases i2 : f y z = 0
      · omega
      · rw [if_neg i2] at h2; exact h2
    have i3 := hf.lt1 x y z (by omega) h2'
    rw [if_neg (show f x z ≠ 0 by omega)]
    omega
theorem Tot.seq {α : Type} {f g : α → α → Int} (hf : Tot f) (hg : Tot g) : Tot (fun x y => thenC (f x y) (g x y)) := by
  have key : ∀ x y z, thenC (f x y) (g x y) ≤ 0 → thenC (f y z) (g y z) ≤ 0 → thenC (f x z) (g x z) ≤ 0 ∧ (thenC (f x y) (g x y) < 0 ∨ thenC (f y z) (g y z) < 0 → thenC (f x z) (g x z) < 0) := fun x y z h1 h2 =>
    thenC_key hf (fun a b => ⟨hg.le x y z a b, fun h => by
      rcases h with h | h
      · exact hg.lt1 x y z h b
      · exact hg.lt2 x y z a h⟩) h1 h2
  refine ⟨fun x y => ?_, fun x y z h1 h2 => (key x y z h1 h2).1, fun x y z h1 h2 => (key x y z (by omega) h2).2 (.inl h1), fun x y z h1 h2 => (key x y z h1 (by omega)).2 (.inr h2)⟩
  have e1 := hf.anti x y
  have e2 := hg.anti x y
  unfold thenC
  by_cases i1 : f x y = 0
  · have : f y x = 0 := by omega
    rw [if_pos i1, if_pos this, e2]
  · have : f y x ≠ 0 := by omega
    rw [if_neg i1, if_neg this, e1]
theorem Tot.val : Tot cmpV := (Tot.int.comap cls).seq ((Tot.int.comap nnV).seq (Tot.str.comap ssV))
theorem Tot.row : Tot cmpR := by
  have anti : ∀ x y, cmpR y x = - cmpR x y := fun x => by
    induction x with
    | nil => intro y; cases y <;> rfl
    | cons a x ih =>
      intro y
      cases y with
      | nil => rfl
      | cons b y =>
        have e1 := Tot.val.anti a b
        have e2 := ih y
        unfold cmpR thenC
        by_cases i1 : cmpV a b = 0
        · have : cmpV b a = 0 := by omega
          rw [if_pos i1, if_pos this, e2]
        · have : cmpV b a ≠ 0 := by omega
          rw [if_neg i1, if_neg this, e1]
  have key : ∀ x y z, cmpR x y ≤ 0 → cmpR y z ≤ 0 → cmpR x z ≤ 0 ∧ (cmpR x y < 0 ∨ cmpR y z < 0 → cmpR x z < 0) := fun x => by
    induction x with
    | nil =>
      intro y z h1 h2
      cases z with
      | nil =>
        cases y with
        | nil => exact ⟨h1, fun h => by rcases h with h | h <;> exact absurd h (by unfold cmpR; omega)⟩
        | cons b y => exact absurd h2 (by unfold cmpR; omega)
      | cons c z => exact ⟨by unfold cmpR; omega, fun _ => by unfold cmpR; omega⟩
    | cons a x ih =>
      intro y z h1 h2
      cases y with
      | nil => exact absurd h1 (by unfold cmpR; omega)
      | cons b y =>
        cases z with
        | nil => exact absurd h2 (by unfold cmpR; omega)
        | cons c z =>
          exact thenC_key Tot.val (ih y z) h1 h2
  exact ⟨anti, fun x y z h1 h2 => (key x y z h1 h2).1, fun x y z h1 h2 => (key x y z (by omega) h2).2 (.inl h1), fun x y z h1 h2 => (key x y z h1 (by omega)).2 (.inr h2)⟩
theorem cmpI_zero {x y : Int} (h : cmpI x y = 0) : x = y := by unfold cmpI at h; split at h <;> (try split at h) <;> omega
theorem cmpS_zero {x y : ByteArray} (h : cmpS x y = 0) : x = y := by
  unfold cmpS at h
  split at h
  · omega
  · split at h
    · omega
    · exact ltS_eq ‹_› ‹_›
theorem thenC_zero {c d : Int} (h : thenC c d = 0) : c = 0 ∧ d = 0 := by
  unfold thenC at h
  split at h
  · exact ⟨‹_›, h⟩
  · exact absurd h ‹_›
theorem empty_of_size {s : ByteArray} (h : s.size = 0) : s = ByteArray.empty := by
  cases s with
  | mk d =>
    have : d = #[] := Array.eq_empty_of_size_eq_zero h
    subst this; rfl
theorem cmpV_eq {a b : Val} (ha : okV a = true) (hb : okV b = true) (h : cmpV a b = 0) : a = b := by
  obtain ⟨h1, h2⟩ := thenC_zero h
  obtain ⟨h2, h3⟩ := thenC_zero h2
  have h1 := cmpI_zero h1
  have h2 := cmpI_zero h2
  have h3 := cmpS_zero h3
  unfold okV at ha hb
  simp only [Bool.or_eq_true, Bool.and_eq_true, beq_iff_eq, decide_eq_true_eq] at ha hb
  obtain ⟨ak, an, as⟩ := a
  obtain ⟨bk, bn, bs⟩ := b
  simp only [nnV, ssV, cls] at *
  rcases ha with (ha | ha) | ha <;> rcases hb with (hb | hb) | hb <;> obtain ⟨ha1, ha2⟩ := ha <;> obtain ⟨hb1, hb2⟩ := hb <;> simp_all [empty_of_size]
theorem cmpR_eq : ∀ {x y : Rw}, x.all okV = true → y.all okV = true → cmpR x y = 0 → x = y
  | [], [], _, _, _ => rfl
  | [], _ :: _, _, _, h => by unfold cmpR at h; omega
  | _ :: _, [], _, _, h => by unfold cmpR at h; omega
  | a :: x, b :: y, ha, hb, h => by
    obtain ⟨h1, h2⟩ := thenC_zero (show thenC (cmpV a b) (cmpR x y) = 0 from h)
    rw [List.all_cons, Bool.and_eq_true] at ha hb
    rw [cmpV_eq ha.1 hb.1 h1, cmpR_eq ha.2 hb.2 h2]
theorem okR_all {r : Rw} (h : okR r = true) : r.all okV = true := by unfold okR at h; rw [Bool.and_eq_true] at h; exact h.1
theorem okR_eq {x y : Rw} (hx : okR x = true) (hy : okR y = true) (h : cmpR x y = 0) : x = y := cmpR_eq (okR_all hx) (okR_all hy) h

/-! Bags. -/
def numB (n : Int) : Bool := decide (n ≠ 0) && (decide (-1000000 ≤ n) && decide (n ≤ 1000000))
/-- How often a row is there. -/
def look (l : Bg) (r : Rw) : Int := match l with
  | [] => 0
  | x :: l => if x.1 = r then x.2 else look l r
/-- All rows are valid, and they ascend. -/
structure Asc (l : Bg) : Prop where
  ok : ∀ x ∈ l, okR x.1 = true
  up : l.Pairwise (fun x y => cmpR x.1 y.1 < 0)
theorem Asc.nil : Asc [] := ⟨by simp, List.Pairwise.nil⟩
theorem Asc.tail {x : Rw × Int} {l : Bg} (h : Asc (x :: l)) : Asc l := ⟨fun y hy => h.ok y (List.mem_cons_of_mem _ hy), (List.pairwise_cons.1 h.up).2⟩
theorem cmp_ne {x y : Rw} (h : cmpR x y < 0) : x ≠ y := fun e => by subst e; have := Tot.row.self x; omega
theorem look_none {l : Bg} {r : Rw} (h : ∀ x ∈ l, cmpR r x.1 < 0) : look l r = 0 := by
  induction l with
  | nil => rfl
  | cons x l ih =>
    rw [look, if_neg (fun e => by have := h x (by simp); rw [e] at this; have := Tot.row.self r; omega)]
    exact ih fun y hy => h y (List.mem_cons_of_mem _ hy)
theorem look_far {l : Bg} {r : Rw} (h : ∀ x ∈ l, x.1 ≠ r) : look l r = 0 := by
  induction l with
  | nil => rfl
  | cons x l ih =>
    rw [look, if_neg (h x (by simp))]
    exact ih fun y hy => h y (List.mem_cons_of_mem _ hy)
theorem Asc.head {x : Rw × Int} {l : Bg} (h : Asc (x :: l)) : ∀ y ∈ l, cmpR x.1 y.1 < 0 := (List.pairwise_cons.1 h.up).1
/-- Two bags without zeros that tell the same of each row are one. -/
theorem Asc.ext : ∀ {a b : Bg}, Asc a → Asc b → (∀ x ∈ a, x.2 ≠ 0) → (∀ x ∈ b, x.2 ≠ 0) → (∀ r, look a r = look b r) → a = b
  | [], [], _, _, _, _, _ => rfl
  | [], y :: b, _, _, _, h4, h => by
    have := h y.1
    rw [look, look, if_pos rfl] at this
    exact absurd this.symm (h4 y (by simp))
  | x :: a, [], _, _, h3, _, h => by
    have := h x.1
    rw [look, look, if_pos rfl] at this
    exact absurd this (h3 x (by simp))
  | x :: a, y :: b, h1, h2, h3, h4, h => by
    have hx := h x.1
    have hy := h y.1
    rw [look, if_pos rfl] at hx
    rw [look, look, if_pos rfl] at hy
    have hle : ¬ cmpR x.1 y.1 < 0 := fun hlt => by
      rw [look_none (l := y :: b) (r := x.1) (fun z hz => by
        rcases List.mem_cons.1 hz with rfl | hz
        · exact hlt
        · exact Tot.row.lt1 _ _ _ hlt (Int.le_of_lt (h2.head z hz)))] at hx
      exact h3 x (by simp) hx
    have hge : ¬ cmpR y.1 x.1 < 0 := fun hlt => by
      rw [if_neg (fun e => cmp_ne hlt e.symm), look_none (l := a) (r := y.1) (fun z hz => Tot.row.lt1 _ _ _ hlt (Int.le_of_lt (h1.head z hz)))] at hy
      exact h4 y (by simp) hy.symm
    have he : x.1 = y.1 := okR_eq (h1.ok x (by simp)) (h2.ok y (by simp)) (by have := Tot.row.anti x.1 y.1; omega)
    rw [look, if_pos he.symm] at hx
    have hxy : x = y := Prod.ext he hx
    subst hxy
    rw [Asc.ext h1.tail h2.tail (fun z hz => h3 z (List.mem_cons_of_mem _ hz)) (fun z hz => h4 z (List.mem_cons_of_mem _ hz)) fun r => ?_]
    by_cases hr : x.1 = r
    · rw [← hr, look_none (h1.head), look_none (h2.head)]
    · have := h r
      rwa [look, look, if_neg hr, if_neg hr] at this

/-- Do rows ascend from p on, all items valid? -/
def ascI : Option Rw → Bg → Bool
  | _, [] => true
  | none, x :: l => numB x.2 && okR x.1 && ascI (some x.1) l
  | some p, x :: l => numB x.2 && okR x.1 && decide (cmpR p x.1 < 0) && ascI (some x.1) l
def okBag (l : Bg) : Bool := ascI none l && decide (l.length ≤ 400)
theorem ascI_some {p : Rw} {l : Bg} (h : ascI (some p) l = true) : Asc l ∧ (∀ x ∈ l, numB x.2 = true) ∧ ∀ x ∈ l, cmpR p x.1 < 0 := by
  induction l generalizing p with
  | nil => exact ⟨Asc.nil, by simp, by simp⟩
  | cons x l ih =>
    rw [ascI] at h
    simp only [Bool.and_eq_true, decide_eq_true_eq] at h
    obtain ⟨⟨⟨h1, h2⟩, h3⟩, h4⟩ := h
    obtain ⟨i1, i2, i3⟩ := ih h4
    refine ⟨⟨fun y hy => ?_, List.pairwise_cons.2 ⟨i3, i1.up⟩⟩, fun y hy => ?_, fun y hy => ?_⟩
    · rcases List.mem_cons.1 hy with rfl | hy
      · exact h2
      · exact i1.ok y hy
    · rcases List.mem_cons.1 hy with rfl | hy
      · exact h1
      · exact i2 y hy
    · rcases List.mem_cons.1 hy with rfl | hy
      · exact h3
      · exact Tot.row.lt1 _ _ _ h3 (Int.le_of_lt (i3 y hy))
theorem okBag_asc {l : Bg} (h : okBag l = true) : Asc l ∧ (∀ x ∈ l, numB x.2 = true) ∧ l.length ≤ 400 := by
  unfold okBag at h
  rw [Bool.and_eq_true, decide_eq_true_eq] at h
  refine ⟨?_, ?_, h.2⟩
  all_goals
    cases l with
    | nil => first | exact Asc.nil | simp
    | cons x l =>
      have h1 := h.1
      rw [ascI] at h1
      simp only [Bool.and_eq_true] at h1
      obtain ⟨⟨a1, a2⟩, a3⟩ := h1
      obtain ⟨i1, i2, i3⟩ := ascI_some a3
      first
        | (refine ⟨fun y hy => ?_, List.pairwise_cons.2 ⟨i3, i1.up⟩⟩
           rcases List.mem_cons.1 hy with rfl | hy
           · exact a2
           · exact i1.ok y hy)
        | (intro y hy
           rcases List.mem_cons.1 hy with rfl | hy
           · exact a1
           · exact i2 y hy)
theorem numB_ne {n : Int} (h : numB n = true) : n ≠ 0 ∧ -1000000 ≤ n ∧ n ≤ 1000000 := by
  unfold numB at h
  simpa using h
end Go.Proofs.YtiioiajcoiaalaaGreatDoor
