/-
  Words for memory that all texts of this family use: a slice that reads as a list of cells or of structs; a block that is known whole; an append of structs. Plain theorems over any program; no condition.
  Values, rows and bags as plain data: the order of rows; bags that ascend are known by how often each row is there.
  Bags as plain data: the rows of two bags, each once (what the program goes through), a row put into a bag (what the reference does), and that both tell the same.
  The walks of the program's functions over values: within, ValidValue, kind, cmp.Compare, CompareValues.
  The walks of the program's functions over rows: row.Valid, row.Compare with their closures, and Go's slices.ContainsFunc and CompareFunc at rows.
  A region that draws its order, whose operations only read and whose callees turn nothing that was there (they may lay blocks): one walk serves every order. Plain theorems over any program; no condition.
-/
import Derived.Below
import Derived.Laws.OwnMore
import Derived.Deep.AppendLies
import Derived.Deep.Draws
import Derived.Laws.Rows
import Derived.Maps.AppendAt
import Derived.RegionTactic
import Derived.OwnWalk
import Derived.Lib.Hide
import Derived.Test.YtoapjidpfghnlaaGreatDoorProg
import Derived.WalkKit
import Derived.Deep.QuietTactic
import Derived.BigQuiet
import Derived.Outline
import Derived.Sort.Walk0
import Derived.Laws.Cover1
namespace Go.Proofs.YtoapjidpfghnlaaGreatDoor

section
open Go.RowKit

theorem hide {p : Prop} (h : p) : Hid p := h
theorem ret_int {k : IntKind} {a b : Int} (h : a = b) : Ending.returned (.int k a) = .returned (.int k b) := by rw [h]
theorem ret_bool {a b : Bool} (h : a = b) : Ending.returned (.bool a) = .returned (.bool b) := by rw [h]

theorem add_plain (b o n : Nat) : (⟨b, o, none⟩ : Addr).add n = ⟨b, o + n, none⟩ := by
  unfold Addr.add; split <;> simp_all

/-- The slice value '.slice A n c' holds the cells xs ('size' cells an element), in a block below B. -/
def Reads (w : World) (B size : Nat) (A : Option Addr) (n : Nat) (xs : List Value) : Prop :=
  xs.length = n * size ∧ (0 < n → ∃ b off, A = some ⟨b, off, none⟩ ∧ b < B ∧ ∀ j u, xs[j]? = some u → w.cell? ⟨b, off + j, none⟩ = some u)

section
variable {w w' : World} {B B' size n : Nat} {A : Option Addr} {xs : List Value}
theorem Reads.none_ : Reads w B size A 0 [] := ⟨by simp, fun h => absurd h (by omega)⟩
theorem Reads.keep (h : Reads w B size A n xs) (hk : ∀ p : Addr, p.block < B → w'.cell? p = w.cell? p) : Reads w' B size A n xs :=
  ⟨h.1, fun hn => by
    obtain ⟨b, off, e, hb, hc⟩ := h.2 hn
    exact ⟨b, off, e, hb, fun j u hu => (hk ⟨b, off + j, none⟩ hb).trans (hc j u hu)⟩⟩
theorem Reads.more (h : Reads w B size A n xs) (hB : B ≤ B') : Reads w B' size A n xs :=
  ⟨h.1, fun hn => by
    obtain ⟨b, off, e, hb, hc⟩ := h.2 hn
    exact ⟨b, off, e, by omega, hc⟩⟩
theorem Reads.below (h : Reads w B size A n xs) (hb : Below B w w') : Reads w' B size A n xs := h.keep fun _ hp => hb.cell hp
/-- The usual step: what reads in w reads in w', at w''s own bound. -/
theorem Reads.up (h : Reads w w.heap.size size A n xs) (hb : Below w.heap.size w w') : Reads w' w'.heap.size size A n xs := (h.below hb).more hb.size
theorem Reads.alloc (h : Reads w B size A n xs) (hB : B ≤ w.heap.size) (o : Obj) : Reads (w.alloc o) B size A n xs := h.keep fun p hp => World.cell?_alloc_lt w o p (by omega)
/-- A slice of the call's own reads. -/
theorem Reads.of_own {base : Nat} {e : TypeId} {c : Nat} (h : w.ownsRow base e size (.slice A n c) n xs) : Reads w w.heap.size size A n xs := by
  refine ⟨h.1, fun hn => ?_⟩
  obtain ⟨g, cap, hv, _, hlt⟩ := h.form hn
  have hA : A = some ⟨g, 0, none⟩ := by injection hv
  subst hA
  exact ⟨_, _, rfl, hlt, fun j u hu => by rw [← add_plain]; exact h.cells (g := g) rfl j u hu⟩
theorem own_form {base : Nat} {e : TypeId} {v : Value} (h : w.ownsRow base e size v n xs) : ∃ A c, v = .slice A n c ∧ Reads w w.heap.size size A n xs := by
  rcases h.2 with ⟨rfl, rfl⟩ | ⟨g, cap, cur, rfl, _⟩
  · exact ⟨none, 0, rfl, Reads.of_own (c := 0) h⟩
  · exact ⟨_, cap, rfl, Reads.of_own h⟩
end

/-! Structs: an element is 'enc x', k cells. -/
section
variable {α : Type} {enc : α → List Value} {k : Nat} (hk : ∀ x, (enc x).length = k)
include hk
theorem flat_length (xs : List α) : (xs.flatMap enc).length = xs.length * k := by
  induction xs with
  | nil => simp
  | cons x xs ih => simp [hk, ih, Nat.add_mul, Nat.add_comm]
theorem flat_get (xs : List α) (i j : Nat) (x : α) (hx : xs[i]? = some x) (hj : j < k) : (xs.flatMap enc)[i * k + j]? = (enc x)[j]? := by
  induction xs generalizing i with
  | nil => simp at hx
  | cons y xs ih =>
    rw [List.flatMap_cons]
    cases i with
    | zero =>
      simp at hx; subst hx
      rw [List.getElem?_append_left (by rw [hk]; omega)]; congr 1; omega
    | succ i =>
      rw [List.getElem?_append_right (by rw [hk, Nat.add_mul]; omega), hk]
      rw [show (i + 1) * k + j - k = i * k + j by rw [Nat.add_mul]; omega]
      exact ih i (by simpa using hx)
/-- Element i of a slice of structs: its cells. -/
theorem Reads.elem {w : World} {B n : Nat} {A : Option Addr} {xs : List α} (h : Reads w B k A n (xs.flatMap enc)) (hlen : xs.length = n) {i : Nat} (hi : i < n) :
    ∃ b off x, A = some ⟨b, off, none⟩ ∧ b < B ∧ xs[i]? = some x ∧ ∀ j u, (enc x)[j]? = some u → w.cell? ⟨b, off + (i * k + j), none⟩ = some u := by
  obtain ⟨b, off, e, hb, hc⟩ := h.2 (by omega)
  refine ⟨b, off, xs[i]'(by omega), e, hb, List.getElem?_eq_getElem (by omega), fun j u hu => hc _ u ?_⟩
  have hj : j < k := by
    rw [← hk (xs[i]'(by omega))]
    exact (List.getElem?_eq_some_iff.1 hu).1
  rw [flat_get hk xs i j _ (List.getElem?_eq_getElem (by omega)) hj]; exact hu
end
theorem Reads.len {α : Type} {enc : α → List Value} {k : Nat} {w : World} {B n : Nat} {A : Option Addr} {xs : List α} (h : Reads w B k A n (xs.flatMap enc)) (hk : ∀ x, (enc x).length = k) (h0 : 0 < k) : xs.length = n := by
  have := h.1; rw [flat_length hk] at this; exact Nat.eq_of_mul_eq_mul_right h0 this

/-! One cell an element. -/
theorem Reads.len1 {α : Type} {f : α → Value} {w : World} {B n : Nat} {A : Option Addr} {xs : List α} (h : Reads w B 1 A n (xs.map f)) : xs.length = n := by
  have := h.1; simpa using this
theorem Reads.at1 {α : Type} {f : α → Value} {w : World} {B n : Nat} {A : Option Addr} {xs : List α} (h : Reads w B 1 A n (xs.map f)) {i : Nat} (hi : i < n) :
    ∃ b off x, A = some ⟨b, off, none⟩ ∧ b < B ∧ xs[i]? = some x ∧ w.cell? ⟨b, off + i, none⟩ = some (f x) := by
  obtain ⟨b, off, e, hb, hc⟩ := h.2 (by omega)
  have hl := h.len1
  exact ⟨b, off, xs[i]'(by omega), e, hb, List.getElem?_eq_getElem (by omega), hc i _ (by simp [List.getElem?_eq_getElem (show i < xs.length by omega)])⟩

theorem take_all {α : Type} {l : List α} {n : Nat} (h : l.length = n) : l.take n = l := List.take_of_length_le (by omega)
theorem take_snoc' {α : Type} {l : List α} {k : Nat} {x : α} (h : l[k]? = some x) : l.take (k + 1) = l.take k ++ [x] := by
  rw [List.take_add_one, h]; rfl

/-! A block that is known whole. -/
def Blk (w : World) (g : Nat) (t : TypeId) (cs : Array Value) : Prop := w.heap[g]? = some (.cells cs t (0, 0))
section
variable {w w' : World} {g : Nat} {t : TypeId} {cs : Array Value}
theorem Blk.lt (h : Blk w g t cs) : g < w.heap.size := by
  rcases Nat.lt_or_ge g w.heap.size with hlt | hge
  · exact hlt
  · unfold Blk at h; rw [Array.getElem?_eq_none hge] at h; cases h
theorem Blk.cell (h : Blk w g t cs) (i : Nat) : w.cell? ⟨g, i, none⟩ = cs[i]? := cell_of_row w g i cs t (0, 0) h
theorem Blk.frozen (h : Blk w g t cs) (i : Nat) : w.frozen? ⟨g, i, none⟩ = false := by
  unfold Blk at h
  simp [World.frozen?, h]
theorem Blk.new (w : World) (t : TypeId) (cs : Array Value) : Blk (w.alloc (.cells cs t)) w.heap.size t cs := heap_alloc_new w _
theorem Blk.alloc (h : Blk w g t cs) (o : Obj) : Blk (w.alloc o) g t cs := (Below.heap_alloc w o g h.lt).trans h
theorem Blk.set_ (h : Blk w g t cs) (i : Nat) (u : Value) : Blk (w.setCell ⟨g, i, none⟩ u) g t (cs.setIfInBounds i u) := by
  unfold Blk at h ⊢
  simp [World.setCell, Array.getElem?_modify, h]
theorem Blk.below {B : Nat} (h : Blk w g t cs) (hb : Below B w w') (hg : g < B) : Blk w' g t cs := (hb.block g hg).trans h
theorem Blk.grown {row : Option Nat} (h : Blk w g t cs) (hb : w.grownBy w' row) (hg : some g ≠ row) : Blk w' g t cs := (hb.block g h.lt hg).trans h
end

theorem below_drewN {B : Nat} {a w : World} (h : Below B a w) (n : Nat) : Below B a (w.drewN n) := ⟨h.os, h.tape, h.output, h.size, h.block⟩
/-- One call behind another. -/
theorem bstep {a b c : World} (h : Below a.heap.size a b) (k : Below b.heap.size b c) : Below a.heap.size a c := h.trans (k.mono h.size)
/-- An append to a row of the call's own keeps what lay before the call. -/
theorem below_append {B : Nat} {a w w1 : World} {e : TypeId} {size n : Nat} {v : Value} {xs : List Value} (h : Below B a w) (hown : w.ownsRow B e size v n xs) (hB : B ≤ w.heap.size) (hg : w.grownBy w1 v.ownBlock) : Below B a w1 :=
  h.grown hg hB fun k hk => (hown.lt k hk).1

/-- The call hands back a slice of n elements that reads as 'cells', and turns nothing that was there. -/
def RetSl (w : World) (size n : Nat) (cells : List Value) (e : Ending) (w' : World) : Prop :=
  ∃ A c, e = .returned (.slice A n c) ∧ Reads w' w'.heap.size size A n cells ∧ Below w.heap.size w w'
/-- The call hands back a slice that owns its row: it lies in blocks that are new. -/
def RetOwn (w : World) (t : TypeId) (size n : Nat) (cells : List Value) (e : Ending) (w' : World) : Prop :=
  ∃ A c, e = .returned (.slice A n c) ∧ w'.ownsRow w.heap.size t size (.slice A n c) n cells ∧ Below w.heap.size w w'
theorem own_mono {w : World} {base base' : Nat} {e : TypeId} {size n : Nat} {v : Value} {xs : List Value} (h : w.ownsRow base e size v n xs) (hb : base' ≤ base) : w.ownsRow base' e size v n xs := by
  refine ⟨h.1, ?_⟩
  rcases h.2 with h1 | ⟨g, cap, cur, h1, h2, h3⟩
  · exact .inl h1
  · exact .inr ⟨g, cap, cur, h1, by omega, h3⟩
theorem own_below {w w' : World} {base : Nat} {e : TypeId} {size n : Nat} {v : Value} {xs : List Value} (h : w.ownsRow base e size v n xs) (hb : Below w.heap.size w w') : w'.ownsRow base e size v n xs :=
  h.kept (row := none) ⟨hb.os, hb.tape, hb.output, hb.size, fun k hk _ => hb.block k hk⟩ (by cases v.ownBlock <;> simp)
/-- A slice literal. -/
theorem own_lit (w : World) (e : TypeId) (size n : Nat) (cs : Array Value) (hs : cs.size = n * size) (hn : n ≤ maxLen) {base : Nat} (hb : base ≤ w.heap.size) :
    (w.alloc (.cells cs e)).ownsRow base e size (.slice (some ⟨w.heap.size, 0, none⟩) n n) n cs.toList :=
  ⟨by simpa using hs, .inr ⟨w.heap.size, n, cs, rfl, hb, heap_alloc_new w _, Nat.le_refl _, hn, hs, by rw [List.take_of_length_le (by simp [hs])]⟩⟩
/-- .. and an error beside it. -/
def RetSlE (w : World) (size n : Nat) (cells : List Value) (err : Int) (e : Ending) (w' : World) : Prop :=
  ∃ A c, e = .returned (.tuple #[.slice A n c, .int .i64 err]) ∧ Reads w' w'.heap.size size A n cells ∧ Below w.heap.size w w'
/-- The call hands back a value; at most it has drawn. -/
def RetQ (w : World) (v : Value) (e : Ending) (w' : World) : Prop := e = .returned v ∧ ∃ n, w' = w.drewN n
/-- The call hands back a value, and turns nothing that was there. -/
def RetV (w : World) (v : Value) (e : Ending) (w' : World) : Prop := e = .returned v ∧ Below w.heap.size w w'
end

section
structure Val where
  k : Int
  n : Int
  s : ByteArray
  deriving DecidableEq
abbrev Rw := List Val
abbrev Bg := List (Rw × Int)
def ltS (s t : ByteArray) : Prop := s.data.toList < t.data.toList
instance (s t : ByteArray) : Decidable (ltS s t) := inferInstanceAs (Decidable (s.data.toList < t.data.toList))
def cmpI (x y : Int) : Int := if x < y then -1 else if y < x then 1 else 0
def cmpS (s t : ByteArray) : Int := if ltS s t then -1 else if ltS t s then 1 else 0
def thenC (c d : Int) : Int := if c = 0 then d else c
def cls (v : Val) : Int := if v.k = 1 ∨ v.k = 2 then v.k else 0
def nnV (v : Val) : Int := if cls v = 1 then v.n else 0
def ssV (v : Val) : ByteArray := if cls v = 2 then v.s else ByteArray.empty
def cmpV (a b : Val) : Int := thenC (cmpI (cls a) (cls b)) (thenC (cmpI (nnV a) (nnV b)) (cmpS (ssV a) (ssV b)))
def cmpR : Rw → Rw → Int
  | [], [] => 0
  | [], _ :: _ => -1
  | _ :: _, [] => 1
  | a :: x, b :: y => thenC (cmpV a b) (cmpR x y)
def okV (v : Val) : Bool := (v.k == 0 && v.n == 0 && v.s.size == 0) || (v.k == 1 && v.s.size == 0 && decide (-1000000000000000 ≤ v.n) && decide (v.n ≤ 1000000000000000)) || (v.k == 2 && v.n == 0 && decide (v.s.size ≤ 200))
def okR (r : Rw) : Bool := r.all okV && decide (r.length ≤ 8)

/-- A comparison. -/
structure Tot {α : Type} (f : α → α → Int) : Prop where
  anti : ∀ x y, f y x = - f x y
  le : ∀ x y z, f x y ≤ 0 → f y z ≤ 0 → f x z ≤ 0
  lt1 : ∀ x y z, f x y < 0 → f y z ≤ 0 → f x z < 0
  lt2 : ∀ x y z, f x y ≤ 0 → f y z < 0 → f x z < 0
theorem Tot.self {α : Type} {f : α → α → Int} (h : Tot f) (x : α) : f x x = 0 := by have := h.anti x x; omega
theorem Tot.int : Tot cmpI := by
  constructor <;> intro x y <;> (try intro z) <;> unfold cmpI <;> (try intro h1 h2) <;> (repeat split at *) <;> omega
theorem ltS_irrefl (s : ByteArray) : ¬ ltS s s := List.lt_irrefl _
theorem ltS_trans {a b c : ByteArray} (h : ltS a b) (k : ltS b c) : ltS a c := List.lt_trans h k
theorem ltS_eq {a b : ByteArray} (h : ¬ ltS a b) (k : ¬ ltS b a) : a = b := by
  have : a.data.toList = b.data.toList := List.le_antisymm (List.not_lt.1 k) (List.not_lt.1 h)
  cases a; cases b
  congr 1
  exact Array.toList_inj.1 this
theorem Tot.str : Tot cmpS := by
  have key : ∀ x y z, cmpS x y ≤ 0 → cmpS y z ≤ 0 → cmpS x z ≤ 0 ∧ (cmpS x y < 0 ∨ cmpS y z < 0 → cmpS x z < 0) := fun x y z h1 h2 => by
    have a1 : ¬ ltS y x := fun h => by
      unfold cmpS at h1
      rw [if_neg (fun k => ltS_irrefl _ (ltS_trans h k)), if_pos h] at h1; omega
    have a2 : ¬ ltS z y := fun h => by
      unfold cmpS at h2
      rw [if_neg (fun k => ltS_irrefl _ (ltS_trans h k)), if_pos h] at h2; omega
    by_cases b1 : ltS x y
    · have : ltS x z := by
        by_cases b2 : ltS y z
        · exact ltS_trans b1 b2
        · rw [← ltS_eq b2 a2]; exact b1
      have e : cmpS x z = -1 := by unfold cmpS; rw [if_pos this]
      rw [e]; omega
    · have e1 := ltS_eq b1 a1
      subst e1
      have e0 : cmpS x x = 0 := by unfold cmpS; rw [if_neg (ltS_irrefl _), if_neg (ltS_irrefl _)]
      refine ⟨h2, fun h => ?_⟩
      omega
  refine ⟨fun x y => ?_, fun x y z h1 h2 => (key x y z h1 h2).1, fun x y z h1 h2 => (key x y z (by omega) h2).2 (.inl h1), fun x y z h1 h2 => (key x y z h1 (by omega)).2 (.inr h2)⟩
  unfold cmpS
  by_cases b1 : ltS x y
  · have b2 : ¬ ltS y x := fun k => ltS_irrefl _ (ltS_trans b1 k)
    simp [b1, b2]
  · by_cases b2 : ltS y x
    · simp [b1, b2]
    · simp [b1, b2]
theorem Tot.comap {α β : Type} {f : β → β → Int} (h : Tot f) (g : α → β) : Tot (fun x y => f (g x) (g y)) := ⟨fun _ _ => h.anti _ _, fun _ _ _ => h.le _ _ _, fun _ _ _ => h.lt1 _ _ _, fun _ _ _ => h.lt2 _ _ _⟩
theorem thenC_key {α : Type} {f : α → α → Int} (hf : Tot f) {x y z : α} {gxy gyz gxz : Int} (hg : gxy ≤ 0 → gyz ≤ 0 → gxz ≤ 0 ∧ (gxy < 0 ∨ gyz < 0 → gxz < 0)) (h1 : thenC (f x y) gxy ≤ 0) (h2 : thenC (f y z) gyz ≤ 0) :
    thenC (f x z) gxz ≤ 0 ∧ (thenC (f x y) gxy < 0 ∨ thenC (f y z) gyz < 0 → thenC (f x z) gxz < 0) := by
  unfold thenC at *
  by_cases i1 : f x y = 0
  · rw [if_pos i1] at h1
    by_cases i2 : f y z = 0
    · rw [if_pos i2] at h2
      have i3 : f x z = 0 := by
        have a := hf.le x y z (by omega) (by omega)
        have b := hf.le z y x (by rw [hf.anti y z]; omega) (by rw [hf.anti x y]; omega)
        rw [hf.anti x z] at b
        omega
      rw [if_pos i1, if_pos i2, if_pos i3]
      exact hg h1 h2
    · rw [if_neg i2] at h2
      have i3 := hf.lt2 x y z (by omega) (by omega)
      rw [if_neg (show f x z ≠ 0 by omega)]
      omega
  · rw [if_neg i1] at h1
    have h2' : f y z ≤ 0 := by
      by_cases i2 : f y z = 0
      · omega
      · rw [if_neg i2] at h2; exact h2
    have i3 := hf.lt1 x y z (by omega) h2'
    rw [if_neg (show f x z ≠ 0 by omega)]
    omega
theorem Tot.seq {α : Type} {f g : α → α → Int} (hf : Tot f) (hg : Tot g) : Tot (fun x y => thenC (f x y) (g x y)) := by
  have key : ∀ x y z, thenC (f x y) (g x y) ≤ 0 → thenC (f y z) (g y z) ≤ 0 → thenC (f x z) (g x z) ≤ 0 ∧ (thenC (f x y) (g x y) < 0 ∨ thenC (f y z) (g y z) < 0 → thenC (f x z) (g x z) < 0) := fun x y z h1 h2 =>
    thenC_key hf (fun a b => ⟨hg.le x y z a b, fun h => by
      rcases h with h | h
      · exact hg.lt1 x y z h b
      · exact hg.lt2 x y z a h⟩) h1 h2
  refine ⟨fun x y => ?_, fun x y z h1 h2 => (key x y z h1 h2).1, fun x y z h1 h2 => (key x y z (by omega) h2).2 (.inl h1), fun x y z h1 h2 => (key x y z h1 (by omega)).2 (.inr h2)⟩
  have e1 := hf.anti x y
  have e2 := hg.anti x y
  unfold thenC
  by_cases i1 : f x y = 0
  · have : f y x = 0 := by omega
    rw [if_pos i1, if_pos this, e2]
  · have : f y x ≠ 0 := by omega
    rw [if_neg i1, if_neg this, e1]
theorem Tot.val : Tot cmpV := (Tot.int.comap cls).seq ((Tot.int.comap nnV).seq (Tot.str.comap ssV))
theorem Tot.row : Tot cmpR := by
  have anti : ∀ x y, cmpR y x = - cmpR x y := fun x => by
    induction x with
    | nil => intro y; cases y <;> rfl
    | cons a x ih =>
      intro y
      cases y with
      | nil => rfl
      | cons b y =>
        have e1 := Tot.val.anti a b
        have e2 := ih y
        unfold cmpR thenC
        by_cases i1 : cmpV a b = 0
        · have : cmpV b a = 0 := by omega
          rw [if_pos i1, if_pos this, e2]
        · have : cmpV b a ≠ 0 := by omega
          rw [if_neg i1, if_neg this, e1]
  have key : ∀ x y z, cmpR x y ≤ 0 → cmpR y z ≤ 0 → cmpR x z ≤ 0 ∧ (cmpR x y < 0 ∨ cmpR y z < 0 → cmpR x z < 0) := fun x => by
    induction x with
    | nil =>
      intro y z h1 h2
      cases z with
      | nil =>
        cases y with
        | nil => exact ⟨h1, fun h => by rcases h with h | h <;> exact absurd h (by unfold cmpR; omega)⟩
        | cons b y => exact absurd h2 (by unfold cmpR; omega)
      | cons c z => exact ⟨by unfold cmpR; omega, fun _ => by unfold cmpR; omega⟩
    | cons a x ih =>
      intro y z h1 h2
      cases y with
      | nil => exact absurd h1 (by unfold cmpR; omega)
      | cons b y =>
        cases z with
        | nil => exact absurd h2 (by unfold cmpR; omega)
        | cons c z =>
          exact thenC_key Tot.val (ih y z) h1 h2
  exact ⟨anti, fun x y z h1 h2 => (key x y z h1 h2).1, fun x y z h1 h2 => (key x y z (by omega) h2).2 (.inl h1), fun x y z h1 h2 => (key x y z h1 (by omega)).2 (.inr h2)⟩
theorem cmpI_zero {x y : Int} (h : cmpI x y = 0) : x = y := by unfold cmpI at h; split at h <;> (try split at h) <;> omega
theorem cmpS_zero {x y : ByteArray} (h : cmpS x y = 0) : x = y := by
  unfold cmpS at h
  split at h
  · omega
  · split at h
    · omega
    · exact ltS_eq ‹_› ‹_›
theorem thenC_zero {c d : Int} (h : thenC c d = 0) : c = 0 ∧ d = 0 := by
  unfold thenC at h
  split at h
  · exact ⟨‹_›, h⟩
  · exact absurd h ‹_›
theorem empty_of_size {s : ByteArray} (h : s.size = 0) : s = ByteArray.empty := by
  cases s with
  | mk d =>
    have : d = #[] := Array.eq_empty_of_size_eq_zero h
    subst this; rfl
theorem cmpV_eq {a b : Val} (ha : okV a = true) (hb : okV b = true) (h : cmpV a b = 0) : a = b := by
  obtain ⟨h1, h2⟩ := thenC_zero h
  obtain ⟨h2, h3⟩ := thenC_zero h2
  have h1 := cmpI_zero h1
  have h2 := cmpI_zero h2
  have h3 := cmpS_zero h3
  unfold okV at ha hb
  simp only [Bool.or_eq_true, Bool.and_eq_true, beq_iff_eq, decide_eq_true_eq] at ha hb
  obtain ⟨ak, an, aS⟩ := a
  obtain ⟨bk, bn, bs⟩ := b
  simp only [nnV, ssV, cls] at *
  rcases ha with (ha | ha) | ha <;> rcases hb with (hb | hb) | hb <;> obtain ⟨ha1, ha2⟩ := ha <;> obtain ⟨hb1, hb2⟩ := hb <;> simp_all [empty_of_size]
theorem cmpR_eq : ∀ {x y : Rw}, x.all okV = true → y.all okV = true → cmpR x y = 0 → x = y
  | [], [], _, _, _ => rfl
  | [], _ :: _, _, _, h => by unfold cmpR at h; omega
  | _ :: _, [], _, _, h => by unfold cmpR at h; omega
  | a :: x, b :: y, ha, hb, h => by
    obtain ⟨h1, h2⟩ := thenC_zero (show thenC (cmpV a b) (cmpR x y) = 0 from h)
    rw [List.all_cons, Bool.and_eq_true] at ha hb
    rw [cmpV_eq ha.1 hb.1 h1, cmpR_eq ha.2 hb.2 h2]
theorem okR_all {r : Rw} (h : okR r = true) : r.all okV = true := by unfold okR at h; rw [Bool.and_eq_true] at h; exact h.1
theorem okR_eq {x y : Rw} (hx : okR x = true) (hy : okR y = true) (h : cmpR x y = 0) : x = y := cmpR_eq (okR_all hx) (okR_all hy) h

/-! Bags. -/
def numB (n : Int) : Bool := decide (n ≠ 0) && (decide (-1000000 ≤ n) && decide (n ≤ 1000000))
/-- How often a row is there. -/
def look (l : Bg) (r : Rw) : Int := match l with
  | [] => 0
  | x :: l => if x.1 = r then x.2 else look l r
/-- All rows are valid, and they ascend. -/
structure Asc (l : Bg) : Prop where
  ok : ∀ x ∈ l, okR x.1 = true
  up : l.Pairwise (fun x y => cmpR x.1 y.1 < 0)
theorem Asc.nil : Asc [] := ⟨by simp, List.Pairwise.nil⟩
theorem cmp_ne {x y : Rw} (h : cmpR x y < 0) : x ≠ y := fun e => by subst e; have := Tot.row.self x; omega
theorem look_far {l : Bg} {r : Rw} (h : ∀ x ∈ l, x.1 ≠ r) : look l r = 0 := by
  induction l with
  | nil => rfl
  | cons x l ih =>
    rw [look, if_neg (h x (by simp))]
    exact ih fun y hy => h y (List.mem_cons_of_mem _ hy)
/-- Do rows ascend from p on, all items valid? -/
def ascI : Option Rw → Bg → Bool
  | _, [] => true
  | none, x :: l => numB x.2 && okR x.1 && ascI (some x.1) l
  | some p, x :: l => numB x.2 && okR x.1 && decide (cmpR p x.1 < 0) && ascI (some x.1) l
def okBag (l : Bg) : Bool := ascI none l && decide (l.length ≤ 400)
end

section
abbrev Pr2 := Rw × Int × Int
def prs : Bg → Bg → List Pr2
  | [], b => b.map fun y => (y.1, 0, y.2)
  | x :: a, [] => (x.1, x.2, 0) :: prs a []
  | x :: a, y :: b => if cmpR x.1 y.1 < 0 then (x.1, x.2, 0) :: prs a (y :: b) else if 0 < cmpR x.1 y.1 then (y.1, 0, y.2) :: prs (x :: a) b else (y.1, x.2, y.2) :: prs a b
termination_by a b => a.length + b.length
def both (f : Int → Int → Int) : List Pr2 → Bg
  | [] => []
  | t :: l => if f t.2.1 t.2.2 = 0 then both f l else (t.1, f t.2.1 t.2.2) :: both f l

/-- What prs holds, of bags that ascend. -/
structure Prs (a b : Bg) (l : List Pr2) : Prop where
  up : l.Pairwise (fun x y => cmpR x.1 y.1 < 0)
  val : ∀ t ∈ l, t.2.1 = look a t.1 ∧ t.2.2 = look b t.1
  key : ∀ t ∈ l, (∃ x ∈ a, x.1 = t.1) ∨ ∃ y ∈ b, y.1 = t.1
  all : ∀ r, ((∃ x ∈ a, x.1 = r) ∨ ∃ y ∈ b, y.1 = r) → ∃ t ∈ l, t.1 = r
theorem Prs.cons {a b a' b' : Bg} {l : List Pr2} {t : Pr2} (h : Prs a' b' l) (hup : ∀ z, (∃ x ∈ a', x.1 = z) ∨ (∃ y ∈ b', y.1 = z) → cmpR t.1 z < 0) (hv : t.2.1 = look a t.1 ∧ t.2.2 = look b t.1)
    (hk : (∃ x ∈ a, x.1 = t.1) ∨ ∃ y ∈ b, y.1 = t.1) (ha : ∀ z, z ≠ t.1 → look a z = look a' z) (hb : ∀ z, z ≠ t.1 → look b z = look b' z)
    (ka : ∀ z, z ≠ t.1 → ((∃ x ∈ a, x.1 = z) ↔ ∃ x ∈ a', x.1 = z)) (kb : ∀ z, z ≠ t.1 → ((∃ x ∈ b, x.1 = z) ↔ ∃ x ∈ b', x.1 = z)) : Prs a b (t :: l) := by
  have hne : ∀ s ∈ l, s.1 ≠ t.1 := fun s hs e => by
    have := hup s.1 (h.key s hs)
    exact cmp_ne this e.symm
  refine ⟨List.pairwise_cons.2 ⟨fun s hs => hup _ (h.key s hs), h.up⟩, fun s hs => ?_, fun s hs => ?_, fun r hr => ?_⟩
  · rcases List.mem_cons.1 hs with rfl | hs
    · exact hv
    · rw [ha _ (hne s hs), hb _ (hne s hs)]; exact h.val s hs
  · rcases List.mem_cons.1 hs with rfl | hs
    · exact hk
    · rw [ka _ (hne s hs), kb _ (hne s hs)]; exact h.key s hs
  · by_cases e : r = t.1
    · exact ⟨t, by simp, e.symm⟩
    · rw [ka _ e, kb _ e] at hr
      obtain ⟨s, h1, h2⟩ := h.all r hr
      exact ⟨s, List.mem_cons_of_mem _ h1, h2⟩
/-! A row put into a bag. -/
/-- One round: (what is written, whether the row has been put). -/
def putS (r : Rw) (n : Int) (st : Bg × Bool) (y : Rw × Int) : Bg × Bool :=
  if cmpR r y.1 = 0 then (if y.2 + n ≠ 0 then st.1 ++ [(r, y.2 + n)] else st.1, true)
  else if cmpR r y.1 < 0 ∧ st.2 = false then ((if n ≠ 0 then st.1 ++ [(r, n)] else st.1) ++ [y], true)
  else (st.1 ++ [y], st.2)
def putE (r : Rw) (n : Int) (st : Bg × Bool) : Bg := if st.2 = false ∧ n ≠ 0 then st.1 ++ [(r, n)] else st.1
def putB (b : Bg) (r : Rw) (n : Int) : Bg := putE r n (b.foldl (putS r n) ([], false))
/-- The same, by recursion. -/
def insB (r : Rw) (n : Int) : Bg → Bg
  | [] => if n ≠ 0 then [(r, n)] else []
  | y :: b => if cmpR r y.1 = 0 then (if y.2 + n ≠ 0 then (r, y.2 + n) :: b else b) else if cmpR r y.1 < 0 then (if n ≠ 0 then (r, n) :: y :: b else y :: b) else y :: insB r n b
/-- a and n times b. -/
def plusB (a b : Bg) (n : Int) : Bg := b.foldl (fun o y => putB o y.1 (n * y.2)) a
end

section
open Go.RowKit Go.Proofs
attribute [local go_sem] Oper.semAt_some

def Val.v (v : Val) : Value := .agg #[.int .i64 v.k, .int .i64 v.n, .string v.s]
def encV (v : Val) : List Value := [.int .i64 v.k, .int .i64 v.n, .string v.s]
theorem encV_len (v : Val) : (encV v).length = 3 := rfl
def btw (n lo hi : Int) : Bool := decide (lo ≤ n) && decide (n ≤ hi)
theorem btw_lo {n lo hi : Int} (h1 : n < lo) : btw n lo hi = false := by simp [btw]; omega
theorem str_eq0 (x y : ByteArray) : (x.toList == y.toList) = decide (x = y) := by
  rw [ByteArray.toList_eq, ByteArray.toList_eq, Bool.eq_iff_iff, decide_eq_true_eq, beq_iff_eq]
  exact ⟨fun h => Go.WideShapes.bytes_inj h, fun h => by rw [h]⟩

theorem within_any (n lo hi : Int) (w : World) : Calls Tryz.prog 185 #[.int .i64 n, .int .i64 lo, .int .i64 hi] w fun e w' => e = .returned (.bool (btw n lo hi)) ∧ w = w' := by
  by_cases h1 : n < lo
  · rw [btw_lo h1]
    go_enter Tryz.func185, Tryz.ntmps185
    go_wp2
    go_ret
    exact ⟨rfl, rfl⟩
  · rw [show btw n lo hi = decide (n ≤ hi) from by simp [btw, show lo ≤ n by omega]]
    go_enter Tryz.func185, Tryz.ntmps185
    go_wp2
    go_ret
    exact ⟨rfl, rfl⟩
theorem bwithin_any (n lo hi : Int) (w : World) : Calls Tryz.prog 187 #[.int .i64 n, .int .i64 lo, .int .i64 hi] w fun e w' => e = .returned (.bool (btw n lo hi)) ∧ w = w' := by
  by_cases h1 : n < lo
  · rw [btw_lo h1]
    go_enter Tryz.func187, Tryz.ntmps187
    go_wp2
    go_ret
    exact ⟨rfl, rfl⟩
  · rw [show btw n lo hi = decide (n ≤ hi) from by simp [btw, show lo ≤ n by omega]]
    go_enter Tryz.func187, Tryz.ntmps187
    go_wp2
    go_ret
    exact ⟨rfl, rfl⟩
theorem number_any (n : Int) (w : World) : Calls Tryz.prog 139 #[.int .i64 n] w fun e w' => e = .returned (.bool (numB n)) ∧ w = w' := by
  have hn : numB n = (decide (n ≠ 0) && btw n (-1000000) 1000000) := rfl
  by_cases h0 : n = 0
  · subst h0
    go_enter Tryz.func139, Tryz.ntmps139
    go_wp2
    go_ret
    exact ⟨rfl, rfl⟩
  · have n1 : (n != 0) = true := by simpa using h0
    have HN := hide (show numB n = btw n (-1000000) 1000000 from by rw [hn]; simp [h0])
    clear hn h0
    go_enter Tryz.func139, Tryz.ntmps139
    go_wp2_with fail
    refine (bwithin_any n _ _ w).mono ?_
    rintro e w' ⟨rfl, rfl⟩
    rw [← HN.out]
    go_wp2
    go_ret
    exact ⟨rfl, rfl⟩

/-- The zero value's equation. -/
theorem eqVal (a b : Int) (s : ByteArray) (a' b' : Int) (s' : ByteArray) (w : World) : (binOp .eql 102 (.agg #[.int .i64 a, .int .i64 b, .string s]) (.agg #[.int .i64 a', .int .i64 b', .string s'])).run Tryz.prog w = .ok (.bool (decide (a = a' ∧ b = b' ∧ s = s'))) w := by
  have u3 := Tryz.underlying3
  have a3 := Tryz.isAgg3
  have z3 := Tryz.sizeOf3
  have u9 := Tryz.underlying9
  have a9 := Tryz.isAgg9
  have z9 := Tryz.sizeOf9
  have hS : Tryz.prog.underlying 102 = some (.struct (Tryz.prog.fieldsOf 102)) := by kernel_rfl
  have hp : Tryz.prog.stoodInHeld 102 = false := by kernel_rfl
  have hs := str_eq0 s s'
  rw [run_eql_struct, show (10000 : Nat) = 9999 + 1 from rfl, run_equalIn_agg w 9999 102 _ _ hS hp]
  simp only [Program.fieldsOf, Tryz.underlying102]
  go_simp
  by_cases h1 : a = a' <;> by_cases h2 : b = b' <;> by_cases h3 : s = s' <;> simp [h1, h2, h3] at hs ⊢
  all_goals trace_state

theorem isNaNi_any (n : Int) (w : World) : Calls Tryz.prog 180 #[.int .i64 n] w fun e w' => e = .returned (.bool false) ∧ w = w' := by
  have h : (n != n) = false := by simp
  go_enter Tryz.func180, Tryz.ntmps180
  go_wp2
  go_ret
  exact ⟨rfl, rfl⟩
theorem isNaNs_any (s : ByteArray) (w : World) : Calls Tryz.prog 246 #[.string s] w fun e w' => e = .returned (.bool false) ∧ w = w' := by
  have h : (s.toList == s.toList) = true := by simp
  have h2 : (s.toList != s.toList) = false := by simp
  go_enter Tryz.func246, Tryz.ntmps246
  go_wp2
  go_ret
  exact ⟨rfl, rfl⟩
theorem cmpi_any (x y : Int) (w : World) : Calls Tryz.prog 129 #[.int .i64 x, .int .i64 y] w fun e w' => e = .returned (.int .i64 (cmpI x y)) ∧ w = w' := by
  have h : cmpI x y = if x < y then -1 else if y < x then 1 else 0 := rfl
  by_cases h1 : x < y
  · rw [h, if_pos h1]
    go_enter Tryz.func129, Tryz.ntmps129
    go_wp2_with (go_at_call 180; refine (isNaNi_any _ _).mono ?_; rintro e w' ⟨rfl, rfl⟩)
    go_ret
    exact ⟨rfl, rfl⟩
  · by_cases h2 : y < x
    · rw [h, if_neg h1, if_pos h2]
      go_enter Tryz.func129, Tryz.ntmps129
      go_wp2_with (go_at_call 180; refine (isNaNi_any _ _).mono ?_; rintro e w' ⟨rfl, rfl⟩)
      go_ret
      exact ⟨rfl, rfl⟩
    · rw [h, if_neg h1, if_neg h2]
      go_enter Tryz.func129, Tryz.ntmps129
      go_wp2_with (go_at_call 180; refine (isNaNi_any _ _).mono ?_; rintro e w' ⟨rfl, rfl⟩)
      go_ret
      exact ⟨rfl, rfl⟩
theorem less_yes {x y : ByteArray} (h : ltS x y) : Op.bytesLess x.toList y.toList = true := by
  rw [bytesLess_eq, ByteArray.toList_eq, ByteArray.toList_eq]; exact decide_eq_true h
theorem less_no {x y : ByteArray} (h : ¬ ltS x y) : Op.bytesLess x.toList y.toList = false := by
  rw [bytesLess_eq, ByteArray.toList_eq, ByteArray.toList_eq]; exact decide_eq_false h
theorem cmps_any (x y : ByteArray) (w : World) : Calls Tryz.prog 224 #[.string x, .string y] w fun e w' => e = .returned (.int .i64 (cmpS x y)) ∧ w = w' := by
  have h : cmpS x y = if ltS x y then -1 else if ltS y x then 1 else 0 := rfl
  by_cases h1 : ltS x y
  · have n1 := less_yes h1
    rw [h, if_pos h1]
    clear h h1
    go_enter Tryz.func224, Tryz.ntmps224
    go_wp2_with (go_at_call 246; refine (isNaNs_any _ _).mono ?_; rintro e w' ⟨rfl, rfl⟩)
    go_ret
    exact ⟨rfl, rfl⟩
  · have n1 := less_no h1
    by_cases h2 : ltS y x
    · have n3 : (x.toList == y.toList) = false := by rw [str_eq0]; exact decide_eq_false fun e => ltS_irrefl x (by rw [← e] at h2; exact h2)
      rw [h, if_neg h1, if_pos h2]
      clear h h1 h2
      go_enter Tryz.func224, Tryz.ntmps224
      go_wp2_with (go_at_call 246; refine (isNaNs_any _ _).mono ?_; rintro e w' ⟨rfl, rfl⟩)
      go_ret
      exact ⟨rfl, rfl⟩
    · have n3 : (x.toList == y.toList) = true := by rw [str_eq0]; exact decide_eq_true (ltS_eq h1 h2)
      rw [h, if_neg h1, if_neg h2]
      clear h h1 h2
      go_enter Tryz.func224, Tryz.ntmps224
      go_wp2_with (go_at_call 246; refine (isNaNs_any _ _).mono ?_; rintro e w' ⟨rfl, rfl⟩)
      go_ret
      exact ⟨rfl, rfl⟩
end

section
open Go.RowKit
attribute [local go_sem] Oper.semAt_some

theorem empty_size (s : ByteArray) : s.toList.isEmpty = (s.size == 0) := by
  rw [ByteArray.toList_eq, Bool.eq_iff_iff, List.isEmpty_iff, beq_iff_eq, Array.toList_eq_nil_iff]
  exact ⟨fun h => by show s.data.size = 0; rw [h]; rfl, fun h => Array.eq_empty_of_size_eq_zero h⟩
theorem below_val {w : World} (cs : Array Value) (t : TypeId) : Below w.heap.size w (w.alloc (.cells cs t)) := (Below.refl _ _).alloc (Nat.le_refl _) _

set_option maxRecDepth 100000 in
set_option maxHeartbeats 2000000 in
theorem ValidValue_any (v : Val) (w : World) : Calls Tryz.prog 134 #[.agg #[.int .i64 v.k, .int .i64 v.n, .string v.s]] w (RetV w (.bool (okV v))) := by
  have hB := below_val (w := w) #[.int .i64 v.k, .int .i64 v.n, .string v.s] 102
  have hm : Tryz.prog.eqGuardType Tryz.prog.depth 102 = false := by kernel_rfl
  have he := eqVal
  obtain ⟨k, n, s⟩ := v
  simp only at hB ⊢
  have hd : okV ⟨k, n, s⟩ = ((k == 0 && n == 0 && s.size == 0) || (k == 1 && s.size == 0 && decide (-1000000000000000 ≤ n) && decide (n ≤ 1000000000000000)) || (k == 2 && n == 0 && decide (s.size ≤ 200))) := rfl
  have hse : (s = ByteArray.empty) ↔ s.size = 0 := ⟨fun h => by rw [h]; rfl, empty_of_size⟩
  by_cases h0 : k = 0
  · subst h0
    have HD := hide (show okV ⟨0, n, s⟩ = decide ((0 : Int) = 0 ∧ n = 0 ∧ s = ByteArray.empty) from by
      rw [hd, Bool.eq_iff_iff, decide_eq_true_eq, hse]; simp)
    rw [HD.out]
    clear hd hse
    go_enter Tryz.func134, Tryz.ntmps134
    go_wp2
    go_ret
    exact ⟨rfl, hB⟩
  · have n0 : (k == 0) = false := by simpa using h0
    by_cases h1 : k = 1
    · subst h1
      have HD := hide (show okV ⟨1, n, s⟩ = (btw n (-1000000000000000) 1000000000000000 && s.toList.isEmpty) from by
        rw [hd, empty_size s]
        unfold btw
        cases s.size == 0 <;> cases decide (-1000000000000000 ≤ n) <;> cases decide (n ≤ 1000000000000000) <;> rfl)
      rw [HD.out]
      clear hd hse n0 h0
      obtain ⟨bb, hbb⟩ : ∃ bb, btw n (-1000000000000000) 1000000000000000 = bb := ⟨_, rfl⟩
      have HBB := hide hbb
      rw [hbb]
      clear hbb
      cases bb
      · go_enter Tryz.func134, Tryz.ntmps134
        go_wp2_with (go_at_call 185; refine (within_any _ _ _ _).mono ?_; rintro e w' ⟨rfl, rfl⟩; rw [HBB.out])
        go_ret
        exact ⟨rfl, hB⟩
      · go_enter Tryz.func134, Tryz.ntmps134
        go_wp2_with (go_at_call 185; refine (within_any _ _ _ _).mono ?_; rintro e w' ⟨rfl, rfl⟩; rw [HBB.out])
        go_ret
        exact ⟨rfl, hB⟩
    · have n1 : (k == 1) = false := by simpa using h1
      by_cases h2 : k = 2
      · subst h2
        by_cases hn : n = 0
        · subst hn
          have HD := hide (show okV ⟨2, 0, s⟩ = decide ((s.size : Int) ≤ 200) from by
            rw [hd, Bool.eq_iff_iff, decide_eq_true_eq]
            simp
            omega)
          rw [HD.out]
          clear hd hse n0 h0 n1 h1
          go_enter Tryz.func134, Tryz.ntmps134
          go_wp2
          go_ret
          exact ⟨rfl, hB⟩
        · have n2 : (n == 0) = false := by simpa using hn
          have HD := hide (show okV ⟨2, n, s⟩ = false from by rw [hd]; simp [hn])
          rw [HD.out]
          clear hd hse n0 h0 n1 h1
          go_enter Tryz.func134, Tryz.ntmps134
          go_wp2
          go_ret
          exact ⟨rfl, hB⟩
      · have n2 : (k == 2) = false := by simpa using h2
        have HD := hide (show okV ⟨k, n, s⟩ = false from by rw [hd]; simp [h0, h1, h2])
        rw [HD.out]
        clear hd hse
        go_enter Tryz.func134, Tryz.ntmps134
        go_wp2
        go_ret
        exact ⟨rfl, hB⟩

theorem valid1_any (v : Val) (w : World) : Calls Tryz.prog 133 #[.agg #[.int .i64 v.k, .int .i64 v.n, .string v.s]] w (RetV w (.bool (!okV v))) := by
  have hB := below_val (w := w) #[.int .i64 v.k, .int .i64 v.n, .string v.s] 102
  go_enter Tryz.func133, Tryz.ntmps133
  go_wp2_with fail
  refine (ValidValue_any v _).mono ?_
  rintro e w' ⟨rfl, hB1⟩
  have HB := hide (bstep hB hB1)
  clear hB hB1
  go_wp2
  go_ret
  exact ⟨rfl, HB.out⟩

theorem any_take' {α : Type} {l : List α} {k : Nat} {x : α} {p : α → Bool} (h : l[k]? = some x) (hp : p x = false) (ha : (l.take k).any p = false) : (l.take (k + 1)).any p = false := by
  rw [take_snoc' h, List.any_append, ha]; simp [hp]

set_option maxRecDepth 100000 in
set_option maxHeartbeats 2000000 in
theorem idx_row (A : Option Addr) (n c B : Nat) (r : Rw) (w : World) (hr : Reads w B 3 A n (r.flatMap encV)) (hB : B ≤ w.heap.size) (hn : n ≤ 9223372036854775807) :
    Calls Tryz.prog 184 #[.slice A n c, .func (Fn.func 133) #[] #[]] w fun e w' => (∃ i : Int, e = .returned (.int .i64 i) ∧ decide (0 ≤ i) = r.any (fun v => !okV v)) ∧ Below w.heap.size w w' := by
  have HL := hide (hr.len encV_len (by omega))
  go_enter Tryz.func184, Tryz.ntmps184
  go_wp2_with fail
  go_loopw [8] (fun i wr => ∃ k : Nat, k ≤ n ∧ i = .int .i64 k ∧ (r.take k).any (fun v => !okV v) = false ∧ Below w.heap.size w wr) (fun i _ => n - (intOf i).toNat)
  case atStart => exact ⟨0, Nat.zero_le _, rfl, rfl, Below.refl _ _⟩
  case round =>
    obtain ⟨k, hk, rfl, hany, hBw⟩ := hrel
    have HA := hide hany
    clear hany
    by_cases hlt : k < n
    · obtain ⟨b, off, e, rfl, hb, hek, hce⟩ := (hr.more hB).below hBw |>.elem encV_len HL.out hlt
      have HEK := hide hek
      have e0 : wr.cell? ⟨b, off + k * 3, none⟩ = some (.int .i64 e.k) := by simpa using hce 0 _ rfl
      have e1 : wr.cell? ⟨b, off + k * 3 + 1, none⟩ = some (.int .i64 e.n) := by simpa [← Nat.add_assoc] using hce 1 _ rfl
      have e2 : wr.cell? ⟨b, off + k * 3 + 2, none⟩ = some (.string e.s) := by simpa [← Nat.add_assoc] using hce 2 _ rfl
      clear hce hek
      have q1 : (0 : Int) ≤ (k : Int) := by omega
      have q2 : (k : Int) < (n : Int) := by omega
      go_wp2_with fail
      refine (valid1_any e wr).mono ?_
      rintro ee w1 ⟨rfl, hB1⟩
      have hB2 := bstep hBw hB1
      cases hq : okV e
      · have HX := hide (show r.any (fun v => !okV v) = true from List.any_eq_true.2 ⟨e, List.mem_of_getElem? HEK.out, by rw [hq]; rfl⟩)
        clear hq hB1 hBw e0 e1 e2
        go_wp2
        go_ret
        exact ⟨⟨_, rfl, by rw [HX.out]; simp⟩, hB2⟩
      · have HX := hide (any_take' (p := fun v => !okV v) HEK.out (by rw [hq]; rfl) HA.out)
        clear hq hB1 hBw e0 e1 e2
        go_wp2
        go_roundw
        case rel => exact ⟨k + 1, by omega, by go_num, HX.out, hB2⟩
        case measure => simp [intOf]; omega
    · obtain rfl : k = n := by omega
      go_wp2
      go_ret
      exact ⟨⟨_, rfl, by
        have := HA.out
        rw [take_all HL.out] at this
        rw [this]; rfl⟩, hBw⟩
theorem con_row (A : Option Addr) (n c B : Nat) (r : Rw) (w : World) (hr : Reads w B 3 A n (r.flatMap encV)) (hB : B ≤ w.heap.size) (hn : n ≤ 9223372036854775807) :
    Calls Tryz.prog 132 #[.slice A n c, .func (Fn.func 133) #[] #[]] w (RetV w (.bool (r.any (fun v => !okV v)))) := by
  go_enter Tryz.func132, Tryz.ntmps132
  go_wp2_with (go_at_call 184; refine (idx_row A n c B r w hr hB hn).mono ?_; rintro e w' ⟨⟨i, rfl, hi⟩, hB1⟩)
  go_ret
  exact ⟨rfl, hB1⟩
theorem okR_any (r : Rw) : okR r = (decide (r.length ≤ 8) && !r.any (fun v => !okV v)) := by
  unfold okR
  rw [Bool.and_comm]
  congr 1
  rw [Bool.eq_iff_iff]
  simp
theorem RowValid_any (A : Option Addr) (n c B : Nat) (r : Rw) (w : World) (hr : Reads w B 3 A n (r.flatMap encV)) (hB : B ≤ w.heap.size) (hn : n ≤ 9223372036854775807) :
    Calls Tryz.prog 81 #[.slice A n c] w (RetV w (.bool (okR r))) := by
  have hl := hr.len encV_len (by omega)
  have ho := okR_any r
  rw [hl] at ho
  by_cases h8 : n ≤ 8
  · have HO := hide (show okR r = !r.any (fun v => !okV v) from by rw [ho, decide_eq_true h8]; rfl)
    clear ho hl
    go_enter Tryz.func81, Tryz.ntmps81
    go_wp2_with fail
    refine (con_row A n c B r w hr hB hn).mono ?_
    rintro e w' ⟨rfl, hB1⟩
    go_wp2
    go_ret
    exact ⟨ret_bool HO.out.symm, hB1⟩
  · have HO := hide (show okR r = false from by rw [ho, decide_eq_false h8]; rfl)
    rw [HO.out]
    clear ho hl
    go_enter Tryz.func81, Tryz.ntmps81
    go_wp2
    go_ret
    exact ⟨ret_bool (by simp <;> omega), Below.refl _ _⟩
end

section
open Go.RowKit

/-- A world that a call which turns nothing may leave. -/
structure BW (w : World) where
  x : World
  h : Below w.heap.size w x
instance (w : World) : Inhabited (BW w) := ⟨⟨w, Below.refl _ _⟩⟩
theorem BW.cell {w : World} {a : Addr} {v : Value} (hb : a.block < w.heap.size) (h : w.cell? a = some v) (p : BW w) : p.x.cell? a = some v := (p.h.cell hb).trans h
theorem wp_region_quiet_bw {P : Program} {id : Nat} {Q : Exit → Act → World → Prop} {a : Act} {w : World} {l : List Oper} (hm : P.follows .mixedOrders = true) (hB : Region.lexB .any l.toArray = true)
    (h : wpQuiet P l.toArray (fun w' => ∃ p : BW w, w' = p.x) (fun a' => ∀ w', (∃ p : BW w, w' = p.x) → Q .normal a' w') l a) : (Code.region id l.toArray true).wp P Q a w :=
  wp_region_quiet (C := fun w' => ∃ p : BW w, w' = p.x) hm hB ⟨⟨w.drew, (Below.refl _ _).drew⟩, rfl⟩ (by simpa using h)
/-- A callee's contract, met in a world of the class. -/
theorem calls_bw {P : Program} {f : FuncId} {args : Array Value} {w : World} {p : BW w} {v : Value} (h : Calls P f args p.x (RetV p.x v)) : Calls P f args p.x fun e w'' => e = .returned v ∧ ∃ q : BW w, w'' = q.x :=
  h.mono fun _ _ ⟨he, hb⟩ => ⟨he, ⟨_, bstep p.h hb⟩, rfl⟩
end

end Go.Proofs.YtoapjidpfghnlaaGreatDoor
