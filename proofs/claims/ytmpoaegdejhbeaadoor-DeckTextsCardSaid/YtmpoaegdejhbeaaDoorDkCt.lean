/-
  Regions in plain numbers: a label for each task, the least task of its region; the program's roots array carries the same labels.
  The numbers of regions, in plain lists: how many roots stand below a task's root.
  A slice of one-cell elements that the call owns, told by a function; labels that no edge turns any more. Plain theorems; no condition.
  What goes back, in plain sets of regions: the least set that holds the seeds and is closed; a search that goes deep, and rounds that go on until nothing turns, both find it. Plain theorems; no condition.
  What goes back, told by labels and told by numbers of regions: the same tasks. Plain theorems; no condition.
  The walks of slices.Index and slices.Contains at ints.
-/
import Derived.Test.YtmpoaegdejhbeaaDoorDkC
import Derived.Laws.OwnMore
import Derived.Test.YtmpoaegdejhbeaaDoorDkB
namespace Go.Proofs.YtmpoaegdejhbeaaDoor

section
/-- One edge joins two regions, if it is not stored. -/
def relab (L : Nat → Nat) (e : Ed) : Nat → Nat :=
  if e.s then L else fun k => if L k = max (L e.f.toNat) (L e.t.toNat) then min (L e.f.toNat) (L e.t.toNat) else L k
def labs (es : List Ed) : Nat → Nat := es.foldl relab id
theorem labs_snoc (es : List Ed) (e : Ed) : labs (es ++ [e]) = relab (labs es) e := by simp [labs]

/-- Labels are least, and their own. -/
structure Lab (L : Nat → Nat) : Prop where
  le : ∀ k, L k ≤ k
  idem : ∀ k, L (L k) = L k
theorem Lab.id : Lab (fun k => k) := ⟨fun _ => Nat.le_refl _, fun _ => rfl⟩
theorem Lab.relab {L : Nat → Nat} (h : Lab L) (e : Ed) : Lab (relab L e) := by
  unfold Go.Proofs.YtmpoaegdejhbeaaDoor.relab
  cases e.s
  · simp only [Bool.false_eq_true, if_false]
    obtain ⟨a, ha⟩ : ∃ a, L e.f.toNat = a := ⟨_, rfl⟩
    obtain ⟨b, hb⟩ : ∃ b, L e.t.toNat = b := ⟨_, rfl⟩
    have ia : L a = a := by rw [← ha]; exact h.idem _
    have ib : L b = b := by rw [← hb]; exact h.idem _
    have im : L (min a b) = min a b := by rcases Nat.le_total a b with h1 | h1 <;> simp [h1, ia, ib]
    rw [ha, hb]
    refine ⟨fun k => ?_, fun k => ?_⟩
    · have := h.le k
      by_cases e1 : L k = max a b
      · rw [if_pos e1]; omega
      · rw [if_neg e1]; exact this
    · by_cases e1 : L k = max a b
      · simp only [if_pos e1, im]
        by_cases e2 : min a b = max a b
        · rw [if_pos e2]
        · rw [if_neg e2]
      · simp only [if_neg e1, h.idem k]
  · simpa using h
theorem Lab.labs (es : List Ed) : Lab (labs es) := by
  unfold Go.Proofs.YtmpoaegdejhbeaaDoor.labs
  suffices h : ∀ L, Lab L → Lab (es.foldl Go.Proofs.YtmpoaegdejhbeaaDoor.relab L) from h _ Lab.id
  induction es with
  | nil => intro L h; exact h
  | cons e es ih => intro L h; exact ih _ (h.relab e)

/-- The roots array carries the labels. -/
structure Roots (N : Nat) (R L : Nat → Nat) : Prop where
  le : ∀ i, i < N → R i ≤ i
  same : ∀ i, i < N → L (R i) = L i
  top : ∀ i, i < N → (R i = i ↔ L i = i)
theorem Roots.id (N : Nat) : Roots N (fun k => k) (fun k => k) := ⟨fun _ _ => Nat.le_refl _, fun _ _ => rfl, fun _ _ => Iff.rfl⟩
theorem Roots.step {N : Nat} {R L : Nat → Nat} (h : Roots N R L) (hL : Lab L) (e : Ed) (hs : e.s = false) :
    Roots N (fun i => if i = max (L e.f.toNat) (L e.t.toNat) then min (L e.f.toNat) (L e.t.toNat) else R i) (relab L e) := by
  unfold relab
  simp only [hs, Bool.false_eq_true, if_false]
  obtain ⟨a, ha⟩ : ∃ a, L e.f.toNat = a := ⟨_, rfl⟩
  obtain ⟨b, hb⟩ : ∃ b, L e.t.toNat = b := ⟨_, rfl⟩
  have ia : L a = a := by rw [← ha]; exact hL.idem _
  have ib : L b = b := by rw [← hb]; exact hL.idem _
  have im : L (min a b) = min a b := by rcases Nat.le_total a b with h1 | h1 <;> simp [h1, ia, ib]
  have ix : L (max a b) = max a b := by rcases Nat.le_total a b with h1 | h1 <;> simp [h1, ia, ib]
  rw [ha, hb]
  refine ⟨fun i hi => ?_, fun i hi => ?_, fun i hi => ?_⟩
  · by_cases e1 : i = max a b
    · rw [if_pos e1]; omega
    · rw [if_neg e1]; exact h.le i hi
  · by_cases e1 : i = max a b
    · subst e1
      simp only [if_true, im, ix]
      by_cases e2 : min a b = max a b
      · rw [if_pos e2]
      · rw [if_neg e2]
    · simp only [if_neg e1, h.same i hi]
  · by_cases e1 : i = max a b
    · subst e1
      simp only [if_true, ix]
    · simp only [if_neg e1]
      rw [h.top i hi]
      by_cases e2 : L i = max a b
      · rw [if_pos e2]
        constructor
        · intro h1; exact absurd (h1.symm.trans e2) e1
        · intro h1
          have h3 : L i = i := by rw [← h1]; exact im
          exact h3
      · rw [if_neg e2]
theorem relab_stored (L : Nat → Nat) (e : Ed) (hs : e.s = true) : relab L e = L := by simp [relab, hs]
end

section
/-- How many roots stand below k. -/
def numb (L : Nat → Nat) (k : Nat) : Nat := ((List.range k).filter fun j => decide (L j = j)).length
theorem numb_zero (L : Nat → Nat) : numb L 0 = 0 := rfl
theorem numb_succ (L : Nat → Nat) (k : Nat) : numb L (k + 1) = if L k = k then numb L k + 1 else numb L k := by
  unfold numb
  rw [List.range_succ, List.filter_append, List.length_append]
  by_cases h : L k = k
  · rw [if_pos h]; simp [h]
  · rw [if_neg h]; simp [h]
theorem numb_le (L : Nat → Nat) (k : Nat) : numb L k ≤ k := by
  unfold numb
  exact Nat.le_trans (List.length_filter_le _ _) (by simp)
/-- The regions' numbers of n tasks. -/
def nums (L : Nat → Nat) (n : Nat) : List Int := (List.range n).map fun i => ((numb L (L i) : Nat) : Int)
theorem nums_len (L : Nat → Nat) (n : Nat) : (nums L n).length = n := by simp [nums]
theorem nums_succ (L : Nat → Nat) (n : Nat) : nums L (n + 1) = nums L n ++ [((numb L (L n) : Nat) : Int)] := by simp [nums, List.range_succ]
/-- What the map of numbers holds behind k tasks. -/
def hasN (L : Nat → Nat) (k r : Nat) : Bool := decide (r < k) && decide (L r = r)
theorem hasN_root {L : Nat → Nat} (hL : Lab L) (k : Nat) : hasN L k (L k) = !decide (L k = k) := by
  unfold hasN
  rw [hL.idem k]
  have := hL.le k
  by_cases h : L k = k
  · simp [h]
  · simp [h]; omega
theorem hasN_succ (L : Nat → Nat) (k r : Nat) : hasN L (k + 1) r = (hasN L k r || (decide (r = k) && decide (L k = k))) := by
  unfold hasN
  by_cases h : r = k
  · subst h; simp
  · have : decide (r < k + 1) = decide (r < k) := by rw [decide_eq_decide]; omega
    simp [this, h]
end

section
open Go.RowKit

def rowL (n : Nat) (f : Nat → Value) : List Value := (List.range n).map f
theorem rowL_len (n : Nat) (f : Nat → Value) : (rowL n f).length = n := by simp [rowL]
theorem rowL_get {n i : Nat} (f : Nat → Value) (h : i < n) : (rowL n f)[i]? = some (f i) := by simp [rowL, h]
theorem rowL_snoc (n : Nat) (f : Nat → Value) : rowL (n + 1) f = rowL n f ++ [f n] := by simp [rowL, List.range_succ]
theorem rowL_congr {n : Nat} {f g : Nat → Value} (h : ∀ i, i < n → f i = g i) : rowL n f = rowL n g := by
  unfold rowL
  exact List.map_congr_left fun i hi => h i (List.mem_range.1 hi)
theorem rowL_set (n i : Nat) (f : Nat → Value) (u : Value) : (rowL n f).set i u = rowL n (fun j => if j = i then u else f j) := by
  apply List.ext_getElem?
  intro j
  by_cases hj : j < n
  · rw [rowL_get _ hj, List.getElem?_set]
    by_cases e : i = j
    · subst e; rw [if_pos rfl, rowL_len, if_pos hj, if_pos rfl]
    · rw [if_neg e, rowL_get _ hj, if_neg (fun h => e h.symm)]
  · rw [List.getElem?_eq_none (by rw [List.length_set, rowL_len]; omega), List.getElem?_eq_none (by rw [rowL_len]; omega)]

/-- Block g is a row of the call's own: n elements of one cell, told by f. -/
def OwnR (w : World) (base : Nat) (t : TypeId) (g cap n : Nat) (f : Nat → Value) : Prop := w.ownsRow base t 1 (.slice (some ⟨g, 0, none⟩) n cap) n (rowL n f)
section
variable {w w' : World} {base g cap n : Nat} {t : TypeId} {f : Nat → Value}
theorem OwnR.lt (h : OwnR w base t g cap n f) : base ≤ g ∧ g < w.heap.size := World.ownsRow.lt h g rfl
theorem OwnR.cell (h : OwnR w base t g cap n f) {i : Nat} (hi : i < n) : w.cell? ⟨g, i, none⟩ = some (f i) := by
  rw [World.ownsRow.cellAt h i (by omega), rowL_get _ hi]
theorem OwnR.frozen (h : OwnR w base t g cap n f) (i : Nat) : w.frozen? ⟨g, i, none⟩ = false := World.ownsRow.frozenAt h i
theorem OwnR.congr (h : OwnR w base t g cap n f) {f' : Nat → Value} (e : ∀ i, i < n → f i = f' i) : OwnR w base t g cap n f' := by
  unfold OwnR at h ⊢; rwa [← rowL_congr e]
theorem OwnR.set (h : OwnR w base t g cap n f) (i : Nat) (u : Value) : OwnR (w.setCell ⟨g, i, none⟩ u) base t g cap n (fun j => if j = i then u else f j) := by
  have := (World.ownsRow.stored h i u).1
  unfold OwnR; rwa [← rowL_set]
theorem OwnR.alloc (h : OwnR w base t g cap n f) (o : Obj) : OwnR (w.alloc o) base t g cap n f := World.ownsRow.alloc h o
theorem OwnR.drewN (h : OwnR w base t g cap n f) (k : Nat) : OwnR (w.drewN k) base t g cap n f := h
theorem OwnR.kept (h : OwnR w base t g cap n f) {row : Option Nat} (hg : w.grownBy w' row) (hne : some g ≠ row) : OwnR w' base t g cap n f := World.ownsRow.kept h hg (.inr hne)
theorem OwnR.setOther (h : OwnR w base t g cap n f) {a : Addr} (ha : a.block ≠ g) (u : Value) : OwnR (w.setCell a u) base t g cap n f :=
  ownsRow_setCell_other h (fun e => by injection e with e; exact ha e.symm) u
theorem OwnR.below (h : OwnR w base t g cap n f) (hb : Below w.heap.size w w') : OwnR w' base t g cap n f := own_below h hb
theorem OwnR.mono (h : OwnR w base t g cap n f) {base' : Nat} (hb : base' ≤ base) : OwnR w base' t g cap n f := own_mono h hb
theorem OwnR.reads (h : OwnR w base t g cap n f) : Reads w w.heap.size 1 (some ⟨g, 0, none⟩) n (rowL n f) := Reads.of_own h
theorem OwnR.retOwn {W : World} (h : OwnR w W.heap.size t g cap n f) (hb : Below W.heap.size W w) : RetOwn W t 1 n (rowL n f) (.returned (.slice (some ⟨g, 0, none⟩) n cap)) w :=
  ⟨_, _, rfl, h, hb⟩
end
theorem own_R {w : World} {base : Nat} {t : TypeId} {v : Value} {n : Nat} {f : Nat → Value} (h : w.ownsRow base t 1 v n (rowL n f)) (hn : 0 < n) : ∃ g cap, v = .slice (some ⟨g, 0, none⟩) n cap ∧ OwnR w base t g cap n f := by
  obtain ⟨g, cap, rfl, _⟩ := h.form hn
  exact ⟨g, cap, rfl, h⟩
theorem OwnR.of_ret {W w : World} {t : TypeId} {n : Nat} {f : Nat → Value} {e : Ending} (h : RetOwn W t 1 n (rowL n f) e w) (hn : 0 < n) : ∃ g cap, e = .returned (.slice (some ⟨g, 0, none⟩) n cap) ∧ OwnR w W.heap.size t g cap n f ∧ Below W.heap.size W w := by
  obtain ⟨A, c, rfl, ho, hb⟩ := h
  obtain ⟨g, cap, e, hR⟩ := own_R ho hn
  injection e with e1 e2 e3
  subst e1 e3
  exact ⟨g, _, rfl, hR, hb⟩

/-! Labels. -/
theorem relab_same {L : Nat → Nat} {x y : Nat} (h : L x = L y) (e : Ed) : relab L e x = relab L e y := by
  unfold relab
  cases e.s
  · simp [h]
  · simpa using h
theorem relab_joins (L : Nat → Nat) (e : Ed) (hs : e.s = false) : relab L e e.f.toNat = relab L e e.t.toNat := by
  unfold relab
  simp only [hs, Bool.false_eq_true, if_false]
  rcases Nat.le_total (L e.f.toNat) (L e.t.toNat) with h | h
  · rw [Nat.max_eq_right h, Nat.min_eq_left h, if_pos rfl]
    by_cases e1 : L e.f.toNat = L e.t.toNat
    · rw [if_pos e1]
    · rw [if_neg e1]
  · rw [Nat.max_eq_left h, Nat.min_eq_right h, if_pos rfl]
    by_cases e1 : L e.t.toNat = L e.f.toNat
    · rw [if_pos e1]
    · rw [if_neg e1]
theorem fold_same (es : List Ed) {L : Nat → Nat} {x y : Nat} (h : L x = L y) : es.foldl relab L x = es.foldl relab L y := by
  induction es generalizing L with
  | nil => exact h
  | cons e es ih => exact ih (relab_same h e)
theorem labs_closed {es : List Ed} {e : Ed} (he : e ∈ es) (hs : e.s = false) : labs es e.f.toNat = labs es e.t.toNat := by
  obtain ⟨l1, l2, rfl⟩ := List.append_of_mem he
  unfold labs
  rw [List.foldl_append, List.foldl_cons]
  exact fold_same l2 (relab_joins _ e hs)
theorem relab_still {L : Nat → Nat} {e : Ed} (h : e.s = true ∨ L e.f.toNat = L e.t.toNat) : relab L e = L := by
  rcases h with h | h
  · simp [relab, h]
  · unfold relab
    cases e.s
    · simp only [Bool.false_eq_true, if_false, h, Nat.max_self, Nat.min_self]
      funext k
      by_cases e1 : L k = L e.t.toNat
      · rw [if_pos e1, e1]
      · rw [if_neg e1]
    · rfl
/-- Behind all edges, no edge turns a label. -/
theorem labs_still {es : List Ed} {e : Ed} (he : e ∈ es) : relab (labs es) e = labs es :=
  relab_still (by cases hs : e.s <;> simp [hs, labs_closed he])
theorem fold_still {es : List Ed} (k : Nat) : (es.take k).foldl relab (labs es) = labs es := by
  have h : ∀ l : List Ed, (∀ e ∈ l, e ∈ es) → l.foldl relab (labs es) = labs es := by
    intro l
    induction l with
    | nil => intro _; rfl
    | cons e l ih => intro h; rw [List.foldl_cons, labs_still (h e (by simp))]; exact ih fun e' he' => h e' (by simp [he'])
  exact h _ fun e he => List.mem_of_mem_take he
end

section
/-- One step back: from region x to region y. -/
def Nx (of : Nat → Nat) (es : List Ed) (gone : List Int) (x y : Nat) : Prop :=
  ∃ e ∈ es, e.s = true ∧ ((of e.f.toNat = x ∧ of e.t.toNat = y) ∨ (of e.t.toNat = x ∧ of e.f.toNat = y ∧ hasB gone e.f = true))
def Cls (N : Nat → Nat → Prop) (P : Nat → Prop) : Prop := ∀ x y, P x → N x y → P y
/-- The least closed set that holds the seeds. -/
def Lst (N : Nat → Nat → Prop) (seed : Nat → Prop) (x : Nat) : Prop := ∀ P : Nat → Prop, Cls N P → (∀ r, seed r → P r) → P x
theorem Lst.seed {N : Nat → Nat → Prop} {seed : Nat → Prop} {r : Nat} (h : seed r) : Lst N seed r := fun _ _ hs => hs r h
theorem Lst.cls (N : Nat → Nat → Prop) (seed : Nat → Prop) : Cls N (Lst N seed) := fun x y hx hn P hc hs => hc x y (hx P hc hs) hn

/-- What a search from r makes of the set S. -/
structure Went (N : Nat → Nat → Prop) (r : Nat) (S T : Nat → Bool) : Prop where
  mono : ∀ x, S x = true → T x = true
  has : T r = true
  shut : ∀ x, T x = true → S x = false → ∀ y, N x y → T y = true
  least : ∀ P : Nat → Prop, Cls N P → P r → (∀ x, S x = true → P x) → ∀ x, T x = true → P x
theorem Went.same {N : Nat → Nat → Prop} {r : Nat} {S : Nat → Bool} (h : S r = true) : Went N r S S :=
  ⟨fun _ h => h, h, fun x h1 h2 => absurd (h1.symm.trans h2) (by simp), fun _ _ _ h => h⟩

def put (S : Nat → Bool) (r : Nat) : Nat → Bool := fun j => if j = r then true else S j
theorem put_true {S : Nat → Bool} {r x : Nat} : put S r x = true ↔ x = r ∨ S x = true := by
  unfold put
  by_cases h : x = r
  · simp [h]
  · simp [h]

/-- In the search from r, behind k edges. -/
structure Mid (of : Nat → Nat) (es : List Ed) (gone : List Int) (r : Nat) (S : Nat → Bool) (k : Nat) (T : Nat → Bool) : Prop where
  mono : ∀ x, put S r x = true → T x = true
  shut : ∀ x, T x = true → put S r x = false → ∀ y, Nx of es gone x y → T y = true
  out : ∀ e ∈ es.take k, e.s = true → (of e.f.toNat = r → T (of e.t.toNat) = true) ∧ (of e.t.toNat = r → hasB gone e.f = true → T (of e.f.toNat) = true)
  least : ∀ P : Nat → Prop, Cls (Nx of es gone) P → P r → (∀ x, S x = true → P x) → ∀ x, T x = true → P x
section
variable {of : Nat → Nat} {es : List Ed} {gone : List Int} {r : Nat} {S T T' : Nat → Bool} {k : Nat}
theorem Mid.start (of : Nat → Nat) (es : List Ed) (gone : List Int) (r : Nat) (S : Nat → Bool) : Mid of es gone r S 0 (put S r) :=
  ⟨fun _ h => h, fun x h1 h2 => absurd (h1.symm.trans h2) (by simp), by simp, fun P _ hr hs x hx => by
    rcases put_true.1 hx with rfl | h
    · exact hr
    · exact hs x h⟩
theorem Mid.went (h : Mid of es gone r S k T) {r' : Nat} (hn : Nx of es gone r r') (hw : Went (Nx of es gone) r' T T') : Mid of es gone r S k T' :=
  ⟨fun x hx => hw.mono x (h.mono x hx), fun x h1 h2 y hy => by
    cases ht : T x
    · exact hw.shut x h1 ht y hy
    · exact hw.mono y (h.shut x ht h2 y hy), fun e he hs => ⟨fun h1 => hw.mono _ ((h.out e he hs).1 h1), fun h1 h2 => hw.mono _ ((h.out e he hs).2 h1 h2)⟩,
   fun P hc hr hs x hx => hw.least P hc (hc r r' hr hn) (h.least P hc hr hs) x hx⟩
theorem Mid.next (h : Mid of es gone r S k T) {e : Ed} (he : es[k]? = some e) (hs : e.s = true → (of e.f.toNat = r → T (of e.t.toNat) = true) ∧ (of e.t.toNat = r → hasB gone e.f = true → T (of e.f.toNat) = true)) :
    Mid of es gone r S (k + 1) T :=
  ⟨h.mono, h.shut, fun e' he' hs' => by
    rw [take_snoc' he, List.mem_append] at he'
    rcases he' with he' | he'
    · exact h.out e' he' hs'
    · obtain rfl : e' = e := by simpa using he'
      exact hs hs', h.least⟩
theorem Mid.done (h : Mid of es gone r S k T) (hk : es.length ≤ k) (hr : S r = false) : Went (Nx of es gone) r S T :=
  ⟨fun x hx => h.mono x (put_true.2 (.inr hx)), h.mono r (put_true.2 (.inl rfl)), fun x h1 h2 y hy => by
    by_cases e : x = r
    · subst e
      obtain ⟨e, he, hs, h3⟩ := hy
      have ho := h.out e (by rwa [List.take_of_length_le hk]) hs
      rcases h3 with ⟨h3, rfl⟩ | ⟨h3, rfl, h4⟩
      · exact ho.1 h3
      · exact ho.2 h3 h4
    · exact h.shut x h1 (by unfold put; rw [if_neg e]; exact h2) y hy, h.least⟩
end

/-- How many of n regions are not in the set. -/
def cnt (n : Nat) (S : Nat → Bool) : Nat := (List.range n).countP fun x => !S x
theorem cnt_mono {n : Nat} {S T : Nat → Bool} (h : ∀ x, S x = true → T x = true) : cnt n T ≤ cnt n S := by
  unfold cnt
  apply List.countP_mono_left
  intro x _ hx
  cases hs : S x
  · rfl
  · rw [h x hs] at hx; cases hx
theorem cnt_le (n : Nat) (S : Nat → Bool) : cnt n S ≤ n := by
  unfold cnt
  exact Nat.le_trans List.countP_le_length (by simp)
theorem cnt_put {n r : Nat} {S : Nat → Bool} (hr : r < n) (h : S r = false) : cnt n (put S r) + 1 ≤ cnt n S := by
  unfold cnt
  obtain ⟨l1, l2, hl⟩ := List.append_of_mem (List.mem_range.2 hr)
  rw [hl, List.countP_append, List.countP_append, List.countP_cons, List.countP_cons]
  have e1 : (!S r) = true := by rw [h]; rfl
  have e2 : ¬ ((!put S r r) = true) := by rw [put_true.2 (.inl rfl)]; simp
  rw [if_pos e1, if_neg e2]
  have m : ∀ l : List Nat, l.countP (fun x => !put S r x) ≤ l.countP (fun x => !S x) := fun l => List.countP_mono_left fun x _ hx => by
    cases hs : S x
    · rfl
    · rw [put_true.2 (.inr hs)] at hx; cases hx
  have m1 := m l1
  have m2 := m l2
  omega
theorem cnt_pos {n r : Nat} {S : Nat → Bool} (hr : r < n) (h : S r = false) : 1 ≤ cnt n S := by have := cnt_put hr h; omega
end

section
def seedOf (of : Nat → Nat) (fallen : List Int) (r : Nat) : Prop := ∃ t ∈ fallen, r = of t.toNat
/-- S holds the regions that go back. -/
def IsBack (of : Nat → Nat) (es : List Ed) (fallen gone : List Int) (S : Nat → Bool) : Prop := ∀ r, S r = true ↔ Lst (Nx of es gone) (seedOf of fallen) r
theorem IsBack.exists_ (of : Nat → Nat) (es : List Ed) (fallen gone : List Int) : ∃ S, IsBack of es fallen gone S := by
  have h : ∀ r, ∃ b : Bool, b = true ↔ Lst (Nx of es gone) (seedOf of fallen) r := fun r => by
    by_cases h : Lst (Nx of es gone) (seedOf of fallen) r
    · exact ⟨true, by simp [h]⟩
    · exact ⟨false, by simp [h]⟩
  exact ⟨fun r => (h r).choose, fun r => (h r).choose_spec⟩

theorem numb_mono (L : Nat → Nat) {a b : Nat} (h : a ≤ b) : numb L a ≤ numb L b := by
  obtain ⟨d, rfl⟩ := Nat.le.dest h
  clear h
  induction d with
  | zero => exact Nat.le_refl _
  | succ d ih =>
    rw [show a + (d + 1) = (a + d) + 1 by omega, numb_succ]
    split <;> omega
theorem numb_lt {L : Nat → Nat} {a b : Nat} (ha : L a = a) (h : a < b) : numb L a < numb L b := by
  have h1 := numb_mono L (show a + 1 ≤ b from h)
  rw [numb_succ, if_pos ha] at h1
  omega
theorem numb_inj {L : Nat → Nat} {a b : Nat} (ha : L a = a) (hb : L b = b) (h : numb L a = numb L b) : a = b := by
  rcases Nat.lt_trichotomy a b with h1 | h1 | h1
  · have := numb_lt ha h1; omega
  · exact h1
  · have := numb_lt hb h1; omega

/-- A region's number, for each task. -/
def numOf (L : Nat → Nat) (t : Nat) : Nat := numb L (L t)
theorem numOf_lt {L : Nat → Nat} (hL : Lab L) {i n : Nat} (h : i < n) : numOf L i < n := Nat.lt_of_le_of_lt (Nat.le_trans (numb_le _ _) (hL.le i)) h
theorem numOf_eq {L : Nat → Nat} (hL : Lab L) {i k : Nat} : numOf L i = numOf L k ↔ L i = L k :=
  ⟨fun h => numb_inj (hL.idem i) (hL.idem k) h, fun h => by unfold numOf; rw [h]⟩
theorem back_same {L : Nat → Nat} (hL : Lab L) {es : List Ed} {fallen gone : List Int} {S T : Nat → Bool} (hS : IsBack L es fallen gone S) (hT : IsBack (numOf L) es fallen gone T) (t : Nat) : T (numOf L t) = S (L t) := by
  have key : T (numOf L t) = true ↔ S (L t) = true := by
    rw [hS, hT]
    constructor
    · intro h
      obtain ⟨r, h1, h2, h3⟩ := h (fun m => ∃ r, m = numb L r ∧ L r = r ∧ Lst (Nx L es gone) (seedOf L fallen) r) (by
        rintro x y ⟨r, rfl, h2, h3⟩ ⟨e, he, hs, h4⟩
        rcases h4 with ⟨h4, rfl⟩ | ⟨h4, rfl, h5⟩
        · have : L e.f.toNat = r := numb_inj (hL.idem _) h2 h4
          exact ⟨L e.t.toNat, rfl, hL.idem _, Lst.cls _ _ r _ h3 ⟨e, he, hs, .inl ⟨this, rfl⟩⟩⟩
        · have : L e.t.toNat = r := numb_inj (hL.idem _) h2 h4
          exact ⟨L e.f.toNat, rfl, hL.idem _, Lst.cls _ _ r _ h3 ⟨e, he, hs, .inr ⟨this, rfl, h5⟩⟩⟩) (by
        rintro r ⟨u, hu, rfl⟩
        exact ⟨L u.toNat, rfl, hL.idem _, Lst.seed ⟨u, hu, rfl⟩⟩)
      have : L t = r := numb_inj (hL.idem _) h2 h1
      rw [this]; exact h3
    · intro h P hc hs
      have h1 := h (fun r => P (numb L r)) (by
        rintro x y hx ⟨e, he, hs', h4⟩
        rcases h4 with ⟨rfl, rfl⟩ | ⟨rfl, rfl, h5⟩
        · exact hc _ _ hx ⟨e, he, hs', .inl ⟨rfl, rfl⟩⟩
        · exact hc _ _ hx ⟨e, he, hs', .inr ⟨rfl, rfl, h5⟩⟩) (by
        rintro r ⟨u, hu, rfl⟩
        exact hs _ ⟨u, hu, rfl⟩)
      exact h1
  cases h1 : T (numOf L t) <;> cases h2 : S (L t) <;> simp_all

/-- The set behind k of the fallen tasks. -/
structure Fell (of : Nat → Nat) (es : List Ed) (gone : List Int) (fs : List Int) (T : Nat → Bool) : Prop where
  shut : ∀ x y, T x = true → Nx of es gone x y → T y = true
  has : ∀ t ∈ fs, T (of t.toNat) = true
  least : ∀ P : Nat → Prop, Cls (Nx of es gone) P → (∀ r, seedOf of fs r → P r) → ∀ x, T x = true → P x
theorem Fell.start (of : Nat → Nat) (es : List Ed) (gone : List Int) : Fell of es gone [] (fun _ => false) := ⟨by simp, by simp, by simp⟩
theorem Fell.step {of : Nat → Nat} {es : List Ed} {gone fs : List Int} {T T' : Nat → Bool} (h : Fell of es gone fs T) (t : Int) (hw : Went (Nx of es gone) (of t.toNat) T T') : Fell of es gone (fs ++ [t]) T' :=
  ⟨fun x y hx hn => by
    cases ht : T x
    · exact hw.shut x hx ht y hn
    · exact hw.mono y (h.shut x y ht hn), fun u hu => by
    rcases List.mem_append.1 hu with hu | hu
    · exact hw.mono _ (h.has u hu)
    · obtain rfl : u = t := by simpa using hu
      exact hw.has, fun P hc hs x hx => hw.least P hc (hs _ ⟨t, by simp, rfl⟩) (h.least P hc fun r ⟨u, hu, e⟩ => hs r ⟨u, by simp [hu], e⟩) x hx⟩
theorem Fell.back {of : Nat → Nat} {es : List Ed} {gone fs : List Int} {T : Nat → Bool} (h : Fell of es gone fs T) : IsBack of es fs gone T := fun r =>
  ⟨fun hr P hc hs => h.least P hc hs r hr, fun hr => hr (fun x => T x = true) (fun x y hx hn => h.shut x y hx hn) (fun r ⟨u, hu, e⟩ => by rw [e]; exact h.has u hu)⟩
end

section
open Go.RowKit Go.Shelf
attribute [local go_sem] Oper.semAt_some

/-- Where y stands first; -1 if nowhere. -/
def RetIx (xs : List Int) (y : Int) (w : World) (e : Ending) (w' : World) : Prop := (∃ i : Int, e = .returned (.int .i64 i) ∧ (decide (0 ≤ i) = hasB xs y) ∧ i < 9223372036854775807) ∧ w = w'
set_option maxHeartbeats 1000000 in
theorem Index_any (A : Option Addr) (n c B : Nat) (xs : List Int) (y : Int) (w : World) (hx : Reads w B 1 A n (xs.map (Value.int .i64))) (hn : n ≤ 4611686018427387904) :
    Calls Tryd.prog 44 #[.slice A n c, .int .i64 y] w (RetIx xs y w) := by
  have HL := hide hx.len1
  go_enter Tryd.func44, Tryd.ntmps44
  go_wp2_with fail
  go_loop [5, 8] (fun _ i => ∃ k : Nat, k ≤ n ∧ i = .int .i64 k ∧ (xs.take k).any (fun x => x == y) = false) (fun _ i => n - (intOf i).toNat)
  case atStart => exact ⟨0, Nat.zero_le _, rfl, rfl⟩
  case round =>
    obtain ⟨k, hk, rfl, hany⟩ := hrel
    have HA := hide hany
    clear hany
    by_cases hlt : k < n
    · obtain ⟨b, off, x, ha, hb, hxk, hc⟩ := hx.at1 hlt
      rw [ha]
      clear ha
      have HXK := hide hxk
      clear hxk
      by_cases hxy : y = x
      · subst hxy
        go_wp2
        go_ret
        exact ⟨⟨k, rfl, by
          have := any_hit (fun x => x == y) xs k y HXK.out (by simp)
          unfold hasB; rw [this]; simp, by omega⟩, rfl⟩
      · have hne : (y == x) = false := by simpa using hxy
        go_wp2
        go_round
        case rel => exact ⟨k + 1, by omega, by go_num, any_take' _ _ _ _ HXK.out (by simpa using fun h => hxy h.symm) HA.out⟩
        case measure => simp [intOf]; omega
    · obtain rfl : k = n := by omega
      have h2 := HA.out
      rw [take_all HL.out] at h2
      have H2 := hide h2
      clear h2 HA
      go_wp2
      go_ret
      exact ⟨⟨-1, rfl, by unfold hasB; rw [H2.out]; rfl, by omega⟩, rfl⟩

theorem Contains_any (A : Option Addr) (n c B : Nat) (xs : List Int) (y : Int) (w : World) (hx : Reads w B 1 A n (xs.map (Value.int .i64))) (hn : n ≤ 4611686018427387904) :
    Calls Tryd.prog 30 #[.slice A n c, .int .i64 y] w fun e w' => e = .returned (.bool (hasB xs y)) ∧ w = w' := by
  go_enter Tryd.func30, Tryd.ntmps30
  go_wp2_with fail
  refine (Index_any A n c B xs y w hx hn).mono ?_
  rintro e w' ⟨⟨i, rfl, hi, h2⟩, rfl⟩
  have HI := hide hi
  clear hi
  go_wp2
  go_ret
  exact ⟨ret_bool HI.out, rfl⟩
end

end Go.Proofs.YtmpoaegdejhbeaaDoor
