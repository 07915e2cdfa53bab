/-
  A slice of records opened: it reads as a list of them, whatever the records are. (Readings of the claim's own form; any program.)
  The argument of type Bag opened: a slice of items, each with a row.
  The argument of type []Change opened: a slice of changes, each with a row.
  Arguments of type Row ([]Value) and []string opened.
  From a row's list of laid variables to the table of powers of ten.
  The arguments of type Keys (two lists of numbers, five numbers) and []Event opened, with the room of every row.
  The law's acts in memory; few; the argument of type []Act opened. No condition.
-/
import Derived.Test.YtoapjidpfghnlaaGreatDoorQbw
import Derived.Deep.Slices
import Derived.WideShapes
import Derived.ChangeSame
import Derived.Test.YtoapjidpfghnlaaGreatDoorBgP2
import Derived.ChangeArms
import Derived.Deep.Strs
import Derived.Test.YtoapjidpfghnlaaGreatDoorBgL
import Derived.Test.YtoapjidpfghnlaaGreatDoorBgS1
import Derived.SliceStrings
import Derived.Stop.LaidErr
import Derived.Lib.LaidTab
import Derived.Test.YtoapjidpfghnlaaGreatDoorIns
import Derived.Lib.SmallJoins
import Derived.ProofKit
import Derived.OpenShut
import Derived.Test.YtoapjidpfghnlaaGreatDoorPrL3
namespace Go.Proofs.YtoapjidpfghnlaaGreatDoor

section
section
open Go.RowKit Go.Deep Go.WideShapes Go.ChangeShapes

theorem plain_of_cell {w : World} {a : Addr} {v : Value} (h : w.cell? a = some v) : a = ⟨a.block, a.off, none⟩ := by
  obtain ⟨b, o, s⟩ := a
  cases s with
  | none => rfl
  | some s =>
    unfold World.cell? at h
    split at h <;> simp at h

theorem list_of {α : Type} {len : Nat} {p : Nat → α → Prop} (h : ∀ i, i < len → ∃ y, p i y) : ∃ L : List α, L.length = len ∧ ∀ i y, L[i]? = some y → p i y := by
  induction len with
  | zero => exact ⟨[], rfl, fun i y h => by simp at h⟩
  | succ n ih =>
    obtain ⟨L, h1, h2⟩ := ih fun i hi => h i (by omega)
    obtain ⟨y, hy⟩ := h n (by omega)
    refine ⟨L ++ [y], by simp [h1], fun i z hz => ?_⟩
    by_cases hi : i < n
    · rw [List.getElem?_append_left (by omega)] at hz
      exact h2 i z hz
    · have hl := (List.getElem?_eq_some_iff.1 hz).1
      rw [List.length_append, h1] at hl
      obtain rfl : i = n := by simp at hl; omega
      rw [List.getElem?_append_right (by omega), h1, Nat.sub_self] at hz
      obtain rfl : y = z := by simpa using hz
      exact hy

section
variable {H : Type} {enc : TypeId × Value → H} {P : Program} {w : World} {base : Nat} {held : Bool}

theorem flat_one (xs : List Int) : xs.flatMap (fun x => [Value.int .i64 x]) = xs.map (Value.int .i64) := by
  induction xs with
  | nil => rfl
  | cons x r ih => rw [List.flatMap_cons, ih]; rfl
end
end

section
open Go.RowKit Go.Deep Go.WideShapes Go.ChangeShapes

section
variable {H : Type} {enc : TypeId × Value → H} {P : Program} {w : World} {base : Nat} {held : Bool}
/-- A slice of records, with what each of them holds, and its length within its capacity. -/
theorem open_recsP {α : Type} {encα : α → List Value} {k : Nat} (p : α → Prop) (hk : ∀ x, (encα x).length = k) (hk0 : 0 < k) {t e : TypeId} {fuel : Nat} {v : Value} {x : DataW H × List MemPlace} (ht : P.underlying t = some (.slice e)) (ce : P.cellsOf e = k)
    (hdec : ∀ n cs' y, DataW.trod enc P w base (fun _ => true) held n e cs' = some y → ∃ z, cs' = encα z ∧ p z)
    (h : DataW.trod enc P w base (fun _ => true) held fuel t [v] = some x) :
    ∃ (A : Option Addr) (n c : Nat) (xs : List α), v = .slice A n c ∧ Reads w w.heap.size k A n (xs.flatMap encα) ∧ n ≤ 9223372036854775807 ∧ n ≤ c ∧ ∀ z ∈ xs, p z := by
  rcases open_slice ht h with ⟨hc, _⟩ | ⟨a, len, cap, m, n, D, Pl, hc, _, hl, hm, hmm, _, hx⟩
  · injection hc with hc
    exact ⟨none, 0, 0, [], hc, Reads.none_, by omega, by omega, by simp⟩
  · injection hc with hc
    simp only [if_true] at hmm
    have hlm : len ≤ m := by omega
    have each : ∀ i, i < len → ∃ z : α, (∀ j u, (encα z)[j]? = some u → w.cell? (a.add (i * k + j)) = some u) ∧ p z := by
      intro i hi
      obtain ⟨cs', h1, h2⟩ := hx i (by omega)
      rw [ce] at h1
      obtain ⟨_, hlen, hcell⟩ := World.cells?_some h1
      obtain ⟨z, rfl, hz⟩ := hdec n _ _ h2
      refine ⟨z, fun j u hu => ?_, hz⟩
      have hj := (List.getElem?_eq_some_iff.1 hu).1
      rw [hk] at hj
      have := hcell j (by omega)
      rw [add_add] at this
      rw [this, hu]
    obtain ⟨L, h1, h2⟩ := list_of each
    have hL : ∀ z ∈ L, p z := fun z hz => by
      obtain ⟨i, hi⟩ := List.mem_iff_getElem?.1 hz
      exact (h2 i z hi).2
    replace h2 := fun i y hy => (h2 i y hy).1
    unfold maxLen at hm
    refine ⟨some a, len, cap, L, hc, ⟨by rw [flat_length hk, h1], fun hn => ?_⟩, by omega, by omega, hL⟩
    obtain ⟨y0, hy0⟩ : ∃ y, L[0]? = some y := ⟨_, List.getElem?_eq_getElem (by omega)⟩
    obtain ⟨u0, hu0⟩ : ∃ u, (encα y0)[0]? = some u := ⟨_, List.getElem?_eq_getElem (by rw [hk]; exact hk0)⟩
    have c0 := h2 0 y0 hy0 0 u0 hu0
    rw [Nat.zero_mul, show a.add (0 + 0) = a by simp [Addr.add]] at c0
    have hp := plain_of_cell c0
    refine ⟨a.block, a.off, by rw [← hp], World.block_lt_of_cell? w _ c0, fun j u hu => ?_⟩
    have hj : j < L.length * k := by
      have := (List.getElem?_eq_some_iff.1 hu).1
      rwa [flat_length hk] at this
    have hq : j / k < L.length := (Nat.div_lt_iff_lt_mul hk0).2 hj
    obtain ⟨y, hy⟩ : ∃ y, L[j / k]? = some y := ⟨_, List.getElem?_eq_getElem hq⟩
    have hjm : j = (j / k) * k + j % k := by rw [Nat.mul_comm]; exact (Nat.div_add_mod j k).symm
    rw [hjm, flat_get hk L (j / k) (j % k) y hy (Nat.mod_lt _ hk0)] at hu
    have := h2 (j / k) y hy (j % k) u hu
    rw [hp, add_plain, ← hjm] at this
    exact this
end

section
variable {H : Type} {enc : TypeId × Value → H} {w : World} {base : Nat} {held : Bool}
set_option maxRecDepth 100000 in
theorem dec_val (n : Nat) (cs : List Value) (y : DataW H × List MemPlace) (h : DataW.trod enc Tryz.prog w base (fun _ => true) held n 102 cs = some y) : ∃ z : Val, cs = encV z ∧ True := by
  obtain ⟨y0, y1, y2, k, _, hl, h0, h1, h2⟩ := Go.Deep.trod_struct3 Tryz.underlying102 h
  rw [show Tryz.prog.cellsOf 102 = 3 by kernel_rfl] at hl
  match cs, hl with
  | [v0, v1, v2], _ =>
    change DataW.trod enc Tryz.prog w base (fun _ => true) held k 3 (([v0, v1, v2].drop 0).take (Tryz.prog.cellsOf 3)) = some y0 at h0
    change DataW.trod enc Tryz.prog w base (fun _ => true) held k 3 (([v0, v1, v2].drop 1).take (Tryz.prog.cellsOf 3)) = some y1 at h1
    change DataW.trod enc Tryz.prog w base (fun _ => true) held k 9 (([v0, v1, v2].drop 2).take (Tryz.prog.cellsOf 9)) = some y2 at h2
    rw [show Tryz.prog.cellsOf 3 = 1 by kernel_rfl] at h0 h1
    rw [show Tryz.prog.cellsOf 9 = 1 by kernel_rfl] at h2
    have g0 : DataW.trod enc Tryz.prog w base (fun _ => true) held k 3 [v0] = some y0 := h0
    have g1 : DataW.trod enc Tryz.prog w base (fun _ => true) held k 3 [v1] = some y1 := h1
    have g2 : DataW.trod enc Tryz.prog w base (fun _ => true) held k 9 [v2] = some y2 := h2
    obtain ⟨a, ea, _⟩ := DataW.trod_int Tryz.underlying3 g0
    obtain ⟨b, eb, _⟩ := DataW.trod_int Tryz.underlying3 g1
    obtain ⟨c, ec, _⟩ := DataW.trod_string Tryz.underlying9 g2
    simp at ea eb ec
    subst ea eb ec
    exact ⟨⟨a, b, c⟩, rfl, trivial⟩
end
end

section
open Go.RowKit Go.Deep Go.WideShapes Go.ChangeShapes
section
variable {H : Type} {enc : TypeId × Value → H} {w : World} {base : Nat} {held : Bool}
end
end

section
open Go.RowKit Go.Deep Go.WideShapes Go.ChangeShapes
section
variable {H : Type} {enc : TypeId × Value → H} {w : World} {base : Nat} {held : Bool}
end
end

section
open Go.RowKit
theorem laid_drop {P : Program} {w : World} : ∀ (i : Nat) {l : List (String × DataW Unit)}, laidMet P l w → laidMet P (l.drop i) w
  | 0, _, h => h
  | _ + 1, [], h => h
  | i + 1, _ :: _, h => laid_drop i h.tail
theorem tab_of_laid {w : World} {l r : List (String × DataW Unit)} (i : Nat) (he : l.drop i = ("internal/strconv.uint64pow10", Lib.tabData .u64 Lib.pow10Tab) :: r) (h : laidMet Tryz.prog l w) : Tab w := by
  have h1 := laid_drop i h
  rw [he] at h1
  exact Lib.tabIs_of_head (g := 0) (t := 288) (e := 212) (n := 20) (by kernel_rfl) (by kernel_rfl) Tryz.underlying288 Tryz.underlying212 (by kernel_rfl) (by kernel_rfl) h1
end
end

section
open Go.Joins Go.ChangeShapes Go.WideShapes Go.RowKit Go.Deep
section
variable {H : Type} {enc : TypeId × Value → H} {P : Program} {w : World} {base : Nat} {spare : Nat → Bool} {held : Bool}
theorem open_agg7 {r : Reach} {b0 : Nat} {t : TypeId} {f0 f1 f2 f3 f4 f5 f6 : Field} {v : Value} {d : DataW H} {p : List MemPlace} (hs : P.underlying t = some (.struct #[f0, f1, f2, f3, f4, f5, f6])) (hone : oneCellFields P #[f0, f1, f2, f3, f4, f5, f6] = true) (hC : P.cellsOf t = 7)
    (hv : Value.okWide P w r b0 t v) (h : DataW.Trod enc P w base spare held t v d p) :
    ∃ (v0 v1 v2 v3 v4 v5 v6 : Value) (y0 y1 y2 y3 y4 y5 y6 : DataW H × List MemPlace) (n : Nat), v = .agg #[v0, v1, v2, v3, v4, v5, v6] ∧
      DataW.trod enc P w base spare held n f0.type [v0] = some y0 ∧ DataW.trod enc P w base spare held n f1.type [v1] = some y1 ∧ DataW.trod enc P w base spare held n f2.type [v2] = some y2 ∧ DataW.trod enc P w base spare held n f3.type [v3] = some y3 ∧ DataW.trod enc P w base spare held n f4.type [v4] = some y4 ∧ DataW.trod enc P w base spare held n f5.type [v5] = some y5 ∧ DataW.trod enc P w base spare held n f6.type [v6] = some y6 := by
  obtain ⟨cs, rfl, hsz⟩ := okWide_struct hs hv
  obtain ⟨l⟩ := cs
  match l, hsz.trans hC with
  | [c0, c1, c2, c3, c4, c5, c6], _ =>
    obtain ⟨fuel, hf⟩ := h
    obtain ⟨xs, n, _, hx, _, hlen, hg⟩ := DataW.trod_struct hs hf
    obtain ⟨o0, k0⟩ := hone_of hone 0 f0 rfl
    obtain ⟨o1, k1⟩ := hone_of hone 1 f1 rfl
    obtain ⟨o2, k2⟩ := hone_of hone 2 f2 rfl
    obtain ⟨o3, k3⟩ := hone_of hone 3 f3 rfl
    obtain ⟨o4, k4⟩ := hone_of hone 4 f4 rfl
    obtain ⟨o5, k5⟩ := hone_of hone 5 f5 rfl
    obtain ⟨o6, k6⟩ := hone_of hone 6 f6 rfl
    match xs, hlen with
    | [y0, y1, y2, y3, y4, y5, y6], _ =>
      exact ⟨c0, c1, c2, c3, c4, c5, c6, y0, y1, y2, y3, y4, y5, y6, n, rfl, by simpa [Value.cells, o0, k0] using hg 0 f0 rfl, by simpa [Value.cells, o1, k1] using hg 1 f1 rfl, by simpa [Value.cells, o2, k2] using hg 2 f2 rfl, by simpa [Value.cells, o3, k3] using hg 3 f3 rfl, by simpa [Value.cells, o4, k4] using hg 4 f4 rfl, by simpa [Value.cells, o5, k5] using hg 5 f5 rfl, by simpa [Value.cells, o6, k6] using hg 6 f6 rfl⟩
end
section
variable {H : Type} {enc : TypeId × Value → H} {w : World} {base : Nat} {held : Bool}
theorem open_intsK {fuel : Nat} {v : Value} {x : DataW H × List MemPlace} (h : DataW.trod enc Tryz.prog w base (fun _ => true) held fuel 22 [v] = some x) : ∃ A n c, ∃ xs : List Int, v = .slice A n c ∧ Reads w w.heap.size 1 A n (xs.map (Value.int .i64)) ∧ n ≤ 9223372036854775807 ∧ n ≤ c := by
  obtain ⟨A, n, c, xs, h1, h2, h3, h4, _⟩ := open_recsP (α := Int) (encα := fun x => [Value.int .i64 x]) (k := 1) (fun _ => True) (fun _ => rfl) (by omega) Tryz.underlying22 (by kernel_rfl) (fun n cs' y hy => by
    obtain ⟨z, hz, _⟩ := DataW.trod_int Tryz.underlying3 hy
    exact ⟨z, hz, trivial⟩) h
  exact ⟨A, n, c, xs, h1, by rwa [flat_one] at h2, h3, h4⟩
/-- Keys that read. -/
structure KeyW where
  A : Option Addr
  n : Nat
  c : Nat
  on : List Int
  A' : Option Addr
  n' : Nat
  c' : Nat
  others : List Int
  wide : Int
  width : Int
  kind : Int
  lo : Int
  hi : Int
structure KeyR (w : World) (k : KeyW) : Prop where
  a : Reads w w.heap.size 1 k.A k.n (k.on.map (Value.int .i64))
  b : Reads w w.heap.size 1 k.A' k.n' (k.others.map (Value.int .i64))
set_option maxRecDepth 100000 in
theorem open_keys {r : Reach} {b0 : Nat} {v : Value} {d : DataW H} {ps : List MemPlace} (hval : Value.okWide Tryz.prog w r b0 24 v) (hd : DataW.Trod enc Tryz.prog w base (fun _ => true) held 24 v d ps) :
    ∃ k : KeyW, v = .agg #[.slice k.A k.n k.c, .slice k.A' k.n' k.c', .int .i64 k.wide, .int .i64 k.width, .int .i64 k.kind, .int .i64 k.lo, .int .i64 k.hi] ∧ KeyR w k := by
  obtain ⟨x0, x1, x2, x3, x4, x5, x6, y0, y1, y2, y3, y4, y5, y6, m, rfl, t0, t1, t2, t3, t4, t5, t6⟩ := open_agg7 Tryz.underlying24 (by kernel_rfl) (by kernel_rfl) hval hd
  obtain ⟨A, n, c, xs, rfl, h1, _, _⟩ := open_intsK t0
  obtain ⟨A', n', c', ys, rfl, h3, _, _⟩ := open_intsK t1
  obtain ⟨z2, e2, _⟩ := DataW.trod_int Tryz.underlying3 t2
  obtain ⟨z3, e3, _⟩ := DataW.trod_int Tryz.underlying3 t3
  obtain ⟨z4, e4, _⟩ := DataW.trod_int Tryz.underlying3 t4
  obtain ⟨z5, e5, _⟩ := DataW.trod_int Tryz.underlying3 t5
  obtain ⟨z6, e6, _⟩ := DataW.trod_int Tryz.underlying3 t6
  simp at e2 e3 e4 e5 e6
  subst e2 e3 e4 e5 e6
  exact ⟨⟨A, n, c, xs, A', n', c', ys, z2, z3, z4, z5, z6⟩, rfl, h1, h3⟩
end
end

section
open Go.RowKit Go.Deep Go.WideShapes Go.ChangeShapes
attribute [local go_sem] Oper.semAt_some wide_fn wide_depth
set_option linter.unusedVariables false
set_option linter.unusedSimpArgs false

/-- An act: what is called, a number, and a change (a time, a row, a number). -/
structure Ac where
  k : Int
  n : Int
  t : Int
  A : Option Addr
  m : Nat
  c : Nat
  r : Rw
  q : Int
def encAc (a : Ac) : List Value := [.int .i64 a.k, .int .i64 a.n, .int .i64 a.t, .slice a.A a.m a.c, .int .i64 a.q]
theorem encAc_len (a : Ac) : (encAc a).length = 5 := rfl
structure AcR (w : World) (B : Nat) (A : Option Addr) (n : Nat) (l : List Ac) : Prop where
  rd : Reads w w.heap.size 5 A n (l.flatMap encAc)
  rows : ∀ a ∈ l, RowK w B a.A a.m a.r
  caps : ∀ a ∈ l, a.m ≤ a.c
  le : n ≤ 9223372036854775807
theorem AcR.len {w : World} {B n : Nat} {A : Option Addr} {l : List Ac} (h : AcR w B A n l) : l.length = n := h.rd.len encAc_len (by omega)
theorem AcR.below {w w' : World} {B n : Nat} {A : Option Addr} {l : List Ac} (h : AcR w B A n l) (hb : Below w.heap.size w w') : AcR w' B A n l := ⟨h.rd.up hb, fun a ha => (h.rows a ha).below hb, h.caps, h.le⟩
theorem AcR.at_ {w : World} {B n : Nat} {A : Option Addr} {l : List Ac} (h : AcR w B A n l) {k : Nat} (hk : k < n) : ∃ b off a, A = some ⟨b, off, none⟩ ∧ b < w.heap.size ∧ l[k]? = some a ∧ w.cell? ⟨b, off + k * 5, none⟩ = some (.int .i64 a.k) ∧ w.cell? ⟨b, off + k * 5 + 1, none⟩ = some (.int .i64 a.n) ∧
    w.cell? ⟨b, off + k * 5 + 2, none⟩ = some (.int .i64 a.t) ∧ w.cell? ⟨b, off + k * 5 + 3, none⟩ = some (.slice a.A a.m a.c) ∧ w.cell? ⟨b, off + k * 5 + 4, none⟩ = some (.int .i64 a.q) ∧ RowK w B a.A a.m a.r ∧ a.m ≤ a.c := by
  obtain ⟨b, off, i, e, hb, hi, hc⟩ := h.rd.elem encAc_len h.len hk
  exact ⟨b, off, i, e, hb, hi, by simpa using hc 0 _ rfl, by simpa [← Nat.add_assoc] using hc 1 _ rfl, by simpa [← Nat.add_assoc] using hc 2 _ rfl, by simpa [← Nat.add_assoc] using hc 3 _ rfl, by simpa [← Nat.add_assoc] using hc 4 _ rfl, h.rows i (List.mem_of_getElem? hi), h.caps i (List.mem_of_getElem? hi)⟩
/-- What few answers: if it says yes, they are few. -/
def RetFw (w : World) (n : Nat) (e : Ending) (w' : World) : Prop := ∃ b : Bool, e = .returned (.bool b) ∧ (b = true → n ≤ 40) ∧ Below w.heap.size w w'
set_option maxRecDepth 100000 in
set_option maxHeartbeats 4000000 in
theorem fewA_any (A : Option Addr) (n c : Nat) (l : List Ac) (w : World) (hl : AcR w w.heap.size A n l) :
    Calls Tryz.prog 27 #[.slice A n c] w (RetFw w n) := by
  have hle := hl.le
  go_enter Tryz.func27, Tryz.ntmps27
  go_wp2_with fail
  go_loopw [3] (fun i wr => ∃ k : Nat, k ≤ n ∧ i = .int .i64 k ∧ Below w.heap.size w wr) (fun i _ => n - (intOf i).toNat)
  case atStart => exact ⟨0, Nat.zero_le _, rfl, Below.refl _ _⟩
  case round =>
    obtain ⟨k, hk, rfl, hBw⟩ := hrel
    by_cases hlt : k < n
    · obtain ⟨b, off, x, rfl, hb, hxk, c0, c1, c2, c3, c4, hrow, _⟩ := (hl.below hBw).at_ hlt
      clear hxk c0 c1 c2 c4
      have q1 : (0 : Int) ≤ (k : Int) := by omega
      have q2 : (k : Int) < (n : Int) := by omega
      have hba := below_val (w := wr) #[.slice x.A x.m x.c] 34
      have ka := Blk.new wr 34 #[.slice x.A x.m x.c]
      have hcell : (wr.alloc (.cells #[.slice x.A x.m x.c] 34)).cell? ⟨wr.heap.size, 0, none⟩ = some (.slice x.A x.m x.c) := ka.cell 0
      have hrd := (hrow.below hba).rd.up (Below.refl _ _)
      have hrl := hrow.le
      have HBA := hide hba
      have HCE := hide hcell
      clear hba ka hcell hrow
      go_wp2_with fail
      refine (Long_one x.A x.m x.c x.r wr.heap.size _ hrd hrl HCE.out).mono ?_
      rintro ee w1 hres
      obtain ⟨bb, rfl, hB1⟩ := hres
      have hB2 := bstep hBw (bstep HBA.out hB1)
      clear hB1 hBw c3 hrd HBA HCE
      cases bb
      · go_wp2
        go_roundw
        case rel => exact ⟨k + 1, by omega, by go_num, hB2⟩
        case measure => simp [intOf]; omega
      · go_wp2
        go_ret
        exact ⟨false, rfl, by simp, hB2⟩
    · obtain rfl : k = n := by omega
      by_cases z1 : k ≤ 40
      · have q1 : (k : Int) ≤ 40 := by omega
        have HZ := hide z1
        clear z1
        go_wp2
        go_ret
        exact ⟨_, rfl, fun _ => HZ.out, hBw⟩
      · have q1 : decide ((k : Int) ≤ 40) = false := decide_eq_false (by omega)
        clear z1
        go_wp2
        go_ret
        exact ⟨_, rfl, fun h => (by simp [q1] at h), hBw⟩
section
variable {H : Type} {enc : TypeId × Value → H} {w : World} {base : Nat} {held : Bool}
set_option maxRecDepth 100000 in
theorem dec_chg9 (n : Nat) (cs : List Value) (y : DataW H × List MemPlace) (h : DataW.trod enc Tryz.prog w base (fun _ => true) held n 57 cs = some y) : ∃ (t : Int) (A : Option Addr) (m c : Nat) (r : Rw) (q : Int), cs = [.int .i64 t, .slice A m c, .int .i64 q] ∧ RowK w w.heap.size A m r ∧ m ≤ c := by
  obtain ⟨y0, y1, y2, k, _, hl, h0, h1, h2⟩ := Go.Deep.trod_struct3 Tryz.underlying57 h
  rw [show Tryz.prog.cellsOf 57 = 3 by kernel_rfl] at hl
  match cs, hl with
  | [v0, v1, v2], _ =>
    change DataW.trod enc Tryz.prog w base (fun _ => true) held k 3 (([v0, v1, v2].drop 0).take (Tryz.prog.cellsOf 3)) = some y0 at h0
    change DataW.trod enc Tryz.prog w base (fun _ => true) held k 34 (([v0, v1, v2].drop 1).take (Tryz.prog.cellsOf 34)) = some y1 at h1
    change DataW.trod enc Tryz.prog w base (fun _ => true) held k 3 (([v0, v1, v2].drop 2).take (Tryz.prog.cellsOf 3)) = some y2 at h2
    rw [show Tryz.prog.cellsOf 3 = 1 by kernel_rfl] at h0 h2
    rw [show Tryz.prog.cellsOf 34 = 1 by kernel_rfl] at h1
    have g0 : DataW.trod enc Tryz.prog w base (fun _ => true) held k 3 [v0] = some y0 := h0
    have g1 : DataW.trod enc Tryz.prog w base (fun _ => true) held k 34 [v1] = some y1 := h1
    have g2 : DataW.trod enc Tryz.prog w base (fun _ => true) held k 3 [v2] = some y2 := h2
    obtain ⟨a, ea, _⟩ := DataW.trod_int Tryz.underlying3 g0
    obtain ⟨A, m, c, r, rfl, hr, hm, hmc, _⟩ := open_recsP (α := Val) (encα := encV) (k := 3) (fun _ => True) encV_len (by omega) Tryz.underlying34 (by kernel_rfl) (fun n cs' y hy => dec_val n cs' y hy) g1
    obtain ⟨b, eb, _⟩ := DataW.trod_int Tryz.underlying3 g2
    simp at ea eb
    subst ea eb
    exact ⟨a, A, m, c, r, b, rfl, RowK.of_reads hr (Nat.le_refl _) hm, hmc⟩
set_option maxRecDepth 100000 in
theorem dec_act (n : Nat) (cs : List Value) (y : DataW H × List MemPlace) (h : DataW.trod enc Tryz.prog w base (fun _ => true) held n 59 cs = some y) : ∃ z : Ac, cs = encAc z ∧ RowK w w.heap.size z.A z.m z.r ∧ z.m ≤ z.c := by
  obtain ⟨y0, y1, y2, k, _, hl, h0, h1, h2⟩ := Go.Deep.trod_struct3 Tryz.underlying59 h
  rw [show Tryz.prog.cellsOf 59 = 5 by kernel_rfl] at hl
  match cs, hl with
  | [v0, v1, v2, v3, v4], _ =>
    change DataW.trod enc Tryz.prog w base (fun _ => true) held k 3 (([v0, v1, v2, v3, v4].drop 0).take (Tryz.prog.cellsOf 3)) = some y0 at h0
    change DataW.trod enc Tryz.prog w base (fun _ => true) held k 3 (([v0, v1, v2, v3, v4].drop 1).take (Tryz.prog.cellsOf 3)) = some y1 at h1
    change DataW.trod enc Tryz.prog w base (fun _ => true) held k 57 (([v0, v1, v2, v3, v4].drop 2).take (Tryz.prog.cellsOf 57)) = some y2 at h2
    rw [show Tryz.prog.cellsOf 3 = 1 by kernel_rfl] at h0 h1
    rw [show Tryz.prog.cellsOf 57 = 3 by kernel_rfl] at h2
    have g0 : DataW.trod enc Tryz.prog w base (fun _ => true) held k 3 [v0] = some y0 := h0
    have g1 : DataW.trod enc Tryz.prog w base (fun _ => true) held k 3 [v1] = some y1 := h1
    have g2 : DataW.trod enc Tryz.prog w base (fun _ => true) held k 57 [v2, v3, v4] = some y2 := h2
    obtain ⟨a, ea, _⟩ := DataW.trod_int Tryz.underlying3 g0
    obtain ⟨b, eb, _⟩ := DataW.trod_int Tryz.underlying3 g1
    obtain ⟨t, A, m, c, r, q, e, hr, hc⟩ := dec_chg9 _ _ _ g2
    simp at ea eb e
    obtain ⟨rfl, rfl, rfl⟩ := e
    subst ea eb
    exact ⟨⟨a, b, t, A, m, c, r, q⟩, rfl, hr, hc⟩
set_option maxRecDepth 100000 in
theorem open_acts {r : Reach} {b0 : Nat} {v : Value} {d : DataW H} {ps : List MemPlace} (hval : Value.okWide Tryz.prog w r b0 48 v) (hd : DataW.Trod enc Tryz.prog w base (fun _ => true) held 48 v d ps) :
    ∃ A n c, ∃ l : List Ac, v = .slice A n c ∧ AcR w w.heap.size A n l := by
  obtain ⟨a0, l0, c0, rfl⟩ := okWide_slice Tryz.underlying48 hval
  obtain ⟨fuel, hf⟩ := hd
  obtain ⟨A, n, c, l, h1, hr, hn, _, hp⟩ := open_recsP (α := Ac) (encα := encAc) (k := 5) (fun z => RowK w w.heap.size z.A z.m z.r ∧ z.m ≤ z.c) encAc_len (by omega) Tryz.underlying48 (by kernel_rfl) (fun n cs' y hy => dec_act n cs' y hy) (by simpa only [Value.cells] using hf)
  exact ⟨A, n, c, l, h1, ⟨hr, fun a ha => (hp a ha).1, fun a ha => (hp a ha).2, hn⟩⟩
end
end

end Go.Proofs.YtoapjidpfghnlaaGreatDoor
