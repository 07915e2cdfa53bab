/-
  append of a slice that came in (nil, empty or not) to a row of the call's own. The lines are those of the kit's extra-words, section 3, turned to this family's 'Reads'.
  The walks of slices.Clone at rows, bag.pairs, bag.put, and of the functions that Sum, Minus and Times hand on.
  slices.IndexFunc and slices.DeleteFunc over the items of a bag that the call made, by whatever predicate.
  The walk of slices.DeleteFunc over the items of a bag that the call made.
  The facts of this seat that the library contracts of the sort at items and of bits.Len ask for (printed by lay-plain, turned to names by lay2tpl).
  The sort's vocabulary at a row of the call's own, whatever its records are. Plain theorems over any program.
  'Below' with the draws counted: what a call may leave that only lays blocks and draws. Plain theorems over any program; no condition.
-/
import Derived.Test.YtoapjidpfghnlaaGreatDoorQbw
import Derived.Maps.AppendAt
import Derived.Deep.AppendLies
import Derived.RegionTactic
import Derived.OwnWalk
import Derived.Test.YtoapjidpfghnlaaGreatDoorBgP2
import Derived.Lib.LazyBuf
import Derived.Lib.SliceRun
import Derived.Deep.CutRange
import Derived.Deep.CutBlock
import Derived.Shelf.SlSortCmp.WholeK
import Derived.Shelf.SlSortCmp.NoneTotal
import Derived.Shelf.Small.Bits
import Derived.Test.YtoapjidpfghnlaaGreatDoorProg
import Derived.Sort.Grow
namespace Go.Proofs.YtoapjidpfghnlaaGreatDoor

section
open Go.RowKit

section
variable {P : Program} (w : World)

theorem run_append_of_nil (base : Nat) (t ty e : TypeId) (i : TypeInfo) (size : Nat) (ht : P.underlying t = some (.slice e)) (hi : P.info? e = some i)
    (v : Value) (n : Nat) (xs : List Value) (hown : w.ownsRow base e size v n xs) (c : Nat) : (Builtin.append_ #[t, t] ty #[v, .slice none 0 c]).run P w = .ok v w := by
  rcases hown.2 with ⟨rfl, rfl⟩ | ⟨g, cap, cur, rfl, _, _, hnc, _⟩
  · simp [Builtin.append_, run_underlying ht, sizeOf, typeInfo, hi, Builtin.lenOf, Builtin.firstCells]
  · simp [Builtin.append_, run_underlying ht, sizeOf, typeInfo, hi, Builtin.lenOf, Builtin.firstCells, hnc, storeCells]

theorem run_append_any (base : Nat) (t ty e : TypeId) (i : TypeInfo) (z : Value) (size bytes : Nat) (ht : P.underlying t = some (.slice e)) (hi : P.info? e = some i) (hz : i.zero = some z)
    (hsize : i.size = size) (hby : i.bytes = bytes) (hzs : z.cells.size = size) (hsz : 0 < size)
    (v : Value) (n : Nat) (xs : List Value) (hown : w.ownsRow base e size v n xs)
    (B : Nat) (A : Option Addr) (m c : Nat) (news : List Value) (hr : Reads w B size A m news) (h1 : ∀ u ∈ news, u.oneCell' = true)
    (h63 : n + m ≤ maxLen) (hbytes : (n + m) * bytes ≤ 140737488355328) (hbase : base ≤ w.heap.size) :
    ∃ v' w', (Builtin.append_ #[t, t] ty #[v, .slice A m c]).run P w = .ok v' w' ∧ w'.ownsRow base e size v' (n + m) (xs ++ news) ∧ w.grownBy w' v.ownBlock ∧
      (v'.ownBlock = v.ownBlock ∨ v'.ownBlock = some w.heap.size) := by
  rcases A with _ | ad
  · have hm : m = 0 := by
      rcases Nat.eq_zero_or_pos m with h0 | h0
      · exact h0
      · obtain ⟨_, _, h, _⟩ := hr.2 h0
        cases h
    subst hm
    have hn : news = [] := List.eq_nil_of_length_eq_zero (by simpa using hr.1)
    subst hn
    exact ⟨v, w, run_append_of_nil w base t ty e i size ht hi v n xs hown c, by simpa using hown, World.grownBy.refl w _, .inl rfl⟩
  · have hcells : ∀ j u, news[j]? = some u → w.cell? (ad.add j) = some u := by
      intro j u hu
      rcases Nat.eq_zero_or_pos m with h0 | h0
      · subst h0
        have hn : news = [] := List.eq_nil_of_length_eq_zero (by simpa using hr.1)
        subst hn
        simp at hu
      · obtain ⟨b, off, h, _, hc⟩ := hr.2 h0
        injection h with h
        subst h
        rw [add_plain]
        exact hc j u hu
    obtain ⟨v', w', hrun, h2, h3, _, h5⟩ := run_append_own_at (P := P) w base t ty e i z size bytes ht hi hz hsize hby hzs hsz v n xs hown ad m c news hr.1 hcells h1 h63 hbytes hbase
    exact ⟨v', w', hrun, h2, h3, h5⟩

theorem wp_append_any {o : Oper} {a : Act} {K : Act → World → Prop} {Q : Exit → Act → World → Prop} (s x : Operand) (t : TypeId)
    (ho : o.op = .call { callee := .builtin .append, args := #[s, x], argTypes := #[t, t] })
    (base : Nat) (e : TypeId) (i : TypeInfo) (z : Value) (size bytes : Nat) (ht : P.underlying t = some (.slice e)) (hi : P.info? e = some i) (hz : i.zero = some z)
    (hsize : i.size = size) (hby : i.bytes = bytes) (hzs : z.cells.size = size) (hsz : 0 < size)
    (v : Value) (n : Nat) (xs : List Value) (hs : a.eval s = v) (hown : w.ownsRow base e size v n xs)
    (B : Nat) (A : Option Addr) (m c : Nat) (news : List Value) (hx : a.eval x = .slice A m c) (hr : Reads w B size A m news) (h1 : ∀ u ∈ news, u.oneCell' = true)
    (h63 : n + m ≤ maxLen) (hbytes : (n + m) * bytes ≤ 140737488355328) (hbase : base ≤ w.heap.size)
    (h : ∀ v' w', w'.ownsRow base e size v' (n + m) (xs ++ news) → w.grownBy w' v.ownBlock → (v'.ownBlock = v.ownBlock ∨ v'.ownBlock = some w.heap.size) → K (a.put o.dst v') w') : o.wp P a w K Q := by
  obtain ⟨v', w', hrun, h2, h3, h4⟩ := run_append_any (P := P) w base t o.type e i z size bytes ht hi hz hsize hby hzs hsz v n xs hown B A m c news hr h1 h63 hbytes hbase
  unfold Oper.wp execOp
  simp only [ho, resolve, invoke, builtin, Sem.run_bind, Sem.run_pure, Result.andThen_ok, List.map_toArray, List.map_cons, List.map_nil, hs, hx, hrun]
  exact h v' w' h2 h3 h4

theorem wpList_append_any {ops : Array Oper} {rest : List Oper} {o : Oper} {a : Act} {Q : Exit → Act → World → Prop} (hgd : o.guard = none) (s x : Operand) (t : TypeId)
    (ho : o.op = .call { callee := .builtin .append, args := #[s, x], argTypes := #[t, t] })
    (base : Nat) (e : TypeId) (i : TypeInfo) (z : Value) (size bytes : Nat) (ht : P.underlying t = some (.slice e)) (hi : P.info? e = some i) (hz : i.zero = some z)
    (hsize : i.size = size) (hby : i.bytes = bytes) (hzs : z.cells.size = size) (hsz : 0 < size)
    (v : Value) (n : Nat) (xs : List Value) (hs : a.eval s = v) (hown : w.ownsRow base e size v n xs)
    (B : Nat) (A : Option Addr) (m c : Nat) (news : List Value) (hx : a.eval x = .slice A m c) (hr : Reads w B size A m news) (h1 : ∀ u ∈ news, u.oneCell' = true)
    (h63 : n + m ≤ maxLen) (hbytes : (n + m) * bytes ≤ 140737488355328) (hbase : base ≤ w.heap.size)
    (h : ∀ v' w', w'.ownsRow base e size v' (n + m) (xs ++ news) → w.grownBy w' v.ownBlock → (v'.ownBlock = v.ownBlock ∨ v'.ownBlock = some w.heap.size) → wpList P ops Q rest (a.put o.dst v') w') : wpList P ops Q (o :: rest) a w :=
  wpList_plain hgd fun _ hK => wp_append_any w s x t ho base e i z size bytes ht hi hz hsize hby hzs hsz v n xs hs hown B A m c news hx hr h1 h63 hbytes hbase fun v' w' h2 h3 h4 => hK _ _ (h v' w' h2 h3 h4)

end
end

section
open Go.RowKit
attribute [local go_sem] Oper.semAt_some wide_fn wide_depth

theorem info_parts3 {t : TypeId} {z : Value} {s b : Nat} (h : (Tryz.prog.info? t).map (fun i => (i.zero, i.size, i.bytes)) = some (some z, s, b)) : ∃ i, Tryz.prog.info? t = some i ∧ i.zero = some z ∧ i.size = s ∧ i.bytes = b := by
  obtain ⟨i, hi, hz⟩ := Option.map_eq_some_iff.1 h
  simp only [Prod.mk.injEq] at hz
  exact ⟨i, hi, hz.1, hz.2.1, hz.2.2⟩
theorem infoVal : (Tryz.prog.info? 102).map (fun i => (i.zero, i.size, i.bytes)) = some (some (.agg #[.int .i64 0, .int .i64 0, .string ByteArray.empty]), 3, 32) := by kernel_rfl
theorem one_cell {r : Rw} : ∀ u ∈ r.flatMap encV, u.oneCell' = true := by
  intro u hu
  obtain ⟨v, _, hv⟩ := List.mem_flatMap.1 hu
  unfold encV at hv
  simp only [List.mem_cons, List.not_mem_nil, or_false] at hv
  rcases hv with rfl | rfl | rfl <;> rfl

/-- A row, handed back. -/
def RetRow (w : World) (B n : Nat) (r : Rw) (e : Ending) (w' : World) : Prop := ∃ A' c', e = .returned (.slice A' n c') ∧ RowK w' B A' n r ∧ Below w.heap.size w w'
/-- .. of which the room is known. -/
def RetRowC (w : World) (B n : Nat) (r : Rw) (e : Ending) (w' : World) : Prop := ∃ A' c', e = .returned (.slice A' n c') ∧ RowK w' B A' n r ∧ n ≤ c' ∧ Below w.heap.size w w'
theorem own_capC {w : World} {base : Nat} {e : TypeId} {size n c : Nat} {A : Option Addr} {xs : List Value} (h : w.ownsRow base e size (.slice A n c) n xs) : n ≤ c := by
  rcases h.2 with ⟨he, hx⟩ | ⟨g', cap, cur, he, _, _, h1, _⟩
  · injection he with _ he _
    omega
  · injection he with _ _ he
    omega
set_option maxRecDepth 100000 in
set_option maxHeartbeats 2000000 in
theorem CloneC_any (A : Option Addr) (n c B B' : Nat) (r : Rw) (w : World) (hr : RowK w B A n r) (hn : n ≤ 1000) :
    Calls Tryz.prog 103 #[.slice A n c] w (RetRowC w B' n r) := by
  obtain ⟨i0, hi, hz0, hz1, hz2⟩ := info_parts3 infoVal
  cases A with
  | none =>
    have hn0 : n = 0 := by
      rcases Nat.eq_zero_or_pos n with h | h
      · exact h
      · obtain ⟨b, off, e, _⟩ := hr.rd.2 h
        cases e
    subst hn0
    have hq := fun w => run_eql_slice_nil (P := Tryz.prog) w 34 102 none 0 c Tryz.underlying34
    go_enter Tryz.func103, Tryz.ntmps103
    go_wp2
    go_ret
    exact ⟨none, _, rfl, ⟨hr.rd, fun h => absurd h (Nat.lt_irrefl _), hr.le⟩, Nat.zero_le _, Below.refl _ _⟩
  | some a =>
    have hlit := own_lit w 102 3 0 #[] rfl (by unfold maxLen; omega) (Nat.le_refl w.heap.size)
    have hB0 := below_val (w := w) #[] 102
    have hrd := hr.rd.alloc (Nat.le_refl _) (.cells #[] 102)
    have hle := hr.le
    clear hr
    have hq := fun w => run_eql_slice_nil (P := Tryz.prog) w 34 102 (some a) n c Tryz.underlying34
    go_enter Tryz.func103, Tryz.ntmps103
    go_wp2_with (at_builtin; refine wpList_append_any _ rfl _ _ 34 rfl w.heap.size 102 i0 _ 3 32 Tryz.underlying34 hi hz0 hz1 hz2 rfl (by decide) (.slice (some ⟨w.heap.size, 0, none⟩) 0 0) 0 [] rfl hlit w.heap.size (some a) n c (r.flatMap encV) rfl hrd one_cell (by unfold maxLen; omega) (by omega) (by simp) ?_; intro v' W1 hown hgrow _; rw [Nat.zero_add, List.nil_append] at hown)
    have hB1 : Below w.heap.size w W1 := below_append hB0 hlit (by simp) hgrow
    obtain ⟨A', c', rfl, hR⟩ := own_form hown
    go_ret
    exact ⟨A', c', rfl, RowK.of_own hown hle, own_capC hown, hB1⟩
/-- A bag and an error, handed back. -/
def RetBag (w : World) (d : Bg) (E : Int) (e : Ending) (w' : World) : Prop :=
  ∃ A n c l, e = .returned (.tuple #[.slice A n c, .int .i64 E]) ∧ dat l = d ∧ BagR w' w'.heap.size A n l ∧ n ≤ c ∧ Below w.heap.size w w'
/-- A bag that is told if it is valid. -/
def RetPut (w : World) (d : Bg) : Ending → World → Prop := RetBag w (if okBag d then d else []) (if okBag d then 0 else 4)
end

section
open Go.RowKit
attribute [local go_sem] Oper.semAt_some
set_option linter.unusedVariables false
set_option linter.unusedSimpArgs false

/-- What is known of the place where a predicate first holds. -/
def FirstAt (p : It → Bool) (l : List It) (i : Int) : Prop := ((∀ x ∈ l, p x = false) ∧ i = -1) ∨ ∃ k : Nat, i = (k : Int) ∧ (∀ x ∈ l.take k, p x = false) ∧ ∃ x, l[k]? = some x ∧ p x = true
/-! A row of the call's own, written in place. -/
theorem own_store2 {w : World} {base : Nat} {e : TypeId} {size g c n j : Nat} {xs : List Value} (h : w.ownsRow base e size (.slice (some ⟨g, 0, none⟩) n c) n xs) (u : Value) :
    (w.setCell ⟨g, j, none⟩ u).ownsRow base e size (.slice (some ⟨g, 0, none⟩) n c) n (xs.set j u) := by
  refine ⟨by rw [List.length_set]; exact h.1, ?_⟩
  rcases h.2 with ⟨he, _⟩ | ⟨g', cap, cur, he, hb, hg, h1, h2, h3, h4⟩
  · cases he
  · injection he with he1 he2 he3
    injection he1 with he1
    injection he1 with he1
    subst he1 he3
    refine .inr ⟨g, c, cur.setIfInBounds j u, rfl, hb, ?_, h1, h2, by rw [Array.size_setIfInBounds]; exact h3, ?_⟩
    · exact Blk.set_ (w := w) (g := g) (t := e) (cs := cur) hg j u
    · rw [Array.toList_setIfInBounds, ← h4, List.take_set]
theorem own_pre {w : World} {base : Nat} {e : TypeId} {size g c n m : Nat} {xs : List Value} (h : w.ownsRow base e size (.slice (some ⟨g, 0, none⟩) n c) n xs) (hm : m ≤ n) :
    w.ownsRow base e size (.slice (some ⟨g, 0, none⟩) m c) m (xs.take (m * size)) := by
  have hms := Nat.mul_le_mul_right size hm
  refine ⟨by rw [List.length_take, h.1]; omega, ?_⟩
  rcases h.2 with ⟨he, _⟩ | ⟨g', cap, cur, he, hb, hg, h1, h2, h3, h4⟩
  · cases he
  · injection he with he1 he2 he3
    injection he1 with he1
    injection he1 with he1
    subst he1 he3
    exact .inr ⟨g, c, cur, rfl, hb, hg, by omega, h2, h3, by rw [← h4, List.take_take, Nat.min_eq_left hms]⟩
theorem own_sets {base : Nat} {e : TypeId} {size g c n : Nat} : ∀ (vs : List Value) (w : World) (o : Nat) {xs : List Value}, w.ownsRow base e size (.slice (some ⟨g, 0, none⟩) n c) n xs → n * size ≤ o → (w.setCells g o vs).ownsRow base e size (.slice (some ⟨g, 0, none⟩) n c) n xs
  | [], w, o, xs, h, _ => h
  | v :: vs, w, o, xs, h, ho => by
    have h1 := own_store2 (j := o) h v
    rw [List.set_eq_of_length_le (by rw [h.1]; exact ho)] at h1
    exact own_sets vs (w.setCell ⟨g, o, none⟩ v) (o + 1) h1 (by omega)
theorem bar_sets {N : Nat} {X : List Nat} {g : Nat} {a : World} (hg : g ∈ X) : ∀ (vs : List Value) (w : World) (o : Nat), Bar N X a w → Bar N X a (w.setCells g o vs)
  | [], w, o, h => h
  | v :: vs, w, o, h => bar_sets hg vs (w.setCell ⟨g, o, none⟩ v) (o + 1) (h.trans ⟨rfl, rfl, rfl, by simp [World.setCell], fun k hk hX => by
      have : k ≠ g := fun e => hX (e ▸ hg)
      exact Below.heap_setCell w ⟨g, o, none⟩ v k (fun e => this e)⟩)
end

section
open Go.RowKit
attribute [local go_sem] Oper.semAt_some
set_option linter.unusedVariables false
set_option linter.unusedSimpArgs false

/-- What DeleteFunc leaves. -/
def RetDel (w : World) (base g c : Nat) (l : List It) (e : Ending) (w' : World) : Prop := e = .returned (.slice (some ⟨g, 0, none⟩) l.length c) ∧ w'.ownsRow base 119 2 (.slice (some ⟨g, 0, none⟩) l.length c) l.length (l.flatMap encIt) ∧ Bar w.heap.size [g] w w'
theorem own_blk {w : World} {base : Nat} {e : TypeId} {size g c n : Nat} {xs : List Value} (h : w.ownsRow base e size (.slice (some ⟨g, 0, none⟩) n c) n xs) : ∃ cur, Blk w g e cur := by
  rcases h.2 with ⟨he, _⟩ | ⟨g', cap, cur, he, hb, hg, h1, h2, h3, h4⟩
  · cases he
  · injection he with he1 he2 he3
    injection he1 with he1
    injection he1 with he1
    subst he1
    exact ⟨cur, hg⟩
end

section
open Go.Shelf Go.Proofs

def sortI_ren : Go.Shelf.Ren := ⟨fun | 14 => 225 | 20 => 247 | 21 => 248 | 22 => 249 | 23 => 250 | 24 => 251 | 25 => 252 | 26 => 253 | 27 => 254 | 46 => 265 | 47 => 216 | 48 => 217 | 49 => 266 | 50 => 267 | 15 => 127 | 57 => 273 | 28 => 178 | 29 => 179 | n => n, fun | 24 => 119 | 22 => 39 | 3 => 3 | 25 => 218 | 4 => 4 | 0 => 0 | 46 => 203 | 45 => 202 | 50 => 207 | 66 => 245 | 39 => 166 | 55 => 212 | 70 => 249 | 76 => 265 | 77 => 77 | 53 => 210 | 5 => 5 | 9 => 9 | n => n, fun | n => n⟩
def lays125_ren : Go.Shelf.Ren := ⟨fun | 125 => 127 | 128 => 178 | 129 => 179 | n => n, fun | 46 => 166 | 3 => 3 | 51 => 210 | 53 => 212 | 4 => 4 | 5 => 5 | 9 => 9 | n => n, fun | n => n⟩
end

section
open Go.Shelf Go.Lib Go.Sort

section
variable {α : Type} [Inhabited α] {enc : α → List Value} {k : Nat} (hk : ∀ x, (enc x).length = k) (h0 : 0 < k)
include hk h0
theorem holds_ownG {w : World} {base g n c : Nat} {e : TypeId} {l : List α} (h : w.ownsRow base e k (.slice (some ⟨g, 0, none⟩) n c) n (l.flatMap enc)) : HoldsK enc k w g 0 l.toArray ∧ g < w.heap.size ∧ base ≤ g := by
  rcases h.2 with ⟨he, _⟩ | ⟨g', cap, cur, he, hb, hg, h1, h2, h3, h4⟩
  · cases he
  · injection he with he1 he2 he3
    injection he1 with he1
    injection he1 with he1
    subst he1
    refine ⟨fun j hj => ?_, (Array.getElem?_eq_some_iff.1 hg).1, hb⟩
    rw [size_flatK] at hj
    have hj' : j < l.length * k := hj
    have hq : j / k < l.length := (Nat.div_lt_iff_lt_mul h0).2 hj'
    have hm := Nat.mod_lt j h0
    rw [get_flatK _ _ _ _ hj, Nat.zero_add]
    obtain ⟨x, hx⟩ : ∃ x, l[j / k]? = some x := ⟨_, List.getElem?_eq_getElem hq⟩
    have hxa : l.toArray[j / k]! = x := by
      obtain ⟨h1, h2⟩ := List.getElem?_eq_some_iff.1 hx
      simp [h1, h2]
    have hf := flat_get (enc := enc) (k := k) hk l (j / k) (j % k) x hx hm
    rw [show j / k * k + j % k = j by rw [Nat.mul_comm]; exact Nat.div_add_mod j k] at hf
    have hlen : (enc x)[j % k]? = some (enc x)[j % k]! := by
      rw [getElem!_pos (enc x) (j % k) (by rw [hk]; exact hm)]
      exact List.getElem?_eq_getElem _
    rw [hlen] at hf
    have hc : cur[j]? = some (enc x)[j % k]! := by
      have h5 : (l.flatMap enc)[j]? = some (enc x)[j % k]! := hf
      rw [← h4, List.getElem?_take] at h5
      split at h5
      · rw [← Array.getElem?_toList]; exact h5
      · cases h5
    rw [hxa]
    exact ⟨(cell_of_row w g j cur _ (0, 0) hg).trans hc, Blk.frozen (w := w) (g := g) (t := e) (cs := cur) hg j⟩
theorem reads_holdsG {w : World} {g : Nat} {d : Array α} (h : HoldsK enc k w g 0 d) (hg : g < w.heap.size) : Reads w w.heap.size k (some ⟨g, 0, none⟩) d.size (d.toList.flatMap enc) := by
  have hfl : (d.toList.flatMap enc).length = d.size * k := by rw [flat_length hk]; simp
  refine ⟨hfl, fun _ => ⟨g, 0, rfl, hg, fun j u hu => ?_⟩⟩
  have hj := (List.getElem?_eq_some_iff.1 hu).1
  rw [hfl] at hj
  have hq : j / k < d.size := (Nat.div_lt_iff_lt_mul h0).2 hj
  have hm := Nat.mod_lt j h0
  obtain ⟨x, hx⟩ : ∃ x, d.toList[j / k]? = some x := ⟨_, List.getElem?_eq_getElem (by simpa using hq)⟩
  have hxa : d[j / k]! = x := by
    obtain ⟨h1, h2⟩ := List.getElem?_eq_some_iff.1 hx
    rw [getElem!_pos d (j / k) hq]
    simpa using h2
  have hjj : j / k * k + j % k = j := by rw [Nat.mul_comm]; exact Nat.div_add_mod j k
  have hf := flat_get (enc := enc) (k := k) hk d.toList (j / k) (j % k) x hx hm
  rw [hjj] at hf
  have hlen : (enc x)[j % k]? = some (enc x)[j % k]! := by
    rw [getElem!_pos (enc x) (j % k) (by rw [hk]; exact hm)]
    exact List.getElem?_eq_getElem _
  have hu' : (enc x)[j % k]? = some u := by rw [← hf]; exact hu
  have hc := (HoldsK.cell h (i := j / k) (c := j % k) hq hm).1
  rw [hxa, show 0 + j / k * k + j % k = 0 + j by omega] at hc
  rw [hc]
  rw [hlen] at hu'
  exact hu'
omit hk h0
theorem below_sortG {w : World} {g m : Nat} {d : Array α} {os : Array Obj} : Bar w.heap.size [g] w (sortWorldK enc k w g 0 m d os) where
  os := rfl
  tape := rfl
  output := rfl
  size := by unfold sortWorldK; rw [size_grow]; show _ ≤ (putRow id (Sort.ahead w m) g 0 _).heap.size + _; rw [size_putRow]; show w.heap.size ≤ w.heap.size + _; omega
  block i hi hX := by
    show ((w.heap.modify g _) ++ os)[i]? = _
    rw [Array.getElem?_append]
    split
    · rw [Array.getElem?_modify, if_neg (by simpa using fun e => hX (by simp [e]))]
    · rename_i hn
      rw [Array.size_modify] at hn
      omega
end
end

section
open Go.RowKit

structure GB (B : Nat) (w w' : World) : Prop where
  b : Below B w w'
  d : w.drawn ≤ w'.drawn
theorem GB.refl (B : Nat) (w : World) : GB B w w := ⟨Below.refl _ _, Nat.le_refl _⟩
theorem GB.trans {B : Nat} {a b c : World} (h : GB B a b) (k : GB B b c) : GB B a c := ⟨h.b.trans k.b, Nat.le_trans h.d k.d⟩
theorem GB.mono {B B' : Nat} {w w' : World} (h : GB B w w') (hB : B' ≤ B) : GB B' w w' := ⟨h.b.mono hB, h.d⟩
theorem GB.alloc {B : Nat} {a w : World} (h : GB B a w) (hB : B ≤ w.heap.size) (o : Obj) : GB B a (w.alloc o) := ⟨h.b.alloc hB o, h.d⟩
theorem GB.drew {B : Nat} {a w : World} (h : GB B a w) : GB B a w.drew := ⟨h.b.drew, Nat.le_succ_of_le h.d⟩
theorem GB.size {B : Nat} {w w' : World} (h : GB B w w') : w.heap.size ≤ w'.heap.size := h.b.size
theorem gstep {a b c : World} (h : GB a.heap.size a b) (k : GB b.heap.size b c) : GB a.heap.size a c := h.trans (k.mono h.size)
theorem gb_val {w : World} (cs : Array Value) (t : TypeId) : GB w.heap.size w (w.alloc (.cells cs t)) := (GB.refl _ _).alloc (Nat.le_refl _) _
theorem gb_two {w : World} (a b : Obj) : GB w.heap.size w ((w.alloc a).alloc b) := ((GB.refl _ _).alloc (Nat.le_refl _) _).alloc (by simp) _
theorem GB.grow {w w' : World} (h : GB w.heap.size w w') : ∃ q os, w' = Go.Sort.grow (w.drewN q) os := by
  refine ⟨w'.drawn - w.drawn, w'.heap.extract w.heap.size w'.heap.size, ?_⟩
  obtain ⟨⟨h1, h2, h3, h4, h5⟩, h6⟩ := h
  obtain ⟨heap', tape', drawn', os', output'⟩ := w'
  simp only at h1 h2 h3 h4 h5 h6
  subst h1 h2 h3
  unfold Go.Sort.grow World.drewN
  simp only [World.mk.injEq, and_true, true_and]
  refine ⟨?_, by omega⟩
  apply Array.ext
  · simp only [Array.size_append, Array.size_extract]
    omega
  · intro i hi1 hi2
    rw [Array.getElem_append]
    split
    · rename_i hlt
      have := h5 i hlt
      rw [Array.getElem?_eq_getElem hi1, Array.getElem?_eq_getElem hlt] at this
      exact Option.some.inj this
    · rename_i hge
      rw [Array.getElem_extract]
      congr 1
      omega
/-- The call hands back a value, and only lays blocks and draws. -/
def RetG (w : World) (v : Value) (e : Ending) (w' : World) : Prop := e = .returned v ∧ GB w.heap.size w w'
/-- A world that such a call may leave. -/
structure GBW (w : World) where
  x : World
  h : GB w.heap.size w x
instance (w : World) : Inhabited (GBW w) := ⟨⟨w, GB.refl _ _⟩⟩
theorem GBW.cell {w : World} {a : Addr} {v : Value} (hb : a.block < w.heap.size) (h : w.cell? a = some v) (p : GBW w) : p.x.cell? a = some v := (p.h.b.cell hb).trans h
theorem wp_region_quiet_gbw {P : Program} {id : Nat} {Q : Exit → Act → World → Prop} {a : Act} {w : World} {l : List Oper} (hm : P.follows .mixedOrders = true) (hB : Region.lexB .any l.toArray = true)
    (h : wpQuiet P l.toArray (fun w' => ∃ p : GBW w, w' = p.x) (fun a' => ∀ w', (∃ p : GBW w, w' = p.x) → Q .normal a' w') l a) : (Code.region id l.toArray true).wp P Q a w :=
  wp_region_quiet (C := fun w' => ∃ p : GBW w, w' = p.x) hm hB ⟨⟨w.drew, (GB.refl _ _).drew⟩, rfl⟩ (by simpa using h)
theorem calls_gbw {P : Program} {f : FuncId} {args : Array Value} {w : World} {p : GBW w} {v : Value} (h : Calls P f args p.x (RetG p.x v)) : Calls P f args p.x fun e w'' => e = .returned v ∧ ∃ q : GBW w, w'' = q.x :=
  h.mono fun _ _ ⟨he, hb⟩ => ⟨he, ⟨_, gstep p.h hb⟩, rfl⟩
end

end Go.Proofs.YtoapjidpfghnlaaGreatDoor
