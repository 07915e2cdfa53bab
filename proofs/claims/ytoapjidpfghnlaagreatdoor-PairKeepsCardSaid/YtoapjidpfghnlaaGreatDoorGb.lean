/-
  append of a slice that came in (nil, empty or not) to a row of the call's own. The lines are those of the kit's extra-words, section 3, turned to this family's 'Reads'.
  The walks of slices.Clone at rows, bag.pairs, bag.put, and of the functions that Sum, Minus and Times hand on.
  slices.IndexFunc and slices.DeleteFunc over the items of a bag that the call made, by whatever predicate.
  The walk of slices.DeleteFunc over the items of a bag that the call made.
  The facts of this seat that the library contracts of the sort at items and of bits.Len ask for (printed by lay-plain, turned to names by lay2tpl).
  The sort's vocabulary at a row of the call's own, whatever its records are. Plain theorems over any program.
  'Below' with the draws counted: what a call may leave that only lays blocks and draws. Plain theorems over any program; no condition.
-/
import Derived.Test.YtoapjidpfghnlaaGreatDoorQbw
import Derived.Maps.AppendAt
import Derived.Deep.AppendLies
import Derived.RegionTactic
import Derived.OwnWalk
import Derived.Test.YtoapjidpfghnlaaGreatDoorBgP2
import Derived.Lib.LazyBuf
import Derived.Lib.SliceRun
import Derived.Deep.CutRange
import Derived.Deep.CutBlock
import Derived.Test.YtoapjidpfghnlaaGreatDoorBgP1
import Derived.Shelf.SlSortCmp.WholeK
import Derived.Shelf.SlSortCmp.NoneTotal
import Derived.Shelf.Small.Bits
import Derived.Test.YtoapjidpfghnlaaGreatDoorProg
import Derived.Sort.Grow
namespace Go.Proofs.YtoapjidpfghnlaaGreatDoor

section
open Go.RowKit

section
variable {P : Program} (w : World)

theorem run_append_of_nil (base : Nat) (t ty e : TypeId) (i : TypeInfo) (size : Nat) (ht : P.underlying t = some (.slice e)) (hi : P.info? e = some i)
    (v : Value) (n : Nat) (xs : List Value) (hown : w.ownsRow base e size v n xs) (c : Nat) : (Builtin.append_ #[t, t] ty #[v, .slice none 0 c]).run P w = .ok v w := by
  rcases hown.2 with ⟨rfl, rfl⟩ | ⟨g, cap, cur, rfl, _, _, hnc, _⟩
  · simp [Builtin.append_, run_underlying ht, sizeOf, typeInfo, hi, Builtin.lenOf, Builtin.firstCells]
  · simp [Builtin.append_, run_underlying ht, sizeOf, typeInfo, hi, Builtin.lenOf, Builtin.firstCells, hnc, storeCells]

theorem run_append_any (base : Nat) (t ty e : TypeId) (i : TypeInfo) (z : Value) (size bytes : Nat) (ht : P.underlying t = some (.slice e)) (hi : P.info? e = some i) (hz : i.zero = some z)
    (hsize : i.size = size) (hby : i.bytes = bytes) (hzs : z.cells.size = size) (hsz : 0 < size)
    (v : Value) (n : Nat) (xs : List Value) (hown : w.ownsRow base e size v n xs)
    (B : Nat) (A : Option Addr) (m c : Nat) (news : List Value) (hr : Reads w B size A m news) (h1 : ∀ u ∈ news, u.oneCell' = true)
    (h63 : n + m ≤ maxLen) (hbytes : (n + m) * bytes ≤ 140737488355328) (hbase : base ≤ w.heap.size) :
    ∃ v' w', (Builtin.append_ #[t, t] ty #[v, .slice A m c]).run P w = .ok v' w' ∧ w'.ownsRow base e size v' (n + m) (xs ++ news) ∧ w.grownBy w' v.ownBlock ∧
      (v'.ownBlock = v.ownBlock ∨ v'.ownBlock = some w.heap.size) := by
  rcases A with _ | ad
  · have hm : m = 0 := by
      rcases Nat.eq_zero_or_pos m with h0 | h0
      · exact h0
      · obtain ⟨_, _, h, _⟩ := hr.2 h0
        cases h
    subst hm
    have hn : news = [] := List.eq_nil_of_length_eq_zero (by simpa using hr.1)
    subst hn
    exact ⟨v, w, run_append_of_nil w base t ty e i size ht hi v n xs hown c, by simpa using hown, World.grownBy.refl w _, .inl rfl⟩
  · have hcells : ∀ j u, news[j]? = some u → w.cell? (ad.add j) = some u := by
      intro j u hu
      rcases Nat.eq_zero_or_pos m with h0 | h0
      · subst h0
        have hn : news = [] := List.eq_nil_of_length_eq_zero (by simpa using hr.1)
        subst hn
        simp at hu
      · obtain ⟨b, off, h, _, hc⟩ := hr.2 h0
        injection h with h
        subst h
        rw [add_plain]
        exact hc j u hu
    obtain ⟨v', w', hrun, h2, h3, _, h5⟩ := run_append_own_at (P := P) w base t ty e i z size bytes ht hi hz hsize hby hzs hsz v n xs hown ad m c news hr.1 hcells h1 h63 hbytes hbase
    exact ⟨v', w', hrun, h2, h3, h5⟩

theorem wp_append_any {o : Oper} {a : Act} {K : Act → World → Prop} {Q : Exit → Act → World → Prop} (s x : Operand) (t : TypeId)
    (ho : o.op = .call { callee := .builtin .append, args := #[s, x], argTypes := #[t, t] })
    (base : Nat) (e : TypeId) (i : TypeInfo) (z : Value) (size bytes : Nat) (ht : P.underlying t = some (.slice e)) (hi : P.info? e = some i) (hz : i.zero = some z)
    (hsize : i.size = size) (hby : i.bytes = bytes) (hzs : z.cells.size = size) (hsz : 0 < size)
    (v : Value) (n : Nat) (xs : List Value) (hs : a.eval s = v) (hown : w.ownsRow base e size v n xs)
    (B : Nat) (A : Option Addr) (m c : Nat) (news : List Value) (hx : a.eval x = .slice A m c) (hr : Reads w B size A m news) (h1 : ∀ u ∈ news, u.oneCell' = true)
    (h63 : n + m ≤ maxLen) (hbytes : (n + m) * bytes ≤ 140737488355328) (hbase : base ≤ w.heap.size)
    (h : ∀ v' w', w'.ownsRow base e size v' (n + m) (xs ++ news) → w.grownBy w' v.ownBlock → (v'.ownBlock = v.ownBlock ∨ v'.ownBlock = some w.heap.size) → K (a.put o.dst v') w') : o.wp P a w K Q := by
  obtain ⟨v', w', hrun, h2, h3, h4⟩ := run_append_any (P := P) w base t o.type e i z size bytes ht hi hz hsize hby hzs hsz v n xs hown B A m c news hr h1 h63 hbytes hbase
  unfold Oper.wp execOp
  simp only [ho, resolve, invoke, builtin, Sem.run_bind, Sem.run_pure, Result.andThen_ok, List.map_toArray, List.map_cons, List.map_nil, hs, hx, hrun]
  exact h v' w' h2 h3 h4

theorem wpList_append_any {ops : Array Oper} {rest : List Oper} {o : Oper} {a : Act} {Q : Exit → Act → World → Prop} (hgd : o.guard = none) (s x : Operand) (t : TypeId)
    (ho : o.op = .call { callee := .builtin .append, args := #[s, x], argTypes := #[t, t] })
    (base : Nat) (e : TypeId) (i : TypeInfo) (z : Value) (size bytes : Nat) (ht : P.underlying t = some (.slice e)) (hi : P.info? e = some i) (hz : i.zero = some z)
    (hsize : i.size = size) (hby : i.bytes = bytes) (hzs : z.cells.size = size) (hsz : 0 < size)
    (v : Value) (n : Nat) (xs : List Value) (hs : a.eval s = v) (hown : w.ownsRow base e size v n xs)
    (B : Nat) (A : Option Addr) (m c : Nat) (news : List Value) (hx : a.eval x = .slice A m c) (hr : Reads w B size A m news) (h1 : ∀ u ∈ news, u.oneCell' = true)
    (h63 : n + m ≤ maxLen) (hbytes : (n + m) * bytes ≤ 140737488355328) (hbase : base ≤ w.heap.size)
    (h : ∀ v' w', w'.ownsRow base e size v' (n + m) (xs ++ news) → w.grownBy w' v.ownBlock → (v'.ownBlock = v.ownBlock ∨ v'.ownBlock = some w.heap.size) → wpList P ops Q rest (a.put o.dst v') w') : wpList P ops Q (o :: rest) a w :=
  wpList_plain hgd fun _ hK => wp_append_any w s x t ho base e i z size bytes ht hi hz hsize hby hzs hsz v n xs hs hown B A m c news hx hr h1 h63 hbytes hbase fun v' w' h2 h3 h4 => hK _ _ (h v' w' h2 h3 h4)

end
end

section
open Go.RowKit
attribute [local go_sem] Oper.semAt_some wide_fn wide_depth

theorem info_parts3 {t : TypeId} {z : Value} {s b : Nat} (h : (Tryz.prog.info? t).map (fun i => (i.zero, i.size, i.bytes)) = some (some z, s, b)) : ∃ i, Tryz.prog.info? t = some i ∧ i.zero = some z ∧ i.size = s ∧ i.bytes = b := by
  obtain ⟨i, hi, hz⟩ := Option.map_eq_some_iff.1 h
  simp only [Prod.mk.injEq] at hz
  exact ⟨i, hi, hz.1, hz.2.1, hz.2.2⟩
theorem infoVal : (Tryz.prog.info? 102).map (fun i => (i.zero, i.size, i.bytes)) = some (some (.agg #[.int .i64 0, .int .i64 0, .string ByteArray.empty]), 3, 32) := by kernel_rfl
theorem infoItem : (Tryz.prog.info? 119).map (fun i => (i.zero, i.size, i.bytes)) = some (some (.agg #[.slice none 0 0, .int .i64 0]), 2, 32) := by kernel_rfl
theorem one_cell {r : Rw} : ∀ u ∈ r.flatMap encV, u.oneCell' = true := by
  intro u hu
  obtain ⟨v, _, hv⟩ := List.mem_flatMap.1 hu
  unfold encV at hv
  simp only [List.mem_cons, List.not_mem_nil, or_false] at hv
  rcases hv with rfl | rfl | rfl <;> rfl

/-- A row, handed back. -/
def RetRow (w : World) (B n : Nat) (r : Rw) (e : Ending) (w' : World) : Prop := ∃ A' c', e = .returned (.slice A' n c') ∧ RowK w' B A' n r ∧ Below w.heap.size w w'
/-- .. of which the room is known. -/
def RetRowC (w : World) (B n : Nat) (r : Rw) (e : Ending) (w' : World) : Prop := ∃ A' c', e = .returned (.slice A' n c') ∧ RowK w' B A' n r ∧ n ≤ c' ∧ Below w.heap.size w w'
theorem own_capC {w : World} {base : Nat} {e : TypeId} {size n c : Nat} {A : Option Addr} {xs : List Value} (h : w.ownsRow base e size (.slice A n c) n xs) : n ≤ c := by
  rcases h.2 with ⟨he, hx⟩ | ⟨g', cap, cur, he, _, _, h1, _⟩
  · injection he with _ he _
    omega
  · injection he with _ _ he
    omega
set_option maxRecDepth 100000 in
set_option maxHeartbeats 2000000 in
theorem CloneC_any (A : Option Addr) (n c B B' : Nat) (r : Rw) (w : World) (hr : RowK w B A n r) (hn : n ≤ 1000) :
    Calls Tryz.prog 103 #[.slice A n c] w (RetRowC w B' n r) := by
  obtain ⟨i0, hi, hz0, hz1, hz2⟩ := info_parts3 infoVal
  cases A with
  | none =>
    have hn0 : n = 0 := by
      rcases Nat.eq_zero_or_pos n with h | h
      · exact h
      · obtain ⟨b, off, e, _⟩ := hr.rd.2 h
        cases e
    subst hn0
    have hq := fun w => run_eql_slice_nil (P := Tryz.prog) w 34 102 none 0 c Tryz.underlying34
    go_enter Tryz.func103, Tryz.ntmps103
    go_wp2
    go_ret
    exact ⟨none, _, rfl, ⟨hr.rd, fun h => absurd h (Nat.lt_irrefl _), hr.le⟩, Nat.zero_le _, Below.refl _ _⟩
  | some a =>
    have hlit := own_lit w 102 3 0 #[] rfl (by unfold maxLen; omega) (Nat.le_refl w.heap.size)
    have hB0 := below_val (w := w) #[] 102
    have hrd := hr.rd.alloc (Nat.le_refl _) (.cells #[] 102)
    have hle := hr.le
    clear hr
    have hq := fun w => run_eql_slice_nil (P := Tryz.prog) w 34 102 (some a) n c Tryz.underlying34
    go_enter Tryz.func103, Tryz.ntmps103
    go_wp2_with (at_builtin; refine wpList_append_any _ rfl _ _ 34 rfl w.heap.size 102 i0 _ 3 32 Tryz.underlying34 hi hz0 hz1 hz2 rfl (by decide) (.slice (some ⟨w.heap.size, 0, none⟩) 0 0) 0 [] rfl hlit w.heap.size (some a) n c (r.flatMap encV) rfl hrd one_cell (by unfold maxLen; omega) (by omega) (by simp) ?_; intro v' W1 hown hgrow _; rw [Nat.zero_add, List.nil_append] at hown)
    have hB1 : Below w.heap.size w W1 := below_append hB0 hlit (by simp) hgrow
    obtain ⟨A', c', rfl, hR⟩ := own_form hown
    go_ret
    exact ⟨A', c', rfl, RowK.of_own hown hle, own_capC hown, hB1⟩
theorem Clone_any (A : Option Addr) (n c B B' : Nat) (r : Rw) (w : World) (hr : RowK w B A n r) (hn : n ≤ 1000) :
    Calls Tryz.prog 103 #[.slice A n c] w (RetRow w B' n r) :=
  (CloneC_any A n c B B' r w hr hn).mono fun _ _ ⟨A', c', h1, h2, _, h3⟩ => ⟨A', c', h1, h2, h3⟩

theorem pairs_any (v1 v2 : Value) (w : World) (h1 : ∃ A n c, v1 = .slice A n c) (h2 : ∃ A n c, v2 = .slice A n c) : Calls Tryz.prog 209 #[v1, v2] w fun e w' =>
    e = .returned (.func (Fn.func 241) #[] #[.pointer (some ⟨w.heap.size, 0, none⟩), .pointer (some ⟨w.heap.size + 1, 0, none⟩)]) ∧ w' = (w.alloc (.cells #[v1] 40)).alloc (.cells #[v2] 40) := by
  obtain ⟨A, n, c, rfl⟩ := h1
  obtain ⟨A', n', c', rfl⟩ := h2
  go_enter Tryz.func209, Tryz.ntmps209
  go_wp2
  go_ret
  exact ⟨rfl, rfl⟩
/-- A bag and an error, handed back. -/
def RetBag (w : World) (d : Bg) (E : Int) (e : Ending) (w' : World) : Prop :=
  ∃ A n c l, e = .returned (.tuple #[.slice A n c, .int .i64 E]) ∧ dat l = d ∧ BagR w' w'.heap.size A n l ∧ n ≤ c ∧ Below w.heap.size w w'
/-- A bag that is told if it is valid. -/
def RetPut (w : World) (d : Bg) : Ending → World → Prop := RetBag w (if okBag d then d else []) (if okBag d then 0 else 4)
theorem put_any (A : Option Addr) (n c B : Nat) (l : List It) (w : World) (hb : BagR w B A n l) (hB : B ≤ w.heap.size) (hc : n ≤ c) :
    Calls Tryz.prog 204 #[.slice A n c] w (RetPut w (dat l)) := by
  cases ho : okBag (dat l)
  · have HO := hide ho
    rw [show RetPut w (dat l) = RetBag w [] 4 from by unfold RetPut; rw [ho]; rfl]
    clear ho
    go_enter Tryz.func204, Tryz.ntmps204
    go_wp2_with fail
    refine (BagValid_any A n c B l w hb).mono ?_
    rintro e w' ⟨rfl, hB1⟩
    rw [HO.out]
    go_wp2
    go_ret2
    exact ⟨none, 0, 0, [], rfl, rfl, BagR.nil _ _, Nat.le_refl _, hB1⟩
  · have HO := hide ho
    rw [show RetPut w (dat l) = RetBag w (dat l) 0 from by unfold RetPut; rw [ho]; rfl]
    clear ho
    go_enter Tryz.func204, Tryz.ntmps204
    go_wp2_with fail
    refine (BagValid_any A n c B l w hb).mono ?_
    rintro e w' ⟨rfl, hB1⟩
    rw [HO.out]
    have hb' := (hb.below hB1).mono (Nat.le_trans hB hB1.size)
    go_wp2
    go_ret2
    exact ⟨A, n, c, l, rfl, rfl, hb', hc, hB1⟩
theorem sum1_any (m n : Int) (w : World) (h1 : -1000000 ≤ m ∧ m ≤ 1000000) (h2 : -1000000 ≤ n ∧ n ≤ 1000000) : Calls Tryz.prog 165 #[.int .i64 m, .int .i64 n] w fun e w' => e = .returned (.int .i64 (m + n)) ∧ w = w' := by
  have hw : IntKind.i64.wrap (m + n) = m + n := by rw [IntKind.wrap_i64]; omega
  go_enter Tryz.func165, Tryz.ntmps165
  go_wp2
  go_ret
  exact ⟨ret_int (by first | rfl | exact hw), rfl⟩
end

section
open Go.RowKit
attribute [local go_sem] Oper.semAt_some
set_option linter.unusedVariables false
set_option linter.unusedSimpArgs false

/-- What is known of the place where a predicate first holds. -/
def FirstAt (p : It → Bool) (l : List It) (i : Int) : Prop := ((∀ x ∈ l, p x = false) ∧ i = -1) ∨ ∃ k : Nat, i = (k : Int) ∧ (∀ x ∈ l.take k, p x = false) ∧ ∃ x, l[k]? = some x ∧ p x = true
set_option maxRecDepth 100000 in
set_option maxHeartbeats 2000000 in
theorem idxI_any (A : Option Addr) (n c : Nat) (l : List It) (w : World) (hr : Reads w w.heap.size 2 A n (l.flatMap encIt)) (hn : n ≤ 100000) (pf : Nat) (caps : Array Value) (p : It → Bool) (eg : ∀ args w, (callFunc pf args).run Tryz.prog w = .ok (.enter pf args) w)
    (hp : ∀ x ∈ l, ∀ W, Below w.heap.size w W → Calls Tryz.prog pf (#[.agg #[.slice x.A x.n x.c, .int .i64 x.m]] ++ caps) W (RetV W (.bool (p x)))) :
    Calls Tryz.prog 188 #[.slice A n c, .func (Fn.func pf) #[] caps] w fun e w' => (∃ i : Int, e = .returned (.int .i64 i) ∧ FirstAt p l i) ∧ Below w.heap.size w w' := by
  have HL := hide (hr.len encIt_len (by omega))
  have HP := hide hp
  clear hp
  go_enter Tryz.func188, Tryz.ntmps188
  go_wp2_with fail
  go_loopw [8] (fun i wr => ∃ k : Nat, k ≤ n ∧ i = .int .i64 k ∧ (∀ x ∈ l.take k, p x = false) ∧ Below w.heap.size w wr) (fun i _ => n - (intOf i).toNat)
  case atStart => exact ⟨0, Nat.zero_le _, rfl, by simp, Below.refl _ _⟩
  case round =>
    obtain ⟨k, hk, rfl, hany, hB⟩ := hrel
    have HA := hide hany
    clear hany
    by_cases hlt : k < n
    · obtain ⟨b, off, x, rfl, hb, hxk, hcx⟩ := (hr.below hB).elem encIt_len HL.out hlt
      have HX := hide hxk
      have e0 : wr.cell? ⟨b, off + k * 2, none⟩ = some (.slice x.A x.n x.c) := by simpa using hcx 0 _ rfl
      have e1 : wr.cell? ⟨b, off + k * 2 + 1, none⟩ = some (.int .i64 x.m) := by simpa [← Nat.add_assoc] using hcx 1 _ rfl
      have HC := hide (HP.out x (List.mem_of_getElem? hxk) wr hB)
      clear hcx hxk
      have q1 : (0 : Int) ≤ (k : Int) := by omega
      have q2 : (k : Int) < (n : Int) := by omega
      go_wp2_with fail
      refine HC.out.mono ?_
      rintro e w1 ⟨rfl, hB1⟩
      have hB2 := bstep hB hB1
      cases hq : p x
      · have HY := hide (show ∀ y ∈ l.take (k + 1), p y = false from fun y hy => by
          rw [take_snoc' HX.out] at hy
          rcases List.mem_append.1 hy with h | h
          · exact HA.out y h
          · rw [List.mem_singleton.1 h]; exact hq)
        clear hq hB1 hB e0 e1 HC
        go_wp2
        go_roundw
        case rel => exact ⟨k + 1, by omega, by go_num, HY.out, hB2⟩
        case measure => simp [intOf]; omega
      · have HY := hide hq
        clear hq hB1 hB e0 e1 HC
        go_wp2
        go_ret
        exact ⟨⟨_, rfl, .inr ⟨k, rfl, HA.out, x, HX.out, HY.out⟩⟩, hB2⟩
    · obtain rfl : k = n := by omega
      have HY := hide (show ∀ y ∈ l, p y = false from fun y hy => HA.out y (by rw [take_all HL.out]; exact hy))
      go_wp2
      go_ret
      exact ⟨⟨_, rfl, .inl ⟨HY.out, rfl⟩⟩, hB⟩

/-! A row of the call's own, written in place. -/
theorem own_store2 {w : World} {base : Nat} {e : TypeId} {size g c n j : Nat} {xs : List Value} (h : w.ownsRow base e size (.slice (some ⟨g, 0, none⟩) n c) n xs) (u : Value) :
    (w.setCell ⟨g, j, none⟩ u).ownsRow base e size (.slice (some ⟨g, 0, none⟩) n c) n (xs.set j u) := by
  refine ⟨by rw [List.length_set]; exact h.1, ?_⟩
  rcases h.2 with ⟨he, _⟩ | ⟨g', cap, cur, he, hb, hg, h1, h2, h3, h4⟩
  · cases he
  · injection he with he1 he2 he3
    injection he1 with he1
    injection he1 with he1
    subst he1 he3
    refine .inr ⟨g, c, cur.setIfInBounds j u, rfl, hb, ?_, h1, h2, by rw [Array.size_setIfInBounds]; exact h3, ?_⟩
    · exact Blk.set_ (w := w) (g := g) (t := e) (cs := cur) hg j u
    · rw [Array.toList_setIfInBounds, ← h4, List.take_set]
theorem own_pre {w : World} {base : Nat} {e : TypeId} {size g c n m : Nat} {xs : List Value} (h : w.ownsRow base e size (.slice (some ⟨g, 0, none⟩) n c) n xs) (hm : m ≤ n) :
    w.ownsRow base e size (.slice (some ⟨g, 0, none⟩) m c) m (xs.take (m * size)) := by
  have hms := Nat.mul_le_mul_right size hm
  refine ⟨by rw [List.length_take, h.1]; omega, ?_⟩
  rcases h.2 with ⟨he, _⟩ | ⟨g', cap, cur, he, hb, hg, h1, h2, h3, h4⟩
  · cases he
  · injection he with he1 he2 he3
    injection he1 with he1
    injection he1 with he1
    subst he1 he3
    exact .inr ⟨g, c, cur, rfl, hb, hg, by omega, h2, h3, by rw [← h4, List.take_take, Nat.min_eq_left hms]⟩
theorem own_sets {base : Nat} {e : TypeId} {size g c n : Nat} : ∀ (vs : List Value) (w : World) (o : Nat) {xs : List Value}, w.ownsRow base e size (.slice (some ⟨g, 0, none⟩) n c) n xs → n * size ≤ o → (w.setCells g o vs).ownsRow base e size (.slice (some ⟨g, 0, none⟩) n c) n xs
  | [], w, o, xs, h, _ => h
  | v :: vs, w, o, xs, h, ho => by
    have h1 := own_store2 (j := o) h v
    rw [List.set_eq_of_length_le (by rw [h.1]; exact ho)] at h1
    exact own_sets vs (w.setCell ⟨g, o, none⟩ v) (o + 1) h1 (by omega)
theorem bar_sets {N : Nat} {X : List Nat} {g : Nat} {a : World} (hg : g ∈ X) : ∀ (vs : List Value) (w : World) (o : Nat), Bar N X a w → Bar N X a (w.setCells g o vs)
  | [], w, o, h => h
  | v :: vs, w, o, h => bar_sets hg vs (w.setCell ⟨g, o, none⟩ v) (o + 1) (h.trans ⟨rfl, rfl, rfl, by simp [World.setCell], fun k hk hX => by
      have : k ≠ g := fun e => hX (e ▸ hg)
      exact Below.heap_setCell w ⟨g, o, none⟩ v k (fun e => this e)⟩)
theorem flat_set {l : List It} {i : Nat} (x : It) (hi : i < l.length) : (l.set i x).flatMap encIt = ((l.flatMap encIt).set (i * 2) (.slice x.A x.n x.c)).set (i * 2 + 1) (.int .i64 x.m) := by
  induction l generalizing i with
  | nil => simp at hi
  | cons y l ih =>
    cases i with
    | zero => rfl
    | succ i =>
      rw [List.set_cons_succ, List.flatMap_cons, List.flatMap_cons, ih (by simpa using hi)]
      rw [show (i + 1) * 2 = i * 2 + 2 by omega, show i * 2 + 2 + 1 = (i * 2 + 1) + 2 by omega]
      rfl
theorem flat_take (l : List It) (i : Nat) : (l.take i).flatMap encIt = (l.flatMap encIt).take (i * 2) := by
  induction l generalizing i with
  | nil => simp
  | cons y l ih =>
    cases i with
    | zero => simp
    | succ i =>
      rw [List.take_succ_cons, List.flatMap_cons, List.flatMap_cons, ih, show (i + 1) * 2 = i * 2 + 2 by omega]
      rfl
end

section
open Go.RowKit
attribute [local go_sem] Oper.semAt_some
set_option linter.unusedVariables false
set_option linter.unusedSimpArgs false

/-- What DeleteFunc leaves. -/
def RetDel (w : World) (base g c : Nat) (l : List It) (e : Ending) (w' : World) : Prop := e = .returned (.slice (some ⟨g, 0, none⟩) l.length c) ∧ w'.ownsRow base 119 2 (.slice (some ⟨g, 0, none⟩) l.length c) l.length (l.flatMap encIt) ∧ Bar w.heap.size [g] w w'
theorem filt_none {p : It → Bool} {l : List It} (h : ∀ x ∈ l, p x = false) : (l.filter fun x => !p x) = l := List.filter_eq_self.2 fun x hx => by rw [h x hx]; rfl
theorem zeroIt (w : World) : (zeroValue 119).run Tryz.prog w = .ok (.agg #[.slice none 0 0, .int .i64 0]) w := by kernel_rfl
theorem clear_items (w : World) (b o n c : Nat) (hn : 0 < n) (hc : ∀ j, j < n * 2 → (w.cell? ⟨b, o + j, none⟩).isSome = true) (hf : ∀ j, w.frozen? ⟨b, j, none⟩ = false) :
    ∃ Z : List Value, ∀ ty, (Builtin.clear_ #[40] ty #[.slice (some ⟨b, o, none⟩) n c]).run Tryz.prog w = .ok (.tuple #[]) (w.setCells b o Z) := by
  obtain ⟨Z, hZ⟩ : ∃ Z, (Builtin.zeroCells (Value.agg #[.slice none 0 0, .int .i64 0]).cells n).toList = Z := ⟨_, rfl⟩
  have hl : Z.length = n * 2 := by rw [← hZ]; simp [Builtin.zeroCells, Value.cells]
  have h1 : ∀ v ∈ Z, v.oneCell' = true := by
    intro v hv
    rw [← hZ] at hv
    simp only [Builtin.zeroCells, Value.cells, Array.toList_map, List.mem_map] at hv
    obtain ⟨i, _, rfl⟩ := hv
    have h2 : i % 2 = 0 ∨ i % 2 = 1 := by omega
    rcases h2 with h2 | h2
    · show (#[Value.slice none 0 0, Value.int .i64 0][i % 2]!).oneCell' = true
      rw [h2]; rfl
    · show (#[Value.slice none 0 0, Value.int .i64 0][i % 2]!).oneCell' = true
      rw [h2]; rfl
  have hst := run_storeCells_cells (P := Tryz.prog) b o Z 0 w (by rw [hl]; simpa using hc) (fun j _ => hf _) h1
  simp only [Nat.add_zero] at hst
  obtain ⟨m, rfl⟩ : ∃ m, n = m + 1 := ⟨n - 1, by omega⟩
  refine ⟨Z, fun ty => ?_⟩
  simp [Builtin.clear_, run_underlying Tryz.underlying40, zeroIt, hZ, hst]
theorem own_blk {w : World} {base : Nat} {e : TypeId} {size g c n : Nat} {xs : List Value} (h : w.ownsRow base e size (.slice (some ⟨g, 0, none⟩) n c) n xs) : ∃ cur, Blk w g e cur := by
  rcases h.2 with ⟨he, _⟩ | ⟨g', cap, cur, he, hb, hg, h1, h2, h3, h4⟩
  · cases he
  · injection he with he1 he2 he3
    injection he1 with he1
    injection he1 with he1
    subst he1
    exact ⟨cur, hg⟩
theorem take_set_lt {l : List It} {a : Nat} {x : It} (h : a < l.length) : (l.set a x).take (a + 1) = l.take a ++ [x] := by
  rw [List.take_add_one, List.getElem?_set_self h, List.take_set_of_le (Nat.le_refl _)]
  rfl
set_option maxRecDepth 100000 in
set_option maxHeartbeats 4000000 in
theorem Delete_any (base g n c : Nat) (l : List It) (w : World) (hown : w.ownsRow base 119 2 (.slice (some ⟨g, 0, none⟩) n c) n (l.flatMap encIt)) (hn : n ≤ 100000) (pf : Nat) (caps : Array Value) (p : It → Bool)
    (eg : ∀ args w, (callFunc pf args).run Tryz.prog w = .ok (.enter pf args) w)
    (hp : ∀ x ∈ l, ∀ W, Bar w.heap.size [g] w W → Calls Tryz.prog pf (#[.agg #[.slice x.A x.n x.c, .int .i64 x.m]] ++ caps) W (RetV W (.bool (p x)))) :
    Calls Tryz.prog 236 #[.slice (some ⟨g, 0, none⟩) n c, .func (Fn.func pf) #[] caps] w (RetDel w base g c (l.filter fun x => !p x)) := by
  have hlen : l.length = n := by
    have := hown.1
    rw [flat_length encIt_len] at this
    omega
  have HL := hide hlen
  have HP := hide hp
  have HI := hide (idxI_any (some ⟨g, 0, none⟩) n c l w (Reads.of_own hown) hn pf caps p eg (fun x hx W hB => hp x hx W (Bar.of_below hB _)))
  obtain ⟨hge, hgl⟩ := hown.lt g rfl
  have hcap : n ≤ c := by
    rcases hown.2 with ⟨h1, _⟩ | ⟨g', cap, cur, h1, _, _, h4, _⟩
    · cases h1
    · injection h1 with _ _ h3
      subst h3
      exact h4
  clear hp hlen
  go_enter Tryz.func236, Tryz.ntmps236
  go_wp2_with fail
  refine HI.out.mono ?_
  rintro e W1 ⟨⟨i, rfl, hfi⟩, hB1⟩
  clear HI
  rcases hfi with ⟨hall, rfl⟩ | ⟨k, rfl, hall, x0, hx0, hp0⟩
  · have HF := hide (filt_none hall)
    have hO := own_below hown hB1
    have HLL := hide (show (l.filter fun x => !p x).length = n by rw [HF.out, HL.out])
    clear hall
    go_wp2_with fail
    go_ret
    unfold RetDel
    rw [HLL.out, HF.out]
    exact ⟨rfl, hO, Bar.of_below hB1 _⟩
  · have hkn : k < n := by rw [← HL.out]; exact (List.getElem?_eq_some_iff.1 hx0).1
    have HT0 := hide (show (l.take (k + 1)).filter (fun x => !p x) = l.take k by rw [take_snoc' hx0, List.filter_append, filt_none hall]; simp [hp0])
    have hO := own_below hown hB1
    have hB := Bar.of_below hB1 [g]
    have z1 : ((k : Int) == -1) = false := by simp
    clear hall hx0 hp0 hown hB1
    go_wp2_with fail
    go_loopw [5, 6, 7] (fun i j _ wr => ∃ (a b : Nat) (lq : List It), a < b ∧ b ≤ n ∧ i = .int .i64 (a : Int) ∧ j = .int .i64 (b : Int) ∧ lq.length = n ∧ lq.take a = (l.take b).filter (fun x => !p x) ∧ lq.drop b = l.drop b ∧ wr.ownsRow base 119 2 (.slice (some ⟨g, 0, none⟩) n c) n (lq.flatMap encIt) ∧ Bar w.heap.size [g] w wr) (fun _ j _ _ => n - (intOf j).toNat)
    case atStart => exact ⟨k, k + 1, l, by omega, by omega, rfl, by go_num, HL.out, HT0.out.symm, rfl, hO, hB⟩
    case round =>
      clear hO hB
      obtain ⟨a, b, lq, hab, hbn, rfl, rfl, hlq, hta, hdb, hO, hB⟩ := hrel
      have HLQ := hide hlq
      have HTA := hide hta
      have HDB := hide hdb
      clear hlq hta hdb
      by_cases hlt : b < n
      · obtain ⟨x, hx⟩ : ∃ x, l[b]? = some x := ⟨_, List.getElem?_eq_getElem (by rw [HL.out]; exact hlt)⟩
        have hxq : lq[b]? = some x := by
          have h1 : (lq.drop b)[0]? = (l.drop b)[0]? := by rw [HDB.out]
          simpa [hx] using h1
        obtain ⟨g', off, x', hA, hbb, hx', hcx⟩ := (Reads.of_own hO).elem encIt_len HLQ.out hlt
        rw [hxq] at hx'
        injection hx' with hx'
        subst hx'
        injection hA with hA
        injection hA with hA1 hA2
        subst hA1 hA2
        have e0 : wr.cell? ⟨g, b * 2, none⟩ = some (.slice x.A x.n x.c) := by simpa using hcx 0 _ rfl
        have e1 : wr.cell? ⟨g, b * 2 + 1, none⟩ = some (.int .i64 x.m) := by simpa using hcx 1 _ rfl
        have HX := hide hx
        have HXQ := hide hxq
        clear hcx hx hxq
        have q1 : (0 : Int) ≤ (b : Int) := by omega
        have q2 : (b : Int) < (n : Int) := by omega
        have hOa := hO.alloc (.cells #[.slice x.A x.n x.c, .int .i64 x.m] 119)
        go_upto_region 8 with fail
        have kx := Blk.new wr 119 #[.slice x.A x.n x.c, .int .i64 x.m]
        have hB2 := hB.alloc hB.size (.cells #[.slice x.A x.n x.c, .int .i64 x.m] 119)
        obtain ⟨W2, hW2⟩ : ∃ W2, wr.alloc (.cells #[.slice x.A x.n x.c, .int .i64 x.m] 119) = W2 := ⟨_, rfl⟩
        obtain ⟨bx, hbx⟩ : ∃ bx, wr.heap.size = bx := ⟨_, rfl⟩
        have hbg : g ≠ bx := by
          have := (hO.lt g rfl).2
          omega
        rw [hW2] at hOa kx hB2 ⊢
        rw [hbx] at kx ⊢
        have kx0 := kx.cell 0
        have kx1 := kx.cell 1
        simp at kx0 kx1
        have HC := hide (HP.out x (List.mem_of_getElem? HX.out) W2 hB2)
        clear hW2 hbx hO hB e0 e1
        go_wp2_with fail
        refine HC.out.mono ?_
        rintro e W3 ⟨rfl, hB3⟩
        have hO3 := own_below hOa hB3
        have kx3 := kx.below hB3 kx.lt
        have hB23 := hB2.trans (Bar.of_below (hB3.mono hB2.size) [g])
        have r0 := kx3.cell 0
        have r1 := kx3.cell 1
        simp at r0 r1
        clear HC kx kx0 kx1 hOa hB2 hB3
        cases hq : p x
        · have HTT := hide (show (l.take (b + 1)).filter (fun x => !p x) = (l.take b).filter (fun x => !p x) ++ [x] by rw [take_snoc' HX.out, List.filter_append]; simp [hq])
          have hal : a < lq.length := by rw [HLQ.out]; omega
          have HN := hide (show (lq.set a x).take (a + 1) = (l.take (b + 1)).filter (fun x => !p x) by rw [take_set_lt hal, HTA.out, HTT.out])
          have HD := hide (show (lq.set a x).drop (b + 1) = l.drop (b + 1) by
            rw [List.drop_set_of_lt (by omega), ← List.drop_drop, ← List.drop_drop, HDB.out])
          obtain ⟨cur, hcur⟩ := own_blk hO3
          have fz := fun o => hcur.frozen o
          have fz2 := fun (u : Value) (o : Nat) => (hcur.set_ (a * 2) u).frozen o
          obtain ⟨y, hy⟩ : ∃ y, lq[a]? = some y := ⟨_, List.getElem?_eq_getElem hal⟩
          obtain ⟨_, _, y', hA, _, hy', hcy⟩ := (Reads.of_own hO3).elem encIt_len HLQ.out (show a < n by omega)
          rw [hy] at hy'
          injection hy' with hy'
          subst hy'
          injection hA with hA
          injection hA with hA1 hA2
          subst hA1 hA2
          have y0 : W3.cell? ⟨g, a * 2, none⟩ = some (.slice y.A y.n y.c) := by simpa using hcy 0 _ rfl
          have y1 : W3.cell? ⟨g, a * 2 + 1, none⟩ = some (.int .i64 y.m) := by simpa using hcy 1 _ rfl
          have y1' : (W3.setCell ⟨g, a * 2, none⟩ (.slice x.A x.n x.c)).cell? ⟨g, a * 2 + 1, none⟩ = some (.int .i64 y.m) := (World.cell?_setCell_other W3 _ _ _ (by intro e; injection e with _ e; omega)).trans y1
          have HO4 := hide (own_store2 (j := a * 2 + 1) (own_store2 (j := a * 2) hO3 (.slice x.A x.n x.c)) (.int .i64 x.m))
          rw [← flat_set x hal] at HO4
          have hB4 := (hB23.setCell (p := ⟨g, a * 2, none⟩) (.inr (by simp)) (.slice x.A x.n x.c)).setCell (p := ⟨g, a * 2 + 1, none⟩) (.inr (by simp)) (.int .i64 x.m)
          have HLS := hide (show (lq.set a x).length = n by rw [List.length_set]; exact HLQ.out)
          have q3 : (0 : Int) ≤ (a : Int) := by omega
          have q4 : (a : Int) < (n : Int) := by omega
          clear hq hcy hy hcur hO3 hB23 kx3
          go_wp2_with fail
          go_roundw
          case rel => exact ⟨a + 1, b + 1, lq.set a x, by omega, by omega, by go_num, by go_num, HLS.out, HN.out, HD.out, HO4.out, hB4⟩
          case measure => simp [intOf]; omega
        · have HTT := hide (show (l.take (b + 1)).filter (fun x => !p x) = (l.take b).filter (fun x => !p x) by rw [take_snoc' HX.out, List.filter_append]; simp [hq])
          have HD := hide (show lq.drop (b + 1) = l.drop (b + 1) by rw [← List.drop_drop, ← List.drop_drop, HDB.out])
          have HN := hide (show lq.take a = (l.take (b + 1)).filter (fun x => !p x) by rw [HTA.out, HTT.out])
          clear hq kx3
          go_wp2_with fail
          go_roundw
          case rel => exact ⟨a, b + 1, lq, by omega, by omega, rfl, by go_num, HLQ.out, HN.out, HD.out, hO3, hB23⟩
          case measure => simp [intOf]; omega
      · obtain rfl : b = n := by omega
        have HFF := hide (show lq.take a = l.filter (fun x => !p x) by rw [HTA.out, take_all HL.out])
        have HFL := hide (show (l.filter fun x => !p x).length = a by rw [← HFF.out, List.length_take, HLQ.out]; omega)
        obtain ⟨cur, hcur⟩ := own_blk hO
        have hsome : ∀ j, j < (b - a) * 2 → (wr.cell? ⟨g, a * 2 + j, none⟩).isSome = true := by
          intro j hj
          have hr := Reads.of_own hO
          obtain ⟨b', off, e, _, hc⟩ := hr.2 (by omega)
          injection e with e
          injection e with e1 e2
          subst e1 e2
          obtain ⟨u, hu⟩ : ∃ u, (lq.flatMap encIt)[a * 2 + j]? = some u := ⟨_, List.getElem?_eq_getElem (by rw [flat_length encIt_len, HLQ.out]; omega)⟩
          have := hc _ u hu
          rw [Nat.zero_add] at this
          rw [this]; rfl
        have hcur' := fun o => hcur.frozen o
        obtain ⟨Z, hZ⟩ := clear_items wr g (a * 2) (b - a) (c - a) (by omega) hsome hcur'
        have hO5 := own_sets Z wr (a * 2) (own_pre hO (show a ≤ b by omega)) (Nat.le_refl _)
        rw [← flat_take, HFF.out] at hO5
        have HO5 := hide hO5
        have HB5 := hide (bar_sets (g := g) (by simp) Z wr (a * 2) hB)
        have q3 : (0 : Int) ≤ (a : Int) := by omega
        have q4 : (a : Int) ≤ (b : Int) := by omega
        have q5 : (a : Int) ≤ (c : Int) := by omega
        have q6 : ¬ (c = a) := by omega
        clear hsome hcur hcur' hO5 hO hB
        go_wp2_with fail
        go_ret
        unfold RetDel
        rw [HFL.out]
        exact ⟨rfl, HO5.out, HB5.out⟩
end

section
open Go.Shelf Go.Proofs

def sortI_ren : Go.Shelf.Ren := ⟨fun | 14 => 225 | 20 => 247 | 21 => 248 | 22 => 249 | 23 => 250 | 24 => 251 | 25 => 252 | 26 => 253 | 27 => 254 | 46 => 265 | 47 => 216 | 48 => 217 | 49 => 266 | 50 => 267 | 15 => 127 | 57 => 273 | 28 => 178 | 29 => 179 | n => n, fun | 24 => 119 | 22 => 39 | 3 => 3 | 25 => 218 | 4 => 4 | 0 => 0 | 46 => 203 | 45 => 202 | 50 => 207 | 66 => 245 | 39 => 166 | 55 => 212 | 70 => 249 | 76 => 265 | 77 => 77 | 53 => 210 | 5 => 5 | 9 => 9 | n => n, fun | n => n⟩
theorem sortI : Go.Proofs.SlLaysF0.n14 Tryz.prog sortI_ren := {
  mixed := by kernel_rfl
  f14 := ⟨Tryz.f225.name, by decide, Tryz.func225.trans (congrArg some (by kernel_rfl))⟩
  f15 := Tryz.func127.trans (congrArg some (by kernel_rfl))
  f20 := ⟨Tryz.f247.name, by decide, Tryz.func247.trans (congrArg some (by kernel_rfl))⟩
  f21 := ⟨Tryz.f248.name, by decide, Tryz.func248.trans (congrArg some (by kernel_rfl))⟩
  f22 := ⟨Tryz.f249.name, by decide, Tryz.func249.trans (congrArg some (by kernel_rfl))⟩
  f23 := ⟨Tryz.f250.name, by decide, Tryz.func250.trans (congrArg some (by kernel_rfl))⟩
  f24 := ⟨Tryz.f251.name, by decide, Tryz.func251.trans (congrArg some (by kernel_rfl))⟩
  f25 := ⟨Tryz.f252.name, by decide, Tryz.func252.trans (congrArg some (by kernel_rfl))⟩
  f26 := ⟨Tryz.f253.name, by decide, Tryz.func253.trans (congrArg some (by kernel_rfl))⟩
  f27 := ⟨Tryz.f254.name, by decide, Tryz.func254.trans (congrArg some (by kernel_rfl))⟩
  f28 := Tryz.func178.trans (congrArg some (by kernel_rfl))
  f29 := Tryz.func179.trans (congrArg some (by kernel_rfl))
  f46 := ⟨Tryz.f265.name, by decide, Tryz.func265.trans (congrArg some (by kernel_rfl))⟩
  f47 := Tryz.func216.trans (congrArg some (by kernel_rfl))
  f48 := Tryz.func217.trans (congrArg some (by kernel_rfl))
  f49 := ⟨Tryz.f266.name, by decide, Tryz.func266.trans (congrArg some (by kernel_rfl))⟩
  f50 := ⟨Tryz.f267.name, by decide, Tryz.func267.trans (congrArg some (by kernel_rfl))⟩
  f57 := ⟨Tryz.f273.name, by decide, Tryz.func273.trans (congrArg some (by kernel_rfl))⟩
  t0 := Tryz.underlying0
  a0 := Tryz.isAgg0
  z0 := Tryz.sizeOf0
  v0 := Tryz.zeroValue0
  t3 := Tryz.underlying3
  a3 := Tryz.isAgg3
  z3 := Tryz.sizeOf3
  v3 := Tryz.zeroValue3
  t4 := Tryz.underlying4
  a4 := Tryz.isAgg4
  z4 := Tryz.sizeOf4
  v4 := Tryz.zeroValue4
  t5 := Tryz.underlying5
  a5 := Tryz.isAgg5
  z5 := Tryz.sizeOf5
  v5 := Tryz.zeroValue5
  t9 := Tryz.underlying9
  a9 := Tryz.isAgg9
  z9 := Tryz.sizeOf9
  v9 := Tryz.zeroValue9
  t22 := Tryz.underlying39
  a22 := Tryz.isAgg39
  z22 := Tryz.sizeOf39
  v22 := Tryz.zeroValue39
  t25 := Tryz.underlying218
  a25 := Tryz.isAgg218
  z25 := Tryz.sizeOf218
  v25 := Tryz.zeroValue218
  t39 := Tryz.underlying166
  a39 := Tryz.isAgg166
  z39 := Tryz.sizeOf166
  v39 := Tryz.zeroValue166
  t45 := Tryz.underlying202
  a45 := Tryz.isAgg202
  z45 := Tryz.sizeOf202
  v45 := Tryz.zeroValue202
  t46 := Tryz.underlying203
  a46 := Tryz.isAgg203
  z46 := Tryz.sizeOf203
  v46 := Tryz.zeroValue203
  t50 := Tryz.underlying207
  a50 := Tryz.isAgg207
  z50 := Tryz.sizeOf207
  v50 := Tryz.zeroValue207
  t53 := Tryz.underlying210
  a53 := Tryz.isAgg210
  z53 := Tryz.sizeOf210
  v53 := Tryz.zeroValue210
  t55 := Tryz.underlying212
  a55 := Tryz.isAgg212
  z55 := Tryz.sizeOf212
  v55 := Tryz.zeroValue212
  t66 := Tryz.underlying245
  a66 := Tryz.isAgg245
  z66 := Tryz.sizeOf245
  v66 := Tryz.zeroValue245
  t70 := Tryz.underlying249
  a70 := Tryz.isAgg249
  z70 := Tryz.sizeOf249
  v70 := Tryz.zeroValue249
  t76 := Tryz.underlying265
  a76 := Tryz.isAgg265
  z76 := Tryz.sizeOf265
  v76 := Tryz.zeroValue265
  t77 := Tryz.underlying77
  a77 := Tryz.isAgg77
  z77 := Tryz.sizeOf77
  v77 := Tryz.zeroValue77 }
def lays125_ren : Go.Shelf.Ren := ⟨fun | 125 => 127 | 128 => 178 | 129 => 179 | n => n, fun | 46 => 166 | 3 => 3 | 51 => 210 | 53 => 212 | 4 => 4 | 5 => 5 | 9 => 9 | n => n, fun | n => n⟩
theorem lays125 : Go.Proofs.Lays.n125 Tryz.prog lays125_ren := {
  mixed := by kernel_rfl
  f125 := Tryz.func127.trans (congrArg some (by kernel_rfl))
  f128 := Tryz.func178.trans (congrArg some (by kernel_rfl))
  f129 := Tryz.func179.trans (congrArg some (by kernel_rfl))
  t3 := Tryz.underlying3
  a3 := Tryz.isAgg3
  z3 := Tryz.sizeOf3
  v3 := Tryz.zeroValue3
  t4 := Tryz.underlying4
  a4 := Tryz.isAgg4
  z4 := Tryz.sizeOf4
  v4 := Tryz.zeroValue4
  t5 := Tryz.underlying5
  a5 := Tryz.isAgg5
  z5 := Tryz.sizeOf5
  v5 := Tryz.zeroValue5
  t9 := Tryz.underlying9
  a9 := Tryz.isAgg9
  z9 := Tryz.sizeOf9
  v9 := Tryz.zeroValue9
  t46 := Tryz.underlying166
  a46 := Tryz.isAgg166
  z46 := Tryz.sizeOf166
  v46 := Tryz.zeroValue166
  t51 := Tryz.underlying210
  a51 := Tryz.isAgg210
  z51 := Tryz.sizeOf210
  v51 := Tryz.zeroValue210
  t53 := Tryz.underlying212
  a53 := Tryz.isAgg212
  z53 := Tryz.sizeOf212
  v53 := Tryz.zeroValue212 }
end

section
open Go.Shelf Go.Lib Go.Sort

section
variable {α : Type} [Inhabited α] {enc : α → List Value} {k : Nat} (hk : ∀ x, (enc x).length = k) (h0 : 0 < k)
include hk h0
theorem holds_ownG {w : World} {base g n c : Nat} {e : TypeId} {l : List α} (h : w.ownsRow base e k (.slice (some ⟨g, 0, none⟩) n c) n (l.flatMap enc)) : HoldsK enc k w g 0 l.toArray ∧ g < w.heap.size ∧ base ≤ g := by
  rcases h.2 with ⟨he, _⟩ | ⟨g', cap, cur, he, hb, hg, h1, h2, h3, h4⟩
  · cases he
  · injection he with he1 he2 he3
    injection he1 with he1
    injection he1 with he1
    subst he1
    refine ⟨fun j hj => ?_, (Array.getElem?_eq_some_iff.1 hg).1, hb⟩
    rw [size_flatK] at hj
    have hj' : j < l.length * k := hj
    have hq : j / k < l.length := (Nat.div_lt_iff_lt_mul h0).2 hj'
    have hm := Nat.mod_lt j h0
    rw [get_flatK _ _ _ _ hj, Nat.zero_add]
    obtain ⟨x, hx⟩ : ∃ x, l[j / k]? = some x := ⟨_, List.getElem?_eq_getElem hq⟩
    have hxa : l.toArray[j / k]! = x := by
      obtain ⟨h1, h2⟩ := List.getElem?_eq_some_iff.1 hx
      simp [h1, h2]
    have hf := flat_get (enc := enc) (k := k) hk l (j / k) (j % k) x hx hm
    rw [show j / k * k + j % k = j by rw [Nat.mul_comm]; exact Nat.div_add_mod j k] at hf
    have hlen : (enc x)[j % k]? = some (enc x)[j % k]! := by
      rw [getElem!_pos (enc x) (j % k) (by rw [hk]; exact hm)]
      exact List.getElem?_eq_getElem _
    rw [hlen] at hf
    have hc : cur[j]? = some (enc x)[j % k]! := by
      have h5 : (l.flatMap enc)[j]? = some (enc x)[j % k]! := hf
      rw [← h4, List.getElem?_take] at h5
      split at h5
      · rw [← Array.getElem?_toList]; exact h5
      · cases h5
    rw [hxa]
    exact ⟨(cell_of_row w g j cur _ (0, 0) hg).trans hc, Blk.frozen (w := w) (g := g) (t := e) (cs := cur) hg j⟩
theorem reads_holdsG {w : World} {g : Nat} {d : Array α} (h : HoldsK enc k w g 0 d) (hg : g < w.heap.size) : Reads w w.heap.size k (some ⟨g, 0, none⟩) d.size (d.toList.flatMap enc) := by
  have hfl : (d.toList.flatMap enc).length = d.size * k := by rw [flat_length hk]; simp
  refine ⟨hfl, fun _ => ⟨g, 0, rfl, hg, fun j u hu => ?_⟩⟩
  have hj := (List.getElem?_eq_some_iff.1 hu).1
  rw [hfl] at hj
  have hq : j / k < d.size := (Nat.div_lt_iff_lt_mul h0).2 hj
  have hm := Nat.mod_lt j h0
  obtain ⟨x, hx⟩ : ∃ x, d.toList[j / k]? = some x := ⟨_, List.getElem?_eq_getElem (by simpa using hq)⟩
  have hxa : d[j / k]! = x := by
    obtain ⟨h1, h2⟩ := List.getElem?_eq_some_iff.1 hx
    rw [getElem!_pos d (j / k) hq]
    simpa using h2
  have hjj : j / k * k + j % k = j := by rw [Nat.mul_comm]; exact Nat.div_add_mod j k
  have hf := flat_get (enc := enc) (k := k) hk d.toList (j / k) (j % k) x hx hm
  rw [hjj] at hf
  have hlen : (enc x)[j % k]? = some (enc x)[j % k]! := by
    rw [getElem!_pos (enc x) (j % k) (by rw [hk]; exact hm)]
    exact List.getElem?_eq_getElem _
  have hu' : (enc x)[j % k]? = some u := by rw [← hf]; exact hu
  have hc := (HoldsK.cell h (i := j / k) (c := j % k) hq hm).1
  rw [hxa, show 0 + j / k * k + j % k = 0 + j by omega] at hc
  rw [hc]
  rw [hlen] at hu'
  exact hu'
omit hk h0
theorem below_sortG {w : World} {g m : Nat} {d : Array α} {os : Array Obj} : Bar w.heap.size [g] w (sortWorldK enc k w g 0 m d os) where
  os := rfl
  tape := rfl
  output := rfl
  size := by unfold sortWorldK; rw [size_grow]; show _ ≤ (putRow id (Sort.ahead w m) g 0 _).heap.size + _; rw [size_putRow]; show w.heap.size ≤ w.heap.size + _; omega
  block i hi hX := by
    show ((w.heap.modify g _) ++ os)[i]? = _
    rw [Array.getElem?_append]
    split
    · rw [Array.getElem?_modify, if_neg (by simpa using fun e => hX (by simp [e]))]
    · rename_i hn
      rw [Array.size_modify] at hn
      omega
end
end

section
open Go.RowKit

structure GB (B : Nat) (w w' : World) : Prop where
  b : Below B w w'
  d : w.drawn ≤ w'.drawn
theorem GB.refl (B : Nat) (w : World) : GB B w w := ⟨Below.refl _ _, Nat.le_refl _⟩
theorem GB.trans {B : Nat} {a b c : World} (h : GB B a b) (k : GB B b c) : GB B a c := ⟨h.b.trans k.b, Nat.le_trans h.d k.d⟩
theorem GB.mono {B B' : Nat} {w w' : World} (h : GB B w w') (hB : B' ≤ B) : GB B' w w' := ⟨h.b.mono hB, h.d⟩
theorem GB.alloc {B : Nat} {a w : World} (h : GB B a w) (hB : B ≤ w.heap.size) (o : Obj) : GB B a (w.alloc o) := ⟨h.b.alloc hB o, h.d⟩
theorem GB.drew {B : Nat} {a w : World} (h : GB B a w) : GB B a w.drew := ⟨h.b.drew, Nat.le_succ_of_le h.d⟩
theorem GB.size {B : Nat} {w w' : World} (h : GB B w w') : w.heap.size ≤ w'.heap.size := h.b.size
theorem gstep {a b c : World} (h : GB a.heap.size a b) (k : GB b.heap.size b c) : GB a.heap.size a c := h.trans (k.mono h.size)
theorem gb_val {w : World} (cs : Array Value) (t : TypeId) : GB w.heap.size w (w.alloc (.cells cs t)) := (GB.refl _ _).alloc (Nat.le_refl _) _
theorem gb_two {w : World} (a b : Obj) : GB w.heap.size w ((w.alloc a).alloc b) := ((GB.refl _ _).alloc (Nat.le_refl _) _).alloc (by simp) _
theorem GB.grow {w w' : World} (h : GB w.heap.size w w') : ∃ q os, w' = Go.Sort.grow (w.drewN q) os := by
  refine ⟨w'.drawn - w.drawn, w'.heap.extract w.heap.size w'.heap.size, ?_⟩
  obtain ⟨⟨h1, h2, h3, h4, h5⟩, h6⟩ := h
  obtain ⟨heap', tape', drawn', os', output'⟩ := w'
  simp only at h1 h2 h3 h4 h5 h6
  subst h1 h2 h3
  unfold Go.Sort.grow World.drewN
  simp only [World.mk.injEq, and_true, true_and]
  refine ⟨?_, by omega⟩
  apply Array.ext
  · simp only [Array.size_append, Array.size_extract]
    omega
  · intro i hi1 hi2
    rw [Array.getElem_append]
    split
    · rename_i hlt
      have := h5 i hlt
      rw [Array.getElem?_eq_getElem hi1, Array.getElem?_eq_getElem hlt] at this
      exact Option.some.inj this
    · rename_i hge
      rw [Array.getElem_extract]
      congr 1
      omega
/-- The call hands back a value, and only lays blocks and draws. -/
def RetG (w : World) (v : Value) (e : Ending) (w' : World) : Prop := e = .returned v ∧ GB w.heap.size w w'
/-- A world that such a call may leave. -/
structure GBW (w : World) where
  x : World
  h : GB w.heap.size w x
instance (w : World) : Inhabited (GBW w) := ⟨⟨w, GB.refl _ _⟩⟩
theorem GBW.cell {w : World} {a : Addr} {v : Value} (hb : a.block < w.heap.size) (h : w.cell? a = some v) (p : GBW w) : p.x.cell? a = some v := (p.h.b.cell hb).trans h
theorem wp_region_quiet_gbw {P : Program} {id : Nat} {Q : Exit → Act → World → Prop} {a : Act} {w : World} {l : List Oper} (hm : P.follows .mixedOrders = true) (hB : Region.lexB .any l.toArray = true)
    (h : wpQuiet P l.toArray (fun w' => ∃ p : GBW w, w' = p.x) (fun a' => ∀ w', (∃ p : GBW w, w' = p.x) → Q .normal a' w') l a) : (Code.region id l.toArray true).wp P Q a w :=
  wp_region_quiet (C := fun w' => ∃ p : GBW w, w' = p.x) hm hB ⟨⟨w.drew, (GB.refl _ _).drew⟩, rfl⟩ (by simpa using h)
theorem calls_gbw {P : Program} {f : FuncId} {args : Array Value} {w : World} {p : GBW w} {v : Value} (h : Calls P f args p.x (RetG p.x v)) : Calls P f args p.x fun e w'' => e = .returned v ∧ ∃ q : GBW w, w'' = q.x :=
  h.mono fun _ _ ⟨he, hb⟩ => ⟨he, ⟨_, gstep p.h hb⟩, rfl⟩
end

end Go.Proofs.YtoapjidpfghnlaaGreatDoor
