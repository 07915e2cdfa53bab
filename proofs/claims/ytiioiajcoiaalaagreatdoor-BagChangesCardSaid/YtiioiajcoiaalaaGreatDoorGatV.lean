/-
  slices.IndexFunc and slices.DeleteFunc over the items of a bag that the call made, by whatever predicate.
  The walk of slices.DeleteFunc over the items of a bag that the call made.
  slices.SortFunc over the items of a bag that the call made, by whatever comparison.
  DeleteFunc and SortFunc over the items of a bag that the call made, nil or not; the two functions that gathered hands over.
-/
import Derived.Test.YtiioiajcoiaalaaGreatDoorBgC
import Derived.Lib.SliceRun
import Derived.Deep.CutRange
import Derived.Deep.CutBlock
import Derived.Test.YtiioiajcoiaalaaGreatDoorBar
import Derived.Test.YtiioiajcoiaalaaGreatDoorItLay
import Derived.Test.YtiioiajcoiaalaaGreatDoorSrtG
import Derived.Test.YtiioiajcoiaalaaGreatDoorGcB
import Derived.Test.YtiioiajcoiaalaaGreatDoorBgM
namespace Go.Proofs.YtiioiajcoiaalaaGreatDoor

section
open Go.RowKit
attribute [local go_sem] Oper.semAt_some
set_option linter.unusedVariables false
set_option linter.unusedSimpArgs false

/-- What is known of the place where a predicate first holds. -/
def FirstAt (p : It → Bool) (l : List It) (i : Int) : Prop := ((∀ x ∈ l, p x = false) ∧ i = -1) ∨ ∃ k : Nat, i = (k : Int) ∧ (∀ x ∈ l.take k, p x = false) ∧ ∃ x, l[k]? = some x ∧ p x = true
set_option maxRecDepth 100000 in
set_option maxHeartbeats 2000000 in
theorem idxI_any (A : Option Addr) (n c : Nat) (l : List It) (w : World) (hr : Reads w w.heap.size 2 A n (l.flatMap encIt)) (hn : n ≤ 100000) (pf : Nat) (caps : Array Value) (p : It → Bool) (eg : ∀ args w, (callFunc pf args).run Tryz.prog w = .ok (.enter pf args) w)
    (hp : ∀ x ∈ l, ∀ W, Below w.heap.size w W → Calls Tryz.prog pf (#[.agg #[.slice x.A x.n x.c, .int .i64 x.m]] ++ caps) W (RetV W (.bool (p x)))) :
    Calls Tryz.prog 119 #[.slice A n c, .func (Fn.func pf) #[] caps] w fun e w' => (∃ i : Int, e = .returned (.int .i64 i) ∧ FirstAt p l i) ∧ Below w.heap.size w w' := by
  have HL := hide (hr.len encIt_len (by omega))
  have HP := hide hp
  clear hp
  go_enter Tryz.func119, Tryz.ntmps119
  go_wp2_with fail
  go_loopw [8] (fun i wr => ∃ k : Nat, k ≤ n ∧ i = .int .i64 k ∧ (∀ x ∈ l.take k, p x = false) ∧ Below w.heap.size w wr) (fun i _ => n - (intOf i).toNat)
  case atStart => exact ⟨0, Nat.zero_le _, rfl, by simp, Below.refl _ _⟩
  case round =>
    obtain ⟨k, hk, rfl, hany, hB⟩ := hrel
    have HA := hide hany
    clear hany
    by_cases hlt : k < n
    · obtain ⟨b, off, x, rfl, hb, hxk, hcx⟩ := (hr.below hB).elem encIt_len HL.out hlt
      have HX := hide hxk
      have e0 : wr.cell? ⟨b, off + k * 2, none⟩ = some (.slice x.A x.n x.c) := by simpa using hcx 0 _ rfl
      have e1 : wr.cell? ⟨b, off + k * 2 + 1, none⟩ = some (.int .i64 x.m) := by simpa [← Nat.add_assoc] using hcx 1 _ rfl
      have HC := hide (HP.out x (List.mem_of_getElem? hxk) wr hB)
      clear hcx hxk
      have q1 : (0 : Int) ≤ (k : Int) := by omega
      have q2 : (k : Int) < (n : Int) := by omega
      go_wp2_with fail
      refine HC.out.mono ?_
      rintro e w1 ⟨rfl, hB1⟩
      have hB2 := bstep hB hB1
      cases hq : p x
      · have HY := hide (show ∀ y ∈ l.take (k + 1), p y = false from fun y hy => by
          rw [take_snoc' HX.out] at hy
          rcases List.mem_append.1 hy with h | h
          · exact HA.out y h
          · rw [List.mem_singleton.1 h]; exact hq)
        clear hq hB1 hB e0 e1 HC
        go_wp2
        go_roundw
        case rel => exact ⟨k + 1, by omega, by go_num, HY.out, hB2⟩
        case measure => simp [intOf]; omega
      · have HY := hide hq
        clear hq hB1 hB e0 e1 HC
        go_wp2
        go_ret
        exact ⟨⟨_, rfl, .inr ⟨k, rfl, HA.out, x, HX.out, HY.out⟩⟩, hB2⟩
    · obtain rfl : k = n := by omega
      have HY := hide (show ∀ y ∈ l, p y = false from fun y hy => HA.out y (by rw [take_all HL.out]; exact hy))
      go_wp2
      go_ret
      exact ⟨⟨_, rfl, .inl ⟨HY.out, rfl⟩⟩, hB⟩

/-! A row of the call's own, written in place. -/
theorem own_store2 {w : World} {base : Nat} {e : TypeId} {size g c n j : Nat} {xs : List Value} (h : w.ownsRow base e size (.slice (some ⟨g, 0, none⟩) n c) n xs) (u : Value) :
    (w.setCell ⟨g, j, none⟩ u).ownsRow base e size (.slice (some ⟨g, 0, none⟩) n c) n (xs.set j u) := by
  refine ⟨by rw [List.length_set]; exact h.1, ?_⟩
  rcases h.2 with ⟨he, _⟩ | ⟨g', cap, cur, he, hb, hg, h1, h2, h3, h4⟩
  · cases he
  · injection he with he1 he2 he3
    injection he1 with he1
    injection he1 with he1
    subst he1 he3
    refine .inr ⟨g, c, cur.setIfInBounds j u, rfl, hb, ?_, h1, h2, by rw [Array.size_setIfInBounds]; exact h3, ?_⟩
    · exact Blk.set_ (w := w) (g := g) (t := e) (cs := cur) hg j u
    · rw [Array.toList_setIfInBounds, ← h4, List.take_set]
theorem own_pre {w : World} {base : Nat} {e : TypeId} {size g c n m : Nat} {xs : List Value} (h : w.ownsRow base e size (.slice (some ⟨g, 0, none⟩) n c) n xs) (hm : m ≤ n) :
    w.ownsRow base e size (.slice (some ⟨g, 0, none⟩) m c) m (xs.take (m * size)) := by
  have hms := Nat.mul_le_mul_right size hm
  refine ⟨by rw [List.length_take, h.1]; omega, ?_⟩
  rcases h.2 with ⟨he, _⟩ | ⟨g', cap, cur, he, hb, hg, h1, h2, h3, h4⟩
  · cases he
  · injection he with he1 he2 he3
    injection he1 with he1
    injection he1 with he1
    subst he1 he3
    exact .inr ⟨g, c, cur, rfl, hb, hg, by omega, h2, h3, by rw [← h4, List.take_take, Nat.min_eq_left hms]⟩
theorem own_sets {base : Nat} {e : TypeId} {size g c n : Nat} : ∀ (vs : List Value) (w : World) (o : Nat) {xs : List Value}, w.ownsRow base e size (.slice (some ⟨g, 0, none⟩) n c) n xs → n * size ≤ o → (w.setCells g o vs).ownsRow base e size (.slice (some ⟨g, 0, none⟩) n c) n xs
  | [], w, o, xs, h, _ => h
  | v :: vs, w, o, xs, h, ho => by
    have h1 := own_store2 (j := o) h v
    rw [List.set_eq_of_length_le (by rw [h.1]; exact ho)] at h1
    exact own_sets vs (w.setCell ⟨g, o, none⟩ v) (o + 1) h1 (by omega)
theorem bar_sets {N : Nat} {X : List Nat} {g : Nat} {a : World} (hg : g ∈ X) : ∀ (vs : List Value) (w : World) (o : Nat), Bar N X a w → Bar N X a (w.setCells g o vs)
  | [], w, o, h => h
  | v :: vs, w, o, h => bar_sets hg vs (w.setCell ⟨g, o, none⟩ v) (o + 1) (h.trans ⟨rfl, rfl, rfl, by simp [World.setCell], fun k hk hX => by
      have : k ≠ g := fun e => hX (e ▸ hg)
      exact Below.heap_setCell w ⟨g, o, none⟩ v k (fun e => this e)⟩)
theorem flat_set {l : List It} {i : Nat} (x : It) (hi : i < l.length) : (l.set i x).flatMap encIt = ((l.flatMap encIt).set (i * 2) (.slice x.A x.n x.c)).set (i * 2 + 1) (.int .i64 x.m) := by
  induction l generalizing i with
  | nil => simp at hi
  | cons y l ih =>
    cases i with
    | zero => rfl
    | succ i =>
      rw [List.set_cons_succ, List.flatMap_cons, List.flatMap_cons, ih (by simpa using hi)]
      rw [show (i + 1) * 2 = i * 2 + 2 by omega, show i * 2 + 2 + 1 = (i * 2 + 1) + 2 by omega]
      rfl
theorem flat_take (l : List It) (i : Nat) : (l.take i).flatMap encIt = (l.flatMap encIt).take (i * 2) := by
  induction l generalizing i with
  | nil => simp
  | cons y l ih =>
    cases i with
    | zero => simp
    | succ i =>
      rw [List.take_succ_cons, List.flatMap_cons, List.flatMap_cons, ih, show (i + 1) * 2 = i * 2 + 2 by omega]
      rfl
end

section
open Go.RowKit
attribute [local go_sem] Oper.semAt_some
set_option linter.unusedVariables false
set_option linter.unusedSimpArgs false

/-- What DeleteFunc leaves. -/
def RetDel (w : World) (base g c : Nat) (l : List It) (e : Ending) (w' : World) : Prop := e = .returned (.slice (some ⟨g, 0, none⟩) l.length c) ∧ w'.ownsRow base 62 2 (.slice (some ⟨g, 0, none⟩) l.length c) l.length (l.flatMap encIt) ∧ Bar w.heap.size [g] w w'
theorem filt_none {p : It → Bool} {l : List It} (h : ∀ x ∈ l, p x = false) : (l.filter fun x => !p x) = l := List.filter_eq_self.2 fun x hx => by rw [h x hx]; rfl
theorem zeroIt (w : World) : (zeroValue 62).run Tryz.prog w = .ok (.agg #[.slice none 0 0, .int .i64 0]) w := by kernel_rfl
theorem clear_items (w : World) (b o n c : Nat) (hn : 0 < n) (hc : ∀ j, j < n * 2 → (w.cell? ⟨b, o + j, none⟩).isSome = true) (hf : ∀ j, w.frozen? ⟨b, j, none⟩ = false) :
    ∃ Z : List Value, ∀ ty, (Builtin.clear_ #[23] ty #[.slice (some ⟨b, o, none⟩) n c]).run Tryz.prog w = .ok (.tuple #[]) (w.setCells b o Z) := by
  obtain ⟨Z, hZ⟩ : ∃ Z, (Builtin.zeroCells (Value.agg #[.slice none 0 0, .int .i64 0]).cells n).toList = Z := ⟨_, rfl⟩
  have hl : Z.length = n * 2 := by rw [← hZ]; simp [Builtin.zeroCells, Value.cells]
  have h1 : ∀ v ∈ Z, v.oneCell' = true := by
    intro v hv
    rw [← hZ] at hv
    simp only [Builtin.zeroCells, Value.cells, Array.toList_map, List.mem_map] at hv
    obtain ⟨i, _, rfl⟩ := hv
    have h2 : i % 2 = 0 ∨ i % 2 = 1 := by omega
    rcases h2 with h2 | h2
    · show (#[Value.slice none 0 0, Value.int .i64 0][i % 2]!).oneCell' = true
      rw [h2]; rfl
    · show (#[Value.slice none 0 0, Value.int .i64 0][i % 2]!).oneCell' = true
      rw [h2]; rfl
  have hst := run_storeCells_cells (P := Tryz.prog) b o Z 0 w (by rw [hl]; simpa using hc) (fun j _ => hf _) h1
  simp only [Nat.add_zero] at hst
  obtain ⟨m, rfl⟩ : ∃ m, n = m + 1 := ⟨n - 1, by omega⟩
  refine ⟨Z, fun ty => ?_⟩
  simp [Builtin.clear_, run_underlying Tryz.underlying23, zeroIt, hZ, hst]
theorem own_blk {w : World} {base : Nat} {e : TypeId} {size g c n : Nat} {xs : List Value} (h : w.ownsRow base e size (.slice (some ⟨g, 0, none⟩) n c) n xs) : ∃ cur, Blk w g e cur := by
  rcases h.2 with ⟨he, _⟩ | ⟨g', cap, cur, he, hb, hg, h1, h2, h3, h4⟩
  · cases he
  · injection he with he1 he2 he3
    injection he1 with he1
    injection he1 with he1
    subst he1
    exact ⟨cur, hg⟩
theorem take_set_lt {l : List It} {a : Nat} {x : It} (h : a < l.length) : (l.set a x).take (a + 1) = l.take a ++ [x] := by
  rw [List.take_add_one, List.getElem?_set_self h, List.take_set_of_le (Nat.le_refl _)]
  rfl
set_option maxRecDepth 100000 in
set_option maxHeartbeats 4000000 in
theorem Delete_any (base g n c : Nat) (l : List It) (w : World) (hown : w.ownsRow base 62 2 (.slice (some ⟨g, 0, none⟩) n c) n (l.flatMap encIt)) (hn : n ≤ 100000) (pf : Nat) (caps : Array Value) (p : It → Bool)
    (eg : ∀ args w, (callFunc pf args).run Tryz.prog w = .ok (.enter pf args) w)
    (hp : ∀ x ∈ l, ∀ W, Bar w.heap.size [g] w W → Calls Tryz.prog pf (#[.agg #[.slice x.A x.n x.c, .int .i64 x.m]] ++ caps) W (RetV W (.bool (p x)))) :
    Calls Tryz.prog 74 #[.slice (some ⟨g, 0, none⟩) n c, .func (Fn.func pf) #[] caps] w (RetDel w base g c (l.filter fun x => !p x)) := by
  have hlen : l.length = n := by
    have := hown.1
    rw [flat_length encIt_len] at this
    omega
  have HL := hide hlen
  have HP := hide hp
  have HI := hide (idxI_any (some ⟨g, 0, none⟩) n c l w (Reads.of_own hown) hn pf caps p eg (fun x hx W hB => hp x hx W (Bar.of_below hB _)))
  obtain ⟨hge, hgl⟩ := hown.lt g rfl
  have hcap : n ≤ c := by
    rcases hown.2 with ⟨h1, _⟩ | ⟨g', cap, cur, h1, _, _, h4, _⟩
    · cases h1
    · injection h1 with _ _ h3
      subst h3
      exact h4
  clear hp hlen
  go_enter Tryz.func74, Tryz.ntmps74
  go_wp2_with fail
  refine HI.out.mono ?_
  rintro e W1 ⟨⟨i, rfl, hfi⟩, hB1⟩
  clear HI
  rcases hfi with ⟨hall, rfl⟩ | ⟨k, rfl, hall, x0, hx0, hp0⟩
  · have HF := hide (filt_none hall)
    have hO := own_below hown hB1
    have HLL := hide (show (l.filter fun x => !p x).length = n by rw [HF.out, HL.out])
    clear hall
    go_wp2_with fail
    go_ret
    unfold RetDel
    rw [HLL.out, HF.out]
    exact ⟨rfl, hO, Bar.of_below hB1 _⟩
  · have hkn : k < n := by rw [← HL.out]; exact (List.getElem?_eq_some_iff.1 hx0).1
    have HT0 := hide (show (l.take (k + 1)).filter (fun x => !p x) = l.take k by rw [take_snoc' hx0, List.filter_append, filt_none hall]; simp [hp0])
    have hO := own_below hown hB1
    have hB := Bar.of_below hB1 [g]
    have z1 : ((k : Int) == -1) = false := by simp
    clear hall hx0 hp0 hown hB1
    go_wp2_with fail
    go_loopw [5, 6, 7] (fun i j _ wr => ∃ (a b : Nat) (lq : List It), a < b ∧ b ≤ n ∧ i = .int .i64 (a : Int) ∧ j = .int .i64 (b : Int) ∧ lq.length = n ∧ lq.take a = (l.take b).filter (fun x => !p x) ∧ lq.drop b = l.drop b ∧ wr.ownsRow base 62 2 (.slice (some ⟨g, 0, none⟩) n c) n (lq.flatMap encIt) ∧ Bar w.heap.size [g] w wr) (fun _ j _ _ => n - (intOf j).toNat)
    case atStart => exact ⟨k, k + 1, l, by omega, by omega, rfl, by go_num, HL.out, HT0.out.symm, rfl, hO, hB⟩
    case round =>
      clear hO hB
      obtain ⟨a, b, lq, hab, hbn, rfl, rfl, hlq, hta, hdb, hO, hB⟩ := hrel
      have HLQ := hide hlq
      have HTA := hide hta
      have HDB := hide hdb
      clear hlq hta hdb
      by_cases hlt : b < n
      · obtain ⟨x, hx⟩ : ∃ x, l[b]? = some x := ⟨_, List.getElem?_eq_getElem (by rw [HL.out]; exact hlt)⟩
        have hxq : lq[b]? = some x := by
          have h1 : (lq.drop b)[0]? = (l.drop b)[0]? := by rw [HDB.out]
          simpa [hx] using h1
        obtain ⟨g', off, x', hA, hbb, hx', hcx⟩ := (Reads.of_own hO).elem encIt_len HLQ.out hlt
        rw [hxq] at hx'
        injection hx' with hx'
        subst hx'
        injection hA with hA
        injection hA with hA1 hA2
        subst hA1 hA2
        have e0 : wr.cell? ⟨g, b * 2, none⟩ = some (.slice x.A x.n x.c) := by simpa using hcx 0 _ rfl
        have e1 : wr.cell? ⟨g, b * 2 + 1, none⟩ = some (.int .i64 x.m) := by simpa using hcx 1 _ rfl
        have HX := hide hx
        have HXQ := hide hxq
        clear hcx hx hxq
        have q1 : (0 : Int) ≤ (b : Int) := by omega
        have q2 : (b : Int) < (n : Int) := by omega
        have hOa := hO.alloc (.cells #[.slice x.A x.n x.c, .int .i64 x.m] 62)
        go_upto_region 8 with fail
        have kx := Blk.new wr 62 #[.slice x.A x.n x.c, .int .i64 x.m]
        have hB2 := hB.alloc hB.size (.cells #[.slice x.A x.n x.c, .int .i64 x.m] 62)
        obtain ⟨W2, hW2⟩ : ∃ W2, wr.alloc (.cells #[.slice x.A x.n x.c, .int .i64 x.m] 62) = W2 := ⟨_, rfl⟩
        obtain ⟨bx, hbx⟩ : ∃ bx, wr.heap.size = bx := ⟨_, rfl⟩
        have hbg : g ≠ bx := by
          have := (hO.lt g rfl).2
          omega
        rw [hW2] at hOa kx hB2 ⊢
        rw [hbx] at kx ⊢
        have kx0 := kx.cell 0
        have kx1 := kx.cell 1
        simp at kx0 kx1
        have HC := hide (HP.out x (List.mem_of_getElem? HX.out) W2 hB2)
        clear hW2 hbx hO hB e0 e1
        go_wp2_with fail
        refine HC.out.mono ?_
        rintro e W3 ⟨rfl, hB3⟩
        have hO3 := own_below hOa hB3
        have kx3 := kx.below hB3 kx.lt
        have hB23 := hB2.trans (Bar.of_below (hB3.mono hB2.size) [g])
        have r0 := kx3.cell 0
        have r1 := kx3.cell 1
        simp at r0 r1
        clear HC kx kx0 kx1 hOa hB2 hB3
        cases hq : p x
        · have HTT := hide (show (l.take (b + 1)).filter (fun x => !p x) = (l.take b).filter (fun x => !p x) ++ [x] by rw [take_snoc' HX.out, List.filter_append]; simp [hq])
          have hal : a < lq.length := by rw [HLQ.out]; omega
          have HN := hide (show (lq.set a x).take (a + 1) = (l.take (b + 1)).filter (fun x => !p x) by rw [take_set_lt hal, HTA.out, HTT.out])
          have HD := hide (show (lq.set a x).drop (b + 1) = l.drop (b + 1) by
            rw [List.drop_set_of_lt (by omega), ← List.drop_drop, ← List.drop_drop, HDB.out])
          obtain ⟨cur, hcur⟩ := own_blk hO3
          have fz := fun o => hcur.frozen o
          have fz2 := fun (u : Value) (o : Nat) => (hcur.set_ (a * 2) u).frozen o
          obtain ⟨y, hy⟩ : ∃ y, lq[a]? = some y := ⟨_, List.getElem?_eq_getElem hal⟩
          obtain ⟨_, _, y', hA, _, hy', hcy⟩ := (Reads.of_own hO3).elem encIt_len HLQ.out (show a < n by omega)
          rw [hy] at hy'
          injection hy' with hy'
          subst hy'
          injection hA with hA
          injection hA with hA1 hA2
          subst hA1 hA2
          have y0 : W3.cell? ⟨g, a * 2, none⟩ = some (.slice y.A y.n y.c) := by simpa using hcy 0 _ rfl
          have y1 : W3.cell? ⟨g, a * 2 + 1, none⟩ = some (.int .i64 y.m) := by simpa using hcy 1 _ rfl
          have y1' : (W3.setCell ⟨g, a * 2, none⟩ (.slice x.A x.n x.c)).cell? ⟨g, a * 2 + 1, none⟩ = some (.int .i64 y.m) := (World.cell?_setCell_other W3 _ _ _ (by intro e; injection e with _ e; omega)).trans y1
          have HO4 := hide (own_store2 (j := a * 2 + 1) (own_store2 (j := a * 2) hO3 (.slice x.A x.n x.c)) (.int .i64 x.m))
          rw [← flat_set x hal] at HO4
          have hB4 := (hB23.setCell (p := ⟨g, a * 2, none⟩) (.inr (by simp)) (.slice x.A x.n x.c)).setCell (p := ⟨g, a * 2 + 1, none⟩) (.inr (by simp)) (.int .i64 x.m)
          have HLS := hide (show (lq.set a x).length = n by rw [List.length_set]; exact HLQ.out)
          have q3 : (0 : Int) ≤ (a : Int) := by omega
          have q4 : (a : Int) < (n : Int) := by omega
          clear hq hcy hy hcur hO3 hB23 kx3
          go_wp2_with fail
          go_roundw
          case rel => exact ⟨a + 1, b + 1, lq.set a x, by omega, by omega, by go_num, by go_num, HLS.out, HN.out, HD.out, HO4.out, hB4⟩
          case measure => simp [intOf]; omega
        · have HTT := hide (show (l.take (b + 1)).filter (fun x => !p x) = (l.take b).filter (fun x => !p x) by rw [take_snoc' HX.out, List.filter_append]; simp [hq])
          have HD := hide (show lq.drop (b + 1) = l.drop (b + 1) by rw [← List.drop_drop, ← List.drop_drop, HDB.out])
          have HN := hide (show lq.take a = (l.take (b + 1)).filter (fun x => !p x) by rw [HTA.out, HTT.out])
          clear hq kx3
          go_wp2_with fail
          go_roundw
          case rel => exact ⟨a, b + 1, lq, by omega, by omega, rfl, by go_num, HLQ.out, HN.out, HD.out, hO3, hB23⟩
          case measure => simp [intOf]; omega
      · obtain rfl : b = n := by omega
        have HFF := hide (show lq.take a = l.filter (fun x => !p x) by rw [HTA.out, take_all HL.out])
        have HFL := hide (show (l.filter fun x => !p x).length = a by rw [← HFF.out, List.length_take, HLQ.out]; omega)
        obtain ⟨cur, hcur⟩ := own_blk hO
        have hsome : ∀ j, j < (b - a) * 2 → (wr.cell? ⟨g, a * 2 + j, none⟩).isSome = true := by
          intro j hj
          have hr := Reads.of_own hO
          obtain ⟨b', off, e, _, hc⟩ := hr.2 (by omega)
          injection e with e
          injection e with e1 e2
          subst e1 e2
          obtain ⟨u, hu⟩ : ∃ u, (lq.flatMap encIt)[a * 2 + j]? = some u := ⟨_, List.getElem?_eq_getElem (by rw [flat_length encIt_len, HLQ.out]; omega)⟩
          have := hc _ u hu
          rw [Nat.zero_add] at this
          rw [this]; rfl
        have hcur' := fun o => hcur.frozen o
        obtain ⟨Z, hZ⟩ := clear_items wr g (a * 2) (b - a) (c - a) (by omega) hsome hcur'
        have hO5 := own_sets Z wr (a * 2) (own_pre hO (show a ≤ b by omega)) (Nat.le_refl _)
        rw [← flat_take, HFF.out] at hO5
        have HO5 := hide hO5
        have HB5 := hide (bar_sets (g := g) (by simp) Z wr (a * 2) hB)
        have q3 : (0 : Int) ≤ (a : Int) := by omega
        have q4 : (a : Int) ≤ (b : Int) := by omega
        have q5 : (a : Int) ≤ (c : Int) := by omega
        have q6 : ¬ (c = a) := by omega
        clear hsome hcur hcur' hO5 hO hB
        go_wp2_with fail
        go_ret
        unfold RetDel
        rw [HFL.out]
        exact ⟨rfl, HO5.out, HB5.out⟩
end

section
open Go.Shelf Go.Lib Go.Sort
open Go.RowKit (Below)
attribute [local go_sem] Oper.semAt_some
set_option linter.unusedVariables false
set_option linter.unusedSimpArgs false

theorem swo_tot {α : Type} {f : α → α → Int} (h : Tot f) : SWO (ltOf f) where
  irrefl x := by show decide (f x x < 0) = false; rw [h.self]; rfl
  trans x y z h1 h2 := by
    have h1' : decide (f x y < 0) = true := h1
    have h2' : decide (f y z < 0) = true := h2
    show decide (f x z < 0) = true
    rw [decide_eq_true_iff] at *
    exact h.lt1 _ _ _ h1' (Int.le_of_lt h2')
  ntrans x y z h1 h2 := by
    have h1' : decide (f x y < 0) = false := h1
    have h2' : decide (f y z < 0) = false := h2
    show decide (f x z < 0) = false
    rw [decide_eq_false_iff_not] at *
    have a1 := h.anti x y
    have a2 := h.anti y z
    have a3 := h.anti x z
    have := h.le z y x (by omega) (by omega)
    omega
theorem rows_bar {w W : World} {B g : Nat} {A : Option Addr} {n : Nat} {r : Rw} {e : TypeId} {c : Array Value} {fz : Nat × Nat} (h : RowK w B A n r) (hb : Bar w.heap.size [g] w W) (hB : B ≤ g) (hg : w.heap[g]? = some (.cells c e fz)) (he : e ≠ 64) : RowK W B A n r :=
  h.keep (p := fun k => k = g) (fun k hk hp => hb.block k hk (by simpa using hp)) hb.size fun k hk => by
    subst hk
    refine ⟨hB, fun c' fz' h2 => ?_⟩
    rw [hg] at h2
    injection h2 with h2
    injection h2 with _ h3
    exact he h3
/-- What the sort leaves. -/
def RetSortI (w : World) (g n B : Nat) (l : List It) (cf : It → It → Int) (e : Ending) (w' : World) : Prop := e = .returned (.tuple #[]) ∧ ∃ l' : List It, l'.Perm l ∧ l'.Pairwise (fun x y => ¬ cf y x < 0) ∧ Reads w' w'.heap.size 2 (some ⟨g, 0, none⟩) n (l'.flatMap encIt) ∧ Rows_ w' B l' ∧ Bar w.heap.size [g] w w'
set_option maxHeartbeats 1000000 in
theorem SortI_any (base g n c B : Nat) (l : List It) (w : World) (h : w.ownsRow base 62 2 (.slice (some ⟨g, 0, none⟩) n c) n (l.flatMap encIt)) (hn : n ≤ 100000) (hr : Rows_ w B l) (hB : B ≤ g) (pf : Nat) (caps : Array Value)
    (eg : ∀ args w, (callFunc pf args).run Tryz.prog w = .ok (.enter pf args) w) (cf : It → It → Int) (hO : SWO (ltOf cf))
    (hc : ∀ (x y : It) (W : World), x ∈ l → y ∈ l → RowK W B x.A x.n x.r → RowK W B y.A y.n y.r → Bar w.heap.size [g] w W → Calls Tryz.prog pf (#[.agg #[.slice x.A x.n x.c, .int .i64 x.m], .agg #[.slice y.A y.n y.c, .int .i64 y.m]] ++ caps) W (RetG W (.int .i64 (cf x y)))) :
    Calls Tryz.prog 108 #[.slice (some ⟨g, 0, none⟩) n c, .func (Fn.func pf) #[] caps] w (RetSortI w g n B l cf) := by
  have hlen : l.length = n := by
    have := h.1
    rw [flat_length encIt_len] at this
    omega
  obtain ⟨cc, fz, hcells⟩ := own_cells h (g := g) rfl
  have hg : g < w.heap.size := (Array.getElem?_eq_some_iff.1 hcells).1
  rcases Nat.eq_zero_or_pos n with hn0 | hn0
  · subst hn0
    obtain rfl : l = [] := List.eq_nil_of_length_eq_zero hlen
    have hl : Calls Tryz.prog 144 #[.int .u64 0] w fun e w' => e = .returned (.int .i64 0) ∧ w' = w := Any.bits_Len lays125 0 w (by omega) (by omega)
    have hp : Calls Tryz.prog 143 #[.slice (some ⟨g, 0, none⟩) 0 c, .int .i64 0, .int .i64 0, .int .i64 0, .func (Fn.func pf) #[] caps] w fun e w' => e = .returned (.tuple #[]) ∧ w' = w := AnyF.pdqsortCmpFunc_none (P := Tryz.prog) (ρ := sortI_ren) sortI _ c 0 _ w
    clear hc h hr hcells
    go_enter Tryz.func108, Tryz.ntmps108
    go_wp2_with (first | (go_at_call 144; refine hl.mono ?_; rintro e w' ⟨rfl, rfl⟩) | (go_at_call 143; refine hp.mono ?_; rintro e w' ⟨rfl, rfl⟩))
    go_end0
    exact ⟨rfl, [], List.Perm.refl _, List.Pairwise.nil, ⟨rfl, fun h => absurd h (by omega)⟩, (fun i hi => by cases hi), Bar.refl _ _ _⟩
  · obtain ⟨x0, hx0⟩ : ∃ x, x ∈ l := by
      cases l with
      | nil => simp at hlen; omega
      | cons x l => exact ⟨x, List.mem_cons_self⟩
    haveI : Inhabited {x : It // x ∈ l} := ⟨⟨x0, hx0⟩⟩
    let enc : {x : It // x ∈ l} → List Value := fun x => encIt x.1
    let ls : List {x : It // x ∈ l} := l.attach
    have hls : ls.map (·.1) = l := List.attach_map_subtype_val l
    have hfl : ls.flatMap enc = l.flatMap encIt := by
      have : l.flatMap encIt = (ls.map (·.1)).flatMap encIt := by rw [hls]
      rw [this, List.flatMap_map]
    have hlsn : ls.length = n := by rw [← hlen]; exact List.length_attach
    have h' : w.ownsRow base 62 2 (.slice (some ⟨g, 0, none⟩) n c) n (ls.flatMap enc) := by rw [hfl]; exact h
    obtain ⟨hH, _, hb⟩ := holds_ownG (enc := enc) (fun x => encIt_len x.1) (by omega) h'
    have hsz : ls.toArray.size = n := by simpa using hlsn
    have hO' : SWO (ltOf fun x y : {x : It // x ∈ l} => cf x.1 y.1) := ⟨fun x => hO.irrefl x.1, fun x y z => hO.trans x.1 y.1 z.1, fun x y z => hO.ntrans x.1 y.1 z.1⟩
    have h1 : ∀ x : {x : It // x ∈ l}, ∀ v ∈ enc x, v.oneCell' = true := fun x v hv => by
      have hv' : v ∈ encIt x.1 := hv
      unfold encIt at hv'
      simp only [List.mem_cons, List.not_mem_nil, or_false] at hv'
      rcases hv' with rfl | rfl <;> rfl
    have hcmp : CmpLays Tryz.prog pf caps enc 2 (fun x y : {x : It // x ∈ l} => cf x.1 y.1) g 0 ls.toArray.size w := by
      intro m os dk hdk x y
      have hbar := below_sortG (enc := enc) (k := 2) (w := w) (g := g) (m := m) (d := dk) (os := os)
      refine (hc x.1 y.1 _ x.2 y.2 (rows_bar (hr _ x.2) hbar hB hcells (by decide)) (rows_bar (hr _ y.2) hbar hB hcells (by decide)) hbar).mono ?_
      rintro e w' ⟨he, hgb⟩
      exact ⟨he, hgb.grow⟩
    have hlim : Lib.bitLen ls.toArray.size < 4611686018427387904 := Nat.lt_of_le_of_lt (Lib.bitLen_le ls.toArray.size 62 (by omega) (by omega)) (by omega)
    have hp := AnyQ.pdqsortCmpFunc_all (P := Tryz.prog) (ρ := sortI_ren) sortI 2 Tryz.isAgg62 Tryz.sizeOf62 enc (fun x y : {x : It // x ∈ l} => cf x.1 y.1) pf caps hO' g 0 c ls.toArray w eg hcmp ⟨fun x => encIt_len x.1, h1, hH, hg⟩ (ls.toArray.size + 1) 0 ls.toArray.size (Lib.bitLen ls.toArray.size) ls.toArray w (by omega) rfl (SWK.start hH) (Nat.zero_le _) (Nat.le_refl _) (by rw [hsz]; omega) hlim (Or.inl rfl)
    rw [hsz] at hp
    have hl : Calls Tryz.prog 144 #[.int .u64 (n : Int)] w fun e w' => e = .returned (.int .i64 (Lib.bitLen n : Nat)) ∧ w' = w := by
      have h := Any.bits_Len lays125 (n : Int) w (by omega) (by omega)
      rwa [Int.toNat_natCast] at h
    have wr : IntKind.u64.wrap (n : Int) = n := by simp [IntKind.wrap, IntKind.bits, IntKind.signed]; omega
    change Calls Tryz.prog 143 _ _ _ at hp
    have HP := hide hp
    have HS := hide (pdq_sorts (ltOf fun x y : {x : It // x ∈ l} => cf x.1 y.1) hO' ls.toArray 0 n (Lib.bitLen n) true true (Nat.zero_le _) (by rw [hsz]; exact Nat.le_refl _) (Or.inl rfl))
    obtain ⟨bl, hbl⟩ : ∃ bl, Lib.bitLen n = bl := ⟨_, rfl⟩
    rw [hbl] at HP HS hl
    clear hp hcmp hH hbl hlim h'
    go_enter Tryz.func108, Tryz.ntmps108
    go_wp2_with (first | (go_at_call 144; refine hl.mono ?_; rintro e w' ⟨rfl, hw⟩; obtain rfl := hw.symm) | (go_at_call 143; refine HP.out.mono ?_; rintro e w' ⟨rfl, m, os, rfl⟩))
    go_end0
    obtain ⟨hpm, hst⟩ := HS.out
    obtain ⟨d', hd'⟩ : ∃ d', pdq (ltOf fun x y : {x : It // x ∈ l} => cf x.1 y.1) ls.toArray 0 n bl true true = d' := ⟨_, rfl⟩
    rw [hd'] at hpm hst ⊢
    have hdn : d'.size = n := by rw [hpm.1, hsz]
    have hbar := below_sortG (enc := enc) (k := 2) (w := w) (g := g) (m := m) (d := d') (os := os)
    have hperm : d'.toList.Perm ls := by
      have := hpm.2.2
      rw [← hsz] at this
      simp only [Array.extract_size] at this
      rw [hsz, ← hdn, Array.extract_size] at this
      simpa using this
    have hl'p : (d'.toList.map (·.1)).Perm l := by
      have := hperm.map (·.1)
      rwa [hls] at this
    refine ⟨rfl, d'.toList.map (·.1), hl'p, ?_, ?_, fun i hi => rows_bar (hr i (hl'p.mem_iff.1 hi)) hbar hB hcells (by decide), hbar⟩
    · rw [List.pairwise_map, List.pairwise_iff_getElem]
      intro i j hi hj hij
      have hi' : i < d'.size := by simpa using hi
      have hj' : j < d'.size := by simpa using hj
      have := hst i j (Nat.zero_le _) hij (by omega)
      have h2 : decide (cf (d'[j]!).1 (d'[i]!).1 < 0) = false := this
      rw [decide_eq_false_iff_not, getElem!_pos d' i hi', getElem!_pos d' j hj'] at h2
      simpa using h2
    · have hH' := holdsK_sortWorldK_c enc 2 w g 0 ls.toArray d' m os (holds_ownG (enc := enc) (fun x => encIt_len x.1) (by omega) (by rw [hfl]; exact h)).1 hg (by rw [hdn, hsz])
      have := reads_holdsG (enc := enc) (fun x => encIt_len x.1) (by omega) hH' (Nat.lt_of_lt_of_le hg hbar.size)
      rw [hdn] at this
      rw [List.flatMap_map]
      exact this
end

section
open Go.RowKit
attribute [local go_sem] Oper.semAt_some
set_option linter.unusedVariables false
set_option linter.unusedSimpArgs false

/-- The block of a row. -/
def obl (v : Value) : List Nat := v.ownBlock.toList
theorem obl_some (g n c : Nat) : obl (.slice (some ⟨g, 0, none⟩) n c) = [g] := rfl
def RetDelV (w : World) (base : Nat) (v : Value) (l : List It) (e : Ending) (w' : World) : Prop := ∃ v', e = .returned v' ∧ w'.ownsRow base 62 2 v' l.length (l.flatMap encIt) ∧ v'.ownBlock = v.ownBlock ∧ Bar w.heap.size (obl v) w w'
theorem DeleteV (base n : Nat) (v : Value) (l : List It) (w : World) (hown : w.ownsRow base 62 2 v n (l.flatMap encIt)) (hn : n ≤ 100000) (pf : Nat) (caps : Array Value) (p : It → Bool)
    (eg : ∀ args w, (callFunc pf args).run Tryz.prog w = .ok (.enter pf args) w)
    (hp : ∀ x ∈ l, ∀ W, Bar w.heap.size (obl v) w W → Calls Tryz.prog pf (#[.agg #[.slice x.A x.n x.c, .int .i64 x.m]] ++ caps) W (RetV W (.bool (p x)))) :
    Calls Tryz.prog 74 #[v, .func (Fn.func pf) #[] caps] w (RetDelV w base v (l.filter fun x => !p x)) := by
  have hlen : l.length = n := by
    have := hown.1
    rw [flat_length encIt_len] at this
    omega
  rcases hown.2 with ⟨he, hn0⟩ | ⟨g, cap, cur, he, _⟩
  · subst he
    obtain rfl : n = 0 := by
      have := hown.1
      rw [hn0] at this
      simp at this
      omega
    obtain rfl : l = [] := List.eq_nil_of_length_eq_zero hlen
    have HI := hide (idxI_any none 0 0 [] w Reads.none_ (by omega) pf caps p eg (fun x hx => by cases hx))
    clear hp hown
    go_enter Tryz.func74, Tryz.ntmps74
    go_wp2_with fail
    refine HI.out.mono ?_
    rintro e W1 ⟨⟨i, rfl, hfi⟩, hB1⟩
    obtain rfl : i = -1 := by
      rcases hfi with ⟨_, h⟩ | ⟨k, _, _, x0, hx0, _⟩
      · exact h
      · simp at hx0
    go_wp2_with fail
    go_ret
    exact ⟨_, rfl, World.ownsRow_nil _ _ _ _, rfl, Bar.of_below hB1 _⟩
  · subst he
    exact (Delete_any base g n cap l w hown hn pf caps p eg (fun x hx W hB => hp x hx W hB)).mono fun e w' ⟨h1, h2, h3⟩ => ⟨_, h1, h2, rfl, h3⟩
def RetSortV (w : World) (B : Nat) (v : Value) (l : List It) (cf : It → It → Int) (e : Ending) (w' : World) : Prop := e = .returned (.tuple #[]) ∧ ∃ (l' : List It) (A : Option Addr) (n c : Nat), v = .slice A n c ∧ n ≤ c ∧ l'.Perm l ∧ l'.Pairwise (fun x y => ¬ cf y x < 0) ∧ Reads w' w'.heap.size 2 A n (l'.flatMap encIt) ∧ Rows_ w' B l' ∧ Bar w.heap.size (obl v) w w'
set_option maxHeartbeats 1000000 in
theorem SortV (base n B : Nat) (v : Value) (l : List It) (w : World) (h : w.ownsRow base 62 2 v n (l.flatMap encIt)) (hn : n ≤ 100000) (hr : Rows_ w B l) (hB : B ≤ base) (pf : Nat) (caps : Array Value)
    (eg : ∀ args w, (callFunc pf args).run Tryz.prog w = .ok (.enter pf args) w) (cf : It → It → Int) (hO : Go.Sort.SWO (ltOf cf))
    (hc : ∀ (x y : It) (W : World), x ∈ l → y ∈ l → RowK W B x.A x.n x.r → RowK W B y.A y.n y.r → Bar w.heap.size (obl v) w W → Calls Tryz.prog pf (#[.agg #[.slice x.A x.n x.c, .int .i64 x.m], .agg #[.slice y.A y.n y.c, .int .i64 y.m]] ++ caps) W (RetG W (.int .i64 (cf x y)))) :
    Calls Tryz.prog 108 #[v, .func (Fn.func pf) #[] caps] w (RetSortV w B v l cf) := by
  have hlen : l.length = n := by
    have := h.1
    rw [flat_length encIt_len] at this
    omega
  rcases h.2 with ⟨he, hn0⟩ | ⟨g, cap, cur, he, hb, _, hcap, _⟩
  · subst he
    obtain rfl : n = 0 := by
      have := h.1
      rw [hn0] at this
      simp at this
      omega
    obtain rfl : l = [] := List.eq_nil_of_length_eq_zero hlen
    have hl : Calls Tryz.prog 144 #[.int .u64 0] w fun e w' => e = .returned (.int .i64 0) ∧ w' = w := Any.bits_Len lays125 0 w (by omega) (by omega)
    have hp : Calls Tryz.prog 143 #[.slice none 0 0, .int .i64 0, .int .i64 0, .int .i64 0, .func (Fn.func pf) #[] caps] w fun e w' => e = .returned (.tuple #[]) ∧ w' = w := AnyF.pdqsortCmpFunc_none (P := Tryz.prog) (ρ := sortI_ren) sortI _ 0 0 _ w
    have HR := hide (show RetSortV w B (.slice none 0 0) [] cf (.returned (.tuple #[])) w from ⟨rfl, [], none, 0, 0, rfl, Nat.le_refl _, List.Perm.refl _, List.Pairwise.nil, Reads.none_, (fun i hi => by cases hi), Bar.refl _ _ _⟩)
    clear hc h hr
    go_enter Tryz.func108, Tryz.ntmps108
    go_wp2_with (first | (go_at_call 144; refine hl.mono ?_; rintro e w' ⟨rfl, hw⟩; obtain rfl := hw.symm) | (go_at_call 143; refine hp.mono ?_; rintro e w' ⟨rfl, hw⟩; obtain rfl := hw.symm))
    go_end0
    exact HR.out
  · subst he
    exact (SortI_any base g n cap B l w h hn hr (by omega) pf caps eg cf hO (fun x y W hx hy h1 h2 h3 => hc x y W hx hy h1 h2 h3)).mono fun e w' ⟨h1, l', h2, h3, h4, h5, h6⟩ => ⟨h1, l', _, _, _, rfl, hcap, h2, h3, h4, h5, h6⟩
theorem gat1_any (A : Option Addr) (n c : Nat) (m : Int) (w : World) : Calls Tryz.prog 107 #[.agg #[.slice A n c, .int .i64 m]] w (RetV w (.bool (m == 0))) := by
  have hB := below_val (w := w) #[.slice A n c, .int .i64 m] 62
  go_enter Tryz.func107, Tryz.ntmps107
  go_wp2
  go_ret
  exact ⟨rfl, hB⟩
theorem gat2_any (x y : It) (B : Nat) (w : World) (hx : RowK w B x.A x.n x.r) (hy : RowK w B y.A y.n y.r) : Calls Tryz.prog 109 #[.agg #[.slice x.A x.n x.c, .int .i64 x.m], .agg #[.slice y.A y.n y.c, .int .i64 y.m]] w (RetG w (.int .i64 (cmpR x.r y.r))) := by
  have hB := gb_two (w := w) (.cells #[.slice x.A x.n x.c, .int .i64 x.m] 62) (.cells #[.slice y.A y.n y.c, .int .i64 y.m] 62)
  have k1 := (Blk.new w 62 #[.slice x.A x.n x.c, .int .i64 x.m]).alloc (.cells #[.slice y.A y.n y.c, .int .i64 y.m] 62)
  have k2 := Blk.new (w.alloc (.cells #[.slice x.A x.n x.c, .int .i64 x.m] 62)) 62 #[.slice y.A y.n y.c, .int .i64 y.m]
  rw [World.size_alloc] at k2
  have hx1 := hx.below hB.b
  have hy1 := hy.below hB.b
  go_enter Tryz.func109, Tryz.ntmps109
  go_upto_region 1 with fail
  obtain ⟨W, hW⟩ : ∃ W, (w.alloc (.cells #[.slice x.A x.n x.c, .int .i64 x.m] 62)).alloc (.cells #[.slice y.A y.n y.c, .int .i64 y.m] 62) = W := ⟨_, rfl⟩
  rw [hW] at hB k1 k2 hx1 hy1 ⊢
  clear hW
  have c1 := k1.cell 0
  have c2 := k2.cell 0
  simp at c1 c2
  have HC := hide (Compare_g x.A x.n x.c x.r y.A y.n y.c y.r W hx1.rd hy1.rd hx1.le)
  go_wp2_with fail
  refine HC.out.mono ?_
  rintro e W1 ⟨rfl, hB1⟩
  have HB := hide (gstep hB hB1)
  clear hB hB1
  go_wp2_with fail
  go_ret
  exact ⟨rfl, HB.out⟩
end

end Go.Proofs.YtiioiajcoiaalaaGreatDoor
