/-
  slices.IndexFunc and slices.DeleteFunc over what a joiner holds, by whatever predicate. (Printed by gen_jnD.)
  slices.Clone and slices.Delete (of one element) over what a joiner holds. No condition.
-/
import Derived.Test.YtoapjidpfghnlaaGreatDoorJnH
import Derived.Test.YtoapjidpfghnlaaGreatDoorGb
import Derived.Test.YtoapjidpfghnlaaGreatDoorRngH
import Derived.Deep.Upon
namespace Go.Proofs.YtoapjidpfghnlaaGreatDoor

section
open Go.RowKit
attribute [local go_sem] Oper.semAt_some
set_option linter.unusedVariables false
set_option linter.unusedSimpArgs false

/-- What is known of the place where a predicate first holds. -/
def FirstAtH (p : Hd → Bool) (l : List Hd) (i : Int) : Prop := ((∀ x ∈ l, p x = false) ∧ i = -1) ∨ ∃ k : Nat, i = (k : Int) ∧ (∀ x ∈ l.take k, p x = false) ∧ ∃ x, l[k]? = some x ∧ p x = true
set_option maxRecDepth 100000 in
set_option maxHeartbeats 2000000 in
theorem idxH_any (A : Option Addr) (n c : Nat) (l : List Hd) (w : World) (hr : Reads w w.heap.size 3 A n (l.flatMap encHd)) (hn : n ≤ 100000) (pf : Nat) (caps : Array Value) (p : Hd → Bool) (eg : ∀ args w, (callFunc pf args).run Tryz.prog w = .ok (.enter pf args) w)
    (hp : ∀ x ∈ l, ∀ W, Below w.heap.size w W → Calls Tryz.prog pf (#[.agg #[.int .i64 x.t, .int .i64 x.m, .slice x.A x.n x.c]] ++ caps) W (RetV W (.bool (p x)))) :
    Calls Tryz.prog 197 #[.slice A n c, .func (Fn.func pf) #[] caps] w fun e w' => (∃ i : Int, e = .returned (.int .i64 i) ∧ FirstAtH p l i) ∧ Below w.heap.size w w' := by
  have HL := hide (hr.len encHd_len (by omega))
  have HP := hide hp
  clear hp
  go_enter Tryz.func197, Tryz.ntmps197
  go_wp2_with fail
  go_loopw [8] (fun i wr => ∃ k : Nat, k ≤ n ∧ i = .int .i64 k ∧ (∀ x ∈ l.take k, p x = false) ∧ Below w.heap.size w wr) (fun i _ => n - (intOf i).toNat)
  case atStart => exact ⟨0, Nat.zero_le _, rfl, by simp, Below.refl _ _⟩
  case round =>
    obtain ⟨k, hk, rfl, hany, hB⟩ := hrel
    have HA := hide hany
    clear hany
    by_cases hlt : k < n
    · obtain ⟨b, off, x, rfl, hb, hxk, hcx⟩ := (hr.below hB).elem encHd_len HL.out hlt
      have HX := hide hxk
      have e0 : wr.cell? ⟨b, off + k * 3, none⟩ = some (.int .i64 x.t) := by simpa using hcx 0 _ rfl
      have e1 : wr.cell? ⟨b, off + k * 3 + 1, none⟩ = some (.int .i64 x.m) := by simpa [← Nat.add_assoc] using hcx 1 _ rfl
      have e2 : wr.cell? ⟨b, off + k * 3 + 2, none⟩ = some (.slice x.A x.n x.c) := by simpa [← Nat.add_assoc] using hcx 2 _ rfl
      have HC := hide (HP.out x (List.mem_of_getElem? hxk) wr hB)
      clear hcx hxk
      have q1 : (0 : Int) ≤ (k : Int) := by omega
      have q2 : (k : Int) < (n : Int) := by omega
      go_wp2_with fail
      refine HC.out.mono ?_
      rintro e w1 ⟨rfl, hB1⟩
      have hB2 := bstep hB hB1
      cases hq : p x
      · have HY := hide (show ∀ y ∈ l.take (k + 1), p y = false from fun y hy => by
          rw [take_snoc' HX.out] at hy
          rcases List.mem_append.1 hy with h | h
          · exact HA.out y h
          · rw [List.mem_singleton.1 h]; exact hq)
        clear hq hB1 hB e0 e1 e2 HC
        go_wp2
        go_roundw
        case rel => exact ⟨k + 1, by omega, by go_num, HY.out, hB2⟩
        case measure => simp [intOf]; omega
      · have HY := hide hq
        clear hq hB1 hB e0 e1 e2 HC
        go_wp2
        go_ret
        exact ⟨⟨_, rfl, .inr ⟨k, rfl, HA.out, x, HX.out, HY.out⟩⟩, hB2⟩
    · obtain rfl : k = n := by omega
      have HY := hide (show ∀ y ∈ l, p y = false from fun y hy => HA.out y (by rw [take_all HL.out]; exact hy))
      go_wp2
      go_ret
      exact ⟨⟨_, rfl, .inl ⟨HY.out, rfl⟩⟩, hB⟩

theorem flat_setH {l : List Hd} {i : Nat} (x : Hd) (hi : i < l.length) : (l.set i x).flatMap encHd = (((l.flatMap encHd).set (i * 3) (.int .i64 x.t)).set (i * 3 + 1) (.int .i64 x.m)).set (i * 3 + 2) (.slice x.A x.n x.c) := by
  induction l generalizing i with
  | nil => simp at hi
  | cons y l ih =>
    cases i with
    | zero => rfl
    | succ i =>
      rw [List.set_cons_succ, List.flatMap_cons, List.flatMap_cons, ih (by simpa using hi)]
      rw [show (i + 1) * 3 = i * 3 + 3 by omega, show i * 3 + 3 + 1 = (i * 3 + 1) + 3 by omega, show i * 3 + 3 + 2 = (i * 3 + 2) + 3 by omega]
      rfl
theorem flat_takeH (l : List Hd) (i : Nat) : (l.take i).flatMap encHd = (l.flatMap encHd).take (i * 3) := by
  induction l generalizing i with
  | nil => simp
  | cons y l ih =>
    cases i with
    | zero => simp
    | succ i =>
      rw [List.take_succ_cons, List.flatMap_cons, List.flatMap_cons, ih, show (i + 1) * 3 = i * 3 + 3 by omega]
      rfl
/-- What DeleteFunc leaves. -/
def RetDelH (w : World) (base g c : Nat) (l : List Hd) (e : Ending) (w' : World) : Prop := e = .returned (.slice (some ⟨g, 0, none⟩) l.length c) ∧ w'.ownsRow base 144 3 (.slice (some ⟨g, 0, none⟩) l.length c) l.length (l.flatMap encHd) ∧ Bar w.heap.size [g] w w'
theorem filt_noneH {p : Hd → Bool} {l : List Hd} (h : ∀ x ∈ l, p x = false) : (l.filter fun x => !p x) = l := List.filter_eq_self.2 fun x hx => by rw [h x hx]; rfl
theorem zeroHd (w : World) : (zeroValue 144).run Tryz.prog w = .ok (.agg #[.int .i64 0, .int .i64 0, .slice none 0 0]) w := by kernel_rfl
theorem clear_held (w : World) (b o n c : Nat) (hn : 0 < n) (hc : ∀ j, j < n * 3 → (w.cell? ⟨b, o + j, none⟩).isSome = true) (hf : ∀ j, w.frozen? ⟨b, j, none⟩ = false) :
    ∃ Z : List Value, ∀ ty, (Builtin.clear_ #[184] ty #[.slice (some ⟨b, o, none⟩) n c]).run Tryz.prog w = .ok (.tuple #[]) (w.setCells b o Z) := by
  obtain ⟨Z, hZ⟩ : ∃ Z, (Builtin.zeroCells (Value.agg #[.int .i64 0, .int .i64 0, .slice none 0 0]).cells n).toList = Z := ⟨_, rfl⟩
  have hl : Z.length = n * 3 := by rw [← hZ]; simp [Builtin.zeroCells, Value.cells]
  have h1 : ∀ v ∈ Z, v.oneCell' = true := by
    intro v hv
    rw [← hZ] at hv
    simp only [Builtin.zeroCells, Value.cells, Array.toList_map, List.mem_map] at hv
    obtain ⟨i, _, rfl⟩ := hv
    have h2 : i % 3 = 0 ∨ i % 3 = 1 ∨ i % 3 = 2 := by omega
    rcases h2 with h2 | h2 | h2
    · show (#[Value.int .i64 0, Value.int .i64 0, Value.slice none 0 0][i % 3]!).oneCell' = true
      rw [h2]; rfl
    · show (#[Value.int .i64 0, Value.int .i64 0, Value.slice none 0 0][i % 3]!).oneCell' = true
      rw [h2]; rfl
    · show (#[Value.int .i64 0, Value.int .i64 0, Value.slice none 0 0][i % 3]!).oneCell' = true
      rw [h2]; rfl
  have hst := run_storeCells_cells (P := Tryz.prog) b o Z 0 w (by rw [hl]; simpa using hc) (fun j _ => hf _) h1
  simp only [Nat.add_zero] at hst
  obtain ⟨m, rfl⟩ : ∃ m, n = m + 1 := ⟨n - 1, by omega⟩
  refine ⟨Z, fun ty => ?_⟩
  simp [Builtin.clear_, run_underlying Tryz.underlying184, zeroHd, hZ, hst]
theorem take_set_ltH {l : List Hd} {a : Nat} {x : Hd} (h : a < l.length) : (l.set a x).take (a + 1) = l.take a ++ [x] := by
  rw [List.take_add_one, List.getElem?_set_self h, List.take_set_of_le (Nat.le_refl _)]
  rfl
set_option maxRecDepth 100000 in
set_option maxHeartbeats 4000000 in
theorem DeleteFuncH_any (base g n c : Nat) (l : List Hd) (w : World) (hown : w.ownsRow base 144 3 (.slice (some ⟨g, 0, none⟩) n c) n (l.flatMap encHd)) (hn : n ≤ 100000) (pf : Nat) (caps : Array Value) (p : Hd → Bool)
    (eg : ∀ args w, (callFunc pf args).run Tryz.prog w = .ok (.enter pf args) w)
    (hp : ∀ x ∈ l, ∀ W, Bar w.heap.size [g] w W → Calls Tryz.prog pf (#[.agg #[.int .i64 x.t, .int .i64 x.m, .slice x.A x.n x.c]] ++ caps) W (RetV W (.bool (p x)))) :
    Calls Tryz.prog 155 #[.slice (some ⟨g, 0, none⟩) n c, .func (Fn.func pf) #[] caps] w (RetDelH w base g c (l.filter fun x => !p x)) := by
  have hlen : l.length = n := by
    have := hown.1
    rw [flat_length encHd_len] at this
    omega
  have HL := hide hlen
  have HP := hide hp
  have HI := hide (idxH_any (some ⟨g, 0, none⟩) n c l w (Reads.of_own hown) hn pf caps p eg (fun x hx W hB => hp x hx W (Bar.of_below hB _)))
  obtain ⟨hge, hgl⟩ := hown.lt g rfl
  have hcap : n ≤ c := by
    rcases hown.2 with ⟨h1, _⟩ | ⟨g', cap, cur, h1, _, _, h4, _⟩
    · cases h1
    · injection h1 with _ _ h3
      subst h3
      exact h4
  clear hp hlen
  go_enter Tryz.func155, Tryz.ntmps155
  go_wp2_with fail
  refine HI.out.mono ?_
  rintro e W1 ⟨⟨i, rfl, hfi⟩, hB1⟩
  clear HI
  rcases hfi with ⟨hall, rfl⟩ | ⟨k, rfl, hall, x0, hx0, hp0⟩
  · have HF := hide (filt_noneH hall)
    have hO := own_below hown hB1
    have HLL := hide (show (l.filter fun x => !p x).length = n by rw [HF.out, HL.out])
    clear hall
    go_wp2_with fail
    go_ret
    unfold RetDelH
    rw [HLL.out, HF.out]
    exact ⟨rfl, hO, Bar.of_below hB1 _⟩
  · have hkn : k < n := by rw [← HL.out]; exact (List.getElem?_eq_some_iff.1 hx0).1
    have HT0 := hide (show (l.take (k + 1)).filter (fun x => !p x) = l.take k by rw [take_snoc' hx0, List.filter_append, filt_noneH hall]; simp [hp0])
    have hO := own_below hown hB1
    have hB := Bar.of_below hB1 [g]
    have z1 : ((k : Int) == -1) = false := by simp
    clear hall hx0 hp0 hown hB1
    go_wp2_with fail
    go_loopw [5, 6, 7] (fun i j _ wr => ∃ (a b : Nat) (lq : List Hd), a < b ∧ b ≤ n ∧ i = .int .i64 (a : Int) ∧ j = .int .i64 (b : Int) ∧ lq.length = n ∧ lq.take a = (l.take b).filter (fun x => !p x) ∧ lq.drop b = l.drop b ∧ wr.ownsRow base 144 3 (.slice (some ⟨g, 0, none⟩) n c) n (lq.flatMap encHd) ∧ Bar w.heap.size [g] w wr) (fun _ j _ _ => n - (intOf j).toNat)
    case atStart => exact ⟨k, k + 1, l, by omega, by omega, rfl, by go_num, HL.out, HT0.out.symm, rfl, hO, hB⟩
    case round =>
      clear hO hB
      obtain ⟨a, b, lq, hab, hbn, rfl, rfl, hlq, hta, hdb, hO, hB⟩ := hrel
      have HLQ := hide hlq
      have HTA := hide hta
      have HDB := hide hdb
      clear hlq hta hdb
      by_cases hlt : b < n
      · obtain ⟨x, hx⟩ : ∃ x, l[b]? = some x := ⟨_, List.getElem?_eq_getElem (by rw [HL.out]; exact hlt)⟩
        have hxq : lq[b]? = some x := by
          have h1 : (lq.drop b)[0]? = (l.drop b)[0]? := by rw [HDB.out]
          simpa [hx] using h1
        obtain ⟨g', off, x', hA, hbb, hx', hcx⟩ := (Reads.of_own hO).elem encHd_len HLQ.out hlt
        rw [hxq] at hx'
        injection hx' with hx'
        subst hx'
        injection hA with hA
        injection hA with hA1 hA2
        subst hA1 hA2
        have e0 : wr.cell? ⟨g, b * 3, none⟩ = some (.int .i64 x.t) := by simpa using hcx 0 _ rfl
        have e1 : wr.cell? ⟨g, b * 3 + 1, none⟩ = some (.int .i64 x.m) := by simpa using hcx 1 _ rfl
        have e2 : wr.cell? ⟨g, b * 3 + 2, none⟩ = some (.slice x.A x.n x.c) := by simpa using hcx 2 _ rfl
        have HX := hide hx
        have HXQ := hide hxq
        clear hcx hx hxq
        have q1 : (0 : Int) ≤ (b : Int) := by omega
        have q2 : (b : Int) < (n : Int) := by omega
        have hOa := hO.alloc (.cells #[.int .i64 x.t, .int .i64 x.m, .slice x.A x.n x.c] 144)
        go_upto_region 8 with fail
        have kx := Blk.new wr 144 #[.int .i64 x.t, .int .i64 x.m, .slice x.A x.n x.c]
        have hB2 := hB.alloc hB.size (.cells #[.int .i64 x.t, .int .i64 x.m, .slice x.A x.n x.c] 144)
        obtain ⟨W2, hW2⟩ : ∃ W2, wr.alloc (.cells #[.int .i64 x.t, .int .i64 x.m, .slice x.A x.n x.c] 144) = W2 := ⟨_, rfl⟩
        obtain ⟨bx, hbx⟩ : ∃ bx, wr.heap.size = bx := ⟨_, rfl⟩
        have hbg : g ≠ bx := by
          have := (hO.lt g rfl).2
          omega
        rw [hW2] at hOa kx hB2 ⊢
        rw [hbx] at kx ⊢
        have kx0 := kx.cell 0
        have kx1 := kx.cell 1
        have kx2 := kx.cell 2
        simp at kx0 kx1 kx2
        have HC := hide (HP.out x (List.mem_of_getElem? HX.out) W2 hB2)
        clear hW2 hbx hO hB e0 e1 e2
        go_wp2_with fail
        refine HC.out.mono ?_
        rintro e W3 ⟨rfl, hB3⟩
        have hO3 := own_below hOa hB3
        have kx3 := kx.below hB3 kx.lt
        have hB23 := hB2.trans (Bar.of_below (hB3.mono hB2.size) [g])
        have r0 := kx3.cell 0
        have r1 := kx3.cell 1
        have r2 := kx3.cell 2
        simp at r0 r1 r2
        clear HC kx kx0 kx1 kx2 hOa hB2 hB3
        cases hq : p x
        · have HTT := hide (show (l.take (b + 1)).filter (fun x => !p x) = (l.take b).filter (fun x => !p x) ++ [x] by rw [take_snoc' HX.out, List.filter_append]; simp [hq])
          have hal : a < lq.length := by rw [HLQ.out]; omega
          have HN := hide (show (lq.set a x).take (a + 1) = (l.take (b + 1)).filter (fun x => !p x) by rw [take_set_ltH hal, HTA.out, HTT.out])
          have HD := hide (show (lq.set a x).drop (b + 1) = l.drop (b + 1) by
            rw [List.drop_set_of_lt (by omega), ← List.drop_drop, ← List.drop_drop, HDB.out])
          obtain ⟨cur, hcur⟩ := own_blk hO3
          have fz := fun o => hcur.frozen o
          have fz2 := fun (u : Value) (o : Nat) => (hcur.set_ (a * 3) u).frozen o
          have fz3 := fun (u v : Value) (o : Nat) => ((hcur.set_ (a * 3) u).set_ (a * 3 + 1) v).frozen o
          obtain ⟨y, hy⟩ : ∃ y, lq[a]? = some y := ⟨_, List.getElem?_eq_getElem hal⟩
          obtain ⟨_, _, y', hA, _, hy', hcy⟩ := (Reads.of_own hO3).elem encHd_len HLQ.out (show a < n by omega)
          rw [hy] at hy'
          injection hy' with hy'
          subst hy'
          injection hA with hA
          injection hA with hA1 hA2
          subst hA1 hA2
          have y0 : W3.cell? ⟨g, a * 3, none⟩ = some (.int .i64 y.t) := by simpa using hcy 0 _ rfl
          have y1 : W3.cell? ⟨g, a * 3 + 1, none⟩ = some (.int .i64 y.m) := by simpa using hcy 1 _ rfl
          have y2 : W3.cell? ⟨g, a * 3 + 2, none⟩ = some (.slice y.A y.n y.c) := by simpa using hcy 2 _ rfl
          have y1' : (W3.setCell ⟨g, a * 3, none⟩ (.int .i64 x.t)).cell? ⟨g, a * 3 + 1, none⟩ = some (.int .i64 y.m) := (World.cell?_setCell_other W3 _ _ _ (by intro e; injection e with _ e; omega)).trans y1
          have y2' : ((W3.setCell ⟨g, a * 3, none⟩ (.int .i64 x.t)).setCell ⟨g, a * 3 + 1, none⟩ (.int .i64 x.m)).cell? ⟨g, a * 3 + 2, none⟩ = some (.slice y.A y.n y.c) := (World.cell?_setCell_other _ _ _ _ (by intro e; injection e with _ e; omega)).trans ((World.cell?_setCell_other W3 _ _ _ (by intro e; injection e with _ e; omega)).trans y2)
          have HO4 := hide (own_store2 (j := a * 3 + 2) (own_store2 (j := a * 3 + 1) (own_store2 (j := a * 3) hO3 (.int .i64 x.t)) (.int .i64 x.m)) (.slice x.A x.n x.c))
          rw [← flat_setH x hal] at HO4
          have hB4 := ((hB23.setCell (p := ⟨g, a * 3, none⟩) (.inr (by simp)) (.int .i64 x.t)).setCell (p := ⟨g, a * 3 + 1, none⟩) (.inr (by simp)) (.int .i64 x.m)).setCell (p := ⟨g, a * 3 + 2, none⟩) (.inr (by simp)) (.slice x.A x.n x.c)
          have HLS := hide (show (lq.set a x).length = n by rw [List.length_set]; exact HLQ.out)
          have q3 : (0 : Int) ≤ (a : Int) := by omega
          have q4 : (a : Int) < (n : Int) := by omega
          clear hq hcy hy hcur hO3 hB23 kx3
          go_wp2_with fail
          go_roundw
          case rel => exact ⟨a + 1, b + 1, lq.set a x, by omega, by omega, by go_num, by go_num, HLS.out, HN.out, HD.out, HO4.out, hB4⟩
          case measure => simp [intOf]; omega
        · have HTT := hide (show (l.take (b + 1)).filter (fun x => !p x) = (l.take b).filter (fun x => !p x) by rw [take_snoc' HX.out, List.filter_append]; simp [hq])
          have HD := hide (show lq.drop (b + 1) = l.drop (b + 1) by rw [← List.drop_drop, ← List.drop_drop, HDB.out])
          have HN := hide (show lq.take a = (l.take (b + 1)).filter (fun x => !p x) by rw [HTA.out, HTT.out])
          clear hq kx3
          go_wp2_with fail
          go_roundw
          case rel => exact ⟨a, b + 1, lq, by omega, by omega, rfl, by go_num, HLQ.out, HN.out, HD.out, hO3, hB23⟩
          case measure => simp [intOf]; omega
      · obtain rfl : b = n := by omega
        have HFF := hide (show lq.take a = l.filter (fun x => !p x) by rw [HTA.out, take_all HL.out])
        have HFL := hide (show (l.filter fun x => !p x).length = a by rw [← HFF.out, List.length_take, HLQ.out]; omega)
        obtain ⟨cur, hcur⟩ := own_blk hO
        have hsome : ∀ j, j < (b - a) * 3 → (wr.cell? ⟨g, a * 3 + j, none⟩).isSome = true := by
          intro j hj
          have hr := Reads.of_own hO
          obtain ⟨b', off, e, _, hc⟩ := hr.2 (by omega)
          injection e with e
          injection e with e1 e2
          subst e1 e2
          obtain ⟨u, hu⟩ : ∃ u, (lq.flatMap encHd)[a * 3 + j]? = some u := ⟨_, List.getElem?_eq_getElem (by rw [flat_length encHd_len, HLQ.out]; omega)⟩
          have := hc _ u hu
          rw [Nat.zero_add] at this
          rw [this]; rfl
        have hcur' := fun o => hcur.frozen o
        obtain ⟨Z, hZ⟩ := clear_held wr g (a * 3) (b - a) (c - a) (by omega) hsome hcur'
        have hO5 := own_sets Z wr (a * 3) (own_pre hO (show a ≤ b by omega)) (Nat.le_refl _)
        rw [← flat_takeH, HFF.out] at hO5
        have HO5 := hide hO5
        have HB5 := hide (bar_sets (g := g) (by simp) Z wr (a * 3) hB)
        have q3 : (0 : Int) ≤ (a : Int) := by omega
        have q4 : (a : Int) ≤ (b : Int) := by omega
        have q5 : (a : Int) ≤ (c : Int) := by omega
        have q6 : ¬ (c = a) := by omega
        clear hsome hcur hcur' hO5 hO hB
        go_wp2_with fail
        go_ret
        unfold RetDelH
        rw [HFL.out]
        exact ⟨rfl, HO5.out, HB5.out⟩
end

section
open Go.RowKit
attribute [local go_sem] Oper.semAt_some
set_option linter.unusedVariables false
set_option linter.unusedSimpArgs false

def RetOwH (w : World) (l : List Hd) (e : Ending) (w' : World) : Prop := ∃ A c, e = .returned (.slice A l.length c) ∧ w'.ownsRow w.heap.size 144 3 (.slice A l.length c) l.length (l.flatMap encHd) ∧ Below w.heap.size w w'
set_option maxRecDepth 100000 in
set_option maxHeartbeats 2000000 in
theorem CloneH_any {A : Option Addr} {n c base : Nat} {l : List Hd} (w : World) (h : w.ownsRow base 144 3 (.slice A n c) n (l.flatMap encHd)) (hn : n ≤ 1000) :
    Calls Tryz.prog 156 #[.slice A n c] w (RetOwH w l) := by
  obtain ⟨i0, hi, hz0, hz1, hz2⟩ := info_parts3 infoHd
  have hx := Reads.of_own h
  have hl := hx.len encHd_len (by omega)
  have HL := hide hl
  cases A with
  | none =>
    have hn0 : n = 0 := by
      rcases Nat.eq_zero_or_pos n with h | h
      · exact h
      · obtain ⟨b, off, e, _⟩ := hx.2 h
        cases e
    subst hn0
    have hl0 : l = [] := List.eq_nil_of_length_eq_zero hl
    subst hl0
    have hq := fun w => run_eql_slice_nil (P := Tryz.prog) w 184 144 none 0 c Tryz.underlying184
    clear h hx hl HL
    go_enter Tryz.func156, Tryz.ntmps156
    go_wp2
    go_ret
    exact ⟨none, _, rfl, World.ownsRow_nil _ _ _ _, Below.refl _ _⟩
  | some a =>
    have hlit := own_lit w 144 3 0 #[] rfl (by unfold maxLen; omega) (Nat.le_refl w.heap.size)
    have hB0 := below_val (w := w) #[] 144
    have hrd := hx.alloc (Nat.le_refl _) (.cells #[] 144)
    have hone : ∀ u ∈ l.flatMap encHd, u.oneCell' = true := by
      intro u hu
      obtain ⟨y, _, hy⟩ := List.mem_flatMap.1 hu
      unfold encHd at hy
      simp only [List.mem_cons, List.not_mem_nil, or_false] at hy
      rcases hy with rfl | rfl | rfl <;> rfl
    clear h hx hl
    have hq := fun w => run_eql_slice_nil (P := Tryz.prog) w 184 144 (some a) n c Tryz.underlying184
    go_enter Tryz.func156, Tryz.ntmps156
    go_wp2_with (at_builtin; refine wpList_append_any _ rfl _ _ 184 rfl w.heap.size 144 i0 _ 3 40 Tryz.underlying184 hi hz0 hz1 hz2 rfl (by decide) (.slice (some ⟨w.heap.size, 0, none⟩) 0 0) 0 [] rfl hlit w.heap.size (some a) n c (l.flatMap encHd) rfl hrd hone (by unfold maxLen; omega) (by omega) (by simp) ?_; intro v' W1 hown hgrow _; rw [Nat.zero_add, List.nil_append] at hown)
    have hB1 : Below w.heap.size w W1 := below_append hB0 hlit (by simp) hgrow
    obtain ⟨A', c', rfl, hR⟩ := own_form hown
    go_ret
    have e := HL.out
    subst e
    exact ⟨A', c', rfl, hown, hB1⟩

/-! Cells written in the midst of a row. -/
def setL {α : Type} : List α → Nat → List α → List α
  | xs, _, [] => xs
  | xs, o, v :: vs => setL (xs.set o v) (o + 1) vs
theorem setL_eq {α : Type} : ∀ (vs xs : List α) (o : Nat), o + vs.length ≤ xs.length → setL xs o vs = xs.take o ++ vs ++ xs.drop (o + vs.length)
  | [], xs, o, _ => by simp [setL]
  | v :: vs, xs, o, h => by
    simp only [List.length_cons] at h
    rw [setL, setL_eq vs (xs.set o v) (o + 1) (by rw [List.length_set]; omega)]
    rw [List.drop_set_of_lt (by omega), List.take_add_one, List.getElem?_set_self (by omega), List.take_set_of_le (Nat.le_refl _)]
    simp only [List.length_cons, Option.toList, List.append_assoc, List.cons_append, List.nil_append]
    rw [show o + 1 + vs.length = o + (vs.length + 1) by omega]
theorem own_setL {base : Nat} {e : TypeId} {size g c n : Nat} : ∀ (vs : List Value) (w : World) (o : Nat) {xs : List Value}, w.ownsRow base e size (.slice (some ⟨g, 0, none⟩) n c) n xs → (w.setCells g o vs).ownsRow base e size (.slice (some ⟨g, 0, none⟩) n c) n (setL xs o vs)
  | [], w, o, xs, h => h
  | v :: vs, w, o, xs, h => own_setL vs (w.setCell ⟨g, o, none⟩ v) (o + 1) (own_store2 (j := o) h v)
theorem flat_drop (l : List Hd) (i : Nat) : (l.drop i).flatMap encHd = (l.flatMap encHd).drop (i * 3) := by
  induction l generalizing i with
  | nil => simp
  | cons y l ih =>
    cases i with
    | zero => simp
    | succ i =>
      rw [List.drop_succ_cons, List.flatMap_cons, ih, show (i + 1) * 3 = i * 3 + 3 by omega]
      rfl
/-- An append whose run is known. -/
theorem wp_append_run {P : Program} {w w' : World} {o : Oper} {a : Act} {K : Act → World → Prop} {Q : Exit → Act → World → Prop} (s x : Operand) (t : TypeId)
    (ho : o.op = .call { callee := .builtin .append, args := #[s, x], argTypes := #[t, t] }) {v u v' : Value} (hs : a.eval s = v) (hx : a.eval x = u)
    (hrun : ∀ ty, (Builtin.append_ #[t, t] ty #[v, u]).run P w = .ok v' w') (h : K (a.put o.dst v') w') : o.wp P a w K Q := by
  unfold Oper.wp execOp
  simp only [ho, resolve, invoke, builtin, Sem.run_bind, Sem.run_pure, Result.andThen_ok, List.map_toArray, List.map_cons, List.map_nil, hs, hx, hrun]
  exact h
set_option maxRecDepth 100000 in
set_option maxHeartbeats 4000000 in
theorem DeleteH_any (base g n c i : Nat) (l : List Hd) (w : World) (hown : w.ownsRow base 144 3 (.slice (some ⟨g, 0, none⟩) n c) n (l.flatMap encHd)) (hn : n ≤ 100000) (hin : i < n) :
    Calls Tryz.prog 199 #[.slice (some ⟨g, 0, none⟩) n c, .int .i64 (i : Int), .int .i64 ((i : Int) + 1)] w (RetDelH w base g c (l.eraseIdx i)) := by
  have hlen : l.length = n := (Reads.of_own hown).len encHd_len (by omega)
  have hcap : n ≤ c := by
    rcases hown.2 with ⟨h1, _⟩ | ⟨g', cap, cur, h1, _, _, h4, _⟩
    · cases h1
    · injection h1 with _ _ h3
      subst h3
      exact h4
  have HLE := hide (show (l.eraseIdx i).length = n - 1 by rw [List.length_eraseIdx, hlen, if_pos hin])
  have hone : ∀ u ∈ (l.drop (i + 1)).flatMap encHd, u.oneCell' = true := by
    intro u hu
    obtain ⟨y, _, hy⟩ := List.mem_flatMap.1 hu
    unfold encHd at hy
    simp only [List.mem_cons, List.not_mem_nil, or_false] at hy
    rcases hy with rfl | rfl | rfl <;> rfl
  have hflat : (l.flatMap encHd).length = n * 3 := by rw [flat_length encHd_len, hlen]
  have hnews : ((l.drop (i + 1)).flatMap encHd).length = (n - (i + 1)) * 3 := by rw [flat_length encHd_len, List.length_drop, hlen]
  obtain ⟨V, hV⟩ : ∃ V, w.drew = V := ⟨_, rfl⟩
  have hBV : Below w.heap.size w V := by rw [← hV]; exact (Below.refl _ _).drew
  have hownV := own_below hown hBV
  have hcell : ∀ j u, (l.flatMap encHd)[j]? = some u → V.cell? ⟨g, j, none⟩ = some u := by
    intro j u hu
    obtain ⟨b, off, e, _, hc⟩ := (Reads.of_own hownV).2 (by omega)
    injection e with e
    injection e with e1 e2
    subst e1 e2
    simpa using hc j u hu
  obtain ⟨cur, hcur⟩ := own_blk hownV
  obtain ⟨i0, hi, hz0, hz1, hz2⟩ := info_parts3 infoHd
  -- the world behind the append
  obtain ⟨W, hW⟩ : ∃ W, V.setCells g (i * 3) ((l.drop (i + 1)).flatMap encHd) = W := ⟨_, rfl⟩
  have hO1 : W.ownsRow base 144 3 (.slice (some ⟨g, 0, none⟩) n c) n ((l.eraseIdx i).flatMap encHd ++ (l.flatMap encHd).drop ((n - 1) * 3)) := by
    have h1 := own_setL ((l.drop (i + 1)).flatMap encHd) V (i * 3) hownV
    rw [hW, setL_eq _ _ _ (by rw [hnews, hflat]; omega), hnews, ← flat_takeH, show i * 3 + (n - (i + 1)) * 3 = (n - 1) * 3 by omega, ← List.flatMap_append, ← List.eraseIdx_eq_take_drop_succ] at h1
    exact h1
  have hB1 : Bar w.heap.size [g] w W := by rw [← hW]; exact bar_sets (g := g) (by simp) _ V (i * 3) (Bar.of_below hBV _)
  have happ : ∀ ty A2 c2, (n = i + 1 ∨ A2 = some ⟨g, (i + 1) * 3, none⟩) → (Builtin.append_ #[184, 184] ty #[.slice (some ⟨g, 0, none⟩) i c, .slice A2 (n - (i + 1)) c2]).run Tryz.prog V = .ok (.slice (some ⟨g, 0, none⟩) (n - 1) c) W := by
    intro ty A2 c2 hA2
    have hs : Src Tryz.prog 3 184 (.slice A2 (n - (i + 1)) c2) (n - (i + 1)) ((l.drop (i + 1)).flatMap encHd) V := by
      by_cases hni : n = i + 1
      · have e1 : n - (i + 1) = 0 := by omega
        have e2 : (l.drop (i + 1)).flatMap encHd = [] := List.eq_nil_of_length_eq_zero (by rw [hnews, e1])
        rw [e1, e2]
        cases A2 with
        | none => exact Src.ofNil V Tryz.underlying184 c2
        | some a2 => exact Src.ofSlice V Tryz.underlying184 a2 0 c2 [] rfl (by intro j u hu; cases hu) (by intro u hu; cases hu)
      · have hA3 : A2 = some ⟨g, (i + 1) * 3, none⟩ := hA2.resolve_left hni
        subst hA3
        exact Src.ofSlice (P := Tryz.prog) V (size := 3) Tryz.underlying184 ⟨g, (i + 1) * 3, none⟩ (n - (i + 1)) c2 ((l.drop (i + 1)).flatMap encHd) hnews (fun j u hu => by
          rw [add_plain]
          refine hcell _ u ?_
          rw [flat_drop, List.getElem?_drop] at hu
          exact hu) hone
    have h1 := run_append_room_src V 184 184 ty 144 i0 Tryz.underlying184 hi g 0 i c _ (n - (i + 1)) _ (by rw [hz1]; exact hs) (by omega) (fun j hj => by
        rw [hz1, hnews] at *
        obtain ⟨u, hu⟩ : ∃ u, (l.flatMap encHd)[i * 3 + j]? = some u := ⟨_, List.getElem?_eq_getElem (by omega)⟩
        rw [Nat.zero_add, hcell _ u hu]; rfl) (fun j _ => hcur.frozen _)
    rw [hz1, Nat.zero_add, hW, show i + (n - (i + 1)) = n - 1 by omega] at h1
    exact h1
  have hO2 := own_blk hO1
  obtain ⟨cur2, hcur2⟩ := hO2
  have hcell2 : ∀ j, j < 1 * 3 → (W.cell? ⟨g, (n - 1) * 3 + j, none⟩).isSome = true := by
    intro j hj
    obtain ⟨b, off, e, _, hc⟩ := (Reads.of_own hO1).2 (by omega)
    injection e with e
    injection e with e1 e2
    subst e1 e2
    obtain ⟨u, hu⟩ : ∃ u, ((l.eraseIdx i).flatMap encHd ++ (l.flatMap encHd).drop ((n - 1) * 3))[(n - 1) * 3 + j]? = some u := ⟨_, List.getElem?_eq_getElem (by rw [hO1.1]; omega)⟩
    have := hc _ u hu
    rw [Nat.zero_add] at this
    rw [this]; rfl
  obtain ⟨Z, hZ⟩ := clear_held W g ((n - 1) * 3) 1 (c - (n - 1)) (by omega) hcell2 (fun j => hcur2.frozen j)
  have hO3 := own_sets Z W ((n - 1) * 3) (own_pre hO1 (show n - 1 ≤ n by omega)) (Nat.le_refl _)
  rw [List.take_append_of_le_length (by rw [flat_length encHd_len, HLE.out]; omega), List.take_of_length_le (by rw [flat_length encHd_len, HLE.out]; omega)] at hO3
  have HO3 := hide hO3
  have HB3 := hide (bar_sets (g := g) (by simp) Z W ((n - 1) * 3) hB1)
  have q1 : (0 : Int) ≤ (i : Int) := by omega
  have q2 : (i : Int) + 1 ≤ (n : Int) := by omega
  have q3 : (n : Int) ≤ (c : Int) := by omega
  have q4 : (n : Int) - 1 ≤ (n : Int) := by omega
  have q5 : ¬ (c = n - 1) := by omega
  have q6 : ((i : Int) == (i : Int) + 1) = false := by simp; omega
  have HLW := hide hlen
  obtain ⟨m, rfl⟩ : ∃ m, n = m + 1 := ⟨n - 1, by omega⟩
  simp only [Nat.add_sub_cancel] at happ hZ HO3 HB3 hcell2 q5 HLE
  have HLL := hide (show (l.eraseIdx i).length = m from HLE.out)
  clear hlen hone hflat hcell hcur hO1 hcell2 hO3 hB1 hcur2 hown hownV hBV HLE hi hz0 hz1 hz2
  by_cases hce : c = i + 1
  · subst hce
    obtain rfl : m = i := by omega
    have e2 : (l.drop (m + 1)).flatMap encHd = [] := List.eq_nil_of_length_eq_zero (by rw [hnews]; simp)
    rw [e2] at hW
    have hWV : V = W := hW
    simp only [Nat.add_sub_cancel_left] at hZ
    clear happ e2 hW hnews
    go_enter Tryz.func199, Tryz.ntmps199
    go_upto_region 5 with fail
    refine Held.begin (fun _ => True) 7 (by kernel_rfl) ?_
    rw [hV]
    have hS : True := trivial
    refine Held.take (i := 0) (.slice (some ⟨g, 0, none⟩) (m + 1) (m + 1)) rfl hS (by kernel_rfl) (by kernel_rfl) (by kernel_rfl) (by kernel_rfl) (fun _ _ _ h => h) rfl (fun y hy => by have x1 := hy; go_simp) ?_
    try simp only [Act.put]
    refine Held.take (i := 1) (.int .i64 (m : Int)) rfl hS (by kernel_rfl) (by kernel_rfl) (by kernel_rfl) (by kernel_rfl) (fun _ _ _ h => h) rfl (fun y hy => by have x1 := hy; go_simp) ?_
    try simp only [Act.put]
    refine Held.take (i := 2) (.slice (some ⟨g, 0, none⟩) m (m + 1)) rfl hS (by kernel_rfl) (by kernel_rfl) (by kernel_rfl) (by kernel_rfl) (fun _ _ _ h => h) rfl (fun y hy => by have x1 := hy; go_simp; (try (intro h; exfalso; omega))) ?_
    try simp only [Act.put]
    refine Held.take (i := 3) (.slice (some ⟨g, 0, none⟩) (m + 1) (m + 1)) rfl hS (by kernel_rfl) (by kernel_rfl) (by kernel_rfl) (by kernel_rfl) (fun _ _ _ h => h) rfl (fun y hy => by have x1 := hy; go_simp) ?_
    try simp only [Act.put]
    refine Held.take (i := 4) (.int .i64 ((m : Int) + 1)) rfl hS (by kernel_rfl) (by kernel_rfl) (by kernel_rfl) (by kernel_rfl) (fun _ _ _ h => h) rfl (fun y hy => by have x1 := hy; go_simp) ?_
    try simp only [Act.put]
    refine Held.take (i := 5) (.slice (some ⟨g, 0, none⟩) 0 0) rfl hS (by kernel_rfl) (by kernel_rfl) (by kernel_rfl) (by kernel_rfl) (fun _ _ _ h => h) rfl (fun y hy => by have x1 := hy; go_simp; (try (intro h; exfalso; omega))) ?_
    try simp only [Act.put]
    refine Held.one (i := 6) rfl (by kernel_rfl) rfl (fun K hK => ?_)
    unfold Oper.wp
    go_simp
    refine hK _ _ (fun _ => trivial) ?_
    try simp only [Act.put]
    clear hK K
    refine Held.one (i := 7) rfl (by kernel_rfl) rfl (fun K hK => ?_)
    unfold Oper.wp
    go_simp
    refine hK _ _ (fun _ => trivial) ?_
    try simp only [Act.put]
    clear hK K
    refine Held.done (by kernel_rfl) ?_
    go_wp2_with fail
    go_ret
    unfold RetDelH
    rw [HLL.out]
    exact ⟨rfl, HO3.out, HB3.out⟩
  · have happ1 := fun ty c2 => happ ty (some ⟨g, (i + 1) * 3, none⟩) c2 (.inr rfl)
    simp only [Nat.add_sub_add_right] at happ1
    clear happ hW hnews
    have q7 : ¬ (c = i + 1) := hce
    go_enter Tryz.func199, Tryz.ntmps199
    go_upto_region 5 with fail
    refine Held.begin (fun _ => True) 7 (by kernel_rfl) ?_
    rw [hV]
    have hS : True := trivial
    refine Held.take (i := 0) (.slice (some ⟨g, 0, none⟩) (m + 1) c) rfl hS (by kernel_rfl) (by kernel_rfl) (by kernel_rfl) (by kernel_rfl) (fun _ _ _ h => h) rfl (fun y hy => by have x1 := hy; go_simp) ?_
    try simp only [Act.put]
    refine Held.take (i := 1) (.int .i64 (i : Int)) rfl hS (by kernel_rfl) (by kernel_rfl) (by kernel_rfl) (by kernel_rfl) (fun _ _ _ h => h) rfl (fun y hy => by have x1 := hy; go_simp) ?_
    try simp only [Act.put]
    refine Held.take (i := 2) (.slice (some ⟨g, 0, none⟩) i c) rfl hS (by kernel_rfl) (by kernel_rfl) (by kernel_rfl) (by kernel_rfl) (fun _ _ _ h => h) rfl (fun y hy => by have x1 := hy; go_simp; (try (intro h; exfalso; omega))) ?_
    try simp only [Act.put]
    refine Held.take (i := 3) (.slice (some ⟨g, 0, none⟩) (m + 1) c) rfl hS (by kernel_rfl) (by kernel_rfl) (by kernel_rfl) (by kernel_rfl) (fun _ _ _ h => h) rfl (fun y hy => by have x1 := hy; go_simp) ?_
    try simp only [Act.put]
    refine Held.take (i := 4) (.int .i64 ((i : Int) + 1)) rfl hS (by kernel_rfl) (by kernel_rfl) (by kernel_rfl) (by kernel_rfl) (fun _ _ _ h => h) rfl (fun y hy => by have x1 := hy; go_simp) ?_
    try simp only [Act.put]
    refine Held.take (i := 5) (.slice (some ⟨g, (i + 1) * 3, none⟩) (m - i) (c - (i + 1))) rfl hS (by kernel_rfl) (by kernel_rfl) (by kernel_rfl) (by kernel_rfl) (fun _ _ _ h => h) rfl (fun y hy => by have x1 := hy; go_simp; (try (intro h; exfalso; omega))) ?_
    try simp only [Act.put]
    refine Held.one (i := 6) rfl (by kernel_rfl) rfl (fun K hK => ?_)
    refine wp_append_run _ _ _ rfl rfl rfl (fun ty => happ1 ty _) (hK _ _ (fun _ => trivial) ?_)
    try simp only [Act.put]
    clear hK K
    refine Held.one (i := 7) rfl (by kernel_rfl) rfl (fun K hK => ?_)
    unfold Oper.wp
    go_simp
    refine hK _ _ (fun _ => trivial) ?_
    try simp only [Act.put]
    clear hK K
    refine Held.done (by kernel_rfl) ?_
    go_wp2_with fail
    go_ret
    unfold RetDelH
    rw [HLL.out]
    exact ⟨rfl, HO3.out, HB3.out⟩
end

end Go.Proofs.YtoapjidpfghnlaaGreatDoor
