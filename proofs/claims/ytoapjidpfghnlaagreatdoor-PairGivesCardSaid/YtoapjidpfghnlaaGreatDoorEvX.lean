/-
  Joins as plain data: keys, what is joined of two lists of events, the errors. No program in sight; no condition.
  slices.IndexFunc and slices.ContainsFunc over events, whatever predicate; cmp.Or of two numbers. No condition.
-/
import Derived.Test.YtoapjidpfghnlaaGreatDoorIns
import Derived.Test.YtoapjidpfghnlaaGreatDoorPjA
import Derived.Test.YtoapjidpfghnlaaGreatDoorGb
import Derived.Test.YtoapjidpfghnlaaGreatDoorRngH
namespace Go.Proofs.YtoapjidpfghnlaaGreatDoor

section
open Go.RowKit
set_option linter.unusedVariables false

/-- A row has all columns. -/
def hasC (r : Rw) (cols : List Int) : Bool := cols.all fun c => btw c 0 ((r.length : Int) - 1)
theorem hasC_at {r : Rw} {cols : List Int} (h : hasC r cols = true) {k : Nat} {x : Int} (hx : cols[k]? = some x) : 0 ≤ x ∧ x ≤ (r.length : Int) - 1 := btw_iff.1 (List.all_eq_true.1 h x (List.mem_of_getElem? hx))
theorem hasC_val {r : Rw} {cols : List Int} (h : hasC r cols = true) {k : Nat} {x : Int} (hx : cols[k]? = some x) : ∃ v, r[x.toNat]? = some v := by
  have := hasC_at h hx
  exact ⟨_, List.getElem?_eq_getElem (by omega)⟩
theorem pickC_take {r : Rw} {cols : List Int} (h : hasC r cols = true) {k : Nat} {x : Int} {v : Val} (hx : cols[k]? = some x) (hv : r[x.toNat]? = some v) : pick r (cols.take (k + 1)) = pick r (cols.take k) ++ [v] := by
  rw [take_snoc' hx]
  exact pick_snoc r _ x v hv
theorem pickC_okV {r : Rw} (h : r.all okV = true) (cols : List Int) : (pick r cols).all okV = true := by
  rw [List.all_eq_true]
  intro v hv
  unfold pick at hv
  obtain ⟨c, _, h2⟩ := List.mem_filterMap.1 hv
  exact List.all_eq_true.1 h v (List.mem_of_getElem? h2)
theorem pickC_len (r : Rw) (cols : List Int) : (pick r cols).length ≤ cols.length := List.length_filterMap_le _ _
/-- No value is null. -/
def nonul (k : Rw) : Bool := k.all fun v => decide (v.k ≠ 0)
/-- Two rows have the same key. -/
def eqK (on others : List Int) (l r : Rw) : Bool := nonul (pick l on) && decide (pick l on = pick r others)
theorem nonul_snoc (k : Rw) (v : Val) : nonul (k ++ [v]) = (nonul k && decide (v.k ≠ 0)) := by simp [nonul, List.all_append]
/-- The keys' texts are equal exactly if the keys are. -/
theorem eqK_text {on others : List Int} {l r : Rw} (hl : l.all okV = true) (hr : r.all okV = true) : (nonul (pick l on) && (nonul (pick r others) && decide (keyC (pick l on) = keyC (pick r others)))) = eqK on others l r := by
  unfold eqK
  cases h1 : nonul (pick l on)
  · rfl
  · rw [Bool.true_and, Bool.true_and]
    by_cases h2 : pick l on = pick r others
    · rw [← h2, h1]
      simp
    · have h3 : keyC (pick l on) ≠ keyC (pick r others) := fun e => h2 (keyC_inj (pickC_okV hl on) (pickC_okV hr others) e)
      simp [h2, h3]
/-- .. and value by value. -/
theorem eqK_steps {on others : List Int} {l r : Rw} (hl : l.all okV = true) (hr : r.all okV = true) (h1 : hasC l on = true) (h2 : hasC r others = true) {k : Nat} {x y : Int} {u v : Val} (hx : on[k]? = some x) (hy : others[k]? = some y) (hu : l[x.toNat]? = some u) (hv : r[y.toNat]? = some v) :
    eqK (on.take (k + 1)) (others.take (k + 1)) l r = (eqK (on.take k) (others.take k) l r && (decide (u.k ≠ 0) && (decide (v.k ≠ 0) && decide (cmpV u v = 0)))) := by
  unfold eqK
  rw [pickC_take h1 hx hu, pickC_take h2 hy hv, nonul_snoc]
  have ou := List.all_eq_true.1 hl u (List.mem_of_getElem? hu)
  have ov := List.all_eq_true.1 hr v (List.mem_of_getElem? hv)
  by_cases e : pick l (on.take k) = pick r (others.take k)
  · rw [e]
    by_cases e2 : u = v
    · subst e2
      have hc : cmpV u u = 0 := Tot.val.self u
      cases hn : nonul (pick r (others.take k)) <;> simp [hc]
    · have hc : cmpV u v ≠ 0 := fun h => e2 (cmpV_eq ou ov h)
      simp [e2, hc]
  · have : pick l (on.take k) ++ [u] ≠ pick r (others.take k) ++ [v] := fun h => e (List.append_inj_left' h rfl)
    simp [e, this]
/-- What an event is joined to. -/
def pairsOf (on others : List Int) (lo hi : Int) (x : Te) (r : List Te) : List Te := (r.filter fun y => btw (y.1 - x.1) lo hi && eqK on others x.2 y.2).map fun y => (max x.1 y.1, x.2 ++ y.2)
def pairsI (on others : List Int) (lo hi : Int) (l r : List Te) : List Te := l.flatMap fun x => pairsOf on others lo hi x r
def badP (c : Te) : Bool := decide (8 < c.2.length)
def limP (cs : List Te) : Bool := cs.any badP || decide (400 < cs.length)
def fitK (on others : List Int) : Bool := decide (on.length = others.length) && decide (on.length ≤ 8)
def insK (cols : List Int) (n : Int) : Bool := cols.all fun c => btw c 0 (n - 1)
def spanB (lo hi : Int) : Bool := btw lo (-1000000000) 1000000000 && btw hi (-1000000000) 1000000000 && decide (lo ≤ hi)
def evsB (l : List Te) : Bool := decide (l.length ≤ 100) && l.all okE
def hasE (l : List Te) (cols : List Int) : Bool := l.all fun x => hasC x.2 cols
def intE (on others : List Int) (lo hi : Int) (l r : List Te) : Int :=
  if evsB l && evsB r then (if fitK on others then (if insK on 8 && (insK others 8 && (spanB lo hi && (hasE l on && hasE r others))) then (if limP (pairsI on others lo hi l r) then 4 else 0) else 7) else 9) else 1
/-- What Intervals answers. -/
def intB (on others : List Int) (lo hi : Int) (l r : List Te) : List Te × Int := (if intE on others lo hi l r = 0 then srtG cmpE (pairsI on others lo hi l r) else [], intE on others lo hi l r)
theorem limP_app {a b : List Te} (h : limP a = true) : limP (a ++ b) = true := by
  unfold limP at *
  rw [Bool.or_eq_true] at *
  rcases h with h | h
  · left; rw [List.any_append, h]; rfl
  · right; simp only [decide_eq_true_eq] at *; rw [List.length_append]; omega
theorem pairsI_snoc (on others : List Int) (lo hi : Int) (l r : List Te) (x : Te) : pairsI on others lo hi (l ++ [x]) r = pairsI on others lo hi l r ++ pairsOf on others lo hi x r := by simp [pairsI]
end

section
open Go.RowKit
attribute [local go_sem] Oper.semAt_some wide_fn wide_depth
set_option linter.unusedVariables false
set_option linter.unusedSimpArgs false

def FirstE (p : Ev → Bool) (l : List Ev) (i : Int) : Prop := ((∀ x ∈ l, p x = false) ∧ i = -1) ∨ ∃ k : Nat, i = (k : Int) ∧ (∀ x ∈ l.take k, p x = false) ∧ ∃ x, l[k]? = some x ∧ p x = true
set_option maxRecDepth 100000 in
set_option maxHeartbeats 2000000 in
theorem idxE_any (A : Option Addr) (n c : Nat) (l : List Ev) (w : World) (hr : Reads w w.heap.size 2 A n (l.flatMap encEv)) (hn : n ≤ 100000) (pf : Nat) (caps : Array Value) (p : Ev → Bool) (eg : ∀ args w, (callFunc pf args).run Tryz.prog w = .ok (.enter pf args) w)
    (hp : ∀ x ∈ l, ∀ W, Below w.heap.size w W → Calls Tryz.prog pf (#[.agg #[.int .i64 x.t, .slice x.A x.n x.c]] ++ caps) W (RetV W (.bool (p x)))) :
    Calls Tryz.prog 137 #[.slice A n c, .func (Fn.func pf) #[] caps] w fun e w' => (∃ i : Int, e = .returned (.int .i64 i) ∧ FirstE p l i) ∧ Below w.heap.size w w' := by
  have HL := hide (hr.len encEv_len (by omega))
  have HP := hide hp
  clear hp
  go_enter Tryz.func137, Tryz.ntmps137
  go_wp2_with fail
  go_loopw [8] (fun i wr => ∃ k : Nat, k ≤ n ∧ i = .int .i64 k ∧ (∀ x ∈ l.take k, p x = false) ∧ Below w.heap.size w wr) (fun i _ => n - (intOf i).toNat)
  case atStart => exact ⟨0, Nat.zero_le _, rfl, by simp, Below.refl _ _⟩
  case round =>
    obtain ⟨k, hk, rfl, hany, hB⟩ := hrel
    have HA := hide hany
    clear hany
    by_cases hlt : k < n
    · obtain ⟨b, off, x, rfl, hb, hxk, hcx⟩ := (hr.below hB).elem encEv_len HL.out hlt
      have HX := hide hxk
      have e0 : wr.cell? ⟨b, off + k * 2, none⟩ = some (.int .i64 x.t) := by simpa using hcx 0 _ rfl
      have e1 : wr.cell? ⟨b, off + k * 2 + 1, none⟩ = some (.slice x.A x.n x.c) := by simpa [← Nat.add_assoc] using hcx 1 _ rfl
      have HC := hide (HP.out x (List.mem_of_getElem? hxk) wr hB)
      clear hcx hxk
      have q1 : (0 : Int) ≤ (k : Int) := by omega
      have q2 : (k : Int) < (n : Int) := by omega
      go_wp2_with fail
      refine HC.out.mono ?_
      rintro e w1 ⟨rfl, hB1⟩
      have hB2 := bstep hB hB1
      cases hq : p x
      · have HY := hide (show ∀ y ∈ l.take (k + 1), p y = false from fun y hy => by
          rw [take_snoc' HX.out] at hy
          rcases List.mem_append.1 hy with h | h
          · exact HA.out y h
          · rw [List.mem_singleton.1 h]; exact hq)
        clear hq hB1 hB e0 e1 HC
        go_wp2
        go_roundw
        case rel => exact ⟨k + 1, by omega, by go_num, HY.out, hB2⟩
        case measure => simp [intOf]; omega
      · have HY := hide hq
        clear hq hB1 hB e0 e1 HC
        go_wp2
        go_ret
        exact ⟨⟨_, rfl, .inr ⟨k, rfl, HA.out, x, HX.out, HY.out⟩⟩, hB2⟩
    · obtain rfl : k = n := by omega
      have HY := hide (show ∀ y ∈ l, p y = false from fun y hy => HA.out y (by rw [take_all HL.out]; exact hy))
      go_wp2
      go_ret
      exact ⟨⟨_, rfl, .inl ⟨HY.out, rfl⟩⟩, hB⟩

set_option maxHeartbeats 2000000 in
theorem con_evs (A : Option Addr) (n c : Nat) (l : List Ev) (w : World) (hr : Reads w w.heap.size 2 A n (l.flatMap encEv)) (hn : n ≤ 100000) (pf : Nat) (caps : Array Value) (p : Ev → Bool) (eg : ∀ args w, (callFunc pf args).run Tryz.prog w = .ok (.enter pf args) w)
    (hp : ∀ x ∈ l, ∀ W, Below w.heap.size w W → Calls Tryz.prog pf (#[.agg #[.int .i64 x.t, .slice x.A x.n x.c]] ++ caps) W (RetV W (.bool (p x)))) :
    Calls Tryz.prog 85 #[.slice A n c, .func (Fn.func pf) #[] caps] w (RetV w (.bool (l.any p))) := by
  have HI := hide (idxE_any A n c l w hr hn pf caps p eg hp)
  clear hp hr
  go_enter Tryz.func85, Tryz.ntmps85
  go_wp2_with fail
  refine HI.out.mono ?_
  rintro e W1 ⟨⟨i, rfl, hfi⟩, hB1⟩
  have HX := hide (show decide (0 ≤ i) = l.any p by
    rcases hfi with ⟨h, rfl⟩ | ⟨k, rfl, _, x, hx, h⟩
    · have : l.any p = false := List.any_eq_false.2 fun x hx => by rw [h x hx]; simp
      rw [this]; rfl
    · have : l.any p = true := List.any_eq_true.2 ⟨x, List.mem_of_getElem? hx, h⟩
      rw [this]; simp)
  clear hfi
  go_wp2_with fail
  go_ret
  exact ⟨ret_bool HX.out, hB1⟩
set_option maxHeartbeats 2000000 in
theorem OrI_any (g : Nat) (x y : Int) (w : World) (h0 : w.cell? ⟨g, 0, none⟩ = some (.int .i64 x)) (h1 : w.cell? ⟨g, 1, none⟩ = some (.int .i64 y)) :
    Calls Tryz.prog 128 #[.slice (some ⟨g, 0, none⟩) 2 2] w fun e w' => e = .returned (.int .i64 (thenC x y)) ∧ w = w' := by
  by_cases hx : x = 0
  · subst hx
    by_cases hy : y = 0
    · subst hy
      go_enter Tryz.func128, Tryz.ntmps128
      go_wp2_with fail
      refine wp_loop_rounds 3 ?_
      rw [rounds_succ]
      go_wp2
      rw [rounds_succ]
      go_wp2
      rw [rounds_succ]
      go_wp2
      go_ret
      exact ⟨rfl, rfl⟩
    · have hy' : (y != 0) = true := by simpa using hy
      go_enter Tryz.func128, Tryz.ntmps128
      go_wp2_with fail
      refine wp_loop_rounds 2 ?_
      rw [rounds_succ]
      go_wp2
      rw [rounds_succ]
      go_wp2
      go_ret
      exact ⟨ret_int (by simp [thenC]), rfl⟩
  · have hx' : (x != 0) = true := by simpa using hx
    have HR : Hid (thenC x y = x) := hide (by simp [thenC, hx])
    clear hx
    go_enter Tryz.func128, Tryz.ntmps128
    go_wp2_with fail
    refine wp_loop_rounds 1 ?_
    rw [rounds_succ]
    go_wp2
    go_ret
    exact ⟨ret_int HR.out.symm, rfl⟩
end

end Go.Proofs.YtoapjidpfghnlaaGreatDoor
