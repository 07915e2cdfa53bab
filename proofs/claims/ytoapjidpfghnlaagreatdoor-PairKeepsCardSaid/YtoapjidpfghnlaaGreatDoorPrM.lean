/-
  Joins as plain data: keys, what is joined of two lists of events, the errors. No program in sight; no condition.
-/
import Derived.Test.YtoapjidpfghnlaaGreatDoorEvM
import Derived.Test.YtoapjidpfghnlaaGreatDoorIns
import Derived.Test.YtoapjidpfghnlaaGreatDoorPjA
namespace Go.Proofs.YtoapjidpfghnlaaGreatDoor
open Go.RowKit
set_option linter.unusedVariables false

/-- A row has all columns. -/
def hasC (r : Rw) (cols : List Int) : Bool := cols.all fun c => btw c 0 ((r.length : Int) - 1)
theorem hasC_at {r : Rw} {cols : List Int} (h : hasC r cols = true) {k : Nat} {x : Int} (hx : cols[k]? = some x) : 0 ≤ x ∧ x ≤ (r.length : Int) - 1 := btw_iff.1 (List.all_eq_true.1 h x (List.mem_of_getElem? hx))
theorem hasC_val {r : Rw} {cols : List Int} (h : hasC r cols = true) {k : Nat} {x : Int} (hx : cols[k]? = some x) : ∃ v, r[x.toNat]? = some v := by
  have := hasC_at h hx
  exact ⟨_, List.getElem?_eq_getElem (by omega)⟩
theorem pickC_take {r : Rw} {cols : List Int} (h : hasC r cols = true) {k : Nat} {x : Int} {v : Val} (hx : cols[k]? = some x) (hv : r[x.toNat]? = some v) : pick r (cols.take (k + 1)) = pick r (cols.take k) ++ [v] := by
  rw [take_snoc' hx]
  exact pick_snoc r _ x v hv
theorem pickC_okV {r : Rw} (h : r.all okV = true) (cols : List Int) : (pick r cols).all okV = true := by
  rw [List.all_eq_true]
  intro v hv
  unfold pick at hv
  obtain ⟨c, _, h2⟩ := List.mem_filterMap.1 hv
  exact List.all_eq_true.1 h v (List.mem_of_getElem? h2)
theorem pickC_len (r : Rw) (cols : List Int) : (pick r cols).length ≤ cols.length := List.length_filterMap_le _ _
/-- No value is null. -/
def nonul (k : Rw) : Bool := k.all fun v => decide (v.k ≠ 0)
/-- Two rows have the same key. -/
def eqK (on others : List Int) (l r : Rw) : Bool := nonul (pick l on) && decide (pick l on = pick r others)
theorem nonul_snoc (k : Rw) (v : Val) : nonul (k ++ [v]) = (nonul k && decide (v.k ≠ 0)) := by simp [nonul, List.all_append]
/-- The keys' texts are equal exactly if the keys are. -/
theorem eqK_text {on others : List Int} {l r : Rw} (hl : l.all okV = true) (hr : r.all okV = true) : (nonul (pick l on) && (nonul (pick r others) && decide (keyC (pick l on) = keyC (pick r others)))) = eqK on others l r := by
  unfold eqK
  cases h1 : nonul (pick l on)
  · rfl
  · rw [Bool.true_and, Bool.true_and]
    by_cases h2 : pick l on = pick r others
    · rw [← h2, h1]
      simp
    · have h3 : keyC (pick l on) ≠ keyC (pick r others) := fun e => h2 (keyC_inj (pickC_okV hl on) (pickC_okV hr others) e)
      simp [h2, h3]
/-- .. and value by value. -/
theorem eqK_steps {on others : List Int} {l r : Rw} (hl : l.all okV = true) (hr : r.all okV = true) (h1 : hasC l on = true) (h2 : hasC r others = true) {k : Nat} {x y : Int} {u v : Val} (hx : on[k]? = some x) (hy : others[k]? = some y) (hu : l[x.toNat]? = some u) (hv : r[y.toNat]? = some v) :
    eqK (on.take (k + 1)) (others.take (k + 1)) l r = (eqK (on.take k) (others.take k) l r && (decide (u.k ≠ 0) && (decide (v.k ≠ 0) && decide (cmpV u v = 0)))) := by
  unfold eqK
  rw [pickC_take h1 hx hu, pickC_take h2 hy hv, nonul_snoc]
  have ou := List.all_eq_true.1 hl u (List.mem_of_getElem? hu)
  have ov := List.all_eq_true.1 hr v (List.mem_of_getElem? hv)
  by_cases e : pick l (on.take k) = pick r (others.take k)
  · rw [e]
    by_cases e2 : u = v
    · subst e2
      have hc : cmpV u u = 0 := Tot.val.self u
      cases hn : nonul (pick r (others.take k)) <;> simp [hc]
    · have hc : cmpV u v ≠ 0 := fun h => e2 (cmpV_eq ou ov h)
      simp [e2, hc]
  · have : pick l (on.take k) ++ [u] ≠ pick r (others.take k) ++ [v] := fun h => e (List.append_inj_left' h rfl)
    simp [e, this]
/-- What an event is joined to. -/
def pairsOf (on others : List Int) (lo hi : Int) (x : Te) (r : List Te) : List Te := (r.filter fun y => btw (y.1 - x.1) lo hi && eqK on others x.2 y.2).map fun y => (max x.1 y.1, x.2 ++ y.2)
def pairsI (on others : List Int) (lo hi : Int) (l r : List Te) : List Te := l.flatMap fun x => pairsOf on others lo hi x r
def badP (c : Te) : Bool := decide (8 < c.2.length)
def limP (cs : List Te) : Bool := cs.any badP || decide (400 < cs.length)
def fitK (on others : List Int) : Bool := decide (on.length = others.length) && decide (on.length ≤ 8)
def insK (cols : List Int) (n : Int) : Bool := cols.all fun c => btw c 0 (n - 1)
def spanB (lo hi : Int) : Bool := btw lo (-1000000000) 1000000000 && btw hi (-1000000000) 1000000000 && decide (lo ≤ hi)
def evsB (l : List Te) : Bool := decide (l.length ≤ 100) && l.all okE
def hasE (l : List Te) (cols : List Int) : Bool := l.all fun x => hasC x.2 cols
def intE (on others : List Int) (lo hi : Int) (l r : List Te) : Int :=
  if evsB l && evsB r then (if fitK on others then (if insK on 8 && (insK others 8 && (spanB lo hi && (hasE l on && hasE r others))) then (if limP (pairsI on others lo hi l r) then 4 else 0) else 7) else 9) else 1
/-- What Intervals answers. -/
def intB (on others : List Int) (lo hi : Int) (l r : List Te) : List Te × Int := (if intE on others lo hi l r = 0 then srtG cmpE (pairsI on others lo hi l r) else [], intE on others lo hi l r)
theorem limP_app {a b : List Te} (h : limP a = true) : limP (a ++ b) = true := by
  unfold limP at *
  rw [Bool.or_eq_true] at *
  rcases h with h | h
  · left; rw [List.any_append, h]; rfl
  · right; simp only [decide_eq_true_eq] at *; rw [List.length_append]; omega
theorem pairsI_snoc (on others : List Int) (lo hi : Int) (l r : List Te) (x : Te) : pairsI on others lo hi (l ++ [x]) r = pairsI on others lo hi l r ++ pairsOf on others lo hi x r := by simp [pairsI]
end Go.Proofs.YtoapjidpfghnlaaGreatDoor
