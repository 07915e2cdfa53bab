/-
  The version join as plain data: the newest version, what Versions answers. No program in sight; no condition.
-/
import Derived.Test.YtoapjidpfghnlaaGreatDoorPrK
namespace Go.Proofs.YtoapjidpfghnlaaGreatDoor
open Go.RowKit
set_option linter.unusedVariables false

def nullV : Val := ⟨0, 0, ByteArray.empty⟩
def nullR (n : Nat) : Rw := List.replicate n nullV
/-- The newest version so far, with one more. -/
def newS (x : Te) (b : Option Te) (y : Te) : Option Te := if y.1 ≤ x.1 then (match b with
  | none => some y
  | some z => if 0 < cmpE y z then some y else some z) else b
def newF (x : Te) (l : List Te) : Option Te := l.foldl (newS x) none
def newN (on others : List Int) (x : Te) (r : List Te) : Option Te := newF x (r.filter fun y => eqK on others x.2 y.2)
def rowN (n : Nat) (b : Option Te) : Rw := (b.map fun y => y.2).getD (nullR n)
def verO (on others : List Int) (n : Nat) (x : Te) (r : List Te) : Te := (x.1, x.2 ++ rowN n (newN on others x r))
def wideB (r : List Te) (width : Int) : Bool := r.all fun y => decide ((y.2.length : Int) = width)
def overB (l : List Te) (n : Nat) : Bool := l.any fun x => decide (8 < x.2.length + n)
def verE (on others : List Int) (width : Int) (l r : List Te) : Int :=
  if evsB l && evsB r then (if fitK on others && wideB r width then (if btw width 0 8 && (insK on 8 && (insK others width && hasE l on)) then (if overB l width.toNat then 4 else 0) else 7) else 9) else 1
/-- What Versions answers. -/
def verB (on others : List Int) (width : Int) (l r : List Te) : List Te × Int := (if verE on others width l r = 0 then srtG cmpE (l.map fun x => verO on others width.toNat x r) else [], verE on others width l r)
theorem newF_snoc (x : Te) (l : List Te) (y : Te) : newF x (l ++ [y]) = newS x (newF x l) y := by unfold newF; rw [List.foldl_append]; rfl
theorem newF_mem {x : Te} {l : List Te} {z : Te} (h : newF x l = some z) : z ∈ l := by
  have : ∀ (l : List Te) (b : Option Te) (z : Te), l.foldl (newS x) b = some z → z ∈ l ∨ b = some z := by
    intro l
    induction l with
    | nil => intro b z h; exact .inr h
    | cons y l ih =>
      intro b z h
      rw [List.foldl_cons] at h
      rcases ih _ _ h with h1 | h1
      · exact .inl (List.mem_cons_of_mem _ h1)
      · unfold newS at h1
        split at h1
        · split at h1
          · injection h1 with h1; exact .inl (by simp [h1])
          · split at h1
            · injection h1 with h1; exact .inl (by simp [h1])
            · exact .inr h1
        · exact .inr h1
  rcases this l none z h with h1 | h1
  · exact h1
  · cases h1
theorem newN_mem {on others : List Int} {x : Te} {r : List Te} {z : Te} (h : newN on others x r = some z) : z ∈ r := (List.mem_filter.1 (newF_mem h)).1
/-- Those that have the key, of an event whose key has no null. -/
theorem dE_part {on others : List Int} {x : Rw} {lr : List Ev} (hx : okR x = true) (hr : ∀ y ∈ lr, okR y.r = true) (hn : nonul (pick x on) = true) :
    (dE lr).filter (fun y => eqK on others x y.2) = dE (lr.filter (mtE others (ofS on x))) := by
  induction lr with
  | nil => rfl
  | cons y lr ih =>
    have ih := ih fun z hz => hr z (List.mem_cons_of_mem _ hz)
    have hm : mtE others (ofS on x) y = eqK on others x y.r := ofS_eq (okR_vals hx) (okR_vals (hr y List.mem_cons_self)) hn
    have h1 : dE (y :: lr) = (y.t, y.r) :: dE lr := rfl
    rw [h1, List.filter_cons, List.filter_cons, hm, ih]
    cases h2 : eqK on others x y.r
    · simp
    · simp [dE]
theorem newN_part {on others : List Int} {x : Te} {lr : List Ev} (hx : okR x.2 = true) (hr : ∀ y ∈ lr, okR y.r = true) (hn : nonul (pick x.2 on) = true) : newN on others x (dE lr) = newF x (dE (lr.filter (mtE others (ofS on x.2)))) := by
  unfold newN
  rw [dE_part hx hr hn]
theorem newN_null {on others : List Int} {x : Te} {r : List Te} (hn : nonul (pick x.2 on) = false) : newN on others x r = none := by
  unfold newN
  have e : (r.filter fun y => eqK on others x.2 y.2) = [] := List.filter_eq_nil_iff.2 fun y _ => by unfold eqK; rw [hn]; simp
  rw [e]
  rfl
theorem newN_snoc (on others : List Int) (x : Te) (r : List Te) (y : Te) : newN on others x (r ++ [y]) = if eqK on others x.2 y.2 then newS x (newN on others x r) y else newN on others x r := by
  unfold newN
  rw [List.filter_append]
  by_cases h : eqK on others x.2 y.2 = true
  · have e : ([y].filter fun y => eqK on others x.2 y.2) = [y] := by simp [h]
    rw [if_pos h, e, newF_snoc]
  · have e : ([y].filter fun y => eqK on others x.2 y.2) = [] := by simp [h]
    rw [if_neg h, e, List.append_nil]
theorem nullR_len (n : Nat) : (nullR n).length = n := by simp [nullR]
theorem nullR_okV (n : Nat) : (nullR n).all okV = true := by
  rw [List.all_eq_true]
  intro v hv
  obtain ⟨_, rfl⟩ := List.mem_replicate.1 (by exact hv : v ∈ List.replicate n nullV)
  decide
theorem wideB_at {r : List Te} {width : Int} (h : wideB r width = true) {y : Te} (hy : y ∈ r) : (y.2.length : Int) = width := by
  have := List.all_eq_true.1 h y hy
  simpa using this
/-- A row that is as wide as the columns ask has them all. -/
theorem hasC_wide {r : Rw} {others : List Int} {width : Int} (h : (r.length : Int) = width) (hi : insK others width = true) : hasC r others = true := by
  unfold insK at hi
  unfold hasC
  rw [h]
  exact hi
theorem rowN_len {on others : List Int} {n : Nat} {x : Te} {r : List Te} (h : ∀ y ∈ r, y.2.length = n) : (rowN n (newN on others x r)).length = n := by
  unfold rowN
  cases hz : newN on others x r with
  | none => simp [nullR_len]
  | some z => simpa using h z (newN_mem hz)
theorem ver_okR {on others : List Int} {n : Nat} {x : Te} {r : List Te} (hx : okR x.2 = true) (hr : ∀ y ∈ r, okR y.2 = true) (h : ∀ y ∈ r, y.2.length = n) (ho : x.2.length + n ≤ 8) : okR (verO on others n x r).2 = true := by
  unfold verO okR
  rw [Bool.and_eq_true, decide_eq_true_eq]
  refine ⟨?_, by rw [List.length_append, rowN_len h]; exact ho⟩
  rw [List.all_append, okR_vals hx, Bool.true_and]
  unfold rowN
  cases hz : newN on others x r with
  | none => exact nullR_okV n
  | some z => exact okR_vals (hr z (newN_mem hz))
end Go.Proofs.YtoapjidpfghnlaaGreatDoor
