/-
  The version join as plain data: the newest version, what Versions answers. No program in sight; no condition.
  The version join told step by step, as plain data: what the calls answer, and what is kept between them. No program in sight; no condition.
-/
import Derived.Test.YtoapjidpfghnlaaGreatDoorPrK
namespace Go.Proofs.YtoapjidpfghnlaaGreatDoor

section
open Go.RowKit
set_option linter.unusedVariables false

def nullV : Val := ⟨0, 0, ByteArray.empty⟩
def nullR (n : Nat) : Rw := List.replicate n nullV
/-- The newest version so far, with one more. -/
def newS (x : Te) (b : Option Te) (y : Te) : Option Te := if y.1 ≤ x.1 then (match b with
  | none => some y
  | some z => if 0 < cmpE y z then some y else some z) else b
def newF (x : Te) (l : List Te) : Option Te := l.foldl (newS x) none
def newN (on others : List Int) (x : Te) (r : List Te) : Option Te := newF x (r.filter fun y => eqK on others x.2 y.2)
def rowN (n : Nat) (b : Option Te) : Rw := (b.map fun y => y.2).getD (nullR n)
def verO (on others : List Int) (n : Nat) (x : Te) (r : List Te) : Te := (x.1, x.2 ++ rowN n (newN on others x r))
def wideB (r : List Te) (width : Int) : Bool := r.all fun y => decide ((y.2.length : Int) = width)
def overB (l : List Te) (n : Nat) : Bool := l.any fun x => decide (8 < x.2.length + n)
def verE (on others : List Int) (width : Int) (l r : List Te) : Int :=
  if evsB l && evsB r then (if fitK on others && wideB r width then (if btw width 0 8 && (insK on 8 && (insK others width && hasE l on)) then (if overB l width.toNat then 4 else 0) else 7) else 9) else 1
/-- What Versions answers. -/
def verB (on others : List Int) (width : Int) (l r : List Te) : List Te × Int := (if verE on others width l r = 0 then srtG cmpE (l.map fun x => verO on others width.toNat x r) else [], verE on others width l r)
theorem newF_snoc (x : Te) (l : List Te) (y : Te) : newF x (l ++ [y]) = newS x (newF x l) y := by unfold newF; rw [List.foldl_append]; rfl
theorem newF_mem {x : Te} {l : List Te} {z : Te} (h : newF x l = some z) : z ∈ l := by
  have : ∀ (l : List Te) (b : Option Te) (z : Te), l.foldl (newS x) b = some z → z ∈ l ∨ b = some z := by
    intro l
    induction l with
    | nil => intro b z h; exact .inr h
    | cons y l ih =>
      intro b z h
      rw [List.foldl_cons] at h
      rcases ih _ _ h with h1 | h1
      · exact .inl (List.mem_cons_of_mem _ h1)
      · unfold newS at h1
        split at h1
        · split at h1
          · injection h1 with h1; exact .inl (by simp [h1])
          · split at h1
            · injection h1 with h1; exact .inl (by simp [h1])
            · exact .inr h1
        · exact .inr h1
  rcases this l none z h with h1 | h1
  · exact h1
  · cases h1
theorem newN_mem {on others : List Int} {x : Te} {r : List Te} {z : Te} (h : newN on others x r = some z) : z ∈ r := (List.mem_filter.1 (newF_mem h)).1
/-- Those that have the key, of an event whose key has no null. -/
theorem dE_part {on others : List Int} {x : Rw} {lr : List Ev} (hx : okR x = true) (hr : ∀ y ∈ lr, okR y.r = true) (hn : nonul (pick x on) = true) :
    (dE lr).filter (fun y => eqK on others x y.2) = dE (lr.filter (mtE others (ofS on x))) := by
  induction lr with
  | nil => rfl
  | cons y lr ih =>
    have ih := ih fun z hz => hr z (List.mem_cons_of_mem _ hz)
    have hm : mtE others (ofS on x) y = eqK on others x y.r := ofS_eq (okR_vals hx) (okR_vals (hr y List.mem_cons_self)) hn
    have h1 : dE (y :: lr) = (y.t, y.r) :: dE lr := rfl
    rw [h1, List.filter_cons, List.filter_cons, hm, ih]
    cases h2 : eqK on others x y.r
    · simp
    · simp [dE]
theorem newN_part {on others : List Int} {x : Te} {lr : List Ev} (hx : okR x.2 = true) (hr : ∀ y ∈ lr, okR y.r = true) (hn : nonul (pick x.2 on) = true) : newN on others x (dE lr) = newF x (dE (lr.filter (mtE others (ofS on x.2)))) := by
  unfold newN
  rw [dE_part hx hr hn]
theorem newN_null {on others : List Int} {x : Te} {r : List Te} (hn : nonul (pick x.2 on) = false) : newN on others x r = none := by
  unfold newN
  have e : (r.filter fun y => eqK on others x.2 y.2) = [] := List.filter_eq_nil_iff.2 fun y _ => by unfold eqK; rw [hn]; simp
  rw [e]
  rfl
theorem newN_snoc (on others : List Int) (x : Te) (r : List Te) (y : Te) : newN on others x (r ++ [y]) = if eqK on others x.2 y.2 then newS x (newN on others x r) y else newN on others x r := by
  unfold newN
  rw [List.filter_append]
  by_cases h : eqK on others x.2 y.2 = true
  · have e : ([y].filter fun y => eqK on others x.2 y.2) = [y] := by simp [h]
    rw [if_pos h, e, newF_snoc]
  · have e : ([y].filter fun y => eqK on others x.2 y.2) = [] := by simp [h]
    rw [if_neg h, e, List.append_nil]
theorem nullR_len (n : Nat) : (nullR n).length = n := by simp [nullR]
theorem nullR_okV (n : Nat) : (nullR n).all okV = true := by
  rw [List.all_eq_true]
  intro v hv
  obtain ⟨_, rfl⟩ := List.mem_replicate.1 (by exact hv : v ∈ List.replicate n nullV)
  decide
theorem wideB_at {r : List Te} {width : Int} (h : wideB r width = true) {y : Te} (hy : y ∈ r) : (y.2.length : Int) = width := by
  have := List.all_eq_true.1 h y hy
  simpa using this
/-- A row that is as wide as the columns ask has them all. -/
theorem hasC_wide {r : Rw} {others : List Int} {width : Int} (h : (r.length : Int) = width) (hi : insK others width = true) : hasC r others = true := by
  unfold insK at hi
  unfold hasC
  rw [h]
  exact hi
theorem rowN_len {on others : List Int} {n : Nat} {x : Te} {r : List Te} (h : ∀ y ∈ r, y.2.length = n) : (rowN n (newN on others x r)).length = n := by
  unfold rowN
  cases hz : newN on others x r with
  | none => simp [nullR_len]
  | some z => simpa using h z (newN_mem hz)
theorem ver_okR {on others : List Int} {n : Nat} {x : Te} {r : List Te} (hx : okR x.2 = true) (hr : ∀ y ∈ r, okR y.2 = true) (h : ∀ y ∈ r, y.2.length = n) (ho : x.2.length + n ≤ 8) : okR (verO on others n x r).2 = true := by
  unfold verO okR
  rw [Bool.and_eq_true, decide_eq_true_eq]
  refine ⟨?_, by rw [List.length_append, rowN_len h]; exact ho⟩
  rw [List.all_append, okR_vals hx, Bool.true_and]
  unfold rowN
  cases hz : newN on others x r with
  | none => exact nullR_okV n
  | some z => exact okR_vals (hr z (newN_mem hz))
end

section
open Go.RowKit
set_option linter.unusedVariables false

/-- What NewVersioner answers. -/
def newE (on others : List Int) (width : Int) : Int := if fitK on others then (if btw width 0 8 && (insK on 8 && insK others width) then 0 else 7) else 9
/-- What Left answers, where so many are kept. -/
def lftE (on : List Int) (wd : Nat) (mk : Int) (n : Nat) (x : Te) : Int := if okE x then (if hasC x.2 on then (if x.1 < mk then 12 else (if decide (8 < x.2.length + wd) || decide (400 ≤ n) then 4 else 0)) else 7) else 1
/-- What Right answers. -/
def rgtE (wd : Nat) (mk : Int) (n : Nat) (x : Te) : Int := if okE x then (if x.2.length = wd then (if x.1 < mk then 12 else (if 400 ≤ n then 4 else 0)) else 9) else 1
/-- What Mark answers. -/
def mrkE (mk m : Int) : Int := if btw m mk 1000000000001 then 0 else 7
theorem srtG_perm {l b : List Te} (hp : l.Perm b) (hok : ∀ x ∈ b, okR x.2 = true) : srtG cmpE l = srtG cmpE b := by
  obtain ⟨p1, p2⟩ := srtG_all Tot.te l
  exact srtG_eq Tot.te (p1.trans hp) (fun x hx y hy h => cmpE_eq (hok x hx) (hok y hy) h) p2
theorem srtG_mem {l : List Te} {x : Te} : x ∈ srtG cmpE l ↔ x ∈ l := (srtG_all Tot.te l).1.mem_iff
theorem srtG_filter (p : Te → Bool) {l : List Te} (hok : ∀ x ∈ l, okR x.2 = true) : (srtG cmpE l).filter p = srtG cmpE (l.filter p) := by
  obtain ⟨p1, p2⟩ := srtG_all Tot.te l
  exact srtG_eq Tot.te (p1.filter p) (fun x hx y hy h => cmpE_eq (hok x (List.mem_filter.1 hx).1) (hok y (List.mem_filter.1 hy).1) h) (p2.filter p)
theorem srtG_app (a b : List Te) : srtG cmpE (a ++ b) = b.foldl (fun s x => stepG cmpE s x) (srtG cmpE a) := by
  induction b generalizing a with
  | nil => simp
  | cons x b ih =>
    rw [List.foldl_cons, ← srtG_snoc, ← ih, List.append_assoc]
    rfl
theorem newN_late {on others : List Int} {x y : Te} (r : List Te) (h : x.1 < y.1) : newN on others x (r ++ [y]) = newN on others x r := by
  rw [newN_snoc]
  split
  · unfold newS
    rw [if_neg (by omega)]
  · rfl
theorem verO_late {on others : List Int} {wd : Nat} {x y : Te} (r : List Te) (h : x.1 < y.1) : verO on others wd x (r ++ [y]) = verO on others wd x r := by unfold verO; rw [newN_late r h]
def belowM (m : Int) (x : Te) : Bool := decide (x.1 < m)
/-- What a mark hands over. -/
def outV (on others : List Int) (wd : Nat) (m : Int) (l r : List Te) : List Te := srtG cmpE ((l.filter (belowM m)).map fun x => verO on others wd x r)
def restV (m : Int) (l : List Te) : List Te := l.filter fun x => !belowM m x
/-- A versioner's setup is right. -/
structure VtK (on others : List Int) (wd : Nat) : Prop where
  fit : fitK on others = true
  w8 : wd ≤ 8
  on8 : insK on 8 = true
  ot : insK others (wd : Int) = true
theorem newE_ok {on others : List Int} {width : Int} (h : newE on others width = 0) : ∃ wd : Nat, width = (wd : Int) ∧ VtK on others wd := by
  unfold newE at h
  split at h
  · split at h
    · rename_i h1 h2
      simp only [Bool.and_eq_true] at h2
      obtain ⟨h3, h4, h5⟩ := h2
      have h6 := btw_iff.1 h3
      obtain ⟨wd, rfl⟩ : ∃ wd : Nat, width = (wd : Int) := ⟨width.toNat, by omega⟩
      exact ⟨wd, rfl, h1, by omega, h4, h5⟩
    · cases h
  · cases h
/-- What is kept between the calls. -/
structure VtI (on others : List Int) (wd : Nat) (mk : Int) (L R l g : List Te) : Prop where
  some_ : ∃ em : List Te, l.Perm (em ++ L) ∧ (∀ x ∈ em, x.1 < mk) ∧ g = srtG cmpE (em.map fun x => verO on others wd x R)
  okl : ∀ x ∈ l, okE x = true ∧ hasC x.2 on = true ∧ x.2.length + wd ≤ 8
  okr : ∀ y ∈ R, okE y = true ∧ y.2.length = wd
theorem VtI.okL {on others : List Int} {wd : Nat} {mk : Int} {L R l g : List Te} (h : VtI on others wd mk L R l g) : ∀ x ∈ L, okE x = true ∧ hasC x.2 on = true ∧ x.2.length + wd ≤ 8 := by
  obtain ⟨em, hp, _, _⟩ := h.some_
  exact fun x hx => h.okl x (hp.mem_iff.2 (List.mem_append_right _ hx))
theorem VtI.nil (on others : List Int) (wd : Nat) (mk : Int) : VtI on others wd mk [] [] [] [] := ⟨⟨[], List.Perm.refl _, by simp, rfl⟩, by simp, by simp⟩
theorem lftE_ok {on : List Int} {wd : Nat} {mk : Int} {n : Nat} {x : Te} (h : lftE on wd mk n x = 0) : okE x = true ∧ hasC x.2 on = true ∧ ¬ x.1 < mk ∧ x.2.length + wd ≤ 8 ∧ n < 400 := by
  unfold lftE at h
  split at h
  · split at h
    · split at h
      · cases h
      · split at h
        · cases h
        · rename_i h1 h2 h3 h4
          simp only [Bool.or_eq_true, decide_eq_true_eq, not_or] at h4
          exact ⟨h1, h2, h3, by omega, by omega⟩
    · cases h
  · cases h
theorem rgtE_ok {wd : Nat} {mk : Int} {n : Nat} {x : Te} (h : rgtE wd mk n x = 0) : okE x = true ∧ x.2.length = wd ∧ ¬ x.1 < mk ∧ n < 400 := by
  unfold rgtE at h
  split at h
  · split at h
    · split at h
      · cases h
      · split at h
        · cases h
        · rename_i h1 h2 h3 h4
          exact ⟨h1, h2, h3, by omega⟩
    · cases h
  · cases h
section
variable {on others : List Int} {wd : Nat} {mk : Int} {L R l g : List Te}
theorem VtI.left (h : VtI on others wd mk L R l g) {x : Te} {n : Nat} (hx : lftE on wd mk n x = 0) : VtI on others wd mk (L ++ [x]) R (l ++ [x]) g := by
  obtain ⟨em, hp, h1, h2⟩ := h.some_
  obtain ⟨e1, e2, _, e4, _⟩ := lftE_ok hx
  refine ⟨⟨em, ?_, h1, h2⟩, fun y hy => ?_, h.okr⟩
  · rw [← List.append_assoc]
    exact hp.append_right [x]
  · rcases List.mem_append.1 hy with hy | hy
    · exact h.okl y hy
    · obtain rfl : y = x := by simpa using hy
      exact ⟨e1, e2, e4⟩
theorem VtI.right (h : VtI on others wd mk L R l g) {y : Te} {n : Nat} (hy : rgtE wd mk n y = 0) : VtI on others wd mk L (R ++ [y]) l g := by
  obtain ⟨em, hp, h1, h2⟩ := h.some_
  obtain ⟨e1, e2, e3, _⟩ := rgtE_ok hy
  refine ⟨⟨em, hp, h1, ?_⟩, h.okl, fun z hz => ?_⟩
  · rw [h2]
    congr 1
    refine List.map_congr_left fun x hx => ?_
    rw [verO_late R (by have := h1 x hx; omega)]
  · rcases List.mem_append.1 hz with hz | hz
    · exact h.okr z hz
    · obtain rfl : z = y := by simpa using hz
      exact ⟨e1, e2⟩
theorem VtI.ver (h : VtI on others wd mk L R l g) {x : Te} (hx : x ∈ l) : okR (verO on others wd x R).2 = true := by
  obtain ⟨a1, a2, a3⟩ := h.okl x hx
  exact ver_okR (okE_row a1) (fun y hy => okE_row (h.okr y hy).1) (fun y hy => (h.okr y hy).2) a3
theorem VtI.mark (h : VtI on others wd mk L R l g) {m : Int} (hm : mrkE mk m = 0) : VtI on others wd m (restV m L) R l ((outV on others wd m L R).foldl (fun s x => stepG cmpE s x) g) := by
  have hle : mk ≤ m := by
    unfold mrkE at hm
    split at hm
    · rename_i hb
      exact (btw_iff.1 hb).1
    · cases hm
  have hv := fun x hx => h.ver (x := x) hx
  obtain ⟨em, hp, h1, h2⟩ := h.some_
  refine ⟨⟨em ++ L.filter (belowM m), ?_, fun x hx => ?_, ?_⟩, h.okl, h.okr⟩
  · refine hp.trans ?_
    rw [List.append_assoc]
    refine List.Perm.append_left em ?_
    unfold restV
    exact (List.filter_append_perm (belowM m) L).symm
  · rcases List.mem_append.1 hx with hx | hx
    · have := h1 x hx; omega
    · have := (List.mem_filter.1 hx).2
      unfold belowM at this
      simpa using this
  · rw [h2, ← srtG_app, List.map_append]
    refine srtG_perm (List.Perm.append_left _ ?_) fun x hx => ?_
    · unfold outV
      exact (srtG_all Tot.te _).1
    · rw [← List.map_append] at hx
      obtain ⟨z, hz, rfl⟩ := List.mem_map.1 hx
      refine hv z (hp.mem_iff.2 ?_)
      rcases List.mem_append.1 hz with hz | hz
      · exact List.mem_append_left _ hz
      · exact List.mem_append_right _ (List.mem_filter.1 hz).1
theorem VtI.last (h : VtI on others wd mk L R l g) (hK : VtK on others wd) (hL : L = []) (hl : l.length ≤ 100) (hR : R.length ≤ 100) : verB on others (wd : Int) l R = (g, 0) := by
  obtain ⟨em, hp, h1, h2⟩ := h.some_
  subst hL
  rw [List.append_nil] at hp
  have he : verE on others (wd : Int) l R = 0 := by
    unfold verE
    have g1 : evsB l = true := by unfold evsB; rw [Bool.and_eq_true, decide_eq_true_eq]; exact ⟨hl, List.all_eq_true.2 fun x hx => (h.okl x hx).1⟩
    have g2 : evsB R = true := by unfold evsB; rw [Bool.and_eq_true, decide_eq_true_eq]; exact ⟨hR, List.all_eq_true.2 fun x hx => (h.okr x hx).1⟩
    have g3 : wideB R (wd : Int) = true := by unfold wideB; exact List.all_eq_true.2 fun y hy => decide_eq_true (by have := (h.okr y hy).2; omega)
    have g4 : btw (wd : Int) 0 8 = true := btw_iff.2 (by have := hK.w8; omega)
    have g5 : hasE l on = true := by unfold hasE; exact List.all_eq_true.2 fun x hx => (h.okl x hx).2.1
    have g6 : overB l wd = false := by
      unfold overB
      rw [List.any_eq_false]
      intro x hx
      have := (h.okl x hx).2.2
      simp
      omega
    rw [g1, g2, hK.fit, g3, g4, hK.on8, hK.ot, g5, show ((wd : Int)).toNat = wd from by omega, g6]
    rfl
  unfold verB
  rw [he, if_pos rfl, h2, show ((wd : Int)).toNat = wd from by omega]
  refine Prod.ext ?_ rfl
  exact srtG_perm (hp.map _) fun x hx => by
    obtain ⟨z, hz, rfl⟩ := List.mem_map.1 hx
    exact h.ver (hp.mem_iff.2 hz)
theorem VtI.empty (h : VtI on others wd mk L R l g) : restV 1000000000001 L = [] := by
  unfold restV
  rw [List.filter_eq_nil_iff]
  intro x hx
  have := okE_time (h.okL x hx).1
  unfold belowM
  simp
  omega
end
end

end Go.Proofs.YtoapjidpfghnlaaGreatDoor
