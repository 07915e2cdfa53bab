/-
  Plain laws of Of, Project and Rows.
-/
import Derived.Test.YtoapjidpfghnlaaGreatDoorNetM
import Derived.Test.YtoapjidpfghnlaaGreatDoorMdI
import Derived.Test.YtoapjidpfghnlaaGreatDoorPjA
import Derived.Test.YtoapjidpfghnlaaGreatDoorBgT4
import Derived.Test.YtoapjidpfghnlaaGreatDoorBgT5
namespace Go.Proofs.YtoapjidpfghnlaaGreatDoor
open Go.RowKit
set_option linter.unusedVariables false

theorem aft0 {xs : Bg} (h : ∀ x ∈ xs, okR x.1 = true) (k : Nat) : Net (xs.take k) (aftB [] (xs.take k)) := by
  have := aft_ok (b := []) (l := xs.take k) (fun x hx => h x (List.mem_of_mem_take hx)) ⟨nofun, List.Pairwise.nil⟩ nofun
  simpa using this
theorem aft0_all {xs : Bg} (h : ∀ x ∈ xs, okR x.1 = true) : Net xs (aftB [] xs) := by
  have := aft0 h xs.length
  rwa [List.take_length] at this
theorem aft0_len {xs : Bg} (h : ∀ x ∈ xs, okR x.1 = true) : ∀ k, k ≤ xs.length → (aftB [] (xs.take k)).length ≤ k
  | 0, _ => by simp [aftB]
  | k + 1, hk => by
    have ih := aft0_len h k (by omega)
    have h1 : xs[k]? = some (xs[k]'(by omega)) := List.getElem?_eq_getElem (by omega)
    rw [take_snoc' h1, aft_snoc]
    have := put_len (aft0 h k).asc (xs[k]'(by omega)).1 (xs[k]'(by omega)).2
    omega
theorem aft0_num {xs : Bg} (h : ∀ x ∈ xs, okR x.1 = true) (hn : ∀ x ∈ xs, -1000000 ≤ x.2 ∧ x.2 ≤ 1000000) (hl : xs.length ≤ 2000) (k : Nat) : ∀ x ∈ aftB [] (xs.take k), -4000000000000 ≤ x.2 ∧ x.2 ≤ 4000000000000 := by
  intro x hx
  have hnt := aft0 h k
  have h1 := sum_abs (xs := xs.take k) (fun z hz => hn z (List.mem_of_mem_take hz)) x.1
  rw [← hnt.sum, look_in (asc_apart hnt.asc) hx] at h1
  have h2 : (xs.take k).length ≤ 2000 := by rw [List.length_take]; omega
  omega
/-- Rows, each once. -/
def onesX (rs : List Rw) : Bg := rs.map fun r => (r, 1)
theorem ones_at {rs : List Rw} {k : Nat} {r : Rw} (h : rs[k]? = some r) : (onesX rs)[k]? = some (r, 1) := by unfold onesX; rw [List.getElem?_map, h]; rfl
theorem ones_len (rs : List Rw) : (onesX rs).length = rs.length := by simp [onesX]
theorem ones_take (rs : List Rw) (k : Nat) : (onesX rs).take k = onesX (rs.take k) := by unfold onesX; rw [List.map_take]
theorem ones_okR {rs : List Rw} (h : rs.all okR = true) : ∀ x ∈ onesX rs, okR x.1 = true := by
  intro x hx
  obtain ⟨r, hr, rfl⟩ := List.mem_map.1 hx
  exact List.all_eq_true.1 h r hr
theorem ones_sum (rs : List Rw) (r : Rw) : 0 ≤ sumG (onesX rs) r ∧ sumG (onesX rs) r ≤ rs.length := by
  induction rs with
  | nil => simp [onesX, sumG]
  | cons x rs ih =>
    unfold onesX at ih ⊢
    rw [List.map_cons, sumG, List.length_cons]
    split <;> omega
theorem ones_ok {rs : List Rw} (h : rs.all okR = true) (hl : rs.length ≤ 400) : okBag (aftB [] (onesX rs)) = true := by
  have hn := aft0_all (ones_okR h)
  refine okBag_of hn.asc (fun x hx => ?_) ?_
  · have h1 := hn.sum x.1
    rw [look_in (asc_apart hn.asc) hx] at h1
    have h2 := ones_sum rs x.1
    have h3 := hn.ne x hx
    unfold numB
    simp
    omega
  · have := aft0_len (ones_okR h) (onesX rs).length (Nat.le_refl _)
    rw [List.take_length, ones_len] at this
    omega
/-- What Of tells. -/
def ofB (rs : List Rw) : Bg × Int := if decide (rs.length ≤ 400) && rs.all okR then (aftB [] (onesX rs), 0) else ([], 1)
/-- Each row as often as it is there. -/
def repX (d : Bg) : List Rw := d.flatMap fun x => List.replicate x.2.toNat x.1
theorem rep_snoc (d : Bg) (x : Rw × Int) : repX (d ++ [x]) = repX d ++ List.replicate x.2.toNat x.1 := by simp [repX]
theorem rep_sum {d : Bg} (h : ∀ x ∈ d, 0 ≤ x.2) (r : Rw) : sumG (onesX (repX d)) r = sumG d r := by
  induction d with
  | nil => rfl
  | cons x d ih =>
    have e : onesX (repX (x :: d)) = onesX (List.replicate x.2.toNat x.1) ++ onesX (repX d) := by
      unfold repX onesX
      rw [List.flatMap_cons, List.map_append]
    rw [e, sumG_app, ih fun y hy => h y (List.mem_cons_of_mem _ hy), sumG]
    congr 1
    have key : ∀ n : Nat, sumG (onesX (List.replicate n x.1)) r = if x.1 = r then (n : Int) else 0 := by
      intro n
      induction n with
      | zero => simp [onesX, sumG]
      | succ n ih =>
        unfold onesX at ih ⊢
        rw [List.replicate_succ, List.map_cons, sumG, ih]
        split <;> omega
    rw [key]
    have := h x (by simp)
    split <;> omega
theorem rep_len {d : Bg} (h : ∀ x ∈ d, 0 ≤ x.2) : ((repX d).length : Int) = tot d := by
  induction d with
  | nil => rfl
  | cons x d ih =>
    have h1 := ih fun y hy => h y (List.mem_cons_of_mem _ hy)
    have h2 := h x (by simp)
    unfold repX at h1 ⊢
    rw [List.flatMap_cons, List.length_append, List.length_replicate]
    have h3 : tot (x :: d) = x.2 + tot d := rfl
    omega
theorem rep_ok {d : Bg} (h : ∀ x ∈ d, okR x.1 = true) : (repX d).all okR = true := by
  rw [List.all_eq_true]
  intro r hr
  obtain ⟨x, hx, h2⟩ := List.mem_flatMap.1 hr
  rw [(List.mem_replicate.1 h2).2]
  exact h x hx
/-- What Rows tells. -/
def rowsB (d : Bg) : List Rw × Int := if okBag d then (if wholeB d then (if tot d ≤ 400 then (repX d, 0) else ([], 4)) else ([], 10)) else ([], 1)
theorem of_rows {d : Bg} {rs : List Rw} (h : rowsB d = (rs, 0)) : ofB rs = (d, 0) := by
  unfold rowsB at h
  cases ho : okBag d
  · rw [ho] at h; cases h
  cases hw : wholeB d
  · rw [ho, hw] at h; cases h
  rw [ho, hw] at h
  simp only [if_true] at h
  by_cases ht : tot d ≤ 400
  · rw [if_pos ht] at h
    injection h with h
    subst h
    have hp : ∀ x ∈ d, 0 ≤ x.2 := by
      unfold wholeB posB at hw
      rw [Bool.and_eq_true, List.all_eq_true] at hw
      exact fun x hx => by simpa using hw.2 x hx
    have hl := rep_len hp
    have hr := rep_ok fun x hx => (okBag_asc ho).1.ok x hx
    unfold ofB
    rw [hr, decide_eq_true (by omega)]
    have he : aftB [] (onesX (repX d)) = d := (aft0_all (ones_okR hr)).same (Net.one ho) fun r => rep_sum hp r
    rw [he]
    rfl
  · rw [if_neg ht] at h
    cases h
/-! Project. -/
def worstS (cols : List Int) (w : Int) (x : Rw × Int) : Int := if prE x.1 cols = 7 ∨ (prE x.1 cols ≠ 0 ∧ w = 0) then prE x.1 cols else w
/-- The worst error so far. -/
def worstF (cols : List Int) (d : Bg) : Int := d.foldl (worstS cols) 0
theorem worst_snoc (cols : List Int) (d : Bg) (x : Rw × Int) : worstF cols (d ++ [x]) = worstS cols (worstF cols d) x := by simp [worstF]
theorem prE_ok {r : Rw} (h : okR r = true) (cols : List Int) : prE r cols = if okC r.length cols then (if cols.length ≤ 8 then 0 else 4) else 7 := by
  unfold prE
  rw [h]
  rfl
theorem worst_spec {d : Bg} (h : ∀ x ∈ d, okR x.1 = true) (cols : List Int) : worstF cols d = if (d.any fun x => !okC x.1.length cols) = true then 7 else if 8 < cols.length ∧ d ≠ [] then 4 else 0 := by
  have gen : ∀ (d : Bg) (w : Int), (∀ x ∈ d, okR x.1 = true) → (w = 0 ∨ w = 4 ∨ w = 7) → d.foldl (worstS cols) w = if w = 7 ∨ (d.any fun x => !okC x.1.length cols) = true then 7 else if w = 4 ∨ (8 < cols.length ∧ d ≠ []) then 4 else 0 := by
    intro d
    induction d with
    | nil =>
      intro w _ hw
      rcases hw with rfl | rfl | rfl <;> simp
    | cons x d ih =>
      intro w hd hw
      have hx := prE_ok (hd x (by simp)) cols
      have hd' := fun y hy => hd y (List.mem_cons_of_mem x hy)
      rw [List.foldl_cons, List.any_cons]
      obtain ⟨bb, hbb⟩ : ∃ bb, (d.any fun x => !okC x.1.length cols) = bb := ⟨_, rfl⟩
      rw [hbb] at ih ⊢
      obtain ⟨cc, hc⟩ : ∃ cc, okC x.1.length cols = cc := ⟨_, rfl⟩
      rw [hc]
      cases cc
      · rw [hc] at hx
        have e : worstS cols w x = 7 := by
          unfold worstS
          rw [hx]
          simp
        rw [e, ih 7 hd' (by simp)]
        simp
      · rw [hc] at hx
        simp only [if_true] at hx
        by_cases h8 : cols.length ≤ 8
        · rw [if_pos h8] at hx
          have e : worstS cols w x = w := by
            unfold worstS
            rw [hx]
            simp
          rw [e, ih w hd' hw]
          have n8 : ¬ 8 < cols.length := by omega
          simp [n8]
        · rw [if_neg h8] at hx
          have p8 : 8 < cols.length := by omega
          rcases hw with rfl | rfl | rfl
          · have e : worstS cols 0 x = 4 := by unfold worstS; rw [hx]; simp
            rw [e, ih 4 hd' (by simp)]
            simp [p8]
          · have e : worstS cols 4 x = 4 := by unfold worstS; rw [hx]; simp
            rw [e, ih 4 hd' (by simp)]
            simp
          · have e : worstS cols 7 x = 7 := by unfold worstS; rw [hx]; simp
            rw [e, ih 7 hd' (by simp)]
            simp
  have := gen d 0 h (by simp)
  unfold worstF
  rw [this]
  by_cases hb : (d.any fun x => !okC x.1.length cols) = true
  · rw [if_pos (.inr hb), if_pos hb]
  · rw [if_neg (fun h => h.elim (fun h => absurd h (by decide)) hb), if_neg hb]
    simp
def pjX (d : Bg) (cols : List Int) : Bg := d.map fun x => (pick x.1 cols, x.2)
/-- What Project tells. -/
def pjB (d : Bg) (cols : List Int) : Bg × Int :=
  if okBag d then (if (cols.any (fun c => !btw c 0 7) || d.any fun x => !okC x.1.length cols) = true then ([], 7) else if cols.length ≤ 8 then toldB (aftB [] (pjX d cols)) else ([], 4)) else ([], 1)
theorem pick_ok {r : Rw} {cols : List Int} (h : okR r = true) (hl : cols.length ≤ 8) : okR (pick r cols) = true := by
  unfold okR at h ⊢
  rw [Bool.and_eq_true, List.all_eq_true] at h
  rw [Bool.and_eq_true, List.all_eq_true, decide_eq_true_eq]
  refine ⟨fun v hv => ?_, ?_⟩
  · unfold pick at hv
    obtain ⟨c, _, h2⟩ := List.mem_filterMap.1 hv
    exact h.1 v (List.mem_of_getElem? h2)
  · unfold pick
    exact Nat.le_trans (List.length_filterMap_le _ _) hl
theorem prL_ok {r : Rw} {cols : List Int} (h : okR r = true) : okR (prL r cols) = true := by
  unfold prL
  by_cases h0 : prE r cols = 0
  · rw [if_pos h0]
    refine pick_ok h ?_
    rw [prE_ok h] at h0
    split at h0
    · split at h0
      · assumption
      · cases h0
    · cases h0
  · rw [if_neg h0]; rfl
/-- What is gathered while rows are projected. -/
def pjG (cols : List Int) (x : Rw × Int) : Rw × Int := (prL x.1 cols, x.2)
theorem pj_mk {d : Bg} {cols : List Int} (hd : okBag d = true) (hb : (d.any fun x => !okC x.1.length cols) = false) (h8 : cols.length ≤ 8) : mk (pjG cols) d = pjX d cols := by
  unfold mk pjX
  rw [List.filter_eq_self.2 ?_]
  · refine List.map_congr_left fun x hx => ?_
    have h1 := prE_ok ((okBag_asc hd).1.ok x hx) cols
    have h2 := List.any_eq_false.1 hb x hx
    simp only [Bool.not_eq_true', Bool.not_eq_false] at h2
    rw [h2, if_pos rfl, if_pos h8] at h1
    unfold pjG prL
    rw [if_pos h1]
  · intro y hy
    obtain ⟨x, hx, rfl⟩ := List.mem_map.1 hy
    exact decide_eq_true (numB_ne ((okBag_asc hd).2.1 x hx)).1
theorem pj_bad (d : Bg) (cols : List Int) : (cols.any (fun c => !btw c 0 7) || d.any fun x => !okC x.1.length cols) = !(cols.all fun c => btw c 0 7 && d.all fun x => decide (c < (x.1.length : Int))) := by
  rw [Bool.eq_iff_iff, Bool.not_eq_true', List.all_eq_false]
  constructor
  · intro h
    rcases (Bool.or_eq_true _ _).mp h with h | h
    · obtain ⟨c, hc, h1⟩ := List.any_eq_true.1 h
      exact ⟨c, hc, fun h2 => by rw [Bool.and_eq_true] at h2; rw [h2.1] at h1; cases h1⟩
    · obtain ⟨x, hx, h1⟩ := List.any_eq_true.1 h
      unfold okC at h1
      rw [Bool.not_not] at h1
      obtain ⟨c, hc, h2⟩ := List.any_eq_true.1 h1
      refine ⟨c, hc, fun h3 => ?_⟩
      rw [Bool.and_eq_true, List.all_eq_true] at h3
      have h4 := btw_iff.1 h3.1
      have h5 := of_decide_eq_true (h3.2 x hx)
      have h6 : btw c 0 ((x.1.length : Int) - 1) = true := btw_iff.2 ⟨h4.1, by omega⟩
      rw [h6] at h2
      cases h2
  · rintro ⟨c, hc, h1⟩
    rw [Bool.or_eq_true]
    cases h2 : btw c 0 7
    · exact .inl (List.any_eq_true.2 ⟨c, hc, by rw [h2]; rfl⟩)
    · right
      rw [h2, Bool.true_and, Bool.not_eq_true, List.all_eq_false] at h1
      obtain ⟨x, hx, h3⟩ := h1
      refine List.any_eq_true.2 ⟨x, hx, ?_⟩
      unfold okC
      rw [Bool.not_not]
      refine List.any_eq_true.2 ⟨c, hc, ?_⟩
      rw [Bool.not_eq_true', ← Bool.not_eq_true]
      intro h4
      have := (btw_iff.1 h4).2
      rw [decide_eq_true_eq] at h3
      omega
end Go.Proofs.YtoapjidpfghnlaaGreatDoor
