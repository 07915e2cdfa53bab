/-
  Plain laws of Of, Project and Rows.
  Plain laws of Upserts.
  The closures of bag.Upserts; slices.ContainsFunc over ints, whatever predicate.
-/
import Derived.Test.YtoapjidpfghnlaaGreatDoorNetM
import Derived.Test.YtoapjidpfghnlaaGreatDoorMdI
import Derived.Test.YtoapjidpfghnlaaGreatDoorPjA
import Derived.Test.YtoapjidpfghnlaaGreatDoorBgT5
import Derived.Test.YtoapjidpfghnlaaGreatDoorGat
namespace Go.Proofs.YtoapjidpfghnlaaGreatDoor

section
open Go.RowKit
set_option linter.unusedVariables false

theorem aft0 {xs : Bg} (h : ∀ x ∈ xs, okR x.1 = true) (k : Nat) : Net (xs.take k) (aftB [] (xs.take k)) := by
  have := aft_ok (b := []) (l := xs.take k) (fun x hx => h x (List.mem_of_mem_take hx)) ⟨nofun, List.Pairwise.nil⟩ nofun
  simpa using this
theorem aft0_all {xs : Bg} (h : ∀ x ∈ xs, okR x.1 = true) : Net xs (aftB [] xs) := by
  have := aft0 h xs.length
  rwa [List.take_length] at this
theorem aft0_len {xs : Bg} (h : ∀ x ∈ xs, okR x.1 = true) : ∀ k, k ≤ xs.length → (aftB [] (xs.take k)).length ≤ k
  | 0, _ => by simp [aftB]
  | k + 1, hk => by
    have ih := aft0_len h k (by omega)
    have h1 : xs[k]? = some (xs[k]'(by omega)) := List.getElem?_eq_getElem (by omega)
    rw [take_snoc' h1, aft_snoc]
    have := put_len (aft0 h k).asc (xs[k]'(by omega)).1 (xs[k]'(by omega)).2
    omega
theorem aft0_num {xs : Bg} (h : ∀ x ∈ xs, okR x.1 = true) (hn : ∀ x ∈ xs, -1000000 ≤ x.2 ∧ x.2 ≤ 1000000) (hl : xs.length ≤ 2000) (k : Nat) : ∀ x ∈ aftB [] (xs.take k), -4000000000000 ≤ x.2 ∧ x.2 ≤ 4000000000000 := by
  intro x hx
  have hnt := aft0 h k
  have h1 := sum_abs (xs := xs.take k) (fun z hz => hn z (List.mem_of_mem_take hz)) x.1
  rw [← hnt.sum, look_in (asc_apart hnt.asc) hx] at h1
  have h2 : (xs.take k).length ≤ 2000 := by rw [List.length_take]; omega
  omega
/-- Rows, each once. -/
def onesX (rs : List Rw) : Bg := rs.map fun r => (r, 1)
theorem ones_at {rs : List Rw} {k : Nat} {r : Rw} (h : rs[k]? = some r) : (onesX rs)[k]? = some (r, 1) := by unfold onesX; rw [List.getElem?_map, h]; rfl
theorem ones_len (rs : List Rw) : (onesX rs).length = rs.length := by simp [onesX]
theorem ones_take (rs : List Rw) (k : Nat) : (onesX rs).take k = onesX (rs.take k) := by unfold onesX; rw [List.map_take]
theorem ones_okR {rs : List Rw} (h : rs.all okR = true) : ∀ x ∈ onesX rs, okR x.1 = true := by
  intro x hx
  obtain ⟨r, hr, rfl⟩ := List.mem_map.1 hx
  exact List.all_eq_true.1 h r hr
theorem ones_sum (rs : List Rw) (r : Rw) : 0 ≤ sumG (onesX rs) r ∧ sumG (onesX rs) r ≤ rs.length := by
  induction rs with
  | nil => simp [onesX, sumG]
  | cons x rs ih =>
    unfold onesX at ih ⊢
    rw [List.map_cons, sumG, List.length_cons]
    split <;> omega
theorem ones_ok {rs : List Rw} (h : rs.all okR = true) (hl : rs.length ≤ 400) : okBag (aftB [] (onesX rs)) = true := by
  have hn := aft0_all (ones_okR h)
  refine okBag_of hn.asc (fun x hx => ?_) ?_
  · have h1 := hn.sum x.1
    rw [look_in (asc_apart hn.asc) hx] at h1
    have h2 := ones_sum rs x.1
    have h3 := hn.ne x hx
    unfold numB
    simp
    omega
  · have := aft0_len (ones_okR h) (onesX rs).length (Nat.le_refl _)
    rw [List.take_length, ones_len] at this
    omega
/-- What Of tells. -/
def ofB (rs : List Rw) : Bg × Int := if decide (rs.length ≤ 400) && rs.all okR then (aftB [] (onesX rs), 0) else ([], 1)
/-- Each row as often as it is there. -/
def repX (d : Bg) : List Rw := d.flatMap fun x => List.replicate x.2.toNat x.1
theorem rep_snoc (d : Bg) (x : Rw × Int) : repX (d ++ [x]) = repX d ++ List.replicate x.2.toNat x.1 := by simp [repX]
theorem rep_sum {d : Bg} (h : ∀ x ∈ d, 0 ≤ x.2) (r : Rw) : sumG (onesX (repX d)) r = sumG d r := by
  induction d with
  | nil => rfl
  | cons x d ih =>
    have e : onesX (repX (x :: d)) = onesX (List.replicate x.2.toNat x.1) ++ onesX (repX d) := by
      unfold repX onesX
      rw [List.flatMap_cons, List.map_append]
    rw [e, sumG_app, ih fun y hy => h y (List.mem_cons_of_mem _ hy), sumG]
    congr 1
    have key : ∀ n : Nat, sumG (onesX (List.replicate n x.1)) r = if x.1 = r then (n : Int) else 0 := by
      intro n
      induction n with
      | zero => simp [onesX, sumG]
      | succ n ih =>
        unfold onesX at ih ⊢
        rw [List.replicate_succ, List.map_cons, sumG, ih]
        split <;> omega
    rw [key]
    have := h x (by simp)
    split <;> omega
theorem rep_len {d : Bg} (h : ∀ x ∈ d, 0 ≤ x.2) : ((repX d).length : Int) = tot d := by
  induction d with
  | nil => rfl
  | cons x d ih =>
    have h1 := ih fun y hy => h y (List.mem_cons_of_mem _ hy)
    have h2 := h x (by simp)
    unfold repX at h1 ⊢
    rw [List.flatMap_cons, List.length_append, List.length_replicate]
    have h3 : tot (x :: d) = x.2 + tot d := rfl
    omega
theorem rep_ok {d : Bg} (h : ∀ x ∈ d, okR x.1 = true) : (repX d).all okR = true := by
  rw [List.all_eq_true]
  intro r hr
  obtain ⟨x, hx, h2⟩ := List.mem_flatMap.1 hr
  rw [(List.mem_replicate.1 h2).2]
  exact h x hx
/-- What Rows tells. -/
def rowsB (d : Bg) : List Rw × Int := if okBag d then (if wholeB d then (if tot d ≤ 400 then (repX d, 0) else ([], 4)) else ([], 10)) else ([], 1)
theorem of_rows {d : Bg} {rs : List Rw} (h : rowsB d = (rs, 0)) : ofB rs = (d, 0) := by
  unfold rowsB at h
  cases ho : okBag d
  · rw [ho] at h; cases h
  cases hw : wholeB d
  · rw [ho, hw] at h; cases h
  rw [ho, hw] at h
  simp only [if_true] at h
  by_cases ht : tot d ≤ 400
  · rw [if_pos ht] at h
    injection h with h
    subst h
    have hp : ∀ x ∈ d, 0 ≤ x.2 := by
      unfold wholeB posB at hw
      rw [Bool.and_eq_true, List.all_eq_true] at hw
      exact fun x hx => by simpa using hw.2 x hx
    have hl := rep_len hp
    have hr := rep_ok fun x hx => (okBag_asc ho).1.ok x hx
    unfold ofB
    rw [hr, decide_eq_true (by omega)]
    have he : aftB [] (onesX (repX d)) = d := (aft0_all (ones_okR hr)).same (Net.one ho) fun r => rep_sum hp r
    rw [he]
    rfl
  · rw [if_neg ht] at h
    cases h
/-! Project. -/
def worstS (cols : List Int) (w : Int) (x : Rw × Int) : Int := if prE x.1 cols = 7 ∨ (prE x.1 cols ≠ 0 ∧ w = 0) then prE x.1 cols else w
/-- The worst error so far. -/
def worstF (cols : List Int) (d : Bg) : Int := d.foldl (worstS cols) 0
theorem worst_snoc (cols : List Int) (d : Bg) (x : Rw × Int) : worstF cols (d ++ [x]) = worstS cols (worstF cols d) x := by simp [worstF]
theorem prE_ok {r : Rw} (h : okR r = true) (cols : List Int) : prE r cols = if okC r.length cols then (if cols.length ≤ 8 then 0 else 4) else 7 := by
  unfold prE
  rw [h]
  rfl
theorem worst_spec {d : Bg} (h : ∀ x ∈ d, okR x.1 = true) (cols : List Int) : worstF cols d = if (d.any fun x => !okC x.1.length cols) = true then 7 else if 8 < cols.length ∧ d ≠ [] then 4 else 0 := by
  have gen : ∀ (d : Bg) (w : Int), (∀ x ∈ d, okR x.1 = true) → (w = 0 ∨ w = 4 ∨ w = 7) → d.foldl (worstS cols) w = if w = 7 ∨ (d.any fun x => !okC x.1.length cols) = true then 7 else if w = 4 ∨ (8 < cols.length ∧ d ≠ []) then 4 else 0 := by
    intro d
    induction d with
    | nil =>
      intro w _ hw
      rcases hw with rfl | rfl | rfl <;> simp
    | cons x d ih =>
      intro w hd hw
      have hx := prE_ok (hd x (by simp)) cols
      have hd' := fun y hy => hd y (List.mem_cons_of_mem x hy)
      rw [List.foldl_cons, List.any_cons]
      obtain ⟨bb, hbb⟩ : ∃ bb, (d.any fun x => !okC x.1.length cols) = bb := ⟨_, rfl⟩
      rw [hbb] at ih ⊢
      obtain ⟨cc, hc⟩ : ∃ cc, okC x.1.length cols = cc := ⟨_, rfl⟩
      rw [hc]
      cases cc
      · rw [hc] at hx
        have e : worstS cols w x = 7 := by
          unfold worstS
          rw [hx]
          simp
        rw [e, ih 7 hd' (by simp)]
        simp
      · rw [hc] at hx
        simp only [if_true] at hx
        by_cases h8 : cols.length ≤ 8
        · rw [if_pos h8] at hx
          have e : worstS cols w x = w := by
            unfold worstS
            rw [hx]
            simp
          rw [e, ih w hd' hw]
          have n8 : ¬ 8 < cols.length := by omega
          simp [n8]
        · rw [if_neg h8] at hx
          have p8 : 8 < cols.length := by omega
          rcases hw with rfl | rfl | rfl
          · have e : worstS cols 0 x = 4 := by unfold worstS; rw [hx]; simp
            rw [e, ih 4 hd' (by simp)]
            simp [p8]
          · have e : worstS cols 4 x = 4 := by unfold worstS; rw [hx]; simp
            rw [e, ih 4 hd' (by simp)]
            simp
          · have e : worstS cols 7 x = 7 := by unfold worstS; rw [hx]; simp
            rw [e, ih 7 hd' (by simp)]
            simp
  have := gen d 0 h (by simp)
  unfold worstF
  rw [this]
  by_cases hb : (d.any fun x => !okC x.1.length cols) = true
  · rw [if_pos (.inr hb), if_pos hb]
  · rw [if_neg (fun h => h.elim (fun h => absurd h (by decide)) hb), if_neg hb]
    simp
def pjX (d : Bg) (cols : List Int) : Bg := d.map fun x => (pick x.1 cols, x.2)
/-- What Project tells. -/
def pjB (d : Bg) (cols : List Int) : Bg × Int :=
  if okBag d then (if (cols.any (fun c => !btw c 0 7) || d.any fun x => !okC x.1.length cols) = true then ([], 7) else if cols.length ≤ 8 then toldB (aftB [] (pjX d cols)) else ([], 4)) else ([], 1)
theorem pick_ok {r : Rw} {cols : List Int} (h : okR r = true) (hl : cols.length ≤ 8) : okR (pick r cols) = true := by
  unfold okR at h ⊢
  rw [Bool.and_eq_true, List.all_eq_true] at h
  rw [Bool.and_eq_true, List.all_eq_true, decide_eq_true_eq]
  refine ⟨fun v hv => ?_, ?_⟩
  · unfold pick at hv
    obtain ⟨c, _, h2⟩ := List.mem_filterMap.1 hv
    exact h.1 v (List.mem_of_getElem? h2)
  · unfold pick
    exact Nat.le_trans (List.length_filterMap_le _ _) hl
theorem prL_ok {r : Rw} {cols : List Int} (h : okR r = true) : okR (prL r cols) = true := by
  unfold prL
  by_cases h0 : prE r cols = 0
  · rw [if_pos h0]
    refine pick_ok h ?_
    rw [prE_ok h] at h0
    split at h0
    · split at h0
      · assumption
      · cases h0
    · cases h0
  · rw [if_neg h0]; rfl
/-- What is gathered while rows are projected. -/
def pjG (cols : List Int) (x : Rw × Int) : Rw × Int := (prL x.1 cols, x.2)
theorem pj_mk {d : Bg} {cols : List Int} (hd : okBag d = true) (hb : (d.any fun x => !okC x.1.length cols) = false) (h8 : cols.length ≤ 8) : mk (pjG cols) d = pjX d cols := by
  unfold mk pjX
  rw [List.filter_eq_self.2 ?_]
  · refine List.map_congr_left fun x hx => ?_
    have h1 := prE_ok ((okBag_asc hd).1.ok x hx) cols
    have h2 := List.any_eq_false.1 hb x hx
    simp only [Bool.not_eq_true', Bool.not_eq_false] at h2
    rw [h2, if_pos rfl, if_pos h8] at h1
    unfold pjG prL
    rw [if_pos h1]
  · intro y hy
    obtain ⟨x, hx, rfl⟩ := List.mem_map.1 hy
    exact decide_eq_true (numB_ne ((okBag_asc hd).2.1 x hx)).1
theorem pj_bad (d : Bg) (cols : List Int) : (cols.any (fun c => !btw c 0 7) || d.any fun x => !okC x.1.length cols) = !(cols.all fun c => btw c 0 7 && d.all fun x => decide (c < (x.1.length : Int))) := by
  rw [Bool.eq_iff_iff, Bool.not_eq_true', List.all_eq_false]
  constructor
  · intro h
    rcases (Bool.or_eq_true _ _).mp h with h | h
    · obtain ⟨c, hc, h1⟩ := List.any_eq_true.1 h
      exact ⟨c, hc, fun h2 => by rw [Bool.and_eq_true] at h2; rw [h2.1] at h1; cases h1⟩
    · obtain ⟨x, hx, h1⟩ := List.any_eq_true.1 h
      unfold okC at h1
      rw [Bool.not_not] at h1
      obtain ⟨c, hc, h2⟩ := List.any_eq_true.1 h1
      refine ⟨c, hc, fun h3 => ?_⟩
      rw [Bool.and_eq_true, List.all_eq_true] at h3
      have h4 := btw_iff.1 h3.1
      have h5 := of_decide_eq_true (h3.2 x hx)
      have h6 : btw c 0 ((x.1.length : Int) - 1) = true := btw_iff.2 ⟨h4.1, by omega⟩
      rw [h6] at h2
      cases h2
  · rintro ⟨c, hc, h1⟩
    rw [Bool.or_eq_true]
    cases h2 : btw c 0 7
    · exact .inl (List.any_eq_true.2 ⟨c, hc, by rw [h2]; rfl⟩)
    · right
      rw [h2, Bool.true_and, Bool.not_eq_true, List.all_eq_false] at h1
      obtain ⟨x, hx, h3⟩ := h1
      refine List.any_eq_true.2 ⟨x, hx, ?_⟩
      unfold okC
      rw [Bool.not_not]
      refine List.any_eq_true.2 ⟨c, hc, ?_⟩
      rw [Bool.not_eq_true', ← Bool.not_eq_true]
      intro h4
      have := (btw_iff.1 h4).2
      rw [decide_eq_true_eq] at h3
      omega
end

section
open Go.RowKit
set_option linter.unusedVariables false

/-- The text of a row's key. -/
def keyT (key : List Int) (r : Rw) : List UInt8 := key.flatMap fun c => match r[c.toNat]? with
  | some v => rowT [v] ++ [44]
  | none => []
/-- A row has all columns of a key (whose numbers are no less than 0). -/
def hasB (r : Rw) (key : List Int) : Bool := key.all fun c => decide (c < (r.length : Int))
def okK (key : List Int) : Bool := !key.isEmpty && key.all fun c => btw c 0 7
theorem keyT_snoc (key : List Int) (c : Int) (r : Rw) (v : Val) (h : r[c.toNat]? = some v) : keyT (key ++ [c]) r = keyT key r ++ rowT [v] ++ [44] := by
  unfold keyT
  rw [List.flatMap_append]
  simp [h]
theorem okR_one {r : Rw} (h : okR r = true) {v : Val} (hv : v ∈ r) : okV v = true ∧ okR [v] = true := by
  have h1 := List.all_eq_true.1 (okR_all h) v hv
  exact ⟨h1, by unfold okR; simp [h1]⟩
theorem rowT_one {v : Val} (h : okR [v] = true) : rowT [v] = valT v := by
  unfold rowT
  rw [if_pos h]
  simp [Lib.join_one]
theorem rowT_one_len {v : Val} (h : okV v = true) (k : okR [v] = true) : (rowT [v]).length ≤ 802 := by
  rw [rowT_one k]; exact valT_len h
theorem keyT_len {r : Rw} (h : okR r = true) : ∀ key : List Int, (keyT key r).length ≤ key.length * 803
  | [] => by simp [keyT]
  | c :: key => by
    have ih := keyT_len h key
    unfold keyT at ih ⊢
    rw [List.flatMap_cons, List.length_append, List.length_cons]
    cases hv : r[c.toNat]? with
    | none => show ([] : List UInt8).length + _ ≤ _; rw [List.length_nil]; omega
    | some v =>
      obtain ⟨h1, h2⟩ := okR_one h (List.mem_of_getElem? hv)
      have h3 := rowT_one_len h1 h2
      simp only [List.length_append, List.length_cons, List.length_nil]
      omega
/-- A key's text tells the key. -/
theorem keyT_iff {x y : Rw} (hx : okR x = true) (hy : okR y = true) : ∀ {key : List Int}, (∀ c ∈ key, 0 ≤ c) → hasB x key = true → hasB y key = true → (keyT key x = keyT key y ↔ pick x key = pick y key)
  | [], _, _, _ => by simp [keyT, pick]
  | c :: key, h0, h1, h2 => by
    unfold hasB at h1 h2
    rw [List.all_cons, Bool.and_eq_true, decide_eq_true_eq] at h1 h2
    have hc := h0 c (by simp)
    have e1 : x[c.toNat]? = some (x[c.toNat]'(by omega)) := List.getElem?_eq_getElem (by omega)
    have e2 : y[c.toNat]? = some (y[c.toNat]'(by omega)) := List.getElem?_eq_getElem (by omega)
    have ih := keyT_iff hx hy (key := key) (fun c hc => h0 c (List.mem_cons_of_mem _ hc)) h1.2 h2.2
    obtain ⟨v, hv⟩ : ∃ v, x[c.toNat]'(by omega) = v := ⟨_, rfl⟩
    obtain ⟨u, hu⟩ : ∃ u, y[c.toNat]'(by omega) = u := ⟨_, rfl⟩
    rw [hv] at e1
    rw [hu] at e2
    obtain ⟨v1, v2⟩ := okR_one hx (List.mem_of_getElem? e1)
    obtain ⟨u1, u2⟩ := okR_one hy (List.mem_of_getElem? e2)
    have k1 : keyT (c :: key) x = valT v ++ (44 :: keyT key x) := by
      unfold keyT
      rw [List.flatMap_cons, e1]
      simp [rowT_one v2]
    have k2 : keyT (c :: key) y = valT u ++ (44 :: keyT key y) := by
      unfold keyT
      rw [List.flatMap_cons, e2]
      simp [rowT_one u2]
    have p1 : pick x (c :: key) = v :: pick x key := by unfold pick; rw [List.filterMap_cons, e1]
    have p2 : pick y (c :: key) = u :: pick y key := by unfold pick; rw [List.filterMap_cons, e2]
    rw [k1, k2, p1, p2]
    constructor
    · intro h
      obtain ⟨h3, h4⟩ := valT_inj v1 u1 (.inr ⟨_, rfl⟩) (.inr ⟨_, rfl⟩) h
      injection h4 with _ h4
      rw [h3, ih.1 h4]
    · intro h
      injection h with h3 h4
      rw [h3, ih.2 h4]
theorem pick_okV {r : Rw} (h : okR r = true) (cols : List Int) : (pick r cols).all okV = true := by
  rw [List.all_eq_true]
  intro v hv
  unfold pick at hv
  obtain ⟨c, _, h2⟩ := List.mem_filterMap.1 hv
  exact List.all_eq_true.1 (okR_all h) v (List.mem_of_getElem? h2)
theorem pick_cmp {x y : Rw} (hx : okR x = true) (hy : okR y = true) (cols : List Int) : cmpR (pick x cols) (pick y cols) = 0 ↔ pick x cols = pick y cols :=
  ⟨fun h => cmpR_eq (pick_okV hx cols) (pick_okV hy cols) h, fun h => by rw [h]; exact Tot.row.self _⟩
/-- One upsert: what the program does to its list. -/
def upS (key : List Int) (P : Bg) (c : Ch) : Bg := (P.filter fun x => !(keyT key x.1 == keyT key c.r)) ++ if 0 < c.m then [(c.r, 1)] else []
/-- .. what the reference does to its bag. -/
def upR (key : List Int) (R : Bg) (c : Ch) : Bg := if 0 < c.m then putB (R.filter fun x => decide (cmpR (pick x.1 key) (pick c.r key) ≠ 0)) c.r 1 else R.filter fun x => decide (cmpR (pick x.1 key) (pick c.r key) ≠ 0)
theorem sumG_filter (P : Bg) (g : Rw → Bool) (r : Rw) : sumG (P.filter fun x => g x.1) r = if g r then sumG P r else 0 := by
  induction P with
  | nil => simp [sumG]
  | cons x P ih =>
    rw [List.filter_cons]
    by_cases e : x.1 = r
    · rw [e]
      cases hg : g r
      · simp only [hg] at ih ⊢
        simpa using ih
      · simp only [hg, if_true] at ih ⊢
        rw [sumG, sumG, if_pos e, ih]
    · cases hx : g x.1
      · rw [sumG, if_neg e]
        simp only [Bool.false_eq_true, if_false]
        rw [ih]
        split <;> omega
      · rw [if_pos rfl, sumG, sumG, if_neg e, ih]
        split <;> omega
theorem look_filter2 {R : Bg} (h : Asc R) (g : Rw → Bool) (r : Rw) : look (R.filter fun x => g x.1) r = if g r then look R r else 0 := by
  have ha := asc_apart h
  have hf : (R.filter fun x => g x.1).Pairwise fun x y => x.1 ≠ y.1 := ha.sublist List.filter_sublist
  rw [← sumG_look hf, sumG_filter, sumG_look ha]
theorem asc_filter {R : Bg} (h : Asc R) (g : Rw × Int → Bool) : Asc (R.filter g) := ⟨fun x hx => h.ok x (List.mem_filter.1 hx).1, h.up.sublist List.filter_sublist⟩
structure UpN (key : List Int) (P R : Bg) : Prop where
  net : Net P R
  ok : ∀ x ∈ P, okR x.1 = true ∧ hasB x.1 key = true
theorem up_look {key : List Int} {R : Bg} {c : Ch} (h : Asc R) (hn : ∀ x ∈ R, x.2 ≠ 0) (hc : okR c.r = true) :
    Asc (upR key R c) ∧ (∀ x ∈ upR key R c, x.2 ≠ 0) ∧ ∀ r, look (upR key R c) r = (if cmpR (pick r key) (pick c.r key) ≠ 0 then look R r else 0) + if 0 < c.m ∧ c.r = r then 1 else 0 := by
  have hF := asc_filter h (fun x => decide (cmpR (pick x.1 key) (pick c.r key) ≠ 0))
  have hFn : ∀ x ∈ R.filter (fun x => decide (cmpR (pick x.1 key) (pick c.r key) ≠ 0)), x.2 ≠ 0 := fun x hx => hn x (List.mem_filter.1 hx).1
  have hl := look_filter2 h (fun r => decide (cmpR (pick r key) (pick c.r key) ≠ 0))
  unfold upR
  by_cases hm : 0 < c.m
  · rw [if_pos hm]
    have hk := aft_ok (b := R.filter fun x => decide (cmpR (pick x.1 key) (pick c.r key) ≠ 0)) (l := [(c.r, 1)]) (fun x hx => by rw [List.mem_singleton.1 hx]; exact hc) hF hFn
    refine ⟨hk.asc, hk.ne, fun r => ?_⟩
    have h1 := hk.sum r
    rw [sumG_app, sumG_one, sumG_asc hF, hl] at h1
    have h2 : aftB (R.filter fun x => decide (cmpR (pick x.1 key) (pick c.r key) ≠ 0)) [(c.r, 1)] = putB (R.filter fun x => decide (cmpR (pick x.1 key) (pick c.r key) ≠ 0)) c.r 1 := rfl
    rw [← h2, h1]
    simp [hm]
  · rw [if_neg hm]
    refine ⟨hF, hFn, fun r => ?_⟩
    rw [hl]
    simp [hm]
theorem up_net {key : List Int} {P R : Bg} {c : Ch} (h0 : ∀ c ∈ key, 0 ≤ c) (h : UpN key P R) (hc : okR c.r = true) (hh : hasB c.r key = true) : UpN key (upS key P c) (upR key R c) := by
  obtain ⟨h1, h2, h3⟩ := up_look (key := key) (c := c) h.net.asc h.net.ne hc
  refine ⟨⟨h1, h2, fun r => ?_⟩, fun x hx => ?_⟩
  · rw [h3, h.net.sum]
    unfold upS
    rw [sumG_app]
    have e1 : P.filter (fun x => !(keyT key x.1 == keyT key c.r)) = P.filter fun x => decide (cmpR (pick x.1 key) (pick c.r key) ≠ 0) := by
      apply List.filter_congr
      intro x hx
      obtain ⟨o1, o2⟩ := h.ok x hx
      have hk := keyT_iff o1 hc h0 o2 hh
      have hp := pick_cmp o1 hc key
      rw [Bool.eq_iff_iff, Bool.not_eq_true', beq_eq_false_iff_ne, decide_eq_true_eq]
      exact ⟨fun a b => a (hk.2 (hp.1 b)), fun a b => a (hp.2 (hk.1 b))⟩
    rw [e1, sumG_filter P (fun r => decide (cmpR (pick r key) (pick c.r key) ≠ 0))]
    congr 1
    · simp
    · by_cases hm : 0 < c.m
      · rw [if_pos hm, sumG_one]
        simp [hm]
      · rw [if_neg hm]
        simp [sumG, hm]
  · unfold upS at hx
    rcases List.mem_append.1 hx with hx | hx
    · exact h.ok x (List.mem_filter.1 hx).1
    · split at hx
      · rw [List.mem_singleton.1 hx]; exact ⟨hc, hh⟩
      · cases hx
/-- All changes, one behind the other. -/
def upP (key : List Int) (d : Bg) (l : List Ch) : Bg := l.foldl (upS key) d
def upQ (key : List Int) (d : Bg) (l : List Ch) : Bg := l.foldl (upR key) d
theorem upP_snoc (key : List Int) (d : Bg) (l : List Ch) (c : Ch) : upP key d (l ++ [c]) = upS key (upP key d l) c := by simp [upP]
theorem upQ_snoc (key : List Int) (d : Bg) (l : List Ch) (c : Ch) : upQ key d (l ++ [c]) = upR key (upQ key d l) c := by simp [upQ]
/-- Everything may be told. -/
def upOK (key : List Int) (d : Bg) (l : List Ch) : Bool := okK key && (d.all fun x => hasB x.1 key) && l.all fun c => hasB c.r key
theorem okK_pos {key : List Int} (h : okK key = true) : ∀ c ∈ key, 0 ≤ c ∧ c ≤ 7 := by
  unfold okK at h
  rw [Bool.and_eq_true, List.all_eq_true] at h
  exact fun c hc => btw_iff.1 (h.2 c hc)
theorem up_all {key : List Int} {d : Bg} {l : List Ch} (hd : okBag d = true) (hl : okChs l = true) (h : upOK key d l = true) (k : Nat) : UpN key (upP key d (l.take k)) (upQ key d (l.take k)) := by
  unfold upOK at h
  rw [Bool.and_eq_true, Bool.and_eq_true, List.all_eq_true, List.all_eq_true] at h
  have h0 := fun c hc => (okK_pos h.1.1 c hc).1
  induction k with
  | zero => exact ⟨Net.one hd, fun x hx => ⟨(okBag_asc hd).1.ok x hx, h.1.2 x hx⟩⟩
  | succ k ih =>
    by_cases hk : k < l.length
    · have h1 : l[k]? = some (l[k]'hk) := List.getElem?_eq_getElem hk
      rw [take_snoc' h1, upP_snoc, upQ_snoc]
      have hm := List.mem_of_getElem? h1
      refine up_net h0 ih ?_ (h.2 _ hm)
      exact ((chs_in hl).1 (l[k].r, l[k].m) (List.mem_map.2 ⟨_, hm, rfl⟩)).1
    · rw [List.take_of_length_le (show l.length ≤ k + 1 by omega)]
      rwa [List.take_of_length_le (show l.length ≤ k by omega)] at ih
/-- What a row's number is behind all changes, where one told of its key. -/
def upG (key : List Int) (l : List Ch) (r : Rw) : Option Int := l.foldl (fun o c => if cmpR (pick r key) (pick c.r key) = 0 then some (if 0 < c.m ∧ c.r = r then 1 else 0) else o) none
theorem upG_snoc (key : List Int) (l : List Ch) (c : Ch) (r : Rw) : upG key (l ++ [c]) r = if cmpR (pick r key) (pick c.r key) = 0 then some (if 0 < c.m ∧ c.r = r then 1 else 0) else upG key l r := by simp [upG]
theorem upQ_look {key : List Int} {d : Bg} {l : List Ch} (hd : Asc d) (hn : ∀ x ∈ d, x.2 ≠ 0) (hl : ∀ c ∈ l, okR c.r = true) : Asc (upQ key d l) ∧ (∀ x ∈ upQ key d l, x.2 ≠ 0) ∧ ∀ r, look (upQ key d l) r = (upG key l r).getD (look d r) := by
  have gen : ∀ k, k ≤ l.length → Asc (upQ key d (l.take k)) ∧ (∀ x ∈ upQ key d (l.take k), x.2 ≠ 0) ∧ ∀ r, look (upQ key d (l.take k)) r = (upG key (l.take k) r).getD (look d r) := by
    intro k
    induction k with
    | zero => intro _; exact ⟨hd, hn, fun r => rfl⟩
    | succ k ih =>
      intro hk
      obtain ⟨i1, i2, i3⟩ := ih (by omega)
      have h1 : l[k]? = some (l[k]'(by omega)) := List.getElem?_eq_getElem (by omega)
      obtain ⟨j1, j2, j3⟩ := up_look (key := key) (c := l[k]'(by omega)) i1 i2 (hl _ (List.mem_of_getElem? h1))
      rw [take_snoc' h1, upQ_snoc]
      refine ⟨j1, j2, fun r => ?_⟩
      rw [j3, upG_snoc, i3]
      by_cases hc : cmpR (pick r key) (pick (l[k]'(by omega)).r key) = 0
      · simp [hc]
      · have hne : ¬ (0 < (l[k]'(by omega)).m ∧ (l[k]'(by omega)).r = r) := fun h => hc (by rw [h.2]; exact Tot.row.self _)
        rw [if_pos hc, if_neg hc, if_neg hne]
        omega
  have := gen l.length (Nat.le_refl _)
  rwa [List.take_length] at this
/-- What Upserts tells. -/
def upsB (d : Bg) (l : List Ch) (key : List Int) : Bg × Int := if okBag d && okChs l then (if upOK key d l then toldB (upQ key d l) else ([], 7)) else ([], 1)
/-- Twice with the same changes is once. -/
theorem up_twice {d x : Bg} {l : List Ch} {key : List Int} (h : upsB d l key = (x, 0)) : upsB x l key = (x, 0) := by
  unfold upsB at h
  cases hd : okBag d
  · rw [hd] at h; cases h
  cases hl : okChs l
  · rw [hd, hl] at h; cases h
  cases hu : upOK key d l
  · rw [hd, hl, hu] at h; cases h
  rw [hd, hl, hu] at h
  simp only [Bool.and_self, if_true] at h
  unfold toldB at h
  cases hk : okBag (upQ key d l)
  · rw [hk] at h; cases h
  rw [hk] at h
  simp only [if_true] at h
  injection h with h
  subst h
  have hrow : ∀ c ∈ l, okR c.r = true := fun c hc => ((chs_in hl).1 (c.r, c.m) (List.mem_map.2 ⟨_, hc, rfl⟩)).1
  have hda := okBag_asc hd
  obtain ⟨i1, i2, i3⟩ := upQ_look (key := key) hda.1 (fun x hx => (numB_ne (hda.2.1 x hx)).1) hrow
  have hall := up_all hd hl hu l.length
  rw [List.take_length] at hall
  have hu2 : upOK key (upQ key d l) l = true := by
    unfold upOK at hu ⊢
    rw [Bool.and_eq_true, Bool.and_eq_true] at hu
    rw [Bool.and_eq_true, Bool.and_eq_true]
    refine ⟨⟨hu.1.1, ?_⟩, hu.2⟩
    rw [List.all_eq_true]
    intro x hx
    have h1 := look_mem i1 hx
    rw [hall.net.sum] at h1
    by_cases he : ∃ y ∈ upP key d l, y.1 = x.1
    · obtain ⟨y, hy, e⟩ := he
      rw [← e]; exact (hall.ok y hy).2
    · refine absurd ?_ (i2 x hx)
      rw [← h1]
      have key0 : ∀ P : Bg, (∀ y ∈ P, y.1 ≠ x.1) → sumG P x.1 = 0 := by
        intro P hP
        induction P with
        | nil => rfl
        | cons y P ih =>
          rw [sumG, if_neg (hP y (by simp)), ih fun z hz => hP z (List.mem_cons_of_mem _ hz)]
          rfl
      exact key0 _ fun y hy e => he ⟨y, hy, e⟩
  obtain ⟨j1, j2, j3⟩ := upQ_look (key := key) (l := l) i1 i2 hrow
  have he : upQ key (upQ key d l) l = upQ key d l := Asc.ext j1 i1 j2 i2 fun r => by
    rw [j3, i3]
    cases upG key l r <;> rfl
  unfold upsB
  rw [hk, hl, hu2, he]
  unfold toldB
  rw [hk]
  rfl
theorem upS_len (key : List Int) (P : Bg) (c : Ch) : (upS key P c).length ≤ P.length + 1 := by
  unfold upS
  rw [List.length_append]
  have := List.length_filter_le (fun x : Rw × Int => !(keyT key x.1 == keyT key c.r)) P
  split <;> simp <;> omega
theorem upP_len (key : List Int) (d : Bg) (l : List Ch) (k : Nat) : (upP key d (l.take k)).length ≤ d.length + k := by
  induction k with
  | zero => simp [upP]
  | succ k ih =>
    by_cases hk : k < l.length
    · have h1 : l[k]? = some (l[k]'hk) := List.getElem?_eq_getElem hk
      rw [take_snoc' h1, upP_snoc]
      have := upS_len key (upP key d (l.take k)) (l[k]'hk)
      omega
    · rw [List.take_of_length_le (show l.length ≤ k + 1 by omega)]
      rw [List.take_of_length_le (show l.length ≤ k by omega)] at ih
      omega
theorem upR_len {key : List Int} {R : Bg} (h : Asc R) (c : Ch) : (upR key R c).length ≤ R.length + 1 := by
  unfold upR
  have h1 := List.length_filter_le (fun x : Rw × Int => decide (cmpR (pick x.1 key) (pick c.r key) ≠ 0)) R
  split
  · have h2 := put_len (asc_filter h fun x => decide (cmpR (pick x.1 key) (pick c.r key) ≠ 0)) c.r 1
    omega
  · omega
theorem upS_num {key : List Int} {P : Bg} {c : Ch} (h : ∀ x ∈ P, -1000000 ≤ x.2 ∧ x.2 ≤ 1000000) : ∀ x ∈ upS key P c, -1000000 ≤ x.2 ∧ x.2 ≤ 1000000 := by
  intro x hx
  unfold upS at hx
  rcases List.mem_append.1 hx with hx | hx
  · exact h x (List.mem_filter.1 hx).1
  · split at hx
    · rw [List.mem_singleton.1 hx]; exact ⟨by show (-1000000 : Int) ≤ 1; decide, by show (1 : Int) ≤ 1000000; decide⟩
    · cases hx
theorem upP_num {key : List Int} {d : Bg} {l : List Ch} (h : ∀ x ∈ d, -1000000 ≤ x.2 ∧ x.2 ≤ 1000000) (k : Nat) : ∀ x ∈ upP key d (l.take k), -1000000 ≤ x.2 ∧ x.2 ≤ 1000000 := by
  induction k with
  | zero => exact h
  | succ k ih =>
    by_cases hk : k < l.length
    · have h1 : l[k]? = some (l[k]'hk) := List.getElem?_eq_getElem hk
      rw [take_snoc' h1, upP_snoc]
      exact upS_num ih
    · rw [List.take_of_length_le (show l.length ≤ k + 1 by omega)]
      rwa [List.take_of_length_le (show l.length ≤ k by omega)] at ih
/-- The numbers of the reference's bag. -/
theorem upQ_num {key : List Int} {d : Bg} {l : List Ch} (hd : okBag d = true) (hl : okChs l = true) (k : Nat) : ∀ x ∈ upQ key d (l.take k), -1000000 ≤ x.2 ∧ x.2 ≤ 1000000 := by
  intro x hx
  have hda := okBag_asc hd
  have hrow : ∀ c ∈ l.take k, okR c.r = true := fun c hc => ((chs_in hl).1 (c.r, c.m) (List.mem_map.2 ⟨_, List.mem_of_mem_take hc, rfl⟩)).1
  obtain ⟨i1, i2, i3⟩ := upQ_look (key := key) hda.1 (fun x hx => (numB_ne (hda.2.1 x hx)).1) hrow
  have h1 := look_mem i1 hx
  rw [i3] at h1
  have h2 := look_bound hda.2.1 x.1
  have h3 : ∀ v, upG key (l.take k) x.1 = some v → v = 0 ∨ v = 1 := by
    have gen : ∀ (m : List Ch) (o : Option Int), (∀ v, o = some v → v = 0 ∨ v = 1) → ∀ v, m.foldl (fun o c => if cmpR (pick x.1 key) (pick c.r key) = 0 then some (if 0 < c.m ∧ c.r = x.1 then 1 else 0) else o) o = some v → v = 0 ∨ v = 1 := by
      intro m
      induction m with
      | nil => intro o h v hv; exact h v hv
      | cons c m ih =>
        intro o h v hv
        rw [List.foldl_cons] at hv
        refine ih _ (fun u hu => ?_) v hv
        split at hu
        · injection hu with hu
          split at hu <;> omega
        · exact h u hu
    exact gen _ none nofun
  cases hg : upG key (l.take k) x.1 with
  | none => rw [hg] at h1; simp at h1; omega
  | some v =>
    rw [hg] at h1
    simp at h1
    have := h3 v hg
    omega
end

section
open Go.RowKit
attribute [local go_sem] Oper.semAt_some
set_option linter.unusedVariables false
set_option linter.unusedSimpArgs false

set_option maxRecDepth 100000 in
set_option maxHeartbeats 2000000 in
theorem idx_ints (A' : Option Addr) (n' c' B : Nat) (xs : List Int) (w : World) (hx : Reads w B 1 A' n' (xs.map (Value.int .i64))) (hn : n' ≤ 9223372036854775807) (hB : B ≤ w.heap.size) (pf : Nat) (caps : Array Value) (p : Int → Bool)
    (eg : ∀ args w, (callFunc pf args).run Tryz.prog w = .ok (.enter pf args) w)
    (hp : ∀ x ∈ xs, ∀ W, Below w.heap.size w W → Calls Tryz.prog pf (#[.int .i64 x] ++ caps) W (RetV W (.bool (p x)))) :
    Calls Tryz.prog 166 #[.slice A' n' c', .func (Fn.func pf) #[] caps] w fun e w' => (∃ i : Int, e = .returned (.int .i64 i) ∧ decide (0 ≤ i) = xs.any p) ∧ Below w.heap.size w w' := by
  have HL := hide hx.len1
  have HP := hide hp
  clear hp
  go_enter Tryz.func166, Tryz.ntmps166
  go_wp2_with fail
  go_loopw [8] (fun i wr => ∃ k : Nat, k ≤ n' ∧ i = .int .i64 k ∧ (xs.take k).any p = false ∧ Below w.heap.size w wr) (fun i _ => n' - (intOf i).toNat)
  case atStart => exact ⟨0, Nat.zero_le _, rfl, rfl, Below.refl _ _⟩
  case round =>
    obtain ⟨k, hk, rfl, hany, hBw⟩ := hrel
    have HA := hide hany
    clear hany
    by_cases hlt : k < n'
    · obtain ⟨b, off, x, rfl, hb, hxk, c0⟩ := (hx.below (hBw.mono hB)).at1 hlt
      have HE := hide hxk
      have HC := hide (HP.out x (List.mem_of_getElem? hxk) wr hBw)
      clear hxk
      have q1 : (0 : Int) ≤ (k : Int) := by omega
      have q2 : (k : Int) < (n' : Int) := by omega
      obtain ⟨b, hb⟩ : ∃ b, p x = b := ⟨_, rfl⟩
      rw [hb] at HC
      have HPX := hide hb
      clear hb
      go_wp2_with fail
      refine HC.out.mono ?_
      rintro ee w1 ⟨rfl, hB1⟩
      have hB2 := bstep hBw hB1
      clear HC hB1 hBw c0
      cases b
      · have HX := hide (show (xs.take (k + 1)).any p = false by rw [take_snoc' HE.out, List.any_append, HA.out]; simp [HPX.out])
        go_wp2
        go_roundw
        case rel => exact ⟨k + 1, by omega, by go_num, HX.out, hB2⟩
        case measure => simp [intOf]; omega
      · have HX := hide (show xs.any p = true from List.any_eq_true.2 ⟨x, List.mem_of_getElem? HE.out, HPX.out⟩)
        go_wp2
        go_ret
        exact ⟨⟨_, rfl, by rw [HX.out]; simp⟩, hB2⟩
    · obtain rfl : k = n' := by omega
      go_wp2
      go_ret
      exact ⟨⟨_, rfl, by
        have := HA.out
        rw [take_all HL.out] at this
        rw [this]; rfl⟩, hBw⟩
theorem con_ints (A' : Option Addr) (n' c' B : Nat) (xs : List Int) (w : World) (hx : Reads w B 1 A' n' (xs.map (Value.int .i64))) (hn : n' ≤ 9223372036854775807) (hB : B ≤ w.heap.size) (pf : Nat) (caps : Array Value) (p : Int → Bool)
    (eg : ∀ args w, (callFunc pf args).run Tryz.prog w = .ok (.enter pf args) w)
    (hp : ∀ x ∈ xs, ∀ W, Below w.heap.size w W → Calls Tryz.prog pf (#[.int .i64 x] ++ caps) W (RetV W (.bool (p x)))) :
    Calls Tryz.prog 121 #[.slice A' n' c', .func (Fn.func pf) #[] caps] w (RetV w (.bool (xs.any p))) := by
  have HI := hide (idx_ints A' n' c' B xs w hx hn hB pf caps p eg hp)
  clear hp
  go_enter Tryz.func121, Tryz.ntmps121
  go_wp2_with (go_at_call 166; refine HI.out.mono ?_; rintro e w' ⟨⟨i, rfl, hi⟩, hB1⟩)
  go_ret
  exact ⟨rfl, hB1⟩
/-- What the closure `of` tells of a row. -/
def ofT (key : List Int) (r : Rw) : ByteArray := if hasB r key then ⟨(keyT key r).toArray⟩ else ⟨#[]⟩
end

end Go.Proofs.YtoapjidpfghnlaaGreatDoor
