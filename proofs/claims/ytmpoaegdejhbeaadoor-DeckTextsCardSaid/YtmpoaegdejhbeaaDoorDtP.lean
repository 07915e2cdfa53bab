/-
  Graphs as texts, in plain data, the second part: lines and whole texts. No program's run in sight; no condition.
-/
import Derived.Test.YtmpoaegdejhbeaaDoorDtM
import Derived.Lib.ItoaLen
namespace Go.Proofs.YtmpoaegdejhbeaaDoor
set_option linter.unusedVariables false
set_option linter.unusedSimpArgs false

def opW : List UInt8 := [111, 112, 101, 114, 97, 116, 111, 114, 115]
def pipW : List UInt8 := [112, 105, 112, 101]
def stoW : List UInt8 := [115, 116, 111, 114, 101]
structure GC where
  ops : List Int
  es : List Ed
def validC (g : GC) : Bool := decide (1 ≤ g.ops.length ∧ g.ops.length ≤ 200) && decide (g.es.length ≤ 400) && !g.ops.any (outT 200) && esB g.ops.length g.es
def chk (g : GC) : Option GC := if validC g then some g else none
def hdW (x : List UInt8) : List UInt8 := (Lib.split x [32]).headD []
def tlW (x : List UInt8) : List (List UInt8) := (Lib.split x [32]).tail
theorem hd_tl (x : List UInt8) : Lib.split x [32] = hdW x :: tlW x ∧ joinL (hdW x :: tlW x) = x := by
  obtain ⟨h1, h2⟩ := split_back x
  obtain ⟨a, l, e⟩ := List.exists_cons_of_ne_nil h1
  unfold hdW tlW
  rw [e] at h2 ⊢
  exact ⟨rfl, h2⟩
/-- A line read into a graph, as the program does it. -/
def stepT (st : GC) (fst : Bool) (x : List UInt8) : Option GC :=
  match numsO numT (tlW x) with
  | none => none
  | some l => if fst then (if hdW x = opW then chk ⟨l, st.es⟩ else none)
    else match l with
      | [a, b] => if hdW x = pipW then chk ⟨st.ops, st.es ++ [⟨a, b, false⟩]⟩ else if hdW x = stoW then chk ⟨st.ops, st.es ++ [⟨a, b, true⟩]⟩ else none
      | _ => none
def firstT (l : List Int) : List UInt8 := joinL (opW :: l.map Lib.itoa)
def edgeT (e : Ed) : List UInt8 := joinL [if e.s then stoW else pipW, Lib.itoa e.f, Lib.itoa e.t]
/-- .. and as the reference does it. -/
def stepQ (st : GC) (fst : Bool) (x : List UInt8) : Option GC :=
  match numsO numQ (tlW x) with
  | none => none
  | some l => if fst then (if firstT l = x then chk ⟨l, st.es⟩ else none)
    else match l with
      | [a, b] => if edgeT ⟨a, b, decide (hdW x = stoW)⟩ = x then chk ⟨st.ops, st.es ++ [⟨a, b, decide (hdW x = stoW)⟩]⟩ else none
      | _ => none
theorem chk_some {g g' : GC} (h : chk g = some g') : g' = g ∧ validC g = true := by
  unfold chk at h
  split at h
  · rename_i hv
    injection h with h
    exact ⟨h.symm, hv⟩
  · cases h
theorem opW_no : ∀ c ∈ opW, c ≠ 32 ∧ c ≠ 10 := by decide
theorem pipW_no : ∀ c ∈ pipW, c ≠ 32 ∧ c ≠ 10 := by decide
theorem stoW_no : ∀ c ∈ stoW, c ≠ 32 ∧ c ≠ 10 := by decide
theorem itoa_nl (n : Int) : ∀ c ∈ Lib.itoa n, c ≠ 32 ∧ c ≠ 10 := by
  have key : ∀ u, ∀ c ∈ Lib.decDigits u, c ≠ 32 ∧ c ≠ 10 := fun u c hc => by
    have := (dec_all u).1 c hc
    constructor
    · rintro rfl; revert this; decide
    · rintro rfl; revert this; decide
  unfold Lib.itoa
  split
  · intro c hc
    rcases List.mem_cons.1 hc with rfl | hc
    · decide
    · exact key _ c hc
  · exact key _
theorem edge_split (e : Ed) : Lib.split (edgeT e) [32] = [if e.s then stoW else pipW, Lib.itoa e.f, Lib.itoa e.t] := by
  unfold edgeT
  refine split_wds fun v hv c hc => ?_
  simp only [List.mem_cons, List.not_mem_nil, or_false] at hv
  rcases hv with rfl | rfl | rfl
  · revert hc
    cases e.s
    · exact fun hc => (pipW_no c hc).1
    · exact fun hc => (stoW_no c hc).1
  · exact (itoa_nl _ c hc).1
  · exact (itoa_nl _ c hc).1
theorem first_split (l : List Int) : Lib.split (firstT l) [32] = opW :: l.map Lib.itoa := by
  unfold firstT
  refine split_wds fun v hv c hc => ?_
  rcases List.mem_cons.1 hv with rfl | hv
  · exact (opW_no c hc).1
  · obtain ⟨n, _, rfl⟩ := List.mem_map.1 hv
    exact (itoa_nl _ c hc).1
theorem joinL_nl (c : UInt8) (hc : c ≠ 32) : ∀ ws : List (List UInt8), (∀ v ∈ ws, ∀ b ∈ v, b ≠ c) → ∀ b ∈ joinL ws, b ≠ c
  | [], _, b, hb => by cases hb
  | [w], h, b, hb => h w (by simp) b hb
  | w :: v :: ws, h, b, hb => by
    rcases List.mem_append.1 (show b ∈ w ++ 32 :: joinL (v :: ws) from hb) with hb | hb
    · exact h w (by simp) b hb
    · rcases List.mem_cons.1 hb with rfl | hb
      · exact hc.symm
      · exact joinL_nl c hc (v :: ws) (fun x hx => h x (List.mem_cons_of_mem _ hx)) b hb
theorem edge_nl (e : Ed) : ∀ b ∈ edgeT e, b ≠ 10 := by
  refine joinL_nl 10 (by decide) _ fun v hv b hb => ?_
  simp only [List.mem_cons, List.not_mem_nil, or_false] at hv
  rcases hv with rfl | rfl | rfl
  · revert hb
    cases e.s
    · exact fun hb => (pipW_no b hb).2
    · exact fun hb => (stoW_no b hb).2
  · exact (itoa_nl _ b hb).2
  · exact (itoa_nl _ b hb).2
theorem first_nl (l : List Int) : ∀ b ∈ firstT l, b ≠ 10 := by
  refine joinL_nl 10 (by decide) _ fun v hv b hb => ?_
  rcases List.mem_cons.1 hv with rfl | hv
  · exact (opW_no b hb).2
  · obtain ⟨n, _, rfl⟩ := List.mem_map.1 hv
    exact (itoa_nl _ b hb).2
theorem valid_ops {g : GC} (h : validC g = true) : ∀ n ∈ g.ops, 0 ≤ n ∧ n < 200 := by
  unfold validC at h
  simp only [Bool.and_eq_true, Bool.not_eq_true', List.any_eq_false] at h
  intro n hn
  have := h.1.2 n hn
  unfold outT at this
  simp at this
  omega
theorem valid_last {g : GC} {e : Ed} {l : List Ed} (h : validC ⟨g.ops, l ++ [e]⟩ = true) : 0 ≤ e.f ∧ e.f < e.t ∧ e.t < 200 := by
  unfold validC at h
  simp only [Bool.and_eq_true, decide_eq_true_eq] at h
  have h2 := List.all_eq_true.1 h.2 l.length (List.mem_range.2 (by simp))
  unfold okAt at h2
  rw [List.getElem?_append_right (Nat.le_refl _)] at h2
  simp [badE] at h2
  omega
theorem okAt_pre (n : Nat) (l : List Ed) (e : Ed) (i : Nat) (hi : i < l.length) : okAt n (l ++ [e]) i = okAt n l i := by
  unfold okAt
  rw [List.getElem?_append_left hi, List.take_append_of_le_length (by omega)]
theorem valid_pre {ops : List Int} {l : List Ed} {e : Ed} (h : validC ⟨ops, l ++ [e]⟩ = true) : validC ⟨ops, l⟩ = true := by
  unfold validC at h ⊢
  simp only [Bool.and_eq_true, decide_eq_true_eq, List.length_append, List.length_cons, List.length_nil] at h ⊢
  refine ⟨⟨⟨h.1.1.1, by omega⟩, h.1.2⟩, ?_⟩
  unfold esB
  rw [List.all_eq_true]
  intro i hi
  have hi' := List.mem_range.1 hi
  have := List.all_eq_true.1 h.2 i (List.mem_range.2 (by simp; omega))
  rwa [okAt_pre _ _ _ _ hi'] at this
theorem valid_take {ops : List Int} : ∀ (m l : List Ed), validC ⟨ops, l ++ m⟩ = true → validC ⟨ops, l⟩ = true := by
  intro m
  induction hm : m.length generalizing m with
  | zero => intro l h; obtain rfl := List.length_eq_zero_iff.1 hm; simpa using h
  | succ k ih =>
    intro l h
    have hne : m ≠ [] := by intro e; rw [e] at hm; cases hm
    obtain ⟨a, e, rfl⟩ : ∃ a e, m = a ++ [e] := ⟨m.dropLast, m.getLast hne, (List.dropLast_concat_getLast _).symm⟩
    rw [← List.append_assoc] at h
    exact ih a (by rw [List.length_append] at hm; simpa using hm) l (valid_pre h)
theorem itoa_inj {a b : Int} (ha : -9223372036854775808 ≤ a ∧ a ≤ 9223372036854775807) (hb : -9223372036854775808 ≤ b ∧ b ≤ 9223372036854775807) (h : Lib.itoa a = Lib.itoa b) : a = b := by
  have h1 := atoi_itoa a ha.1 ha.2
  rw [h, atoi_itoa b hb.1 hb.2] at h1
  injection h1 with h1
  exact h1.symm
/-- What a line is that was read. -/
theorem step_edge {st g : GC} {x : List UInt8} (h : stepT st false x = some g) : ∃ e, g = ⟨st.ops, st.es ++ [e]⟩ ∧ x = edgeT e ∧ validC g = true := by
  unfold stepT at h
  split at h
  · cases h
  · rename_i l hl
    have hb := numsO_back (fun w n => numT_some) hl
    obtain ⟨_, hj⟩ := hd_tl x
    simp only [Bool.false_eq_true, if_false] at h
    split at h
    · rename_i a b
      split at h
      · rename_i hp
        obtain ⟨e, hv⟩ := chk_some h
        refine ⟨_, e, ?_, by rw [e]; exact hv⟩
        rw [← hj, hb, hp]
        rfl
      · split at h
        · rename_i hp
          obtain ⟨e, hv⟩ := chk_some h
          refine ⟨_, e, ?_, by rw [e]; exact hv⟩
          rw [← hj, hb, hp]
          rfl
        · cases h
    · cases h
theorem step_first {st g : GC} {x : List UInt8} (h : stepT st true x = some g) : ∃ l, g = ⟨l, st.es⟩ ∧ x = firstT l ∧ validC g = true := by
  unfold stepT at h
  split at h
  · cases h
  · rename_i l hl
    have hb := numsO_back (fun w n => numT_some) hl
    obtain ⟨_, hj⟩ := hd_tl x
    simp only [if_true] at h
    split at h
    · rename_i hp
      obtain ⟨e, hv⟩ := chk_some h
      refine ⟨l, e, ?_, by rw [e]; exact hv⟩
      rw [← hj, hb, hp]
      rfl
    · cases h
/-- A line that was written is read. -/
theorem edge_step {st : GC} {e : Ed} (hv : validC ⟨st.ops, st.es ++ [e]⟩ = true) : stepT st false (edgeT e) = some ⟨st.ops, st.es ++ [e]⟩ := by
  have hl := valid_last hv
  have hn : numsO numT (tlW (edgeT e)) = some [e.f, e.t] := by
    unfold tlW
    rw [edge_split]
    exact numsO_itoa (l := [e.f, e.t]) fun n hn => by
      simp only [List.mem_cons, List.not_mem_nil, or_false] at hn
      exact numT_itoa (by omega) (by omega)
  have hh : hdW (edgeT e) = if e.s then stoW else pipW := by unfold hdW; rw [edge_split]; rfl
  unfold stepT
  rw [hn, hh]
  simp only [Bool.false_eq_true, if_false]
  obtain ⟨f, t, s⟩ := e
  cases s
  · simp only [Bool.false_eq_true, if_false, if_true]
    unfold chk
    rw [if_pos hv]
  · have d : stoW ≠ pipW := by decide
    simp only [if_true]
    rw [if_neg d]
    unfold chk
    rw [if_pos hv]
theorem first_step {st : GC} {l : List Int} (hv : validC ⟨l, st.es⟩ = true) : stepT st true (firstT l) = some ⟨l, st.es⟩ := by
  have hn : numsO numT (tlW (firstT l)) = some l := by
    unfold tlW
    rw [first_split]
    exact numsO_itoa fun n hn => by
      have := valid_ops hv n hn
      exact numT_itoa (by omega) (by omega)
  have hh : hdW (firstT l) = opW := by unfold hdW; rw [first_split]; rfl
  unfold stepT
  rw [hn, hh]
  simp only [if_true]
  unfold chk
  rw [if_pos hv]
theorem step_same (st : GC) (fst : Bool) (x : List UInt8) : stepQ st fst x = stepT st fst x := by
  refine Option.ext fun g => ⟨fun h => ?_, fun h => ?_⟩
  · cases fst
    · unfold stepQ at h
      split at h
      · cases h
      · simp only [Bool.false_eq_true, if_false] at h
        split at h
        · rename_i a b _
          split at h
          · rename_i he
            obtain ⟨e, hv⟩ := chk_some h
            have := edge_step (st := st) hv
            rw [he] at this
            rw [e]
            exact this
          · cases h
        · cases h
    · unfold stepQ at h
      split at h
      · cases h
      · simp only [if_true] at h
        split at h
        · rename_i he
          obtain ⟨e, hv⟩ := chk_some h
          have := first_step (st := st) hv
          rw [he] at this
          rw [e]
          exact this
        · cases h
  · cases fst
    · obtain ⟨e, rfl, rfl, hv⟩ := step_edge h
      have hl := valid_last hv
      have hn : numsO numQ (tlW (edgeT e)) = some [e.f, e.t] := by
        unfold tlW
        rw [edge_split]
        exact numsO_itoa (l := [e.f, e.t]) fun n hn => by
          simp only [List.mem_cons, List.not_mem_nil, or_false] at hn
          exact numQ_itoa n (by omega) (by omega)
      have hh : hdW (edgeT e) = if e.s then stoW else pipW := by unfold hdW; rw [edge_split]; rfl
      have hs : decide (hdW (edgeT e) = stoW) = e.s := by
        rw [hh]
        cases e.s
        · have d : pipW ≠ stoW := by decide
          simp [d]
        · simp
      unfold stepQ
      rw [hn, hs]
      simp only [Bool.false_eq_true, if_false]
      unfold chk
      rw [if_pos trivial, if_pos hv]
    · obtain ⟨l, rfl, rfl, hv⟩ := step_first h
      have hn : numsO numQ (tlW (firstT l)) = some l := by
        unfold tlW
        rw [first_split]
        exact numsO_itoa fun n hn => by
          have := valid_ops hv n hn
          exact numQ_itoa n (by omega) (by omega)
      unfold stepQ
      rw [hn]
      simp only [if_true]
      unfold chk
      rw [if_pos hv]
/-! Whole texts. -/
def parG (f : GC → Bool → List UInt8 → Option GC) : Nat → GC → Nat → List UInt8 → Option GC × Nat × Int
  | 0, _, _, _ => (none, 0, 0)
  | n + 1, st, i, l => if l = [] ∧ i ≠ 0 then (some st, 0, 0) else match cutN 10 l with
    | none => (none, i, 2)
    | some (x, y) => match f st (i == 0) x with
      | none => (none, i, 2)
      | some st' => parG f n st' (i + 1) y
def parB (f : GC → Bool → List UInt8 → Option GC) (l : List UInt8) : Option GC × Nat × Int := if 65536 < l.length then (none, 0, 3) else parG f (l.length + 1) ⟨[], []⟩ 0 l
theorem parB_same (l : List UInt8) : parB stepQ l = parB stepT l := by
  have : stepQ = stepT := by funext a b c; exact step_same a b c
  rw [this]
def lineE (e : Ed) : List UInt8 := edgeT e ++ [10]
def fmtL (g : GC) : List UInt8 := firstT g.ops ++ 10 :: g.es.flatMap lineE
def fmtG (g : GC) : List UInt8 := if validC g then fmtL g else []
theorem par_edges (ops : List Int) : ∀ (m l : List Ed) (n i : Nat), validC ⟨ops, l ++ m⟩ = true → i ≠ 0 → (m.flatMap lineE).length < n → parG stepT n ⟨ops, l⟩ i (m.flatMap lineE) = (some ⟨ops, l ++ m⟩, 0, 0)
  | [], l, 0, i, _, _, hn => absurd hn (Nat.not_lt_zero _)
  | [], l, n + 1, i, _, hi, _ => by
    rw [parG, if_pos ⟨rfl, hi⟩, List.append_nil]
  | e :: m, l, 0, i, _, _, hn => absurd hn (Nat.not_lt_zero _)
  | e :: m, l, n + 1, i, hv, hi, hn => by
    have he : (e :: m).flatMap lineE = edgeT e ++ 10 :: m.flatMap lineE := by simp [lineE]
    rw [he] at hn ⊢
    rw [parG, if_neg (fun h => by simp at h), cutN_app 10 _ _ (edge_nl e)]
    have hv2 : validC ⟨ops, l ++ [e]⟩ = true := valid_take m (l ++ [e]) (by simpa using hv)
    have hs := edge_step (st := ⟨ops, l⟩) (e := e) hv2
    have hi0 : (i == 0) = false := by simpa using hi
    rw [hi0]
    simp only [hs]
    rw [par_edges ops m (l ++ [e]) n (i + 1) (by simpa using hv) (by omega) (by rw [List.length_append, List.length_cons] at hn; omega)]
    simp
theorem par_fmt {g : GC} (hv : validC g = true) (hl : (fmtL g).length ≤ 65536) : parB stepT (fmtL g) = (some g, 0, 0) := by
  unfold parB
  rw [if_neg (by omega)]
  obtain ⟨ops, es⟩ := g
  unfold fmtL at hl ⊢
  rw [parG, if_neg (fun h => h.2 rfl), cutN_app 10 _ _ (first_nl _)]
  have hs := first_step (st := ⟨[], []⟩) (l := ops) (valid_take es [] (by simpa using hv))
  simp only [beq_self_eq_true, hs]
  rw [par_edges ops es [] _ 1 (by simpa using hv) (by omega) (by simp only [List.length_append, List.length_cons]; omega)]
  rfl
theorem par_back : ∀ (n : Nat) (st g : GC) (i : Nat) (l : List UInt8) (k : Nat), i ≠ 0 → validC st = true → parG stepT n st i l = (some g, k, 0) → k = 0 ∧ validC g = true ∧ ∃ m, g = ⟨st.ops, st.es ++ m⟩ ∧ l = m.flatMap lineE
  | 0, st, g, i, l, k, hi, hv, h => by cases h
  | n + 1, st, g, i, l, k, hi, hv, h => by
    rw [parG] at h
    split at h
    · rename_i h0
      simp only [Prod.mk.injEq, Option.some.injEq] at h
      obtain ⟨rfl, rfl, _⟩ := h
      exact ⟨rfl, hv, [], by simp, by rw [h0.1]; rfl⟩
    · split at h
      · simp at h
      · rename_i x y hc
        obtain ⟨h1, _⟩ := cutN_some 10 l x y hc
        have hi0 : (i == 0) = false := by simpa using hi
        rw [hi0] at h
        split at h
        · simp at h
        · rename_i st' hs
          obtain ⟨e, rfl, rfl, hv2⟩ := step_edge hs
          obtain ⟨h2, h3, m, h4, h5⟩ := par_back n _ g (i + 1) y k (by omega) hv2 h
          refine ⟨h2, h3, e :: m, by rw [h4]; simp, ?_⟩
          rw [h1, h5]
          simp [lineE]
theorem par_ok {g : GC} {l : List UInt8} {k : Nat} (h : parB stepT l = (some g, k, 0)) : k = 0 ∧ validC g = true ∧ fmtG g = l := by
  unfold parB at h
  split at h
  · simp at h
  · rw [parG, if_neg (fun h => h.2 rfl)] at h
    split at h
    · simp at h
    · rename_i x y hc
      obtain ⟨h1, _⟩ := cutN_some 10 l x y hc
      simp only [beq_self_eq_true] at h
      split at h
      · simp at h
      · rename_i st' hs
        obtain ⟨ls, rfl, rfl, hv2⟩ := step_first hs
        obtain ⟨h2, h3, m, h4, h5⟩ := par_back _ _ g 1 y k (by omega) hv2 h
        refine ⟨h2, h3, ?_⟩
        unfold fmtG fmtL
        rw [if_pos h3, h1, h5, h4]
        simp
/-- What comes back beside an error: no graph. -/
theorem par_form (f : GC → Bool → List UInt8 → Option GC) : ∀ (n : Nat) (st : GC) (i : Nat) (l : List UInt8), l.length < n → ((parG f n st i l).1.isSome = true ∧ (parG f n st i l).2 = (0, 0)) ∨ ((parG f n st i l).1 = none ∧ (parG f n st i l).2.2 = 2)
  | 0, _, _, _, h => absurd h (Nat.not_lt_zero _)
  | n + 1, st, i, l, h => by
    rw [parG]
    split
    · exact .inl ⟨rfl, rfl⟩
    · split
      · exact .inr ⟨rfl, rfl⟩
      · rename_i x y hc
        obtain ⟨h1, _⟩ := cutN_some 10 l x y hc
        split
        · exact .inr ⟨rfl, rfl⟩
        · exact par_form f n _ (i + 1) y (by rw [h1, List.length_append, List.length_cons] at h; omega)
theorem fmt_short {g : GC} (h1 : g.ops.length ≤ 200) (h2 : g.es.length ≤ 400) (hv : validC g = true) : (fmtL g).length ≤ 65536 := by
  have key : ∀ n : Int, 0 ≤ n → n < 200 → (Lib.itoa n).length ≤ 21 := fun n h0 h1 => Lib.itoa_length_le n (by omega) (by omega)
  have jl : ∀ (m : Nat) (ws : List (List UInt8)), (∀ v ∈ ws, v.length ≤ m) → (joinL ws).length ≤ (m + 1) * ws.length := by
    intro m ws
    induction ws with
    | nil => intro _; exact Nat.zero_le _
    | cons w ws ih =>
      intro h
      have hw := h w (by simp)
      by_cases he : ws = []
      · subst he
        show w.length ≤ (m + 1) * 1
        omega
      · rw [joinL_cons he, List.length_append, List.length_cons, List.length_cons, Nat.mul_succ]
        have := ih fun v hv => h v (List.mem_cons_of_mem _ hv)
        omega
  have hf := jl 21 (opW :: g.ops.map Lib.itoa) (by
    intro v hv2
    rcases List.mem_cons.1 hv2 with rfl | hv2
    · decide
    · obtain ⟨n, hn, rfl⟩ := List.mem_map.1 hv2
      have := valid_ops hv n hn
      exact key n (by omega) (by omega))
  have hes : ∀ (m l : List Ed), validC ⟨g.ops, l ++ m⟩ = true → (m.flatMap lineE).length ≤ 67 * m.length := by
    intro m
    induction m with
    | nil => intro l _; exact Nat.le_refl _
    | cons e m ih =>
      intro l hv2
      have hv3 : validC ⟨g.ops, l ++ [e]⟩ = true := valid_take m (l ++ [e]) (by simpa using hv2)
      have hb := valid_last hv3
      have h3 := jl 21 [if e.s then stoW else pipW, Lib.itoa e.f, Lib.itoa e.t] (by
        intro v hv4
        simp only [List.mem_cons, List.not_mem_nil, or_false] at hv4
        rcases hv4 with rfl | rfl | rfl
        · cases e.s <;> decide
        · exact key _ (by omega) (by omega)
        · exact key _ (by omega) (by omega))
      have h4 : (edgeT e).length ≤ 22 * 3 := h3
      have := ih (l ++ [e]) (by simpa using hv2)
      rw [List.flatMap_cons, List.length_append, List.length_cons]
      have h5 : (lineE e).length = (edgeT e).length + 1 := by simp [lineE]
      omega
  have h6 := hes g.es [] (by simpa using hv)
  unfold fmtL
  rw [List.length_append, List.length_cons]
  have h7 : (firstT g.ops).length ≤ 22 * (g.ops.length + 1) := by
    have := hf
    rw [List.length_cons, List.length_map] at this
    exact this
  omega
end Go.Proofs.YtmpoaegdejhbeaaDoor
