/-
  A map from keys to rows of numbers that a call makes and lets grow, and which rows have which key. No condition.
  Items that a call holds by the way, in a box, and one more put behind them. No condition.
  What lies in memory while pair.outer joins: the list in its box, the map of keys, the row of bools, the keys. No condition.
  The walk of pair.together: items that a call holds are sorted, and equal ones that lie side by side are added up. No condition.
-/
import Derived.Test.YtoapjidpfghnlaaGreatDoorOuN
import Derived.Test.YtoapjidpfghnlaaGreatDoorPrK
import Derived.Test.YtoapjidpfghnlaaGreatDoorGat
import Derived.Test.YtoapjidpfghnlaaGreatDoorGb
import Derived.Test.YtoapjidpfghnlaaGreatDoorOuV
import Derived.Test.YtoapjidpfghnlaaGreatDoorRngH
namespace Go.Proofs.YtoapjidpfghnlaaGreatDoor

section
open Go.RowKit Go.Maps
set_option linter.unusedVariables false
set_option linter.unusedSimpArgs false

/-! Plain: the numbers of the rows that have a key. -/
def kyF (others : List Int) (r : Rw) : Option (List UInt8) := if nonul (pick r others) then some (keyC (pick r others)) else none
def atL (others : List Int) (r : Bg) (i : Nat) (kk : List UInt8) : List Nat := (List.range i).filter fun k => match r[k]? with
  | some y => decide (kyF others y.1 = some kk)
  | none => false
theorem atL_succ {others : List Int} {r : Bg} {i : Nat} {y : Rw × Int} (hy : r[i]? = some y) (kk : List UInt8) : atL others r (i + 1) kk = if kyF others y.1 = some kk then atL others r i kk ++ [i] else atL others r i kk := by
  unfold atL
  rw [List.range_succ, List.filter_append]
  by_cases h : kyF others y.1 = some kk
  · rw [if_pos h, List.filter_cons_of_pos (by rw [hy]; simpa using h)]
    rfl
  · rw [if_neg h, List.filter_cons_of_neg (by rw [hy]; simpa using h)]
    simp
theorem atL_mem {others : List Int} {r : Bg} {i k : Nat} {kk : List UInt8} (h : k ∈ atL others r i kk) : k < i ∧ ∃ y, r[k]? = some y ∧ kyF others y.1 = some kk := by
  unfold atL at h
  obtain ⟨h1, h2⟩ := List.mem_filter.1 h
  refine ⟨List.mem_range.1 h1, ?_⟩
  cases hy : r[k]? with
  | none => rw [hy] at h2; cases h2
  | some y => rw [hy] at h2; exact ⟨y, rfl, by simpa using h2⟩
theorem atL_in {others : List Int} {r : Bg} {i k : Nat} {kk : List UInt8} {y : Rw × Int} (hk : k < i) (hy : r[k]? = some y) : k ∈ atL others r i kk ↔ kyF others y.1 = some kk := by
  unfold atL
  rw [List.mem_filter, hy]
  simp [hk]
theorem atL_len (others : List Int) (r : Bg) (i : Nat) (kk : List UInt8) : (atL others r i kk).length ≤ i := by
  unfold atL
  have := List.length_filter_le (fun k => match r[k]? with | some y => decide (kyF others y.1 = some kk) | none => false) (List.range i)
  simpa using this
theorem kyF_of {others : List Int} {r : Rw} (h : nonul (pick r others) = true) : kyF others r = some (ofS others r).data.toList := by
  unfold kyF ofS
  rw [if_pos h, if_pos h]
theorem kyF_no {others : List Int} {r : Rw} (h : nonul (pick r others) = false) : kyF others r = none := by
  unfold kyF
  rw [h]
  rfl
/-- Two rows have one key exactly if they are found by it. -/
theorem eqK_ky {on others : List Int} {l r : Rw} (hn : on.length = others.length) (hl : l.all okV = true) (hr : r.all okV = true) (h2 : hasC r others = true) : eqK on others l r = decide (kyF others r = some (ofS on l).data.toList) := by
  cases h1 : nonul (pick l on)
  · rw [show eqK on others l r = false from by unfold eqK; rw [h1]; rfl]
    symm
    rw [decide_eq_false_iff_not]
    intro e
    unfold ofS kyF at e
    rw [h1] at e
    cases h3 : nonul (pick r others) with
    | false => rw [h3] at e; cases e
    | true =>
      rw [h3] at e
      simp only [if_true] at e
      injection e with e
      have e : keyC (pick r others) = [] := e
      cases others with
      | nil =>
        obtain rfl : on = [] := List.eq_nil_of_length_eq_zero (by simpa using hn)
        cases h1
      | cons c cs =>
        obtain ⟨v, hv⟩ := hasC_val h2 (k := 0) (x := c) rfl
        have : pick r (c :: cs) = v :: pick r cs := by unfold pick; rw [List.filterMap_cons, hv]
        rw [this] at e
        simp [keyC] at e
  · rw [← eqK_text hl hr, h1, Bool.true_and]
    cases h3 : nonul (pick r others)
    · rw [kyF_no h3]
      rfl
    · unfold ofS kyF
      rw [h1, h3, Bool.true_and, decide_eq_decide]
      simp only [if_true]
      constructor
      · intro e; rw [e]
      · intro e; injection e with e; exact e.symm
/-- What a left row and right row k are joined to. -/
def jnF (x : Rw × Int) (r : Bg) (k : Nat) : Rw × Int := ((r[k]?).map fun y => (x.1 ++ y.1, x.2 * y.2)).getD ([], 0)
theorem jnF_at {x y : Rw × Int} {r : Bg} {k : Nat} (h : r[k]? = some y) : jnF x r k = (x.1 ++ y.1, x.2 * y.2) := by unfold jnF; rw [h]; rfl
section
variable {on others : List Int} {x : Rw × Int} {r : Bg} {kk : List UInt8}
theorem at_pairs (hk : ∀ y ∈ r, eqK on others x.1 y.1 = decide (kyF others y.1 = some kk)) : pairL on others x r = (atL others r r.length kk).map (jnF x r) := by
  have key : ∀ i, i ≤ r.length → pairL on others x (r.take i) = (atL others r i kk).map (jnF x r) := by
    intro i
    induction i with
    | zero => intro _; rfl
    | succ i ih =>
      intro hi
      have hy : r[i]? = some r[i] := List.getElem?_eq_getElem (by omega)
      rw [take_snoc' hy, pairL_snoc, ih (by omega), atL_succ hy, hk _ (List.getElem_mem _)]
      by_cases h : kyF others r[i].1 = some kk
      · rw [if_pos h, List.map_append, decide_eq_true h, if_pos rfl]
        congr 1
        rw [List.map_cons, List.map_nil, jnF_at hy]
      · rw [if_neg h, decide_eq_false h]
        simp
  have := key r.length (Nat.le_refl _)
  rwa [List.take_length] at this
theorem at_meets (hk : ∀ y ∈ r, eqK on others x.1 y.1 = decide (kyF others y.1 = some kk)) : meets on others x r = decide (0 < (atL others r r.length kk).length) := by
  have h1 := congrArg List.length (at_pairs hk)
  rw [List.length_map] at h1
  rw [← h1]
  unfold pairL meets
  rw [List.length_map]
  induction r with
  | nil => rfl
  | cons y r ih =>
    rw [List.any_cons, List.filter_cons]
    cases h : eqK on others x.1 y.1
    · rw [Bool.false_or]
      refine (ih (fun z hz => hk z (List.mem_cons_of_mem _ hz)) ?_).trans (by simp)
      have := congrArg List.length (at_pairs fun z hz => hk z (List.mem_cons_of_mem _ hz))
      simpa using this
    · simp
theorem at_lone (hk : ∀ y ∈ r, eqK on others x.1 y.1 = decide (kyF others y.1 = some kk)) (l : Bg) {j : Nat} (hj : j < r.length) : loneF on others (l ++ [x]) r j = (loneF on others l r j && !decide (j ∈ atL others r r.length kk)) := by
  have hy : r[j]? = some r[j] := List.getElem?_eq_getElem hj
  rw [loneF_at hy, loneF_at hy, loneB_snoc, hk _ (List.getElem_mem _)]
  congr 2
  rw [decide_eq_decide]
  exact (atL_in hj hy).symm
theorem at_none (hn : on.length = others.length) (hx : x.1.all okV = true) (hr : ∀ y ∈ r, y.1.all okV = true ∧ hasC y.1 others = true) (h : nonul (pick x.1 on) = false) : atL others r r.length (ofS on x.1).data.toList = [] := by
  refine List.eq_nil_iff_forall_not_mem.2 fun k hk => ?_
  obtain ⟨h1, y, hy, h2⟩ := atL_mem hk
  obtain ⟨a, b⟩ := hr y (List.mem_of_getElem? hy)
  have := eqK_ky (l := x.1) hn hx a b
  rw [decide_eq_true h2] at this
  unfold eqK at this
  rw [h] at this
  cases this
end
/-- What was met when some of the numbers were gone through. -/
def mdF (f : Nat → Bool) (ii : List Nat) (m j : Nat) : Bool := f j || decide (j ∈ ii.take m)
theorem mdF_zero (f : Nat → Bool) (ii : List Nat) : mdF f ii 0 = f := by funext j; simp [mdF]
theorem mdF_succ {f : Nat → Bool} {ii : List Nat} {m k : Nat} (h : ii[m]? = some k) (j : Nat) : (if j = k then true else mdF f ii m j) = mdF f ii (m + 1) j := by
  unfold mdF
  rw [take_snoc' h]
  by_cases e : j = k
  · subst e; simp
  · rw [if_neg e]; simp [e]

/-! In memory. -/
theorem own_blockU {w w' : World} {base : Nat} {e : TypeId} {size n : Nat} {v : Value} {xs : List Value} (h : w.ownsRow base e size v n xs) (hk : ∀ g, v.ownBlock = some g → w'.heap[g]? = w.heap[g]?) : w'.ownsRow base e size v n xs := by
  refine ⟨h.1, ?_⟩
  rcases h.2 with h1 | ⟨g, cap, cur, rfl, h2, h3, h4⟩
  · exact .inl h1
  · exact .inr ⟨g, cap, cur, rfl, h2, (hk g rfl).trans h3, h4⟩
def encN (k : Nat) : Value := .int .i64 (k : Int)
structure AtM (w : World) (base bM i : Nat) (f : List UInt8 → List Nat) : Prop where
  ex : ∃ (F : Lit → Option Value) (V : List UInt8 → Value) (c : Nat), MapF w Tryz.prog 9 bM c F ∧ c ≤ i ∧ (∀ q, (F (.string q)).getD (.slice none 0 0) = V q) ∧
    (∀ q, w.ownsRow base 3 1 (V q) (f q).length ((f q).map encN)) ∧ (∀ q, (V q).ownBlock ≠ some bM) ∧ ∀ p q, p ≠ q → (V p).ownBlock = none ∨ (V p).ownBlock ≠ (V q).ownBlock
  low : base ≤ bM
section
variable {w w' : World} {base bM i : Nat} {f g : List UInt8 → List Nat}
theorem AtM.start (w : World) {base : Nat} (hb : base ≤ w.heap.size) : AtM (w.alloc (.map #[] 0)) base w.heap.size 0 (fun _ => []) :=
  ⟨⟨_, fun _ => .slice none 0 0, 0, MapF.made w _ _, Nat.le_refl _, fun _ => rfl, fun _ => World.ownsRow_nil _ _ _ _, fun _ => by simp [Value.ownBlock], fun _ _ _ => .inl rfl⟩, hb⟩
theorem AtM.lt (h : AtM w base bM i f) : bM < w.heap.size := by
  obtain ⟨F, V, c, h1, _⟩ := h.ex
  exact h1.lt
theorem AtM.mono (h : AtM w base bM i f) {j : Nat} (hj : i ≤ j) : AtM w base bM j f := by
  obtain ⟨F, V, c, h1, h2, h3⟩ := h.ex
  exact ⟨⟨F, V, c, h1, by omega, h3⟩, h.low⟩
theorem AtM.bar (h : AtM w base bM i f) {Xs : List Nat} (hb : Bar w.heap.size Xs w w') (hX : ∀ x ∈ Xs, x ≠ bM ∧ ∀ c fz, w.heap[x]? ≠ some (.cells c 3 fz)) : AtM w' base bM i f := by
  obtain ⟨F, V, c, h1, h2, h3, h4, h5⟩ := h.ex
  refine ⟨⟨F, V, c, h1.block (hb.block _ h1.lt fun hx => (hX _ hx).1 rfl), h2, h3, fun q => ?_, h5⟩, h.low⟩
  refine own_blockU (h4 q) fun g hg => ?_
  obtain ⟨cc, fz, hc⟩ := own_cells (h4 q) hg
  exact hb.block g (Array.getElem?_eq_some_iff.1 hc).1 fun hx => (hX g hx).2 cc fz hc
theorem AtM.below (h : AtM w base bM i f) (hb : Below w.heap.size w w') : AtM w' base bM i f := h.bar (Bar.of_below hb []) (fun x hx => by cases hx)
theorem str_key {s : ByteArray} (hs : s.data.size ≤ maxLen) : keyOf Tryz.prog 9 (.string s) = some (.string s.data.toList) := Go.WideMaps.keyOf_string_mk Tryz.underlying9 hs
/-- What is looked up for a key. -/
theorem AtM.look (h : AtM w base bM i f) (s : ByteArray) (hs : s.data.size ≤ maxLen) : ∃ v, (∀ w' : World, w'.heap[bM]? = w.heap[bM]? → (Instr.lookup 180 (.map (some bM)) (.string s) false).run Tryz.prog w' = .ok v w') ∧ w.ownsRow base 3 1 v (f s.data.toList).length ((f s.data.toList).map encN) ∧ v.ownBlock ≠ some bM := by
  obtain ⟨F, V, c, h1, h2, h3, h4, h5, h6⟩ := h.ex
  refine ⟨V s.data.toList, fun w' hw => ?_, h4 _, h5 _⟩
  have hz : (zeroValue 22).run Tryz.prog w' = .ok (.slice none 0 0) w' := by kernel_rfl
  rw [(h1.block hw).look (string_keyed Tryz.underlying9) Tryz.underlying180 hz (str_key hs), h3]
/-- A key's row grows. -/
theorem AtM.put (h : AtM w base bM i f) (hi : i < 1000000) {s : ByteArray} (hs : s.data.size ≤ maxLen) {v v' : Value} {w1 : World} {k : Nat} (hv : (Instr.lookup 180 (.map (some bM)) (.string s) false).run Tryz.prog w = .ok v w)
    (hown : w1.ownsRow base 3 1 v' ((f s.data.toList).length + 1) ((f s.data.toList).map encN ++ [encN k])) (hg : w.grownBy w1 v.ownBlock) (hat : v'.ownBlock = v.ownBlock ∨ v'.ownBlock = some w.heap.size) :
    ∃ w2, (Instr.mapUpdate 180 (.map (some bM)) (.string s) v').run Tryz.prog w1 = .ok () w2 ∧ AtM w2 base bM (i + 1) (fun q => if q = s.data.toList then f q ++ [k] else f q) ∧ w1.grownBy w2 (some bM) := by
  obtain ⟨F, V, c, h1, h2, h3, h4, h5, h6⟩ := h.ex
  obtain ⟨kk, hkk⟩ : ∃ kk, s.data.toList = kk := ⟨_, rfl⟩
  have hk := str_key hs
  rw [hkk] at hown hk ⊢
  have hz : (zeroValue 22).run Tryz.prog w = .ok (.slice none 0 0) w := by kernel_rfl
  have hV : v = V kk := by
    have h7 := h1.look (string_keyed Tryz.underlying9) Tryz.underlying180 hz hk
    rw [h3, hv] at h7
    injection h7
  subst hV
  have m1 := h1.kept hg (fun e => h5 kk e.symm)
  obtain ⟨D, d1, d2, d3, d4⟩ := m1
  obtain ⟨w2, hrun, r1, r2⟩ := d1.update (string_keyed Tryz.underlying9) Tryz.underlying180 (by unfold maxLen; omega) hk (show Rv v' = some (.held v', []) from rfl)
  have hvb : v'.ownBlock ≠ some bM := by
    rcases hat with e | e
    · rw [e]; exact h5 kk
    · rw [e]; intro e'; injection e' with e'; have := h1.lt; omega
  have keep : ∀ q, q ≠ kk → ∀ g, (V q).ownBlock = some g → w2.heap[g]? = w.heap[g]? := by
    intro q hq g hgq
    have g1 : some g ≠ some bM := fun e => h5 q (hgq.trans e)
    have g0 := ((h4 q).lt g hgq).2
    rw [r2.block g (Nat.lt_of_lt_of_le g0 hg.size) g1]
    refine hg.block g g0 fun e => ?_
    rcases h6 q kk hq with h8 | h8
    · rw [hgq] at h8; cases h8
    · exact h8 (by rw [hgq, e])
  have sep : ∀ q, q ≠ kk → (V q).ownBlock = none ∨ (V q).ownBlock ≠ v'.ownBlock := by
    intro q hq
    rcases hat with e | e
    · rw [e]; exact h6 q kk hq
    · cases hv' : (V q).ownBlock with
      | none => exact .inl rfl
      | some g => right; rw [e]; intro e'; injection e' with e'; have := ((h4 q).lt g hv').2; omega
  refine ⟨w2, hrun, ⟨⟨putF F (.string kk) v', fun q => if q = kk then v' else V q, c + 1, ⟨_, r1, d2.put _ _, ?_, ?_⟩, by omega, ?_, fun q => ?_, fun q => ?_, fun p q hne => ?_⟩, h.low⟩, r2⟩
  · intro y
    unfold putF
    by_cases e : y = .string kk
    · subst e
      rw [if_pos rfl, has_put_same d2 ((string_keyed (P := Tryz.prog) Tryz.underlying9).key hk)]
      rfl
    · rw [if_neg e, has_put_other e, d3]
  · intro y z
    unfold putF
    by_cases e : y = .string kk
    · subst e
      rw [if_pos rfl, atKey_put_same d2 ((string_keyed (P := Tryz.prog) Tryz.underlying9).key hk)]
    · rw [if_neg e, atKey_put_other e, d4]
  · intro q
    show (putF F (.string kk) v' (.string q)).getD (.slice none 0 0) = if q = kk then v' else V q
    unfold putF
    by_cases e : q = kk
    · subst e; rw [if_pos rfl, if_pos rfl]; rfl
    · have e2 : ¬ Lit.string q = Lit.string kk := fun h => by injection h with h; exact e h
      rw [if_neg e2, if_neg e, h3]
  · by_cases e : q = kk
    · subst e
      simp only [if_true]
      rw [List.map_append, List.length_append]
      refine own_blockU hown fun g hg' => r2.block g (hown.lt g hg').2 (fun e' => hvb (by rw [hg']; exact e'))
    · simp only [if_neg e]
      exact own_blockU (h4 q) (keep q e)
  · by_cases e : q = kk
    · simp only [if_pos e]; exact hvb
    · simp only [if_neg e]; exact h5 q
  · by_cases e : p = kk
    · have hq : ¬ q = kk := fun h => hne (e.trans h.symm)
      simp only [if_pos e, if_neg hq]
      rcases sep q hq with h8 | h8
      · cases hv' : v'.ownBlock with
        | none => exact .inl rfl
        | some g => right; rw [h8]; simp
      · exact .inr fun e => h8 e.symm
    · by_cases e2 : q = kk
      · simp only [if_pos e2, if_neg e]
        exact sep p e
      · simp only [if_neg e, if_neg e2]
        exact h6 p q hne
end
end

section
open Go.RowKit
attribute [local go_sem] Oper.semAt_some wide_fn wide_depth
set_option linter.unusedVariables false
set_option linter.unusedSimpArgs false

/-- A block is no block of a type. -/
def NoT (W : World) (x : Nat) (t : TypeId) : Prop := ∀ c fz, W.heap[x]? ≠ some (.cells c t fz)
theorem NoT.of {W : World} {x : Nat} {t t' : TypeId} {c : Array Value} {fz : Nat × Nat} (h : W.heap[x]? = some (.cells c t fz)) (hne : t ≠ t') : NoT W x t' := fun c' fz' e => by
  rw [h] at e
  injection e with e
  injection e with _ e
  exact hne e
theorem own_barU {w w' : World} {base k : Nat} {e : TypeId} {size : Nat} {v : Value} {xs : List Value} {Xs : List Nat} (h : w.ownsRow base e size v k xs) (hb : Bar w.heap.size Xs w w') (hX : ∀ x ∈ Xs, NoT w x e) : w'.ownsRow base e size v k xs :=
  own_blockU h fun g hg => by
    obtain ⟨c, fz, hc⟩ := own_cells h hg
    exact hb.block g (Array.getElem?_eq_some_iff.1 hc).1 fun hx => hX g hx c fz hc
theorem RowK.barU {W W' : World} {B n : Nat} {A : Option Addr} {r : Rw} {Xs : List Nat} (h : RowK W B A n r) (hb : Bar W.heap.size Xs W W') (hX : ∀ x ∈ Xs, B ≤ x ∧ NoT W x 102) : RowK W' B A n r :=
  h.keep (p := fun k => k ∈ Xs) (fun k hk hp => hb.block k hk hp) hb.size hX
/-- A list of items that is held by the way. -/
structure OI (W : World) (B : Nat) (v : Value) (l : List It) : Prop where
  own : W.ownsRow B 119 2 v l.length (l.flatMap encIt)
  rows : Rows_ W 0 l
theorem OI.nil (W : World) (B : Nat) : OI W B (.slice none 0 0) [] := ⟨World.ownsRow_nil _ _ _ _, by intro i hi; cases hi⟩
theorem OI.bar {W W' : World} {B : Nat} {v : Value} {l : List It} {Xs : List Nat} (h : OI W B v l) (hb : Bar W.heap.size Xs W W') (hX : ∀ x ∈ Xs, NoT W x 119 ∧ NoT W x 102) : OI W' B v l :=
  ⟨own_barU h.own hb fun x hx => (hX x hx).1, fun i hi => (h.rows i hi).barU hb fun x hx => ⟨Nat.zero_le _, (hX x hx).2⟩⟩
theorem OI.below {W W' : World} {B : Nat} {v : Value} {l : List It} (h : OI W B v l) (hb : Below W.heap.size W W') : OI W' B v l := h.bar (Bar.of_below hb []) (fun x hx => by cases hx)
theorem OI.bag {W : World} {B : Nat} {A : Option Addr} {n c : Nat} {l : List It} (h : OI W B (.slice A n c) l) : BagR W 0 A n l ∧ n = l.length ∧ n ≤ c := by
  obtain ⟨A', c', e, _⟩ := own_form h.own
  injection e with e1 e2 e3
  subst e1 e2 e3
  refine ⟨⟨Reads.of_own h.own, h.rows, ?_⟩, rfl, own_capC h.own⟩
  rcases h.own.2 with ⟨e, h0⟩ | ⟨g, cap, cur, e, _, _, h4⟩
  · rw [h0]; omega
  · have := h4.2
    unfold maxLen at this
    omega
/-- .. and the box that holds the list. -/
def PoB (W : World) (B bo : Nat) (d : Bg) : Prop := ∃ v l, Boxed W bo 40 v ∧ OI W B v l ∧ dat l = d
theorem PoB.lt {W : World} {B bo : Nat} {d : Bg} (h : PoB W B bo d) : bo < W.heap.size := by
  obtain ⟨v, l, h1, _⟩ := h
  exact h1.lt
theorem PoB.bar {W W' : World} {B bo : Nat} {d : Bg} {Xs : List Nat} (h : PoB W B bo d) (hb : Bar W.heap.size Xs W W') (hX : ∀ x ∈ Xs, NoT W x 40 ∧ NoT W x 119 ∧ NoT W x 102) : PoB W' B bo d := by
  obtain ⟨v, l, h1, h2, h3⟩ := h
  exact ⟨v, l, (hb.block _ h1.lt fun hx => (hX _ hx).1 _ _ h1).trans h1, h2.bar hb fun x hx => (hX x hx).2, h3⟩
theorem PoB.below {W W' : World} {B bo : Nat} {d : Bg} (h : PoB W B bo d) (hb : Below W.heap.size W W') : PoB W' B bo d := h.bar (Bar.of_below hb []) (fun x hx => by cases hx)
/-- Blocks that are written when one more is put: the box, and the list's row. -/
def XsPo (W : World) (B : Nat) (Xs : List Nat) : Prop := ∀ x ∈ Xs, B ≤ x ∧ x < W.heap.size ∧ ((∃ c fz, W.heap[x]? = some (.cells c 40 fz)) ∨ ∃ c fz, W.heap[x]? = some (.cells c 119 fz))
theorem XsPo.no {W : World} {B : Nat} {Xs : List Nat} (h : XsPo W B Xs) {t : TypeId} (h1 : 40 ≠ t) (h2 : 119 ≠ t) : ∀ x ∈ Xs, NoT W x t := fun x hx => by
  rcases (h x hx).2.2 with ⟨c, fz, e⟩ | ⟨c, fz, e⟩
  · exact NoT.of e h1
  · exact NoT.of e h2
theorem po_step {W w1 : World} {B bo : Nat} {v v' : Value} {l : List It} {tmp : Obj} {A : Option Addr} {n c : Nat} {r : Rw} {m : Int} (hv : Boxed W bo 40 v) (hi : OI W B v l) (hB : B ≤ W.heap.size) (hbo : B ≤ bo) (hr : RowK W 0 A n r)
    (hown' : w1.ownsRow B 119 2 v' (l.length + 1) (l.flatMap encIt ++ [.slice A n c, .int .i64 m])) (hgrow : (W.alloc tmp).grownBy w1 v.ownBlock) :
    Boxed w1 bo 40 v ∧ PoB (w1.setCell ⟨bo, 0, none⟩ v') B bo (dat l ++ [(r, m)]) ∧ Bar W.heap.size (bo :: obl v) W (w1.setCell ⟨bo, 0, none⟩ v') ∧ XsPo W B (bo :: obl v) := by
  have hX : XsPo W B (bo :: obl v) := by
    intro x hx
    rcases List.mem_cons.1 hx with rfl | hx
    · exact ⟨hbo, hv.lt, .inl ⟨_, _, hv⟩⟩
    · have hvb : v.ownBlock = some x := by unfold obl at hx; simpa using hx
      exact ⟨(hi.own.lt x hvb).1, (hi.own.lt x hvb).2, .inr (own_cells hi.own hvb)⟩
  have hne : some bo ≠ v.ownBlock := hv.not_row (by decide) hi.own
  have hv1 : Boxed w1 bo 40 v := (hv.alloc tmp).kept hgrow hne
  have hbar : Bar W.heap.size (bo :: obl v) W (w1.setCell ⟨bo, 0, none⟩ v') := by
    refine (((Bar.refl _ _ W).alloc (Nat.le_refl _) tmp).grown hgrow (by simp) fun k e => .inr ?_).setCell (.inr (by simp)) v'
    refine List.mem_cons_of_mem _ ?_
    unfold obl
    rw [e]
    simp
  refine ⟨hv1, ⟨v', l ++ [⟨A, n, c, r, m⟩], hv1.set v', ⟨?_, fun i hi' => ?_⟩, by simp [dat]⟩, hbar, hX⟩
  · have h1 := hown'.kept (grownBy_setCell' w1 bo v') (.inr (hv1.not_row (by decide) hown').symm)
    rw [List.length_append, List.flatMap_append]
    exact h1
  · have hk : ∀ x ∈ (bo :: obl v), 0 ≤ x ∧ NoT W x 102 := fun x hx => ⟨Nat.zero_le _, hX.no (by decide) (by decide) x hx⟩
    rcases List.mem_append.1 hi' with hi' | hi'
    · exact (hi.rows i hi').barU hbar hk
    · obtain rfl : i = ⟨A, n, c, r, m⟩ := by simpa using hi'
      exact hr.barU hbar hk
/-- The list in the box does not lie in a block. -/
def PoOff (W : World) (bo b : Nat) : Prop := ∀ v, Boxed W bo 40 v → v.ownBlock ≠ some b
theorem boxed_inj {W : World} {b : Nat} {t : TypeId} {u v : Value} (h : Boxed W b t u) (k : Boxed W b t v) : u = v := by
  have e : some u = some v := h.cell.symm.trans k.cell
  injection e
theorem PoOff.same {W W' : World} {bo b : Nat} (h : PoOff W bo b) (hb : W'.heap[bo]? = W.heap[bo]?) : PoOff W' bo b := fun v hv => h v (hb.symm.trans hv)
theorem PoB.off_new {W : World} {B bo : Nat} {d : Bg} (h : PoB W B bo d) (o : Obj) : PoOff (W.alloc o) bo W.heap.size := by
  obtain ⟨v, l, h1, h2, _⟩ := h
  intro u hu e
  obtain rfl := boxed_inj (h1.alloc o) hu
  exact absurd (h2.own.lt _ e).2 (Nat.lt_irrefl _)
/-- One more was put. -/
def RetPo (w : World) (B bo : Nat) (d : Bg) (e : Ending) (w' : World) : Prop := e = .returned (.tuple #[]) ∧ PoB w' B bo d ∧ ∃ Xs, Bar w.heap.size Xs w w' ∧ XsPo w B Xs ∧ ∀ b, b < w.heap.size → b ≠ bo → PoOff w bo b → b ∉ Xs ∧ PoOff w' bo b
set_option maxRecDepth 100000 in
set_option maxHeartbeats 4000000 in
theorem outer1_any (A : Option Addr) (n c : Nat) (r : Rw) (m : Int) (B bo : Nat) (d : Bg) (w : World) (h : PoB w B bo d) (hd : d.length ≤ 1000000) (hB : B ≤ w.heap.size) (hbo : B ≤ bo) (hr : RowK w 0 A n r) :
    Calls Tryz.prog 144 #[.slice A n c, .int .i64 m, .pointer (some ⟨bo, 0, none⟩)] w (RetPo w B bo (d ++ [(r, m)])) := by
  obtain ⟨v, l, hv, hi, hdl⟩ := h
  obtain ⟨i0, hi0, hz0, hz1, hz2⟩ := info_parts3 infoItem
  have hll : l.length ≤ 1000000 := by rw [← dat_len, hdl]; exact hd
  have HDL := hide hdl
  clear hdl hd
  obtain ⟨Ao, co, rfl, _⟩ := own_form hi.own
  have hc := hv.cell
  have hown := hi.own.alloc (.cells #[.slice A n c, .int .i64 m] 119)
  have hrd : Reads (w.alloc (.cells #[.slice A n c, .int .i64 m] 119)) (w.heap.size + 1) 2 (some ⟨w.heap.size, 0, none⟩) 1 [.slice A n c, .int .i64 m] :=
    ⟨rfl, fun _ => ⟨w.heap.size, 0, rfl, by omega, fun j u hu => by rw [Nat.zero_add]; exact ((Blk.new w 119 #[.slice A n c, .int .i64 m]).cell j).trans (by simpa using hu)⟩⟩
  have hsz : B ≤ (w.alloc (.cells #[.slice A n c, .int .i64 m] 119)).heap.size := by simp; omega
  go_enter Tryz.func144, Tryz.ntmps144
  go_wp2_with (at_builtin; refine wpList_append_any _ rfl _ _ 40 rfl B 119 i0 _ 2 32 Tryz.underlying40 hi0 hz0 hz1 hz2 rfl (by decide) (.slice Ao l.length co) l.length (l.flatMap encIt) rfl hown (w.heap.size + 1) (some ⟨w.heap.size, 0, none⟩) 1 1 [.slice A n c, .int .i64 m] rfl hrd (by simp [Value.oneCell']) (by unfold maxLen; omega) (by omega) hsz ?_; intro v' w1 hown' hgrow hat; obtain ⟨g', cap', rfl⟩ := ownsRow_succ hown'; obtain ⟨hv1, hp1, hbar, hX⟩ := po_step hv hi hB hbo hr hown' hgrow; have hbx := hv1.set (.slice (some ⟨g', 0, none⟩) (l.length + 1) cap'); have hc1 := hv1.cell; have hf1 := hv1.frozen)
  go_end0
  refine ⟨rfl, by rw [← HDL.out]; exact hp1, _, hbar, hX, fun b hb hne hoff => ⟨fun hm => ?_, fun u hu e => ?_⟩⟩
  · rcases List.mem_cons.1 hm with e | e
    · exact hne e
    · refine hoff _ hv ?_
      unfold obl at e
      simpa using e
  · obtain rfl := boxed_inj hbx hu
    rcases hat with h | h
    · rw [h] at e
      exact hoff _ hv e
    · rw [h] at e
      injection e with e
      simp at e
      omega
end

section
open Go.RowKit Go.Maps
set_option linter.unusedVariables false
set_option linter.unusedSimpArgs false

theorem AtM.blk {w : World} {base bM i : Nat} {f : List UInt8 → List Nat} (h : AtM w base bM i f) : ∃ es clock, w.heap[bM]? = some (.map es clock) := by
  obtain ⟨F, V, c, ⟨D, ⟨es, clock, h1, _⟩, _⟩, _⟩ := h.ex
  exact ⟨es, clock, h1⟩
theorem Bl.bar {N : Nat} {W W' : World} {b n : Nat} {f : Nat → Bool} {Xs : List Nat} (h : Bl N W b n f) (hb : Bar W.heap.size Xs W W') (hX : ∀ x ∈ Xs, NoT W x 4) : Bl N W' b n f := by
  refine ⟨h.1, h.2.of_block (hb.block b h.2.lt fun hx => ?_)⟩
  obtain ⟨c, hc, _⟩ := h.2
  exact hX b hx _ _ hc
theorem bar_cell {W : World} {p : Addr} (u : Value) : Bar W.heap.size [p.block] W (W.setCell p u) := (Bar.refl _ _ W).setCell (.inr (by simp)) u
/-- The memory while the right rows' keys are gathered. -/
structure OuA (w W : World) (kb lb bM i n4 : Nat) (ks : Array Value) (f : List UInt8 → List Nat) : Prop where
  ky : Blk W kb 91 ks
  mt : Bl w.heap.size W lb n4 (fun _ => false)
  am : AtM W w.heap.size bM i f
  bel : Below w.heap.size w W
theorem OuA.below {w W W' : World} {kb lb bM i n4 : Nat} {ks : Array Value} {f : List UInt8 → List Nat} (h : OuA w W kb lb bM i n4 ks f) (hb : Below W.heap.size W W') : OuA w W' kb lb bM i n4 ks f :=
  ⟨h.ky.below hb h.ky.lt, h.mt.below hb, h.am.below hb, bstep h.bel hb⟩
/-- One more number is put. -/
theorem OuA.put {w W w1 w2 : World} {kb lb bM i n4 : Nat} {ks : Array Value} {f g : List UInt8 → List Nat} {v : Value} {n : Nat} {xs : List Value} (h : OuA w W kb lb bM i n4 ks f) (hkb : w.heap.size ≤ kb) (ho : W.ownsRow w.heap.size 3 1 v n xs) (hg : W.grownBy w1 v.ownBlock) (hg2 : w1.grownBy w2 (some bM)) (ha : AtM w2 w.heap.size bM (i + 1) g) : OuA w w2 kb lb bM (i + 1) n4 ks g := by
  obtain ⟨es, ck, hm⟩ := h.am.blk
  have hbM := h.am.lt
  have hX : ∀ x ∈ (bM :: obl v), w.heap.size ≤ x ∧ NoT W x 91 ∧ NoT W x 4 := by
    intro x hx
    rcases List.mem_cons.1 hx with rfl | hx
    · refine ⟨?_, fun c fz e => ?_, fun c fz e => ?_⟩
      · exact h.am.low
      · rw [hm] at e; cases e
      · rw [hm] at e; cases e
    · have hvb : v.ownBlock = some x := by unfold obl at hx; simpa using hx
      obtain ⟨c, fz, hc⟩ := own_cells ho hvb
      exact ⟨(ho.lt x hvb).1, NoT.of hc (by decide), NoT.of hc (by decide)⟩
  have hbar : Bar W.heap.size (bM :: obl v) W w2 := by
    refine ((Bar.refl _ _ W).grown hg (Nat.le_refl _) fun k e => .inr (List.mem_cons_of_mem _ ?_)).grown hg2 hg.size fun k e => .inr (by injection e with e; simp [e])
    unfold obl
    rw [e]
    simp
  refine ⟨(hbar.block kb h.ky.lt fun hx => (hX _ hx).2.1 _ _ h.ky).trans h.ky, h.mt.bar hbar fun x hx => (hX x hx).2.2, ha, h.bel.trans (hbar.below h.bel.size fun x hx => (hX x hx).1)⟩
theorem OuA.mono {w W : World} {kb lb bM i j n4 : Nat} {ks : Array Value} {f g : List UInt8 → List Nat} (h : OuA w W kb lb bM i n4 ks f) (hj : i ≤ j) (hf : g = f) : OuA w W kb lb bM j n4 ks g := by
  subst hf
  exact ⟨h.ky, h.mt, h.am.mono hj, h.bel⟩
/-- The memory while the rows are joined. -/
structure OuS (w W : World) (kb lb bM bo n4 : Nat) (ks : Array Value) (f : List UInt8 → List Nat) (mf : Nat → Bool) (d : Bg) : Prop where
  ky : Blk W kb 91 ks
  mt : Bl w.heap.size W lb n4 mf
  am : AtM W w.heap.size bM n4 f
  po : PoB W w.heap.size bo d
  bel : Below w.heap.size w W
theorem OuS.below {w W W' : World} {kb lb bM bo n4 : Nat} {ks : Array Value} {f : List UInt8 → List Nat} {mf : Nat → Bool} {d : Bg} (h : OuS w W kb lb bM bo n4 ks f mf d) (hb : Below W.heap.size W W') : OuS w W' kb lb bM bo n4 ks f mf d :=
  ⟨h.ky.below hb h.ky.lt, h.mt.below hb, h.am.below hb, h.po.below hb, bstep h.bel hb⟩
theorem OuS.congr {w W : World} {kb lb bM bo n4 : Nat} {ks : Array Value} {f : List UInt8 → List Nat} {mf mg : Nat → Bool} {d : Bg} (h : OuS w W kb lb bM bo n4 ks f mf d) (hf : ∀ k, k < n4 → mf k = mg k) : OuS w W kb lb bM bo n4 ks f mg d :=
  ⟨h.ky, h.mt.congr hf, h.am, h.po, h.bel⟩
/-- One more item is put. -/
theorem OuS.put {w W W' : World} {kb lb bM bo n4 : Nat} {ks : Array Value} {f : List UInt8 → List Nat} {mf : Nat → Bool} {d d' : Bg} (h : OuS w W kb lb bM bo n4 ks f mf d) {Xs : List Nat} (hb : Bar W.heap.size Xs W W') (hX : XsPo W w.heap.size Xs) (hp : PoB W' w.heap.size bo d') : OuS w W' kb lb bM bo n4 ks f mf d' := by
  obtain ⟨es, ck, hm⟩ := h.am.blk
  refine ⟨(hb.block kb h.ky.lt fun hx => hX.no (by decide) (by decide) _ hx _ _ h.ky).trans h.ky, h.mt.bar hb (hX.no (by decide) (by decide)), h.am.bar hb fun x hx => ⟨fun e => ?_, hX.no (by decide) (by decide) x hx⟩, hp, h.bel.trans (hb.below h.bel.size fun x hx => (hX x hx).1)⟩
  subst e
  rcases (hX x hx).2.2 with ⟨c, fz, e⟩ | ⟨c, fz, e⟩ <;> rw [hm] at e <;> cases e
/-- A right row is met. -/
theorem OuS.met {w W : World} {kb lb bM bo n4 : Nat} {ks : Array Value} {f : List UInt8 → List Nat} {mf : Nat → Bool} {d : Bg} (h : OuS w W kb lb bM bo n4 ks f mf d) (k : Nat) : OuS w (W.setCell ⟨lb, k, none⟩ (.bool true)) kb lb bM bo n4 ks f (fun j => if j = k then true else mf j) d := by
  obtain ⟨es, ck, hm⟩ := h.am.blk
  obtain ⟨c, hc, _⟩ := h.mt.2
  have hb : Bar W.heap.size [lb] W (W.setCell ⟨lb, k, none⟩ (.bool true)) := bar_cell (p := ⟨lb, k, none⟩) _
  have hX : ∀ {t : TypeId}, 4 ≠ t → ∀ x ∈ [lb], NoT W x t := fun hne x hx => by
    obtain rfl : x = lb := by simpa using hx
    exact NoT.of hc hne
  refine ⟨(hb.block kb h.ky.lt fun hx => hX (by decide) _ hx _ _ h.ky).trans h.ky, h.mt.put true, h.am.bar hb fun x hx => ⟨fun e => ?_, hX (by decide) x hx⟩, h.po.bar hb fun x hx => ⟨hX (by decide) x hx, hX (by decide) x hx, hX (by decide) x hx⟩, h.bel.setCell (p := ⟨lb, k, none⟩) h.mt.1 (.bool true)⟩
  obtain rfl : x = lb := by simpa using hx
  subst e
  rw [hm] at hc
  cases hc
/-- .. and a box that holds an item, and a row of numbers. -/
structure OuX (w W : World) (kb lb bM bo n4 : Nat) (ks : Array Value) (f : List UInt8 → List Nat) (mf : Nat → Bool) (d : Bg) (xb : Nat) (xv : Array Value) (vI : Value) (nI : Nat) (cI : List Value) : Prop where
  s : OuS w W kb lb bM bo n4 ks f mf d
  kx : Blk W xb 119 xv
  off : PoOff W bo xb
  ne : xb ≠ bo
  ii : W.ownsRow w.heap.size 3 1 vI nI cI
section
variable {w W W' : World} {kb lb bM bo n4 : Nat} {ks : Array Value} {f : List UInt8 → List Nat} {mf mg : Nat → Bool} {d d' : Bg} {xb : Nat} {xv : Array Value} {vI : Value} {nI : Nat} {cI : List Value}
theorem OuX.start (h : OuS w W kb lb bM bo n4 ks f mf d) (xv : Array Value) (hi : W.ownsRow w.heap.size 3 1 vI nI cI) : OuX w (W.alloc (.cells xv 119)) kb lb bM bo n4 ks f mf d W.heap.size xv vI nI cI :=
  ⟨h.below (below_val (w := W) xv 119), Blk.new W 119 xv, h.po.off_new _, fun e => by have := h.po.lt; omega, own_below hi (below_val (w := W) xv 119)⟩
theorem OuX.below (h : OuX w W kb lb bM bo n4 ks f mf d xb xv vI nI cI) (hb : Below W.heap.size W W') : OuX w W' kb lb bM bo n4 ks f mf d xb xv vI nI cI :=
  ⟨h.s.below hb, h.kx.below hb h.kx.lt, h.off.same (hb.block _ h.s.po.lt), h.ne, own_below h.ii hb⟩
theorem OuX.congr (h : OuX w W kb lb bM bo n4 ks f mf d xb xv vI nI cI) (hf : ∀ k, k < n4 → mf k = mg k) : OuX w W kb lb bM bo n4 ks f mg d xb xv vI nI cI := ⟨h.s.congr hf, h.kx, h.off, h.ne, h.ii⟩
theorem OuX.row (h : OuX w W kb lb bM bo n4 ks f mf d xb xv vI nI cI) {v : Value} {n : Nat} {c : List Value} (hi : W.ownsRow w.heap.size 3 1 v n c) : OuX w W kb lb bM bo n4 ks f mf d xb xv v n c := ⟨h.s, h.kx, h.off, h.ne, hi⟩
theorem OuX.put (h : OuX w W kb lb bM bo n4 ks f mf d xb xv vI nI cI) {Xs : List Nat} (hb : Bar W.heap.size Xs W W') (hX : XsPo W w.heap.size Xs) (hp : PoB W' w.heap.size bo d') (ho : ∀ b, b < W.heap.size → b ≠ bo → PoOff W bo b → b ∉ Xs ∧ PoOff W' bo b) : OuX w W' kb lb bM bo n4 ks f mf d' xb xv vI nI cI := by
  obtain ⟨o1, o2⟩ := ho xb h.kx.lt h.ne h.off
  exact ⟨h.s.put hb hX hp, (hb.block _ h.kx.lt o1).trans h.kx, o2, h.ne, own_barU h.ii hb (hX.no (by decide) (by decide))⟩
theorem OuX.met (h : OuX w W kb lb bM bo n4 ks f mf d xb xv vI nI cI) (k : Nat) : OuX w (W.setCell ⟨lb, k, none⟩ (.bool true)) kb lb bM bo n4 ks f (fun j => if j = k then true else mf j) d xb xv vI nI cI := by
  obtain ⟨c, hc, _⟩ := h.s.mt.2
  have hb : Bar W.heap.size [lb] W (W.setCell ⟨lb, k, none⟩ (.bool true)) := bar_cell (p := ⟨lb, k, none⟩) _
  have hX : ∀ {t : TypeId}, 4 ≠ t → ∀ x ∈ [lb], NoT W x t := fun hne x hx => by
    obtain rfl : x = lb := by simpa using hx
    exact NoT.of hc hne
  obtain ⟨v, l, p1, _⟩ := h.s.po
  exact ⟨h.s.met k, (hb.block _ h.kx.lt fun hx => hX (by decide) _ hx _ _ h.kx).trans h.kx, h.off.same (hb.block _ h.s.po.lt fun hx => hX (by decide) _ hx _ _ p1), h.ne, own_barU h.ii hb (hX (by decide))⟩
end
end

section
open Go.RowKit
attribute [local go_sem] Oper.semAt_some wide_fn wide_depth
set_option linter.unusedVariables false
set_option linter.unusedSimpArgs false

/-- The last item of a list that is held, and a store into its number. -/
theorem OI.last {W : World} {B : Nat} {v : Value} {l : List It} {p : Nat} {y : It} (h : OI W B v l) (hp : l.length = p + 1) (hy : l[p]? = some y) :
    ∃ g cap, v = .slice (some ⟨g, 0, none⟩) (p + 1) cap ∧ B ≤ g ∧ g < W.heap.size ∧ W.cell? ⟨g, p * 2, none⟩ = some (.slice y.A y.n y.c) ∧ W.cell? ⟨g, p * 2 + 1, none⟩ = some (.int .i64 y.m) ∧ (∀ W', Below W.heap.size W W' → W'.frozen? ⟨g, p * 2 + 1, none⟩ = false) ∧
      ∀ W' s, Below W.heap.size W W' → OI (W'.setCell ⟨g, p * 2 + 1, none⟩ (.int .i64 s)) B v (l.set p ⟨y.A, y.n, y.c, y.r, s⟩) := by
  obtain ⟨gr, cap, rfl, hg1, hg2⟩ := h.own.form (by omega)
  obtain ⟨b', off, x', hA, _, hx', hcx⟩ := (Reads.of_own h.own).elem encIt_len rfl (i := p) (by omega)
  rw [hy] at hx'
  injection hx' with hx'
  subst hx'
  injection hA with hA
  injection hA with hA1 hA2
  subst hA1 hA2
  have es : W.cell? ⟨gr, p * 2, none⟩ = some (.slice y.A y.n y.c) := by simpa using hcx 0 _ rfl
  have em : W.cell? ⟨gr, p * 2 + 1, none⟩ = some (.int .i64 y.m) := by simpa using hcx 1 _ rfl
  refine ⟨gr, cap, by rw [hp], hg1, hg2, es, em, fun W' hb => ?_, fun W' s hb => ?_⟩
  · obtain ⟨cur, hcur⟩ := own_blk (own_below h.own hb)
    exact hcur.frozen _
  · have h' := h.below hb
    obtain ⟨cur, hcur⟩ := own_blk h'.own
    refine ⟨?_, fun i hi => ?_⟩
    · rw [List.length_set, flat_set1 s hy]
      exact own_store2 h'.own _
    · have hrows : ∀ j ∈ l, RowK (W'.setCell ⟨gr, p * 2 + 1, none⟩ (.int .i64 s)) 0 j.A j.n j.r := fun j hj => (h'.rows j hj).setCell (p := ⟨gr, p * 2 + 1, none⟩) hcur (by decide) (Nat.zero_le _) _
      rcases List.mem_or_eq_of_mem_set hi with h8 | h8
      · exact hrows i h8
      · subst h8
        exact hrows y (List.mem_of_getElem? hy)
theorem oi_push {W w1 : World} {B : Nat} {v v' : Value} {lo : List It} {x : It} {tmp : Obj} {no : Nat} (h : OI W B v lo) (hB : B ≤ W.heap.size) (hr : RowK W 0 x.A x.n x.r) (hn : lo.length = no)
    (hown' : w1.ownsRow B 119 2 v' (no + 1) (lo.flatMap encIt ++ [.slice x.A x.n x.c, .int .i64 x.m])) (hgrow : (W.alloc tmp).grownBy w1 v.ownBlock) : OI w1 B v' (lo ++ [x]) := by
  subst hn
  refine ⟨by rw [List.length_append, List.flatMap_append]; exact hown', fun i hi => ?_⟩
  have k := h.own.alloc tmp
  rcases List.mem_append.1 hi with hi | hi
  · exact ((h.rows i hi).alloc tmp).grown k (by decide) (Nat.zero_le _) hgrow
  · obtain rfl : i = x := by simpa using hi
    exact (hr.alloc tmp).grown k (by decide) (Nat.zero_le _) hgrow
theorem mrg_take {xs : Bg} (h : ∀ x ∈ xs, okR x.1 = true ∧ 0 < x.2 ∧ x.2 ≤ 4000000000000) (hs : xs.Pairwise fun x y => ¬ cmpR y.1 x.1 < 0) (hl : xs.length ≤ 100000) (k : Nat) : MrgOk (xs.take k) (mrgB (xs.take k)) ∧ ∀ y ∈ mrgB (xs.take k), 0 < y.2 ∧ y.2 ≤ 400000000000000000 := by
  have hm : ∀ x ∈ xs.take k, x ∈ xs := fun x hx => List.mem_of_mem_take hx
  have h1 := mrg_ok (xs := xs.take k) (fun x hx => ⟨(h x (hm x hx)).1, (h x (hm x hx)).2.1⟩) (hs.sublist (List.take_sublist _ _))
  refine ⟨h1, fun y hy => ⟨h1.pos y hy, ?_⟩⟩
  have h2 := sum_absL (xs := xs.take k) (fun x hx => ⟨by have := (h x (hm x hx)).2.1; omega, (h x (hm x hx)).2.2⟩) y.1
  rw [← h1.sum, look_in (asc_apart h1.asc) hy] at h2
  have h3 : (xs.take k).length ≤ 100000 := by rw [List.length_take]; omega
  omega
theorem mrg_len (xs : Bg) : (mrgB xs).length ≤ xs.length := by
  have key : ∀ n, ∀ xs : Bg, xs.length = n → (mrgB xs).length ≤ n := by
    intro n
    induction n with
    | zero =>
      intro xs hn
      obtain rfl := List.length_eq_zero_iff.1 hn
      simp [mrgB]
    | succ n ih =>
      intro xs hn
      rcases List.eq_nil_or_concat xs with rfl | ⟨ys, x, rfl⟩
      · simp at hn
      rw [List.concat_eq_append] at *
      have := ih ys (by simpa using hn)
      rw [mrg_snoc]
      rcases List.eq_nil_or_concat (mrgB ys) with e | ⟨o, y, e⟩
      · rw [e, mrgS_nil]
        simp
      · rw [List.concat_eq_append] at e
        rw [e] at this ⊢
        rw [mrgS_snoc]
        rw [List.length_append] at this
        simp only [List.length_singleton] at this
        split
        · rw [List.length_append, List.length_singleton]; omega
        · rw [List.length_append, List.length_append, List.length_singleton, List.length_singleton]; omega
  exact key _ xs rfl
/-- What together answers: the row may lie in a block of the call's own alone. -/
def RetTg (w : World) (v : Value) (d : Bg) (e : Ending) (w' : World) : Prop :=
  ∃ A n c l E, e = .returned (.tuple #[.slice A n c, .int .i64 E]) ∧ (dat l, E) = (if okBag d then (d, 0) else ([], 4)) ∧ BagR w' 0 A n l ∧ n ≤ c ∧ (∀ b o, 0 < n → A = some ⟨b, o, none⟩ → w.heap.size ≤ b) ∧ Bar w.heap.size (obl v) w w'
set_option maxRecDepth 100000 in
set_option maxHeartbeats 8000000 in
theorem together_any (B : Nat) (v : Value) (l : List It) (w : World) (hi : OI w B v l) (hl : l.length ≤ 100000) (hok : ∀ x ∈ dat l, okR x.1 = true ∧ 0 < x.2 ∧ x.2 ≤ 4000000000000) :
    Calls Tryz.prog 145 #[v] w (RetTg w v (aftB [] (dat l))) := by
  obtain ⟨i0, hi0, hz0, hz1, hz2⟩ := info_parts3 infoItem
  have HS := hide (SortV B l.length 0 v l w hi.own hl hi.rows (Nat.zero_le _) 194 #[] (enters_of Tryz.func194 (by kernel_rfl) rfl) (fun x y => cmpR x.r y.r) (swo_tot (Tot.row.comap fun x : It => x.r))
    (fun x y W _ _ hx hy _ => tog1_any x y 0 W hx hy))
  obtain ⟨A0, c0, hv0, _⟩ := own_form hi.own
  have HOK := hide hok
  have HL := hide hl
  clear hok hl hi
  subst hv0
  go_enter Tryz.func145, Tryz.ntmps145
  go_wp2_with fail
  refine HS.out.mono ?_
  rintro e W1 ⟨rfl, l', A, n, c, hve, hnc, hpm, hst, hrd, hrw, hbar⟩
  injection hve with e1 e2 e3
  subst e1 e3
  have hlen : l'.length = l.length := hpm.length_eq
  rw [e2]
  clear e2
  have hpd : (dat l').Perm (dat l) := by unfold dat; exact hpm.map _
  have HD := hide (show ∀ x ∈ dat l', okR x.1 = true ∧ 0 < x.2 ∧ x.2 ≤ 4000000000000 from fun x hx => HOK.out x (hpd.mem_iff.1 hx))
  have HST := hide (show (dat l').Pairwise fun x y => ¬ cmpR y.1 x.1 < 0 from by unfold dat; rw [List.pairwise_map]; exact hst)
  have HAF := hide (mrg_aft (fun x hx => ⟨(HOK.out x hx).1, (HOK.out x hx).2.1⟩) hpd HST.out)
  have hn5 : n ≤ 100000 := by
    have := hrd.1
    rw [flat_length encIt_len] at this
    have := HL.out
    omega
  have hbg : BagR W1 0 A0 n l' := ⟨hrd, hrw, by omega⟩
  have HLD := hide (show (dat l').length = n from by rw [dat_len]; exact hbg.len)
  have HBAR := hide hbar
  clear hpm hst hlen hpd hrd hrw hbar HS HOK HL
  go_wp2_with fail
  have hB0 : Below W1.heap.size W1 W1 := Below.refl _ _
  go_loopw [4, 12] (fun v i wr => ∃ (k : Nat) (lo : List It) (v0 : Value), k ≤ n ∧ i = .int .i64 k ∧ v0 = v ∧ OI wr W1.heap.size v0 lo ∧ dat lo = mrgB ((dat l').take k) ∧ Below W1.heap.size W1 wr) (fun _ i _ => n - (intOf i).toNat)
  case atStart => exact ⟨0, [], _, Nat.zero_le _, rfl, rfl, OI.nil _ _, rfl, hB0⟩
  case round =>
    clear hB0
    obtain ⟨k, lo, v, hk, rfl, rfl, hO, hdl, hBr⟩ := hrel
    obtain ⟨Ao, co, rfl, _⟩ := own_form hO.own
    have HDL := hide hdl
    have hno : lo.length ≤ 100000 := by
      have h1 := mrg_len ((dat l').take k)
      rw [← hdl, dat_len, List.length_take] at h1
      omega
    clear hdl
    by_cases hlt : k < n
    · have q1 : (0 : Int) ≤ (k : Int) := by omega
      have q2 : (k : Int) < (n : Int) := by omega
      obtain ⟨bx, ox, x, rfl, hbx, hxk, e0, e1, hrx⟩ := ((hbg.below hBr).mono (Nat.zero_le wr.heap.size)).at_ hlt
      have hrx0 : RowK wr 0 x.A x.n x.r := (hbg.below hBr).rows x (List.mem_of_getElem? hxk)
      have HXD := hide (dat_at hxk)
      have HTK := hide (show mrgB ((dat l').take (k + 1)) = mrgS (dat lo) (x.r, x.m) from by rw [take_snoc' HXD.out, mrg_snoc, HDL.out])
      have hxo := HD.out _ (List.mem_of_getElem? HXD.out)
      simp only at hxo
      have hba := below_val (w := wr) #[.slice x.A x.n x.c, .int .i64 x.m] 119
      have kx := Blk.new wr 119 #[.slice x.A x.n x.c, .int .i64 x.m]
      have hO1 := hO.below hba
      have hrx1 := hrx0.below hba
      have bk1 := bstep hBr hba
      go_upto_region 7 with fail
      obtain ⟨W2, hW2⟩ : ∃ W2, wr.alloc (.cells #[.slice x.A x.n x.c, .int .i64 x.m] 119) = W2 := ⟨_, rfl⟩
      rw [hW2] at kx hO1 hrx1 bk1 ⊢
      obtain ⟨xb, hxb⟩ : ∃ xb, wr.heap.size = xb := ⟨_, rfl⟩
      rw [hxb] at kx ⊢
      have hxlt := kx.lt
      have d0 : W2.cell? ⟨xb, 0, none⟩ = some (.slice x.A x.n x.c) := by simpa using kx.cell 0
      have d1 : W2.cell? ⟨xb, 1, none⟩ = some (.int .i64 x.m) := by simpa using kx.cell 1
      clear hW2 hba hxk hO hrx hrx0 hBr e0 e1 hxb
      by_cases hne : 0 < lo.length
      · obtain ⟨p, hp⟩ : ∃ p, lo.length = p + 1 := ⟨lo.length - 1, by omega⟩
        obtain ⟨y, hy⟩ : ∃ y, lo[p]? = some y := ⟨_, List.getElem?_eq_getElem (by omega)⟩
        obtain ⟨g, cap, hv, hgb, hgl, g0, g1, hfz, hset⟩ := hO1.last hp hy
        injection hv with hv1 hv2 hv3
        subst hv1 hv3
        have hyr := hO1.rows y (List.mem_of_getElem? hy)
        have hMT := mrg_take HD.out (List.Pairwise.imp (fun h => by omega) HST.out) (by rw [HLD.out]; exact hn5) k
        rw [← HDL.out] at hMT
        have hym := hMT.2 _ (List.mem_of_getElem? (dat_at hy))
        simp only at hym
        obtain ⟨dl, hdl⟩ : ∃ dl, (dat lo).take p = dl := ⟨_, rfl⟩
        have HDN := hide (show dl.length = p from by rw [← hdl, List.length_take, dat_len]; omega)
        have HLO := hide (show dat lo = dl ++ [(y.r, y.m)] from by
          have h1 := take_snoc' (dat_at hy)
          rwa [List.take_of_length_le (by rw [dat_len]; omega), hdl] at h1)
        obtain ⟨cc, hcc⟩ : ∃ cc, cmpR y.r x.r = cc := ⟨_, rfl⟩
        have HC := hide (fun (q : BW W2) => calls_bw (p := q) (v := .int .i64 cc) (by rw [← hcc]; exact Compare_any y.A y.n y.c y.r x.A x.n x.c x.r q.x (hyr.below q.h).rd (hrx1.below q.h).rd hyr.le))
        have HMS := hide (show mrgS (dat lo) (x.r, x.m) = if cc = 0 then dl ++ [(y.r, y.m + x.m)] else dat lo ++ [(x.r, x.m)] from by
          rw [HLO.out, mrgS_snoc]
          simp only [hcc])
        obtain ⟨no, hno⟩ : ∃ no, lo.length = no := ⟨_, rfl⟩
        rw [hno] at hne hset ⊢
        have hnp : no = p + 1 := by omega
        have HNO := hide hno
        have HY := hide hy
        have HP := hide hp
        have hwp : IntKind.i64.wrap ((no : Int) - 1) = (p : Int) := by rw [IntKind.wrap_i64]; omega
        have hws : IntKind.i64.wrap (y.m + x.m) = y.m + x.m := by rw [IntKind.wrap_i64]; omega
        have z : decide ((0 : Int) < (no : Int)) = true := by rw [decide_eq_true_eq]; omega
        have zn : decide (0 < no) = true := by rw [decide_eq_true_eq]; omega
        have q3 : (0 : Int) ≤ (p : Int) := by omega
        have q4 : (p : Int) < (no : Int) := by omega
        have y0 := fun (q : BW W2) => BW.cell (a := ⟨g, p * 2, none⟩) hgl g0 q
        have x0 := fun (q : BW W2) => BW.cell (a := ⟨xb, 0, none⟩) hxlt d0 q
        clear hMT hno hcc hv2 hy hp hyr hnp hne hdl
        by_cases hc : cc = 0
        · have zc : (cc == 0) = true := by simpa using hc
          have HM2 := hide (HMS.out.trans (if_pos hc))
          clear hc HMS
          go_wp2_with fail
          (refine wp_region_quiet_bw (by kernel_rfl) (by kernel_rfl) ?_
           repeat (first | go_big_quiet_step (((go_at_call 130; with_reducible exact HC.out _))) | quiet_step (((go_at_call 130; with_reducible exact HC.out _))))
           refine wpQuiet_nil ?_
           intro wq hw'
           obtain ⟨⟨_, hbq⟩, hw''⟩ := hw'
           subst hw'')
          have g1v := (hbq.cell (p := ⟨g, p * 2 + 1, none⟩) hgl).trans g1
          have d1v := (hbq.cell (p := ⟨xb, 1, none⟩) hxlt).trans d1
          have fzv := hfz wq hbq
          have HSET := hide (hset wq.drew (y.m + x.m) hbq.drew)
          have HBQ := hide ((bstep bk1 hbq).drew.setCell (p := ⟨g, p * 2 + 1, none⟩) hgb (.int .i64 (y.m + x.m)))
          have HREL := hide (show dat (lo.set p ⟨y.A, y.n, y.c, y.r, y.m + x.m⟩) = mrgB ((dat l').take (k + 1)) from by
            have h1 := HDN.out
            rw [HTK.out, HM2.out, dat_set, HLO.out, List.set_append_right _ _ (by omega), show p - dl.length = 0 from by omega]
            rfl)
          clear hfz hset hbq y0 x0 HC g0 g1 d0 d1 hO1 hrx1 bk1
          go_wp2_with fail
          go_region
          go_wp2
          go_roundw
          case rel => exact ⟨k + 1, _, _, by omega, by go_num, rfl, HSET.out, HREL.out, HBQ.out⟩
          case measure => simp [intOf]; omega
        · have zc : (cc == 0) = false := by simpa using hc
          have HM2 := hide (HMS.out.trans (if_neg hc))
          clear hc HMS
          go_wp2_with fail
          (refine wp_region_quiet_bw (by kernel_rfl) (by kernel_rfl) ?_
           repeat (first | go_big_quiet_step (((go_at_call 130; with_reducible exact HC.out _))) | quiet_step (((go_at_call 130; with_reducible exact HC.out _))))
           refine wpQuiet_nil ?_
           intro wq hw'
           obtain ⟨⟨_, hbq⟩, hw''⟩ := hw'
           subst hw'')
          have d0v := (hbq.cell (p := ⟨xb, 0, none⟩) hxlt).trans d0
          have d1v := (hbq.cell (p := ⟨xb, 1, none⟩) hxlt).trans d1
          have hOq := hO1.below hbq
          have hrq := hrx1.below hbq
          have bkq := bstep bk1 hbq
          have hownq := hOq.own.alloc (.cells #[.slice x.A x.n x.c, .int .i64 x.m] 119)
          have HREL := hide (show dat (lo ++ [x]) = mrgB ((dat l').take (k + 1)) from by
            rw [HTK.out, HM2.out]
            simp [dat])
          have hsz := bkq.size
          rw [HNO.out] at hOq hownq
          clear hfz hset y0 x0 HC g0 g1 d0 d1 hO1 hrx1 bk1 hbq
          go_wp2_with (at_builtin; go_loud (refine wpList_append_own _ rfl _ _ 40 rfl W1.heap.size 119 i0 _ 2 32 Tryz.underlying40 hi0 hz0 hz1 hz2 rfl (by decide) (.slice (some ⟨g, 0, none⟩) no co) no (lo.flatMap encIt) rfl hownq ⟨wq.heap.size, 0, none⟩ 1 1 [.slice x.A x.n x.c, .int .i64 x.m] rfl rfl (cells_new _ _ _) (by simp [Value.oneCell']) (by unfold maxLen; have := HNO.out; omega) (by have := HNO.out; omega) (by simp; omega) ?_; intro v' w1 hown' hgrow _; have hOI := oi_push hOq hsz hrq HNO.out hown' hgrow; have hBe := below_append (bkq.alloc hsz (.cells #[.slice x.A x.n x.c, .int .i64 x.m] 119)) hownq (by simp; omega) hgrow))
          have HOI := hide hOI
          clear hOI hown' hgrow
          go_wp2
          go_roundw
          case rel => exact ⟨k + 1, _, _, by omega, by go_num, rfl, HOI.out, HREL.out, hBe⟩
          case measure => simp [intOf]; omega
      · have HLN := hide (show lo = [] from List.eq_nil_of_length_eq_zero (by omega))
        have HM2 := hide (show mrgS (dat lo) (x.r, x.m) = dat lo ++ [(x.r, x.m)] from by rw [HLN.out]; rfl)
        obtain ⟨no, hno⟩ : ∃ no, lo.length = no := ⟨_, rfl⟩
        rw [hno] at hne ⊢
        have hn0 : no = 0 := by omega
        have HNO := hide hno
        have z : decide ((0 : Int) < (no : Int)) = false := by rw [decide_eq_false_iff_not]; omega
        have zn : decide (0 < no) = false := by rw [decide_eq_false_iff_not]; omega
        clear hno hne hn0
        go_wp2_with fail
        (refine wp_region_quiet_bw (by kernel_rfl) (by kernel_rfl) ?_
         repeat (first | go_big_quiet_step ((fail)) | quiet_step ((fail)))
         refine wpQuiet_nil ?_
         intro wq hw'
         obtain ⟨⟨_, hbq⟩, hw''⟩ := hw'
         subst hw'')
        have d0v := (hbq.cell (p := ⟨xb, 0, none⟩) hxlt).trans d0
        have d1v := (hbq.cell (p := ⟨xb, 1, none⟩) hxlt).trans d1
        have hOq := hO1.below hbq
        have hrq := hrx1.below hbq
        have bkq := bstep bk1 hbq
        have hownq := hOq.own.alloc (.cells #[.slice x.A x.n x.c, .int .i64 x.m] 119)
        have HREL := hide (show dat (lo ++ [x]) = mrgB ((dat l').take (k + 1)) from by
          rw [HTK.out, HM2.out]
          simp [dat])
        have hsz := bkq.size
        rw [HNO.out] at hOq hownq
        clear z zn d0 d1 hO1 hrx1 bk1 hbq
        go_wp2_with (at_builtin; go_loud (refine wpList_append_own _ rfl _ _ 40 rfl W1.heap.size 119 i0 _ 2 32 Tryz.underlying40 hi0 hz0 hz1 hz2 rfl (by decide) (.slice Ao no co) no (lo.flatMap encIt) rfl hownq ⟨wq.heap.size, 0, none⟩ 1 1 [.slice x.A x.n x.c, .int .i64 x.m] rfl rfl (cells_new _ _ _) (by simp [Value.oneCell']) (by unfold maxLen; have := HNO.out; omega) (by have := HNO.out; omega) (by simp; omega) ?_; intro v' w1 hown' hgrow _; have hOI := oi_push hOq hsz hrq HNO.out hown' hgrow; have hBe := below_append (bkq.alloc hsz (.cells #[.slice x.A x.n x.c, .int .i64 x.m] 119)) hownq (by simp; omega) hgrow))
        have HOI := hide hOI
        clear hOI hown' hgrow
        go_wp2
        go_roundw
        case rel => exact ⟨k + 1, _, _, by omega, by go_num, rfl, HOI.out, HREL.out, hBe⟩
        case measure => simp [intOf]; omega
    · obtain rfl : n = k := by omega
      have hdl := HDL.out
      rw [List.take_of_length_le (by rw [HLD.out]; exact Nat.le_refl _), HAF.out] at hdl
      obtain ⟨hbl, _, hcap⟩ := hO.bag
      obtain ⟨D, hD⟩ : ∃ D, aftB [] (dat l) = D := ⟨_, rfl⟩
      rw [hD] at hdl ⊢
      have HFR := hide (show ∀ b o, 0 < lo.length → Ao = some ⟨b, o, none⟩ → w.heap.size ≤ b from fun b o _ e => by
        subst e
        have h1 := (hO.own.lt b rfl).1
        have h2 := HBAR.out.size
        omega)
      have HDD := hide hdl
      have HAD := hide hD
      obtain ⟨no, hno⟩ : ∃ no, lo.length = no := ⟨_, rfl⟩
      rw [hno] at hbl hcap HFR ⊢
      have HV := hide (BagValid_any Ao no co 0 lo wr hbl)
      rw [hdl] at HV
      have HB1 := hide (HBAR.out.trans (Bar.of_below (hBr.mono HBAR.out.size) _))
      have hbl0 := hbl
      obtain ⟨q, hq⟩ : ∃ q, okBag D = q := ⟨_, rfl⟩
      rw [hq] at HV
      have HQ := hide hq
      clear hdl hbl hO hBr hno hD hq
      go_wp2_with fail
      refine HV.out.mono ?_
      rintro e W3 ⟨rfl, hb⟩
      have HBL := hide (hbl0.below hb)
      have HB2 := hide (HB1.out.trans (Bar.of_below (hb.mono HB1.out.size) _))
      clear hb hbl0 HV HB1
      cases q
      · go_wp2
        refine bodyPost_ret (results_tmp2 rfl _ _ _) rfl ?_
        exact ⟨none, 0, 0, [], 4, rfl, by rw [HAD.out, HQ.out]; rfl, BagR.nil _ _, Nat.le_refl _, fun b o h => absurd h (by omega), HB2.out⟩
      · go_wp2
        refine bodyPost_ret (results_tmp2 rfl _ _ _) rfl ?_
        exact ⟨Ao, no, co, lo, 0, rfl, by rw [HAD.out, HQ.out, HDD.out]; rfl, HBL.out, hcap, HFR.out, HB2.out⟩
end

end Go.Proofs.YtoapjidpfghnlaaGreatDoor
