/-
  A row of bools that the call makes, told by a function, and bags that lie beside it. No condition.
  The reference's Put into a bag that tells what was told so far: one more is told. No condition.
  The outer join as plain data: what is told so far is not too much; which right rows are met by no left one so far. No condition.
-/
import Derived.Test.YtoapjidpfghnlaaGreatDoorOuP
import Derived.Test.YtoapjidpfghnlaaGreatDoorOuS
namespace Go.Proofs.YtoapjidpfghnlaaGreatDoor

section
open Go.RowKit
attribute [local go_sem] Oper.semAt_some wide_fn wide_depth
set_option linter.unusedVariables false
set_option linter.unusedSimpArgs false

theorem Reads.offO {w : World} {B size n : Nat} {A : Option Addr} {xs : List Value} (h : Reads w B size A n xs) {p : Addr} (hp : ∀ u ∈ xs, w.cell? p ≠ some u) (v : Value) : Reads (w.setCell p v) B size A n xs :=
  ⟨h.1, fun hn => by
    obtain ⟨b, off, e, hb, hc⟩ := h.2 hn
    refine ⟨b, off, e, hb, fun j u hj => ?_⟩
    refine (World.cell?_setCell_other w _ _ v (fun e => ?_)).trans (hc j u hj)
    subst e
    exact hp u (List.mem_of_getElem? hj) (hc j u hj)⟩
/-- A row of bools, in a block of the call's own. -/
def Bl (N : Nat) (W : World) (b n : Nat) (f : Nat → Bool) : Prop := N ≤ b ∧ W.rowIs b 4 n (fun k => .bool (f k))
theorem infoBool_ou : (Tryz.prog.info? 4).map (fun i => (i.zero, i.size, i.bytes)) = some (some (.bool false), 1, 1) := by kernel_rfl
theorem run_make_bl (n : Nat) (hn : n ≤ 1000000) (w : World) :
    (Instr.makeSlice 179 (.int .i64 (n : Int)) (.int .i64 (n : Int))).run Tryz.prog w = .ok (.slice (some ⟨w.heap.size, 0, none⟩) n n) (w.alloc (.cells (madeCells #[.bool false] n) 4)) :=
  run_make_row' (P := Tryz.prog) 179 4 (.bool false) 1 Tryz.underlying179 infoBool_ou rfl .i64 .i64 n (by omega) (by omega) w
theorem Bl.made (w : World) (n : Nat) : Bl w.heap.size (w.alloc (.cells (madeCells #[.bool false] n) 4)) w.heap.size n (fun _ => false) := ⟨Nat.le_refl _, World.rowIs_made w (.bool false) n 4⟩
theorem Bl.below {N : Nat} {W W' : World} {b n : Nat} {f : Nat → Bool} (h : Bl N W b n f) (hb : Below W.heap.size W W') : Bl N W' b n f := ⟨h.1, h.2.of_block (hb.block b h.2.lt)⟩
theorem Bl.cell {N : Nat} {W : World} {b n k : Nat} {f : Nat → Bool} (h : Bl N W b n f) (hk : k < n) : W.cell? ⟨b, k, none⟩ = some (.bool (f k)) := h.2.cell hk
theorem Bl.put {N : Nat} {W : World} {b n k : Nat} {f : Nat → Bool} (h : Bl N W b n f) (v : Bool) : Bl N (W.setCell ⟨b, k, none⟩ (.bool v)) b n (fun j => if j = k then v else f j) :=
  ⟨h.1, (h.2.set k (.bool v)).congr fun j _ => by by_cases e : j = k <;> simp [e]⟩
theorem Bl.congr {N : Nat} {W : World} {b n : Nat} {f g : Nat → Bool} (h : Bl N W b n f) (hf : ∀ k, k < n → f k = g k) : Bl N W b n g := ⟨h.1, h.2.congr fun k hk => by rw [hf k hk]⟩
theorem BagR.offB {W : World} {B n : Nat} {A : Option Addr} {l : List It} (h : BagR W B A n l) {p : Addr} {u : Bool} (hp : W.cell? p = some (.bool u)) (v : Value) : BagR (W.setCell p v) B A n l := by
  have hz : (W.setCell p v).heap.size = W.heap.size := by simp [World.setCell]
  have no : ∀ x, x ≠ Value.bool u → W.cell? p ≠ some x := fun x hx he => hx (by rw [hp] at he; injection he with he; exact he.symm)
  refine ⟨?_, fun i hi => ?_, h.le⟩
  · rw [hz]
    refine h.rd.offO (fun x hx => no x ?_) v
    obtain ⟨y, _, hy⟩ := List.mem_flatMap.1 hx
    simp [encIt] at hy
    rcases hy with rfl | rfl <;> exact nofun
  · have hr := h.rows i hi
    refine ⟨?_, fun hn b off m he => ?_, hr.le⟩
    · rw [hz]
      refine hr.rd.offO (fun x hx => no x ?_) v
      obtain ⟨y, _, hy⟩ := List.mem_flatMap.1 hx
      simp [encV] at hy
      rcases hy with rfl | rfl | rfl <;> exact nofun
    · rcases hr.at_ hn b off m he with h1 | ⟨c, fz, h1⟩
      · exact .inl h1
      · refine .inr ?_
        by_cases e : p.block = b
        · subst e
          exact ⟨_, fz, by simp [World.setCell, Array.getElem?_modify, h1]; rfl⟩
        · exact ⟨c, fz, (Below.heap_setCell W p v b (fun h' => e h'.symm)).trans h1⟩
/-- A bag held in a variable. -/
def RBag (d : Bg) (v : Value) (W : World) : Prop := ∃ A n c l, v = .slice A n c ∧ dat l = d ∧ BagR W W.heap.size A n l ∧ n ≤ c
theorem RBag.below {d : Bg} {v : Value} {W W' : World} (h : RBag d v W) (hb : Below W.heap.size W W') : RBag d v W' := by
  obtain ⟨A, n, c, l, h1, h2, h3, h4⟩ := h
  exact ⟨A, n, c, l, h1, h2, (h3.below hb).mono hb.size, h4⟩
theorem RBag.offB {d : Bg} {v : Value} {W : World} (h : RBag d v W) {p : Addr} {u : Bool} (hp : W.cell? p = some (.bool u)) (x : Value) : RBag d v (W.setCell p x) := by
  obtain ⟨A, n, c, l, h1, h2, h3, h4⟩ := h
  have hz : (W.setCell p x).heap.size = W.heap.size := by simp [World.setCell]
  exact ⟨A, n, c, l, h1, h2, by rw [hz]; exact h3.offB hp x, h4⟩
end

section
open Go.RowKit
attribute [local go_sem] Oper.semAt_some wide_fn wide_depth
set_option linter.unusedVariables false
set_option linter.unusedSimpArgs false

/-- What may be told: valid rows, numbers up to 10^12, not too many. -/
structure ToldOk (xs : Bg) : Prop where
  ok : ∀ x ∈ xs, okR x.1 = true
  num : ∀ x ∈ xs, -4000000000000 ≤ x.2 ∧ x.2 ≤ 4000000000000
  len : xs.length ≤ 300000
theorem ToldOk.nil : ToldOk [] := ⟨nofun, nofun, by simp⟩
theorem sum_absL {xs : Bg} (h : ∀ x ∈ xs, -4000000000000 ≤ x.2 ∧ x.2 ≤ 4000000000000) (r : Rw) : -(4000000000000 * (xs.length : Int)) ≤ sumG xs r ∧ sumG xs r ≤ 4000000000000 * (xs.length : Int) := by
  induction xs with
  | nil => simp [sumG]
  | cons x xs ih =>
    have h1 := h x List.mem_cons_self
    have h2 := ih fun y hy => h y (List.mem_cons_of_mem _ hy)
    simp only [sumG, List.length_cons]
    split <;> omega
theorem told_net {xs : Bg} (h : ∀ x ∈ xs, okR x.1 = true) : Net xs (aftB [] xs) := by
  have := aft_ok (b := []) (l := xs) h Asc.nil (by simp)
  simpa using this
theorem told_len {xs : Bg} (h : ∀ x ∈ xs, okR x.1 = true) : (aftB [] xs).length ≤ xs.length := by
  have key : ∀ n, ∀ xs : Bg, xs.length = n → (∀ x ∈ xs, okR x.1 = true) → (aftB [] xs).length ≤ n := by
    intro n
    induction n with
    | zero =>
      intro xs hn _
      obtain rfl := List.length_eq_zero_iff.1 hn
      simp [aftB]
    | succ n ih =>
      intro xs hn h
      rcases List.eq_nil_or_concat xs with rfl | ⟨ys, x, rfl⟩
      · simp at hn
      rw [List.concat_eq_append] at *
      have hy : ys.length = n := by simpa using hn
      have h1 : ∀ z ∈ ys, okR z.1 = true := fun z hz => h z (List.mem_append_left _ hz)
      have := ih ys hy h1
      rw [aft_snoc]
      have := put_len (told_net h1).asc x.1 x.2
      omega
  exact key _ xs rfl h
theorem told_num {xs : Bg} (h : ToldOk xs) : ∀ x ∈ aftB [] xs, -4000000000000000000 ≤ x.2 ∧ x.2 ≤ 4000000000000000000 := by
  intro x hx
  have hn := told_net h.ok
  have h1 := sum_absL h.num x.1
  rw [← hn.sum, look_in (asc_apart hn.asc) hx] at h1
  have := h.len
  omega
/-- One more is told. -/
def RetTold (w : World) (xs : Bg) (e : Ending) (w' : World) : Prop := ∃ A n c, e = .returned (.slice A n c) ∧ RBag (aftB [] xs) (.slice A n c) w' ∧ Below w.heap.size w w'
theorem RTold_any (xs : Bg) (A0 : Option Addr) (nb c : Nat) (A : Option Addr) (n cr : Nat) (r : Rw) (m : Int) (w : World) (hx : ToldOk xs) (hb : RBag (aftB [] xs) (.slice A0 nb c) w) (hr : RowK w w.heap.size A n r) (hn : n ≤ 1000) (hm : -4000000000000 ≤ m ∧ m ≤ 4000000000000) :
    Calls Tryz.prog 57 #[.slice A0 nb c, .slice A n cr, .int .i64 m] w (RetTold w (xs ++ [(r, m)])) := by
  obtain ⟨A', n', c', l, h1, h2, h3, h4⟩ := hb
  injection h1 with e1 e2 e3
  subst e1 e2 e3
  have hl : nb ≤ 400000 := by
    have h5 := told_len hx.ok
    rw [← h2, dat_len, h3.len] at h5
    have := hx.len
    omega
  refine (RPutL_any A0 nb c l A n cr r m w h3 hl hr hn (fun z hz => ?_) (fun z hz => ?_) (by omega)).mono ?_
  · rw [h2] at hz
    have := okR_len ((told_net hx.ok).asc.ok z hz)
    omega
  · rw [h2] at hz
    exact told_num hx z hz
  · rintro e w' ⟨B, k, d, l', rfl, g2, g3, g4, g5⟩
    exact ⟨B, k, d, rfl, ⟨B, k, d, l', rfl, by rw [g2, h2, aft_snoc], g3, g4⟩, g5⟩
/-! What the join tells is not too much. -/
theorem pairL_len (on others : List Int) (x : Rw × Int) (r : Bg) : (pairL on others x r).length ≤ r.length := by
  unfold pairL
  rw [List.length_map]
  exact List.length_filter_le _ _
theorem leftL_len (lf : Bool) (on others : List Int) (width : Nat) (x : Rw × Int) (r : Bg) : (leftL lf on others width x r).length ≤ r.length + 1 := by
  have := pairL_len on others x r
  unfold leftL
  rw [List.length_append]
  split <;> simp <;> omega
theorem leftsL_len (lf : Bool) (on others : List Int) (width : Nat) (l r : Bg) : (leftsL lf on others width l r).length ≤ l.length * (r.length + 1) := by
  unfold leftsL
  induction l with
  | nil => simp
  | cons x l ih =>
    rw [List.flatMap_cons, List.length_append, List.length_cons, Nat.add_mul, Nat.one_mul]
    have := leftL_len lf on others width x r
    omega
theorem rightL_len (rt : Bool) (on others : List Int) (wide : Nat) (l r : Bg) : (rightL rt on others wide l r).length ≤ r.length := by
  unfold rightL
  rw [List.length_map]
  exact List.length_filter_le _ _
end

section
open Go.RowKit
set_option linter.unusedVariables false

/-- A side of the join. -/
structure SideOk (l : Bg) (cols : List Int) (n : Nat) : Prop where
  row : ∀ x ∈ l, okR x.1 = true ∧ x.1.length = n ∧ hasC x.1 cols = true
  num : ∀ x ∈ l, 1 ≤ x.2 ∧ x.2 ≤ 2000000
  len : l.length ≤ 400
theorem SideOk.take {l : Bg} {cols : List Int} {n : Nat} (h : SideOk l cols n) (k : Nat) : SideOk (l.take k) cols n :=
  ⟨fun x hx => h.row x (List.mem_of_mem_take hx), fun x hx => h.num x (List.mem_of_mem_take hx), by have := h.len; rw [List.length_take]; omega⟩
def TellP (c : Rw × Int) : Prop := okR c.1 = true ∧ -4000000000000 ≤ c.2 ∧ c.2 ≤ 4000000000000
theorem told_of {xs : Bg} (h : ∀ c ∈ xs, TellP c) (hl : xs.length ≤ 300000) : ToldOk xs := ⟨fun x hx => (h x hx).1, fun x hx => (h x hx).2, hl⟩
theorem okR_app {a b : Rw} (h1 : a.all okV = true) (h2 : b.all okV = true) (h3 : a.length + b.length ≤ 8) : okR (a ++ b) = true := by
  unfold okR
  rw [Bool.and_eq_true, decide_eq_true_eq, List.all_append, h1, h2, List.length_append]
  exact ⟨rfl, h3⟩
section
variable {lf rt : Bool} {on others : List Int} {wide width : Nat} {l r : Bg}
theorem pair_tell {x : Rw × Int} (hx : okR x.1 = true ∧ x.1.length = wide ∧ 1 ≤ x.2 ∧ x.2 ≤ 2000000) (hr : SideOk r others width) (hw : wide + width ≤ 8) : ∀ c ∈ pairL on others x r, TellP c := by
  intro c hc
  unfold pairL at hc
  obtain ⟨y, hy, rfl⟩ := List.mem_map.1 hc
  have hy := (List.mem_filter.1 hy).1
  obtain ⟨a1, a2, _⟩ := hr.row y hy
  obtain ⟨b1, b2⟩ := hr.num y hy
  obtain ⟨x1, x2, x3, x4⟩ := hx
  refine ⟨okR_app (okR_vals x1) (okR_vals a1) (by omega), ?_⟩
  have h1 : 0 ≤ x.2 * y.2 := Int.mul_nonneg (by omega) (by omega)
  have h2 : x.2 * y.2 ≤ 2000000 * 2000000 := Int.mul_le_mul x4 b2 (by omega) (by omega)
  show _ ∧ _
  omega
theorem left_tell {x : Rw × Int} (hx : okR x.1 = true ∧ x.1.length = wide ∧ 1 ≤ x.2 ∧ x.2 ≤ 2000000) (hr : SideOk r others width) (hw : wide + width ≤ 8) : ∀ c ∈ leftL lf on others width x r, TellP c := by
  intro c hc
  unfold leftL at hc
  rcases List.mem_append.1 hc with hc | hc
  · exact pair_tell hx hr hw c hc
  · split at hc
    · obtain rfl : c = (x.1 ++ nullR width, x.2) := by simpa using hc
      obtain ⟨x1, x2, x3, x4⟩ := hx
      exact ⟨okR_app (okR_vals x1) (nullR_okV _) (by rw [nullR_len]; omega), by show _ ∧ _; simp only; omega⟩
    · cases hc
theorem lefts_tell (hl : SideOk l on wide) (hr : SideOk r others width) (hw : wide + width ≤ 8) : ∀ c ∈ leftsL lf on others width l r, TellP c := by
  intro c hc
  unfold leftsL at hc
  obtain ⟨x, hx, hc⟩ := List.mem_flatMap.1 hc
  exact left_tell ⟨(hl.row x hx).1, (hl.row x hx).2.1, hl.num x hx⟩ hr hw c hc
theorem right_tell (hr : SideOk r others width) (hw : wide + width ≤ 8) : ∀ c ∈ rightL rt on others wide l r, TellP c := by
  intro c hc
  unfold rightL at hc
  obtain ⟨y, hy, rfl⟩ := List.mem_map.1 hc
  have hy := (List.mem_filter.1 hy).1
  obtain ⟨a1, a2, _⟩ := hr.row y hy
  have := hr.num y hy
  exact ⟨okR_app (nullR_okV _) (okR_vals a1) (by rw [nullR_len]; omega), by show _ ∧ _; simp only; omega⟩
theorem lefts_few (hl : SideOk l on wide) (hr : SideOk r others width) : (leftsL lf on others width l r).length ≤ 160400 := by
  have h1 := leftsL_len lf on others width l r
  have h2 : l.length * (r.length + 1) ≤ 400 * 401 := Nat.mul_le_mul hl.len (by have := hr.len; omega)
  omega
theorem told_pairs {x : Rw × Int} (hl : SideOk l on wide) (hr : SideOk r others width) (hw : wide + width ≤ 8) (hx : okR x.1 = true ∧ x.1.length = wide ∧ 1 ≤ x.2 ∧ x.2 ≤ 2000000) (k m : Nat) :
    ToldOk (leftsL lf on others width (l.take k) r ++ pairL on others x (r.take m)) := by
  refine told_of (fun c hc => (List.mem_append.1 hc).elim (lefts_tell (hl.take k) hr hw c) (pair_tell hx (hr.take m) hw c)) ?_
  have h1 := lefts_few (lf := lf) (hl.take k) hr
  have h2 := pairL_len on others x (r.take m)
  have h3 := (hr.take m).len
  rw [List.length_append]
  omega
theorem told_rights (hl : SideOk l on wide) (hr : SideOk r others width) (hw : wide + width ≤ 8) (m : Nat) :
    ToldOk (leftsL lf on others width l r ++ rightL rt on others wide l (r.take m)) := by
  refine told_of (fun c hc => (List.mem_append.1 hc).elim (lefts_tell hl hr hw c) (right_tell (hr.take m) hw c)) ?_
  have h1 := lefts_few (lf := lf) hl hr
  have h2 := rightL_len rt on others wide l (r.take m)
  have h3 := (hr.take m).len
  rw [List.length_append]
  omega
end
/-- Which right rows are met by no left one so far. -/
def loneF (on others : List Int) (l r : Bg) (j : Nat) : Bool := ((r[j]?).map (loneB on others l)).getD true
theorem loneF_nil (on others : List Int) (r : Bg) (j : Nat) : loneF on others [] r j = true := by
  unfold loneF
  cases r[j]? <;> rfl
theorem loneF_at {on others : List Int} {l r : Bg} {j : Nat} {y : Rw × Int} (h : r[j]? = some y) : loneF on others l r j = loneB on others l y := by unfold loneF; rw [h]; rfl
/-- .. while a left row is gone through. -/
def midF (on others : List Int) (l : Bg) (x : Rw × Int) (r : Bg) (m j : Nat) : Bool := if j < m then loneF on others (l ++ [x]) r j else loneF on others l r j
theorem midF_zero (on others : List Int) (l : Bg) (x : Rw × Int) (r : Bg) : midF on others l x r 0 = loneF on others l r := by funext j; simp [midF]
theorem midF_all {on others : List Int} {l : Bg} {x : Rw × Int} {r : Bg} {n j : Nat} (h : j < n) : midF on others l x r n j = loneF on others (l ++ [x]) r j := by simp [midF, h]
theorem midF_yes {on others : List Int} {l : Bg} {x : Rw × Int} {r : Bg} {m : Nat} {y : Rw × Int} (hy : r[m]? = some y) (h : eqK on others x.1 y.1 = true) (j : Nat) : (if j = m then false else midF on others l x r m j) = midF on others l x r (m + 1) j := by
  unfold midF
  by_cases e : j = m
  · subst e
    rw [if_pos rfl, if_pos (by omega), loneF_at hy, loneB_snoc, h]
    simp
  · rw [if_neg e]
    by_cases h1 : j < m
    · rw [if_pos h1, if_pos (by omega)]
    · rw [if_neg h1, if_neg (by omega)]
theorem midF_no {on others : List Int} {l : Bg} {x : Rw × Int} {r : Bg} {m : Nat} {y : Rw × Int} (hy : r[m]? = some y) (h : eqK on others x.1 y.1 = false) (j : Nat) : midF on others l x r m j = midF on others l x r (m + 1) j := by
  unfold midF
  by_cases e : j = m
  · subst e
    rw [if_neg (by omega), if_pos (by omega), loneF_at hy, loneF_at hy, loneB_snoc, h]
    simp
  · by_cases h1 : j < m
    · rw [if_pos h1, if_pos (by omega)]
    · rw [if_neg h1, if_neg (by omega)]
end

end Go.Proofs.YtoapjidpfghnlaaGreatDoor
