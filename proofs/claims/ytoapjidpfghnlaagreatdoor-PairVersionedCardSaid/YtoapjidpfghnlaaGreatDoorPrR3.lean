/-
  The walks of the reference's both and PutEvent. No condition.
-/
import Derived.Test.YtoapjidpfghnlaaGreatDoorPrR2
import Derived.Test.YtoapjidpfghnlaaGreatDoorPrK
import Derived.Deep.CutRange
namespace Go.Proofs.YtoapjidpfghnlaaGreatDoor
open Go.RowKit
attribute [local go_sem] Oper.semAt_some wide_fn wide_depth
set_option linter.unusedVariables false
set_option linter.unusedSimpArgs false

/-- A row of the call's own, handed back. -/
def RetRowO (w : World) (n : Nat) (r : Rw) (e : Ending) (w' : World) : Prop := ∃ A c, e = .returned (.slice A n c) ∧ w'.ownsRow w.heap.size 102 3 (.slice A n c) n (r.flatMap encV) ∧ Below w.heap.size w w'
set_option maxRecDepth 100000 in
set_option maxHeartbeats 2000000 in
theorem OwnO_any (A : Option Addr) (n c B : Nat) (r : Rw) (w : World) (hr : RowK w B A n r) (hn : n ≤ 1000) :
    Calls Tryz.prog 116 #[.slice A n c] w (RetRowO w n r) := by
  obtain ⟨i0, hi, hz0, hz1, hz2⟩ := info_parts3 infoVal
  have hlit := own_lit w 102 3 0 #[] rfl (by unfold maxLen; omega) (Nat.le_refl w.heap.size)
  have hB0 := below_val (w := w) #[] 102
  have hrd := hr.rd.alloc (Nat.le_refl _) (.cells #[] 102)
  have hle := hr.le
  clear hr
  go_enter Tryz.func116, Tryz.ntmps116
  go_wp2_with (at_builtin; refine wpList_append_any _ rfl _ _ 34 rfl w.heap.size 102 i0 _ 3 32 Tryz.underlying34 hi hz0 hz1 hz2 rfl (by decide) (.slice (some ⟨w.heap.size, 0, none⟩) 0 0) 0 [] rfl hlit w.heap.size A n c (r.flatMap encV) rfl hrd one_cell (by unfold maxLen; omega) (by omega) (by simp) ?_; intro v' W1 hown hgrow _; rw [Nat.zero_add, List.nil_append] at hown)
  have hB1 : Below w.heap.size w W1 := below_append hB0 hlit (by simp) hgrow
  obtain ⟨A', c', rfl, hR⟩ := own_form hown
  go_ret
  exact ⟨A', c', rfl, hown, hB1⟩
set_option maxRecDepth 100000 in
set_option maxHeartbeats 2000000 in
theorem both9_any (A : Option Addr) (n c : Nat) (r : Rw) (A' : Option Addr) (n' c' : Nat) (r' : Rw) (w : World) (hr : RowK w w.heap.size A n r) (hr' : RowK w w.heap.size A' n' r') (hn : n ≤ 1000) (hn' : n' ≤ 1000) :
    Calls Tryz.prog 79 #[.slice A n c, .slice A' n' c'] w (RetRowO w (n + n') (r ++ r')) := by
  obtain ⟨i0, hi, hz0, hz1, hz2⟩ := info_parts3 infoVal
  go_enter Tryz.func79, Tryz.ntmps79
  go_wp2_with fail
  refine (OwnO_any A n c _ r w hr hn).mono ?_
  rintro e W1 ⟨A1, c1, rfl, hown1, hB1⟩
  have hs1 := hB1.size
  have hrd := (hr'.below hB1).rd.up (Below.refl _ _)
  have one := one_vals r'
  have hfm : (r ++ r').flatMap encV = r.flatMap encV ++ r'.flatMap encV := by rw [List.flatMap_append]
  have HFM := hide hfm
  clear hfm hr hr'
  go_wp2_with (at_builtin; refine wpList_append_any _ rfl _ _ 34 rfl w.heap.size 102 i0 _ 3 32 Tryz.underlying34 hi hz0 hz1 hz2 rfl (by decide) (.slice A1 n c1) n (r.flatMap encV) rfl hown1 W1.heap.size A' n' c' (r'.flatMap encV) rfl hrd one (by unfold maxLen; omega) (by omega) (by omega) ?_; intro v' W2 hown hgrow _)
  have hB2 : Below w.heap.size w W2 := below_append hB1 hown1 (by omega) hgrow
  obtain ⟨A2, c2, rfl, hR⟩ := own_form hown
  go_ret
  exact ⟨A2, c2, rfl, by rw [HFM.out]; exact hown, hB2⟩

/-! Parts of a slice of events. -/
theorem flat_takeE (l : List Ev) (j : Nat) : (l.take j).flatMap encEv = (l.flatMap encEv).take (j * 2) := by
  induction l generalizing j with
  | nil => simp
  | cons x l ih =>
    cases j with
    | zero => simp
    | succ j =>
      rw [List.take_succ_cons, List.flatMap_cons, List.flatMap_cons, ih, show (j + 1) * 2 = (encEv x).length + j * 2 by rw [encEv_len]; omega, List.take_length_add_append]
theorem flat_dropE (l : List Ev) (j : Nat) : (l.drop j).flatMap encEv = (l.flatMap encEv).drop (j * 2) := by
  induction l generalizing j with
  | nil => simp
  | cons x l ih =>
    cases j with
    | zero => simp
    | succ j =>
      rw [List.drop_succ_cons, List.flatMap_cons, ih, show (j + 1) * 2 = (encEv x).length + j * 2 by rw [encEv_len]; omega, List.drop_length_add_append]
theorem Reads.takeE {w : World} {B n j : Nat} {A : Option Addr} {l : List Ev} (h : Reads w B 2 A n (l.flatMap encEv)) (hj : j ≤ n) : Reads w B 2 A j ((l.take j).flatMap encEv) := by
  have hl := h.len encEv_len (by omega)
  refine ⟨by rw [flat_length encEv_len, List.length_take]; omega, fun h0 => ?_⟩
  obtain ⟨b, off, e, hb, hc⟩ := h.2 (by omega)
  refine ⟨b, off, e, hb, fun i u hu => hc i u ?_⟩
  rw [flat_takeE, List.getElem?_take] at hu
  split at hu
  · exact hu
  · cases hu
def dropAE (A : Option Addr) (j c : Nat) : Option Addr := if c = j then A else A.map (·.add (j * 2))
theorem Reads.dropE {w : World} {B n j c : Nat} {A : Option Addr} {l : List Ev} (h : Reads w B 2 A n (l.flatMap encEv)) (hj : j ≤ n) (hc : n ≤ c) : Reads w B 2 (dropAE A j c) (n - j) ((l.drop j).flatMap encEv) := by
  have hl := h.len encEv_len (by omega)
  refine ⟨by rw [flat_length encEv_len, List.length_drop, hl], fun h0 => ?_⟩
  obtain ⟨b, off, e, hb, hcl⟩ := h.2 (by omega)
  refine ⟨b, off + j * 2, by rw [e]; unfold dropAE; rw [if_neg (by omega)]; simp [add_plain], hb, fun i u hu => ?_⟩
  rw [flat_dropE, List.getElem?_drop] at hu
  have := hcl _ u hu
  rw [Nat.add_assoc]
  exact this
theorem take_runE (A : Option Addr) (n c j : Nat) (hj : j ≤ n) (hc : n ≤ c) (w : World) :
    (Instr.slice 25 (.slice A n c) none (some (.int .i64 (j : Int))) none).run Tryz.prog w = .ok (.slice A j c) w := by
  have u := Tryz.underlying25
  have z := Tryz.sizeOf36
  have q1 : (0 : Int) ≤ (j : Int) := by omega
  have q2 : (j : Int) ≤ (c : Int) := by omega
  unfold Instr.slice
  go_simp
theorem drop_runE (A : Option Addr) (n c j : Nat) (hj : j ≤ n) (hc : n ≤ c) (w : World) :
    (Instr.slice 25 (.slice A n c) (some (.int .i64 (j : Int))) none none).run Tryz.prog w = .ok (.slice (dropAE A j c) (n - j) (c - j)) w := by
  have u := Tryz.underlying25
  have z := Tryz.sizeOf36
  have q1 : (0 : Int) ≤ (j : Int) := by omega
  have q2 : (j : Int) ≤ (n : Int) := by omega
  unfold Instr.slice dropAE
  by_cases h : c = j
  · subst h
    obtain rfl : c = n := by omega
    go_simp
  · go_simp
theorem one_encEvs (l : List Ev) : ∀ u ∈ l.flatMap encEv, u.oneCell' = true := fun u hu => by
  obtain ⟨x, _, hx⟩ := List.mem_flatMap.1 hu
  unfold encEv at hx
  simp only [List.mem_cons, List.not_mem_nil, or_false] at hx
  rcases hx with rfl | rfl <;> rfl
/-- Events, handed back. -/
def RetEvs (w : World) (p : List Te) (e : Ending) (w' : World) : Prop := ∃ A n c k, e = .returned (.slice A n c) ∧ dE k = p ∧ EvR w' w'.heap.size A n k ∧ n ≤ c ∧ Below w.heap.size w w'
theorem cmpE_pos {x y : Te} : cmpE x y < 0 ↔ (x.1 < y.1 ∨ (y.1 = x.1 ∧ 0 < cmpR y.2 x.2)) := by
  have ha := Tot.row.anti x.2 y.2
  unfold cmpE thenC cmpI
  by_cases h1 : x.1 < y.1
  · simp [h1]
  · by_cases h2 : y.1 < x.1
    · simp [h1, h2]; omega
    · have : y.1 = x.1 := by omega
      simp [this]
      omega
end Go.Proofs.YtoapjidpfghnlaaGreatDoor
