/-
  The walks of slices.Clone at rows, bag.pairs, bag.put, and of the functions that Sum, Minus and Times hand on.
-/
import Derived.Test.YtiioiajcoiaalaaGreatDoorBgP2
import Derived.Test.YtiioiajcoiaalaaGreatDoorApp
import Derived.Lib.LazyBuf
namespace Go.Proofs.YtiioiajcoiaalaaGreatDoor
open Go.RowKit
attribute [local go_sem] Oper.semAt_some wide_fn wide_depth

theorem info_parts3 {t : TypeId} {z : Value} {s b : Nat} (h : (Tryz.prog.info? t).map (fun i => (i.zero, i.size, i.bytes)) = some (some z, s, b)) : ∃ i, Tryz.prog.info? t = some i ∧ i.zero = some z ∧ i.size = s ∧ i.bytes = b := by
  obtain ⟨i, hi, hz⟩ := Option.map_eq_some_iff.1 h
  simp only [Prod.mk.injEq] at hz
  exact ⟨i, hi, hz.1, hz.2.1, hz.2.2⟩
theorem infoVal : (Tryz.prog.info? 64).map (fun i => (i.zero, i.size, i.bytes)) = some (some (.agg #[.int .i64 0, .int .i64 0, .string ByteArray.empty]), 3, 32) := by kernel_rfl
theorem infoItem : (Tryz.prog.info? 62).map (fun i => (i.zero, i.size, i.bytes)) = some (some (.agg #[.slice none 0 0, .int .i64 0]), 2, 32) := by kernel_rfl
theorem one_cell {r : Rw} : ∀ u ∈ r.flatMap encV, u.oneCell' = true := by
  intro u hu
  obtain ⟨v, _, hv⟩ := List.mem_flatMap.1 hu
  unfold encV at hv
  simp only [List.mem_cons, List.not_mem_nil, or_false] at hv
  rcases hv with rfl | rfl | rfl <;> rfl

/-- A row, handed back. -/
def RetRow (w : World) (B n : Nat) (r : Rw) (e : Ending) (w' : World) : Prop := ∃ A' c', e = .returned (.slice A' n c') ∧ RowK w' B A' n r ∧ Below w.heap.size w w'
set_option maxRecDepth 100000 in
set_option maxHeartbeats 2000000 in
theorem Clone_any (A : Option Addr) (n c B B' : Nat) (r : Rw) (w : World) (hr : RowK w B A n r) (hn : n ≤ 1000) :
    Calls Tryz.prog 57 #[.slice A n c] w (RetRow w B' n r) := by
  obtain ⟨i0, hi, hz0, hz1, hz2⟩ := info_parts3 infoVal
  cases A with
  | none =>
    have hn0 : n = 0 := by
      rcases Nat.eq_zero_or_pos n with h | h
      · exact h
      · obtain ⟨b, off, e, _⟩ := hr.rd.2 h
        cases e
    subst hn0
    have hq := fun w => run_eql_slice_nil (P := Tryz.prog) w 43 64 none 0 c Tryz.underlying43
    go_enter Tryz.func57, Tryz.ntmps57
    go_wp2
    go_ret
    exact ⟨none, _, rfl, ⟨hr.rd, fun h => absurd h (Nat.lt_irrefl _), hr.le⟩, Below.refl _ _⟩
  | some a =>
    have hlit := own_lit w 64 3 0 #[] rfl (by unfold maxLen; omega) (Nat.le_refl w.heap.size)
    have hB0 := below_val (w := w) #[] 64
    have hrd := hr.rd.alloc (Nat.le_refl _) (.cells #[] 64)
    have hle := hr.le
    clear hr
    have hq := fun w => run_eql_slice_nil (P := Tryz.prog) w 43 64 (some a) n c Tryz.underlying43
    go_enter Tryz.func57, Tryz.ntmps57
    go_wp2_with (at_builtin; refine wpList_append_any _ rfl _ _ 43 rfl w.heap.size 64 i0 _ 3 32 Tryz.underlying43 hi hz0 hz1 hz2 rfl (by decide) (.slice (some ⟨w.heap.size, 0, none⟩) 0 0) 0 [] rfl hlit w.heap.size (some a) n c (r.flatMap encV) rfl hrd one_cell (by unfold maxLen; omega) (by omega) (by simp) ?_; intro v' W1 hown hgrow _; rw [Nat.zero_add, List.nil_append] at hown)
    have hB1 : Below w.heap.size w W1 := below_append hB0 hlit (by simp) hgrow
    obtain ⟨A', c', rfl, hR⟩ := own_form hown
    go_ret
    exact ⟨A', c', rfl, RowK.of_own hown hle, hB1⟩

theorem pairs_any (v1 v2 : Value) (w : World) (h1 : ∃ A n c, v1 = .slice A n c) (h2 : ∃ A n c, v2 = .slice A n c) : Calls Tryz.prog 55 #[v1, v2] w fun e w' =>
    e = .returned (.func (Fn.func 113) #[] #[.pointer (some ⟨w.heap.size, 0, none⟩), .pointer (some ⟨w.heap.size + 1, 0, none⟩)]) ∧ w' = (w.alloc (.cells #[v1] 23)).alloc (.cells #[v2] 23) := by
  obtain ⟨A, n, c, rfl⟩ := h1
  obtain ⟨A', n', c', rfl⟩ := h2
  go_enter Tryz.func55, Tryz.ntmps55
  go_wp2
  go_ret
  exact ⟨rfl, rfl⟩
/-- A bag and an error, handed back. -/
def RetBag (w : World) (d : Bg) (E : Int) (e : Ending) (w' : World) : Prop :=
  ∃ A n c l, e = .returned (.tuple #[.slice A n c, .int .i64 E]) ∧ dat l = d ∧ BagR w' w'.heap.size A n l ∧ n ≤ c ∧ Below w.heap.size w w'
/-- A bag that is told if it is valid. -/
def RetPut (w : World) (d : Bg) : Ending → World → Prop := RetBag w (if okBag d then d else []) (if okBag d then 0 else 4)
theorem put_any (A : Option Addr) (n c B : Nat) (l : List It) (w : World) (hb : BagR w B A n l) (hB : B ≤ w.heap.size) (hc : n ≤ c) :
    Calls Tryz.prog 45 #[.slice A n c] w (RetPut w (dat l)) := by
  cases ho : okBag (dat l)
  · have HO := hide ho
    rw [show RetPut w (dat l) = RetBag w [] 4 from by unfold RetPut; rw [ho]; rfl]
    clear ho
    go_enter Tryz.func45, Tryz.ntmps45
    go_wp2_with fail
    refine (BagValid_any A n c B l w hb).mono ?_
    rintro e w' ⟨rfl, hB1⟩
    rw [HO.out]
    go_wp2
    go_ret2
    exact ⟨none, 0, 0, [], rfl, rfl, BagR.nil _ _, Nat.le_refl _, hB1⟩
  · have HO := hide ho
    rw [show RetPut w (dat l) = RetBag w (dat l) 0 from by unfold RetPut; rw [ho]; rfl]
    clear ho
    go_enter Tryz.func45, Tryz.ntmps45
    go_wp2_with fail
    refine (BagValid_any A n c B l w hb).mono ?_
    rintro e w' ⟨rfl, hB1⟩
    rw [HO.out]
    have hb' := (hb.below hB1).mono (Nat.le_trans hB hB1.size)
    go_wp2
    go_ret2
    exact ⟨A, n, c, l, rfl, rfl, hb', hc, hB1⟩
end Go.Proofs.YtiioiajcoiaalaaGreatDoor
