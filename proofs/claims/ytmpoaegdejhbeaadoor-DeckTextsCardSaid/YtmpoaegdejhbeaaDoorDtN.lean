/-
  The walk of the reference's Number. No condition.
-/
import Derived.Test.YtmpoaegdejhbeaaDoorDtA
import Derived.Test.YtmpoaegdejhbeaaDoorTcG
namespace Go.Proofs.YtmpoaegdejhbeaaDoor
open Go.RowKit
set_option linter.unusedVariables false
set_option linter.unusedSimpArgs false

/-- A number, and whether it is one. -/
def RetNq (w : World) (o : Option Int) (e : Ending) (w' : World) : Prop := ∃ v, e = .returned (.tuple #[.int .i64 v, .bool o.isSome]) ∧ w = w' ∧ ∀ n, o = some n → v = n
theorem RetNq.bad {w : World} {o : Option Int} {v : Int} (h : o = none) : RetNq w o (.returned (.tuple #[.int .i64 v, .bool false])) w := by
  subst h
  exact ⟨v, rfl, rfl, fun n hn => by cases hn⟩
theorem RetNq.good {w : World} {o : Option Int} {v : Int} (h : o = some v) : RetNq w o (.returned (.tuple #[.int .i64 v, .bool true])) w := by
  subst h
  exact ⟨v, rfl, rfl, fun n hn => by injection hn⟩
/-- Behind j digits of a word of digits. -/
structure DgI (t : List UInt8) (j : Nat) (n : Int) : Prop where
  le : j ≤ t.length
  dg : ∀ c ∈ t.take j, isDg c = true
  n : n = (dgs 0 (t.take j) : Nat)
theorem DgI.bound {t : List UInt8} {j : Nat} {n : Int} (h : DgI t j n) (hj : j < 18) : 0 ≤ n ∧ n < 100000000000000000 := by
  have h1 := dgs_lt _ h.dg
  have h2 : (t.take j).length ≤ 17 := by rw [List.length_take]; omega
  have h3 : 10 ^ (t.take j).length ≤ 10 ^ 17 := Nat.pow_le_pow_right (by omega) h2
  have h4 : (10 : Nat) ^ 17 = 100000000000000000 := by decide
  rw [h.n]
  omega
theorem DgI.bound2 {t : List UInt8} {j : Nat} {n : Int} (h : DgI t j n) (hj : j ≤ 18) : 0 ≤ n ∧ n < 1000000000000000000 := by
  have h1 := dgs_lt _ h.dg
  have h2 : (t.take j).length ≤ 18 := by rw [List.length_take]; omega
  have h3 : 10 ^ (t.take j).length ≤ 10 ^ 18 := Nat.pow_le_pow_right (by omega) h2
  have h4 : (10 : Nat) ^ 18 = 1000000000000000000 := by decide
  rw [h.n]
  omega
theorem DgI.step {t : List UInt8} {j : Nat} {n : Int} (h : DgI t j n) {c : UInt8} (hc : t[j]? = some c) (hd : isDg c = true) : DgI t (j + 1) (10 * n + ((c.toNat : Int) - 48)) := by
  have hlt := (List.getElem?_eq_some_iff.1 hc).1
  have e : t.take (j + 1) = t.take j ++ [c] := by rw [List.take_add_one, hc]; rfl
  have hd' := hd
  unfold isDg at hd'
  rw [Bool.and_eq_true, decide_eq_true_eq, decide_eq_true_eq] at hd'
  refine ⟨by omega, fun d hd2 => ?_, ?_⟩
  · rw [e] at hd2
    rcases List.mem_append.1 hd2 with hd2 | hd2
    · exact h.dg d hd2
    · obtain rfl : d = c := by simpa using hd2
      exact hd
  · rw [e, dgs_snoc, h.n]
    unfold dgV
    omega
theorem numQ_bad {w : List UInt8} {j : Nat} {c : UInt8} (hc : (tailN w)[j]? = some c) (hd : isDg c = false) : numQ w = none := by
  unfold numQ
  split
  · rfl
  · rw [if_neg]
    rw [List.all_eq_true]
    intro h
    have := h c (List.mem_of_getElem? hc)
    rw [hd] at this
    cases this
theorem numQ_fin {w : List UInt8} {n : Int} (h : DgI (tailN w) (tailN w).length n) (hb : ¬ ((tailN w).length = 0 ∨ 18 < (tailN w).length ∨ ((tailN w).head? = some 48 ∧ (1 < (tailN w).length ∨ w.head? = some 45)))) : numQ w = some (if w.head? = some 45 then -n else n) := by
  have h1 := h.dg
  have h2 := h.n
  rw [List.take_length] at h1 h2
  unfold numQ
  rw [if_neg hb, if_pos (List.all_eq_true.2 h1), h2]
theorem ext_tail (s : ByteArray) (h : 0 < s.size) : (s.extract 1 s.size).data.toList = s.data.toList.tail := by
  rw [ByteArray.data_extract, Array.toList_extract, List.extract_eq_take_drop]
  have : s.data.toList.length = s.size := by simp
  rw [← List.drop_one, List.take_of_length_le]
  rw [List.length_drop]
  omega
set_option maxRecDepth 100000 in
set_option maxHeartbeats 8000000 in
theorem NumberQ_any (s : ByteArray) (w : World) (hs : s.size ≤ 1000000) : Calls Tryd.prog 22 #[.string s] w (RetNq w (numQ s.data.toList)) := by
  have HLS := hide (show s.data.toList.length = s.size by simp)
  obtain ⟨neg, hneg⟩ : ∃ neg, decide (s.data.toList.head? = some 45) = neg := ⟨_, rfl⟩
  have HNEG := hide hneg
  clear hneg
  go_enter Tryd.func22, Tryd.ntmps22
  go_upto_region 1 with fail
  first
  | (iterate 0 (first | go_values | go_skip | go_guarded | go_step | go_upon | go_back)); go_cut [4] from 8 to 16 (fun s4 wx => s4 = .bool neg ∧ w = wx)
  | (iterate 1 (first | go_values | go_skip | go_guarded | go_step | go_upon | go_back)); go_cut [4] from 8 to 16 (fun s4 wx => s4 = .bool neg ∧ w = wx)
  | (iterate 2 (first | go_values | go_skip | go_guarded | go_step | go_upon | go_back)); go_cut [4] from 8 to 16 (fun s4 wx => s4 = .bool neg ∧ w = wx)
  | (iterate 3 (first | go_values | go_skip | go_guarded | go_step | go_upon | go_back)); go_cut [4] from 8 to 16 (fun s4 wx => s4 = .bool neg ∧ w = wx)
  | (iterate 4 (first | go_values | go_skip | go_guarded | go_step | go_upon | go_back)); go_cut [4] from 8 to 16 (fun s4 wx => s4 = .bool neg ∧ w = wx)
  | (iterate 5 (first | go_values | go_skip | go_guarded | go_step | go_upon | go_back)); go_cut [4] from 8 to 16 (fun s4 wx => s4 = .bool neg ∧ w = wx)
  | (iterate 6 (first | go_values | go_skip | go_guarded | go_step | go_upon | go_back)); go_cut [4] from 8 to 16 (fun s4 wx => s4 = .bool neg ∧ w = wx)
  | (iterate 7 (first | go_values | go_skip | go_guarded | go_step | go_upon | go_back)); go_cut [4] from 8 to 16 (fun s4 wx => s4 = .bool neg ∧ w = wx)
  | (iterate 8 (first | go_values | go_skip | go_guarded | go_step | go_upon | go_back)); go_cut [4] from 8 to 16 (fun s4 wx => s4 = .bool neg ∧ w = wx)
  | (iterate 9 (first | go_values | go_skip | go_guarded | go_step | go_upon | go_back)); go_cut [4] from 8 to 16 (fun s4 wx => s4 = .bool neg ∧ w = wx)
  | (iterate 10 (first | go_values | go_skip | go_guarded | go_step | go_upon | go_back)); go_cut [4] from 8 to 16 (fun s4 wx => s4 = .bool neg ∧ w = wx)
  | (iterate 11 (first | go_values | go_skip | go_guarded | go_step | go_upon | go_back)); go_cut [4] from 8 to 16 (fun s4 wx => s4 = .bool neg ∧ w = wx)
  | (iterate 12 (first | go_values | go_skip | go_guarded | go_step | go_upon | go_back)); go_cut [4] from 8 to 16 (fun s4 wx => s4 = .bool neg ∧ w = wx)
  | (iterate 13 (first | go_values | go_skip | go_guarded | go_step | go_upon | go_back)); go_cut [4] from 8 to 16 (fun s4 wx => s4 = .bool neg ∧ w = wx)
  | (iterate 14 (first | go_values | go_skip | go_guarded | go_step | go_upon | go_back)); go_cut [4] from 8 to 16 (fun s4 wx => s4 = .bool neg ∧ w = wx)
  | (iterate 15 (first | go_values | go_skip | go_guarded | go_step | go_upon | go_back)); go_cut [4] from 8 to 16 (fun s4 wx => s4 = .bool neg ∧ w = wx)
  | (iterate 16 (first | go_values | go_skip | go_guarded | go_step | go_upon | go_back)); go_cut [4] from 8 to 16 (fun s4 wx => s4 = .bool neg ∧ w = wx)
  | (iterate 17 (first | go_values | go_skip | go_guarded | go_step | go_upon | go_back)); go_cut [4] from 8 to 16 (fun s4 wx => s4 = .bool neg ∧ w = wx)
  | (iterate 18 (first | go_values | go_skip | go_guarded | go_step | go_upon | go_back)); go_cut [4] from 8 to 16 (fun s4 wx => s4 = .bool neg ∧ w = wx)
  | (iterate 19 (first | go_values | go_skip | go_guarded | go_step | go_upon | go_back)); go_cut [4] from 8 to 16 (fun s4 wx => s4 = .bool neg ∧ w = wx)
  | (iterate 20 (first | go_values | go_skip | go_guarded | go_step | go_upon | go_back)); go_cut [4] from 8 to 16 (fun s4 wx => s4 = .bool neg ∧ w = wx)
  | (iterate 21 (first | go_values | go_skip | go_guarded | go_step | go_upon | go_back)); go_cut [4] from 8 to 16 (fun s4 wx => s4 = .bool neg ∧ w = wx)
  | (iterate 22 (first | go_values | go_skip | go_guarded | go_step | go_upon | go_back)); go_cut [4] from 8 to 16 (fun s4 wx => s4 = .bool neg ∧ w = wx)
  | (iterate 23 (first | go_values | go_skip | go_guarded | go_step | go_upon | go_back)); go_cut [4] from 8 to 16 (fun s4 wx => s4 = .bool neg ∧ w = wx)
  | (iterate 24 (first | go_values | go_skip | go_guarded | go_step | go_upon | go_back)); go_cut [4] from 8 to 16 (fun s4 wx => s4 = .bool neg ∧ w = wx)
  | (iterate 25 (first | go_values | go_skip | go_guarded | go_step | go_upon | go_back)); go_cut [4] from 8 to 16 (fun s4 wx => s4 = .bool neg ∧ w = wx)
  | (iterate 26 (first | go_values | go_skip | go_guarded | go_step | go_upon | go_back)); go_cut [4] from 8 to 16 (fun s4 wx => s4 = .bool neg ∧ w = wx)
  | (iterate 27 (first | go_values | go_skip | go_guarded | go_step | go_upon | go_back)); go_cut [4] from 8 to 16 (fun s4 wx => s4 = .bool neg ∧ w = wx)
  | (iterate 28 (first | go_values | go_skip | go_guarded | go_step | go_upon | go_back)); go_cut [4] from 8 to 16 (fun s4 wx => s4 = .bool neg ∧ w = wx)
  | (iterate 29 (first | go_values | go_skip | go_guarded | go_step | go_upon | go_back)); go_cut [4] from 8 to 16 (fun s4 wx => s4 = .bool neg ∧ w = wx)
  case first =>
    by_cases h0 : 0 < s.size
    · have hh := head_at s h0
      by_cases h45 : (s[0].toNat : Int) = 45
      · have e : s[0] = 45 := UInt8.toNat_inj.1 (by have : (45 : UInt8).toNat = 45 := rfl; omega)
        have hn : neg = true := by rw [← HNEG.out, hh, e]; rfl
        have z : ((s[0].toNat : Int) == 45) = true := by simpa using h45
        have HN := hide hn
        clear hn h45 hh e HNEG
        go_wp2_with fail
        go_meet
        case rel => exact ⟨by rw [HN.out], rfl⟩
      · have hne : s[0] ≠ 45 := fun e => h45 (by rw [e]; rfl)
        have hh2 : s.data.toList.head? ≠ some 45 := by rw [hh]; intro e; injection e with e; exact hne e
        have hn : neg = false := by rw [← HNEG.out]; simpa using hh2
        have z : ((s[0].toNat : Int) == 45) = false := by simpa using h45
        have HN := hide hn
        clear hn h45 hh hne hh2 HNEG
        go_wp2_with fail
        go_meet
        case rel => exact ⟨by rw [HN.out], rfl⟩
    · have hnil : s.data.toList = [] := List.eq_nil_of_length_eq_zero (by rw [HLS.out]; omega)
      have hn : neg = false := by rw [← HNEG.out, hnil]; rfl
      have HN := hide hn
      clear hn hnil HNEG
      go_wp2_with fail
      go_meet
      case rel => exact ⟨by rw [HN.out], rfl⟩
  case rest =>
  obtain ⟨rfl, rfl⟩ := hcut
  go_upto_if 17 with fail
  first
  | (iterate 0 (first | go_values | go_skip | go_guarded | go_step | go_upon | go_back)); go_cut [5] from 18 to 20 (fun s5 wx => ∃ D : ByteArray, s5 = .string D ∧ D.data.toList = tailN s.data.toList ∧ D.size ≤ 1000000 ∧ w = wx)
  | (iterate 1 (first | go_values | go_skip | go_guarded | go_step | go_upon | go_back)); go_cut [5] from 18 to 20 (fun s5 wx => ∃ D : ByteArray, s5 = .string D ∧ D.data.toList = tailN s.data.toList ∧ D.size ≤ 1000000 ∧ w = wx)
  | (iterate 2 (first | go_values | go_skip | go_guarded | go_step | go_upon | go_back)); go_cut [5] from 18 to 20 (fun s5 wx => ∃ D : ByteArray, s5 = .string D ∧ D.data.toList = tailN s.data.toList ∧ D.size ≤ 1000000 ∧ w = wx)
  | (iterate 3 (first | go_values | go_skip | go_guarded | go_step | go_upon | go_back)); go_cut [5] from 18 to 20 (fun s5 wx => ∃ D : ByteArray, s5 = .string D ∧ D.data.toList = tailN s.data.toList ∧ D.size ≤ 1000000 ∧ w = wx)
  | (iterate 4 (first | go_values | go_skip | go_guarded | go_step | go_upon | go_back)); go_cut [5] from 18 to 20 (fun s5 wx => ∃ D : ByteArray, s5 = .string D ∧ D.data.toList = tailN s.data.toList ∧ D.size ≤ 1000000 ∧ w = wx)
  | (iterate 5 (first | go_values | go_skip | go_guarded | go_step | go_upon | go_back)); go_cut [5] from 18 to 20 (fun s5 wx => ∃ D : ByteArray, s5 = .string D ∧ D.data.toList = tailN s.data.toList ∧ D.size ≤ 1000000 ∧ w = wx)
  | (iterate 6 (first | go_values | go_skip | go_guarded | go_step | go_upon | go_back)); go_cut [5] from 18 to 20 (fun s5 wx => ∃ D : ByteArray, s5 = .string D ∧ D.data.toList = tailN s.data.toList ∧ D.size ≤ 1000000 ∧ w = wx)
  | (iterate 7 (first | go_values | go_skip | go_guarded | go_step | go_upon | go_back)); go_cut [5] from 18 to 20 (fun s5 wx => ∃ D : ByteArray, s5 = .string D ∧ D.data.toList = tailN s.data.toList ∧ D.size ≤ 1000000 ∧ w = wx)
  | (iterate 8 (first | go_values | go_skip | go_guarded | go_step | go_upon | go_back)); go_cut [5] from 18 to 20 (fun s5 wx => ∃ D : ByteArray, s5 = .string D ∧ D.data.toList = tailN s.data.toList ∧ D.size ≤ 1000000 ∧ w = wx)
  | (iterate 9 (first | go_values | go_skip | go_guarded | go_step | go_upon | go_back)); go_cut [5] from 18 to 20 (fun s5 wx => ∃ D : ByteArray, s5 = .string D ∧ D.data.toList = tailN s.data.toList ∧ D.size ≤ 1000000 ∧ w = wx)
  | (iterate 10 (first | go_values | go_skip | go_guarded | go_step | go_upon | go_back)); go_cut [5] from 18 to 20 (fun s5 wx => ∃ D : ByteArray, s5 = .string D ∧ D.data.toList = tailN s.data.toList ∧ D.size ≤ 1000000 ∧ w = wx)
  | (iterate 11 (first | go_values | go_skip | go_guarded | go_step | go_upon | go_back)); go_cut [5] from 18 to 20 (fun s5 wx => ∃ D : ByteArray, s5 = .string D ∧ D.data.toList = tailN s.data.toList ∧ D.size ≤ 1000000 ∧ w = wx)
  | (iterate 12 (first | go_values | go_skip | go_guarded | go_step | go_upon | go_back)); go_cut [5] from 18 to 20 (fun s5 wx => ∃ D : ByteArray, s5 = .string D ∧ D.data.toList = tailN s.data.toList ∧ D.size ≤ 1000000 ∧ w = wx)
  | (iterate 13 (first | go_values | go_skip | go_guarded | go_step | go_upon | go_back)); go_cut [5] from 18 to 20 (fun s5 wx => ∃ D : ByteArray, s5 = .string D ∧ D.data.toList = tailN s.data.toList ∧ D.size ≤ 1000000 ∧ w = wx)
  | (iterate 14 (first | go_values | go_skip | go_guarded | go_step | go_upon | go_back)); go_cut [5] from 18 to 20 (fun s5 wx => ∃ D : ByteArray, s5 = .string D ∧ D.data.toList = tailN s.data.toList ∧ D.size ≤ 1000000 ∧ w = wx)
  | (iterate 15 (first | go_values | go_skip | go_guarded | go_step | go_upon | go_back)); go_cut [5] from 18 to 20 (fun s5 wx => ∃ D : ByteArray, s5 = .string D ∧ D.data.toList = tailN s.data.toList ∧ D.size ≤ 1000000 ∧ w = wx)
  | (iterate 16 (first | go_values | go_skip | go_guarded | go_step | go_upon | go_back)); go_cut [5] from 18 to 20 (fun s5 wx => ∃ D : ByteArray, s5 = .string D ∧ D.data.toList = tailN s.data.toList ∧ D.size ≤ 1000000 ∧ w = wx)
  | (iterate 17 (first | go_values | go_skip | go_guarded | go_step | go_upon | go_back)); go_cut [5] from 18 to 20 (fun s5 wx => ∃ D : ByteArray, s5 = .string D ∧ D.data.toList = tailN s.data.toList ∧ D.size ≤ 1000000 ∧ w = wx)
  | (iterate 18 (first | go_values | go_skip | go_guarded | go_step | go_upon | go_back)); go_cut [5] from 18 to 20 (fun s5 wx => ∃ D : ByteArray, s5 = .string D ∧ D.data.toList = tailN s.data.toList ∧ D.size ≤ 1000000 ∧ w = wx)
  | (iterate 19 (first | go_values | go_skip | go_guarded | go_step | go_upon | go_back)); go_cut [5] from 18 to 20 (fun s5 wx => ∃ D : ByteArray, s5 = .string D ∧ D.data.toList = tailN s.data.toList ∧ D.size ≤ 1000000 ∧ w = wx)
  | (iterate 20 (first | go_values | go_skip | go_guarded | go_step | go_upon | go_back)); go_cut [5] from 18 to 20 (fun s5 wx => ∃ D : ByteArray, s5 = .string D ∧ D.data.toList = tailN s.data.toList ∧ D.size ≤ 1000000 ∧ w = wx)
  | (iterate 21 (first | go_values | go_skip | go_guarded | go_step | go_upon | go_back)); go_cut [5] from 18 to 20 (fun s5 wx => ∃ D : ByteArray, s5 = .string D ∧ D.data.toList = tailN s.data.toList ∧ D.size ≤ 1000000 ∧ w = wx)
  | (iterate 22 (first | go_values | go_skip | go_guarded | go_step | go_upon | go_back)); go_cut [5] from 18 to 20 (fun s5 wx => ∃ D : ByteArray, s5 = .string D ∧ D.data.toList = tailN s.data.toList ∧ D.size ≤ 1000000 ∧ w = wx)
  | (iterate 23 (first | go_values | go_skip | go_guarded | go_step | go_upon | go_back)); go_cut [5] from 18 to 20 (fun s5 wx => ∃ D : ByteArray, s5 = .string D ∧ D.data.toList = tailN s.data.toList ∧ D.size ≤ 1000000 ∧ w = wx)
  | (iterate 24 (first | go_values | go_skip | go_guarded | go_step | go_upon | go_back)); go_cut [5] from 18 to 20 (fun s5 wx => ∃ D : ByteArray, s5 = .string D ∧ D.data.toList = tailN s.data.toList ∧ D.size ≤ 1000000 ∧ w = wx)
  | (iterate 25 (first | go_values | go_skip | go_guarded | go_step | go_upon | go_back)); go_cut [5] from 18 to 20 (fun s5 wx => ∃ D : ByteArray, s5 = .string D ∧ D.data.toList = tailN s.data.toList ∧ D.size ≤ 1000000 ∧ w = wx)
  | (iterate 26 (first | go_values | go_skip | go_guarded | go_step | go_upon | go_back)); go_cut [5] from 18 to 20 (fun s5 wx => ∃ D : ByteArray, s5 = .string D ∧ D.data.toList = tailN s.data.toList ∧ D.size ≤ 1000000 ∧ w = wx)
  | (iterate 27 (first | go_values | go_skip | go_guarded | go_step | go_upon | go_back)); go_cut [5] from 18 to 20 (fun s5 wx => ∃ D : ByteArray, s5 = .string D ∧ D.data.toList = tailN s.data.toList ∧ D.size ≤ 1000000 ∧ w = wx)
  | (iterate 28 (first | go_values | go_skip | go_guarded | go_step | go_upon | go_back)); go_cut [5] from 18 to 20 (fun s5 wx => ∃ D : ByteArray, s5 = .string D ∧ D.data.toList = tailN s.data.toList ∧ D.size ≤ 1000000 ∧ w = wx)
  | (iterate 29 (first | go_values | go_skip | go_guarded | go_step | go_upon | go_back)); go_cut [5] from 18 to 20 (fun s5 wx => ∃ D : ByteArray, s5 = .string D ∧ D.data.toList = tailN s.data.toList ∧ D.size ≤ 1000000 ∧ w = wx)
  case first =>
    cases neg
    case true =>
      have hh2 : s.data.toList.head? = some 45 := of_decide_eq_true HNEG.out
      have h0 : 0 < s.size := by
        rcases Nat.eq_zero_or_pos s.size with h | h
        · have hnil : s.data.toList = [] := List.eq_nil_of_length_eq_zero (by rw [HLS.out]; omega)
          rw [hnil] at hh2
          cases hh2
        · exact h
      have HT := hide (show (s.extract 1 s.size).data.toList = tailN s.data.toList from by rw [ext_tail s h0]; unfold tailN; rw [if_pos hh2])
      have hz : (s.extract 1 s.size).size ≤ 1000000 := by rw [ByteArray.size_extract]; omega
      have q1 : (1 : Int) ≤ (s.size : Int) := by omega
      clear hh2
      go_wp2_with fail
      go_meet
      case rel => exact ⟨_, rfl, HT.out, hz, rfl⟩
    case false =>
      have hh2 : ¬ s.data.toList.head? = some 45 := of_decide_eq_false HNEG.out
      have HT := hide (show s.data.toList = tailN s.data.toList from by unfold tailN; rw [if_neg hh2])
      clear hh2
      go_wp2_with fail
      go_meet
      case rel => exact ⟨_, rfl, HT.out, hs, rfl⟩
  case rest =>
  obtain ⟨D, rfl, hD, hDz, rfl⟩ := hcut
  have hDl : (tailN s.data.toList).length = D.size := by rw [← hD]; simp
  obtain ⟨t, htt⟩ : ∃ t, tailN s.data.toList = t := ⟨_, rfl⟩
  have HQ := hide (show numQ s.data.toList = none ∨ True from .inr trivial)
  have HBAD := hide (fun (hb : t.length = 0 ∨ 18 < t.length ∨ (t.head? = some 48 ∧ (1 < t.length ∨ neg = true))) => (show numQ s.data.toList = none from by
    unfold numQ
    rw [htt, if_pos]
    rcases hb with hb | hb | ⟨hb, hb2⟩
    · exact .inl hb
    · exact .inr (.inl hb)
    · refine .inr (.inr ⟨hb, hb2.imp id fun h => ?_⟩)
      rw [← HNEG.out] at h
      exact of_decide_eq_true h))
  have HDG := hide (fun (j : Nat) (c : UInt8) (hc : t[j]? = some c) (hd : isDg c = false) => (show numQ s.data.toList = none from numQ_bad (by rw [htt]; exact hc) hd))
  have HFIN := hide (fun (n : Int) (h : DgI t t.length n) (hb : ¬ (t.length = 0 ∨ 18 < t.length ∨ (t.head? = some 48 ∧ (1 < t.length ∨ neg = true)))) => (show numQ s.data.toList = some (if neg then -n else n) from by
    have h2 := numQ_fin (w := s.data.toList) (by rw [htt]; exact h) (by
      rw [htt]
      intro h3
      refine hb (h3.imp id (Or.imp id (And.imp id (Or.imp id fun h => ?_))))
      rw [← HNEG.out]
      exact decide_eq_true h)
    rw [h2]
    congr 1
    rw [← HNEG.out]
    by_cases hh : s.data.toList.head? = some 45
    · rw [if_pos hh, decide_eq_true hh]; rfl
    · rw [if_neg hh, decide_eq_false hh]; rfl))
  rw [htt] at hD hDl
  have HDD := hide hD
  have HDL := hide hDl
  clear hD hDl htt HQ HNEG
  by_cases g1 : D.size = 0
  case pos =>
    have HR := hide (HBAD.out (.inl (by rw [HDL.out]; exact g1)))
    have z : ((D.size : Int) == 0) = true := by rw [g1]; rfl
    have G1 := hide g1
    clear g1
    go_wp2_with fail
    refine bodyPost_ret (results_tmp2 rfl _ _ _) rfl ?_
    exact RetNq.bad HR.out
  have z1 : ((D.size : Int) == 0) = false := by rw [beq_eq_false_iff_ne]; omega
  by_cases g2 : 18 < D.size
  case pos =>
    have HR := hide (HBAD.out (.inr (.inl (by rw [HDL.out]; exact g2))))
    have z2 : (18 : Int) < (D.size : Int) := by omega
    go_wp2_with fail
    refine bodyPost_ret (results_tmp2 rfl _ _ _) rfl ?_
    exact RetNq.bad HR.out
  have z2 : ¬ (18 : Int) < (D.size : Int) := by omega
  have g0 : 0 < D.size := by omega
  have hhd : t.head? = some D[0] := by rw [← HDD.out]; exact head_at D g0
  have HHD := hide hhd
  have h0b := D[0].toNat_lt
  have hcut : ∃ b1 : Bool, ((D[0].toNat : Int) == 48) = b1 ∧ (b1 = true ↔ t.head? = some 48) := ⟨_, rfl, by
    rw [hhd]
    constructor
    · intro h
      have h3 : (D[0].toNat : Int) = 48 := by simpa using h
      have : D[0] = 48 := UInt8.toNat_inj.1 (by have : (48 : UInt8).toNat = 48 := rfl; omega)
      rw [this]
    · intro h
      injection h with h
      rw [h]
      rfl⟩
  obtain ⟨b1, hb1, hb1i⟩ := hcut
  have HB1 := hide hb1i
  clear hb1i hhd
  by_cases gz : b1 = true ∧ (1 < D.size ∨ neg = true)
  case pos =>
    have HR := hide (HBAD.out (.inr (.inr ⟨HB1.out.1 gz.1, by rw [HDL.out]; exact gz.2⟩)))
    obtain ⟨gz1, gz2⟩ := gz
    subst gz1
    by_cases g3 : 1 < D.size
    · have z3 : (1 : Int) < (D.size : Int) := by omega
      clear gz2 g1
      go_wp2_with fail
      refine bodyPost_ret (results_tmp2 rfl _ _ _) rfl ?_
      exact RetNq.bad HR.out
    · have z3 : ¬ (1 : Int) < (D.size : Int) := by omega
      obtain rfl : neg = true := by rcases gz2 with h | h; exact absurd h g3; exact h
      clear gz2 g1
      go_wp2_with fail
      refine bodyPost_ret (results_tmp2 rfl _ _ _) rfl ?_
      exact RetNq.bad HR.out
  have HOK := hide (show ¬ (t.length = 0 ∨ 18 < t.length ∨ (t.head? = some 48 ∧ (1 < t.length ∨ neg = true))) from by
    rw [HDL.out]
    rintro (h | h | ⟨h, h2⟩)
    · exact g1 h
    · exact g2 h
    · exact gz ⟨HB1.out.2 h, h2⟩)
  have HGZ := hide gz
  clear gz
  have h18 : D.size ≤ 18 := by omega
  go_upto_region 5 with fail
  first
  | (iterate 0 (first | go_values | go_skip | go_guarded | go_step | go_upon | go_back)); go_cut [40] from 20 to 41 (fun s40 wx => s40 = .bool false ∧ w = wx)
  | (iterate 1 (first | go_values | go_skip | go_guarded | go_step | go_upon | go_back)); go_cut [40] from 20 to 41 (fun s40 wx => s40 = .bool false ∧ w = wx)
  | (iterate 2 (first | go_values | go_skip | go_guarded | go_step | go_upon | go_back)); go_cut [40] from 20 to 41 (fun s40 wx => s40 = .bool false ∧ w = wx)
  | (iterate 3 (first | go_values | go_skip | go_guarded | go_step | go_upon | go_back)); go_cut [40] from 20 to 41 (fun s40 wx => s40 = .bool false ∧ w = wx)
  | (iterate 4 (first | go_values | go_skip | go_guarded | go_step | go_upon | go_back)); go_cut [40] from 20 to 41 (fun s40 wx => s40 = .bool false ∧ w = wx)
  | (iterate 5 (first | go_values | go_skip | go_guarded | go_step | go_upon | go_back)); go_cut [40] from 20 to 41 (fun s40 wx => s40 = .bool false ∧ w = wx)
  | (iterate 6 (first | go_values | go_skip | go_guarded | go_step | go_upon | go_back)); go_cut [40] from 20 to 41 (fun s40 wx => s40 = .bool false ∧ w = wx)
  | (iterate 7 (first | go_values | go_skip | go_guarded | go_step | go_upon | go_back)); go_cut [40] from 20 to 41 (fun s40 wx => s40 = .bool false ∧ w = wx)
  | (iterate 8 (first | go_values | go_skip | go_guarded | go_step | go_upon | go_back)); go_cut [40] from 20 to 41 (fun s40 wx => s40 = .bool false ∧ w = wx)
  | (iterate 9 (first | go_values | go_skip | go_guarded | go_step | go_upon | go_back)); go_cut [40] from 20 to 41 (fun s40 wx => s40 = .bool false ∧ w = wx)
  | (iterate 10 (first | go_values | go_skip | go_guarded | go_step | go_upon | go_back)); go_cut [40] from 20 to 41 (fun s40 wx => s40 = .bool false ∧ w = wx)
  | (iterate 11 (first | go_values | go_skip | go_guarded | go_step | go_upon | go_back)); go_cut [40] from 20 to 41 (fun s40 wx => s40 = .bool false ∧ w = wx)
  | (iterate 12 (first | go_values | go_skip | go_guarded | go_step | go_upon | go_back)); go_cut [40] from 20 to 41 (fun s40 wx => s40 = .bool false ∧ w = wx)
  | (iterate 13 (first | go_values | go_skip | go_guarded | go_step | go_upon | go_back)); go_cut [40] from 20 to 41 (fun s40 wx => s40 = .bool false ∧ w = wx)
  | (iterate 14 (first | go_values | go_skip | go_guarded | go_step | go_upon | go_back)); go_cut [40] from 20 to 41 (fun s40 wx => s40 = .bool false ∧ w = wx)
  | (iterate 15 (first | go_values | go_skip | go_guarded | go_step | go_upon | go_back)); go_cut [40] from 20 to 41 (fun s40 wx => s40 = .bool false ∧ w = wx)
  | (iterate 16 (first | go_values | go_skip | go_guarded | go_step | go_upon | go_back)); go_cut [40] from 20 to 41 (fun s40 wx => s40 = .bool false ∧ w = wx)
  | (iterate 17 (first | go_values | go_skip | go_guarded | go_step | go_upon | go_back)); go_cut [40] from 20 to 41 (fun s40 wx => s40 = .bool false ∧ w = wx)
  | (iterate 18 (first | go_values | go_skip | go_guarded | go_step | go_upon | go_back)); go_cut [40] from 20 to 41 (fun s40 wx => s40 = .bool false ∧ w = wx)
  | (iterate 19 (first | go_values | go_skip | go_guarded | go_step | go_upon | go_back)); go_cut [40] from 20 to 41 (fun s40 wx => s40 = .bool false ∧ w = wx)
  | (iterate 20 (first | go_values | go_skip | go_guarded | go_step | go_upon | go_back)); go_cut [40] from 20 to 41 (fun s40 wx => s40 = .bool false ∧ w = wx)
  | (iterate 21 (first | go_values | go_skip | go_guarded | go_step | go_upon | go_back)); go_cut [40] from 20 to 41 (fun s40 wx => s40 = .bool false ∧ w = wx)
  | (iterate 22 (first | go_values | go_skip | go_guarded | go_step | go_upon | go_back)); go_cut [40] from 20 to 41 (fun s40 wx => s40 = .bool false ∧ w = wx)
  | (iterate 23 (first | go_values | go_skip | go_guarded | go_step | go_upon | go_back)); go_cut [40] from 20 to 41 (fun s40 wx => s40 = .bool false ∧ w = wx)
  | (iterate 24 (first | go_values | go_skip | go_guarded | go_step | go_upon | go_back)); go_cut [40] from 20 to 41 (fun s40 wx => s40 = .bool false ∧ w = wx)
  | (iterate 25 (first | go_values | go_skip | go_guarded | go_step | go_upon | go_back)); go_cut [40] from 20 to 41 (fun s40 wx => s40 = .bool false ∧ w = wx)
  | (iterate 26 (first | go_values | go_skip | go_guarded | go_step | go_upon | go_back)); go_cut [40] from 20 to 41 (fun s40 wx => s40 = .bool false ∧ w = wx)
  | (iterate 27 (first | go_values | go_skip | go_guarded | go_step | go_upon | go_back)); go_cut [40] from 20 to 41 (fun s40 wx => s40 = .bool false ∧ w = wx)
  | (iterate 28 (first | go_values | go_skip | go_guarded | go_step | go_upon | go_back)); go_cut [40] from 20 to 41 (fun s40 wx => s40 = .bool false ∧ w = wx)
  | (iterate 29 (first | go_values | go_skip | go_guarded | go_step | go_upon | go_back)); go_cut [40] from 20 to 41 (fun s40 wx => s40 = .bool false ∧ w = wx)
  case first =>
    cases b1
    case false =>
      clear HGZ HOK
      go_wp2_with fail
      go_meet
      case rel => exact ⟨rfl, rfl⟩
    case true =>
      have g3 : ¬ 1 < D.size := fun h => HGZ.out ⟨rfl, .inl h⟩
      have z3 : ¬ (1 : Int) < (D.size : Int) := by omega
      obtain rfl : neg = false := by
        cases neg
        · rfl
        · exact absurd ⟨rfl, .inr rfl⟩ HGZ.out
      clear HGZ HOK g3
      go_wp2_with fail
      go_meet
      case rel => exact ⟨rfl, rfl⟩
  case rest =>
  obtain ⟨rfl, rfl⟩ := hcut
  clear hb1 HB1 HGZ z1 z2 g1 g2 g0 h0b HHD HBAD
  go_wp2_with fail
  go_loop [6, 7] (fun n i => ∃ (j : Nat) (m : Int), n = .int .i64 m ∧ i = .int .i64 (j : Int) ∧ j ≤ D.size ∧ DgI t j m) (fun _ i => D.size - (intOf i).toNat)
  case atStart => exact ⟨0, 0, rfl, rfl, Nat.zero_le _, ⟨Nat.zero_le _, (by intro c hc; cases hc), rfl⟩⟩
  case round =>
    obtain ⟨j, m, rfl, rfl, hj, hI⟩ := hrel
    have HI := hide hI
    by_cases hlt : j < D.size
    · have hc := Lib.data_getElem? D j hlt
      have HC := hide (show t[j]? = some D[j] from by rw [← HDD.out]; exact hc)
      have hb := hI.bound (by omega)
      have q1 : (0 : Int) ≤ (j : Int) := by omega
      have q2 : (j : Int) < (D.size : Int) := by omega
      have hc8 := (D[j]).toNat_lt
      clear hc hI
      obtain ⟨cv, hcv⟩ : ∃ cv : Nat, (D[j]).toNat = cv := ⟨_, rfl⟩
      have HCV := hide hcv
      by_cases h1 : cv < 48
      · have z : ((cv : Int) < 48) := by omega
        have HN := hide (HDG.out j _ HC.out (isDg_lo (by rw [hcv]; omega)))
        clear hb
        go_wp2
        refine bodyPost_ret (results_tmp2 rfl _ _ _) rfl ?_
        exact RetNq.bad HN.out
      · by_cases h2 : 57 < cv
        · have z : (57 < (cv : Int)) := by omega
          have HN := hide (HDG.out j _ HC.out (isDg_hi (by rw [hcv]; omega)))
          clear hb
          go_wp2
          refine bodyPost_ret (results_tmp2 rfl _ _ _) rfl ?_
          exact RetNq.bad HN.out
        · have hw1 : IntKind.u8.wrap ((cv : Int) - 48) = (cv : Int) - 48 := by rw [IntKind.wrap_u8]; omega
          have HS := hide (show DgI t (j + 1) (10 * m + ((cv : Int) - 48)) from by
            have := HI.out.step HC.out (by unfold isDg; rw [hcv, Bool.and_eq_true, decide_eq_true_eq, decide_eq_true_eq]; omega)
            rwa [hcv] at this)
          go_wp2
          go_round
          case rel => exact ⟨j + 1, 10 * m + ((cv : Int) - 48), by go_num, by go_num, by omega, HS.out⟩
          case measure => simp [intOf]; omega
    · have he : j = D.size := by omega
      have HR := hide (HFIN.out m (by have h2 := HI.out; rw [he, ← HDL.out] at h2; exact h2) HOK.out)
      have hb := hI.bound2 (by omega)
      clear he hI
      cases neg
      · go_wp2
        refine bodyPost_ret (results_tmp2 rfl _ _ _) rfl ?_
        exact RetNq.good HR.out
      · go_wp2
        refine bodyPost_ret (results_tmp2 rfl _ _ _) rfl ?_
        exact RetNq.good HR.out
end Go.Proofs.YtmpoaegdejhbeaaDoor
