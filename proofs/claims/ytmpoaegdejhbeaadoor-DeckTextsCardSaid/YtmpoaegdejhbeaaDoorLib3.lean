/-
  strings.Cut and strings.IndexByte by the shelf (the layings printed by lay-plain, turned to names by lay2tpl); strconv.Atoi with its error told.
-/
import Derived.Shelf.Small.Strs
import Derived.Shelf.Strings.Cut
import Derived.Lib.AtoiAllCases
import Derived.Test.YtmpoaegdejhbeaaDoorLib2
import Derived.Test.YtmpoaegdejhbeaaDoorDtM
namespace Go.Proofs.YtmpoaegdejhbeaaDoor
open Go.Shelf Go.RowKit
set_option linter.unusedVariables false

def lays137_ren : Go.Shelf.Ren := ⟨fun | 137 => 20 | 217 => 39 | 266 => 51 | n => n, fun | 9 => 9 | 5 => 5 | 3 => 3 | n => n, fun | n => n⟩
theorem lays137 : Go.Proofs.Lays.n137 Tryd.prog lays137_ren := {
  mixed := by kernel_rfl
  f137 := Tryd.func20.trans (congrArg some (by kernel_rfl))
  f217 := Tryd.func39.trans (congrArg some (by kernel_rfl))
  f266 := Tryd.func51.trans (congrArg some (by kernel_rfl))
  t3 := Tryd.underlying3
  a3 := Tryd.isAgg3
  z3 := Tryd.sizeOf3
  v3 := Tryd.zeroValue3
  t5 := Tryd.underlying5
  a5 := Tryd.isAgg5
  z5 := Tryd.sizeOf5
  v5 := Tryd.zeroValue5
  t9 := Tryd.underlying9
  a9 := Tryd.isAgg9
  z9 := Tryd.sizeOf9
  v9 := Tryd.zeroValue9 }
def laysM145_ren : Go.Shelf.Ren := ⟨fun | 145 => 18 | 220 => 37 | 219 => 49 | 217 => 39 | 225 => 59 | 224 => 60 | 267 => 61 | 266 => 51 | 314 => 72 | n => n, fun | 9 => 9 | 4 => 4 | 59 => 51 | 3 => 3 | 5 => 5 | 46 => 100 | 146 => 110 | 51 => 107 | n => n, fun | 1 => 0 | n => n⟩
theorem laysM145 : Go.Proofs.LaysM.n145 Tryd.prog laysM145_ren := {
  mixed := by kernel_rfl
  f145 := Tryd.func18.trans (congrArg some (by kernel_rfl))
  f217 := Tryd.func39.trans (congrArg some (by kernel_rfl))
  f219 := Tryd.func49.trans (congrArg some (by kernel_rfl))
  f220 := Tryd.func37.trans (congrArg some (by kernel_rfl))
  f224 := Tryd.func60.trans (congrArg some (by kernel_rfl))
  f225 := Tryd.func59.trans (congrArg some (by kernel_rfl))
  f266 := Tryd.func51.trans (congrArg some (by kernel_rfl))
  f267 := Tryd.func61.trans (congrArg some (by kernel_rfl))
  f314 := Tryd.func72.trans (congrArg some (by kernel_rfl))
  t3 := Tryd.underlying3
  a3 := Tryd.isAgg3
  z3 := Tryd.sizeOf3
  v3 := Tryd.zeroValue3
  t4 := Tryd.underlying4
  a4 := Tryd.isAgg4
  z4 := Tryd.sizeOf4
  v4 := Tryd.zeroValue4
  t5 := Tryd.underlying5
  a5 := Tryd.isAgg5
  z5 := Tryd.sizeOf5
  v5 := Tryd.zeroValue5
  t9 := Tryd.underlying9
  a9 := Tryd.isAgg9
  z9 := Tryd.sizeOf9
  v9 := Tryd.zeroValue9
  t46 := Tryd.underlying100
  a46 := Tryd.isAgg100
  z46 := Tryd.sizeOf100
  v46 := Tryd.zeroValue100
  t51 := Tryd.underlying107
  a51 := Tryd.isAgg107
  z51 := Tryd.sizeOf107
  v51 := Tryd.zeroValue107
  t59 := Tryd.underlying51
  a59 := Tryd.isAgg51
  z59 := Tryd.sizeOf51
  v59 := Tryd.zeroValue51
  t146 := Tryd.underlying110
  a146 := Tryd.isAgg110
  z146 := Tryd.sizeOf110
  v146 := Tryd.zeroValue110
  g1 := by kernel_rfl
  i3 := by kernel_rfl
  i4 := by kernel_rfl
  i5 := by kernel_rfl
  i9 := by kernel_rfl
  i46 := by kernel_rfl
  i51 := by kernel_rfl
  i59 := by kernel_rfl
  i146 := by kernel_rfl
  m1 := by kernel_rfl
  s1_3 := fun w h => Go.Proofs.cell_of_shapedOpen_int (zero := #[.int .i64 0]) (t := 3) h (of_decide_eq_true (by kernel_rfl)) (by kernel_rfl) rfl (by kernel_rfl) (by kernel_rfl) Tryd.underlying3 }

theorem indexByte_cut (c : UInt8) : ∀ l : List UInt8, Lib.indexByte l c = match cutN c l with
    | none => -1
    | some (x, _) => (x.length : Int)
  | [] => rfl
  | b :: l => by
    rw [Lib.indexByte, cutN]
    by_cases e : b = c
    · subst e
      rw [if_pos (by simp), if_pos rfl]
      rfl
    · rw [if_neg (by simpa using e), if_neg e, indexByte_cut c l]
      cases cutN c l with
      | none => rfl
      | some p =>
        obtain ⟨x, y⟩ := p
        simp only [List.length_cons]
        have : ((x.length : Int) == -1) = false := by rw [beq_eq_false_iff_ne]; omega
        rw [this]
        simp
/-- The place of the first newline. -/
theorem ibyte_any (s : ByteArray) (w : World) : Calls Tryd.prog 20 #[.string s, .int .u8 10] w (fun e w' => e = .returned (.int .i64 (match cutN 10 s.data.toList with
    | none => -1
    | some (x, _) => (x.length : Int))) ∧ w = w') := by
  have hh := Any.strings_IndexByte lays137 s 10 w
  change Calls Tryd.prog 20 _ _ _ at hh
  refine hh.mono ?_
  rintro e w' ⟨rfl, rfl⟩
  refine ⟨?_, rfl⟩
  have e10 : ((10 : Int).toNat.toUInt8) = 10 := rfl
  rw [e10, indexByte_cut]
/-- Cut at a newline. -/
def cutR (l : List UInt8) : List UInt8 × List UInt8 × Bool := match cutN 10 l with
  | none => (l, [], false)
  | some (x, y) => (x, y, true)
theorem cut_any (s : ByteArray) (w : World) (hs : s.size ≤ 1000000) (hm : MaxL w) : Calls Tryd.prog 18 #[.string s, .string ⟨#[10]⟩] w (fun e w' => e = .returned (.tuple #[.string ⟨(cutR s.data.toList).1.toArray⟩, .string ⟨(cutR s.data.toList).2.1.toArray⟩, .bool (cutR s.data.toList).2.2]) ∧ Below w.heap.size w w') := by
  obtain ⟨m, hm⟩ := hm
  have hh := Any.strings_Cut { laysM145 with } s ⟨#[10]⟩ m w (by omega) hm
  change Calls Tryd.prog 18 _ _ _ at hh
  refine hh.mono ?_
  rintro e w' ⟨rfl, k, rfl⟩
  refine ⟨?_, below_drewN (Below.refl _ _) k⟩
  have e1 : Lib.cut s.data.toList (⟨#[10]⟩ : ByteArray).data.toList = cutR s.data.toList := lib_cut 10 _
  rw [e1]
/-- Atoi: its number, and whether it is one. -/
def RetAt (w : World) (l : List UInt8) (e : Ending) (w' : World) : Prop := ∃ v er, e = .returned (.tuple #[.int .i64 v, er]) ∧ Below w.heap.size w w' ∧ ((er = .nilIface ∧ Lib.atoiAll l = .ok v ∧ -9223372036854775808 ≤ v ∧ v ≤ 9223372036854775807) ∨ ((∃ tp p, er = .iface tp p) ∧ numT l = none))
theorem atoi_told (s : ByteArray) (w : World) (hs : s.size ≤ 1000000) (he : Errs w) : Calls Tryd.prog 50 #[.string s] w (RetAt w s.data.toList) := by
  cases h : Lib.atoiAll s.data.toList with
  | ok v =>
    have hh := Any.strconv_Atoi_ok laysC172 s (by omega) v h w
    change Calls Tryd.prog 50 _ _ _ at hh
    refine hh.mono ?_
    rintro e w' ⟨rfl, hw⟩
    refine ⟨_, _, rfl, ?_, .inl ⟨rfl, h, Lib.atoiAll_bounds h⟩⟩
    rcases hw with rfl | ⟨t, rfl⟩
    · exact Below.refl _ _
    · exact Lib.bytesWorld_below _ _ _
  | «syntax» =>
    obtain ⟨tp, p, hv⟩ := he.sx
    have hh := Any.strconv_Atoi_syntax_var laysC172 s (by omega) h tp p w hv
    change Calls Tryd.prog 50 _ _ _ at hh
    refine hh.mono ?_
    rintro e w' ⟨N, rfl, _, _, hb⟩
    exact ⟨_, _, rfl, hb, .inr ⟨⟨_, _, rfl⟩, by unfold numT; rw [h]⟩⟩
  | range =>
    obtain ⟨tp, p, hv⟩ := he.rg
    have hh := Any.strconv_Atoi_range_var laysC172 s (by omega) h tp p w hv
    change Calls Tryd.prog 50 _ _ _ at hh
    refine hh.mono ?_
    rintro e w' ⟨N, rfl, _, _, hb⟩
    exact ⟨_, _, rfl, hb, .inr ⟨⟨_, _, rfl⟩, by unfold numT; rw [h]⟩⟩
end Go.Proofs.YtmpoaegdejhbeaaDoor
