/-
  The library's strconv.Itoa, strings.Join and strings.Builder by the shelf's contracts (the layings printed by lay-plain, turned to names by lay2tpl).
  The walk of the reference's Format. No condition but the table of powers of ten.
  strings.Join by the shelf, in a seat that has no WriteByte. No condition.
  The walk of the program's Format. No condition but the table of powers of ten.
-/
import Derived.Shelf.Strings.OnBuilder
import Derived.Shelf.Strings.BuilderK
import Derived.Shelf.Strconv.Itoa3
import Derived.Shelf.LaysM
import Derived.Lib.AppendIntMem
import Derived.Test.YtmpoaegdejhbeaaDoorMem
import Derived.Test.YtmpoaegdejhbeaaDoorProg
import Derived.Test.YtmpoaegdejhbeaaDoorTcG
import Derived.Test.YtmpoaegdejhbeaaDoorCkRV
import Derived.BigQuiet
import Derived.Lib.ItoaLen
import Derived.WalkKit
namespace Go.Proofs.YtmpoaegdejhbeaaDoor

section
open Go.Shelf Go.RowKit
set_option linter.unusedVariables false

def laysM171_ren : Go.Shelf.Ren := ⟨fun | 171 => 17 | 243 => 36 | 246 => 48 | 283 => 55 | 284 => 56 | 285 => 57 | 286 => 58 | 129 => 68 | 317 => 67 | 318 => 69 | 319 => 70 | 320 => 71 | 337 => 79 | 338 => 80 | n => n, fun | 3 => 3 | 9 => 9 | 2 => 2 | 4 => 4 | 171 => 93 | 0 => 0 | 53 => 94 | 37 => 97 | 5 => 5 | 173 => 98 | 212 => 106 | 51 => 107 | 20 => 20 | 213 => 108 | 46 => 100 | 232 => 129 | 233 => 130 | n => n, fun | 17 => 1 | 18 => 6 | 19 => 7 | n => n⟩
theorem laysM171 : Go.Proofs.LaysM.n171 Tryd.prog laysM171_ren := {
  mixed := by kernel_rfl
  f129 := Tryd.func68.trans (congrArg some (by kernel_rfl))
  f171 := Tryd.func17.trans (congrArg some (by kernel_rfl))
  f243 := Tryd.func36.trans (congrArg some (by kernel_rfl))
  f246 := Tryd.func48.trans (congrArg some (by kernel_rfl))
  f283 := Tryd.func55.trans (congrArg some (by kernel_rfl))
  f284 := Tryd.func56.trans (congrArg some (by kernel_rfl))
  f285 := Tryd.func57.trans (congrArg some (by kernel_rfl))
  f286 := Tryd.func58.trans (congrArg some (by kernel_rfl))
  f317 := Tryd.func67.trans (congrArg some (by kernel_rfl))
  f318 := Tryd.func69.trans (congrArg some (by kernel_rfl))
  f319 := Tryd.func70.trans (congrArg some (by kernel_rfl))
  f320 := Tryd.func71.trans (congrArg some (by kernel_rfl))
  f337 := Tryd.func79.trans (congrArg some (by kernel_rfl))
  f338 := Tryd.func80.trans (congrArg some (by kernel_rfl))
  t0 := Tryd.underlying0
  a0 := Tryd.isAgg0
  z0 := Tryd.sizeOf0
  v0 := Tryd.zeroValue0
  t2 := Tryd.underlying2
  a2 := Tryd.isAgg2
  z2 := Tryd.sizeOf2
  v2 := Tryd.zeroValue2
  t3 := Tryd.underlying3
  a3 := Tryd.isAgg3
  z3 := Tryd.sizeOf3
  v3 := Tryd.zeroValue3
  t4 := Tryd.underlying4
  a4 := Tryd.isAgg4
  z4 := Tryd.sizeOf4
  v4 := Tryd.zeroValue4
  t5 := Tryd.underlying5
  a5 := Tryd.isAgg5
  z5 := Tryd.sizeOf5
  v5 := Tryd.zeroValue5
  t9 := Tryd.underlying9
  a9 := Tryd.isAgg9
  z9 := Tryd.sizeOf9
  v9 := Tryd.zeroValue9
  t20 := Tryd.underlying20
  a20 := Tryd.isAgg20
  z20 := Tryd.sizeOf20
  v20 := Tryd.zeroValue20
  t37 := Tryd.underlying97
  a37 := Tryd.isAgg97
  z37 := Tryd.sizeOf97
  v37 := Tryd.zeroValue97
  t46 := Tryd.underlying100
  a46 := Tryd.isAgg100
  z46 := Tryd.sizeOf100
  v46 := Tryd.zeroValue100
  t51 := Tryd.underlying107
  a51 := Tryd.isAgg107
  z51 := Tryd.sizeOf107
  v51 := Tryd.zeroValue107
  t53 := Tryd.underlying94
  a53 := Tryd.isAgg94
  z53 := Tryd.sizeOf94
  v53 := Tryd.zeroValue94
  t171 := Tryd.underlying93
  a171 := Tryd.isAgg93
  z171 := Tryd.sizeOf93
  v171 := Tryd.zeroValue93
  t173 := Tryd.underlying98
  a173 := Tryd.isAgg98
  z173 := Tryd.sizeOf98
  v173 := Tryd.zeroValue98
  t212 := Tryd.underlying106
  a212 := Tryd.isAgg106
  z212 := Tryd.sizeOf106
  v212 := Tryd.zeroValue106
  t213 := Tryd.underlying108
  a213 := Tryd.isAgg108
  z213 := Tryd.sizeOf108
  t232 := Tryd.underlying129
  a232 := Tryd.isAgg129
  z232 := Tryd.sizeOf129
  v232 := Tryd.zeroValue129
  t233 := Tryd.underlying130
  a233 := Tryd.isAgg130
  z233 := Tryd.sizeOf130
  v233 := Tryd.zeroValue130
  g17 := by kernel_rfl
  g18 := by kernel_rfl
  g19 := by kernel_rfl
  i0 := by kernel_rfl
  i2 := by kernel_rfl
  i3 := by kernel_rfl
  i4 := by kernel_rfl
  i5 := by kernel_rfl
  i9 := by kernel_rfl
  i20 := by kernel_rfl
  i37 := by kernel_rfl
  i46 := by kernel_rfl
  i51 := by kernel_rfl
  i53 := by kernel_rfl
  i171 := by kernel_rfl
  i173 := by kernel_rfl
  i212 := by kernel_rfl
  i232 := by kernel_rfl
  i233 := by kernel_rfl
  m17 := by kernel_rfl
  m18 := by kernel_rfl
  m19 := by kernel_rfl }
/-- The powers of ten lie in their variable. -/
def Tab (w : World) : Prop := Lib.TabIs Tryd.prog w "internal/strconv.uint64pow10" .u64 Lib.pow10Tab
theorem Tab.below {w w' : World} (h : Tab w) (hb : Below w.heap.size w w') : Tab w' := by
  unfold Tab Lib.TabIs World.var? at *
  cases hg : Tryd.prog.globalNamed "internal/strconv.uint64pow10" with
  | none => simp [hg] at h
  | some g =>
    simp only [hg, Option.bind_some] at h ⊢
    have hlt : g < w.heap.size := by
      rcases Nat.lt_or_ge g w.heap.size with h' | h'
      · exact h'
      · rw [Array.getElem?_eq_none h'] at h; simp at h
    rw [hb.block g hlt]
    exact h
theorem itoa_any (n : Int) (h0 : -9223372036854775808 ≤ n) (h1 : n ≤ 9223372036854775807) (w : World) (ht : Tab w) :
    Calls Tryd.prog 17 #[.int .i64 n] w (RetV w (.string ⟨(Lib.itoa n).toArray⟩)) := by
  have hh := Any.strconv_Itoa laysM171 n h0 h1 w ht
  change Calls Tryd.prog 17 _ _ _ at hh
  exact hh.mono fun e w' ⟨he, k, os, hw⟩ => by subst hw; exact ⟨he, Lib.below_grow _ _ (Nat.le_refl _) _ _⟩
end

section
open Go.RowKit
set_option linter.unusedVariables false
set_option linter.unusedSimpArgs false

theorem cat_b (a b : List UInt8) : (⟨a.toArray⟩ : ByteArray) ++ ⟨b.toArray⟩ = ⟨(a ++ b).toArray⟩ := by
  refine ByteArray.ext ?_
  rw [ByteArray.data_append]
  apply Array.toList_inj.1
  simp
theorem bytes_lit (l : List UInt8) (a : Array UInt8) (h : a.toList = l) : (⟨a⟩ : ByteArray) = ⟨l.toArray⟩ := by subst h; simp
theorem tum_cat (a b : List UInt8) : (⟨#[116, 117, 109, 98, 108, 105, 110, 103, 32]⟩ : ByteArray) ++ ⟨a.toArray⟩ ++ ⟨#[32]⟩ ++ ⟨b.toArray⟩ = ⟨(joinL [tumW, a, b]).toArray⟩ := by
  rw [bytes_lit (tumW ++ [32]) #[116, 117, 109, 98, 108, 105, 110, 103, 32] rfl, bytes_lit [32] #[32] rfl, cat_b, cat_b, cat_b]
  simp [joinL]
theorem sli_cat (a b c : List UInt8) : (⟨#[115, 108, 105, 100, 105, 110, 103, 32]⟩ : ByteArray) ++ ⟨a.toArray⟩ ++ ⟨#[32]⟩ ++ ⟨b.toArray⟩ ++ ⟨#[32]⟩ ++ ⟨c.toArray⟩ = ⟨(joinL [sliW, a, b, c]).toArray⟩ := by
  rw [bytes_lit (sliW ++ [32]) #[115, 108, 105, 100, 105, 110, 103, 32] rfl, bytes_lit [32] #[32] rfl, cat_b, cat_b, cat_b, cat_b, cat_b]
  simp [joinL]
theorem ses_cat (a : List UInt8) : (⟨#[115, 101, 115, 115, 105, 111, 110, 32]⟩ : ByteArray) ++ ⟨a.toArray⟩ = ⟨(joinL [sesW, a]).toArray⟩ := by
  rw [bytes_lit (sesW ++ [32]) #[115, 101, 115, 115, 105, 111, 110, 32] rfl, cat_b]
  simp [joinL]
theorem itoa_sz (n : Int) (h0 : -9223372036854775808 ≤ n) (h1 : n ≤ 9223372036854775807) : (⟨(Lib.itoa n).toArray⟩ : ByteArray).size ≤ 21 := by
  show (Lib.itoa n).toArray.size ≤ 21
  rw [List.size_toArray]
  exact Lib.itoa_length_le n h0 h1
end

section
open Go.Shelf Go.RowKit
set_option linter.unusedVariables false
end

section
open Go.RowKit
set_option linter.unusedVariables false
set_option linter.unusedSimpArgs false

/-- A list of words grows by one. -/
theorem wd_app1 (x : List UInt8) {X : World} {N : Nat} {A : Option Addr} {n c : Nat} {ws : List (List UInt8)} (hown : X.ownsRow N 9 1 (.slice A n c) n (ws.map strV)) (hN : N ≤ X.heap.size) (hl : n ≤ 1000000) :
    ∃ A' c' X', (Builtin.append_ #[55, 55] 55 #[.slice A n c, .slice (some ⟨X.heap.size, 0, none⟩) 1 1]).run Tryd.prog (X.alloc (.cells #[.string ⟨x.toArray⟩] 9)) = .ok (.slice A' (n + 1) c') X' ∧
      X'.ownsRow N 9 1 (.slice A' (n + 1) c') (n + 1) ((ws ++ [x]).map strV) ∧ (∀ k, k < X.heap.size → (Value.slice A n c).ownBlock ≠ some k → X'.heap[k]? = X.heap[k]?) ∧ Below N X X' := by
  obtain ⟨i0, hi, hz0, hz1, hz2⟩ := info_partsW infoStrW
  obtain ⟨o, ho⟩ : ∃ o : Obj, (.cells #[.string ⟨x.toArray⟩] 9 : Obj) = o := ⟨_, rfl⟩
  have hs : (X.alloc o).heap.size = X.heap.size + 1 := World.size_alloc _ _
  have kq := Blk.new X 9 #[.string ⟨x.toArray⟩]
  have hba : Below X.heap.size X (X.alloc (.cells #[.string ⟨x.toArray⟩] 9)) := (Below.refl _ _).alloc (Nat.le_refl _) _
  rw [ho] at kq hba ⊢
  have hown1 := own_below hown hba
  have hrd : Reads (X.alloc o) (X.alloc o).heap.size 1 (some ⟨X.heap.size, 0, none⟩) 1 [.string ⟨x.toArray⟩] := ⟨rfl, fun _ => ⟨X.heap.size, 0, rfl, by omega, fun j u hu => by rw [Nat.zero_add, kq.cell j]; simpa using hu⟩⟩
  obtain ⟨v', X', hrun, h2, h3, h4⟩ := run_append_any (P := Tryd.prog) (X.alloc o) N 55 55 9 i0 _ 1 16 Tryd.underlying55 hi hz0 hz1 hz2 rfl (by decide) (.slice A n c) n (ws.map strV) hown1 (X.alloc o).heap.size (some ⟨X.heap.size, 0, none⟩) 1 1 [.string ⟨x.toArray⟩] hrd (by
    intro u hu
    obtain rfl : u = .string ⟨x.toArray⟩ := by simpa using hu
    rfl) (by unfold maxLen; omega) (by omega) (by omega)
  obtain ⟨A', c', rfl, _⟩ := own_form h2
  exact ⟨A', c', X', hrun, by rw [List.map_append]; exact h2, fun k hk hne => (h3.block k (by omega) fun e => hne e.symm).trans (hba.block k hk), below_append (hba.mono hN) hown1 (by omega) h3⟩
/-- Two literals, in either order. -/
theorem two_lit (W : World) (kw : List UInt8) (ns : List Int) (hn : ns.length ≤ 4) :
    ((((W.alloc (.cells #[.string ⟨kw.toArray⟩] 9)).alloc (.cells (ns.map (Value.int .i64)).toArray 3)).drew).ownsRow W.heap.size 9 1 (.slice (some ⟨W.heap.size, 0, none⟩) 1 1) 1 ([kw].map strV) ∧
      Blk (((W.alloc (.cells #[.string ⟨kw.toArray⟩] 9)).alloc (.cells (ns.map (Value.int .i64)).toArray 3)).drew) (W.heap.size + 1) 3 (ns.map (Value.int .i64)).toArray) ∧
    ((((W.alloc (.cells (ns.map (Value.int .i64)).toArray 3)).alloc (.cells #[.string ⟨kw.toArray⟩] 9)).drew).ownsRow W.heap.size 9 1 (.slice (some ⟨W.heap.size + 1, 0, none⟩) 1 1) 1 ([kw].map strV) ∧
      Blk (((W.alloc (.cells (ns.map (Value.int .i64)).toArray 3)).alloc (.cells #[.string ⟨kw.toArray⟩] 9)).drew) W.heap.size 3 (ns.map (Value.int .i64)).toArray) := by
  have hs1 : ∀ O : Obj, (W.alloc O).heap.size = W.heap.size + 1 := fun O => World.size_alloc _ _
  have hB : ∀ (X : World) (O : Obj), Below X.heap.size X (X.alloc O).drew := fun X O => ((Below.refl _ _).alloc (Nat.le_refl _) _).drew
  refine ⟨⟨?_, ?_⟩, ?_, ?_⟩
  · exact own_below (own_lit W 9 1 1 #[.string ⟨kw.toArray⟩] rfl (by unfold maxLen; omega) (Nat.le_refl _)) (hB _ _)
  · have := Blk.new (W.alloc (.cells #[.string ⟨kw.toArray⟩] 9)) 3 (ns.map (Value.int .i64)).toArray
    rw [hs1] at this
    exact this.below (Below.refl _ _).drew this.lt
  · have := own_lit (W.alloc (.cells (ns.map (Value.int .i64)).toArray 3)) 9 1 1 #[.string ⟨kw.toArray⟩] rfl (by unfold maxLen; omega) (base := W.heap.size) (by rw [hs1]; omega)
    rw [hs1] at this
    exact own_below this (Below.refl _ _).drew
  · have := Blk.new W 3 (ns.map (Value.int .i64)).toArray
    exact this.below (hB _ _) this.lt
end

end Go.Proofs.YtmpoaegdejhbeaaDoor
