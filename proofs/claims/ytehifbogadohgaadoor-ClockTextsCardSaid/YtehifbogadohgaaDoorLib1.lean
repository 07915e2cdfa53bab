/-
  strings.Join by the shelf, in a seat that has no WriteByte. No condition.
-/
import Derived.Shelf.Strings.OnBuilder
import Derived.Shelf.Strings.BuilderK
import Derived.Shelf.Strconv.Itoa3
import Derived.Shelf.LaysM
import Derived.Lib.AppendIntMem
import Derived.Test.YtehifbogadohgaaDoorMem
import Derived.Test.YtehifbogadohgaaDoorProg
import Derived.WalkKit
namespace Go.Proofs.YtehifbogadohgaaDoor
open Go.Shelf Go.RowKit
set_option linter.unusedVariables false
def lays156J_ren : Go.Shelf.Ren := ⟨fun | 156 => 13 | 165 => 24 | 166 => 25 | 169 => 26 | 240 => 38 | 241 => 39 | 276 => 52 | 277 => 53 | n => n, fun | 31 => 37 | 9 => 9 | 3 => 3 | 4 => 4 | 0 => 0 | 20 => 20 | 72 => 57 | 76 => 44 | 70 => 54 | 37 => 55 | 75 => 43 | 127 => 70 | 164 => 85 | 5 => 5 | 80 => 59 | n => n, fun | n => n⟩
theorem lays156J : Go.Proofs.Lays.n156 Tryd.prog lays156J_ren := {
  mixed := by kernel_rfl
  f156 := Tryd.func13.trans (congrArg some (by kernel_rfl))
  f165 := Tryd.func24.trans (congrArg some (by kernel_rfl))
  f166 := Tryd.func25.trans (congrArg some (by kernel_rfl))
  f169 := Tryd.func26.trans (congrArg some (by kernel_rfl))
  f240 := Tryd.func38.trans (congrArg some (by kernel_rfl))
  f241 := Tryd.func39.trans (congrArg some (by kernel_rfl))
  f276 := Tryd.func52.trans (congrArg some (by kernel_rfl))
  f277 := Tryd.func53.trans (congrArg some (by kernel_rfl))
  t0 := Tryd.underlying0
  a0 := Tryd.isAgg0
  z0 := Tryd.sizeOf0
  v0 := Tryd.zeroValue0
  t3 := Tryd.underlying3
  a3 := Tryd.isAgg3
  z3 := Tryd.sizeOf3
  v3 := Tryd.zeroValue3
  t4 := Tryd.underlying4
  a4 := Tryd.isAgg4
  z4 := Tryd.sizeOf4
  v4 := Tryd.zeroValue4
  t9 := Tryd.underlying9
  a9 := Tryd.isAgg9
  z9 := Tryd.sizeOf9
  v9 := Tryd.zeroValue9
  t20 := Tryd.underlying20
  a20 := Tryd.isAgg20
  z20 := Tryd.sizeOf20
  v20 := Tryd.zeroValue20
  t31 := Tryd.underlying37
  a31 := Tryd.isAgg37
  z31 := Tryd.sizeOf37
  v31 := Tryd.zeroValue37
  t37 := Tryd.underlying55
  a37 := Tryd.isAgg55
  z37 := Tryd.sizeOf55
  v37 := Tryd.zeroValue55
  t70 := Tryd.underlying54
  a70 := Tryd.isAgg54
  z70 := Tryd.sizeOf54
  v70 := Tryd.zeroValue54
  t72 := Tryd.underlying57
  a72 := Tryd.isAgg57
  z72 := Tryd.sizeOf57
  v72 := Tryd.zeroValue57
  t75 := Tryd.underlying43
  a75 := Tryd.isAgg43
  z75 := Tryd.sizeOf43
  v75 := Tryd.zeroValue43
  t76 := Tryd.underlying44
  a76 := Tryd.isAgg44
  z76 := Tryd.sizeOf44
  v76 := Tryd.zeroValue44
  t127 := Tryd.underlying70
  a127 := Tryd.isAgg70
  z127 := Tryd.sizeOf70
  v127 := Tryd.zeroValue70
  t164 := Tryd.underlying85
  a164 := Tryd.isAgg85
  z164 := Tryd.sizeOf85
  v164 := Tryd.zeroValue85 }
theorem Builder_Extra_156J : Builder.Extra Tryd.prog lays156J_ren := {
  sizeBuilder := by kernel_rfl
  liesBuilder := by kernel_rfl
  t5 := Tryd.underlying5
  a5 := Tryd.isAgg5
  z5 := Tryd.sizeOf5
  v5 := Tryd.zeroValue5
  infoByte := by kernel_rfl
  cellsByte := by kernel_rfl
  sizeByte := by kernel_rfl
  neB5 := by decide }
theorem joinJ_any (A : Option Addr) (n c : Nat) (xs : List ByteArray) (sep : ByteArray) (w : World) (h : Reads w w.heap.size 1 A n (xs.map Value.string)) (hn : n ≤ 1000000) (hc : n ≤ c)
    (hlen : (Lib.join (xs.map (·.data.toList)) sep.data.toList).length ≤ 1000000) :
    Calls Tryd.prog 13 #[.slice A n c, .string sep] w (RetV w (.string ⟨(Lib.join (xs.map (·.data.toList)) sep.data.toList).toArray⟩)) := by
  have hl : xs.length = n := by have := h.1; simpa using this
  subst hl
  by_cases h0 : 0 < xs.length
  · obtain ⟨b, o, rfl, hb, hcell⟩ := h.2 h0
    have hh := Any.strings_Join lays156J Builder_Extra_156J b o c xs sep w (fun j x hx => hcell j _ (by rw [List.getElem?_map, hx]; rfl)) hb (by omega) hc (by omega)
    change Calls Tryd.prog 13 _ _ _ at hh
    exact hh.mono fun e w' ⟨he, hb'⟩ => ⟨he, hb'⟩
  · have hx : xs = [] := List.length_eq_zero_iff.1 (by omega)
    subst hx
    have hh := Any.strings_Join_none lays156J Builder_Extra_156J A c sep w
    change Calls Tryd.prog 13 _ _ _ at hh
    exact hh.mono fun e w' ⟨he, hw⟩ => by subst hw; exact ⟨he, Below.refl _ _⟩
end Go.Proofs.YtehifbogadohgaaDoor
