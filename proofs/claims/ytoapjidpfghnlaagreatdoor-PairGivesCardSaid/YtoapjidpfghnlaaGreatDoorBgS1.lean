/-
  The walk of bag.both: two bags put together, row by row, by whatever function of two numbers.
  The library's strconv.Itoa, strings.Join and strings.Builder by the shelf's contracts (the layings printed by lay-plain, turned to names by lay2tpl).
  (In seats that hold the bag's texts: these stand in BgR1 and BgR2.)
  The walk of the program's quoted.
  The walks of the reference's functions over values: within, ValidValue, class.
-/
import Derived.Test.YtoapjidpfghnlaaGreatDoorGb
import Derived.Test.YtoapjidpfghnlaaGreatDoorRngH
import Derived.Shelf.Abstract
import Derived.Shelf.Strings.OnBuilder
import Derived.Shelf.Strings.BuilderK
import Derived.Shelf.Strconv.Itoa3
import Derived.Shelf.LaysM
import Derived.Lib.AppendIntMem
import Derived.Test.YtoapjidpfghnlaaGreatDoorQbw
import Derived.Test.YtoapjidpfghnlaaGreatDoorProg
import Derived.Deep.CutRange
import Derived.Deep.CutBlock
import Derived.Test.YtoapjidpfghnlaaGreatDoorBgP2
namespace Go.Proofs.YtoapjidpfghnlaaGreatDoor

section
open Go.RowKit Go.Shelf
attribute [local go_sem] Oper.semAt_some wide_fn wide_depth

/-- What lies in memory between two rounds: box ob holds what was put together so far. -/
structure OutI (f : Int → Int → Int) (B ob : Nat) (pre : List Pe) (W : World) : Prop where
  ow : ∃ (v : Value) (l : List It), Boxed W ob 40 v ∧ W.ownsRow (ob + 3) 119 2 v l.length (l.flatMap encIt) ∧ dat l = both f (pre.map datP) ∧ Rows_ W B l
  a : ∃ v, Boxed W (ob + 1) 40 v
  b : ∃ v, Boxed W (ob + 1 + 1) 40 v
theorem OutI.lt {f : Int → Int → Int} {B ob : Nat} {pre : List Pe} {W : World} (h : OutI f B ob pre W) : ob + 1 + 1 < W.heap.size := by obtain ⟨v, hv⟩ := h.b; exact hv.lt
theorem blk_own {W W' : World} {g : Nat} {t : TypeId} {cs : Array Value} {row : Option Nat} (h : Blk W g t cs) (hg : W.grownBy W' row) (hr : ∀ r, row = some r → ∃ o : Obj, W.heap[r]? = some o ∧ o.isCells = false) : Blk W' g t cs :=
  h.grown hg fun e => by
    obtain ⟨o, ho, hc⟩ := hr g e.symm
    rw [show W.heap[g]? = _ from h] at ho
    cases ho; cases hc
theorem RowK.others {w w' : World} {B n : Nat} {A : Option Addr} {r : Rw} {row : Option Nat} (h : RowK w B A n r) (hg : w.grownBy w' row) (hr : ∀ k, row = some k → B ≤ k ∧ ∃ o : Obj, w.heap[k]? = some o ∧ o.isCells = false) : RowK w' B A n r :=
  h.keep (p := fun k => row = some k) (fun k hk hp => hg.block k hk fun e => hp e.symm) hg.size fun k hk => by
    obtain ⟨h1, o, h2, h3⟩ := hr k hk
    refine ⟨h1, fun c fz hc => ?_⟩
    rw [h2] at hc
    cases hc; cases h3
theorem OutI.wr {f : Int → Int → Int} {B ob : Nat} {pre : List Pe} {X Y : World} (h : OutI f B ob pre X) (k : WrQ (ob + 1) (ob + 1 + 1) X Y) (hB : B ≤ ob) : OutI f B ob pre Y := by
  obtain ⟨⟨v, l, h1, h2, h3, h4⟩, ⟨va, h5⟩, ⟨vb, h6⟩⟩ := h
  have hbl : ∀ b, b < X.heap.size → b ≠ ob + 1 → b ≠ ob + 1 + 1 → Y.heap[b]? = X.heap[b]? := fun b hb n1 n2 => k.wr.bar.block b hb (by simp; omega)
  refine ⟨⟨v, l, (hbl ob h1.lt (by omega) (by omega)).trans h1, ⟨h2.1, ?_⟩, h3, fun i hi => ?_⟩, k.a, k.b⟩
  · rcases h2.2 with e | ⟨g, cap, cur, e1, e2, e3, e4⟩
    · exact .inl e
    · exact .inr ⟨g, cap, cur, e1, e2, (hbl g (Array.getElem?_eq_some_iff.1 e3).1 (by omega) (by omega)).trans e3, e4⟩
  · refine (h4 i hi).keep (p := fun b => b = ob + 1 ∨ b = ob + 1 + 1) (fun b hb hn => hbl b hb (fun e => hn (.inl e)) (fun e => hn (.inr e))) k.wr.bar.size fun b hb => ⟨by omega, fun c fz hc => ?_⟩
    rcases hb with rfl | rfl
    · rw [show X.heap[ob + 1]? = _ from h5] at hc
      cases hc
    · rw [show X.heap[ob + 1 + 1]? = _ from h6] at hc
      cases hc
theorem own_cap {w : World} {base : Nat} {e : TypeId} {size n c : Nat} {A : Option Addr} {xs : List Value} (h : w.ownsRow base e size (.slice A n c) n xs) : n ≤ c := by
  rcases h.2 with ⟨h1, _⟩ | ⟨g, cap, cur, h1, _, _, h4, _⟩
  · injection h1 with _ h2 h3
    omega
  · injection h1 with _ _ h3
    subst h3
    exact h4
theorem cell_is {w : World} {b o : Nat} {v : Value} (h : w.cell? ⟨b, o, none⟩ = some v) : ∃ ob : Obj, w.heap[b]? = some ob ∧ ob.isCells = true := by
  unfold World.cell? at h
  split at h <;> simp_all [Obj.isCells]
section
variable {w w' : World}
theorem Reads.keepCells {s n : Nat} {A : Option Addr} {xs : List Value} (h : Reads w w.heap.size s A n xs) (hk : ∀ (k : Nat) (o : Obj), w.heap[k]? = some o → o.isCells = true → w'.heap[k]? = some o) (hs : w.heap.size ≤ w'.heap.size) : Reads w' w'.heap.size s A n xs := by
  refine ⟨h.1, fun h0 => ?_⟩
  obtain ⟨b, off, e, hb, hc⟩ := h.2 h0
  refine ⟨b, off, e, by omega, fun j u hu => ?_⟩
  have h1 := hc j u hu
  obtain ⟨ob, ho, hcc⟩ := cell_is h1
  rw [World.cell?_of_block (w := w) (w' := w') (a := ⟨b, off + j, none⟩) (by show w'.heap[b]? = w.heap[b]?; rw [ho]; exact hk b ob ho hcc)]
  exact h1
theorem RowK.keepCells {B B' n : Nat} {A : Option Addr} {r : Rw} (h : RowK w B A n r) (hk : ∀ (k : Nat) (o : Obj), w.heap[k]? = some o → o.isCells = true → w'.heap[k]? = some o) (hs : w.heap.size ≤ w'.heap.size) (hB : B ≤ B') : RowK w' B' A n r :=
  ⟨h.rd.keepCells hk hs, fun h0 b off m e => by
    rcases h.at_ h0 b off m e with h1 | ⟨c, fz, h1⟩
    · exact .inl (by omega)
    · exact .inr ⟨c, fz, hk b _ h1 rfl⟩, h.le⟩
end
end

section
open Go.Shelf Go.RowKit
set_option linter.unusedVariables false

def lays156_ren : Go.Shelf.Ren := ⟨fun | 156 => 169 | 167 => 211 | 165 => 214 | 166 => 212 | 169 => 213 | 240 => 243 | 241 => 244 | 276 => 263 | 277 => 264 | n => n, fun | 31 => 197 | 9 => 9 | 3 => 3 | 4 => 4 | 0 => 0 | 20 => 20 | 72 => 237 | 76 => 241 | 70 => 234 | 37 => 235 | 75 => 239 | 127 => 264 | 164 => 280 | 5 => 5 | 80 => 243 | n => n, fun | n => n⟩
theorem lays156 : Go.Proofs.Lays.n156 Tryz.prog lays156_ren := {
  mixed := by kernel_rfl
  f156 := Tryz.func169.trans (congrArg some (by kernel_rfl))
  f165 := Tryz.func214.trans (congrArg some (by kernel_rfl))
  f166 := Tryz.func212.trans (congrArg some (by kernel_rfl))
  f169 := Tryz.func213.trans (congrArg some (by kernel_rfl))
  f240 := Tryz.func243.trans (congrArg some (by kernel_rfl))
  f241 := Tryz.func244.trans (congrArg some (by kernel_rfl))
  f276 := Tryz.func263.trans (congrArg some (by kernel_rfl))
  f277 := Tryz.func264.trans (congrArg some (by kernel_rfl))
  t0 := Tryz.underlying0
  a0 := Tryz.isAgg0
  z0 := Tryz.sizeOf0
  v0 := Tryz.zeroValue0
  t3 := Tryz.underlying3
  a3 := Tryz.isAgg3
  z3 := Tryz.sizeOf3
  v3 := Tryz.zeroValue3
  t4 := Tryz.underlying4
  a4 := Tryz.isAgg4
  z4 := Tryz.sizeOf4
  v4 := Tryz.zeroValue4
  t9 := Tryz.underlying9
  a9 := Tryz.isAgg9
  z9 := Tryz.sizeOf9
  v9 := Tryz.zeroValue9
  t20 := Tryz.underlying20
  a20 := Tryz.isAgg20
  z20 := Tryz.sizeOf20
  v20 := Tryz.zeroValue20
  t31 := Tryz.underlying197
  a31 := Tryz.isAgg197
  z31 := Tryz.sizeOf197
  v31 := Tryz.zeroValue197
  t37 := Tryz.underlying235
  a37 := Tryz.isAgg235
  z37 := Tryz.sizeOf235
  v37 := Tryz.zeroValue235
  t70 := Tryz.underlying234
  a70 := Tryz.isAgg234
  z70 := Tryz.sizeOf234
  v70 := Tryz.zeroValue234
  t72 := Tryz.underlying237
  a72 := Tryz.isAgg237
  z72 := Tryz.sizeOf237
  v72 := Tryz.zeroValue237
  t75 := Tryz.underlying239
  a75 := Tryz.isAgg239
  z75 := Tryz.sizeOf239
  v75 := Tryz.zeroValue239
  t76 := Tryz.underlying241
  a76 := Tryz.isAgg241
  z76 := Tryz.sizeOf241
  v76 := Tryz.zeroValue241
  t127 := Tryz.underlying264
  a127 := Tryz.isAgg264
  z127 := Tryz.sizeOf264
  v127 := Tryz.zeroValue264
  t164 := Tryz.underlying280
  a164 := Tryz.isAgg280
  z164 := Tryz.sizeOf280
  v164 := Tryz.zeroValue280 }
theorem Builder_Extra_156 : Builder.Extra Tryz.prog lays156_ren := {
  sizeBuilder := by kernel_rfl
  liesBuilder := by kernel_rfl
  t5 := Tryz.underlying5
  a5 := Tryz.isAgg5
  z5 := Tryz.sizeOf5
  v5 := Tryz.zeroValue5
  infoByte := by kernel_rfl
  cellsByte := by kernel_rfl
  sizeByte := by kernel_rfl
  neB5 := by decide }
def laysM171_ren : Go.Shelf.Ren := ⟨fun | 171 => 167 | 243 => 210 | 246 => 242 | 283 => 259 | 284 => 260 | 285 => 261 | 286 => 262 | 129 => 179 | 317 => 269 | 318 => 270 | 319 => 271 | 320 => 272 | 337 => 274 | 338 => 275 | n => n, fun | 3 => 3 | 9 => 9 | 2 => 2 | 4 => 4 | 171 => 276 | 0 => 0 | 53 => 212 | 37 => 235 | 5 => 5 | 173 => 278 | 212 => 288 | 51 => 210 | 20 => 20 | 213 => 289 | 46 => 166 | 232 => 291 | 233 => 292 | n => n, fun | 17 => 0 | 18 => 2 | 19 => 3 | n => n⟩
theorem laysM171 : Go.Proofs.LaysM.n171 Tryz.prog laysM171_ren := {
  mixed := by kernel_rfl
  f129 := Tryz.func179.trans (congrArg some (by kernel_rfl))
  f171 := Tryz.func167.trans (congrArg some (by kernel_rfl))
  f243 := Tryz.func210.trans (congrArg some (by kernel_rfl))
  f246 := Tryz.func242.trans (congrArg some (by kernel_rfl))
  f283 := Tryz.func259.trans (congrArg some (by kernel_rfl))
  f284 := Tryz.func260.trans (congrArg some (by kernel_rfl))
  f285 := Tryz.func261.trans (congrArg some (by kernel_rfl))
  f286 := Tryz.func262.trans (congrArg some (by kernel_rfl))
  f317 := Tryz.func269.trans (congrArg some (by kernel_rfl))
  f318 := Tryz.func270.trans (congrArg some (by kernel_rfl))
  f319 := Tryz.func271.trans (congrArg some (by kernel_rfl))
  f320 := Tryz.func272.trans (congrArg some (by kernel_rfl))
  f337 := Tryz.func274.trans (congrArg some (by kernel_rfl))
  f338 := Tryz.func275.trans (congrArg some (by kernel_rfl))
  t0 := Tryz.underlying0
  a0 := Tryz.isAgg0
  z0 := Tryz.sizeOf0
  v0 := Tryz.zeroValue0
  t2 := Tryz.underlying2
  a2 := Tryz.isAgg2
  z2 := Tryz.sizeOf2
  v2 := Tryz.zeroValue2
  t3 := Tryz.underlying3
  a3 := Tryz.isAgg3
  z3 := Tryz.sizeOf3
  v3 := Tryz.zeroValue3
  t4 := Tryz.underlying4
  a4 := Tryz.isAgg4
  z4 := Tryz.sizeOf4
  v4 := Tryz.zeroValue4
  t5 := Tryz.underlying5
  a5 := Tryz.isAgg5
  z5 := Tryz.sizeOf5
  v5 := Tryz.zeroValue5
  t9 := Tryz.underlying9
  a9 := Tryz.isAgg9
  z9 := Tryz.sizeOf9
  v9 := Tryz.zeroValue9
  t20 := Tryz.underlying20
  a20 := Tryz.isAgg20
  z20 := Tryz.sizeOf20
  v20 := Tryz.zeroValue20
  t37 := Tryz.underlying235
  a37 := Tryz.isAgg235
  z37 := Tryz.sizeOf235
  v37 := Tryz.zeroValue235
  t46 := Tryz.underlying166
  a46 := Tryz.isAgg166
  z46 := Tryz.sizeOf166
  v46 := Tryz.zeroValue166
  t51 := Tryz.underlying210
  a51 := Tryz.isAgg210
  z51 := Tryz.sizeOf210
  v51 := Tryz.zeroValue210
  t53 := Tryz.underlying212
  a53 := Tryz.isAgg212
  z53 := Tryz.sizeOf212
  v53 := Tryz.zeroValue212
  t171 := Tryz.underlying276
  a171 := Tryz.isAgg276
  z171 := Tryz.sizeOf276
  v171 := Tryz.zeroValue276
  t173 := Tryz.underlying278
  a173 := Tryz.isAgg278
  z173 := Tryz.sizeOf278
  v173 := Tryz.zeroValue278
  t212 := Tryz.underlying288
  a212 := Tryz.isAgg288
  z212 := Tryz.sizeOf288
  v212 := Tryz.zeroValue288
  t213 := Tryz.underlying289
  a213 := Tryz.isAgg289
  z213 := Tryz.sizeOf289
  t232 := Tryz.underlying291
  a232 := Tryz.isAgg291
  z232 := Tryz.sizeOf291
  v232 := Tryz.zeroValue291
  t233 := Tryz.underlying292
  a233 := Tryz.isAgg292
  z233 := Tryz.sizeOf292
  v233 := Tryz.zeroValue292
  g17 := by kernel_rfl
  g18 := by kernel_rfl
  g19 := by kernel_rfl
  i0 := by kernel_rfl
  i2 := by kernel_rfl
  i3 := by kernel_rfl
  i4 := by kernel_rfl
  i5 := by kernel_rfl
  i9 := by kernel_rfl
  i20 := by kernel_rfl
  i37 := by kernel_rfl
  i46 := by kernel_rfl
  i51 := by kernel_rfl
  i53 := by kernel_rfl
  i171 := by kernel_rfl
  i173 := by kernel_rfl
  i212 := by kernel_rfl
  i232 := by kernel_rfl
  i233 := by kernel_rfl
  m17 := by kernel_rfl
  m18 := by kernel_rfl
  m19 := by kernel_rfl }
theorem lays167 : Go.Proofs.Lays.n167 Tryz.prog lays156_ren := { lays156, Builder_Extra_156 with
  f167 := Tryz.func211.trans (congrArg some (by kernel_rfl)) }
/-- A builder of the call's own, in block b, that holds bytes. -/
def Bd (w : World) (B b : Nat) (l : List UInt8) : Prop := Lib.IsBuilderF 237 5 B b (Lib.byteCells l) w
theorem Bd.new (w : World) : Bd (w.alloc (.cells #[.pointer none, .slice none 0 0] 237)) w.heap.size w.heap.size [] := Lib.IsBuilderF.of (Lib.fresh_isBuilder _ _ w)
theorem Bd.of {w : World} {B b : Nat} {p : Value} {bs : List Value} {l : List UInt8} (h : Lib.BuilderAtF 237 5 B b (.pointer (some ⟨b, 0, none⟩)) bs w) (e : bs = Lib.byteCells l) : Bd w B b l := by subst e; exact .inr h
theorem wbyte_any (B b : Nat) (l : List UInt8) (c : UInt8) (w : World) (h : Bd w B b l) (hlen : l.length ≤ 1000000) (hB : B ≤ w.heap.size) :
    Calls Tryz.prog 211 #[.pointer (some ⟨b, 0, none⟩), .int .u8 (c.toNat : Int)] w fun e w' => e = .returned .nilIface ∧ Bd w' B b (l ++ [c]) ∧ Below B w w' := by
  have hc := Any.Builder_WriteByte_k lays167 Builder_Extra_156 B b (Lib.byteCells l) (c.toNat : Int) w h (by rw [Lib.byteCells_length]; omega) hB
  change Calls Tryz.prog 211 _ _ _ at hc
  exact hc.mono fun e w' ⟨he, h1, h2, _⟩ => ⟨he, Bd.of (p := .nilIface) h1 (by simp [Lib.byteCells]), h2⟩
theorem wstr_any (B b : Nat) (l : List UInt8) (s : ByteArray) (w : World) (h : Bd w B b l) (hlen : l.length + s.size ≤ 1000000) (hB : B ≤ w.heap.size) :
    Calls Tryz.prog 212 #[.pointer (some ⟨b, 0, none⟩), .string s] w fun e w' => e = .returned (.tuple #[.int .i64 s.size, .nilIface]) ∧ Bd w' B b (l ++ s.data.toList) ∧ Below B w w' := by
  have hc := Any.Builder_WriteString_k { lays156 with } Builder_Extra_156 B b (Lib.byteCells l) s w h (by rw [Lib.byteCells_length]; omega) hB
  change Calls Tryz.prog 212 _ _ _ at hc
  exact hc.mono fun e w' ⟨he, h1, h2, _⟩ => ⟨he, Bd.of (p := .nilIface) h1 (by simp [Lib.byteCells, Lib.strCells]), h2⟩
theorem str_any (B b : Nat) (l : List UInt8) (w : World) (h : Bd w B b l) (hB : B ≤ w.heap.size) :
    Calls Tryz.prog 213 #[.pointer (some ⟨b, 0, none⟩)] w fun e w' => e = .returned (.string ⟨l.toArray⟩) ∧ Bd w' B b l ∧ Below B w w' := by
  have hc := Any.Builder_String_any_k { lays156 with } Builder_Extra_156 B b l w h hB
  change Calls Tryz.prog 213 _ _ _ at hc
  exact hc.mono fun e w' ⟨he, h1, h2, _⟩ => ⟨he, h1, h2⟩
theorem join_any (A : Option Addr) (n c : Nat) (xs : List ByteArray) (sep : ByteArray) (w : World) (h : Reads w w.heap.size 1 A n (xs.map Value.string)) (hn : n ≤ 1000000) (hc : n ≤ c)
    (hlen : (Lib.join (xs.map (·.data.toList)) sep.data.toList).length ≤ 1000000) :
    Calls Tryz.prog 169 #[.slice A n c, .string sep] w (RetV w (.string ⟨(Lib.join (xs.map (·.data.toList)) sep.data.toList).toArray⟩)) := by
  have hl : xs.length = n := by have := h.1; simpa using this
  subst hl
  by_cases h0 : 0 < xs.length
  · obtain ⟨b, o, rfl, hb, hcell⟩ := h.2 h0
    have hh := Any.strings_Join lays156 Builder_Extra_156 b o c xs sep w (fun j x hx => hcell j _ (by rw [List.getElem?_map, hx]; rfl)) hb (by omega) hc (by omega)
    change Calls Tryz.prog 169 _ _ _ at hh
    exact hh.mono fun e w' ⟨he, hb'⟩ => ⟨he, hb'⟩
  · have hx : xs = [] := List.length_eq_zero_iff.1 (by omega)
    subst hx
    have hh := Any.strings_Join_none lays156 Builder_Extra_156 A c sep w
    change Calls Tryz.prog 169 _ _ _ at hh
    exact hh.mono fun e w' ⟨he, hw⟩ => by subst hw; exact ⟨he, Below.refl _ _⟩
/-- The powers of ten lie in their variable. -/
def Tab (w : World) : Prop := Lib.TabIs Tryz.prog w "internal/strconv.uint64pow10" .u64 Lib.pow10Tab
theorem Tab.below {w w' : World} (h : Tab w) (hb : Below w.heap.size w w') : Tab w' := by
  unfold Tab Lib.TabIs World.var? at *
  cases hg : Tryz.prog.globalNamed "internal/strconv.uint64pow10" with
  | none => simp [hg] at h
  | some g =>
    simp only [hg, Option.bind_some] at h ⊢
    have hlt : g < w.heap.size := by
      rcases Nat.lt_or_ge g w.heap.size with h' | h'
      · exact h'
      · rw [Array.getElem?_eq_none h'] at h; simp at h
    rw [hb.block g hlt]
    exact h
theorem itoa_any (n : Int) (h0 : -9223372036854775808 ≤ n) (h1 : n ≤ 9223372036854775807) (w : World) (ht : Tab w) :
    Calls Tryz.prog 167 #[.int .i64 n] w (RetV w (.string ⟨(Lib.itoa n).toArray⟩)) := by
  have hh := Any.strconv_Itoa laysM171 n h0 h1 w ht
  change Calls Tryz.prog 167 _ _ _ at hh
  exact hh.mono fun e w' ⟨he, k, os, hw⟩ => by subst hw; exact ⟨he, Lib.below_grow _ _ (Nat.le_refl _) _ _⟩
end

section
open Go.RowKit Go.Proofs
attribute [local go_sem] Oper.semAt_some
set_option linter.unusedVariables false

theorem take_snocS (s : ByteArray) (k : Nat) (h : k < s.size) : s.data.toList.take (k + 1) = s.data.toList.take k ++ [s[k]] := by
  rw [List.take_succ_eq_append_getElem (by simpa using h)]; rfl
theorem wbyteI_any (B b : Nat) (l : List UInt8) (ci : Int) (c : UInt8) (w : World) (hci : ci = (c.toNat : Int)) (h : Bd w B b l) (hlen : l.length ≤ 1000000) (hB : B ≤ w.heap.size) :
    Calls Tryz.prog 211 #[.pointer (some ⟨b, 0, none⟩), .int .u8 ci] w fun e w' => e = .returned .nilIface ∧ Bd w' B b (l ++ [c]) ∧ Below B w w' := by
  subst hci; exact wbyte_any B b l c w h hlen hB
theorem hex_at (n : Nat) (h : n < 16) (hp : n < (ByteArray.mk #[48, 49, 50, 51, 52, 53, 54, 55, 56, 57, 97, 98, 99, 100, 101, 102]).size) : (ByteArray.mk #[48, 49, 50, 51, 52, 53, 54, 55, 56, 57, 97, 98, 99, 100, 101, 102])[n] = hexB n := by
  have h2 : ∀ i : Fin 16, (ByteArray.mk #[48, 49, 50, 51, 52, 53, 54, 55, 56, 57, 97, 98, 99, 100, 101, 102])[i.val]'(i.isLt) = hexB i.val := by decide
  exact h2 ⟨n, h⟩
set_option maxRecDepth 100000 in
set_option maxHeartbeats 4000000 in
theorem quoted_any (s : ByteArray) (w : World) (hs : s.size ≤ 10000) : Calls Tryz.prog 168 #[.string s] w (RetV w (.string ⟨(quoB s.data.toList).toArray⟩)) := by
  have k0 := Bd.new w
  have hB0 : Below w.heap.size w (w.alloc (.cells #[.pointer none, .slice none 0 0] 237)) := (Below.refl _ _).alloc (Nat.le_refl _) _
  go_enter Tryz.func168, Tryz.ntmps168
  go_upto_region 2 with fail
  obtain ⟨W, hW⟩ : ∃ W, w.alloc (.cells #[.pointer none, .slice none 0 0] 237) = W := ⟨_, rfl⟩
  obtain ⟨b, hb⟩ : ∃ b, w.heap.size = b := ⟨_, rfl⟩
  rw [hW] at k0 hB0 ⊢
  rw [hb] at k0 hB0 ⊢
  have hbw : b ≤ w.heap.size := by omega
  clear hW
  have HC := hide (wbyteI_any b b [] 34 34 W rfl k0 (by simp) (by have := hB0.size; omega))
  go_wp2_with fail
  refine HC.out.mono ?_
  rintro e W1 ⟨rfl, k1, hB1⟩
  have hB01 := hB0.trans hB1
  have k1 : Bd W1 b b (34 :: (s.data.toList.take 0).flatMap qB) := k1
  clear k0 hB0 hB1 HC
  go_wp2_with fail
  go_loopw [4, 5, 9] (fun _ _ i wr => ∃ k : Nat, k ≤ s.size ∧ i = .int .i64 k ∧ Bd wr b b (34 :: (s.data.toList.take k).flatMap qB) ∧ Below b w wr) (fun _ _ i _ => s.size - (intOf i).toNat)
  case atStart => exact ⟨0, Nat.zero_le _, rfl, k1, hB01⟩
  case round =>
    clear k1 hB01
    obtain ⟨k, hk, rfl, kb, hB⟩ := hrel
    have hsz := hB.size
    have hbr : b ≤ wr.heap.size := by omega
    by_cases hlt : k < s.size
    · have hsn : (s.data.toList.take (k + 1)).flatMap qB = (s.data.toList.take k).flatMap qB ++ qB s[k] := by rw [take_snocS s k hlt, List.flatMap_append]; simp
      have hll : ((s.data.toList.take k).flatMap qB).length ≤ 40000 := by
        have := flat_qB_len (s.data.toList.take k)
        have h2 : (s.data.toList.take k).length ≤ s.size := by rw [List.length_take]; simp; omega
        omega
      have HS := hide hsn
      have hc := (s[k]).toNat_lt
      obtain ⟨L, hL⟩ : ∃ L, (s.data.toList.take k).flatMap qB = L := ⟨_, rfl⟩
      rw [hL] at kb hll
      have HL := hide hL
      clear hsn hL
      have q1 : (0 : Int) ≤ (k : Int) := by omega
      have q2 : (k : Int) < (s.size : Int) := by omega
      by_cases h34 : (s[k]).toNat = 34 ∨ (s[k]).toNat = 92
      · have HQ := hide (show qB s[k] = [92, s[k]] by unfold qB; rw [if_pos h34])
        have HC := hide (wbyteI_any b b (34 :: L) 92 92 wr rfl kb (by simp; omega) hbr)
        rcases h34 with h | h
        · have z1 : (((s[k]).toNat : Int) == 34) = true := by simp [h]
          go_wp2_with fail
          refine HC.out.mono ?_
          rintro e W2 ⟨rfl, k2, hB2⟩
          have HC2 := hide (wbyteI_any b b (34 :: L ++ [92]) 34 s[k] W2 (by omega) k2 (by simp; omega) (by have := hB2.size; omega))
          have hBx := hB.trans hB2
          clear kb hB hB2 HC k2
          go_wp2_with fail
          refine HC2.out.mono ?_
          rintro e W3 ⟨rfl, k3, hB3⟩
          have HK := hide k3
          have HBX := hide (hBx.trans hB3)
          clear hBx hB3 HC2 k3
          go_wp2_with fail
          go_roundw
          case rel => exact ⟨k + 1, by omega, by go_num, by rw [HS.out, HL.out, HQ.out]; simpa using HK.out, HBX.out⟩
          case measure => simp [intOf]; omega
        · have z1 : (((s[k]).toNat : Int) == 34) = false := by simp [h]
          have z2 : (((s[k]).toNat : Int) == 92) = true := by simp [h]
          go_wp2_with fail
          refine HC.out.mono ?_
          rintro e W2 ⟨rfl, k2, hB2⟩
          have HC2 := hide (wbyteI_any b b (34 :: L ++ [92]) 92 s[k] W2 (by omega) k2 (by simp; omega) (by have := hB2.size; omega))
          have hBx := hB.trans hB2
          clear kb hB hB2 HC k2
          go_wp2_with fail
          refine HC2.out.mono ?_
          rintro e W3 ⟨rfl, k3, hB3⟩
          have HK := hide k3
          have HBX := hide (hBx.trans hB3)
          clear hBx hB3 HC2 k3
          go_wp2_with fail
          go_roundw
          case rel => exact ⟨k + 1, by omega, by go_num, by rw [HS.out, HL.out, HQ.out]; simpa using HK.out, HBX.out⟩
          case measure => simp [intOf]; omega
      · have z1 : (((s[k]).toNat : Int) == 34) = false := by simp; omega
        have z2 : (((s[k]).toNat : Int) == 92) = false := by simp; omega
        by_cases h10 : (s[k]).toNat = 10
        · have HQ := hide (show qB s[k] = [92, 110] by unfold qB; rw [if_neg h34, if_pos h10])
          have z3 : (((s[k]).toNat : Int) == 10) = true := by simp [h10]
          have HC := hide (wstr_any b b (34 :: L) ⟨#[92, 110]⟩ wr kb (by simp only [List.length_cons]; show _ + 2 ≤ _; omega) hbr)
          clear h34
          go_wp2_with fail
          refine HC.out.mono ?_
          rintro e W2 ⟨rfl, k2, hB2⟩
          have HK := hide k2
          have HBX := hide (hB.trans hB2)
          clear kb hB hB2 HC k2
          go_wp2_with fail
          go_roundw
          case rel => exact ⟨k + 1, by omega, by go_num, by rw [HS.out, HL.out, HQ.out]; simpa using HK.out, HBX.out⟩
          case measure => simp [intOf]; omega
        · have z3 : (((s[k]).toNat : Int) == 10) = false := by simp; omega
          by_cases hx : (s[k]).toNat < 32 ∨ 126 < (s[k]).toNat
          · have HQ := hide (show qB s[k] = [92, 120, hexB ((s[k]).toNat / 16), hexB ((s[k]).toNat % 16)] by unfold qB; rw [if_neg h34, if_neg h10, if_pos hx])
            have HC := hide (wstr_any b b (34 :: L) ⟨#[92, 120]⟩ wr kb (by simp only [List.length_cons]; show _ + 2 ≤ _; omega) hbr)
            clear h34 h10
            rcases hx with h | h
            · have z4 : decide (((s[k]).toNat : Int) < 32) = true := by simp; omega
              go_wp2_with fail
              refine HC.out.mono ?_
              rintro e W2 ⟨rfl, k2, hB2⟩
              have hBx := hB.trans hB2
              have hs2 := hB2.size
              clear kb hB hB2 HC
              go_wp2_with fail
              refine (wbyteI_any b b _ _ (hexB ((s[k]).toNat / 16)) W2 (by rw [hex_at _ (by omega)]) k2 (by simp; omega) (by omega)).mono ?_
              rintro e W3 ⟨rfl, k3, hB3⟩
              have hBy := hBx.trans hB3
              have hs3 := hB3.size
              clear hBx hB3 k2
              go_wp2_with fail
              refine (wbyteI_any b b _ _ (hexB ((s[k]).toNat % 16)) W3 (by rw [hex_at _ (by omega)]) k3 (by simp; omega) (by omega)).mono ?_
              rintro e W4 ⟨rfl, k4, hB4⟩
              have HK := hide k4
              have HBX := hide (hBy.trans hB4)
              clear hBy hB4 k3 k4
              go_wp2_with fail
              go_roundw
              case rel => exact ⟨k + 1, by omega, by go_num, by rw [HS.out, HL.out, HQ.out]; simpa using HK.out, HBX.out⟩
              case measure => simp [intOf]; omega
            · have z4 : decide (((s[k]).toNat : Int) < 32) = false := by simp; omega
              have z5 : decide ((126 : Int) < ((s[k]).toNat : Int)) = true := by simp; omega
              go_wp2_with fail
              refine HC.out.mono ?_
              rintro e W2 ⟨rfl, k2, hB2⟩
              have hBx := hB.trans hB2
              have hs2 := hB2.size
              clear kb hB hB2 HC
              go_wp2_with fail
              refine (wbyteI_any b b _ _ (hexB ((s[k]).toNat / 16)) W2 (by rw [hex_at _ (by omega)]) k2 (by simp; omega) (by omega)).mono ?_
              rintro e W3 ⟨rfl, k3, hB3⟩
              have hBy := hBx.trans hB3
              have hs3 := hB3.size
              clear hBx hB3 k2
              go_wp2_with fail
              refine (wbyteI_any b b _ _ (hexB ((s[k]).toNat % 16)) W3 (by rw [hex_at _ (by omega)]) k3 (by simp; omega) (by omega)).mono ?_
              rintro e W4 ⟨rfl, k4, hB4⟩
              have HK := hide k4
              have HBX := hide (hBy.trans hB4)
              clear hBy hB4 k3 k4
              go_wp2_with fail
              go_roundw
              case rel => exact ⟨k + 1, by omega, by go_num, by rw [HS.out, HL.out, HQ.out]; simpa using HK.out, HBX.out⟩
              case measure => simp [intOf]; omega
          · have HQ := hide (show qB s[k] = [s[k]] by unfold qB; rw [if_neg h34, if_neg h10, if_neg hx])
            have z4 : decide (((s[k]).toNat : Int) < 32) = false := by simp; omega
            have z5 : decide ((126 : Int) < ((s[k]).toNat : Int)) = false := by simp; omega
            have HC := hide (wbyteI_any b b (34 :: L) _ s[k] wr rfl kb (by simp; omega) hbr)
            clear h34 h10 hx
            go_wp2_with fail
            refine HC.out.mono ?_
            rintro e W2 ⟨rfl, k2, hB2⟩
            have HK := hide k2
            have HBX := hide (hB.trans hB2)
            clear kb hB hB2 HC k2
            go_wp2_with fail
            go_roundw
            case rel => exact ⟨k + 1, by omega, by go_num, by rw [HS.out, HL.out, HQ.out]; simpa using HK.out, HBX.out⟩
            case measure => simp [intOf]; omega
    · obtain rfl : k = s.size := by omega
      rw [List.take_of_length_le (by simp)] at kb
      have hll : (34 :: s.data.toList.flatMap qB).length ≤ 40001 := by
        have := flat_qB_len s.data.toList
        have h2 : s.data.toList.length = s.size := rfl
        simp only [List.length_cons]
        omega
      have HC := hide (wbyteI_any b b (34 :: s.data.toList.flatMap qB) 34 34 wr rfl kb (by omega) hbr)
      clear hll
      go_wp2_with fail
      refine HC.out.mono ?_
      rintro e W2 ⟨rfl, k2, hB2⟩
      have hBx := hB.trans hB2
      have HC2 := hide (str_any b b _ W2 k2 (by have := hB2.size; omega))
      clear kb hB hB2 HC
      go_wp2_with fail
      refine HC2.out.mono ?_
      rintro e W3 ⟨rfl, _, hB3⟩
      have HB := hide (hBx.trans hB3)
      clear hBx hB3 HC2 k2
      go_wp2_with fail
      go_ret
      exact ⟨rfl, by rw [hb]; exact HB.out⟩
end

section
open Go.RowKit
attribute [local go_sem] Oper.semAt_some

/-- A drawn region met in a world of a class that was laid before. -/
theorem wp_region_quiet_bwp {P : Program} {id : Nat} {Q : Exit → Act → World → Prop} {a : Act} {W0 : World} {p : BW W0} {l : List Oper} (hm : P.follows .mixedOrders = true) (hB : Region.lexB .any l.toArray = true)
    (h : wpQuiet P l.toArray (fun w' => ∃ p : BW W0, w' = p.x) (fun a' => ∀ w', (∃ p : BW W0, w' = p.x) → Q .normal a' w') l a) : (Code.region id l.toArray true).wp P Q a p.x :=
  wp_region_quiet (C := fun w' => ∃ p : BW W0, w' = p.x) hm hB ⟨⟨p.x.drew, p.h.drew⟩, rfl⟩ (by simpa using h)

theorem R2within_any (n lo hi : Int) (w : World) : Calls Tryz.prog 186 #[.int .i64 n, .int .i64 lo, .int .i64 hi] w fun e w' => e = .returned (.bool (btw n lo hi)) ∧ w = w' := by
  by_cases h1 : n < lo
  · rw [btw_lo h1]
    go_enter Tryz.func186, Tryz.ntmps186
    go_wp2
    go_ret
    exact ⟨rfl, rfl⟩
  · rw [show btw n lo hi = decide (n ≤ hi) from by simp [btw, show lo ≤ n by omega]]
    go_enter Tryz.func186, Tryz.ntmps186
    go_wp2
    go_ret
    exact ⟨rfl, rfl⟩
theorem R3within_any (n lo hi : Int) (w : World) : Calls Tryz.prog 146 #[.int .i64 n, .int .i64 lo, .int .i64 hi] w fun e w' => e = .returned (.bool (btw n lo hi)) ∧ w = w' := by
  by_cases h1 : n < lo
  · rw [btw_lo h1]
    go_enter Tryz.func146, Tryz.ntmps146
    go_wp2
    go_ret
    exact ⟨rfl, rfl⟩
  · rw [show btw n lo hi = decide (n ≤ hi) from by simp [btw, show lo ≤ n by omega]]
    go_enter Tryz.func146, Tryz.ntmps146
    go_wp2
    go_ret
    exact ⟨rfl, rfl⟩
set_option maxRecDepth 100000 in
set_option maxHeartbeats 2000000 in
theorem RValidValue_any (v : Val) (w : World) : Calls Tryz.prog 136 #[.agg #[.int .i64 v.k, .int .i64 v.n, .string v.s]] w (RetV w (.bool (okV v))) := by
  have hB := below_val (w := w) #[.int .i64 v.k, .int .i64 v.n, .string v.s] 102
  obtain ⟨k, n, s⟩ := v
  simp only at hB ⊢
  have hd : okV ⟨k, n, s⟩ = ((k == 0 && n == 0 && s.size == 0) || (k == 1 && s.size == 0 && decide (-1000000000000000 ≤ n) && decide (n ≤ 1000000000000000)) || (k == 2 && n == 0 && decide (s.size ≤ 200))) := rfl
  have he := empty_size s
  by_cases h0 : k = 0
  · subst h0
    by_cases hn : n = 0
    · subst hn
      have HD := hide (show okV ⟨0, 0, s⟩ = s.toList.isEmpty from by rw [hd, he]; simp)
      rw [HD.out]
      clear hd he
      go_enter Tryz.func136, Tryz.ntmps136
      go_wp2
      go_ret
      exact ⟨rfl, hB⟩
    · have n0 : (n == 0) = false := by simpa using hn
      have HD := hide (show okV ⟨0, n, s⟩ = false from by rw [hd]; simp [hn])
      rw [HD.out]
      clear hd he
      go_enter Tryz.func136, Tryz.ntmps136
      go_wp2
      go_ret
      exact ⟨rfl, hB⟩
  · have n0 : (k == 0) = false := by simpa using h0
    by_cases h1 : k = 1
    · subst h1
      obtain ⟨bs, hbs⟩ : ∃ bs, s.toList.isEmpty = bs := ⟨_, rfl⟩
      have HD := hide (show okV ⟨1, n, s⟩ = (bs && btw n (-1000000000000000) 1000000000000000) from by
        rw [hd, ← hbs, he]
        unfold btw
        cases s.size == 0 <;> cases decide (-1000000000000000 ≤ n) <;> cases decide (n ≤ 1000000000000000) <;> rfl)
      rw [HD.out]
      clear hd n0 h0 he
      cases bs
      · go_enter Tryz.func136, Tryz.ntmps136
        go_wp2
        go_ret
        exact ⟨rfl, hB⟩
      · go_enter Tryz.func136, Tryz.ntmps136
        go_wp2_with (go_at_call 186; refine (R2within_any _ _ _ _).mono ?_; rintro e w' ⟨rfl, rfl⟩)
        go_ret
        exact ⟨rfl, hB⟩
    · have n1 : (k == 1) = false := by simpa using h1
      clear he
      by_cases h2 : k = 2
      · subst h2
        by_cases hn : n = 0
        · subst hn
          have HD := hide (show okV ⟨2, 0, s⟩ = decide ((s.size : Int) ≤ 200) from by
            rw [hd, Bool.eq_iff_iff, decide_eq_true_eq]
            simp
            omega)
          rw [HD.out]
          clear hd n0 h0 n1 h1
          go_enter Tryz.func136, Tryz.ntmps136
          go_wp2
          go_ret
          exact ⟨rfl, hB⟩
        · have n2 : (n == 0) = false := by simpa using hn
          have HD := hide (show okV ⟨2, n, s⟩ = false from by rw [hd]; simp [hn])
          rw [HD.out]
          clear hd n0 h0 n1 h1
          go_enter Tryz.func136, Tryz.ntmps136
          go_wp2
          go_ret
          exact ⟨rfl, hB⟩
      · have n2 : (k == 2) = false := by simpa using h2
        have HD := hide (show okV ⟨k, n, s⟩ = false from by rw [hd]; simp [h0, h1, h2])
        rw [HD.out]
        clear hd
        go_enter Tryz.func136, Tryz.ntmps136
        go_wp2
        go_ret
        exact ⟨rfl, hB⟩
theorem class_any (v : Val) (w : World) : Calls Tryz.prog 183 #[.agg #[.int .i64 v.k, .int .i64 v.n, .string v.s]] w (RetV w (.int .i64 (cls v))) := by
  have hB := below_val (w := w) #[.int .i64 v.k, .int .i64 v.n, .string v.s] 102
  have hc : cls v = if v.k = 1 ∨ v.k = 2 then v.k else 0 := rfl
  by_cases h1 : v.k = 1
  · have HC := hide (show cls v = 1 from by rw [hc, if_pos (.inl h1), h1])
    rw [HC.out]
    clear hc
    obtain ⟨k, n, s⟩ := v
    simp only at h1 hB ⊢
    subst h1
    go_enter Tryz.func183, Tryz.ntmps183
    go_wp2
    go_ret
    exact ⟨rfl, hB⟩
  · have n1 : (v.k == 1) = false := by simpa using h1
    by_cases h2 : v.k = 2
    · have HC := hide (show cls v = 2 from by rw [hc, if_pos (.inr h2), h2])
      rw [HC.out]
      clear hc h1 n1
      obtain ⟨k, n, s⟩ := v
      simp only at h2 hB ⊢
      subst h2
      go_enter Tryz.func183, Tryz.ntmps183
      go_wp2
      go_ret
      exact ⟨rfl, hB⟩
    · have n2 : (v.k == 2) = false := by simpa using h2
      have HC := hide (show cls v = 0 from by rw [hc, if_neg (by omega)])
      rw [HC.out]
      clear hc h1 h2
      go_enter Tryz.func183, Tryz.ntmps183
      go_wp2
      go_ret
      exact ⟨rfl, hB⟩
end

end Go.Proofs.YtoapjidpfghnlaaGreatDoor
