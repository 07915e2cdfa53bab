/-
  The walk of bag.Changes, for every two bags and every time. (Printed by gen_chg.)
  The walks of the reference's Made and Changes. (Printed by gen_made.)
  The walk of the reference's Netted.
  bag.gathered over the rows of changes, and over the rows of a bag.
  The walk of bag.Netted.
  Lists of rows in memory.
  The walk of bag.Upserts, for every bag, changes and key.
  The arguments of type Bag and []Change opened, with the room of every row.
-/
import Derived.Test.YtoapjidpfghnlaaGreatDoorBgL
import Derived.Test.YtoapjidpfghnlaaGreatDoorNetM
import Derived.Test.YtoapjidpfghnlaaGreatDoorApl
import Derived.Test.YtoapjidpfghnlaaGreatDoorUpA
import Derived.Laws.EntriesVeiled
import Derived.Test.YtoapjidpfghnlaaGreatDoorOpenEv
namespace Go.Proofs.YtoapjidpfghnlaaGreatDoor

section
section
open Go.RowKit
attribute [local go_sem] Oper.semAt_some wide_fn wide_depth
set_option linter.unusedVariables false
set_option linter.unusedSimpArgs false

/-- Changes, all at one time, and an error, handed back. -/
def RetChE (w : World) (T : Int) (p : Bg × Int) (e : Ending) (w' : World) : Prop :=
  ∃ A n c l, e = .returned (.tuple #[.slice A n c, .int .i64 p.2]) ∧ (l.map (fun i => (i.r, i.m)) = p.1 ∧ ∀ i ∈ l, i.t = T) ∧ ChgR w' w'.heap.size A n l ∧ Below w.heap.size w w'
theorem ChgR.nil (w : World) (B : Nat) : ChgR w B none 0 [] := ⟨⟨rfl, fun h => absurd h (by decide)⟩, nofun, by omega⟩
end

section
open Go.RowKit
attribute [local go_sem] Oper.semAt_some
set_option linter.unusedVariables false
set_option linter.unusedSimpArgs false

/-- What is written so far. -/
structure MadI (w : World) (T : Int) (d : Bg) (v : Value) (W : World) : Prop where
  bel : Below w.heap.size w W
  ow : ∃ l : List Ch, W.ownsRow w.heap.size 57 3 v l.length (l.flatMap encCh) ∧ chD l = d ∧ (∀ i ∈ l, i.t = T) ∧ RowsC W w.heap.size l
theorem MadI.below {w W W' : World} {T : Int} {d : Bg} {v : Value} (h : MadI w T d v W) (hb : Below W.heap.size W W') : MadI w T d v W' := by
  obtain ⟨h1, l, h2, h3, h4, h5⟩ := h
  exact ⟨bstep h1 hb, l, own_below h2 hb, h3, h4, fun i hi => (h5 i hi).below hb⟩
/-- Changes, handed back. -/
def RetM (w : World) (T : Int) (d : Bg) (e : Ending) (w' : World) : Prop := ∃ A n c l, e = .returned (.slice A n c) ∧ (chD l = d ∧ ∀ i ∈ l, i.t = T) ∧ ChgR w' w'.heap.size A n l ∧ Below w.heap.size w w'
/-- .. in a row of the call's own. -/
def RetMO (w : World) (T : Int) (d : Bg) (e : Ending) (w' : World) : Prop := ∃ A n c l, e = .returned (.slice A n c) ∧ (chD l = d ∧ ∀ i ∈ l, i.t = T) ∧ w'.ownsRow w.heap.size 57 3 (.slice A n c) n (l.flatMap encCh) ∧ RowsC w' w.heap.size l ∧ n ≤ 100000 ∧ Below w.heap.size w w'
end
end

section
section
open Go.RowKit
attribute [local go_sem] Oper.semAt_some
set_option linter.unusedVariables false
set_option linter.unusedSimpArgs false

/-- Changes with their times, and an error, handed back. -/
def RetN (w : World) (p : List (Rw × Int × Int) × Int) (e : Ending) (w' : World) : Prop :=
  ∃ A n c l, e = .returned (.tuple #[.slice A n c, .int .i64 p.2]) ∧ datC l = p.1 ∧ ChgR w' w'.heap.size A n l ∧ Below w.heap.size w w'
theorem set_same {α : Type} {l : List α} {i : Nat} {x : α} (h : l[i]? = some x) : l.set i x = l := by
  apply List.ext_getElem?
  intro k
  rw [List.getElem?_set]
  split
  · rename_i e
    subst e
    rw [if_pos (List.getElem?_eq_some_iff.1 h).1, h]
  · rfl
/-- What is set of the times while element i is under way. -/
structure NtI (l : List Ch) (d : Bg) (i : Nat) (s : Int) (lq : List Ch) : Prop where
  dat : chD lq = d
  t : ∀ q c, lq[q]? = some c → c.t = if q < i then tim l c.r else if q = i then s else 0
theorem NtI.start {l lq : List Ch} {d : Bg} (h : chD lq = d) (ht : ∀ i ∈ lq, i.t = 0) : NtI l d 0 0 lq := ⟨h, fun q c hc => by
  rw [ht c (List.mem_of_getElem? hc), if_neg (by omega)]
  split <;> rfl⟩
theorem NtI.put {l lq : List Ch} {d : Bg} {i : Nat} {s : Int} (h : NtI l d i s lq) {x : Ch} (hx : lq[i]? = some x) (s' : Int) : NtI l d i s' (lq.set i ⟨s', x.A, x.n, x.c, x.r, x.m⟩) := by
  refine ⟨?_, fun q c hc => ?_⟩
  · rw [← h.dat]
    unfold chD
    rw [List.map_set]
    exact set_same (by rw [List.getElem?_map, hx]; rfl)
  · rw [List.getElem?_set] at hc
    split at hc
    · rename_i e
      subst e
      rw [if_pos (List.getElem?_eq_some_iff.1 hx).1] at hc
      injection hc with hc
      subst hc
      rw [if_neg (by omega), if_pos rfl]
    · rename_i e
      rw [h.t q c hc]
      split
      · rfl
      · rw [if_neg (fun e2 => e e2.symm), if_neg (fun e2 => e e2.symm)]
theorem NtI.done {l lq : List Ch} {d : Bg} {i : Nat} {s : Int} (h : NtI l d i s lq) (hi : lq.length ≤ i) : datC lq = d.map fun x => (x.1, tim l x.1, x.2) := by
  rw [← h.dat]
  unfold datC chD
  rw [List.map_map]
  refine List.map_congr_left fun c hc => ?_
  obtain ⟨q, hq⟩ := List.getElem?_of_mem hc
  have h1 := (List.getElem?_eq_some_iff.1 hq).1
  have h2 := h.t q c hq
  rw [if_pos (by omega)] at h2
  simp [h2]
end

section
open Go.RowKit
attribute [local go_sem] Oper.semAt_some
set_option linter.unusedVariables false

end

section
open Go.RowKit Go.Maps
attribute [local go_sem] Oper.semAt_some
set_option linter.unusedVariables false
set_option linter.unusedSimpArgs false

/-- What the map of last times holds. -/
def lF (L : List Ch) : Lit → Option Value
  | .string t => (lst L t).map (.int .i64)
  | _ => none
/-- What is put together so far. -/
structure NetI (w : World) (d : List (Rw × Int × Int)) (v : Value) (W : World) : Prop where
  bel : Below w.heap.size w W
  ow : ∃ l : List Ch, W.ownsRow w.heap.size 57 3 v l.length (l.flatMap encCh) ∧ datC l = d ∧ RowsC W w.heap.size l
theorem NetI.below {w W W' : World} {d : List (Rw × Int × Int)} {v : Value} (h : NetI w d v W) (hb : Below W.heap.size W W') : NetI w d v W' := by
  obtain ⟨h1, l, h2, h3, h5⟩ := h
  exact ⟨bstep h1 hb, l, own_below h2 hb, h3, fun i hi => (h5 i hi).below hb⟩
end
end

section
open Go.RowKit

structure Rk where
  A : Option Addr
  n : Nat
  c : Nat
  r : Rw
def encRk (i : Rk) : List Value := [.slice i.A i.n i.c]
theorem encRk_len (i : Rk) : (encRk i).length = 1 := rfl
theorem infoRk : (Tryz.prog.info? 34).map (fun i => (i.zero, i.size, i.bytes)) = some (some (.slice none 0 0), 1, 24) := by kernel_rfl
/-- The rows of a list. -/
def rwD (l : List Rk) : List Rw := l.map (·.r)
theorem rwD_snoc (l : List Rk) (i : Rk) : rwD (l ++ [i]) = rwD l ++ [i.r] := by simp [rwD]
theorem rwD_len (l : List Rk) : (rwD l).length = l.length := by simp [rwD]
theorem rwD_at {l : List Rk} {k : Nat} {i : Rk} (h : l[k]? = some i) : (rwD l)[k]? = some i.r := by unfold rwD; rw [List.getElem?_map, h]; rfl
def RowsK (w : World) (B : Nat) (l : List Rk) : Prop := ∀ i ∈ l, RowK w B i.A i.n i.r
structure RowL (w : World) (B : Nat) (A : Option Addr) (n : Nat) (l : List Rk) : Prop where
  rd : Reads w w.heap.size 1 A n (l.flatMap encRk)
  rows : RowsK w B l
  le : n ≤ 9223372036854775807
section
variable {w w' : World} {B B' : Nat} {A : Option Addr} {n : Nat} {l : List Rk}
theorem RowL.len (h : RowL w B A n l) : l.length = n := h.rd.len encRk_len (by omega)
theorem RowL.below (h : RowL w B A n l) (hb : Below w.heap.size w w') : RowL w' B A n l := ⟨h.rd.up hb, fun i hi => (h.rows i hi).below hb, h.le⟩
theorem RowL.mono (h : RowL w B A n l) (hB : B ≤ B') : RowL w B' A n l := ⟨h.rd, fun i hi => (h.rows i hi).mono hB, h.le⟩
theorem RowL.step {w w' : World} {A : Option Addr} {n : Nat} {l : List Rk} (h : RowL w w.heap.size A n l) (hb : Below w.heap.size w w') : RowL w' w'.heap.size A n l := (h.below hb).mono hb.size
theorem RowL.nil (w : World) (B : Nat) : RowL w B none 0 [] := ⟨Reads.none_, nofun, by omega⟩
theorem RowL.at_ (h : RowL w B A n l) {k : Nat} (hk : k < n) : ∃ b off i, A = some ⟨b, off, none⟩ ∧ b < w.heap.size ∧ l[k]? = some i ∧ w.cell? ⟨b, off + k, none⟩ = some (.slice i.A i.n i.c) ∧ RowK w B i.A i.n i.r := by
  obtain ⟨b, off, i, e, hb, hi, hc⟩ := h.rd.elem encRk_len h.len hk
  exact ⟨b, off, i, e, hb, hi, by simpa using hc 0 _ rfl, h.rows i (List.mem_of_getElem? hi)⟩
end
/-- Rows put together so far. -/
structure RwlI (w : World) (d : List Rw) (v : Value) (W : World) : Prop where
  bel : Below w.heap.size w W
  ow : ∃ l : List Rk, W.ownsRow w.heap.size 34 1 v l.length (l.flatMap encRk) ∧ rwD l = d ∧ RowsK W w.heap.size l
theorem RwlI.nil (w : World) : RwlI w [] (.slice none 0 0) w := ⟨Below.refl _ _, [], World.ownsRow_nil _ _ _ _, rfl, nofun⟩
theorem RwlI.below {w W W' : World} {d : List Rw} {v : Value} (h : RwlI w d v W) (hb : Below W.heap.size W W') : RwlI w d v W' := by
  obtain ⟨h1, l, h2, h3, h5⟩ := h
  exact ⟨bstep h1 hb, l, own_below h2 hb, h3, fun i hi => (h5 i hi).below hb⟩
theorem rwli_app {w X2 X3 : World} {d : List Rw} {v v' : Value} {l : List Rk} {Ac : Option Addr} {n cc : Nat} {r : Rw} (hB : Below w.heap.size w X2) (h1 : X2.ownsRow w.heap.size 34 1 v l.length (l.flatMap encRk)) (h2 : rwD l = d) (h3 : RowsK X2 w.heap.size l)
    (hrow : RowK X2 w.heap.size Ac n r) (hown : X3.ownsRow w.heap.size 34 1 v' (l.length + 1) (l.flatMap encRk ++ [.slice Ac n cc])) (hgrow : (X2.alloc (.cells #[.slice Ac n cc] 34)).grownBy X3 v.ownBlock) : RwlI w (d ++ [r]) v' X3 := by
  have hs := hB.size
  refine ⟨below_append (hB.alloc hs _) (h1.alloc _) (by simp; omega) hgrow, l ++ [⟨Ac, n, cc, r⟩], ?_, by rw [rwD_snoc, h2], fun i hi => ?_⟩
  · rw [List.length_append, List.flatMap_append]
    simpa [encRk] using hown
  · have key : RowK X2 w.heap.size i.A i.n i.r := by
      rcases List.mem_append.1 hi with h | h
      · exact h3 i h
      · obtain rfl : i = ⟨Ac, n, cc, r⟩ := by simpa using h
        exact hrow
    exact (key.alloc _).grown (h1.alloc _) (by decide) (Nat.le_refl _) hgrow
theorem rwli_end {w W : World} {d : List Rw} {v : Value} (h : RwlI w d v W) (hd : d.length ≤ 100000) : ∃ A n c l, v = .slice A n c ∧ rwD l = d ∧ RowL W W.heap.size A n l ∧ Below w.heap.size w W := by
  obtain ⟨h1, l, h2, h3, h5⟩ := h
  have hl : l.length = d.length := by rw [← h3, rwD_len]
  obtain ⟨A, c, rfl, _⟩ := own_form h2
  exact ⟨A, _, c, l, rfl, h3, ⟨Reads.of_own h2, fun i hi => (h5 i hi).mono h1.size, by omega⟩, h1⟩
/-- One element, as an append reads it. -/
theorem one_reads (w : World) (t : TypeId) (cs : List Value) (k : Nat) (hk : cs.length = k) : Reads (w.alloc (.cells cs.toArray t)) (w.heap.size + 1) k (some ⟨w.heap.size, 0, none⟩) 1 cs :=
  ⟨by omega, fun _ => ⟨w.heap.size, 0, rfl, by omega, fun j u hu => by
    have := (Blk.new w t cs.toArray).cell j
    rw [Nat.zero_add, this]; simpa using hu⟩⟩
end

section
open Go.RowKit
attribute [local go_sem] Oper.semAt_some
set_option linter.unusedVariables false
set_option linter.unusedSimpArgs false

/-- A bag, an error, and that every row has room. -/
def RetCc (w : World) (p : Bg × Int) (e : Ending) (w' : World) : Prop :=
  ∃ A n c l, e = .returned (.tuple #[.slice A n c, .int .i64 p.2]) ∧ dat l = p.1 ∧ BagR w' w'.heap.size A n l ∧ n ≤ c ∧ Caps l ∧ Below w.heap.size w w'
def CapsC (l : List Ch) : Prop := ∀ i ∈ l, i.n ≤ i.c
/-- What lies in memory between two changes. -/
structure UpI (w W4 : World) (key : List Int) (d : Bg) (v : Value) (lo : List It) (W : World) : Prop where
  bel : Below W4.heap.size W4 W
  own : W.ownsRow W4.heap.size 119 2 v lo.length (lo.flatMap encIt)
  dat : dat lo = d
  rows : Rows_ w w.heap.size lo
  caps : Caps lo
  ok : ∀ i ∈ lo, okR i.r = true ∧ hasB i.r key = true
theorem UpI.below {w W4 W W' : World} {key : List Int} {d : Bg} {v : Value} {lo : List It} (h : UpI w W4 key d v lo W) (hb : Below W.heap.size W W') : UpI w W4 key d v lo W' :=
  ⟨bstep h.bel hb, own_below h.own hb, h.dat, h.rows, h.caps, h.ok⟩
end

section
open Go.RowKit Go.Deep Go.WideShapes Go.ChangeShapes
section
variable {H : Type} {enc : TypeId × Value → H} {w : World} {base : Nat} {held : Bool}
set_option maxRecDepth 100000 in
theorem dec_itemC (n : Nat) (cs : List Value) (y : DataW H × List MemPlace) (h : DataW.trod enc Tryz.prog w base (fun _ => true) held n 119 cs = some y) : ∃ z : It, cs = encIt z ∧ RowK w w.heap.size z.A z.n z.r ∧ z.n ≤ z.c := by
  obtain ⟨y0, y1, k, _, hl, h0, h1⟩ := Go.ChangeShapes.trod_struct2 Tryz.underlying119 h
  rw [show Tryz.prog.cellsOf 119 = 2 by kernel_rfl] at hl
  match cs, hl with
  | [v0, v1], _ =>
    change DataW.trod enc Tryz.prog w base (fun _ => true) held k 34 (([v0, v1].drop 0).take (Tryz.prog.cellsOf 34)) = some y0 at h0
    change DataW.trod enc Tryz.prog w base (fun _ => true) held k 3 (([v0, v1].drop 1).take (Tryz.prog.cellsOf 3)) = some y1 at h1
    rw [show Tryz.prog.cellsOf 34 = 1 by kernel_rfl] at h0
    rw [show Tryz.prog.cellsOf 3 = 1 by kernel_rfl] at h1
    have g0 : DataW.trod enc Tryz.prog w base (fun _ => true) held k 34 [v0] = some y0 := h0
    have g1 : DataW.trod enc Tryz.prog w base (fun _ => true) held k 3 [v1] = some y1 := h1
    obtain ⟨A, m, c, r, rfl, hr, hm, hmc, _⟩ := open_recsP (α := Val) (encα := encV) (k := 3) (fun _ => True) encV_len (by omega) Tryz.underlying34 (by kernel_rfl) (fun n cs' y hy => dec_val n cs' y hy) g0
    obtain ⟨b, eb, _⟩ := DataW.trod_int Tryz.underlying3 g1
    simp at eb
    subst eb
    exact ⟨⟨A, m, c, r, b⟩, rfl, RowK.of_reads hr (Nat.le_refl _) hm, hmc⟩
set_option maxRecDepth 100000 in
theorem open_bagC {r : Reach} {b0 : Nat} {v : Value} {d : DataW H} {ps : List MemPlace} (hval : Value.okWide Tryz.prog w r b0 40 v) (hd : DataW.Trod enc Tryz.prog w base (fun _ => true) held 40 v d ps) :
    ∃ A n c, ∃ l : List It, v = .slice A n c ∧ BagR w w.heap.size A n l ∧ n ≤ c ∧ Caps l := by
  obtain ⟨a0, l0, c0, rfl⟩ := okWide_slice Tryz.underlying40 hval
  obtain ⟨fuel, hf⟩ := hd
  obtain ⟨A, n, c, l, h1, hr, hn, hc, hp⟩ := open_recsP (α := It) (encα := encIt) (k := 2) (fun z => RowK w w.heap.size z.A z.n z.r ∧ z.n ≤ z.c) encIt_len (by omega) Tryz.underlying40 (by kernel_rfl) (fun n cs' y hy => dec_itemC n cs' y hy) (by simpa only [Value.cells] using hf)
  exact ⟨A, n, c, l, h1, ⟨hr, fun i hi => (hp i hi).1, hn⟩, hc, fun i hi => (hp i hi).2⟩
end
end

end Go.Proofs.YtoapjidpfghnlaaGreatDoor
