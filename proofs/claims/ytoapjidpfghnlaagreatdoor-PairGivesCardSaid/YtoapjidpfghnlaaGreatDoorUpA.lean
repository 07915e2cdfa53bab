/-
  Plain laws of Of, Project and Rows.
  Plain laws of Upserts.
  The closures of bag.Upserts; slices.ContainsFunc over ints, whatever predicate.
-/
import Derived.Test.YtoapjidpfghnlaaGreatDoorNetM
import Derived.Test.YtoapjidpfghnlaaGreatDoorBgT5
import Derived.Test.YtoapjidpfghnlaaGreatDoorPjA
import Derived.Test.YtoapjidpfghnlaaGreatDoorGat
namespace Go.Proofs.YtoapjidpfghnlaaGreatDoor

section
open Go.RowKit
set_option linter.unusedVariables false

/-- Rows, each once. -/
def onesX (rs : List Rw) : Bg := rs.map fun r => (r, 1)
/-- What Of tells. -/
def ofB (rs : List Rw) : Bg × Int := if decide (rs.length ≤ 400) && rs.all okR then (aftB [] (onesX rs), 0) else ([], 1)
/-- Each row as often as it is there. -/
def repX (d : Bg) : List Rw := d.flatMap fun x => List.replicate x.2.toNat x.1
/-- What Rows tells. -/
def rowsB (d : Bg) : List Rw × Int := if okBag d then (if wholeB d then (if tot d ≤ 400 then (repX d, 0) else ([], 4)) else ([], 10)) else ([], 1)
/-! Project. -/
def worstS (cols : List Int) (w : Int) (x : Rw × Int) : Int := if prE x.1 cols = 7 ∨ (prE x.1 cols ≠ 0 ∧ w = 0) then prE x.1 cols else w
/-- The worst error so far. -/
def worstF (cols : List Int) (d : Bg) : Int := d.foldl (worstS cols) 0
def pjX (d : Bg) (cols : List Int) : Bg := d.map fun x => (pick x.1 cols, x.2)
/-- What Project tells. -/
def pjB (d : Bg) (cols : List Int) : Bg × Int :=
  if okBag d then (if (cols.any (fun c => !btw c 0 7) || d.any fun x => !okC x.1.length cols) = true then ([], 7) else if cols.length ≤ 8 then toldB (aftB [] (pjX d cols)) else ([], 4)) else ([], 1)
/-- What is gathered while rows are projected. -/
def pjG (cols : List Int) (x : Rw × Int) : Rw × Int := (prL x.1 cols, x.2)
end

section
open Go.RowKit
set_option linter.unusedVariables false

/-- The text of a row's key. -/
def keyT (key : List Int) (r : Rw) : List UInt8 := key.flatMap fun c => match r[c.toNat]? with
  | some v => rowT [v] ++ [44]
  | none => []
/-- A row has all columns of a key (whose numbers are no less than 0). -/
def hasB (r : Rw) (key : List Int) : Bool := key.all fun c => decide (c < (r.length : Int))
def okK (key : List Int) : Bool := !key.isEmpty && key.all fun c => btw c 0 7
/-- One upsert: what the program does to its list. -/
def upS (key : List Int) (P : Bg) (c : Ch) : Bg := (P.filter fun x => !(keyT key x.1 == keyT key c.r)) ++ if 0 < c.m then [(c.r, 1)] else []
/-- .. what the reference does to its bag. -/
def upR (key : List Int) (R : Bg) (c : Ch) : Bg := if 0 < c.m then putB (R.filter fun x => decide (cmpR (pick x.1 key) (pick c.r key) ≠ 0)) c.r 1 else R.filter fun x => decide (cmpR (pick x.1 key) (pick c.r key) ≠ 0)
structure UpN (key : List Int) (P R : Bg) : Prop where
  net : Net P R
  ok : ∀ x ∈ P, okR x.1 = true ∧ hasB x.1 key = true
/-- All changes, one behind the other. -/
def upP (key : List Int) (d : Bg) (l : List Ch) : Bg := l.foldl (upS key) d
def upQ (key : List Int) (d : Bg) (l : List Ch) : Bg := l.foldl (upR key) d
/-- Everything may be told. -/
def upOK (key : List Int) (d : Bg) (l : List Ch) : Bool := okK key && (d.all fun x => hasB x.1 key) && l.all fun c => hasB c.r key
/-- What a row's number is behind all changes, where one told of its key. -/
def upG (key : List Int) (l : List Ch) (r : Rw) : Option Int := l.foldl (fun o c => if cmpR (pick r key) (pick c.r key) = 0 then some (if 0 < c.m ∧ c.r = r then 1 else 0) else o) none
/-- What Upserts tells. -/
def upsB (d : Bg) (l : List Ch) (key : List Int) : Bg × Int := if okBag d && okChs l then (if upOK key d l then toldB (upQ key d l) else ([], 7)) else ([], 1)
end

section
open Go.RowKit
attribute [local go_sem] Oper.semAt_some
set_option linter.unusedVariables false
set_option linter.unusedSimpArgs false

set_option maxRecDepth 100000 in
set_option maxHeartbeats 2000000 in
theorem idx_ints (A' : Option Addr) (n' c' B : Nat) (xs : List Int) (w : World) (hx : Reads w B 1 A' n' (xs.map (Value.int .i64))) (hn : n' ≤ 9223372036854775807) (hB : B ≤ w.heap.size) (pf : Nat) (caps : Array Value) (p : Int → Bool)
    (eg : ∀ args w, (callFunc pf args).run Tryz.prog w = .ok (.enter pf args) w)
    (hp : ∀ x ∈ xs, ∀ W, Below w.heap.size w W → Calls Tryz.prog pf (#[.int .i64 x] ++ caps) W (RetV W (.bool (p x)))) :
    Calls Tryz.prog 166 #[.slice A' n' c', .func (Fn.func pf) #[] caps] w fun e w' => (∃ i : Int, e = .returned (.int .i64 i) ∧ decide (0 ≤ i) = xs.any p) ∧ Below w.heap.size w w' := by
  have HL := hide hx.len1
  have HP := hide hp
  clear hp
  go_enter Tryz.func166, Tryz.ntmps166
  go_wp2_with fail
  go_loopw [8] (fun i wr => ∃ k : Nat, k ≤ n' ∧ i = .int .i64 k ∧ (xs.take k).any p = false ∧ Below w.heap.size w wr) (fun i _ => n' - (intOf i).toNat)
  case atStart => exact ⟨0, Nat.zero_le _, rfl, rfl, Below.refl _ _⟩
  case round =>
    obtain ⟨k, hk, rfl, hany, hBw⟩ := hrel
    have HA := hide hany
    clear hany
    by_cases hlt : k < n'
    · obtain ⟨b, off, x, rfl, hb, hxk, c0⟩ := (hx.below (hBw.mono hB)).at1 hlt
      have HE := hide hxk
      have HC := hide (HP.out x (List.mem_of_getElem? hxk) wr hBw)
      clear hxk
      have q1 : (0 : Int) ≤ (k : Int) := by omega
      have q2 : (k : Int) < (n' : Int) := by omega
      obtain ⟨b, hb⟩ : ∃ b, p x = b := ⟨_, rfl⟩
      rw [hb] at HC
      have HPX := hide hb
      clear hb
      go_wp2_with fail
      refine HC.out.mono ?_
      rintro ee w1 ⟨rfl, hB1⟩
      have hB2 := bstep hBw hB1
      clear HC hB1 hBw c0
      cases b
      · have HX := hide (show (xs.take (k + 1)).any p = false by rw [take_snoc' HE.out, List.any_append, HA.out]; simp [HPX.out])
        go_wp2
        go_roundw
        case rel => exact ⟨k + 1, by omega, by go_num, HX.out, hB2⟩
        case measure => simp [intOf]; omega
      · have HX := hide (show xs.any p = true from List.any_eq_true.2 ⟨x, List.mem_of_getElem? HE.out, HPX.out⟩)
        go_wp2
        go_ret
        exact ⟨⟨_, rfl, by rw [HX.out]; simp⟩, hB2⟩
    · obtain rfl : k = n' := by omega
      go_wp2
      go_ret
      exact ⟨⟨_, rfl, by
        have := HA.out
        rw [take_all HL.out] at this
        rw [this]; rfl⟩, hBw⟩
theorem con_ints (A' : Option Addr) (n' c' B : Nat) (xs : List Int) (w : World) (hx : Reads w B 1 A' n' (xs.map (Value.int .i64))) (hn : n' ≤ 9223372036854775807) (hB : B ≤ w.heap.size) (pf : Nat) (caps : Array Value) (p : Int → Bool)
    (eg : ∀ args w, (callFunc pf args).run Tryz.prog w = .ok (.enter pf args) w)
    (hp : ∀ x ∈ xs, ∀ W, Below w.heap.size w W → Calls Tryz.prog pf (#[.int .i64 x] ++ caps) W (RetV W (.bool (p x)))) :
    Calls Tryz.prog 121 #[.slice A' n' c', .func (Fn.func pf) #[] caps] w (RetV w (.bool (xs.any p))) := by
  have HI := hide (idx_ints A' n' c' B xs w hx hn hB pf caps p eg hp)
  clear hp
  go_enter Tryz.func121, Tryz.ntmps121
  go_wp2_with (go_at_call 166; refine HI.out.mono ?_; rintro e w' ⟨⟨i, rfl, hi⟩, hB1⟩)
  go_ret
  exact ⟨rfl, hB1⟩
/-- What the closure `of` tells of a row. -/
def ofT (key : List Int) (r : Rw) : ByteArray := if hasB r key then ⟨(keyT key r).toArray⟩ else ⟨#[]⟩
end

end Go.Proofs.YtoapjidpfghnlaaGreatDoor
