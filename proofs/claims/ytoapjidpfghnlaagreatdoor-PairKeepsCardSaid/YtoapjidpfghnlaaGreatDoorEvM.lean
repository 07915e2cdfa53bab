/-
  Events in memory: a slice of events, each a time and a row; their order. No condition.
-/
import Derived.Test.YtoapjidpfghnlaaGreatDoorBgP1
import Derived.Test.YtoapjidpfghnlaaGreatDoorRngH
namespace Go.Proofs.YtoapjidpfghnlaaGreatDoor
open Go.RowKit
set_option linter.unusedVariables false

structure Ev where
  t : Int
  A : Option Addr
  n : Nat
  c : Nat
  r : Rw
/-- What an event tells. -/
abbrev Te := Int × Rw
def encEv (i : Ev) : List Value := [.int .i64 i.t, .slice i.A i.n i.c]
theorem encEv_len (i : Ev) : (encEv i).length = 2 := rfl
def dE (l : List Ev) : List Te := l.map fun i => (i.t, i.r)
theorem dE_len (l : List Ev) : (dE l).length = l.length := by simp [dE]
theorem dE_app (l k : List Ev) : dE (l ++ k) = dE l ++ dE k := by simp [dE]
theorem dE_snoc (l : List Ev) (i : Ev) : dE (l ++ [i]) = dE l ++ [(i.t, i.r)] := by simp [dE]
theorem dE_at {l : List Ev} {k : Nat} {i : Ev} (h : l[k]? = some i) : (dE l)[k]? = some (i.t, i.r) := by unfold dE; rw [List.getElem?_map, h]; rfl
theorem infoEv : (Tryz.prog.info? 36).map (fun i => (i.zero, i.size, i.bytes)) = some (some (.agg #[.int .i64 0, .slice none 0 0]), 2, 32) := by kernel_rfl
def RowsE (w : World) (B : Nat) (l : List Ev) : Prop := ∀ i ∈ l, RowK w B i.A i.n i.r
structure EvR (w : World) (B : Nat) (A : Option Addr) (n : Nat) (l : List Ev) : Prop where
  rd : Reads w w.heap.size 2 A n (l.flatMap encEv)
  rows : RowsE w B l
  le : n ≤ 9223372036854775807
section
variable {w w' : World} {B B' : Nat} {A : Option Addr} {n : Nat} {l : List Ev}
theorem RowsE.below (h : RowsE w B l) (hb : Below w.heap.size w w') : RowsE w' B l := fun i hi => (h i hi).below hb
theorem RowsE.mono (h : RowsE w B l) (hB : B ≤ B') : RowsE w B' l := fun i hi => (h i hi).mono hB
theorem EvR.nil (w : World) (B : Nat) : EvR w B none 0 [] := ⟨⟨rfl, fun h => absurd h (by decide)⟩, nofun, by omega⟩
theorem EvR.len (h : EvR w B A n l) : l.length = n := h.rd.len encEv_len (by omega)
theorem EvR.below (h : EvR w B A n l) (hb : Below w.heap.size w w') : EvR w' B A n l := ⟨h.rd.up hb, h.rows.below hb, h.le⟩
theorem EvR.mono (h : EvR w B A n l) (hB : B ≤ B') : EvR w B' A n l := ⟨h.rd, h.rows.mono hB, h.le⟩
theorem EvR.step (h : EvR w w.heap.size A n l) (hb : Below w.heap.size w w') : EvR w' w'.heap.size A n l := (h.below hb).mono hb.size
theorem EvR.at_ (h : EvR w B A n l) {k : Nat} (hk : k < n) : ∃ b off i, A = some ⟨b, off, none⟩ ∧ b < w.heap.size ∧ l[k]? = some i ∧ w.cell? ⟨b, off + k * 2, none⟩ = some (.int .i64 i.t) ∧
    w.cell? ⟨b, off + k * 2 + 1, none⟩ = some (.slice i.A i.n i.c) ∧ RowK w B i.A i.n i.r := by
  obtain ⟨b, off, i, e, hb, hi, hc⟩ := h.rd.elem encEv_len h.len hk
  exact ⟨b, off, i, e, hb, hi, by simpa using hc 0 _ rfl, by simpa [← Nat.add_assoc] using hc 1 _ rfl, h.rows i (List.mem_of_getElem? hi)⟩
end
/-! The order of events. -/
def cmpE (x y : Te) : Int := thenC (cmpI x.1 y.1) (cmpR x.2 y.2)
theorem Tot.te : Tot cmpE := (Tot.int.comap fun x : Te => x.1).seq (Tot.row.comap fun x : Te => x.2)
def okE (x : Te) : Bool := btw x.1 (-1000000000000) 1000000000000 && okR x.2
theorem okE_row {x : Te} (h : okE x = true) : okR x.2 = true := by unfold okE at h; rw [Bool.and_eq_true] at h; exact h.2
theorem okE_time {x : Te} (h : okE x = true) : -1000000000000 ≤ x.1 ∧ x.1 ≤ 1000000000000 := by unfold okE at h; rw [Bool.and_eq_true] at h; have := h.1; simpa [btw] using this
theorem cmpE_eq {x y : Te} (hx : okR x.2 = true) (hy : okR y.2 = true) (h : cmpE x y = 0) : x = y := by
  obtain ⟨h1, h2⟩ := thenC_zero h
  obtain ⟨t, r⟩ := x
  obtain ⟨t', r'⟩ := y
  have e1 : t = t' := by
    have h1 : cmpI t t' = 0 := h1
    unfold cmpI at h1
    split at h1
    · cases h1
    · split at h1
      · cases h1
      · omega
  have e2 : r = r' := okR_eq hx hy h2
  rw [e1, e2]
/-- A key's text: each value with a comma behind it. -/
def keyC (k : Rw) : List UInt8 := k.flatMap fun v => valT v ++ [44]
theorem keyC_inj : ∀ {x y : Rw}, x.all okV = true → y.all okV = true → keyC x = keyC y → x = y
  | [], [], _, _, _ => rfl
  | [], b :: y, _, _, h => by
    exfalso
    obtain ⟨c, l, e⟩ := valT_ne (v := b)
    simp [keyC, e] at h
  | a :: x, [], _, _, h => by
    exfalso
    obtain ⟨c, l, e⟩ := valT_ne (v := a)
    simp [keyC, e] at h
  | a :: x, b :: y, hx, hy, h => by
    rw [List.all_cons, Bool.and_eq_true] at hx hy
    have h1 : valT a ++ (44 :: keyC x) = valT b ++ (44 :: keyC y) := by simpa [keyC] using h
    obtain ⟨h2, h3⟩ := valT_inj hx.1 hy.1 (.inr ⟨_, rfl⟩) (.inr ⟨_, rfl⟩) h1
    rw [h2, keyC_inj hx.2 hy.2 (List.cons.inj h3).2]
theorem keyC_snoc (k : Rw) (v : Val) : keyC (k ++ [v]) = keyC k ++ (valT v ++ [44]) := by simp [keyC]
theorem keyC_len {k : Rw} (h : k.all okV = true) : (keyC k).length ≤ 803 * k.length := by
  induction k with
  | nil => simp [keyC]
  | cons a k ih =>
    rw [List.all_cons, Bool.and_eq_true] at h
    have h1 := ih h.2
    have h2 := valT_len h.1
    have h3 : keyC (a :: k) = valT a ++ [44] ++ keyC k := by simp [keyC]
    rw [h3]
    simp
    omega
end Go.Proofs.YtoapjidpfghnlaaGreatDoor
