/-
  Events in memory: a slice of events, each a time and a row; their order. No condition.
  Sorting by insertion from the end, as the references do it, by whatever total order: the list is a permutation, and sorted; two such lists are one. Plain Lean; no condition.
-/
import Derived.Test.YtoapjidpfghnlaaGreatDoorBgP2
import Derived.Test.YtoapjidpfghnlaaGreatDoorRngH
import Derived.Test.YtoapjidpfghnlaaGreatDoorQbw
namespace Go.Proofs.YtoapjidpfghnlaaGreatDoor

section
open Go.RowKit
set_option linter.unusedVariables false

structure Ev where
  t : Int
  A : Option Addr
  n : Nat
  c : Nat
  r : Rw
/-- What an event tells. -/
abbrev Te := Int × Rw
def encEv (i : Ev) : List Value := [.int .i64 i.t, .slice i.A i.n i.c]
theorem encEv_len (i : Ev) : (encEv i).length = 2 := rfl
def dE (l : List Ev) : List Te := l.map fun i => (i.t, i.r)
theorem dE_len (l : List Ev) : (dE l).length = l.length := by simp [dE]
theorem dE_app (l k : List Ev) : dE (l ++ k) = dE l ++ dE k := by simp [dE]
theorem dE_snoc (l : List Ev) (i : Ev) : dE (l ++ [i]) = dE l ++ [(i.t, i.r)] := by simp [dE]
theorem dE_at {l : List Ev} {k : Nat} {i : Ev} (h : l[k]? = some i) : (dE l)[k]? = some (i.t, i.r) := by unfold dE; rw [List.getElem?_map, h]; rfl
theorem infoEv : (Tryz.prog.info? 36).map (fun i => (i.zero, i.size, i.bytes)) = some (some (.agg #[.int .i64 0, .slice none 0 0]), 2, 32) := by kernel_rfl
def RowsE (w : World) (B : Nat) (l : List Ev) : Prop := ∀ i ∈ l, RowK w B i.A i.n i.r
structure EvR (w : World) (B : Nat) (A : Option Addr) (n : Nat) (l : List Ev) : Prop where
  rd : Reads w w.heap.size 2 A n (l.flatMap encEv)
  rows : RowsE w B l
  le : n ≤ 9223372036854775807
section
variable {w w' : World} {B B' : Nat} {A : Option Addr} {n : Nat} {l : List Ev}
theorem RowsE.below (h : RowsE w B l) (hb : Below w.heap.size w w') : RowsE w' B l := fun i hi => (h i hi).below hb
theorem RowsE.mono (h : RowsE w B l) (hB : B ≤ B') : RowsE w B' l := fun i hi => (h i hi).mono hB
theorem EvR.nil (w : World) (B : Nat) : EvR w B none 0 [] := ⟨⟨rfl, fun h => absurd h (by decide)⟩, nofun, by omega⟩
theorem EvR.len (h : EvR w B A n l) : l.length = n := h.rd.len encEv_len (by omega)
theorem EvR.below (h : EvR w B A n l) (hb : Below w.heap.size w w') : EvR w' B A n l := ⟨h.rd.up hb, h.rows.below hb, h.le⟩
theorem EvR.mono (h : EvR w B A n l) (hB : B ≤ B') : EvR w B' A n l := ⟨h.rd, h.rows.mono hB, h.le⟩
theorem EvR.step (h : EvR w w.heap.size A n l) (hb : Below w.heap.size w w') : EvR w' w'.heap.size A n l := (h.below hb).mono hb.size
theorem EvR.at_ (h : EvR w B A n l) {k : Nat} (hk : k < n) : ∃ b off i, A = some ⟨b, off, none⟩ ∧ b < w.heap.size ∧ l[k]? = some i ∧ w.cell? ⟨b, off + k * 2, none⟩ = some (.int .i64 i.t) ∧
    w.cell? ⟨b, off + k * 2 + 1, none⟩ = some (.slice i.A i.n i.c) ∧ RowK w B i.A i.n i.r := by
  obtain ⟨b, off, i, e, hb, hi, hc⟩ := h.rd.elem encEv_len h.len hk
  exact ⟨b, off, i, e, hb, hi, by simpa using hc 0 _ rfl, by simpa [← Nat.add_assoc] using hc 1 _ rfl, h.rows i (List.mem_of_getElem? hi)⟩
end
/-! The order of events. -/
def cmpE (x y : Te) : Int := thenC (cmpI x.1 y.1) (cmpR x.2 y.2)
theorem Tot.te : Tot cmpE := (Tot.int.comap fun x : Te => x.1).seq (Tot.row.comap fun x : Te => x.2)
def okE (x : Te) : Bool := btw x.1 (-1000000000000) 1000000000000 && okR x.2
theorem okE_row {x : Te} (h : okE x = true) : okR x.2 = true := by unfold okE at h; rw [Bool.and_eq_true] at h; exact h.2
theorem okE_time {x : Te} (h : okE x = true) : -1000000000000 ≤ x.1 ∧ x.1 ≤ 1000000000000 := by unfold okE at h; rw [Bool.and_eq_true] at h; have := h.1; simpa [btw] using this
theorem cmpE_eq {x y : Te} (hx : okR x.2 = true) (hy : okR y.2 = true) (h : cmpE x y = 0) : x = y := by
  obtain ⟨h1, h2⟩ := thenC_zero h
  obtain ⟨t, r⟩ := x
  obtain ⟨t', r'⟩ := y
  have e1 : t = t' := by
    have h1 : cmpI t t' = 0 := h1
    unfold cmpI at h1
    split at h1
    · cases h1
    · split at h1
      · cases h1
      · omega
  have e2 : r = r' := okR_eq hx hy h2
  rw [e1, e2]
/-- A key's text: each value with a comma behind it. -/
def keyC (k : Rw) : List UInt8 := k.flatMap fun v => valT v ++ [44]
theorem keyC_inj : ∀ {x y : Rw}, x.all okV = true → y.all okV = true → keyC x = keyC y → x = y
  | [], [], _, _, _ => rfl
  | [], b :: y, _, _, h => by
    exfalso
    obtain ⟨c, l, e⟩ := valT_ne (v := b)
    simp [keyC, e] at h
  | a :: x, [], _, _, h => by
    exfalso
    obtain ⟨c, l, e⟩ := valT_ne (v := a)
    simp [keyC, e] at h
  | a :: x, b :: y, hx, hy, h => by
    rw [List.all_cons, Bool.and_eq_true] at hx hy
    have h1 : valT a ++ (44 :: keyC x) = valT b ++ (44 :: keyC y) := by simpa [keyC] using h
    obtain ⟨h2, h3⟩ := valT_inj hx.1 hy.1 (.inr ⟨_, rfl⟩) (.inr ⟨_, rfl⟩) h1
    rw [h2, keyC_inj hx.2 hy.2 (List.cons.inj h3).2]
theorem keyC_snoc (k : Rw) (v : Val) : keyC (k ++ [v]) = keyC k ++ (valT v ++ [44]) := by simp [keyC]
theorem keyC_len {k : Rw} (h : k.all okV = true) : (keyC k).length ≤ 803 * k.length := by
  induction k with
  | nil => simp [keyC]
  | cons a k ih =>
    rw [List.all_cons, Bool.and_eq_true] at h
    have h1 := ih h.2
    have h2 := valT_len h.1
    have h3 : keyC (a :: k) = valT a ++ [44] ++ keyC k := by simp [keyC]
    rw [h3]
    simp
    omega
end

section
set_option linter.unusedVariables false
section
variable {α : Type}
theorem sort_one {f : α → α → Int} (hf : Tot f) : ∀ {a b : List α}, a.Perm b → (∀ x ∈ a, ∀ y ∈ a, f x y = 0 → x = y) → a.Pairwise (fun x y => ¬ f y x < 0) → b.Pairwise (fun x y => ¬ f y x < 0) → a = b
  | [], b, hp, _, _, _ => (List.nil_perm.1 hp).symm
  | x :: l, [], hp, _, _, _ => absurd hp.length_eq (by simp)
  | x :: l, y :: k, hp, h0, h1, h2 => by
    have e : x = y := by
      have hx : x ∈ y :: k := hp.mem_iff.1 List.mem_cons_self
      have hy : y ∈ x :: l := hp.mem_iff.2 List.mem_cons_self
      rcases List.mem_cons.1 hx with e | hx
      · exact e
      · rcases List.mem_cons.1 hy with e | hy'
        · exact e.symm
        · have c1 := (List.pairwise_cons.1 h2).1 x hx
          have c2 := (List.pairwise_cons.1 h1).1 y hy'
          have := hf.anti x y
          exact h0 x List.mem_cons_self y hy (by omega)
    subst e
    rw [sort_one hf hp.cons_inv (fun z hz u hu => h0 z (List.mem_cons_of_mem _ hz) u (List.mem_cons_of_mem _ hu)) (List.pairwise_cons.1 h1).2 (List.pairwise_cons.1 h2).2]
/-- Where a line goes: from the end backwards. -/
def atG (f : α → α → Int) (x : α) (out : List α) : Nat → Nat
  | 0 => 0
  | k + 1 => match out[k]? with
    | some y => if f x y < 0 then atG f x out k else k + 1
    | none => k + 1
def stepG (f : α → α → Int) (out : List α) (x : α) : List α := out.take (atG f x out out.length) ++ x :: out.drop (atG f x out out.length)
/-- The lines of a bag in order. -/
def srtG (f : α → α → Int) (b : List α) : List α := b.foldl (stepG f) []
theorem atG_le (f : α → α → Int) (x : α) (out : List α) : ∀ k, atG f x out k ≤ k
  | 0 => Nat.le_refl _
  | k + 1 => by
    rw [atG]
    split
    · split
      · have := atG_le f x out k; omega
      · omega
    · omega
theorem atG_ge (f : α → α → Int) (x : α) (out : List α) : ∀ k j y, atG f x out k ≤ j → j < k → out[j]? = some y → f x y < 0
  | 0, j, y, _, h, _ => absurd h (by omega)
  | k + 1, j, y, h1, h2, h3 => by
    rw [atG] at h1
    split at h1
    · rename_i z hz
      split at h1
      · rename_i hlt
        rcases Nat.lt_or_ge j k with h | h
        · exact atG_ge f x out k j y h1 h h3
        · obtain rfl : j = k := by omega
          rw [hz] at h3
          injection h3 with h3
          exact h3 ▸ hlt
      · omega
    · omega
theorem atG_lt (f : α → α → Int) (x : α) (out : List α) : ∀ k j y, k ≤ out.length → atG f x out k = j + 1 → out[j]? = some y → ¬ f x y < 0
  | 0, j, y, _, h, _ => by cases h
  | k + 1, j, y, hk, h1, h3 => by
    rw [atG] at h1
    split at h1
    · rename_i z hz
      split at h1
      · exact atG_lt f x out k j y (by omega) h1 h3
      · rename_i hge
        obtain rfl : k = j := by omega
        rw [hz] at h3
        injection h3 with h3
        exact h3 ▸ hge
    · rename_i hz
      rw [List.getElem?_eq_none_iff] at hz
      omega
theorem stepG_perm (f : α → α → Int) (out : List α) (x : α) : (stepG f out x).Perm (x :: out) := by
  unfold stepG
  refine List.perm_middle.trans (List.Perm.cons _ ?_)
  rw [List.take_append_drop]
def SrtG (f : α → α → Int) (l : List α) : Prop := l.Pairwise fun x y => ¬ f y x < 0
theorem stepG_srt {f : α → α → Int} (hT : Tot f) {out : List α} (h : SrtG f out) (x : α) : SrtG f (stepG f out x) := by
  have hle := atG_le f x out out.length
  have hge := atG_ge f x out out.length
  have hlt := atG_lt f x out out.length
  unfold stepG
  obtain ⟨a, ha⟩ : ∃ a, atG f x out out.length = a := ⟨_, rfl⟩
  rw [ha] at hle hge hlt ⊢
  have hlow : ∀ y ∈ out.take a, ¬ f x y < 0 := fun y hy => by
    obtain ⟨j, hj⟩ := List.getElem?_of_mem hy
    rw [List.getElem?_take] at hj
    split at hj
    · rename_i hja
      obtain ⟨m, rfl⟩ : ∃ m, a = m + 1 := ⟨a - 1, by omega⟩
      have hz : out[m]? = some (out[m]'(by omega)) := List.getElem?_eq_getElem (by omega)
      have h1 := hlt m _ (Nat.le_refl _) rfl hz
      rcases Nat.lt_or_ge j m with hjm | hjm
      · have hj' := (List.getElem?_eq_some_iff.1 hj)
        obtain ⟨hj1, hj2⟩ := hj'
        have h2 := List.pairwise_iff_getElem.1 h j m hj1 (by omega) hjm
        rw [hj2] at h2
        have a1 := hT.anti y (out[m]'(by omega))
        have a2 := hT.anti x (out[m]'(by omega))
        have a3 := hT.anti x y
        have := hT.le y (out[m]'(by omega)) x (by omega) (by omega)
        omega
      · obtain rfl : j = m := by omega
        rw [hz] at hj
        injection hj with hj
        exact hj ▸ h1
    · cases hj
  have hhigh : ∀ y ∈ out.drop a, f x y < 0 := fun y hy => by
    obtain ⟨j, hj⟩ := List.getElem?_of_mem hy
    rw [List.getElem?_drop] at hj
    have h1 := (List.getElem?_eq_some_iff.1 hj).1
    exact hge (a + j) y (by omega) h1 hj
  unfold SrtG
  rw [List.pairwise_append, List.pairwise_cons]
  refine ⟨List.Pairwise.sublist (List.take_sublist _ _) h, ⟨fun y hy => ?_, List.Pairwise.sublist (List.drop_sublist _ _) h⟩, fun y hy z hz => ?_⟩
  · have := hT.anti x y
    have := hhigh y hy
    omega
  · have h1 := hlow y hy
    rcases List.mem_cons.1 hz with rfl | hz
    · exact h1
    · have h2 := hhigh z hz
      have a1 := hT.anti x y
      have a2 := hT.anti y z
      have := hT.lt2 y x z (by omega) h2
      omega
theorem srtG_all {f : α → α → Int} (hT : Tot f) (b : List α) : (srtG f b).Perm b ∧ SrtG f (srtG f b) := by
  have gen : ∀ (b out : List α), SrtG f out → (b.foldl (stepG f) out).Perm (b ++ out) ∧ SrtG f (b.foldl (stepG f) out) := by
    intro b
    induction b with
    | nil => intro out h; exact ⟨List.Perm.refl _, h⟩
    | cons x b ih =>
      intro out h
      obtain ⟨h1, h2⟩ := ih (stepG f out x) (stepG_srt hT h x)
      refine ⟨h1.trans ?_, h2⟩
      refine (List.Perm.append_left b (stepG_perm f out x)).trans ?_
      exact List.perm_middle
  obtain ⟨h1, h2⟩ := gen b [] List.Pairwise.nil
  refine ⟨?_, h2⟩
  rw [List.append_nil] at h1
  exact h1
/-- Whatever is sorted and a permutation is that list. -/
theorem srtG_eq {f : α → α → Int} (hf : Tot f) {l b : List α} (hp : l.Perm b) (h0 : ∀ x ∈ b, ∀ y ∈ b, f x y = 0 → x = y) (hs : l.Pairwise fun x y => ¬ f y x < 0) : l = srtG f b := by
  obtain ⟨p1, p2⟩ := srtG_all hf b
  exact sort_one hf (hp.trans p1.symm) (fun x hx y hy => h0 x (hp.mem_iff.1 hx) y (hp.mem_iff.1 hy)) hs p2
end
end

end Go.Proofs.YtoapjidpfghnlaaGreatDoor
