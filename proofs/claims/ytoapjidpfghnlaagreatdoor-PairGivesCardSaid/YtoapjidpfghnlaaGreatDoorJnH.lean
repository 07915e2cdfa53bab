/-
  A side of a joiner in memory: a map from keys to lists of what is held, each list in a block of its own. No condition.
-/
import Derived.Test.YtoapjidpfghnlaaGreatDoorJnM
import Derived.Test.YtoapjidpfghnlaaGreatDoorRgM
import Derived.Test.YtoapjidpfghnlaaGreatDoorBgP2
namespace Go.Proofs.YtoapjidpfghnlaaGreatDoor
open Go.RowKit Go.Maps
set_option linter.unusedVariables false
set_option linter.unusedSimpArgs false

structure Hd where
  t : Int
  m : Int
  A : Option Addr
  n : Nat
  c : Nat
  r : Rw
def encHd (i : Hd) : List Value := [.int .i64 i.t, .int .i64 i.m, .slice i.A i.n i.c]
theorem encHd_len (i : Hd) : (encHd i).length = 3 := rfl
def thD (i : Hd) : Th := ⟨i.t, i.m, i.r⟩
theorem infoHd : (Tryz.prog.info? 144).map (fun i => (i.zero, i.size, i.bytes)) = some (some (.agg #[.int .i64 0, .int .i64 0, .slice none 0 0]), 3, 40) := by kernel_rfl
def RowsH (w : World) (B : Nat) (l : List Hd) : Prop := ∀ i ∈ l, RowK w B i.A i.n i.r ∧ i.n ≤ i.c
theorem RowsH.below {w w' : World} {B : Nat} {l : List Hd} (h : RowsH w B l) (hb : Below w.heap.size w w') : RowsH w' B l := fun i hi => ⟨(h i hi).1.below hb, (h i hi).2⟩
theorem RowsH.mono {w : World} {B B' : Nat} {l : List Hd} (h : RowsH w B l) (hB : B ≤ B') : RowsH w B' l := fun i hi => ⟨(h i hi).1.mono hB, (h i hi).2⟩
theorem RowsH.keep {w w' : World} {B : Nat} {l : List Hd} (h : RowsH w B l) {p : Nat → Prop} (hk : ∀ k, k < w.heap.size → ¬ p k → w'.heap[k]? = w.heap[k]?) (hs : w.heap.size ≤ w'.heap.size) (hp : ∀ k, p k → B ≤ k ∧ ∀ c fz, w.heap[k]? ≠ some (.cells c 102 fz)) : RowsH w' B l :=
  fun i hi => ⟨(h i hi).1.keep hk hs hp, (h i hi).2⟩
theorem RowsH.sub {w : World} {B : Nat} {a b : List Hd} (h : RowsH w B a) (hs : ∀ x ∈ b, x ∈ a) : RowsH w B b := fun i hi => h i (hs i hi)

/-- What a map from keys holds at a key. -/
def vOf (F : Lit → Option Value) (q : List UInt8) : Value := (F (.string q)).getD (.slice none 0 0)
/-- The values of a map: each owns its list. -/
structure HmV (w : World) (base bM : Nat) (F : Lit → Option Value) (f : List UInt8 → List Hd) (S : Nat → Prop) : Prop where
  own : ∀ q, w.ownsRow base 144 3 (vOf F q) (f q).length ((f q).flatMap encHd)
  nb : ∀ q, (vOf F q).ownBlock ≠ some bM
  sep : ∀ p q, p ≠ q → (vOf F p).ownBlock = none ∨ (vOf F p).ownBlock ≠ (vOf F q).ownBlock
  rows : ∀ q, RowsH w base (f q)
  inS : ∀ q g, (vOf F q).ownBlock = some g → S g
  typ : ∀ k, S k → base ≤ k ∧ ∃ c fz, w.heap[k]? = some (.cells c 144 fz)
section
variable {w w' w1 : World} {base bM : Nat} {F : Lit → Option Value} {f : List UInt8 → List Hd} {S : Nat → Prop}
theorem HmV.keep (h : HmV w base bM F f S) {p : Nat → Prop} (hk : ∀ k, k < w.heap.size → ¬ p k → w'.heap[k]? = w.heap[k]?) (hs : w.heap.size ≤ w'.heap.size)
    (hp : ∀ k, p k → base ≤ k ∧ (∀ c fz, w.heap[k]? ≠ some (.cells c 102 fz)) ∧ ∀ c fz, w.heap[k]? ≠ some (.cells c 144 fz)) : HmV w' base bM F f S := by
  refine ⟨fun q => own_blockU (h.own q) fun g hg => ?_, h.nb, h.sep, fun q => (h.rows q).keep hk hs fun k hk => ⟨(hp k hk).1, (hp k hk).2.1⟩, h.inS, fun k hS => ?_⟩
  rotate_left
  · obtain ⟨h1, c, fz, h2⟩ := h.typ k hS
    exact ⟨h1, c, fz, (hk k (Array.getElem?_eq_some_iff.1 h2).1 fun hx => (hp k hx).2.2 c fz h2).trans h2⟩
  obtain ⟨cc, fz, hc⟩ := own_cells (h.own q) hg
  exact hk g (Array.getElem?_eq_some_iff.1 hc).1 fun hx => (hp g hx).2.2 cc fz hc
theorem putF_of (F : Lit → Option Value) (kk q : List UInt8) (v' : Value) : vOf (putF F (.string kk) v') q = if q = kk then v' else vOf F q := by
  unfold vOf putF
  by_cases e : q = kk
  · subst e; rw [if_pos rfl, if_pos rfl]; rfl
  · have e2 : ¬ Lit.string q = Lit.string kk := fun h => by injection h with h; exact e h
    rw [if_neg e2, if_neg e]
theorem delF_of (F : Lit → Option Value) (kk q : List UInt8) : vOf (delF F (.string kk)) q = if q = kk then .slice none 0 0 else vOf F q := by
  unfold vOf delF
  by_cases e : q = kk
  · subst e; rw [if_pos rfl, if_pos rfl]; rfl
  · have e2 : ¬ Lit.string q = Lit.string kk := fun h => by injection h with h; exact e h
    rw [if_neg e2, if_neg e]
/-- A key's list is made anew, or grows in its place. -/
theorem HmV.put (h : HmV w base bM F f S) {kk : List UInt8} {v' : Value} {l' : List Hd} (hk : ∀ k, k < w.heap.size → (vOf F kk).ownBlock ≠ some k → k ≠ bM → w1.heap[k]? = w.heap[k]?) (hs : w.heap.size ≤ w1.heap.size)
    (hbM : ∀ c t fz, w.heap[bM]? ≠ some (.cells c t fz)) (hlow : base ≤ bM)
    (hown : w1.ownsRow base 144 3 v' l'.length (l'.flatMap encHd)) (hrows : RowsH w1 base l') (hat : v'.ownBlock = none ∨ v'.ownBlock = (vOf F kk).ownBlock ∨ ∃ g, v'.ownBlock = some g ∧ w.heap.size ≤ g) (hnb : v'.ownBlock ≠ some bM) :
    HmV w1 base bM (putF F (.string kk) v') (fun q => if q = kk then l' else f q) (fun k => (S k ∧ (vOf F kk).ownBlock ≠ some k) ∨ v'.ownBlock = some k) := by
  have keep : ∀ q, q ≠ kk → ∀ g, (vOf F q).ownBlock = some g → w1.heap[g]? = w.heap[g]? := by
    intro q hq g hgq
    refine hk g ((h.own q).lt g hgq).2 (fun e => ?_) fun e => h.nb q (by rw [hgq, e])
    rcases h.sep q kk hq with h8 | h8
    · rw [hgq] at h8; cases h8
    · exact h8 (by rw [hgq, e])
  have sep : ∀ q, q ≠ kk → (vOf F q).ownBlock = none ∨ (vOf F q).ownBlock ≠ v'.ownBlock := by
    intro q hq
    rcases hat with e | e | ⟨g', e, hg'⟩
    · cases hv' : (vOf F q).ownBlock with
      | none => exact .inl rfl
      | some g => right; rw [e]; nofun
    · rw [e]; exact h.sep q kk hq
    · cases hv' : (vOf F q).ownBlock with
      | none => exact .inl rfl
      | some g => right; rw [e]; intro e'; injection e' with e'; have := ((h.own q).lt g hv').2; omega
  refine ⟨fun q => ?_, fun q => ?_, fun p q hne => ?_, fun q => ?_, fun q g hg => ?_, fun k hk1 => ?_⟩
  rotate_left 4
  · rw [putF_of] at hg
    by_cases e : q = kk
    · rw [if_pos e] at hg; exact .inr hg
    · rw [if_neg e] at hg
      refine .inl ⟨h.inS q g hg, fun e2 => ?_⟩
      rcases h.sep q kk e with h8 | h8
      · rw [hg] at h8; cases h8
      · exact h8 (by rw [hg, e2])
  · rcases hk1 with ⟨h1, h2⟩ | h1
    · obtain ⟨h3, c, fz, h4⟩ := h.typ k h1
      have hne : k ≠ bM := fun e => hbM c _ fz (e ▸ h4)
      exact ⟨h3, c, fz, (hk k (Array.getElem?_eq_some_iff.1 h4).1 h2 hne).trans h4⟩
    · exact ⟨(hown.lt k h1).1, own_cells hown h1⟩
  · rw [putF_of]
    by_cases e : q = kk
    · simp only [if_pos e]; exact hown
    · simp only [if_neg e]; exact own_blockU (h.own q) (keep q e)
  · rw [putF_of]
    by_cases e : q = kk
    · simp only [if_pos e]; exact hnb
    · simp only [if_neg e]; exact h.nb q
  · rw [putF_of, putF_of]
    by_cases e : p = kk
    · have hq : ¬ q = kk := fun h => hne (e.trans h.symm)
      simp only [if_pos e, if_neg hq]
      rcases sep q hq with h8 | h8
      · cases hv' : v'.ownBlock with
        | none => exact .inl rfl
        | some g => right; rw [h8]; simp
      · exact .inr fun e => h8 e.symm
    · by_cases e2 : q = kk
      · simp only [if_pos e2, if_neg e]
        exact sep p e
      · simp only [if_neg e, if_neg e2]
        exact h.sep p q hne
  · by_cases e : q = kk
    · simp only [if_pos e]; exact hrows
    · simp only [if_neg e]
      refine (h.rows q).keep (p := fun k => (vOf F kk).ownBlock = some k ∨ k = bM) (fun k hk1 hk2 => hk k hk1 (fun e => hk2 (.inl e)) fun e => hk2 (.inr e)) hs fun k hk1 => ?_
      rcases hk1 with hk1 | rfl
      · obtain ⟨cc, fz, hc⟩ := own_cells (h.own kk) hk1
        refine ⟨((h.own kk).lt k hk1).1, fun c fz' hc' => ?_⟩
        rw [hc] at hc'
        injection hc' with hc'
        injection hc' with _ hc'
        exact absurd hc' (by decide)
      · exact ⟨hlow, fun c fz => hbM c _ fz⟩
/-- A key that holds nothing is taken out. -/
theorem HmV.del (h : HmV w base bM F f S) {kk : List UInt8} (he : f kk = []) : HmV w base bM (delF F (.string kk)) f S := by
  refine ⟨fun q => ?_, fun q => ?_, fun p q hne => ?_, h.rows, fun q g hg => ?_, h.typ⟩
  rotate_left 3
  · rw [delF_of] at hg
    by_cases e : q = kk
    · rw [if_pos e] at hg; cases hg
    · rw [if_neg e] at hg; exact h.inS q g hg
  · rw [delF_of]
    by_cases e : q = kk
    · rw [if_pos e, e, he]; exact World.ownsRow_nil _ _ _ _
    · rw [if_neg e]; exact h.own q
  · rw [delF_of]
    by_cases e : q = kk
    · rw [if_pos e]; nofun
    · rw [if_neg e]; exact h.nb q
  · rw [delF_of, delF_of]
    by_cases e : p = kk
    · rw [if_pos e]; exact .inl rfl
    · rw [if_neg e]
      by_cases e2 : q = kk
      · rw [if_pos e2]
        cases hv' : (vOf F p).ownBlock with
        | none => exact .inl rfl
        | some g => right; nofun
      · rw [if_neg e2]
        exact h.sep p q hne
end
/-- A side: its map, and what is held at each key. -/
structure HmM (w : World) (base bM i : Nat) (f : List UInt8 → List Hd) (S : Nat → Prop) : Prop where
  ex : ∃ (F : Lit → Option Value) (c : Nat), MapF w Tryz.prog 9 bM c F ∧ c ≤ i ∧ HmV w base bM F f S
  low : base ≤ bM
/-- .. while it is ranged over. -/
structure HmR (w : World) (base bM r i : Nat) (f : List UInt8 → List Hd) (S : Nat → Prop) (left : Lit → Bool) (cnt : Nat) : Prop where
  ex : ∃ (F : Lit → Option Value) (c : Nat), RngF w Tryz.prog 9 bM r c F left cnt ∧ c ≤ i ∧ HmV w base bM F f S
  low : base ≤ bM
theorem mapF_not {w : World} {P : Program} {k : TypeId} {b n : Nat} {F : Lit → Option Value} (h : MapF w P k b n F) : ∀ c t fz, w.heap[b]? ≠ some (.cells c t fz) := by
  obtain ⟨D, ⟨es, clock, hb, _⟩, _⟩ := h
  intro c t fz e
  rw [hb] at e
  cases e
theorem mapF_is {w : World} {P : Program} {k : TypeId} {b n : Nat} {F : Lit → Option Value} (h : MapF w P k b n F) : ∃ es c, w.heap[b]? = some (.map es c) := by
  obtain ⟨D, ⟨es, clock, hb, _⟩, _⟩ := h
  exact ⟨es, clock, hb⟩
section
variable {w w' w1 : World} {base bM r i cnt : Nat} {f g : List UInt8 → List Hd} {left : Lit → Bool} {S : Nat → Prop}
theorem HmM.start (w : World) {base : Nat} (hb : base ≤ w.heap.size) : HmM (w.alloc (.map #[] 0)) base w.heap.size 0 (fun _ => []) (fun _ => False) :=
  ⟨⟨_, 0, MapF.made w _ _, Nat.le_refl _, fun q => World.ownsRow_nil _ _ _ _, fun q => by simp [vOf, Value.ownBlock], fun _ _ _ => .inl rfl, (fun q => by intro i hi; cases hi), (fun q g hg => by cases hg), nofun⟩, hb⟩
theorem HmM.congr (h : HmM w base bM i f S) (hf : ∀ q, f q = g q) : HmM w base bM i g S := by
  obtain rfl : f = g := funext hf
  exact h
theorem HmM.lt (h : HmM w base bM i f S) : bM < w.heap.size := by
  obtain ⟨F, c, h1, _⟩ := h.ex
  exact h1.lt
theorem HmM.is_map (h : HmM w base bM i f S) : ∃ es c, w.heap[bM]? = some (.map es c) := by
  obtain ⟨F, c, h1, _⟩ := h.ex
  exact mapF_is h1
theorem HmM.typ (h : HmM w base bM i f S) {k : Nat} (hk : S k) : base ≤ k ∧ k < w.heap.size ∧ ∃ c fz, w.heap[k]? = some (.cells c 144 fz) := by
  obtain ⟨F, c, h1, h2, h3⟩ := h.ex
  obtain ⟨a, c, fz, b⟩ := h3.typ k hk
  exact ⟨a, (Array.getElem?_eq_some_iff.1 b).1, c, fz, b⟩
theorem HmM.mono (h : HmM w base bM i f S) {j : Nat} (hj : i ≤ j) : HmM w base bM j f S := by
  obtain ⟨F, c, h1, h2, h3⟩ := h.ex
  exact ⟨⟨F, c, h1, by omega, h3⟩, h.low⟩
theorem HmM.rows (h : HmM w base bM i f S) (q : List UInt8) : RowsH w base (f q) := by
  obtain ⟨F, c, h1, h2, h3⟩ := h.ex
  exact h3.rows q
theorem HmM.keep (h : HmM w base bM i f S) {p : Nat → Prop} (hk : ∀ k, k < w.heap.size → ¬ p k → w'.heap[k]? = w.heap[k]?) (hs : w.heap.size ≤ w'.heap.size)
    (hp : ∀ k, p k → base ≤ k ∧ k ≠ bM ∧ (∀ c fz, w.heap[k]? ≠ some (.cells c 102 fz)) ∧ ∀ c fz, w.heap[k]? ≠ some (.cells c 144 fz)) : HmM w' base bM i f S := by
  obtain ⟨F, c, h1, h2, h3⟩ := h.ex
  exact ⟨⟨F, c, h1.block (hk bM h1.lt fun hx => (hp bM hx).2.1 rfl), h2, h3.keep hk hs fun k hk => ⟨(hp k hk).1, (hp k hk).2.2⟩⟩, h.low⟩
theorem HmM.below (h : HmM w base bM i f S) (hb : Below w.heap.size w w') : HmM w' base bM i f S := h.keep (p := fun _ => False) (fun k hk _ => hb.block k hk) hb.size nofun
theorem HmR.map (h : HmR w base bM r i f S left cnt) : HmM w base bM i f S := by
  obtain ⟨F, c, h1, h2, h3⟩ := h.ex
  exact ⟨⟨F, c, h1.map, h2, h3⟩, h.low⟩
theorem HmR.left_eq (h : HmR w base bM r i f S left cnt) : w.rangeLeft bM r = cnt := by
  obtain ⟨F, c, h1, _⟩ := h.ex
  exact h1.left_eq
theorem HmR.lt (h : HmR w base bM r i f S left cnt) : r < w.heap.size := by
  obtain ⟨F, c, h1, _⟩ := h.ex
  exact h1.lt
/-- What a call may turn: a map's block, the blocks of its lists, and new ones. -/
structure FrJ (S : Nat → Prop) (bM : Nat) (w w' : World) : Prop where
  os : w'.os = w.os
  tape : w'.tape = w.tape
  output : w'.output = w.output
  size : w.heap.size ≤ w'.heap.size
  block : ∀ k, k < w.heap.size → k ≠ bM → ¬ S k → w'.heap[k]? = w.heap[k]?
theorem FrJ.of_below (S : Nat → Prop) (bM : Nat) (h : Below w.heap.size w w') : FrJ S bM w w' := ⟨h.os, h.tape, h.output, h.size, fun k hk _ _ => h.block k hk⟩
theorem FrJ.trans {S' : Nat → Prop} {a b c : World} (h : FrJ S bM a b) (k : FrJ S' bM b c) (hS : ∀ x, S' x → S x ∨ a.heap.size ≤ x) : FrJ S bM a c :=
  ⟨k.os.trans h.os, k.tape.trans h.tape, k.output.trans h.output, Nat.le_trans h.size k.size, fun x hx h1 h2 => (k.block x (Nat.lt_of_lt_of_le hx h.size) h1 fun h3 => (hS x h3).elim h2 (by omega)).trans (h.block x hx h1 h2)⟩
theorem FrJ.grown {a b : World} {row : Option Nat} (h : FrJ S bM w a) (hg : a.grownBy b row) (hr : ∀ k, row = some k → k = bM ∨ S k ∨ w.heap.size ≤ k) : FrJ S bM w b :=
  ⟨hg.os.trans h.os, hg.tape.trans h.tape, hg.output.trans h.output, Nat.le_trans h.size hg.size, fun x hx h1 h2 => (hg.block x (Nat.lt_of_lt_of_le hx h.size) fun e => by
    rcases hr x e.symm with h3 | h3 | h3
    · exact h1 h3
    · exact h2 h3
    · omega).trans (h.block x hx h1 h2)⟩
theorem FrJ.below {a b : World} (h : FrJ S bM w a) (hb : Below a.heap.size a b) : FrJ S bM w b := h.trans (FrJ.of_below S bM hb) fun x hx => .inl hx
/-- What is looked up for a key. -/
theorem HmM.look (h : HmM w base bM i f S) (s : ByteArray) (hs : s.data.size ≤ maxLen) : ∃ v, (∀ w' : World, w'.heap[bM]? = w.heap[bM]? → (Instr.lookup 136 (.map (some bM)) (.string s) false).run Tryz.prog w' = .ok v w') ∧
    w.ownsRow base 144 3 v (f s.data.toList).length ((f s.data.toList).flatMap encHd) ∧ v.ownBlock ≠ some bM ∧ ∀ g, v.ownBlock = some g → S g := by
  obtain ⟨F, c, h1, h2, h3⟩ := h.ex
  refine ⟨vOf F s.data.toList, fun w' hw => ?_, h3.own _, h3.nb _, h3.inS _⟩
  have hz : (zeroValue 184).run Tryz.prog w' = .ok (.slice none 0 0) w' := by kernel_rfl
  rw [(h1.block hw).look (string_keyed Tryz.underlying9) Tryz.underlying136 hz (str_key hs)]
  rfl
/-- A key's list is stored. -/
theorem HmM.put (h : HmM w base bM i f S) (hi : i < 1000000) {s : ByteArray} (hs : s.data.size ≤ maxLen) {v v' : Value} {l' : List Hd} (hv : (Instr.lookup 136 (.map (some bM)) (.string s) false).run Tryz.prog w = .ok v w)
    (hk : ∀ k, k < w.heap.size → v.ownBlock ≠ some k → w1.heap[k]? = w.heap[k]?) (hz1 : w.heap.size ≤ w1.heap.size)
    (hown : w1.ownsRow base 144 3 v' l'.length (l'.flatMap encHd)) (hrows : RowsH w1 base l') (hat : v'.ownBlock = none ∨ v'.ownBlock = v.ownBlock ∨ ∃ g, v'.ownBlock = some g ∧ w.heap.size ≤ g) :
    ∃ w2, (Instr.mapUpdate 136 (.map (some bM)) (.string s) v').run Tryz.prog w1 = .ok () w2 ∧ HmM w2 base bM (i + 1) (fun q => if q = s.data.toList then l' else f q) (fun k => (S k ∧ v.ownBlock ≠ some k) ∨ v'.ownBlock = some k) ∧ w1.grownBy w2 (some bM) := by
  obtain ⟨F, c, h1, h2, h3⟩ := h.ex
  obtain ⟨kk, hkk⟩ : ∃ kk, s.data.toList = kk := ⟨_, rfl⟩
  have hke := str_key hs
  rw [hkk] at hke ⊢
  have hz : (zeroValue 184).run Tryz.prog w = .ok (.slice none 0 0) w := by kernel_rfl
  have hV : v = vOf F kk := by
    have h7 := h1.look (string_keyed Tryz.underlying9) Tryz.underlying136 hz hke
    rw [hv] at h7
    injection h7
  subst hV
  have hnb : v'.ownBlock ≠ some bM := by
    rcases hat with e | e | ⟨g, e, hg⟩
    · rw [e]; nofun
    · rw [e]; exact h3.nb kk
    · rw [e]; intro e'; injection e' with e'; have := h1.lt; omega
  have m1 := h1.block (hk bM h1.lt (h3.nb kk))
  have hV1 := h3.put (kk := kk) (w1 := w1) (fun k a b _ => hk k a b) hz1 (mapF_not h1) h.low hown hrows hat hnb
  obtain ⟨D, d1, d2, d3, d4⟩ := m1
  obtain ⟨w2, hrun, r1, r2⟩ := d1.update (string_keyed Tryz.underlying9) Tryz.underlying136 (by unfold maxLen; omega) hke (show Rv v' = some (.held v', []) from rfl)
  refine ⟨w2, hrun, ⟨⟨putF F (.string kk) v', c + 1, ⟨_, r1, d2.put _ _, ?_, ?_⟩, by omega, hV1.keep (p := fun k => k = bM) (fun k hk hp => r2.block k hk fun e => hp (by injection e)) r2.size ?_⟩, h.low⟩, r2⟩
  · intro y
    unfold putF
    by_cases e : y = .string kk
    · subst e
      rw [if_pos rfl, has_put_same d2 ((string_keyed (P := Tryz.prog) Tryz.underlying9).key hke)]
      rfl
    · rw [if_neg e, has_put_other e, d3]
  · intro y z
    unfold putF
    by_cases e : y = .string kk
    · subst e
      rw [if_pos rfl, atKey_put_same d2 ((string_keyed (P := Tryz.prog) Tryz.underlying9).key hke)]
    · rw [if_neg e, atKey_put_other e, d4]
  · rintro k rfl
    have m2 := mapF_not (h1.block (hk k h1.lt (h3.nb kk)))
    exact ⟨h.low, fun c fz => m2 c _ fz, fun c fz => m2 c _ fz⟩
/-- 'range m'. -/
theorem HmM.range (h : HmM w base bM i f S) : ∃ w' cnt left, (Instr.range 136 (.map (some bM))).run Tryz.prog w = .ok (.pointer (some ⟨w.heap.size, 0, none⟩)) w' ∧ HmR w' base bM w.heap.size i f S left cnt ∧
    (∀ q, left (.string q) = false → f q = []) ∧ w.grownBy w' none ∧ w'.heap.size = w.heap.size + 1 := by
  obtain ⟨F, c, h1, h2, h3⟩ := h.ex
  obtain ⟨w', cnt, hrun, hr, hg, hs⟩ := h1.range (string_keyed Tryz.underlying9) Tryz.underlying136
  refine ⟨w', cnt, _, hrun, ⟨⟨F, c, hr, h2, h3.keep (p := fun _ => False) (fun k hk _ => hg.block k hk nofun) hg.size nofun⟩, h.low⟩, fun q hq => ?_, hg, hs⟩
  have hF : F (.string q) = none := by
    cases hF : F (.string q) with
    | none => rfl
    | some v => rw [hF] at hq; cases hq
  have := (h3.own q).1
  unfold vOf at this
  have h4 := h3.own q
  unfold vOf at h4
  rw [hF] at h4
  rcases h4.2 with ⟨_, h5⟩ | ⟨g, cap, cur, h5, _⟩
  · cases hl : f q with
    | nil => rfl
    | cons x l => rw [hl] at h5; simp at h5
  · exact absurd h5 (by simp)
theorem str_inv {key : Value} {kl : Lit} (h : keyOf Tryz.prog 9 key = some kl) : ∃ s : ByteArray, key = .string s ∧ kl = .string s.data.toList ∧ s.data.size ≤ maxLen := by
  rw [keyOf_string Tryz.underlying9] at h
  unfold mapKey at h
  rw [Tryz.underlying9] at h
  cases key with
  | string s =>
    have h : (if s.size ≤ maxLen then some (Lit.string s.data.toList) else none) = some kl := h
    by_cases hs : s.size ≤ maxLen
    · rw [if_pos hs] at h
      exact ⟨s, rfl, (Option.some.inj h).symm, hs⟩
    · rw [if_neg hs] at h; cases h
  | _ => exact nomatch h
/-- The step: nothing is left, or some key comes out. -/
theorem HmR.next (h : HmR w base bM r i f S left cnt) (ty : TypeId) :
    (cnt = 0 ∧ (∀ kl, left kl = false) ∧ (Instr.next (.pointer (some ⟨r, 0, none⟩)) false ty).run Tryz.prog w = .ok (.tuple #[.bool false]) w) ∨
    ∃ (s : ByteArray) (v : Value) (w' : World) (cnt' : Nat), s.data.size ≤ maxLen ∧ left (.string s.data.toList) = true ∧ (Instr.next (.pointer (some ⟨r, 0, none⟩)) false ty).run Tryz.prog w = .ok (.tuple #[.bool true, .string s, v]) w' ∧
      HmR w' base bM r i f S (fun x => left x && !x.sameKey (.string s.data.toList)) cnt' ∧ cnt' < cnt ∧ w.grownBy w' (some r) ∧ w'.heap.size = w.heap.size ∧ (Instr.entry (.pointer (some ⟨r, 0, none⟩))).run Tryz.prog w' = .ok (.tuple #[.string s, v]) w' ∧
      w'.ownsRow base 144 3 v (f s.data.toList).length ((f s.data.toList).flatMap encHd) ∧
      (Instr.lookup 136 (.map (some bM)) (.string s) true).run Tryz.prog w' = .ok (.tuple #[v, .bool true]) w' := by
  obtain ⟨F, c, h1, h2, h3⟩ := h.ex
  have hrn := mapF_is h1.map
  have hrl := h1.lt
  rcases h1.next (string_keyed Tryz.underlying9) ty with h5 | ⟨key, v, kl, w', cnt', a1, a2, a3, a5, a6, a7, a8, a9, a10⟩
  · exact .inl h5
  · obtain ⟨s, rfl, rfl, hs⟩ := str_inv a1
    have hrt : ∀ c t fz, w.heap[r]? ≠ some (.cells c t fz) := by
      obtain ⟨D, hr, _⟩ := h1
      obtain ⟨_, _, _, _, _, _, _, _, _, hr, _⟩ := hr
      intro c t fz e
      rw [hr] at e
      cases e
    -- the iterator's block is no cells: rows and lists stay
    have hv3 : HmV w' base bM F f S := by
      refine ⟨fun q => own_blockU (h3.own q) fun g hg => ?_, h3.nb, h3.sep, fun q i hi => ?_, h3.inS, fun k hS => ?_⟩
      rotate_left 2
      · obtain ⟨g1, c, fz, g2⟩ := h3.typ k hS
        exact ⟨g1, c, fz, (a8.block k (Array.getElem?_eq_some_iff.1 g2).1 fun e => by
          have e' : k = r := by injection e
          exact hrt c 144 fz (e' ▸ g2)).trans g2⟩
      · obtain ⟨cc, fz, hc⟩ := own_cells (h3.own q) hg
        exact a8.block g (Array.getElem?_eq_some_iff.1 hc).1 fun e => by
          have e' : g = r := by injection e
          exact hrt cc 144 fz (e' ▸ hc)
      · refine ⟨?_, (h3.rows q i hi).2⟩
        have hk := (h3.rows q i hi).1
        have hne : 0 < i.n → ∀ b off m, i.A = some ⟨b, off, m⟩ → b ≠ r := fun h0 b off m e hb => by
          obtain ⟨b', off', e', hlt, hcell⟩ := hk.rd.2 h0
          rw [e'] at e
          injection e with e
          injection e with e1
          rw [hb] at e1
          have hl : 0 < (i.r.flatMap encV).length := by rw [hk.rd.1]; omega
          have := hcell 0 _ (List.getElem?_eq_getElem hl)
          rw [e1] at this
          unfold World.cell? at this
          obtain ⟨D, hr, _⟩ := h1
          obtain ⟨_, _, _, _, _, _, _, _, _, hr, _⟩ := hr
          simp [hr] at this
        refine ⟨⟨hk.rd.1, fun h0 => ?_⟩, fun h0 b off m e => ?_, hk.le⟩
        · obtain ⟨b, off, e, hlt, hcell⟩ := hk.rd.2 h0
          refine ⟨b, off, e, by rw [a9]; exact hlt, fun j u hu => ?_⟩
          rw [World.cell?_of_block (a8.block b hlt fun e2 => hne h0 b off none e (by injection e2))]
          exact hcell j u hu
        · rcases hk.at_ h0 b off m e with h6 | ⟨cc, fz, h6⟩
          · exact .inl h6
          · exact .inr ⟨cc, fz, by rw [a8.block b (Array.getElem?_eq_some_iff.1 h6).1 fun e2 => hne h0 b off m e (by injection e2)]; exact h6⟩
    have hvv : vOf F s.data.toList = v := by unfold vOf; rw [a3]; rfl
    have hz : (zeroValue 184).run Tryz.prog w' = .ok (.slice none 0 0) w' := by kernel_rfl
    have hlk := a6.map.look_ok (string_keyed Tryz.underlying9) Tryz.underlying136 hz a1
    rw [a3] at hlk
    have ho := hv3.own s.data.toList
    rw [hvv] at ho
    exact .inr ⟨s, v, w', cnt', hs, a2, a5, ⟨⟨F, c, a6, h2, hv3⟩, h.low⟩, a7, a8, a9, a10, ho, hlk⟩
/-- A store at the key that came. -/
theorem HmR.put (h : HmR w base bM r i f S left cnt) (hi : i < 1000000) {s : ByteArray} (hs : s.data.size ≤ maxLen) {v v' : Value} {l' : List Hd} (hin : (Instr.lookup 136 (.map (some bM)) (.string s) true).run Tryz.prog w = .ok (.tuple #[v, .bool true]) w) (hb : Below w.heap.size w w1)
    (hown : w1.ownsRow w.heap.size 144 3 v' l'.length (l'.flatMap encHd)) (hbase : base ≤ w.heap.size) (hrows : RowsH w1 base l') :
    ∃ w2, (Instr.mapUpdate 136 (.map (some bM)) (.string s) v').run Tryz.prog w1 = .ok () w2 ∧ HmR w2 base bM r i (fun q => if q = s.data.toList then l' else f q) (fun k => S k ∨ v'.ownBlock = some k) left cnt ∧ w1.grownBy w2 (some bM) := by
  obtain ⟨F, c, h1, h2, h3⟩ := h.ex
  have hr1 := h1.kept (w' := w1) (row := none) ⟨hb.os, hb.tape, hb.output, hb.size, fun k hk _ => hb.block k hk⟩ nofun nofun
  have hlt := h1.map.lt
  have hsome : (F (.string s.data.toList)).isSome = true := by
    have hz : (zeroValue 184).run Tryz.prog w = .ok (.slice none 0 0) w := by kernel_rfl
    have e := h1.map.look_ok (string_keyed Tryz.underlying9) Tryz.underlying136 hz (str_key hs)
    rw [hin] at e
    cases hF : F (.string s.data.toList) with
    | some u => rfl
    | none =>
      rw [hF] at e
      have e1 := Value.tuple.inj (Result.ok.inj e).1
      have e2 : some (Value.bool true) = some (Value.bool false) := congrArg (fun a : Array Value => a[1]?) e1
      exact nomatch e2
  have hat : v'.ownBlock = none ∨ v'.ownBlock = (vOf F s.data.toList).ownBlock ∨ ∃ g, v'.ownBlock = some g ∧ w.heap.size ≤ g := by
    cases e : v'.ownBlock with
    | none => exact .inl rfl
    | some g => exact .inr (.inr ⟨g, rfl, (hown.lt g e).1⟩)
  have hnb : v'.ownBlock ≠ some bM := fun e => by have := (hown.lt bM e).1; omega
  have hV0 := h3.put (kk := s.data.toList) (w1 := w1) (fun k a _ _ => hb.block k a) hb.size (mapF_not h1.map) h.low (own_mono hown hbase) hrows hat hnb
  have hV1 : HmV w1 base bM (putF F (.string s.data.toList) v') (fun q => if q = s.data.toList then l' else f q) (fun k => S k ∨ v'.ownBlock = some k) :=
    ⟨hV0.own, hV0.nb, hV0.sep, hV0.rows, fun q g hg => (hV0.inS q g hg).imp (fun h => h.1) id, fun k hk => by
      rcases hk with hk | hk
      · obtain ⟨g1, c, fz, g2⟩ := h3.typ k hk
        exact ⟨g1, c, fz, (hb.block k (Array.getElem?_eq_some_iff.1 g2).1).trans g2⟩
      · exact hV0.typ k (.inr hk)⟩
  obtain ⟨w2, hrun, r1, r2, _⟩ := hr1.store (string_keyed Tryz.underlying9) Tryz.underlying136 (by unfold maxLen; omega) (str_key hs) hsome v'
  have m2 := mapF_not hr1.map
  exact ⟨w2, hrun, ⟨⟨_, c, r1, h2, hV1.keep (p := fun k => k = bM) (fun k hk hp => r2.block k hk fun e => hp (by injection e)) r2.size (by
    rintro k rfl
    exact ⟨h.low, fun c fz => m2 c _ fz, fun c fz => m2 c _ fz⟩)⟩, h.low⟩, r2⟩
/-- The key that came is taken out: it holds nothing. -/
theorem HmR.drop (h : HmR w base bM r i f S left cnt) {s : ByteArray} (hs : s.data.size ≤ maxLen) (he : f s.data.toList = []) (ty : TypeId) :
    ∃ w2 cnt', (Builtin.delete_ #[136, 9] ty #[.map (some bM), .string s]).run Tryz.prog w = .ok (.tuple #[]) w2 ∧ HmR w2 base bM r i f S (fun x => left x && !x.sameKey (.string s.data.toList)) cnt' ∧ cnt' ≤ cnt ∧ w.grownBy w2 (some bM) := by
  obtain ⟨F, c, h1, h2, h3⟩ := h.ex
  obtain ⟨w2, cnt', hrun, r1, r2, r3⟩ := h1.drop (string_keyed Tryz.underlying9) Tryz.underlying136 (str_key hs) ty
  have m2 := mapF_not h1.map
  exact ⟨w2, cnt', hrun, ⟨⟨_, c, r1, h2, (h3.del he).keep (p := fun k => k = bM) (fun k hk hp => r3.block k hk fun e => hp (by injection e)) r3.size (by
    rintro k rfl
    exact ⟨h.low, fun c fz => m2 c _ fz, fun c fz => m2 c _ fz⟩)⟩, h.low⟩, r2, r3⟩
end
end Go.Proofs.YtoapjidpfghnlaaGreatDoor
