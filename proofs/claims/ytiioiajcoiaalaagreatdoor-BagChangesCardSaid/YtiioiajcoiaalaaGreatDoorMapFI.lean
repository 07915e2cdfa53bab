/-
  What bag.gathered computes, in plain words.
  A map that a call makes, told as a function from keys to the values it holds, whatever the values are. Plain theorems over any program.
  A store into a map of the call's own, inside a fence.
-/
import Derived.Test.YtiioiajcoiaalaaGreatDoorTxI
import Derived.Test.YtiioiajcoiaalaaGreatDoorBgB
import Derived.Test.YtiioiajcoiaalaaGreatDoorMem
import Derived.Maps.Own
import Derived.Maps.OwnSet
import Derived.MapViews
import Derived.Test.YtiioiajcoiaalaaGreatDoorBar
import Derived.Maps.OwnIn
namespace Go.Proofs.YtiioiajcoiaalaaGreatDoor

section
/-- The place of a text among the rows. -/
def gidx (d : Bg) (t : List UInt8) : Option Nat := d.findIdx? fun x => decide (rowT x.1 = t)
theorem gidx_some {d : Bg} {t : List UInt8} {i : Nat} (h : gidx d t = some i) : ∃ x, d[i]? = some x ∧ rowT x.1 = t := by
  unfold gidx at h
  rw [List.findIdx?_eq_some_iff_getElem] at h
  obtain ⟨h1, h2, _⟩ := h
  exact ⟨d[i], List.getElem?_eq_getElem h1, by simpa using h2⟩
theorem gidx_none {d : Bg} {t : List UInt8} (h : gidx d t = none) : ∀ x ∈ d, rowT x.1 ≠ t := by
  unfold gidx at h
  rw [List.findIdx?_eq_none_iff] at h
  intro x hx
  simpa using h x hx
theorem gidx_lt {d : Bg} {t : List UInt8} {i : Nat} (h : gidx d t = some i) : i < d.length := by
  obtain ⟨x, hx, _⟩ := gidx_some h
  exact (List.getElem?_eq_some_iff.1 hx).1
theorem gidx_snoc {d : Bg} {r : Rw} {n : Int} (h : gidx d (rowT r) = none) (t : List UInt8) : gidx (d ++ [(r, n)]) t = if t = rowT r then some d.length else gidx d t := by
  unfold gidx at h ⊢
  rw [List.findIdx?_append]
  by_cases e : t = rowT r
  · subst e
    rw [h, if_pos rfl]
    simp
  · rw [if_neg e]
    have : ([(r, n)] : Bg).findIdx? (fun x => decide (rowT x.1 = t)) = none := by
      rw [List.findIdx?_eq_none_iff]
      intro x hx
      rw [List.mem_singleton] at hx
      subst hx
      simpa using fun e2 => e e2.symm
    rw [this]
    simp
theorem gidx_keys {d d' : Bg} (h : d.map (·.1) = d'.map (·.1)) (t : List UInt8) : gidx d t = gidx d' t := by
  have h1 : ∀ e : Bg, gidx e t = (e.map (·.1)).findIdx? fun x => decide (rowT x = t) := by
    intro e
    unfold gidx
    rw [List.findIdx?_map]
    rfl
  rw [h1, h1, h]
theorem set_keys {d : Bg} {i : Nat} {r : Rw} {n m : Int} (h : d[i]? = some (r, n)) : (d.set i (r, m)).map (·.1) = d.map (·.1) := by
  rw [List.map_set]
  apply List.ext_getElem?
  intro j
  rw [List.getElem?_set]
  split
  · rename_i e
    subst e
    split
    · rw [List.getElem?_map, h]; rfl
    · rename_i hl
      rw [List.getElem?_eq_none (by omega)]
  · rfl
/-- One row more, so many times. -/
def gstepB (d : Bg) (x : Rw × Int) : Bg := match gidx d (rowT x.1) with
  | some i => d.set i (x.1, (d.getD i ([], 0)).2 + x.2)
  | none => d ++ [x]
def gat (xs : Bg) : Bg := xs.foldl gstepB []
theorem gat_nil : gat [] = [] := rfl
theorem gat_snoc (xs : Bg) (x : Rw × Int) : gat (xs ++ [x]) = gstepB (gat xs) x := by simp [gat]
theorem gstep_some {d : Bg} {x : Rw × Int} {i : Nat} {y : Rw × Int} (h : gidx d (rowT x.1) = some i) (hy : d[i]? = some y) : gstepB d x = d.set i (x.1, y.2 + x.2) := by
  unfold gstepB
  rw [h]
  simp only [List.getD, hy, Option.getD_some]
theorem gstep_none {d : Bg} {x : Rw × Int} (h : gidx d (rowT x.1) = none) : gstepB d x = d ++ [x] := by
  unfold gstepB; rw [h]
/-- How often a row is told. -/
def sumG : Bg → Rw → Int
  | [], _ => 0
  | x :: xs, r => (if x.1 = r then x.2 else 0) + sumG xs r
theorem sumG_app (a b : Bg) (r : Rw) : sumG (a ++ b) r = sumG a r + sumG b r := by
  induction a with
  | nil => simp [sumG]
  | cons x a ih => simp only [List.cons_append, sumG, ih]; omega
theorem sumG_one (x : Rw × Int) (r : Rw) : sumG [x] r = if x.1 = r then x.2 else 0 := by simp [sumG]
theorem sumG_look {b : Bg} (h : b.Pairwise fun x y => x.1 ≠ y.1) (r : Rw) : sumG b r = look b r := by
  induction b with
  | nil => rfl
  | cons x b ih =>
    rw [List.pairwise_cons] at h
    rw [sumG, look, ih h.2]
    split
    · rename_i e
      rw [look_far fun y hy e2 => h.1 y hy (by rw [e, e2])]
      omega
    · omega
theorem asc_apart {b : Bg} (h : Asc b) : b.Pairwise fun x y => x.1 ≠ y.1 := h.up.imp fun h => cmp_ne h
theorem sumG_asc {b : Bg} (h : Asc b) (r : Rw) : sumG b r = look b r := sumG_look (asc_apart h) r
theorem look_in {b : Bg} (h : b.Pairwise fun x y => x.1 ≠ y.1) {x : Rw × Int} (hx : x ∈ b) : look b x.1 = x.2 := by
  induction b with
  | nil => cases hx
  | cons y b ih =>
    rw [List.pairwise_cons] at h
    rw [look]
    rcases List.mem_cons.1 hx with rfl | hx
    · rw [if_pos rfl]
    · rw [if_neg (h.1 x hx)]
      exact ih h.2 hx
/-- What is known of the rows that are gathered. -/
structure GatOk (xs d : Bg) : Prop where
  ok : ∀ x ∈ d, okR x.1 = true
  apart : d.Pairwise fun x y => x.1 ≠ y.1
  sum : ∀ r, look d r = sumG xs r
theorem look_snoc {d : Bg} {x : Rw × Int} (h : ∀ y ∈ d, y.1 ≠ x.1) (r : Rw) : look (d ++ [x]) r = if x.1 = r then x.2 else look d r := by
  induction d with
  | nil => simp [look]
  | cons y d ih =>
    have h1 := h y List.mem_cons_self
    rw [List.cons_append, look, ih fun z hz => h z (List.mem_cons_of_mem _ hz), look]
    by_cases e : y.1 = r
    · rw [if_pos e, if_pos e, if_neg (fun e2 => h1 (by rw [e, e2]))]
    · rw [if_neg e, if_neg e]
theorem look_set : ∀ {d : Bg} {i : Nat} {y : Rw × Int} {m : Int}, (d.Pairwise fun x y => x.1 ≠ y.1) → d[i]? = some y → ∀ r, look (d.set i (y.1, m)) r = if y.1 = r then m else look d r
  | [], i, y, m, _, hy, r => by simp at hy
  | x :: d, 0, y, m, h, hy, r => by
    simp at hy
    subst hy
    rw [List.set_cons_zero, look, look]
    split <;> rfl
  | x :: d, i + 1, y, m, h, hy, r => by
    rw [List.pairwise_cons] at h
    have hy' : d[i]? = some y := by simpa using hy
    have h1 := h.1 y (List.mem_of_getElem? hy')
    rw [List.set_cons_succ, look, look_set h.2 hy' r, look]
    by_cases e : x.1 = r
    · rw [if_pos e, if_pos e, if_neg (fun e2 => h1 (by rw [e, e2]))]
    · rw [if_neg e, if_neg e]
theorem gat_ok {xs : Bg} (h : ∀ x ∈ xs, okR x.1 = true) : GatOk xs (gat xs) := by
  have gen : ∀ (ys : Bg), (∀ x ∈ ys, okR x.1 = true) → GatOk ys (gat ys) := by
    intro ys
    induction hn : ys.length generalizing ys with
    | zero =>
      intro _
      obtain rfl : ys = [] := List.eq_nil_of_length_eq_zero hn
      exact ⟨by simp [gat], List.Pairwise.nil, fun _ => rfl⟩
    | succ n ih =>
      intro hy
      obtain ⟨zs, x, rfl⟩ : ∃ zs x, ys = zs ++ [x] := ⟨ys.dropLast, ys.getLast (by intro e; rw [e] at hn; cases hn), (List.dropLast_concat_getLast _).symm⟩
      have hz := ih zs (by simp at hn; omega) fun y hy2 => hy y (List.mem_append_left _ hy2)
      have hx := hy x (by simp)
      rw [gat_snoc]
      cases hg : gidx (gat zs) (rowT x.1) with
      | none =>
        rw [gstep_none hg]
        have hfar : ∀ y ∈ gat zs, y.1 ≠ x.1 := fun y hy2 e => gidx_none hg y hy2 (by rw [e])
        refine ⟨fun y hy2 => ?_, ?_, fun r => ?_⟩
        · rcases List.mem_append.1 hy2 with h1 | h1
          · exact hz.ok y h1
          · rw [List.mem_singleton.1 h1]; exact hx
        · rw [List.pairwise_append]
          exact ⟨hz.apart, List.pairwise_singleton _ _, fun a ha b hb => by rw [List.mem_singleton.1 hb]; exact hfar a ha⟩
        · rw [look_snoc hfar, sumG_app, sumG_one]
          split
          · rename_i e
            rw [← hz.sum, look_far fun y hy2 => by rw [← e]; exact hfar y hy2]
            omega
          · rw [hz.sum]; omega
      | some i =>
        obtain ⟨y, hy1, hy2⟩ := gidx_some hg
        have hky : y.1 = x.1 := rowT_inj (hz.ok y (List.mem_of_getElem? hy1)) hx hy2
        rw [gstep_some hg hy1, ← hky]
        have hkeys := set_keys (m := y.2 + x.2) (show (gat zs)[i]? = some (y.1, y.2) from hy1)
        refine ⟨fun z hz2 => ?_, ?_, fun r => ?_⟩
        · have h1 : z.1 ∈ ((gat zs).set i (y.1, y.2 + x.2)).map (·.1) := List.mem_map.2 ⟨z, hz2, rfl⟩
          rw [hkeys] at h1
          obtain ⟨u, hu, hu2⟩ := List.mem_map.1 h1
          rw [← hu2]; exact hz.ok u hu
        · have h1 : (((gat zs).set i (y.1, y.2 + x.2)).map (·.1)).Pairwise (· ≠ ·) := by rw [hkeys]; exact List.pairwise_map.2 hz.apart
          exact List.pairwise_map.1 h1
        · rw [look_set hz.apart hy1, sumG_app, sumG_one, ← hky]
          split
          · rename_i e
            have := look_in hz.apart (List.mem_of_getElem? hy1)
            rw [← e, ← hz.sum, this]
          · rw [hz.sum]; omega
  exact gen xs h
/-- A bag that tells how often rows were told. -/
structure Net (xs d : Bg) : Prop where
  asc : Asc d
  ne : ∀ x ∈ d, x.2 ≠ 0
  sum : ∀ r, look d r = sumG xs r
theorem Net.same {xs ys d e : Bg} (h : Net xs d) (k : Net ys e) (hs : ∀ r, sumG xs r = sumG ys r) : d = e :=
  Asc.ext h.asc k.asc h.ne k.ne fun r => by rw [h.sum, k.sum, hs]
theorem Net.one {b : Bg} (h : okBag b = true) : Net b b := by
  obtain ⟨h1, h2, _⟩ := okBag_asc h
  exact ⟨h1, fun x hx => (numB_ne (h2 x hx)).1, fun r => (sumG_asc h1 r).symm⟩
theorem look_perm {a b : Bg} (hp : a.Perm b) (hb : b.Pairwise fun x y => x.1 ≠ y.1) (r : Rw) : look a r = look b r := by
  have ha : a.Pairwise fun x y => x.1 ≠ y.1 := (hp.pairwise_iff fun h => Ne.symm h).2 hb
  by_cases h : ∃ x ∈ a, x.1 = r
  · obtain ⟨x, hx, rfl⟩ := h
    rw [look_in ha hx, look_in hb (hp.mem_iff.1 hx)]
  · rw [look_far fun x hx e => h ⟨x, hx, e⟩, look_far fun x hx e => h ⟨x, hp.mem_iff.2 hx, e⟩]
theorem look_filter {b : Bg} (hb : b.Pairwise fun x y => x.1 ≠ y.1) (r : Rw) : look (b.filter fun x => decide (x.2 ≠ 0)) r = look b r := by
  have hf : (b.filter fun x => decide (x.2 ≠ 0)).Pairwise fun x y => x.1 ≠ y.1 := hb.sublist List.filter_sublist
  by_cases h : ∃ x ∈ b, x.1 = r
  · obtain ⟨x, hx, rfl⟩ := h
    rw [look_in hb hx]
    by_cases h0 : x.2 = 0
    · rw [h0]
      refine look_far fun y hy e => ?_
      rw [List.mem_filter] at hy
      have h1 := look_in hb hy.1
      rw [e, look_in hb hx, h0] at h1
      have h2 := hy.2
      simp at h2
      exact h2 h1.symm
    · exact look_in hf (List.mem_filter.2 ⟨hx, by simpa using h0⟩)
  · rw [look_far fun x hx e => h ⟨x, hx, e⟩, look_far fun x hx e => h ⟨x, (List.mem_filter.1 hx).1, e⟩]
theorem gat_done {xs d : Bg} (h : ∀ x ∈ xs, okR x.1 = true) (hp : d.Perm ((gat xs).filter fun x => decide (x.2 ≠ 0))) (hs : d.Pairwise fun x y => ¬ cmpR y.1 x.1 < 0) : Net xs d := by
  have g := gat_ok h
  have ha : ((gat xs).filter fun x => decide (x.2 ≠ 0)).Pairwise fun x y => x.1 ≠ y.1 := g.apart.sublist List.filter_sublist
  have hd : d.Pairwise fun x y => x.1 ≠ y.1 := (hp.pairwise_iff fun h => Ne.symm h).2 ha
  have hm : ∀ x ∈ d, x ∈ gat xs ∧ x.2 ≠ 0 := fun x hx => by
    have := List.mem_filter.1 (hp.mem_iff.1 hx)
    exact ⟨this.1, by simpa using this.2⟩
  refine ⟨⟨fun x hx => g.ok x (hm x hx).1, ?_⟩, fun x hx => (hm x hx).2, fun r => by rw [look_perm hp ha, look_filter g.apart, g.sum]⟩
  have h3 := List.pairwise_and_iff.2 ⟨hs, hd⟩
  refine List.Pairwise.imp_of_mem (fun {x y} hx hy hxy => ?_) h3
  obtain ⟨h4, h5⟩ := hxy
  have h6 := Tot.row.anti x.1 y.1
  rcases Int.lt_trichotomy (cmpR x.1 y.1) 0 with h7 | h7 | h7
  · exact h7
  · exact absurd (okR_eq (g.ok x (hm x hx).1) (g.ok y (hm y hy).1) h7) h5
  · omega
/-- What the reference's After computes. -/
def aftB (b l : Bg) : Bg := l.foldl (fun o x => putB o x.1 x.2) b
theorem aft_snoc (b l : Bg) (x : Rw × Int) : aftB b (l ++ [x]) = putB (aftB b l) x.1 x.2 := by simp [aftB]
theorem aft_ok {b l : Bg} (hl : ∀ x ∈ l, okR x.1 = true) (hb : Asc b) (hn : ∀ x ∈ b, x.2 ≠ 0) : Net (b ++ l) (aftB b l) := by
  have gen : ∀ (n : Nat) (l : Bg), l.length = n → (∀ x ∈ l, okR x.1 = true) → Net (b ++ l) (aftB b l) := by
    intro n
    induction n with
    | zero =>
      intro l hl _
      obtain rfl : l = [] := List.eq_nil_of_length_eq_zero hl
      exact ⟨hb, hn, fun r => by rw [List.append_nil, sumG_asc hb]; rfl⟩
    | succ n ih =>
      intro l hl hk
      obtain ⟨zs, x, rfl⟩ : ∃ zs x, l = zs ++ [x] := ⟨l.dropLast, l.getLast (by intro e; rw [e] at hl; cases hl), (List.dropLast_concat_getLast _).symm⟩
      have hz := ih zs (by simp at hl; omega) fun y hy => hk y (List.mem_append_left _ hy)
      have hx := hk x (by simp)
      rw [aft_snoc, putB_ins hz.asc.up]
      obtain ⟨h1, h2, h3⟩ := ins_ok hx x.2 hz.asc hz.ne
      refine ⟨h1, h2, fun r => ?_⟩
      rw [h3, ← List.append_assoc, sumG_app, sumG_one, ← hz.sum]
      split
      · rename_i e; rw [e]
      · omega
  exact gen l.length l rfl hl
end

section
open Go.RowKit Go.Maps

/-- A value as it lies in a map: a token for itself. -/
def Rv (v : Value) : Option (DataW Value × List MemPlace) := some (.held v, [])
/-- Block b of w is a map of at most n entries that holds F. -/
def MapF (w : World) (P : Program) (k : TypeId) (b n : Nat) (F : Lit → Option Value) : Prop :=
  ∃ D : DataW Value, w.ownsMap P k Rv b n D ∧ IsMap D ∧ (∀ kl, Maps.has D kl = (F kl).isSome) ∧ ∀ kl z, D.atKey kl z = match F kl with | some v => .held v | none => z

section
variable {P : Program} {w w' : World} {k : TypeId} {b n : Nat} {F : Lit → Option Value}
theorem MapF.made (w : World) (P : Program) (k : TypeId) : MapF (w.alloc (.map #[] 0)) P k w.heap.size 0 (fun _ => none) :=
  ⟨.map [], World.ownsMap_made _ _ _ _, isMap_empty, fun _ => rfl, fun _ _ => rfl⟩
theorem MapF.kept {row : Option Nat} (h : MapF w P k b n F) (hg : w.grownBy w' row) (hne : some b ≠ row) : MapF w' P k b n F := by
  obtain ⟨D, h1, h2⟩ := h
  exact ⟨D, h1.kept hg hne, h2⟩
theorem MapF.alloc (h : MapF w P k b n F) (o : Obj) : MapF (w.alloc o) P k b n F := by
  obtain ⟨D, h1, h2⟩ := h
  exact ⟨D, h1.alloc o, h2⟩
theorem MapF.drew (h : MapF w P k b n F) : MapF w.drew P k b n F := h
theorem MapF.drewN (h : MapF w P k b n F) (m : Nat) : MapF (w.drewN m) P k b n F := h
theorem MapF.mono (h : MapF w P k b n F) {m : Nat} (hm : n ≤ m) : MapF w P k b m F := by
  obtain ⟨D, h1, h2⟩ := h
  exact ⟨D, h1.mono hm, h2⟩
theorem MapF.lt (h : MapF w P k b n F) : b < w.heap.size := by
  obtain ⟨D, h1, _⟩ := h
  exact h1.lt
theorem MapF.setCell (h : MapF w P k b n F) {a : Addr} (ha : b ≠ a.block) (u : Value) : MapF (w.setCell a u) P k b n F := by
  obtain ⟨D, h1, h2⟩ := h
  exact ⟨D, h1.setCell ha u, h2⟩
theorem MapF.block (h : MapF w P k b n F) (hk : w'.heap[b]? = w.heap[b]?) : MapF w' P k b n F := by
  obtain ⟨D, ⟨es, clock, h1, h2⟩, h3⟩ := h
  exact ⟨D, ⟨es, clock, hk.trans h1, h2⟩, h3⟩
theorem MapF.below {B : Nat} (h : MapF w P k b n F) (hb : Below B w w') (hlt : b < B) : MapF w' P k b n F := h.block (hb.block b hlt)
theorem MapF.look {t e : TypeId} (h : MapF w P k b n F) (K : Keyed P k) (ht : P.underlying t = some (.map k e)) {z : Value} (hz : (zeroValue e).run P w = .ok z w) {key : Value} {kl : Lit} (hkey : keyOf P k key = some kl) :
    (Instr.lookup t (.map (some b)) key false).run P w = .ok ((F kl).getD z) w := by
  obtain ⟨D, h1, h2, h3, h4⟩ := h
  obtain ⟨v, ps, hrun, hv⟩ := h1.lookup K ht hz (show Rv z = some (.held z, []) from rfl) hkey
  rw [h4] at hv
  rw [hrun]
  congr 1
  unfold Rv at hv
  cases hF : F kl with
  | none => rw [hF] at hv; simp at hv; exact hv.1
  | some u => rw [hF] at hv; simp at hv; exact hv.1
theorem MapF.look_ok {t e : TypeId} (h : MapF w P k b n F) (K : Keyed P k) (ht : P.underlying t = some (.map k e)) {z : Value} (hz : (zeroValue e).run P w = .ok z w) {key : Value} {kl : Lit} (hkey : keyOf P k key = some kl) :
    (Instr.lookup t (.map (some b)) key true).run P w = .ok (.tuple #[(F kl).getD z, .bool (F kl).isSome]) w := by
  obtain ⟨D, h1, h2, h3, h4⟩ := h
  obtain ⟨v, ps, hrun, hv⟩ := h1.look_ok K ht hz (show Rv z = some (.held z, []) from rfl) hkey
  rw [h4] at hv
  rw [hrun, h3]
  congr 2
  unfold Rv at hv
  cases hF : F kl with
  | none => rw [hF] at hv; simp at hv; rw [hv.1]; rfl
  | some u => rw [hF] at hv; simp at hv; rw [hv.1]; rfl
open Classical in
/-- One entry more. -/
noncomputable def putF (F : Lit → Option Value) (kl : Lit) (v : Value) : Lit → Option Value := fun x => if x = kl then some v else F x
theorem wpList_putF (w : World) {ops : Array Oper} {rest : List Oper} {o : Oper} {a : Act} {Q : Exit → Act → World → Prop} {b n : Nat} {F : Lit → Option Value} (hg : o.guard = none) (m x v : Operand) (t : TypeId) (hop : o.op = Op.mapUpdate t m x v) (k e : TypeId) (K : Keyed P k) (ht : P.underlying t = some (.map k e))
    (h : MapF w P k b n F) (hn : n < maxLen) (key val : Value) (kl : Lit) (hm : a.eval m = .map (some b)) (hx : a.eval x = key) (hv : a.eval v = val) (hkey : keyOf P k key = some kl)
    (hK : ∀ w', MapF w' P k b (n + 1) (putF F kl val) → w.grownBy w' (some b) → wpList P ops Q rest (a.put o.dst undef) w') : wpList P ops Q (o :: rest) a w := by
  obtain ⟨D, h1, h2, h3, h4⟩ := h
  refine wpList_mapUpdate_own w hg m x v t hop k e K ht Rv b n D hm h1 hn key val kl hx hv hkey (.held val) [] rfl ?_
  intro w' ho hgr
  refine hK w' ⟨_, ho, h2.put _ _, ?_, ?_⟩ hgr
  · intro y
    unfold putF
    by_cases e : y = kl
    · subst e
      rw [if_pos rfl, has_put_same h2 (K.key hkey)]
      rfl
    · rw [if_neg e, has_put_other e, h3]
  · intro y z
    unfold putF
    by_cases e : y = kl
    · subst e
      rw [if_pos rfl, atKey_put_same h2 (K.key hkey)]
    · rw [if_neg e, atKey_put_other e, h4]
end
end

section
open Go.RowKit Go.Maps
theorem wpListIn_putF {Fn : Fence} {dn : Nat} {P : Program} (w : World) {ops : Array Oper} {rest : List Oper} {o : Oper} {a : Act} {Q : Exit → Act → World → Prop} {b n : Nat} {F : Lit → Option Value} (hg : o.guard = none) (m x v : Operand) (t : TypeId) (hop : o.op = Op.mapUpdate t m x v) (k e : TypeId) (K : Keyed P k) (ht : P.underlying t = some (.map k e))
    (h : MapF w P k b n F) (hn : n < maxLen) (key val : Value) (kl : Lit) (hm : a.eval m = .map (some b)) (hx : a.eval x = key) (hv : a.eval v = val) (hkey : keyOf P k key = some kl)
    (hK : ∀ w', MapF w' P k b (n + 1) (putF F kl val) → w.grownBy w' (some b) → wpListIn Fn dn P ops Q rest (a.put o.dst undef) w') : wpListIn Fn dn P ops Q (o :: rest) a w := by
  obtain ⟨D, h1, h2, h3, h4⟩ := h
  refine wpListIn_mapUpdate_own w hg m x v t hop k e K ht Rv b n D hm h1 hn key val kl hx hv hkey (.held val) [] rfl ?_
  intro w' ho hgr
  refine hK w' ⟨_, ho, h2.put _ _, ?_, ?_⟩ hgr
  · intro y
    unfold putF
    by_cases e : y = kl
    · subst e
      rw [if_pos rfl, has_put_same h2 (K.key hkey)]
      rfl
    · rw [if_neg e, has_put_other e, h3]
  · intro y z
    unfold putF
    by_cases e : y = kl
    · subst e
      rw [if_pos rfl, atKey_put_same h2 (K.key hkey)]
    · rw [if_neg e, atKey_put_other e, h4]
end

end Go.Proofs.YtiioiajcoiaalaaGreatDoor
