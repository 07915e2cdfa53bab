/-
  The walk of the reference's lines.
  Lines while their first places are written. Plain memory; no condition.
-/
import Derived.Test.YtljglceaibgknaaGreatDoorRkY
import Derived.Test.YtljglceaibgknaaGreatDoorBgS5
import Derived.Deep.CutRange
namespace Go.Proofs.YtljglceaibgknaaGreatDoor

section
open Go.RowKit
attribute [local go_sem] Oper.semAt_some
set_option linter.unusedVariables false
set_option linter.unusedSimpArgs false

/-- A line in memory. -/
structure Ln where
  i : It
  A : Option Addr
  n : Nat
  c : Nat
  f : Int
def encLn (x : Ln) : List Value := [.slice x.i.A x.i.n x.i.c, .int .i64 x.i.m, .slice x.A x.n x.c, .int .i64 x.f]
theorem encLn_len (x : Ln) : (encLn x).length = 4 := rfl
def dLn (x : Ln) : Rw × Int := (x.i.r, x.i.m)
theorem infoLn : (Tryz.prog.info? 97).map (fun i => (i.zero, i.size, i.bytes)) = some (some (.agg #[.slice none 0 0, .int .i64 0, .slice none 0 0, .int .i64 0]), 4, 64) := by kernel_rfl
/-- The rows of lines. -/
def LnK (s : Stp) (W : World) (B : Nat) (l : List Ln) : Prop := ∀ x ∈ l, RowK W B x.i.A x.i.n x.i.r ∧ RowK W B x.A x.n (gk s x.i.r)
theorem LnK.below {s : Stp} {W W' : World} {B : Nat} {l : List Ln} (h : LnK s W B l) (hb : Below W.heap.size W W') : LnK s W' B l := fun x hx => ⟨(h x hx).1.below hb, (h x hx).2.below hb⟩
theorem LnK.grown {s : Stp} {w w' : World} {B base : Nat} {l : List Ln} {e : TypeId} {size k : Nat} {v : Value} {xs : List Value} (h : LnK s w B l) (hown : w.ownsRow base e size v k xs) (he : e ≠ 68) (hB : B ≤ base) (hg : w.grownBy w' v.ownBlock) : LnK s w' B l := fun i hi => ⟨(h i hi).1.grown hown he hB hg, (h i hi).2.grown hown he hB hg⟩
theorem one_encLn (x : Ln) : ∀ u ∈ encLn x, u.oneCell' = true := by simp [encLn, Value.oneCell']
theorem one_encLns (l : List Ln) : ∀ u ∈ l.flatMap encLn, u.oneCell' = true := fun u hu => by
  obtain ⟨x, _, hx⟩ := List.mem_flatMap.1 hu
  exact one_encLn x u hx
/-- The lines so far: a list in blocks of the call's own. -/
structure LnI (w : World) (s : Stp) (k : Sk) (d : Bg) (v : Value) (W : World) : Prop where
  bel : Below w.heap.size w W
  box : BoxS W w.heap.size k s
  ow : ∃ l : List Ln, W.ownsRow (w.heap.size + 1) 97 4 v l.length (l.flatMap encLn) ∧ l.map dLn = d ∧ LnK s W w.heap.size l
theorem LnI.below {w W W' : World} {s : Stp} {k : Sk} {d : Bg} {v : Value} (h : LnI w s k d v W) (hb : Below W.heap.size W W') : LnI w s k d v W' := by
  obtain ⟨h1, hx, ⟨l, h2, h3, h4⟩⟩ := h
  exact ⟨bstep h1 hb, hx.below hb, ⟨l, own_below h2 hb, h3, h4.below hb⟩⟩
/-! Parts of a slice of lines. -/
theorem flat_takeL (l : List Ln) (j : Nat) : (l.take j).flatMap encLn = (l.flatMap encLn).take (j * 4) := by
  induction l generalizing j with
  | nil => simp
  | cons x l ih =>
    cases j with
    | zero => simp
    | succ j =>
      rw [List.take_succ_cons, List.flatMap_cons, List.flatMap_cons, ih, show (j + 1) * 4 = (encLn x).length + j * 4 by rw [encLn_len]; omega, List.take_length_add_append]
theorem flat_dropL (l : List Ln) (j : Nat) : (l.drop j).flatMap encLn = (l.flatMap encLn).drop (j * 4) := by
  induction l generalizing j with
  | nil => simp
  | cons x l ih =>
    cases j with
    | zero => simp
    | succ j =>
      rw [List.drop_succ_cons, List.flatMap_cons, ih, show (j + 1) * 4 = (encLn x).length + j * 4 by rw [encLn_len]; omega, List.drop_length_add_append]
theorem Reads.takeL {w : World} {B n j : Nat} {A : Option Addr} {l : List Ln} (h : Reads w B 4 A n (l.flatMap encLn)) (hj : j ≤ n) : Reads w B 4 A j ((l.take j).flatMap encLn) := by
  have hl := h.len encLn_len (by omega)
  refine ⟨by rw [flat_length encLn_len, List.length_take]; omega, fun h0 => ?_⟩
  obtain ⟨b, off, e, hb, hc⟩ := h.2 (by omega)
  refine ⟨b, off, e, hb, fun i u hu => hc i u ?_⟩
  rw [flat_takeL, List.getElem?_take] at hu
  split at hu
  · exact hu
  · cases hu
def dropA (A : Option Addr) (j c : Nat) : Option Addr := if c = j then A else A.map (·.add (j * 4))
theorem Reads.dropL {w : World} {B n j c : Nat} {A : Option Addr} {l : List Ln} (h : Reads w B 4 A n (l.flatMap encLn)) (hj : j ≤ n) (hc : n ≤ c) : Reads w B 4 (dropA A j c) (n - j) ((l.drop j).flatMap encLn) := by
  have hl := h.len encLn_len (by omega)
  refine ⟨by rw [flat_length encLn_len, List.length_drop, hl], fun h0 => ?_⟩
  obtain ⟨b, off, e, hb, hcl⟩ := h.2 (by omega)
  refine ⟨b, off + j * 4, by rw [e]; unfold dropA; rw [if_neg (by omega)]; simp [add_plain], hb, fun i u hu => ?_⟩
  rw [flat_dropL, List.getElem?_drop] at hu
  have := hcl _ u hu
  rw [Nat.add_assoc]
  exact this
theorem take_runL (A : Option Addr) (n c j : Nat) (hj : j ≤ n) (hc : n ≤ c) (w : World) :
    (Instr.slice 94 (.slice A n c) none (some (.int .i64 (j : Int))) none).run Tryz.prog w = .ok (.slice A j c) w := by
  have u := Tryz.underlying94
  have z := Tryz.sizeOf97
  have q1 : (0 : Int) ≤ (j : Int) := by omega
  have q2 : (j : Int) ≤ (c : Int) := by omega
  unfold Instr.slice
  go_simp
theorem drop_runL (A : Option Addr) (n c j : Nat) (hj : j ≤ n) (hc : n ≤ c) (w : World) :
    (Instr.slice 94 (.slice A n c) (some (.int .i64 (j : Int))) none none).run Tryz.prog w = .ok (.slice (dropA A j c) (n - j) (c - j)) w := by
  have u := Tryz.underlying94
  have z := Tryz.sizeOf97
  have q1 : (0 : Int) ≤ (j : Int) := by omega
  have q2 : (j : Int) ≤ (n : Int) := by omega
  unfold Instr.slice dropA
  by_cases h : c = j
  · subst h
    obtain rfl : c = n := by omega
    go_simp
  · go_simp
/-- One line more. -/
theorem LnI.ins {w wc X3 : World} {s : Stp} {k : Sk} {D : Bg} {v3 : Value} {l' : List Ln} {j N : Nat} (xl : Ln) (hbel : Below w.heap.size w wc) (hbox : BoxS wc w.heap.size k s) (hk : LnK s wc w.heap.size l') (h2 : l'.map dLn = D)
    (hx1 : RowK wc w.heap.size xl.i.A xl.i.n xl.i.r) (hx2 : RowK wc w.heap.size xl.A xl.n (gk s xl.i.r)) (hat : atL s (dLn xl) D D.length = j) (hw : w.heap.size + 1 ≤ wc.heap.size) (hB : Below wc.heap.size wc X3)
    (hown : X3.ownsRow wc.heap.size 97 4 v3 N ((l'.take j).flatMap encLn ++ encLn xl ++ (l'.drop j).flatMap encLn)) (hN : N = (l'.take j ++ [xl] ++ l'.drop j).length) : LnI w s k (stepL s D (dLn xl)) v3 X3 := by
  refine ⟨bstep hbel hB, hbox.below hB, ⟨l'.take j ++ [xl] ++ l'.drop j, ?_, ?_, fun y hy => ?_⟩⟩
  · rw [← hN]
    have e : (l'.take j ++ [xl] ++ l'.drop j).flatMap encLn = (l'.take j).flatMap encLn ++ encLn xl ++ (l'.drop j).flatMap encLn := by
      rw [List.flatMap_append, List.flatMap_append]; simp
    rw [e]
    exact own_mono hown hw
  · rw [stepL_at hat, ← h2]
    simp [List.map_take, List.map_drop]
  · have key : RowK wc w.heap.size y.i.A y.i.n y.i.r ∧ RowK wc w.heap.size y.A y.n (gk s y.i.r) := by
      rcases List.mem_append.1 hy with hy | hy
      · rcases List.mem_append.1 hy with hy | hy
        · exact hk y (List.mem_of_mem_take hy)
        · obtain rfl := List.mem_singleton.1 hy
          exact ⟨hx1, hx2⟩
      · exact hk y (List.mem_of_mem_drop hy)
    exact ⟨key.1.below hB, key.2.below hB⟩
/-- A line that is written into its box. -/
theorem line_set {X : World} {zb : Nat} {a b c d a0 b0 c0 d0 : Value} (kz : Blk X zb 97 #[a0, b0, c0, d0]) :
    Blk ((((X.setCell ⟨zb, 0, none⟩ a).setCell ⟨zb, 1, none⟩ b).setCell ⟨zb, 2, none⟩ c).setCell ⟨zb, 3, none⟩ d) zb 97 #[a, b, c, d] ∧
    (∀ (B0 : Nat) (W0 : World), Below B0 W0 X → B0 ≤ zb → Below B0 W0 ((((X.setCell ⟨zb, 0, none⟩ a).setCell ⟨zb, 1, none⟩ b).setCell ⟨zb, 2, none⟩ c).setCell ⟨zb, 3, none⟩ d)) ∧
    (∀ (B : Nat) (A : Option Addr) (n : Nat) (r : Rw), B ≤ zb → RowK X B A n r → RowK ((((X.setCell ⟨zb, 0, none⟩ a).setCell ⟨zb, 1, none⟩ b).setCell ⟨zb, 2, none⟩ c).setCell ⟨zb, 3, none⟩ d) B A n r) := by
  have k1 := kz.set_ 0 a
  have k2 := k1.set_ 1 b
  have k3 := k2.set_ 2 c
  have k4 := k3.set_ 3 d
  refine ⟨by simpa using k4, fun B0 W0 h h0 => (((h.setCell (p := ⟨zb, 0, none⟩) h0 a).setCell (p := ⟨zb, 1, none⟩) h0 b).setCell (p := ⟨zb, 2, none⟩) h0 c).setCell (p := ⟨zb, 3, none⟩) h0 d, fun B A n r h0 h => ?_⟩
  have h1 := h.setCell (p := ⟨zb, 0, none⟩) kz (by decide) h0 a
  have h2 := h1.setCell (p := ⟨zb, 1, none⟩) k1 (by decide) h0 b
  have h3 := h2.setCell (p := ⟨zb, 2, none⟩) k2 (by decide) h0 c
  exact h3.setCell (p := ⟨zb, 3, none⟩) k3 (by decide) h0 d
end

section
open Go.RowKit
set_option linter.unusedVariables false

/-- The first q lines have their first places. -/
structure LnF (w : World) (s : Stp) (b : Bg) (q : Nat) (ls : List Ln) (v : Value) (W : World) : Prop where
  bel : Below w.heap.size w W
  ow : W.ownsRow (w.heap.size + 1) 97 4 v ls.length (ls.flatMap encLn)
  kk : LnK s W w.heap.size ls
  dt : ls.map dLn = lnsB s b
  fs : ∀ (j : Nat) (y : Ln) (t : (Rw × Int) × Int), j < q → ls[j]? = some y → (lnF s b)[j]? = some t → y.f = t.2
theorem LnF.below {w W W' : World} {s : Stp} {b : Bg} {q : Nat} {ls : List Ln} {v : Value} (h : LnF w s b q ls v W) (hb : Below W.heap.size W W') : LnF w s b q ls v W' := ⟨bstep h.bel hb, own_below h.ow hb, h.kk.below hb, h.dt, h.fs⟩
theorem LnF.at_ {w W : World} {s : Stp} {b : Bg} {q j : Nat} {ls : List Ln} {v : Value} {y : Ln} (h : LnF w s b q ls v W) (hy : ls[j]? = some y) : ∃ t, (lnF s b)[j]? = some t ∧ t.1 = (y.i.r, y.i.m) := by
  have h1 : (lnsB s b)[j]? = some (y.i.r, y.i.m) := by rw [← h.dt, List.getElem?_map, hy]; rfl
  have h2 := lnF_fst s b
  have h3 : (lnF s b).length = (lnsB s b).length := by rw [← h2, List.length_map]
  obtain ⟨hlt, _⟩ := List.getElem?_eq_some_iff.1 h1
  have h4 : (lnF s b)[j]? = some ((lnF s b)[j]'(by omega)) := List.getElem?_eq_getElem (by omega)
  refine ⟨_, h4, ?_⟩
  have h5 := lnF_at h4
  rw [h1] at h5
  injection h5 with h5
  exact h5.symm
theorem flat_setL {ls : List Ln} {i : Nat} {y : Ln} (hy : ls[i]? = some y) (u : Int) : (ls.set i { y with f := u }).flatMap encLn = (ls.flatMap encLn).set (i * 4 + 3) (.int .i64 u) := by
  induction ls generalizing i with
  | nil => simp at hy
  | cons z ls ih =>
    cases i with
    | zero =>
      obtain rfl : z = y := by simpa using hy
      rfl
    | succ i =>
      rw [List.set_cons_succ, List.flatMap_cons, List.flatMap_cons, ih (by simpa using hy)]
      have e : (i + 1) * 4 + 3 = (encLn z).length + (i * 4 + 3) := by rw [encLn_len]; omega
      rw [e, List.set_append_right _ _ (by omega)]
      congr 1
      rw [Nat.add_sub_cancel_left]
theorem LnF.store {w W : World} {s : Stp} {b : Bg} {q i g n c : Nat} {ls : List Ln} {y : Ln} (h : LnF w s b q ls (.slice (some ⟨g, 0, none⟩) n c) W) (hn : ls.length = n) (hy : ls[i]? = some y) (hi : q ≤ i) (u : Int) :
    LnF w s b q (ls.set i { y with f := u }) (.slice (some ⟨g, 0, none⟩) n c) (W.setCell ⟨g, i * 4 + 3, none⟩ (.int .i64 u)) := by
  have how := h.ow
  rw [hn] at how
  obtain ⟨hlow, hlt⟩ := how.lt g rfl
  obtain ⟨cs, fz, hcs⟩ := own_cells how (g := g) rfl
  have hk : ∀ z ∈ ls, RowK (W.setCell ⟨g, i * 4 + 3, none⟩ (.int .i64 u)) w.heap.size z.i.A z.i.n z.i.r ∧ RowK (W.setCell ⟨g, i * 4 + 3, none⟩ (.int .i64 u)) w.heap.size z.A z.n (gk s z.i.r) := fun z hz =>
    ⟨(h.kk z hz).1.setCell (p := ⟨g, i * 4 + 3, none⟩) hcs (by decide) (by show w.heap.size ≤ g; omega) _, (h.kk z hz).2.setCell (p := ⟨g, i * 4 + 3, none⟩) hcs (by decide) (by show w.heap.size ≤ g; omega) _⟩
  refine ⟨h.bel.setCell (p := ⟨g, i * 4 + 3, none⟩) (by show w.heap.size ≤ g; omega) _, ?_, fun z hz => ?_, ?_, fun j z t hj hz ht => ?_⟩
  · rw [List.length_set, flat_setL hy, hn]
    exact own_store2 how _
  · obtain ⟨j, hj⟩ := List.getElem?_of_mem hz
    rw [List.getElem?_set] at hj
    split at hj
    · split at hj
      · injection hj with hj
        subst hj
        exact hk y (List.mem_of_getElem? hy)
      · cases hj
    · exact hk z (List.mem_of_getElem? hj)
  · rw [← h.dt, List.map_set]
    apply List.ext_getElem?
    intro j
    rw [List.getElem?_set]
    split
    · rename_i e
      subst e
      rw [List.length_map, if_pos (List.getElem?_eq_some_iff.1 hy).1, List.getElem?_map, hy]
      rfl
    · rfl
  · rw [List.getElem?_set, if_neg (by omega)] at hz
    exact h.fs j z t hj hz ht
theorem LnF.next {w W : World} {s : Stp} {b : Bg} {q : Nat} {ls : List Ln} {v : Value} {y : Ln} {t : (Rw × Int) × Int} (h : LnF w s b q ls v W) (hy : ls[q]? = some y) (ht : (lnF s b)[q]? = some t) (e : y.f = t.2) : LnF w s b (q + 1) ls v W :=
  ⟨h.bel, h.ow, h.kk, h.dt, fun j z u hj hz hu => by
    rcases Nat.lt_or_ge j q with h1 | h1
    · exact h.fs j z u h1 hz hu
    · obtain rfl : j = q := by omega
      rw [hy] at hz
      rw [ht] at hu
      injection hz with hz
      injection hu with hu
      subst hz hu
      exact e⟩
/-- What lines leaves. -/
def RetLns (w : World) (s : Stp) (b : Bg) (e : Ending) (w' : World) : Prop := ∃ (A : Option Addr) (n c : Nat) (ls : List Ln), e = .returned (.slice A n c) ∧ ls.map (fun x => (dLn x, x.f)) = lnF s b ∧ Reads w' w'.heap.size 4 A n (ls.flatMap encLn) ∧ (∀ x ∈ ls, RowK w' w.heap.size x.i.A x.i.n x.i.r) ∧ Below w.heap.size w w'
theorem LnF.done {w W : World} {s : Stp} {b : Bg} {ls : List Ln} {v : Value} (h : LnF w s b ls.length ls v W) : RetLns w s b (.returned v) W := by
  obtain ⟨A, c, rfl, hR⟩ := own_form h.ow
  refine ⟨A, ls.length, c, ls, rfl, ?_, hR, fun x hx => (h.kk x hx).1, h.bel⟩
  apply List.ext_getElem?
  intro j
  rw [List.getElem?_map]
  cases hj : ls[j]? with
  | none =>
    have h1 : ls.length ≤ j := List.getElem?_eq_none_iff.1 hj
    have h2 : (lnF s b).length ≤ j := by
      have h3 := congrArg List.length (lnF_fst s b)
      have h4 := congrArg List.length h.dt
      simp only [List.length_map] at h3 h4
      omega
    rw [List.getElem?_eq_none h2]; rfl
  | some y =>
    obtain ⟨t, ht, e⟩ := h.at_ hj
    have := h.fs j y t (List.getElem?_eq_some_iff.1 hj).1 hj ht
    rw [ht]
    show some (dLn y, y.f) = some t
    rw [this]
    exact congrArg some (Prod.ext e.symm rfl)
end

end Go.Proofs.YtljglceaibgknaaGreatDoor
