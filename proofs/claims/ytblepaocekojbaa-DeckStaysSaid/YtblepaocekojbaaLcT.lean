/-
  slices.SortFunc over places within the bounds of slots: the order, the row in memory, the contract.
  The walk of slices.SortFunc over places: it leaves the same places, ascending, and writes no block but the row's.
-/
import Derived.Test.YtblepaocekojbaaLcM
import Derived.Test.YtblepaocekojbaaLcLay
import Derived.Shelf.GgSortFunc.InsertionK
import Derived.Shelf.SlSortCmp.NoneTotal
namespace Go.Proofs.Ytblepaocekojbaa

section
open Go.Shelf Go.RowKit Go.Lib Go.Sort
attribute [local go_sem] Oper.semAt_some
set_option linter.unusedVariables false

/-- A place within the bounds of machines and slots. -/
abbrev BP := Fin 32 × Fin 32
def encB (x : BP) : List Value := [.int .i64 ((x.1.val : Nat) : Int), .int .i64 ((x.2.val : Nat) : Int)]
def toPl (x : BP) : Pl := ⟨((x.1.val : Nat) : Int), ((x.2.val : Nat) : Int)⟩
def flatB (l : List BP) : List Value := l.flatMap encB
theorem encB_len (x : BP) : (encB x).length = 2 := rfl
theorem flatB_len (l : List BP) : (flatB l).length = l.length * 2 := flat_length (enc := encB) (k := 2) encB_len l
theorem flatB_pl (l : List BP) : flatB l = (l.map toPl).flatMap encPl := by
  unfold flatB
  rw [List.flatMap_map]
  rfl
theorem holds_ownB {w : World} {base g n c : Nat} {l : List BP} (h : w.ownsRow base 85 2 (.slice (some ⟨g, 0, none⟩) n c) n (flatB l)) : HoldsK encB 2 w g 0 l.toArray ∧ g < w.heap.size ∧ base ≤ g := by
  rcases h.2 with ⟨he, _⟩ | ⟨g', cap, cur, he, hb, hg, h1, h2, h3, h4⟩
  · cases he
  · injection he with he1 he2 he3
    injection he1 with he1
    injection he1 with he1
    subst he1
    refine ⟨fun j hj => ?_, (Array.getElem?_eq_some_iff.1 hg).1, hb⟩
    rw [size_flatK] at hj
    have hj' : j < l.length * 2 := hj
    rw [get_flatK _ _ _ _ hj, Nat.zero_add]
    obtain ⟨x, hx⟩ : ∃ x, l[j / 2]? = some x := ⟨_, List.getElem?_eq_getElem (by omega)⟩
    have hxa : l.toArray[j / 2]! = x := by
      have := (List.getElem?_eq_some_iff.1 hx)
      obtain ⟨h1, h2⟩ := this
      simp [h1, h2]
    have hf := flat_get (enc := encB) (k := 2) encB_len l (j / 2) (j % 2) x hx (by omega)
    rw [show j / 2 * 2 + j % 2 = j by omega] at hf
    have hlen : (encB x)[j % 2]? = some (encB x)[j % 2]! := by
      rcases Nat.mod_two_eq_zero_or_one j with h | h <;> rw [h] <;> rfl
    rw [hlen] at hf
    have hc : cur[j]? = some (encB x)[j % 2]! := by
      have : (flatB l)[j]? = some (encB x)[j % 2]! := hf
      rw [← h4, List.getElem?_take] at this
      split at this
      · rw [← Array.getElem?_toList]; exact this
      · cases this
    rw [hxa]
    exact ⟨(cell_of_row w g j cur _ (0, 0) hg).trans hc, Blk.frozen (w := w) (g := g) (t := 85) (cs := cur) hg j⟩
theorem reads_holdsB {w : World} {g : Nat} {d : Array BP} (h : HoldsK encB 2 w g 0 d) (hg : g < w.heap.size) : Reads w w.heap.size 2 (some ⟨g, 0, none⟩) d.size (flatB d.toList) := by
  refine ⟨by rw [flatB_len]; simp, fun _ => ⟨g, 0, rfl, hg, fun j u hu => ?_⟩⟩
  have hj := (List.getElem?_eq_some_iff.1 hu).1
  rw [flatB_len] at hj
  have hj' : j < d.size * 2 := by simpa using hj
  obtain ⟨x, hx⟩ : ∃ x, d.toList[j / 2]? = some x := ⟨_, List.getElem?_eq_getElem (by omega)⟩
  have hxa : d[j / 2]! = x := by
    obtain ⟨h1, h2⟩ := List.getElem?_eq_some_iff.1 hx
    have h1' : j / 2 < d.size := by simpa using h1
    rw [getElem!_pos d (j / 2) h1']
    simpa using h2
  have hf := flat_get (enc := encB) (k := 2) encB_len d.toList (j / 2) (j % 2) x hx (by omega)
  rw [show j / 2 * 2 + j % 2 = j by omega] at hf
  have hlen : (encB x)[j % 2]? = some (encB x)[j % 2]! := by
    rcases Nat.mod_two_eq_zero_or_one j with h | h <;> rw [h] <;> rfl
  have hu' : (encB x)[j % 2]? = some u := by rw [← hf]; exact hu
  have hc := (HoldsK.cell h (i := j / 2) (c := j % 2) (by omega) (by omega)).1
  rw [hxa, show 0 + j / 2 * 2 + j % 2 = 0 + j by omega] at hc
  rw [hc]
  rw [hlen] at hu'
  exact hu'
theorem below_sortB {w : World} {g m : Nat} {d : Array BP} {os : Array Obj} (hg : g < w.heap.size) : RowKit.Below g w (sortWorldK encB 2 w g 0 m d os) where
  os := rfl
  tape := rfl
  output := rfl
  size := by unfold sortWorldK; rw [size_grow]; show _ ≤ (putRow id (Sort.ahead w m) g 0 _).heap.size + _; rw [size_putRow]; show w.heap.size ≤ w.heap.size + _; omega
  block k hk := by
    show ((w.heap.modify g _) ++ os)[k]? = _
    rw [Array.getElem?_append]
    split
    · rw [Array.getElem?_modify, if_neg (by omega)]
    · rename_i hn
      rw [Array.size_modify] at hn
      omega
def cfB (x y : BP) : Int := if (x.1.val : Int) ≠ (y.1.val : Int) then (x.1.val : Int) - (y.1.val : Int) else (x.2.val : Int) - (y.2.val : Int)
instance (p q : Pl) : Decidable (ltPl p q) := by unfold ltPl; infer_instance
theorem cfB_lt (x y : BP) : cfB x y < 0 ↔ ltPl (toPl x) (toPl y) := by
  obtain ⟨⟨a, ha⟩, ⟨b, hb⟩⟩ := x
  obtain ⟨⟨c, hc⟩, ⟨d, hd⟩⟩ := y
  unfold ltPl
  show (if (a : Int) ≠ (c : Int) then (a : Int) - (c : Int) else (b : Int) - (d : Int)) < 0 ↔ ((a : Int) < (c : Int) ∨ ((a : Int) = (c : Int) ∧ (b : Int) < (d : Int)))
  split <;> omega
theorem ltOf_cfB (x y : BP) : ltOf cfB x y = decide (ltPl (toPl x) (toPl y)) := by
  unfold ltOf
  rw [decide_eq_decide]
  exact cfB_lt x y
theorem swoB : SWO (ltOf cfB) where
  irrefl x := by rw [ltOf_cfB]; simp [ltPl]
  trans x y z h1 h2 := by rw [ltOf_cfB] at *; simp only [decide_eq_true_eq] at *; unfold ltPl at *; omega
  ntrans x y z h1 h2 := by rw [ltOf_cfB] at *; simp only [decide_eq_false_iff_not] at *; unfold ltPl at *; omega
set_option maxHeartbeats 2000000 in
theorem ordered_lays (x y : BP) (w : World) : Calls Try.prog 77 #[.agg #[.int .i64 ((x.1.val : Nat) : Int), .int .i64 ((x.2.val : Nat) : Int)], .agg #[.int .i64 ((y.1.val : Nat) : Int), .int .i64 ((y.2.val : Nat) : Int)]] w fun e w' => e = .returned (.int .i64 (cfB x y)) ∧ ∃ q os', w' = grow (w.drewN q) os' := by
  obtain ⟨⟨a, ha⟩, ⟨b, hb⟩⟩ := x
  obtain ⟨⟨c, hc⟩, ⟨d, hd⟩⟩ := y
  show Calls _ _ #[.agg #[.int .i64 (a : Int), .int .i64 (b : Int)], .agg #[.int .i64 (c : Int), .int .i64 (d : Int)]] w fun e w' => e = .returned (.int .i64 (if (a : Int) ≠ (c : Int) then (a : Int) - (c : Int) else (b : Int) - (d : Int))) ∧ ∃ q os', w' = grow (w.drewN q) os'
  obtain ⟨W, hW⟩ : ∃ W, (w.alloc (.cells #[.int .i64 (a : Int), .int .i64 (b : Int)] 85)).alloc (.cells #[.int .i64 (c : Int), .int .i64 (d : Int)] 85) = W := ⟨_, rfl⟩
  have b1 : Blk W w.heap.size 85 #[.int .i64 (a : Int), .int .i64 (b : Int)] := by rw [← hW]; exact (Blk.new w _ _).alloc _
  have b2 : Blk W (w.heap.size + 1) 85 #[.int .i64 (c : Int), .int .i64 (d : Int)] := by
    rw [← hW]; have := Blk.new (w.alloc (.cells #[.int .i64 (a : Int), .int .i64 (b : Int)] 85)) 85 #[.int .i64 (c : Int), .int .i64 (d : Int)]; rwa [World.size_alloc] at this
  have HG : Hid (∃ os, W = grow w os) := hide ⟨_, by rw [← hW, alloc_eq_grow, alloc_eq_grow, grow_grow]⟩
  have d0 := b1.cell 0
  have d1 := b1.cell 1
  have e0 := b2.cell 0
  have e1 := b2.cell 1
  simp at d0 d1 e0 e1
  by_cases hac : (a : Int) = (c : Int)
  · rw [if_neg (by simpa using hac)]
    have z : ((a : Int) != (c : Int)) = false := by simpa using hac
    clear hac
    go_enter Try.func77, Try.ntmps77
    go_wp2_with fail
    go_ret
    obtain ⟨os, hos⟩ := HG.out
    exact ⟨rfl, 0, os, hos⟩
  · rw [if_pos hac]
    have z : ((a : Int) != (c : Int)) = true := by simpa using hac
    clear hac
    go_enter Try.func77, Try.ntmps77
    go_wp2_with fail
    go_ret
    obtain ⟨os, hos⟩ := HG.out
    exact ⟨rfl, 0, os, hos⟩
end

section
open Go.Shelf Go.RowKit Go.Lib Go.Sort
set_option linter.unusedVariables false

theorem only_sortB {w : World} {g m : Nat} {d : Array BP} {os : Array Obj} (k : Nat) (hk : k < w.heap.size) (hne : k ≠ g) : (sortWorldK encB 2 w g 0 m d os).heap[k]? = w.heap[k]? := by
  show ((w.heap.modify g _) ++ os)[k]? = _
  rw [Array.getElem?_append]
  split
  · rw [Array.getElem?_modify, if_neg (by omega)]
  · rename_i hn
    rw [Array.size_modify] at hn
    omega
/-- What the sort leaves of a list of bounded places. -/
def SrtPl (l l' : List Pl) : Prop := l'.Perm l ∧ l'.Pairwise fun x y => ¬ ltPl y x
def RetSrtP (A : Option Addr) (n : Nat) (l : List Pl) (e : Ending) (w' : World) : Prop := e = .returned (.tuple #[]) ∧ ∃ l', SrtPl l l' ∧ Reads w' w'.heap.size 2 A n (l'.flatMap encPl)
theorem SortB_any (base g n c : Nat) (l : List BP) (w : World) (h : w.ownsRow base 85 2 (.slice (some ⟨g, 0, none⟩) n c) n (flatB l)) (hn : n ≤ 100000) :
    Calls Try.prog 76 #[.slice (some ⟨g, 0, none⟩) n c, .func (Fn.func 77) #[] #[]] w fun e w' => RetSrtP (some ⟨g, 0, none⟩) n (l.map toPl) e w' ∧ RowKit.Below g w w' ∧ ∀ k, k < w.heap.size → k ≠ g → w'.heap[k]? = w.heap[k]? := by
  obtain ⟨hH, hg, hb⟩ := holds_ownB h
  have hlen : l.length = n := by
    have := h.1
    rw [flatB_len] at this
    omega
  have hsz : l.toArray.size = n := by simpa using hlen
  have eg : ∀ args w, (callFunc 77 args).run Try.prog w = .ok (.enter 77 args) w := enters_of Try.func77 (by kernel_rfl) rfl
  have hcon := AnyQ.slices_SortFunc sortP 2 Try.isAgg85 Try.sizeOf85 encB (fun _ => rfl) (fun x v hv => by simp [encB] at hv; rcases hv with rfl | rfl <;> rfl) cfB swoB 77 #[] g 0 c l.toArray w eg
    (fun _ _ _ _ x y => ordered_lays x y _) hH hg (by rw [hsz]; omega)
  change Calls Try.prog 76 _ _ _ at hcon
  rw [hsz] at hcon
  refine hcon.mono ?_
  rintro e w' ⟨rfl, d', m, os, hp, hs, rfl⟩
  have hd : d'.size = n := by rw [hp.1, hsz]
  refine ⟨⟨rfl, d'.toList.map toPl, ⟨?_, ?_⟩, ?_⟩, below_sortB hg, fun k hk hne => only_sortB k hk hne⟩
  · have := hp.2.2
    rw [← hsz] at this
    simp only [Array.extract_size] at this
    rw [hsz, ← hd, Array.extract_size] at this
    exact this.map toPl
  · rw [List.pairwise_map, List.pairwise_iff_getElem]
    intro i j hi hj hij
    have hi' : i < d'.size := by simpa using hi
    have hj' : j < d'.size := by simpa using hj
    have := hs i j (Nat.zero_le _) hij (by omega)
    rw [ltOf_cfB, decide_eq_false_iff_not, getElem!_pos d' i hi', getElem!_pos d' j hj'] at this
    simpa only [Array.getElem_toList] using this
  · have hH' := holdsK_sortWorldK_c encB 2 w g 0 l.toArray d' m os hH hg (by rw [hd, hsz])
    have := reads_holdsB hH' (Nat.lt_of_lt_of_le hg (below_sortB hg).size)
    rw [hd, flatB_pl] at this
    exact this
theorem SortB_none (c : Nat) (w : World) :
    Calls Try.prog 76 #[.slice none 0 c, .func (Fn.func 77) #[] #[]] w fun e w' => e = .returned (.tuple #[]) ∧ w' = w :=
  AnyF.slices_SortFunc_none (P := Try.prog) (ρ := sortP_ren) { sortP with } none c _ w
/-- The same at any own row of bounded places, empty or not. -/
theorem SortP_any (base : Nat) (A : Option Addr) (n c : Nat) (l : List Pl) (w : World) (h : w.ownsRow base 85 2 (.slice A n c) n (l.flatMap encPl)) (hn : n ≤ 100000) (hl : ∀ p ∈ l, ∃ x : BP, p = toPl x) (hbs : base ≤ w.heap.size) :
    Calls Try.prog 76 #[.slice A n c, .func (Fn.func 77) #[] #[]] w fun e w' => RetSrtP A n l e w' ∧ RowKit.Below base w w' ∧ ∀ k, k < w.heap.size → (Value.slice A n c).ownBlock ≠ some k → w'.heap[k]? = w.heap[k]? := by
  have hll : ∃ l' : List BP, l = l'.map toPl := by
    clear h
    induction l with
    | nil => exact ⟨[], rfl⟩
    | cons p l ih =>
      obtain ⟨x, rfl⟩ := hl p List.mem_cons_self
      obtain ⟨l', rfl⟩ := ih fun q hq => hl q (List.mem_cons_of_mem _ hq)
      exact ⟨x :: l', rfl⟩
  obtain ⟨l', rfl⟩ := hll
  rw [← flatB_pl] at h
  rcases h.2 with ⟨he, hn0⟩ | ⟨g', cap, cur, he, hb, hg, h1, h2, h3, h4⟩
  · injection he with e1 e2 e3
    subst e1 e2 e3
    have hl0 : l' = [] := by
      have := h.1
      rw [flatB_len] at this
      exact List.length_eq_zero_iff.1 (by omega)
    subst hl0
    exact (SortB_none 0 w).mono fun e w' ⟨he, hw⟩ => by subst hw; exact ⟨⟨he, [], ⟨List.Perm.refl _, List.Pairwise.nil⟩, Reads.none_⟩, Below.refl _ _, fun _ _ _ => rfl⟩
  · injection he with e1 e2 e3
    subst e1 e3
    exact (SortB_any _ g' n c l' w h hn).mono fun e w' ⟨hr, hbl, ho⟩ => ⟨hr, hbl.mono hb, fun k hk hne => ho k hk fun e => hne (by rw [e]; rfl)⟩
end

end Go.Proofs.Ytblepaocekojbaa
