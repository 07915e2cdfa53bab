/-
  The walk of slices.SortFunc over places: it leaves the same places, ascending, and writes no block but the row's.
-/
import Derived.Test.YtblepaocekojbaaLcS
import Derived.Shelf.SlSortCmp.NoneTotal
namespace Go.Proofs.Ytblepaocekojbaa
open Go.Shelf Go.RowKit Go.Lib Go.Sort
set_option linter.unusedVariables false

theorem only_sortB {w : World} {g m : Nat} {d : Array BP} {os : Array Obj} (k : Nat) (hk : k < w.heap.size) (hne : k ≠ g) : (sortWorldK encB 2 w g 0 m d os).heap[k]? = w.heap[k]? := by
  show ((w.heap.modify g _) ++ os)[k]? = _
  rw [Array.getElem?_append]
  split
  · rw [Array.getElem?_modify, if_neg (by omega)]
  · rename_i hn
    rw [Array.size_modify] at hn
    omega
/-- What the sort leaves of a list of bounded places. -/
def SrtPl (l l' : List Pl) : Prop := l'.Perm l ∧ l'.Pairwise fun x y => ¬ ltPl y x
def RetSrtP (A : Option Addr) (n : Nat) (l : List Pl) (e : Ending) (w' : World) : Prop := e = .returned (.tuple #[]) ∧ ∃ l', SrtPl l l' ∧ Reads w' w'.heap.size 2 A n (l'.flatMap encPl)
theorem SortB_any (base g n c : Nat) (l : List BP) (w : World) (h : w.ownsRow base 85 2 (.slice (some ⟨g, 0, none⟩) n c) n (flatB l)) (hn : n ≤ 100000) :
    Calls Try.prog 76 #[.slice (some ⟨g, 0, none⟩) n c, .func (Fn.func 77) #[] #[]] w fun e w' => RetSrtP (some ⟨g, 0, none⟩) n (l.map toPl) e w' ∧ RowKit.Below g w w' ∧ ∀ k, k < w.heap.size → k ≠ g → w'.heap[k]? = w.heap[k]? := by
  obtain ⟨hH, hg, hb⟩ := holds_ownB h
  have hlen : l.length = n := by
    have := h.1
    rw [flatB_len] at this
    omega
  have hsz : l.toArray.size = n := by simpa using hlen
  have eg : ∀ args w, (callFunc 77 args).run Try.prog w = .ok (.enter 77 args) w := enters_of Try.func77 (by kernel_rfl) rfl
  have hcon := AnyQ.slices_SortFunc sortP 2 Try.isAgg85 Try.sizeOf85 encB (fun _ => rfl) (fun x v hv => by simp [encB] at hv; rcases hv with rfl | rfl <;> rfl) cfB swoB 77 #[] g 0 c l.toArray w eg
    (fun _ _ _ _ x y => ordered_lays x y _) hH hg (by rw [hsz]; omega)
  change Calls Try.prog 76 _ _ _ at hcon
  rw [hsz] at hcon
  refine hcon.mono ?_
  rintro e w' ⟨rfl, d', m, os, hp, hs, rfl⟩
  have hd : d'.size = n := by rw [hp.1, hsz]
  refine ⟨⟨rfl, d'.toList.map toPl, ⟨?_, ?_⟩, ?_⟩, below_sortB hg, fun k hk hne => only_sortB k hk hne⟩
  · have := hp.2.2
    rw [← hsz] at this
    simp only [Array.extract_size] at this
    rw [hsz, ← hd, Array.extract_size] at this
    exact this.map toPl
  · rw [List.pairwise_map, List.pairwise_iff_getElem]
    intro i j hi hj hij
    have hi' : i < d'.size := by simpa using hi
    have hj' : j < d'.size := by simpa using hj
    have := hs i j (Nat.zero_le _) hij (by omega)
    rw [ltOf_cfB, decide_eq_false_iff_not, getElem!_pos d' i hi', getElem!_pos d' j hj'] at this
    simpa only [Array.getElem_toList] using this
  · have hH' := holdsK_sortWorldK_c encB 2 w g 0 l.toArray d' m os hH hg (by rw [hd, hsz])
    have := reads_holdsB hH' (Nat.lt_of_lt_of_le hg (below_sortB hg).size)
    rw [hd, flatB_pl] at this
    exact this
theorem SortB_none (c : Nat) (w : World) :
    Calls Try.prog 76 #[.slice none 0 c, .func (Fn.func 77) #[] #[]] w fun e w' => e = .returned (.tuple #[]) ∧ w' = w :=
  AnyF.slices_SortFunc_none (P := Try.prog) (ρ := sortP_ren) { sortP with } none c _ w
/-- The same at any own row of bounded places, empty or not. -/
theorem SortP_any (base : Nat) (A : Option Addr) (n c : Nat) (l : List Pl) (w : World) (h : w.ownsRow base 85 2 (.slice A n c) n (l.flatMap encPl)) (hn : n ≤ 100000) (hl : ∀ p ∈ l, ∃ x : BP, p = toPl x) (hbs : base ≤ w.heap.size) :
    Calls Try.prog 76 #[.slice A n c, .func (Fn.func 77) #[] #[]] w fun e w' => RetSrtP A n l e w' ∧ RowKit.Below base w w' ∧ ∀ k, k < w.heap.size → (Value.slice A n c).ownBlock ≠ some k → w'.heap[k]? = w.heap[k]? := by
  have hll : ∃ l' : List BP, l = l'.map toPl := by
    clear h
    induction l with
    | nil => exact ⟨[], rfl⟩
    | cons p l ih =>
      obtain ⟨x, rfl⟩ := hl p List.mem_cons_self
      obtain ⟨l', rfl⟩ := ih fun q hq => hl q (List.mem_cons_of_mem _ hq)
      exact ⟨x :: l', rfl⟩
  obtain ⟨l', rfl⟩ := hll
  rw [← flatB_pl] at h
  rcases h.2 with ⟨he, hn0⟩ | ⟨g', cap, cur, he, hb, hg, h1, h2, h3, h4⟩
  · injection he with e1 e2 e3
    subst e1 e2 e3
    have hl0 : l' = [] := by
      have := h.1
      rw [flatB_len] at this
      exact List.length_eq_zero_iff.1 (by omega)
    subst hl0
    exact (SortB_none 0 w).mono fun e w' ⟨he, hw⟩ => by subst hw; exact ⟨⟨he, [], ⟨List.Perm.refl _, List.Pairwise.nil⟩, Reads.none_⟩, Below.refl _ _, fun _ _ _ => rfl⟩
  · injection he with e1 e2 e3
    subst e1 e3
    exact (SortB_any _ g' n c l' w h hn).mono fun e w' ⟨hr, hbl, ho⟩ => ⟨hr, hbl.mono hb, fun k hk hne => ho k hk fun e => hne (by rw [e]; rfl)⟩
end Go.Proofs.Ytblepaocekojbaa
