/-
  slices.SortFunc over entries.
-/
import Derived.Test.YthngjbhamgmcgaaEnLay
import Derived.Test.YthngjbhamgmcgaaEnN
namespace Go.Proofs.Ythngjbhamgmcgaa
open Go.Shelf Go.RowKit Go.Lib Go.Sort
attribute [local go_sem] Oper.semAt_some
set_option linter.unusedVariables false

theorem ltOf_ce (x y : En) : ltOf cmE x y = decide (cmE x y < 0) := rfl
theorem swoE : SWO (ltOf cmE) where
  irrefl x := by rw [ltOf_ce, Tot.en.self]; rfl
  trans x y z h1 h2 := by
    rw [ltOf_ce, decide_eq_true_iff] at *
    exact Tot.en.lt1 _ _ _ h1 (Int.le_of_lt h2)
  ntrans x y z h1 h2 := by
    rw [ltOf_ce, decide_eq_false_iff_not] at *
    have a1 := Tot.en.anti x y
    have a2 := Tot.en.anti y z
    have a3 := Tot.en.anti x z
    have := Tot.en.le z y x (by omega) (by omega)
    omega
/-- What the sort leaves. -/
def RetSort (w : World) (g n : Nat) (l : List En) (e : Ending) (w' : World) : Prop := e = .returned (.tuple #[]) ∧ ∃ l' : List En, l'.Perm l ∧ SrtE l' ∧ Reads w' w'.heap.size 4 (some ⟨g, 0, none⟩) n (flatE l') ∧ RowKit.Below g w w'
theorem Sort_any (base g n c : Nat) (l : List En) (w : World) (h : w.ownsRow base 57 4 (.slice (some ⟨g, 0, none⟩) n c) n (flatE l)) (hn : n ≤ 100000) :
    Calls Try.prog 56 #[.slice (some ⟨g, 0, none⟩) n c, .func (Fn.func 34) #[] #[]] w (RetSort w g n l) := by
  obtain ⟨hH, hg, hb⟩ := holds_own h
  have hlen : l.length = n := by
    have := h.1
    rw [flatE_len] at this
    omega
  have hsz : l.toArray.size = n := by simpa using hlen
  have eg : ∀ args w, (callFunc 34 args).run Try.prog w = .ok (.enter 34 args) w := enters_of Try.func34 (by kernel_rfl) rfl
  have hcon := AnyQ.slices_SortFunc sortE 4 Try.isAgg57 Try.sizeOf57 encE (fun _ => rfl) (fun x v hv => by simp [encE] at hv; rcases hv with rfl | rfl | rfl | rfl <;> rfl) cmE swoE 34 #[] g 0 c l.toArray w eg
    (fun _ _ _ _ x y => CompareE_any x y _) hH hg (by rw [hsz]; omega)
  change Calls Try.prog 56 _ _ _ at hcon
  rw [hsz] at hcon
  refine hcon.mono ?_
  rintro e w' ⟨rfl, d', m, os, hp, hs, rfl⟩
  have hd : d'.size = n := by rw [hp.1, hsz]
  refine ⟨rfl, d'.toList, ?_, ?_, ?_, below_sort hg⟩
  · have := hp.2.2
    rw [← hsz] at this
    simp only [Array.extract_size] at this
    rwa [hsz, ← hd, Array.extract_size] at this
  · unfold SrtE
    rw [List.pairwise_iff_getElem]
    intro i j hi hj hij
    have hi' : i < d'.size := by simpa using hi
    have hj' : j < d'.size := by simpa using hj
    have := hs i j (Nat.zero_le _) hij (by omega)
    rw [ltOf_ce, decide_eq_false_iff_not, getElem!_pos d' i hi', getElem!_pos d' j hj'] at this
    simp only [Array.getElem_toList]
    have a1 := Tot.en.anti d'[j] d'[i]
    omega
  · have hH' := holdsK_sortWorldK_c encE 4 w g 0 l.toArray d' m os hH hg (by rw [hd, hsz])
    have := reads_holds hH' (Nat.lt_of_lt_of_le hg (below_sort hg).size)
    rwa [hd] at this
theorem Sort_none (c : Nat) (w : World) :
    Calls Try.prog 56 #[.slice none 0 c, .func (Fn.func 34) #[] #[]] w fun e w' => e = .returned (.tuple #[]) ∧ w' = w :=
  AnyF.slices_SortFunc_none (P := Try.prog) (ρ := sortE_ren) { sortE with } none c _ w
end Go.Proofs.Ythngjbhamgmcgaa
