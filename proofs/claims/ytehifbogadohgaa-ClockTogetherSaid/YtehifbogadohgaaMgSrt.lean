/-
  The walks of clock.Compare as slices.SortFunc asks it, of slices.SortFunc and slices.Clone over windows.
-/
import Derived.Test.YtehifbogadohgaaMgLay
namespace Go.Proofs.Ytehifbogadohgaa
open Go.Shelf Go.RowKit Go.Lib Go.Sort
attribute [local go_sem] Oper.semAt_some
set_option linter.unusedVariables false

def cfW (x y : Wd) : Int := cmpW x.1 x.2 y.1 y.2
set_option maxHeartbeats 2000000 in
theorem Compare_lays (a b a' b' : Int) (w : World) : Calls Try.prog 19 #[.agg #[.int .i64 a, .int .i64 b], .agg #[.int .i64 a', .int .i64 b']] w fun e w' => e = .returned (.int .i64 (cmpW a b a' b')) ∧ ∃ q os', w' = grow (w.drewN q) os' := by
  obtain ⟨W, hW⟩ : ∃ W, (w.alloc (.cells #[.int .i64 a, .int .i64 b] 35)).alloc (.cells #[.int .i64 a', .int .i64 b'] 35) = W := ⟨_, rfl⟩
  have b1 : Blk W w.heap.size 35 #[.int .i64 a, .int .i64 b] := by rw [← hW]; exact (Blk.new w _ _).alloc _
  have b2 : Blk W (w.heap.size + 1) 35 #[.int .i64 a', .int .i64 b'] := by
    rw [← hW]; have := Blk.new (w.alloc (.cells #[.int .i64 a, .int .i64 b] 35)) 35 #[.int .i64 a', .int .i64 b']; rwa [World.size_alloc] at this
  have HG : Hid (∃ os, W = grow w os) := hide ⟨_, by rw [← hW, alloc_eq_grow, alloc_eq_grow, grow_grow]⟩
  have d0 := b1.cell 0
  have d1 := b1.cell 1
  have e0 := b2.cell 0
  have e1 := b2.cell 1
  simp at d0 d1 e0 e1
  go_enter Try.func19, Try.ntmps19
  go_wp2_with fail
  clear hW
  go_region_held3 (fun w' => w'.cell? ⟨w.heap.size, 0, none⟩ = some (.int .i64 a) ∧ w'.cell? ⟨w.heap.size, 1, none⟩ = some (.int .i64 b) ∧ w'.cell? ⟨w.heap.size + 1, 0, none⟩ = some (.int .i64 a') ∧ w'.cell? ⟨w.heap.size + 1, 1, none⟩ = some (.int .i64 b')) (go_keep)
    (first
      | (go_at_call_of 49 (Value.int .i64 a); refine (cmpCompare_any _ _ _).mono ?_; rintro e w' ⟨rfl, rfl⟩)
      | (go_at_call 49; refine (cmpCompare_any _ _ _).mono ?_; rintro e w' ⟨rfl, rfl⟩)
      | (go_at_call 48; refine (Or_any _ (cmpI a a') (cmpI b b') _ ?_ ?_).mono ?_; (simp [World.cell?_alloc_new]); (simp [World.cell?_alloc_new]); rintro e w' ⟨rfl, rfl⟩))
  all_goals
    go_wp2
    go_ret
    obtain ⟨os, hos⟩ := HG.out
    exact ⟨rfl, 1, _, by rw [hos, alloc_eq_grow, grow_grow, drew_grow]; rfl⟩
theorem ltOf_cf (x y : Wd) : ltOf cfW x y = decide (x.1 < y.1 ∨ (x.1 = y.1 ∧ x.2 < y.2)) := by
  unfold ltOf
  rw [decide_eq_decide]
  exact ltW x y
theorem swoW : SWO (ltOf cfW) where
  irrefl x := by rw [ltOf_cf]; simp
  trans x y z h1 h2 := by rw [ltOf_cf] at *; simp at *; omega
  ntrans x y z h1 h2 := by rw [ltOf_cf] at *; simp at *; omega
/-- What the sort leaves. -/
def RetSort (w : World) (g n : Nat) (l : List Wd) (e : Ending) (w' : World) : Prop := e = .returned (.tuple #[]) ∧ ∃ l' : List Wd, l'.Perm l ∧ l'.Pairwise (fun x y => x.1 ≤ y.1) ∧ Reads w' w'.heap.size 2 (some ⟨g, 0, none⟩) n (flatW l') ∧ Below g w w'
theorem Sort_any (base g n c : Nat) (l : List Wd) (w : World) (h : w.ownsRow base 35 2 (.slice (some ⟨g, 0, none⟩) n c) n (flatW l)) (hn : n ≤ 100000) :
    Calls Try.prog 65 #[.slice (some ⟨g, 0, none⟩) n c, .func (Fn.func 19) #[] #[]] w (RetSort w g n l) := by
  obtain ⟨hH, hg, hb⟩ := holds_own h
  have hlen : l.length = n := by
    have := h.1
    rw [flatW_len] at this
    omega
  have hsz : l.toArray.size = n := by simpa using hlen
  have eg : ∀ args w, (callFunc 19 args).run Try.prog w = .ok (.enter 19 args) w := enters_of Try.func19 (by kernel_rfl) rfl
  have hcon := AnyQ.slices_SortFunc sortW 2 Try.isAgg35 Try.sizeOf35 encW (fun _ => rfl) (fun x v hv => by simp [encW] at hv; rcases hv with rfl | rfl <;> rfl) cfW swoW 19 #[] g 0 c l.toArray w eg
    (fun _ _ _ _ x y => Compare_lays x.1 x.2 y.1 y.2 _) hH hg (by rw [hsz]; omega)
  change Calls Try.prog 65 _ _ _ at hcon
  rw [hsz] at hcon
  refine hcon.mono ?_
  rintro e w' ⟨rfl, d', m, os, hp, hs, rfl⟩
  have hd : d'.size = n := by rw [hp.1, hsz]
  refine ⟨rfl, d'.toList, ?_, ?_, ?_, below_sort hg⟩
  · have := hp.2.2
    rw [← hsz] at this
    simp only [Array.extract_size] at this
    rwa [hsz, ← hd, Array.extract_size] at this
  · rw [List.pairwise_iff_getElem]
    intro i j hi hj hij
    have hi' : i < d'.size := by simpa using hi
    have hj' : j < d'.size := by simpa using hj
    have := hs i j (Nat.zero_le _) hij (by omega)
    rw [ltOf_cf, decide_eq_false_iff_not, getElem!_pos d' i hi', getElem!_pos d' j hj'] at this
    simp only [Array.getElem_toList]
    omega
  · have hH' := holdsK_sortWorldK_c encW 2 w g 0 l.toArray d' m os hH hg (by rw [hd, hsz])
    have := reads_holds hH' (Nat.lt_of_lt_of_le hg (below_sort hg).size)
    rwa [hd] at this
end Go.Proofs.Ytehifbogadohgaa
