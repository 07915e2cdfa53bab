/-
  Waves on both sides, for every graph: one answer.
-/
import Derived.Test.YtblepaocekojbaaDkDW
namespace Go.Proofs.Ytblepaocekojbaa
open Go.RowKit Go.Shelf Go.Deep
attribute [local go_sem] Oper.semAt_some

/-- What Waves answers. -/
def RetW (g : Gr) (w : World) (e : Ending) (w' : World) : Prop := (validB g = false ∧ RetSlE w 1 0 [] 1 e w') ∨ (validB g = true ∧ RetWv g w e w')
set_option maxHeartbeats 1000000 in
theorem Waves_any (g : Gr) (w : World) (hg : g.Ok w w.heap.size) (hn1 : g.n1 ≤ 4611686018427387904) (hn2 : g.n2 ≤ 4611686018427387904) : Calls Try.prog 27 #[.agg #[g.v1, g.v2]] w (RetW g w) := by
  cases hv : validB g
  · have HV := hide hv
    clear hv
    have hB0 : Below w.heap.size w (w.alloc (.cells #[g.v1, g.v2] 30)) := (Below.refl _ _).alloc (Nat.le_refl _) _
    go_enter Try.func27, Try.ntmps27
    go_wp2_with fail
    obtain ⟨W0, hW0⟩ : ∃ W0, w.alloc (.cells #[g.v1, g.v2] 30) = W0 := ⟨_, rfl⟩
    rw [hW0] at hB0 ⊢
    clear hW0
    refine (Valid_any g W0 (hg.up hB0) hn1 hn2).mono ?_
    rintro e W1 ⟨rfl, hB1⟩
    rw [HV.out]
    have HR := hide (show RetW g w (.returned (.tuple #[.slice none 0 0, .int .i64 1])) W1 from .inl ⟨HV.out, none, 0, rfl, Reads.none_, bstep hB0 hB1⟩)
    clear hB0 hB1
    go_wp2
    go_ret2
    exact HR.out
  · exact (DWaves_ok g w hg hv).mono fun e w' h => .inr ⟨hv, h⟩
set_option maxHeartbeats 1000000 in
theorem RWaves_any (g : Gr) (w : World) (hg : g.Ok w w.heap.size) (hn1 : g.n1 ≤ 4611686018427387904) (hn2 : g.n2 ≤ 4611686018427387904) : Calls Try.prog 28 #[.agg #[g.v1, g.v2]] w (RetW g w) := by
  cases hv : validB g
  · have HV := hide hv
    clear hv
    have hB0 : Below w.heap.size w (w.alloc (.cells #[g.v1, g.v2] 25)) := (Below.refl _ _).alloc (Nat.le_refl _) _
    go_enter Try.func28, Try.ntmps28
    go_wp2_with fail
    obtain ⟨W0, hW0⟩ : ∃ W0, w.alloc (.cells #[g.v1, g.v2] 25) = W0 := ⟨_, rfl⟩
    rw [hW0] at hB0 ⊢
    clear hW0
    refine (RRegions_any g W0 (hg.up hB0) hn1 hn2).mono ?_
    rintro e W1 ⟨A, c, rfl, hr, hB1⟩
    rw [show regE g = 1 from by simp [regE, HV.out]]
    have HR := hide (show RetW g w (.returned (.tuple #[.slice none 0 0, .int .i64 1])) W1 from .inl ⟨HV.out, none, 0, rfl, Reads.none_, bstep hB0 hB1⟩)
    clear hB0 hB1 hr
    go_wp2
    go_ret2
    exact HR.out
  · exact (RWaves_ok g w hg hv).mono fun e w' h => .inr ⟨hv, h⟩

/-- The waves of a graph: a function, or an error. -/
inductive WvOf (g : Gr) : List Int → Int → Prop
  | bad (h : validB g = false) : WvOf g [] 1
  | no (h : validB g = true) (hn : ∀ W, ¬ IsWave (Pr (wvNum g) g.es) W) : WvOf g [] 10
  | yes (h : validB g = true) (W : Nat → Nat) (hW : IsWave (Pr (wvNum g) g.es) W) : WvOf g ((List.range (wvK g)).map fun x => ((W x : Nat) : Int)) 0
/-- Whatever calls Waves at a graph gets one and the same answer. -/
theorem wv_one (g : Gr) : ∃ (ys : List Int) (E : Int), WvOf g ys E ∧ ys.length ≤ g.n1 ∧ ∀ w e w', RetW g w e w' → RetSlE w 1 ys.length (ys.map (Value.int .i64)) E e w' := by
  cases hv : validB g
  · exact ⟨[], 1, .bad hv, Nat.zero_le _, fun w e w' h => by
      rcases h with ⟨_, h⟩ | ⟨h, _⟩
      · exact h
      · rw [hv] at h; cases h⟩
  · by_cases hw : ∃ W, IsWave (Pr (wvNum g) g.es) W
    · obtain ⟨W, hW⟩ := hw
      refine ⟨_, 0, .yes hv W hW, by simp; exact numb_le _ _, fun w e w' h => ?_⟩
      rcases h with ⟨h, _⟩ | ⟨_, h⟩
      · rw [hv] at h; cases h
      · rcases h with ⟨V, hV, h⟩ | ⟨h, _⟩
        · rw [← hV.uniq hW]
          have e1 : ((List.range (wvK g)).map fun x => ((V x : Nat) : Int)).map (Value.int .i64) = rowL (wvK g) fun x => .int .i64 ((V x : Nat) : Int) := by simp [rowL]
          rw [e1, List.length_map, List.length_range]
          exact h
        · exact absurd hW (h W)
    · have hn : ∀ W, ¬ IsWave (Pr (wvNum g) g.es) W := fun W h => hw ⟨W, h⟩
      refine ⟨[], 10, .no hv hn, Nat.zero_le _, fun w e w' h => ?_⟩
      rcases h with ⟨h, _⟩ | ⟨_, h⟩
      · rw [hv] at h; cases h
      · rcases h with ⟨V, hV, _⟩ | ⟨_, h⟩
        · exact absurd hV (hn V)
        · exact h
theorem Like.retW {g g' : Gr} (h : Like g g') (w : World) (e : Ending) (w' : World) : RetW g' w e w' ↔ RetW g w e w' := by
  unfold RetW RetWv wvNum wvK
  rw [h.valid, h.es, h.n1]
end Go.Proofs.Ytblepaocekojbaa
