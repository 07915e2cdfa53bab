/-
  The walk of tidewrightref26.Ready, for every graph and tasks.
-/
import Derived.Test.YtblepaocekojbaaDkRyM
namespace Go.Proofs.Ytblepaocekojbaa
open Go.RowKit Go.Shelf Go.Deep
attribute [local go_sem] Oper.semAt_some

set_option maxRecDepth 100000 in
set_option maxHeartbeats 2000000 in
theorem RReady_no (g : Gr) (A1 : Option Addr) (m1 c1 : Nat) (dn : List Int) (w : World) (hg : g.Ok w w.heap.size) (hf : Reads w w.heap.size 1 A1 m1 (dn.map (Value.int .i64)))
    (hm1 : m1 ≤ 4611686018427387904) (hn1 : g.n1 ≤ 4611686018427387904) (hn2 : g.n2 ≤ 4611686018427387904) (E : Int) (he : errR g dn = E) (hE : E ≠ 0) :
    Calls Try.prog 33 #[.agg #[g.v1, g.v2], .slice A1 m1 c1] w (RetSlE w 1 0 [] E) := by
  have HE0 := hide ((errT_one g A1 m1 c1 dn).trans he)
  have hne : (E != 0) = true := by simpa using hE
  clear he hE
  have hB0 : Below w.heap.size w ((w.alloc (.cells #[g.v1, g.v2] 25)).alloc (.cells #[.slice A1 m1 c1] 22)) := ((Below.refl _ _).alloc (Nat.le_refl _) _).alloc (by simp) _
  have b1 : Blk ((w.alloc (.cells #[g.v1, g.v2] 25)).alloc (.cells #[.slice A1 m1 c1] 22)) (w.heap.size + 1) 22 #[.slice A1 m1 c1] := by
    have := Blk.new (w.alloc (.cells #[g.v1, g.v2] 25)) 22 #[.slice A1 m1 c1]
    rwa [World.size_alloc] at this
  have hs0 : ((w.alloc (.cells #[g.v1, g.v2] 25)).alloc (.cells #[.slice A1 m1 c1] 22)).heap.size = w.heap.size + 2 := by simp
  go_enter Try.func33, Try.ntmps33
  go_wp2_with fail
  obtain ⟨W0, hW0⟩ : ∃ W0, (w.alloc (.cells #[g.v1, g.v2] 25)).alloc (.cells #[.slice A1 m1 c1] 22) = W0 := ⟨_, rfl⟩
  rw [hW0] at hB0 b1 hs0 ⊢
  clear hW0
  have hls : Lists W0 W0.heap.size (w.heap.size + 1) [⟨A1, m1, c1, dn⟩] := fun i s hs => by
    match i, hs with
    | 0, hs => cases hs; exact ⟨b1.cell 0, hf.up hB0, hm1⟩
  refine (Rtasks_any g (w.heap.size + 1) 1 1 _ W0 (hg.up hB0) hls (by omega) rfl (by omega) hn1 hn2).mono ?_
  rintro e W1 ⟨rfl, hB1⟩
  rw [HE0.out]
  have HE := hide (bstep hB0 hB1)
  clear hB0 hB1 b1 hls
  go_wp2
  go_ret2
  exact ⟨none, 0, rfl, Reads.none_, HE.out⟩

theorem RReady_any (g : Gr) (A1 : Option Addr) (m1 c1 : Nat) (dn : List Int) (w : World) (hg : g.Ok w w.heap.size) (hf : Reads w w.heap.size 1 A1 m1 (dn.map (Value.int .i64)))
    (hm1 : m1 ≤ 4611686018427387904) (hn1 : g.n1 ≤ 4611686018427387904) (hn2 : g.n2 ≤ 4611686018427387904) :
    Calls Try.prog 33 #[.agg #[g.v1, g.v2], .slice A1 m1 c1] w (RetRA g dn w) := by
  by_cases h : errR g dn = 0
  · refine (RReady_ok g A1 m1 c1 dn w hg hf hm1 (errR_ok h).1 (by rw [errT_one, h])).mono ?_
    intro e w' h5
    exact .inr ⟨h, h5⟩
  · refine (RReady_no g A1 m1 c1 dn w hg hf hm1 hn1 hn2 _ rfl h).mono ?_
    intro e w' h5
    exact .inl ⟨h, h5⟩
end Go.Proofs.Ytblepaocekojbaa
