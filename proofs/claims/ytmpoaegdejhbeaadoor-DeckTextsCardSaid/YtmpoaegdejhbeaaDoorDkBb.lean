/-
  The walk of deck.Back where it refuses, for every graph and tasks.
-/
import Derived.Test.YtmpoaegdejhbeaaDoorDkBk
namespace Go.Proofs.YtmpoaegdejhbeaaDoor
open Go.RowKit Go.Shelf Go.Deep Go.Maps
attribute [local go_sem] Oper.semAt_some

/-- The error of a graph and two lists of tasks. -/
def errB (g : Gr) (fallen gone : List Int) : Int := if validB g && (ascB fallen && ascB gone) then (if fallen.any (outT g.n1) || gone.any (outT g.n1) then 7 else 0) else 1

set_option maxRecDepth 100000 in
set_option maxHeartbeats 2000000 in
theorem Back_no0 (g : Gr) (A1 : Option Addr) (m1 c1 : Nat) (A2 : Option Addr) (m2 c2 : Nat) (w : World) (hg : g.Ok w w.heap.size) 
    (hn1 : g.n1 ≤ 4611686018427387904) (hn2 : g.n2 ≤ 4611686018427387904) (hv : validB g = false) :
    Calls Tryd.prog 14 #[.agg #[g.v1, g.v2], .slice A1 m1 c1, .slice A2 m2 c2] w (RetSlE w 1 0 [] 1) := by
  go_enter Tryd.func14, Tryd.ntmps14
  have hB0 : Below w.heap.size w ((w.alloc (.cells #[g.v1, g.v2] 31)).alloc (.cells #[.slice A2 m2 c2] 22)) := ((Below.refl _ _).alloc (Nat.le_refl _) _).alloc (by simp) _
  have b0 : Blk ((w.alloc (.cells #[g.v1, g.v2] 31)).alloc (.cells #[.slice A2 m2 c2] 22)) w.heap.size 31 #[g.v1, g.v2] := (Blk.new w _ _).alloc _
  have b1 : Blk ((w.alloc (.cells #[g.v1, g.v2] 31)).alloc (.cells #[.slice A2 m2 c2] 22)) (w.heap.size + 1) 22 #[.slice A2 m2 c2] := by
    have := Blk.new (w.alloc (.cells #[g.v1, g.v2] 31)) 22 #[.slice A2 m2 c2]
    rwa [World.size_alloc] at this
  have hs0 : ((w.alloc (.cells #[g.v1, g.v2] 31)).alloc (.cells #[.slice A2 m2 c2] 22)).heap.size = w.heap.size + 2 := by simp
  go_wp2_with fail
  obtain ⟨W0, hW0⟩ : ∃ W0, (w.alloc (.cells #[g.v1, g.v2] 31)).alloc (.cells #[.slice A2 m2 c2] 22) = W0 := ⟨_, rfl⟩
  rw [hW0] at hB0 b0 b1 hs0 ⊢
  clear hW0
  have hs0 : w.heap.size + 2 ≤ W0.heap.size := by omega
  refine (Valid_any g W0 (hg.up hB0) hn1 hn2).mono ?_
  rintro e W1 ⟨rfl, hBs⟩
  rw [hv]
  replace hB0 := bstep hB0 hBs
  replace b0 := b0.below hBs (by omega)
  replace b1 := b1.below hBs (by omega)
  replace hs0 := Nat.le_trans hs0 hBs.size
  have d0 := b0.cell 0
  have d1 := b0.cell 1
  have k1 := b1.cell 0
  simp at d0 d1 k1
  clear hBs
  have HE := hide hB0
  clear hB0
  go_wp2
  go_ret2
  exact ⟨none, 0, rfl, Reads.none_, HE.out⟩

set_option maxRecDepth 100000 in
set_option maxHeartbeats 2000000 in
theorem Back_no1 (g : Gr) (A1 : Option Addr) (m1 c1 : Nat) (fallen : List Int) (A2 : Option Addr) (m2 c2 : Nat) (w : World) (hg : g.Ok w w.heap.size) (hf : Reads w w.heap.size 1 A1 m1 (fallen.map (Value.int .i64))) (hm1 : m1 ≤ 4611686018427387904)
    (hn1 : g.n1 ≤ 4611686018427387904) (hn2 : g.n2 ≤ 4611686018427387904) (hv : validB g = true) (hasc1 : ascB fallen = false) :
    Calls Tryd.prog 14 #[.agg #[g.v1, g.v2], .slice A1 m1 c1, .slice A2 m2 c2] w (RetSlE w 1 0 [] 1) := by
  go_enter Tryd.func14, Tryd.ntmps14
  have hB0 : Below w.heap.size w ((w.alloc (.cells #[g.v1, g.v2] 31)).alloc (.cells #[.slice A2 m2 c2] 22)) := ((Below.refl _ _).alloc (Nat.le_refl _) _).alloc (by simp) _
  have b0 : Blk ((w.alloc (.cells #[g.v1, g.v2] 31)).alloc (.cells #[.slice A2 m2 c2] 22)) w.heap.size 31 #[g.v1, g.v2] := (Blk.new w _ _).alloc _
  have b1 : Blk ((w.alloc (.cells #[g.v1, g.v2] 31)).alloc (.cells #[.slice A2 m2 c2] 22)) (w.heap.size + 1) 22 #[.slice A2 m2 c2] := by
    have := Blk.new (w.alloc (.cells #[g.v1, g.v2] 31)) 22 #[.slice A2 m2 c2]
    rwa [World.size_alloc] at this
  have hs0 : ((w.alloc (.cells #[g.v1, g.v2] 31)).alloc (.cells #[.slice A2 m2 c2] 22)).heap.size = w.heap.size + 2 := by simp
  go_wp2_with fail
  obtain ⟨W0, hW0⟩ : ∃ W0, (w.alloc (.cells #[g.v1, g.v2] 31)).alloc (.cells #[.slice A2 m2 c2] 22) = W0 := ⟨_, rfl⟩
  rw [hW0] at hB0 b0 b1 hs0 ⊢
  clear hW0
  have hs0 : w.heap.size + 2 ≤ W0.heap.size := by omega
  refine (Valid_any g W0 (hg.up hB0) hn1 hn2).mono ?_
  rintro e W1 ⟨rfl, hBs⟩
  rw [hv]
  replace hB0 := bstep hB0 hBs
  replace b0 := b0.below hBs (by omega)
  replace b1 := b1.below hBs (by omega)
  replace hs0 := Nat.le_trans hs0 hBs.size
  have d0 := b0.cell 0
  have d1 := b0.cell 1
  have k1 := b1.cell 0
  simp at d0 d1 k1
  clear hBs
  go_wp2_with fail
  refine (ascends_any A1 m1 _ _ fallen W1 (hf.up hB0) (by omega)).mono ?_
  rintro e W2 ⟨rfl, q, hq⟩
  rw [hasc1]
  have hBs : Below W1.heap.size W1 W2 := by rw [hq]; exact below_drewN (Below.refl _ _) q
  clear hq
  clear d0 d1 k1
  replace hB0 := bstep hB0 hBs
  replace b0 := b0.below hBs (by omega)
  replace b1 := b1.below hBs (by omega)
  replace hs0 := Nat.le_trans hs0 hBs.size
  have d0 := b0.cell 0
  have d1 := b0.cell 1
  have k1 := b1.cell 0
  simp at d0 d1 k1
  clear hBs
  have HE := hide hB0
  clear hB0
  go_wp2
  go_ret2
  exact ⟨none, 0, rfl, Reads.none_, HE.out⟩

set_option maxRecDepth 100000 in
set_option maxHeartbeats 2000000 in
theorem Back_no2 (g : Gr) (A1 : Option Addr) (m1 c1 : Nat) (fallen : List Int) (A2 : Option Addr) (m2 c2 : Nat) (gone : List Int) (w : World) (hg : g.Ok w w.heap.size) (hf : Reads w w.heap.size 1 A1 m1 (fallen.map (Value.int .i64))) (hm1 : m1 ≤ 4611686018427387904) (hgo : Reads w w.heap.size 1 A2 m2 (gone.map (Value.int .i64))) (hm2 : m2 ≤ 4611686018427387904)
    (hn1 : g.n1 ≤ 4611686018427387904) (hn2 : g.n2 ≤ 4611686018427387904) (hv : validB g = true) (hasc1 : ascB fallen = true) (hasc2 : ascB gone = false) :
    Calls Tryd.prog 14 #[.agg #[g.v1, g.v2], .slice A1 m1 c1, .slice A2 m2 c2] w (RetSlE w 1 0 [] 1) := by
  go_enter Tryd.func14, Tryd.ntmps14
  have hB0 : Below w.heap.size w ((w.alloc (.cells #[g.v1, g.v2] 31)).alloc (.cells #[.slice A2 m2 c2] 22)) := ((Below.refl _ _).alloc (Nat.le_refl _) _).alloc (by simp) _
  have b0 : Blk ((w.alloc (.cells #[g.v1, g.v2] 31)).alloc (.cells #[.slice A2 m2 c2] 22)) w.heap.size 31 #[g.v1, g.v2] := (Blk.new w _ _).alloc _
  have b1 : Blk ((w.alloc (.cells #[g.v1, g.v2] 31)).alloc (.cells #[.slice A2 m2 c2] 22)) (w.heap.size + 1) 22 #[.slice A2 m2 c2] := by
    have := Blk.new (w.alloc (.cells #[g.v1, g.v2] 31)) 22 #[.slice A2 m2 c2]
    rwa [World.size_alloc] at this
  have hs0 : ((w.alloc (.cells #[g.v1, g.v2] 31)).alloc (.cells #[.slice A2 m2 c2] 22)).heap.size = w.heap.size + 2 := by simp
  go_wp2_with fail
  obtain ⟨W0, hW0⟩ : ∃ W0, (w.alloc (.cells #[g.v1, g.v2] 31)).alloc (.cells #[.slice A2 m2 c2] 22) = W0 := ⟨_, rfl⟩
  rw [hW0] at hB0 b0 b1 hs0 ⊢
  clear hW0
  have hs0 : w.heap.size + 2 ≤ W0.heap.size := by omega
  refine (Valid_any g W0 (hg.up hB0) hn1 hn2).mono ?_
  rintro e W1 ⟨rfl, hBs⟩
  rw [hv]
  replace hB0 := bstep hB0 hBs
  replace b0 := b0.below hBs (by omega)
  replace b1 := b1.below hBs (by omega)
  replace hs0 := Nat.le_trans hs0 hBs.size
  have d0 := b0.cell 0
  have d1 := b0.cell 1
  have k1 := b1.cell 0
  simp at d0 d1 k1
  clear hBs
  go_wp2_with fail
  refine (ascends_any A1 m1 _ _ fallen W1 (hf.up hB0) (by omega)).mono ?_
  rintro e W2 ⟨rfl, q, hq⟩
  rw [hasc1]
  have hBs : Below W1.heap.size W1 W2 := by rw [hq]; exact below_drewN (Below.refl _ _) q
  clear hq
  clear d0 d1 k1
  replace hB0 := bstep hB0 hBs
  replace b0 := b0.below hBs (by omega)
  replace b1 := b1.below hBs (by omega)
  replace hs0 := Nat.le_trans hs0 hBs.size
  have d0 := b0.cell 0
  have d1 := b0.cell 1
  have k1 := b1.cell 0
  simp at d0 d1 k1
  clear hBs
  go_wp2_with fail
  refine (ascends_any A2 m2 _ _ gone W2 (hgo.up hB0) (by omega)).mono ?_
  rintro e W3 ⟨rfl, q, hq⟩
  rw [hasc2]
  have hBs : Below W2.heap.size W2 W3 := by rw [hq]; exact below_drewN (Below.refl _ _) q
  clear hq
  clear d0 d1 k1
  replace hB0 := bstep hB0 hBs
  replace b0 := b0.below hBs (by omega)
  replace b1 := b1.below hBs (by omega)
  replace hs0 := Nat.le_trans hs0 hBs.size
  have d0 := b0.cell 0
  have d1 := b0.cell 1
  have k1 := b1.cell 0
  simp at d0 d1 k1
  clear hBs
  have HE := hide hB0
  clear hB0
  go_wp2
  go_ret2
  exact ⟨none, 0, rfl, Reads.none_, HE.out⟩

set_option maxRecDepth 100000 in
set_option maxHeartbeats 2000000 in
theorem Back_no3 (g : Gr) (A1 : Option Addr) (m1 c1 : Nat) (fallen : List Int) (A2 : Option Addr) (m2 c2 : Nat) (gone : List Int) (w : World) (hg : g.Ok w w.heap.size) (hf : Reads w w.heap.size 1 A1 m1 (fallen.map (Value.int .i64))) (hm1 : m1 ≤ 4611686018427387904) (hgo : Reads w w.heap.size 1 A2 m2 (gone.map (Value.int .i64))) (hm2 : m2 ≤ 4611686018427387904)
    (hn1 : g.n1 ≤ 4611686018427387904) (hn2 : g.n2 ≤ 4611686018427387904) (hv : validB g = true) (hasc1 : ascB fallen = true) (hasc2 : ascB gone = true) (hout1 : fallen.any (outT g.n1) = true) :
    Calls Tryd.prog 14 #[.agg #[g.v1, g.v2], .slice A1 m1 c1, .slice A2 m2 c2] w (RetSlE w 1 0 [] 7) := by
  go_enter Tryd.func14, Tryd.ntmps14
  have hB0 : Below w.heap.size w ((w.alloc (.cells #[g.v1, g.v2] 31)).alloc (.cells #[.slice A2 m2 c2] 22)) := ((Below.refl _ _).alloc (Nat.le_refl _) _).alloc (by simp) _
  have b0 : Blk ((w.alloc (.cells #[g.v1, g.v2] 31)).alloc (.cells #[.slice A2 m2 c2] 22)) w.heap.size 31 #[g.v1, g.v2] := (Blk.new w _ _).alloc _
  have b1 : Blk ((w.alloc (.cells #[g.v1, g.v2] 31)).alloc (.cells #[.slice A2 m2 c2] 22)) (w.heap.size + 1) 22 #[.slice A2 m2 c2] := by
    have := Blk.new (w.alloc (.cells #[g.v1, g.v2] 31)) 22 #[.slice A2 m2 c2]
    rwa [World.size_alloc] at this
  have hs0 : ((w.alloc (.cells #[g.v1, g.v2] 31)).alloc (.cells #[.slice A2 m2 c2] 22)).heap.size = w.heap.size + 2 := by simp
  go_wp2_with fail
  obtain ⟨W0, hW0⟩ : ∃ W0, (w.alloc (.cells #[g.v1, g.v2] 31)).alloc (.cells #[.slice A2 m2 c2] 22) = W0 := ⟨_, rfl⟩
  rw [hW0] at hB0 b0 b1 hs0 ⊢
  clear hW0
  have hs0 : w.heap.size + 2 ≤ W0.heap.size := by omega
  refine (Valid_any g W0 (hg.up hB0) hn1 hn2).mono ?_
  rintro e W1 ⟨rfl, hBs⟩
  rw [hv]
  replace hB0 := bstep hB0 hBs
  replace b0 := b0.below hBs (by omega)
  replace b1 := b1.below hBs (by omega)
  replace hs0 := Nat.le_trans hs0 hBs.size
  have d0 := b0.cell 0
  have d1 := b0.cell 1
  have k1 := b1.cell 0
  simp at d0 d1 k1
  clear hBs
  go_wp2_with fail
  refine (ascends_any A1 m1 _ _ fallen W1 (hf.up hB0) (by omega)).mono ?_
  rintro e W2 ⟨rfl, q, hq⟩
  rw [hasc1]
  have hBs : Below W1.heap.size W1 W2 := by rw [hq]; exact below_drewN (Below.refl _ _) q
  clear hq
  clear d0 d1 k1
  replace hB0 := bstep hB0 hBs
  replace b0 := b0.below hBs (by omega)
  replace b1 := b1.below hBs (by omega)
  replace hs0 := Nat.le_trans hs0 hBs.size
  have d0 := b0.cell 0
  have d1 := b0.cell 1
  have k1 := b1.cell 0
  simp at d0 d1 k1
  clear hBs
  go_wp2_with fail
  refine (ascends_any A2 m2 _ _ gone W2 (hgo.up hB0) (by omega)).mono ?_
  rintro e W3 ⟨rfl, q, hq⟩
  rw [hasc2]
  have hBs : Below W2.heap.size W2 W3 := by rw [hq]; exact below_drewN (Below.refl _ _) q
  clear hq
  clear d0 d1 k1
  replace hB0 := bstep hB0 hBs
  replace b0 := b0.below hBs (by omega)
  replace b1 := b1.below hBs (by omega)
  replace hs0 := Nat.le_trans hs0 hBs.size
  have d0 := b0.cell 0
  have d1 := b0.cell 1
  have k1 := b1.cell 0
  simp at d0 d1 k1
  clear hBs
  go_wp2_with fail
  refine (tasks_any g A1 m1 _ _ fallen W3 (hf.up hB0) (Nat.le_refl _) (by omega)).mono ?_
  rintro e W4 ⟨rfl, hq⟩
  rw [hout1]
  have hBs : Below W3.heap.size W3 W4 := by rw [hq]; exact (Below.refl _ _).alloc (Nat.le_refl _) _
  clear hq
  clear d0 d1 k1
  replace hB0 := bstep hB0 hBs
  replace b0 := b0.below hBs (by omega)
  replace b1 := b1.below hBs (by omega)
  replace hs0 := Nat.le_trans hs0 hBs.size
  have d0 := b0.cell 0
  have d1 := b0.cell 1
  have k1 := b1.cell 0
  simp at d0 d1 k1
  clear hBs
  have HE := hide hB0
  clear hB0
  go_wp2
  go_ret2
  exact ⟨none, 0, rfl, Reads.none_, HE.out⟩

set_option maxRecDepth 100000 in
set_option maxHeartbeats 2000000 in
theorem Back_no4 (g : Gr) (A1 : Option Addr) (m1 c1 : Nat) (fallen : List Int) (A2 : Option Addr) (m2 c2 : Nat) (gone : List Int) (w : World) (hg : g.Ok w w.heap.size) (hf : Reads w w.heap.size 1 A1 m1 (fallen.map (Value.int .i64))) (hm1 : m1 ≤ 4611686018427387904) (hgo : Reads w w.heap.size 1 A2 m2 (gone.map (Value.int .i64))) (hm2 : m2 ≤ 4611686018427387904)
    (hn1 : g.n1 ≤ 4611686018427387904) (hn2 : g.n2 ≤ 4611686018427387904) (hv : validB g = true) (hasc1 : ascB fallen = true) (hasc2 : ascB gone = true) (hout1 : fallen.any (outT g.n1) = false) (hout2 : gone.any (outT g.n1) = true) :
    Calls Tryd.prog 14 #[.agg #[g.v1, g.v2], .slice A1 m1 c1, .slice A2 m2 c2] w (RetSlE w 1 0 [] 7) := by
  go_enter Tryd.func14, Tryd.ntmps14
  have hB0 : Below w.heap.size w ((w.alloc (.cells #[g.v1, g.v2] 31)).alloc (.cells #[.slice A2 m2 c2] 22)) := ((Below.refl _ _).alloc (Nat.le_refl _) _).alloc (by simp) _
  have b0 : Blk ((w.alloc (.cells #[g.v1, g.v2] 31)).alloc (.cells #[.slice A2 m2 c2] 22)) w.heap.size 31 #[g.v1, g.v2] := (Blk.new w _ _).alloc _
  have b1 : Blk ((w.alloc (.cells #[g.v1, g.v2] 31)).alloc (.cells #[.slice A2 m2 c2] 22)) (w.heap.size + 1) 22 #[.slice A2 m2 c2] := by
    have := Blk.new (w.alloc (.cells #[g.v1, g.v2] 31)) 22 #[.slice A2 m2 c2]
    rwa [World.size_alloc] at this
  have hs0 : ((w.alloc (.cells #[g.v1, g.v2] 31)).alloc (.cells #[.slice A2 m2 c2] 22)).heap.size = w.heap.size + 2 := by simp
  go_wp2_with fail
  obtain ⟨W0, hW0⟩ : ∃ W0, (w.alloc (.cells #[g.v1, g.v2] 31)).alloc (.cells #[.slice A2 m2 c2] 22) = W0 := ⟨_, rfl⟩
  rw [hW0] at hB0 b0 b1 hs0 ⊢
  clear hW0
  have hs0 : w.heap.size + 2 ≤ W0.heap.size := by omega
  refine (Valid_any g W0 (hg.up hB0) hn1 hn2).mono ?_
  rintro e W1 ⟨rfl, hBs⟩
  rw [hv]
  replace hB0 := bstep hB0 hBs
  replace b0 := b0.below hBs (by omega)
  replace b1 := b1.below hBs (by omega)
  replace hs0 := Nat.le_trans hs0 hBs.size
  have d0 := b0.cell 0
  have d1 := b0.cell 1
  have k1 := b1.cell 0
  simp at d0 d1 k1
  clear hBs
  go_wp2_with fail
  refine (ascends_any A1 m1 _ _ fallen W1 (hf.up hB0) (by omega)).mono ?_
  rintro e W2 ⟨rfl, q, hq⟩
  rw [hasc1]
  have hBs : Below W1.heap.size W1 W2 := by rw [hq]; exact below_drewN (Below.refl _ _) q
  clear hq
  clear d0 d1 k1
  replace hB0 := bstep hB0 hBs
  replace b0 := b0.below hBs (by omega)
  replace b1 := b1.below hBs (by omega)
  replace hs0 := Nat.le_trans hs0 hBs.size
  have d0 := b0.cell 0
  have d1 := b0.cell 1
  have k1 := b1.cell 0
  simp at d0 d1 k1
  clear hBs
  go_wp2_with fail
  refine (ascends_any A2 m2 _ _ gone W2 (hgo.up hB0) (by omega)).mono ?_
  rintro e W3 ⟨rfl, q, hq⟩
  rw [hasc2]
  have hBs : Below W2.heap.size W2 W3 := by rw [hq]; exact below_drewN (Below.refl _ _) q
  clear hq
  clear d0 d1 k1
  replace hB0 := bstep hB0 hBs
  replace b0 := b0.below hBs (by omega)
  replace b1 := b1.below hBs (by omega)
  replace hs0 := Nat.le_trans hs0 hBs.size
  have d0 := b0.cell 0
  have d1 := b0.cell 1
  have k1 := b1.cell 0
  simp at d0 d1 k1
  clear hBs
  go_wp2_with fail
  refine (tasks_any g A1 m1 _ _ fallen W3 (hf.up hB0) (Nat.le_refl _) (by omega)).mono ?_
  rintro e W4 ⟨rfl, hq⟩
  rw [hout1]
  have hBs : Below W3.heap.size W3 W4 := by rw [hq]; exact (Below.refl _ _).alloc (Nat.le_refl _) _
  clear hq
  clear d0 d1 k1
  replace hB0 := bstep hB0 hBs
  replace b0 := b0.below hBs (by omega)
  replace b1 := b1.below hBs (by omega)
  replace hs0 := Nat.le_trans hs0 hBs.size
  have d0 := b0.cell 0
  have d1 := b0.cell 1
  have k1 := b1.cell 0
  simp at d0 d1 k1
  clear hBs
  go_wp2_with fail
  refine (tasks_any g A2 m2 _ _ gone W4 (hgo.up hB0) (Nat.le_refl _) (by omega)).mono ?_
  rintro e W5 ⟨rfl, hq⟩
  rw [hout2]
  have hBs : Below W4.heap.size W4 W5 := by rw [hq]; exact (Below.refl _ _).alloc (Nat.le_refl _) _
  clear hq
  clear d0 d1 k1
  replace hB0 := bstep hB0 hBs
  replace b0 := b0.below hBs (by omega)
  replace b1 := b1.below hBs (by omega)
  replace hs0 := Nat.le_trans hs0 hBs.size
  have d0 := b0.cell 0
  have d1 := b0.cell 1
  have k1 := b1.cell 0
  simp at d0 d1 k1
  clear hBs
  have HE := hide hB0
  clear hB0
  go_wp2
  go_ret2
  exact ⟨none, 0, rfl, Reads.none_, HE.out⟩

theorem Back_any (g : Gr) (A1 : Option Addr) (m1 c1 : Nat) (fallen : List Int) (A2 : Option Addr) (m2 c2 : Nat) (gone : List Int) (w : World) (hg : g.Ok w w.heap.size) (hf : Reads w w.heap.size 1 A1 m1 (fallen.map (Value.int .i64))) (hgo : Reads w w.heap.size 1 A2 m2 (gone.map (Value.int .i64)))
    (hm1 : m1 ≤ 4611686018427387904) (hm2 : m2 ≤ 4611686018427387904) (hn1 : g.n1 ≤ 4611686018427387904) (hn2 : g.n2 ≤ 4611686018427387904) (xs : List Int)
    (hx : errB g fallen gone = 0 → ∃ S, IsBack (labs g.es) g.es fallen gone S ∧ xs = tkn (fun t => S (labs g.es t)) g.n1) (hx0 : errB g fallen gone ≠ 0 → xs = []) :
    Calls Tryd.prog 14 #[.agg #[g.v1, g.v2], .slice A1 m1 c1, .slice A2 m2 c2] w (RetSlE w 1 xs.length (intsL xs) (errB g fallen gone)) := by
  cases h1 : validB g
  · have e : errB g fallen gone = 1 := by simp [errB, h1]
    rw [e, hx0 (by omega)]
    exact Back_no0 g A1 m1 c1 A2 m2 c2 w hg hn1 hn2 h1
  cases h2 : ascB fallen
  · have e : errB g fallen gone = 1 := by simp [errB, h2]
    rw [e, hx0 (by omega)]
    exact Back_no1 g A1 m1 c1 fallen A2 m2 c2 w hg hf hm1 hn1 hn2 h1 h2
  cases h3 : ascB gone
  · have e : errB g fallen gone = 1 := by simp [errB, h3]
    rw [e, hx0 (by omega)]
    exact Back_no2 g A1 m1 c1 fallen A2 m2 c2 gone w hg hf hm1 hgo hm2 hn1 hn2 h1 h2 h3
  cases h4 : fallen.any (outT g.n1)
  · cases h5 : gone.any (outT g.n1)
    · have e : errB g fallen gone = 0 := by simp only [errB, h1, h2, h3, h4, h5]; rfl
      obtain ⟨S, hS, rfl⟩ := hx e
      rw [e]
      exact Back_ok g A1 m1 c1 fallen A2 m2 c2 gone w hg hf hgo hm1 hm2 h1 h2 h3 h4 h5 S hS
    · have e : errB g fallen gone = 7 := by simp only [errB, h1, h2, h3, h4, h5]; rfl
      rw [e, hx0 (by omega)]
      exact Back_no4 g A1 m1 c1 fallen A2 m2 c2 gone w hg hf hm1 hgo hm2 hn1 hn2 h1 h2 h3 h4 h5
  · have e : errB g fallen gone = 7 := by simp only [errB, h1, h2, h3, h4]; rfl
    rw [e, hx0 (by omega)]
    exact Back_no3 g A1 m1 c1 fallen A2 m2 c2 gone w hg hf hm1 hgo hm2 hn1 hn2 h1 h2 h3 h4
end Go.Proofs.YtmpoaegdejhbeaaDoor
