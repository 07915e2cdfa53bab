/-
  The walk of the chapter's example (awake).
-/
import Derived.Test.YtmpoaegdejhbeaaDoorDkReg
namespace Go.Proofs.YtmpoaegdejhbeaaDoor
open Go.RowKit Go.Shelf Go.Deep
attribute [local go_sem] Oper.semAt_some

def exEs : List Ed := [⟨0, 1, false⟩, ⟨1, 2, true⟩]
/-- The example's graph, its two rows in blocks h and h + 1. -/
def exG (h : Nat) : Gr := { a1 := some ⟨h, 0, none⟩, n1 := 3, c1 := 3, ops := [0, 1, 2], a2 := some ⟨h + 1, 0, none⟩, n2 := 2, c2 := 2, es := exEs }
theorem exV (h : Nat) : validB (exG h) = true := rfl
theorem exL0 : labs exEs 0 = 0 := rfl
theorem exL1 : labs exEs 1 = 0 := rfl
theorem exL2 : labs exEs 2 = 2 := rfl
theorem exReg (h : Nat) : regL (exG h) = [0, 0, 1].map (Value.int .i64) := rfl
theorem exE1 (h : Nat) : errB (exG h) [2] [] = 0 := rfl
theorem exE2 (h : Nat) : errB (exG h) [2] [1] = 0 := rfl
theorem exNx {gone : List Int} {x y : Nat} (h : Nx (labs exEs) exEs gone x y) : (x = 0 ∧ y = 2) ∨ (x = 2 ∧ y = 0 ∧ hasB gone 1 = true) := by
  obtain ⟨e, he, hs, h2⟩ := h
  simp only [exEs, List.mem_cons, List.not_mem_nil, or_false] at he
  rcases he with rfl | rfl
  · cases hs
  · rcases h2 with ⟨h3, h4⟩ | ⟨h3, h4, h5⟩
    · exact .inl ⟨h3.symm.trans exL1, h4.symm.trans exL2⟩
    · exact .inr ⟨h3.symm.trans exL2, h4.symm.trans exL1, h5⟩
theorem exB1 : IsBack (labs exEs) exEs [2] [] (fun r => decide (r = 2)) := fun r => by
  simp only [decide_eq_true_eq]
  constructor
  · rintro rfl; exact Lst.seed ⟨2, by simp, exL2.symm⟩
  · intro h
    refine h (fun r => r = 2) (fun x y hx hn => ?_) (fun r ⟨t, ht, e⟩ => ?_)
    · rcases exNx hn with ⟨h1, _⟩ | ⟨_, _, h3⟩
      · rw [hx] at h1; cases h1
      · cases h3
    · obtain rfl : t = 2 := by simpa using ht
      exact e.trans exL2
theorem exB2 : IsBack (labs exEs) exEs [2] [1] (fun r => decide (r = 0 ∨ r = 2)) := fun r => by
  simp only [decide_eq_true_eq]
  constructor
  · have h2 : Lst (Nx (labs exEs) exEs [1]) (seedOf (labs exEs) [2]) 2 := Lst.seed ⟨2, by simp, exL2.symm⟩
    rintro (rfl | rfl)
    · exact Lst.cls _ _ 2 0 h2 ⟨⟨1, 2, true⟩, by simp [exEs], rfl, .inr ⟨exL2, exL1, rfl⟩⟩
    · exact h2
  · intro h
    refine h (fun r => r = 0 ∨ r = 2) (fun x y hx hn => ?_) (fun r ⟨t, ht, e⟩ => ?_)
    · rcases exNx hn with ⟨_, h1⟩ | ⟨_, h1, _⟩
      · exact .inr h1
      · exact .inl h1
    · obtain rfl : t = 2 := by simpa using ht
      exact .inr (e.trans exL2)
theorem exT1 : tkn (fun t => (fun r => decide (r = 2)) (labs exEs t)) 3 = [2] := rfl
theorem exT2 : tkn (fun t => (fun r => decide (r = 0 ∨ r = 2)) (labs exEs t)) 3 = [0, 1, 2] := rfl
theorem reads_lit (w : World) (xs : List Int) (t : TypeId) (n : Nat) (hn : xs.length = n) : Reads (w.alloc (.cells (xs.map (Value.int .i64)).toArray t)) (w.alloc (.cells (xs.map (Value.int .i64)).toArray t)).heap.size 1 (some ⟨w.heap.size, 0, none⟩) n (xs.map (Value.int .i64)) :=
  ⟨by simp [hn], fun _ => ⟨w.heap.size, 0, rfl, by simp, fun j u hu => by
    have := (Blk.new w t (xs.map (Value.int .i64)).toArray).cell j
    rw [Nat.zero_add, this]; simpa using hu⟩⟩

set_option maxRecDepth 100000 in
set_option maxHeartbeats 4000000 in
theorem awake_any (w : World) : Calls Tryd.prog 4 #[] w (RetV w (.bool true)) := by
  go_enter Tryd.func4, Tryd.ntmps4
  have b1 := Blk.new w 3 #[.int .i64 0, .int .i64 1, .int .i64 2]
  have b2 := Blk.new (w.alloc (.cells #[.int .i64 0, .int .i64 1, .int .i64 2] 3)) 43 #[.int .i64 0, .int .i64 1, .bool false, .int .i64 1, .int .i64 2, .bool true]
  have b3 := Blk.new ((w.alloc (.cells #[.int .i64 0, .int .i64 1, .int .i64 2] 3)).alloc (.cells #[.int .i64 0, .int .i64 1, .bool false, .int .i64 1, .int .i64 2, .bool true] 43)) 31 #[.slice (some ⟨w.heap.size, 0, none⟩) 3 3, .slice (some ⟨w.heap.size + 1, 0, none⟩) 2 2]
  simp only [World.size_alloc] at b2 b3
  go_upto_region 2 with fail
  obtain ⟨WG, hWG⟩ : ∃ WG, ((w.alloc (.cells #[.int .i64 0, .int .i64 1, .int .i64 2] 3)).alloc (.cells #[.int .i64 0, .int .i64 1, .bool false, .int .i64 1, .int .i64 2, .bool true] 43)).alloc (.cells #[.slice (some ⟨w.heap.size, 0, none⟩) 3 3, .slice (some ⟨w.heap.size + 1, 0, none⟩) 2 2] 31) = WG := ⟨_, rfl⟩
  have hBw : Below w.heap.size w WG := by
    rw [← hWG]; exact (((Below.refl _ _).alloc (Nat.le_refl _) _).alloc (by simp) _).alloc (by simp; omega) _
  have hsG : WG.heap.size = w.heap.size + 3 := by rw [← hWG]; simp
  have n1 : Blk WG w.heap.size 3 #[.int .i64 0, .int .i64 1, .int .i64 2] := by rw [← hWG]; exact (b1.alloc _).alloc _
  have n2 : Blk WG (w.heap.size + 1) 43 #[.int .i64 0, .int .i64 1, .bool false, .int .i64 1, .int .i64 2, .bool true] := by rw [← hWG]; exact b2.alloc _
  have n3 : Blk WG (w.heap.size + 1 + 1) 31 #[.slice (some ⟨w.heap.size, 0, none⟩) 3 3, .slice (some ⟨w.heap.size + 1, 0, none⟩) 2 2] := by rw [← hWG]; exact b3
  rw [hWG]
  clear hWG b1 b2 b3
  have hG : (exG w.heap.size).Ok WG WG.heap.size := ⟨⟨rfl, fun _ => ⟨w.heap.size, 0, rfl, by omega, fun j u hu => by
      rw [Nat.zero_add, n1.cell]; simpa [exG] using hu⟩⟩, ⟨rfl, fun _ => ⟨w.heap.size + 1, 0, rfl, by omega, fun j u hu => by
      rw [Nat.zero_add, n2.cell]; simpa [exG, exEs, encEd] using hu⟩⟩⟩
  clear n1 n2
  have hl3 : w.heap.size + 1 + 1 < WG.heap.size := by omega
  have d0 := n3.cell 0
  have d1 := n3.cell 1
  simp at d0 d1
  go_wp2_with fail
  refine (Regions_any (exG w.heap.size) WG hG (by show 3 ≤ _; omega) (by show 2 ≤ _; omega)).mono ?_
  rintro e W1 ⟨Ar, cr, rfl, hr, hB1⟩
  rw [exReg] at hr
  rw [show regN (exG w.heap.size) = 3 from rfl, show regE (exG w.heap.size) = 0 from rfl]
  rw [show regN (exG w.heap.size) = 3 from rfl] at hr
  have hG1 := hG.up hB1
  have n31 := n3.below hB1 hl3
  have hBw1 := bstep hBw hB1
  have hl31 : w.heap.size + 1 + 1 < W1.heap.size := Nat.lt_of_lt_of_le hl3 hB1.size
  clear hG n3 hBw hl3 d0 d1 hB1 hsG
  have d0 := n31.cell 0
  have d1 := n31.cell 1
  simp at d0 d1
  have hx2 := reads_lit W1 [2] 3 1 rfl
  have hBa : Below W1.heap.size W1 (W1.alloc (.cells #[.int .i64 2] 3)) := (Below.refl _ _).alloc (Nat.le_refl _) _
  go_wp2_with fail
  refine (Back_any (exG w.heap.size) (some ⟨W1.heap.size, 0, none⟩) 1 1 [2] none 0 0 [] _ (hG1.up hBa) hx2 Reads.none_ (by omega) (by omega) (by show 3 ≤ _; omega) (by show 2 ≤ _; omega) [2] (fun _ => ⟨_, exB1, exT1.symm⟩) (fun h => absurd (exE1 _) h)).mono ?_
  rintro e W2 ⟨Aa, ca, rfl, ha, hB2⟩
  rw [exE1]
  have hB12 := bstep hBa hB2
  have hG2 := hG1.up hB12
  have n32 := n31.below hB12 hl31
  have hBw2 := bstep hBw1 hB12
  have hl32 : w.heap.size + 1 + 1 < W2.heap.size := Nat.lt_of_lt_of_le hl31 hB12.size
  have hr2 := hr.up hB12
  clear hG1 n31 hBw1 hl31 d0 d1 hBa hB2 hB12 hr hx2
  have d0 := n32.cell 0
  have d1 := n32.cell 1
  simp at d0 d1
  have hx2 := reads_lit W2 [2] 3 1 rfl
  have hx3 := reads_lit (W2.alloc (.cells #[.int .i64 2] 3)) [1] 3 1 rfl
  have hBa : Below W2.heap.size W2 (W2.alloc (.cells #[.int .i64 2] 3)) := (Below.refl _ _).alloc (Nat.le_refl _) _
  have hBb : Below (W2.alloc (.cells #[.int .i64 2] 3)).heap.size (W2.alloc (.cells #[.int .i64 2] 3)) ((W2.alloc (.cells #[.int .i64 2] 3)).alloc (.cells #[.int .i64 1] 3)) := (Below.refl _ _).alloc (Nat.le_refl _) _
  rw [World.size_alloc W2] at hx3
  go_wp2_with fail
  refine (Back_any (exG w.heap.size) (some ⟨W2.heap.size, 0, none⟩) 1 1 [2] (some ⟨W2.heap.size + 1, 0, none⟩) 1 1 [1] _ (hG2.up (bstep hBa hBb)) (hx2.up hBb) hx3 (by omega) (by omega) (by show 3 ≤ _; omega) (by show 2 ≤ _; omega) [0, 1, 2] (fun _ => ⟨_, exB2, exT2.symm⟩) (fun h => absurd (exE2 _) h)).mono ?_
  rintro e W3 ⟨Ab, cb, rfl, hb, hB3⟩
  rw [exE2]
  have hB23 := bstep (bstep hBa hBb) hB3
  have hBw3 := bstep hBw2 hB23
  have hr3 := hr2.up hB23
  have ha3 := ha.up hB23
  clear hG2 n32 hBw2 hl32 d0 d1 hBa hBb hB3 hB23 hr2 ha hx2 hx3
  have hy := reads_lit W3 [0, 0, 1] 3 3 rfl
  have hBa : Below W3.heap.size W3 (W3.alloc (.cells #[.int .i64 0, .int .i64 0, .int .i64 1] 3)) := (Below.refl _ _).alloc (Nat.le_refl _) _
  go_wp2_with fail
  refine (SameInts_any _ _ _ _ _ _ _ _ [0, 0, 1] [0, 0, 1] _ (hr3.up hBa) hy (by omega) (by omega)).mono ?_
  rintro e W4 ⟨rfl, q1, hq1⟩
  rw [show decide (([0, 0, 1] : List Int) = [0, 0, 1]) = true from by simp]
  have hB34 : Below W3.heap.size W3 W4 := by rw [hq1]; exact below_drewN hBa q1
  have hBw4 := bstep hBw3 hB34
  have ha4 := ha3.up hB34
  have hb4 := hb.up hB34
  clear hr3 ha3 hb hy hBa hq1 hB34 hBw3
  have hy := reads_lit W4 [2] 3 1 rfl
  have hBa : Below W4.heap.size W4 (W4.alloc (.cells #[.int .i64 2] 3)) := (Below.refl _ _).alloc (Nat.le_refl _) _
  go_wp2_with fail
  refine (SameInts_any _ _ _ _ _ _ _ _ [2] [2] _ (ha4.up hBa) hy (by simp) (by omega)).mono ?_
  rintro e W5 ⟨rfl, q2, hq2⟩
  rw [show decide (([2] : List Int) = [2]) = true from by simp]
  have hB45 : Below W4.heap.size W4 W5 := by rw [hq2]; exact below_drewN hBa q2
  have hBw5 := bstep hBw4 hB45
  have hb5 := hb4.up hB45
  clear ha4 hb4 hy hBa hq2 hB45 hBw4
  have hy := reads_lit W5 [0, 1, 2] 3 3 rfl
  have hBa : Below W5.heap.size W5 (W5.alloc (.cells #[.int .i64 0, .int .i64 1, .int .i64 2] 3)) := (Below.refl _ _).alloc (Nat.le_refl _) _
  go_wp2_with fail
  refine (SameInts_any _ _ _ _ _ _ _ _ [0, 1, 2] [0, 1, 2] _ (hb5.up hBa) hy (by simp) (by omega)).mono ?_
  rintro e W6 ⟨rfl, q3, hq3⟩
  rw [show decide (([0, 1, 2] : List Int) = [0, 1, 2]) = true from by simp]
  have HE := hide (show Below w.heap.size w W6 by rw [hq3]; exact below_drewN (bstep hBw5 hBa) q3)
  clear hq3 hy hBa hBw5
  go_wp2
  go_ret
  exact ⟨rfl, HE.out⟩
end Go.Proofs.YtmpoaegdejhbeaaDoor
