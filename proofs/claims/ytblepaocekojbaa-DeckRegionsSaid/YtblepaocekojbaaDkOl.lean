/-
  The law DeckRegions: the walk, for every input.
-/
import Derived.Test.YtblepaocekojbaaDkOr2
import Derived.Test.YtblepaocekojbaaDkWv
import Derived.Test.YtblepaocekojbaaDkOpen
import Derived.Test.YtblepaocekojbaaQbw
import Derived.Deep.CutRange
namespace Go.Proofs.Ytblepaocekojbaa
open Go.RowKit Go.Shelf Go.Deep
attribute [local go_sem] Oper.semAt_some

def regI (g : Gr) : List Int := if validB g then (List.range g.n1).map (fun i => ((numOf (labs g.es) i : Nat) : Int)) else []
theorem regI_row (g : Gr) : regL g = (regI g).map (Value.int .i64) := by
  unfold regL regI rowL
  split <;> simp
theorem regI_len (g : Gr) : (regI g).length = regN g := by
  unfold regI regN
  split <;> simp
theorem ordL_len (g : Gr) : (ordL g).length = regN g := by
  unfold ordL regN
  split <;> simp
theorem ordL_at (g : Gr) {k : Nat} {x : Int} (h : (ordL g)[k]? = some x) : x = (k : Int) := by
  unfold ordL at h
  split at h
  · rw [List.getElem?_map] at h
    cases hk : (List.range g.n1)[k]? with
    | none => rw [hk] at h; cases h
    | some y =>
      rw [hk] at h
      have h1 := List.getElem?_eq_some_iff.1 hk
      obtain ⟨h2, h3⟩ := h1
      rw [List.getElem_range] at h3
      injection h with h
      rw [← h, ← h3]; rfl
  · cases h
theorem retq_v {w : World} {v : Value} {e : Ending} {w' : World} (h : RetQ w v e w') : RetV w v e w' := by
  obtain ⟨h1, n, rfl⟩ := h
  exact ⟨h1, below_drewN (Below.refl _ _) n⟩

set_option maxRecDepth 100000 in
set_option maxHeartbeats 8000000 in
theorem deckRegions_near (g : Gr) (w : World) (hg : g.Ok w w.heap.size)
    (hh : heavyB g = false) :
    Calls Try.prog 5 #[.agg #[g.v1, g.v2]] w (RetV w (.bool true)) := by
  have hn : g.n1 ≤ 300 ∧ g.n2 ≤ 60 := by
    unfold heavyB at hh
    simp only [Bool.or_eq_false_iff, decide_eq_false_iff_not] at hh
    omega
  obtain ⟨hn1, hn2⟩ := hn
  have hB0 : Below w.heap.size w (w.alloc (.cells #[g.v1, g.v2] 25)) := (Below.refl _ _).alloc (Nat.le_refl _) _
  have b0 : Blk (w.alloc (.cells #[g.v1, g.v2] 25)) w.heap.size 25 #[g.v1, g.v2] := Blk.new w _ _
  have hs0 : (w.alloc (.cells #[g.v1, g.v2] 25)).heap.size = w.heap.size + 1 := World.size_alloc _ _
  have HH := hide hh
  clear hh
  go_enter Try.func5, Try.ntmps5
  go_wp2_with fail
  obtain ⟨W0, hW0⟩ : ∃ W0, w.alloc (.cells #[g.v1, g.v2] 25) = W0 := ⟨_, rfl⟩
  rw [hW0] at hB0 b0 hs0 ⊢
  clear hW0
  refine (awake_any W0).mono ?_
  rintro e W1 ⟨rfl, hB1⟩
  have b1 := b0.below hB1 (by omega)
  have hB01 := bstep hB0 hB1
  have hs1 : w.heap.size < W1.heap.size := by have := hB1.size; omega
  clear b0 hB0 hs0 hB1
  have d0 := b1.cell 0
  have d1 := b1.cell 1
  simp at d0 d1
  go_wp2_with fail
  refine (heavy_any g W1).mono ?_
  rintro e W2 ⟨rfl, hB2⟩
  rw [HH.out]
  have b2 := b1.below hB2 hs1
  have hB02 := bstep hB01 hB2
  have hs2 := Nat.lt_of_lt_of_le hs1 hB2.size
  clear hB01 hB2 b1 d0 d1 hs1
  have d0 := b2.cell 0
  have d1 := b2.cell 1
  simp at d0 d1
  go_wp2_with fail
  refine (made_any g W2 (hg.up hB02) (by omega) (by omega)).mono ?_
  rintro e W3 ⟨g', hlike, rfl, hg3, hB3⟩
  rw [show g'.v1 = .slice g'.a1 g'.n1 g'.c1 from rfl, show g'.v2 = .slice g'.a2 g'.n2 g'.c2 from rfl]
  have HLK := hide hlike
  have hgn1 : g'.n1 ≤ 300 := by have := hlike.n1; omega
  have hgn2 : g'.n2 ≤ 60 := by have := hlike.n2; omega
  have b3 := b2.below hB3 hs2
  have hB03 := bstep hB02 hB3
  have hs3 := Nat.lt_of_lt_of_le hs2 hB3.size
  clear hB02 hB3 b2 d0 d1 hs2 hlike
  have x4 := Blk.new W3 30 #[.slice g'.a1 g'.n1 g'.c1, .slice g'.a2 g'.n2 g'.c2]
  have hB4 : Below W3.heap.size W3 (W3.alloc (.cells #[.slice g'.a1 g'.n1 g'.c1, .slice g'.a2 g'.n2 g'.c2] 30)) := (Below.refl _ _).alloc (Nat.le_refl _) _
  have hs4 : (W3.alloc (.cells #[.slice g'.a1 g'.n1 g'.c1, .slice g'.a2 g'.n2 g'.c2] 30)).heap.size = W3.heap.size + 1 := World.size_alloc _ _
  have hrn : regN g ≤ 300 := by unfold regN; split <;> omega
  obtain ⟨ys, EW, hof, hyl, hone⟩ := wv_one g
  have HWV := hide hone
  clear hof hone
  go_upto_region 6 with fail
  obtain ⟨W4, hW4⟩ : ∃ W4, W3.alloc (.cells #[.slice g'.a1 g'.n1 g'.c1, .slice g'.a2 g'.n2 g'.c2] 30) = W4 := ⟨_, rfl⟩
  rw [hW4] at x4 hB4 hs4 ⊢
  clear hW4
  obtain ⟨bx, hbx⟩ : ∃ bx, W3.heap.size = bx := ⟨_, rfl⟩
  rw [hbx] at x4 hs4 ⊢
  have hxw : w.heap.size < bx := by rw [← hbx]; exact hs3
  have b4 := b3.below hB4 hs3
  have hB04 := bstep hB03 hB4
  have hg4 := hg3.up hB4
  have hs4' : bx < W4.heap.size := by omega
  clear hB03 hB4 b3 hs3 hg3 hbx hs4
  have d0 := x4.cell 0
  have d1 := x4.cell 1
  simp at d0 d1
  go_wp2_with fail
  refine (Regions_any g' W4 hg4 (by omega) (by omega)).mono ?_
  rintro e W5 ⟨Aa, ca, rfl, ha, hB5⟩
  rw [HLK.out.regN, HLK.out.regL, regI_row] at ha
  rw [HLK.out.regN, HLK.out.regE]
  have b5 := b4.below hB5 (by omega)
  have x5 := x4.below hB5 hs4'
  have hB05 := bstep hB04 hB5
  have hg5 := hg4.up hB5
  have hs5 := Nat.lt_of_lt_of_le hs4' hB5.size
  clear hB04 hB5 b4 x4 d0 d1 hs4' hg4
  have d0 := b5.cell 0
  have d1 := b5.cell 1
  simp at d0 d1
  go_wp2_with fail
  refine (RRegions_any g W5 (hg.up hB05) (by omega) (by omega)).mono ?_
  rintro e W6 ⟨Ab, cb, rfl, hb, hB6⟩
  rw [regI_row] at hb
  have b6 := b5.below hB6 (by omega)
  have x6 := x5.below hB6 hs5
  have hB06 := bstep hB05 hB6
  have hg6 := hg5.up hB6
  have ha6 := ha.up hB6
  have hs6 := Nat.lt_of_lt_of_le hs5 hB6.size
  clear hB05 hB6 b5 x5 d0 d1 hs5 hg5 ha
  have d0 := x6.cell 0
  have d1 := x6.cell 1
  simp at d0 d1
  go_wp2_with fail
  refine (Waves_any g' W6 hg6 (by omega) (by omega)).mono ?_
  intro e W7 hret
  obtain ⟨Ac, cc, rfl, hc, hB7⟩ := HWV.out _ _ _ ((HLK.out.retW _ _ _).1 hret)
  clear hret
  have b7 := b6.below hB7 (by omega)
  have x7 := x6.below hB7 hs6
  have hB07 := bstep hB06 hB7
  have hg7 := hg6.up hB7
  have ha7 := ha6.up hB7
  have hb7 := hb.up hB7
  have hs7 := Nat.lt_of_lt_of_le hs6 hB7.size
  clear hB06 hB7 b6 x6 d0 d1 hs6 hg6 ha6 hb
  have d0 := b7.cell 0
  have d1 := b7.cell 1
  simp at d0 d1
  go_wp2_with fail
  refine (RWaves_any g W7 (hg.up hB07) (by omega) (by omega)).mono ?_
  intro e W8 hret
  obtain ⟨Ad, cd, rfl, hd, hB8⟩ := HWV.out _ _ _ hret
  clear hret
  have b8 := b7.below hB8 (by omega)
  have x8 := x7.below hB8 hs7
  have hB08 := bstep hB07 hB8
  have hg8 := hg7.up hB8
  have ha8 := ha7.up hB8
  have hb8 := hb7.up hB8
  have hc8 := hc.up hB8
  have hs8 := Nat.lt_of_lt_of_le hs7 hB8.size
  clear hB07 hB8 b7 x7 d0 d1 hs7 hg7 ha7 hb7 hc
  have d0 := x8.cell 0
  have d1 := x8.cell 1
  simp at d0 d1
  go_wp2_with fail
  refine (Order_any g' W8 hg8 (by omega) (by omega)).mono ?_
  rintro e W9 ⟨Ae, ce, rfl, he, hB9⟩
  rw [HLK.out.regN, show ordL g' = ordL g from by unfold ordL; rw [HLK.out.valid, HLK.out.n1]] at he
  rw [HLK.out.regN, HLK.out.regE]
  have b9 := b8.below hB9 (by omega)
  have x9 := x8.below hB9 hs8
  have hB09 := bstep hB08 hB9
  have hg9 := hg8.up hB9
  have ha9 := ha8.up hB9
  have hb9 := hb8.up hB9
  have hc9 := hc8.up hB9
  have hd9 := hd.up hB9
  have hs9 := Nat.lt_of_lt_of_le hs8 hB9.size
  clear hB08 hB9 b8 x8 d0 d1 hs8 hg8 ha8 hb8 hc8 hd
  have C1 := hide (fun (p : BW W9) => calls_bw (v := .bool (validB g)) (by
    have h := Valid_any g' p.x (hg9.up p.h) (by omega) (by omega)
    rw [HLK.out.valid] at h
    exact h))
  have C2 := hide (fun (p : BW W9) => calls_bw (RValid_any g p.x (hg.up (bstep hB09 p.h)) (by omega) (by omega)))
  have C3 := hide (fun (p : BW W9) (A A' : Option Addr) (m c m' c' : Nat) (h : (A = Aa ∧ A' = Ab ∧ m = regN g ∧ m' = regN g) ∨ (A = Ac ∧ A' = Ad ∧ m = ys.length ∧ m' = ys.length)) => calls_bw (f := 15) (args := #[.slice A m c, .slice A' m' c']) (v := .bool true) (by
    rcases h with ⟨rfl, rfl, rfl, rfl⟩ | ⟨rfl, rfl, rfl, rfl⟩
    · have h := SameInts_any A A' (regN g) (regN g) c c' _ _ (regI g) (regI g) p.x (ha9.up p.h) (hb9.up p.h) (by omega) (by omega)
      rw [show decide (regI g = regI g) = true from by simp] at h
      exact h.mono fun _ _ k => retq_v k
    · have h := SameInts_any A A' ys.length ys.length c c' _ _ ys ys p.x (hc9.up p.h) (hd9.up p.h) (by omega) (by omega)
      rw [show decide (ys = ys) = true from by simp] at h
      exact h.mono fun _ _ k => retq_v k))
  have x0 := fun (p : BW W9) => BW.cell (a := ⟨bx, 0, none⟩) (by show bx < _; omega) (x9.cell 0) p
  have x1 := fun (p : BW W9) => BW.cell (a := ⟨bx, 1, none⟩) (by show bx < _; omega) (x9.cell 1) p
  have y0 := fun (p : BW W9) => BW.cell (a := ⟨w.heap.size, 0, none⟩) (by show w.heap.size < _; omega) (b9.cell 0) p
  have y1 := fun (p : BW W9) => BW.cell (a := ⟨w.heap.size, 1, none⟩) (by show w.heap.size < _; omega) (b9.cell 1) p
  simp at x0 x1 y0 y1
  rw [show g.v1 = .slice g.a1 g.n1 g.c1 from rfl, show g.v2 = .slice g.a2 g.n2 g.c2 from rfl] at C2
  rw [show g'.v1 = .slice g'.a1 g'.n1 g'.c1 from rfl, show g'.v2 = .slice g'.a2 g'.n2 g'.c2 from rfl] at C1
  have HE9 := hide he
  have hOL := hide (ordL_len g)
  obtain ⟨N, hN⟩ : ∃ N, regN g = N := ⟨_, rfl⟩
  obtain ⟨E, hE⟩ : ∃ E, regE g = E := ⟨_, rfl⟩
  obtain ⟨vb, hvb⟩ : ∃ vb, validB g = vb := ⟨_, rfl⟩
  rw [hN] at C3 HE9 hrn hOL
  rw [hvb] at C1 C2
  rw [hN, hE]
  clear hN hE hvb ha9 hb9 hc9 hd9 he
  have n1 : (E != E) = false := by simp
  have n2 : (EW != EW) = false := by simp
  have n3 : (vb != vb) = false := by simp
  have n4 : ((N : Int) != (N : Int)) = false := by simp
  have n5 : (!(vb == vb)) = false := by simp
  go_wp2_with fail
  (refine wp_region_quiet_bw (by kernel_rfl) (by kernel_rfl) ?_
   repeat (first | go_big_quiet_step ((first | (go_at_call 30; exact C1.out _) | (go_at_call 31; exact C2.out _) | (go_at_call 15; refine C3.out _ _ _ _ _ _ _ ?_; first | exact Or.inl ⟨rfl, rfl, rfl, rfl⟩ | exact Or.inr ⟨rfl, rfl, rfl, rfl⟩))) | quiet_step ((first | (go_at_call 30; exact C1.out _) | (go_at_call 31; exact C2.out _) | (go_at_call 15; refine C3.out _ _ _ _ _ _ _ ?_; first | exact Or.inl ⟨rfl, rfl, rfl, rfl⟩ | exact Or.inr ⟨rfl, rfl, rfl, rfl⟩))))
   refine wpQuiet_nil ?_
   intro _ hw'
   obtain ⟨⟨wq, hbq⟩, hw''⟩ := hw'
   subst hw'')
  have hB10 := bstep hB09 hbq
  have he10 := HE9.out.up hbq
  clear hbq x0 x1 y0 y1 b9 x9 hg9 C1 C2 C3
  go_wp2_with fail
  go_loop [14] (fun i => ∃ k : Nat, k ≤ N ∧ i = .int .i64 k) (fun i => N - (intOf i).toNat)
  case atStart => exact ⟨0, Nat.zero_le _, rfl⟩
  case round =>
    obtain ⟨k, hk, rfl⟩ := hrel
    by_cases hlt : k < N
    · obtain ⟨b, off, x, rfl, hb1, hxk, hcx⟩ := he10.at1 hlt
      have hx := ordL_at g hxk
      subst hx
      clear hxk
      have q1 : (0 : Int) ≤ (k : Int) := by omega
      have q2 : (k : Int) < (N : Int) := by omega
      have n6 : ((k : Int) != (k : Int)) = false := by simp
      go_wp2
      go_round
      case rel => exact ⟨k + 1, by omega, by go_num⟩
      case measure => simp [intOf]; omega
    · obtain rfl : k = N := by omega
      go_wp2
      go_ret
      exact ⟨rfl, hB10⟩

set_option maxRecDepth 100000 in
set_option maxHeartbeats 2000000 in
theorem deckRegions_far (g : Gr) (w : World) (hh : heavyB g = true) :
    Calls Try.prog 5 #[.agg #[g.v1, g.v2]] w (RetV w (.bool true)) := by
  have hB0 : Below w.heap.size w (w.alloc (.cells #[g.v1, g.v2] 25)) := (Below.refl _ _).alloc (Nat.le_refl _) _
  have b0 : Blk (w.alloc (.cells #[g.v1, g.v2] 25)) w.heap.size 25 #[g.v1, g.v2] := Blk.new w _ _
  have hs0 : (w.alloc (.cells #[g.v1, g.v2] 25)).heap.size = w.heap.size + 1 := World.size_alloc _ _
  have HH := hide hh
  clear hh
  go_enter Try.func5, Try.ntmps5
  go_wp2_with fail
  obtain ⟨W0, hW0⟩ : ∃ W0, w.alloc (.cells #[g.v1, g.v2] 25) = W0 := ⟨_, rfl⟩
  rw [hW0] at hB0 b0 hs0 ⊢
  clear hW0
  refine (awake_any W0).mono ?_
  rintro e W1 ⟨rfl, hB1⟩
  have b1 := b0.below hB1 (by omega)
  have hB01 := bstep hB0 hB1
  clear b0 hB0 hs0 hB1
  have d0 := b1.cell 0
  have d1 := b1.cell 1
  simp at d0 d1
  go_wp2_with fail
  refine (heavy_any g W1).mono ?_
  rintro e W2 ⟨rfl, hB2⟩
  rw [HH.out]
  have HE := hide (bstep hB01 hB2)
  clear hB01 hB2 b1 d0 d1
  go_wp2
  go_ret
  exact ⟨rfl, HE.out⟩

theorem deckRegions_all (g : Gr) (w : World) (hg : g.Ok w w.heap.size) :
    Calls Try.prog 5 #[.agg #[g.v1, g.v2]] w (RetV w (.bool true)) := by
  cases h : heavyB g
  · exact deckRegions_near g w hg h
  · exact deckRegions_far g w h
end Go.Proofs.Ytblepaocekojbaa
