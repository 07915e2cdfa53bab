/-
  The walks of compared, place and CompareEntries of the program.
-/
import Derived.Test.YthngjbhamgmcgaaEnC
namespace Go.Proofs.Ythngjbhamgmcgaa
open Go.RowKit Go.Proofs
attribute [local go_sem] Oper.semAt_some
set_option linter.unusedVariables false

theorem bw4 {w w' : World} {g : Nat} {t : TypeId} {a b c d : Value} (h : Blk w g t #[a, b, c, d]) (hb : Below w.heap.size w w') : w'.cell? ⟨g, 0, none⟩ = some a ∧ w'.cell? ⟨g, 1, none⟩ = some b ∧ w'.cell? ⟨g, 2, none⟩ = some c ∧ w'.cell? ⟨g, 3, none⟩ = some d := by
  have h' := h.below hb h.lt
  exact ⟨h'.cell 0, h'.cell 1, h'.cell 2, h'.cell 3⟩
set_option maxRecDepth 100000 in
set_option maxHeartbeats 4000000 in
theorem comp3_any (x y : En) (b1 b2 : Nat) (w : World) (h1 : Blk w b1 94 #[.slice (some ⟨b2, 0, none⟩) 3 3]) (h2 : Blk w b2 58 #[.func (Fn.func 80) #[] #[], .func (Fn.func 82) #[] #[], .func (Fn.func 83) #[] #[]]) :
    Calls Try.prog 87 #[.agg #[.int .i64 x.g, .string x.nm, .string x.ky, .string x.vl], .agg #[.int .i64 y.g, .string y.nm, .string y.ky, .string y.vl], .pointer (some ⟨b1, 0, none⟩)] w (RetG w (.int .i64 (plE x y))) := by
  obtain ⟨res, hres⟩ : ∃ r, plE x y = r := ⟨_, rfl⟩
  have HR := hide hres
  rw [hres]
  clear hres
  have hG := (Grn.new w (.cells #[.int .i64 x.g, .string x.nm, .string x.ky, .string x.vl] 57)).alloc (.cells #[.int .i64 y.g, .string y.nm, .string y.ky, .string y.vl] 57)
  have k1 := (Blk.new w 57 #[.int .i64 x.g, .string x.nm, .string x.ky, .string x.vl]).alloc (.cells #[.int .i64 y.g, .string y.nm, .string y.ky, .string y.vl] 57)
  have k2 : Blk ((w.alloc (.cells #[.int .i64 x.g, .string x.nm, .string x.ky, .string x.vl] 57)).alloc (.cells #[.int .i64 y.g, .string y.nm, .string y.ky, .string y.vl] 57)) (w.heap.size + 1) 57 #[.int .i64 y.g, .string y.nm, .string y.ky, .string y.vl] := by
    have := Blk.new (w.alloc (.cells #[.int .i64 x.g, .string x.nm, .string x.ky, .string x.vl] 57)) 57 #[.int .i64 y.g, .string y.nm, .string y.ky, .string y.vl]
    rw [World.size_alloc] at this; exact this
  have g1 := h1.below hG.below h1.lt
  have g2 := h2.below hG.below h2.lt
  obtain ⟨W, hW⟩ : ∃ W, (w.alloc (.cells #[.int .i64 x.g, .string x.nm, .string x.ky, .string x.vl] 57)).alloc (.cells #[.int .i64 y.g, .string y.nm, .string y.ky, .string y.vl] 57) = W := ⟨_, rfl⟩
  rw [hW] at hG k1 k2 g1 g2
  have e0 := g1.cell 0
  simp at e0
  go_enter Try.func87, Try.ntmps87
  go_wp2_with fail
  clear hW e0
  go_loopw [11] (fun i wr => ∃ k : Nat, k ≤ 3 ∧ i = .int .i64 k ∧ (0 < k → cmpI x.g y.g = 0) ∧ (1 < k → cmpS x.nm y.nm = 0) ∧ (2 < k → cmpS x.ky y.ky = 0) ∧ Grn W wr) (fun i _ => 3 - (intOf i).toNat)
  case atStart => exact ⟨0, Nat.zero_le _, rfl, (fun h => absurd h (by omega)), (fun h => absurd h (by omega)), (fun h => absurd h (by omega)), Grn.refl _⟩
  case round =>
    obtain ⟨k, hk, rfl, z0, z1, z2, hGr⟩ := hrel
    have hb := hGr.below
    obtain ⟨c0, c1, c2, c3⟩ := bw4 k1 hb
    obtain ⟨d0, d1, d2, d3⟩ := bw4 k2 hb
    have g2r := g2.below hb g2.lt
    by_cases hk0 : k = 0
    · subst hk0
      have f0 := g2r.cell 0
      simp at f0
      clear g2r
      go_wp2_with fail
      refine (pl1_any x y wr).mono ?_
      rintro e w1 ⟨rfl, hG1⟩
      have HG1 := hide (hG.trans (hGr.trans hG1))
      have HG2 := hide (hGr.trans hG1)
      by_cases hc : cmpI x.g y.g = 0
      · have hz : (cmpI x.g y.g != 0) = false := by simpa using hc
        have HC := hide hc
        clear hc hG1 c0 c1 c2 c3 d0 d1 d2 d3 f0
        go_wp2
        go_roundw
        case rel => exact ⟨1, by omega, rfl, (fun _ => HC.out), (fun h => absurd h (by omega)), (fun h => absurd h (by omega)), HG2.out⟩
        case measure => simp [intOf]
      · have hz : (cmpI x.g y.g != 0) = true := by simpa using hc
        have HX := hide (show cmpI x.g y.g = res by rw [← HR.out]; unfold plE thenC; rw [if_neg hc])
        clear hc hG1 c0 c1 c2 c3 d0 d1 d2 d3 f0
        go_wp2
        go_ret
        exact ⟨ret_int HX.out, HG1.out⟩
    by_cases hk1 : k = 1
    · subst hk1
      have f0 := g2r.cell 1
      simp at f0
      clear g2r
      go_wp2_with fail
      refine (pl2_any x y wr).mono ?_
      rintro e w1 ⟨rfl, hG1⟩
      have HG1 := hide (hG.trans (hGr.trans hG1))
      have HG2 := hide (hGr.trans hG1)
      by_cases hc : cmpS x.nm y.nm = 0
      · have hz : (cmpS x.nm y.nm != 0) = false := by simpa using hc
        have HC := hide hc
        clear hc hG1 c0 c1 c2 c3 d0 d1 d2 d3 f0
        go_wp2
        go_roundw
        case rel => exact ⟨2, by omega, rfl, (fun _ => z0 (by omega)), (fun _ => HC.out), (fun h => absurd h (by omega)), HG2.out⟩
        case measure => simp [intOf]
      · have hz : (cmpS x.nm y.nm != 0) = true := by simpa using hc
        have HX := hide (show cmpS x.nm y.nm = res by rw [← HR.out]; unfold plE thenC; rw [if_pos (z0 (by omega)), if_neg hc])
        clear hc hG1 c0 c1 c2 c3 d0 d1 d2 d3 f0
        go_wp2
        go_ret
        exact ⟨ret_int HX.out, HG1.out⟩
    by_cases hk2 : k = 2
    · subst hk2
      have f0 := g2r.cell 2
      simp at f0
      clear g2r
      go_wp2_with fail
      refine (pl3_any x y wr).mono ?_
      rintro e w1 ⟨rfl, hG1⟩
      have HG1 := hide (hG.trans (hGr.trans hG1))
      have HG2 := hide (hGr.trans hG1)
      by_cases hc : cmpS x.ky y.ky = 0
      · have hz : (cmpS x.ky y.ky != 0) = false := by simpa using hc
        have HC := hide hc
        clear hc hG1 c0 c1 c2 c3 d0 d1 d2 d3 f0
        go_wp2
        go_roundw
        case rel => exact ⟨3, by omega, rfl, (fun _ => z0 (by omega)), (fun _ => z1 (by omega)), (fun _ => HC.out), HG2.out⟩
        case measure => simp [intOf]
      · have hz : (cmpS x.ky y.ky != 0) = true := by simpa using hc
        have HX := hide (show cmpS x.ky y.ky = res by rw [← HR.out]; unfold plE thenC; rw [if_pos (z0 (by omega)), if_pos (z1 (by omega))])
        clear hc hG1 c0 c1 c2 c3 d0 d1 d2 d3 f0
        go_wp2
        go_ret
        exact ⟨ret_int HX.out, HG1.out⟩
    obtain rfl : k = 3 := by omega
    have HX := hide (show 0 = res by rw [← HR.out]; unfold plE thenC; rw [if_pos (z0 (by omega)), if_pos (z1 (by omega)), z2 (by omega)])
    have HG1 := hide (hG.trans hGr)
    clear c0 c1 c2 c3 d0 d1 d2 d3 g2r
    go_wp2
    go_ret
    exact ⟨ret_int HX.out, HG1.out⟩
theorem compared_any (v : Value) (hv : ∃ A n c, v = .slice A n c) (w : World) : Calls Try.prog 63 #[v] w fun e w' => e = .returned (.func (Fn.func 87) #[] #[.pointer (some ⟨w.heap.size, 0, none⟩)]) ∧ w' = w.alloc (.cells #[v] 94) := by
  obtain ⟨A, n, c, rfl⟩ := hv
  go_enter Try.func63, Try.ntmps63
  go_wp2
  go_ret
  exact ⟨rfl, rfl⟩
set_option maxRecDepth 100000 in
set_option maxHeartbeats 4000000 in
theorem place_any (x y : En) (w : World) : Calls Try.prog 57 #[.agg #[.int .i64 x.g, .string x.nm, .string x.ky, .string x.vl], .agg #[.int .i64 y.g, .string y.nm, .string y.ky, .string y.vl]] w (RetG w (.int .i64 (plE x y))) := by
  have hG := (Grn.new w (.cells #[.int .i64 x.g, .string x.nm, .string x.ky, .string x.vl] 57)).alloc (.cells #[.int .i64 y.g, .string y.nm, .string y.ky, .string y.vl] 57)
  have k1 := (Blk.new w 57 #[.int .i64 x.g, .string x.nm, .string x.ky, .string x.vl]).alloc (.cells #[.int .i64 y.g, .string y.nm, .string y.ky, .string y.vl] 57)
  have k2 : Blk ((w.alloc (.cells #[.int .i64 x.g, .string x.nm, .string x.ky, .string x.vl] 57)).alloc (.cells #[.int .i64 y.g, .string y.nm, .string y.ky, .string y.vl] 57)) (w.heap.size + 1) 57 #[.int .i64 y.g, .string y.nm, .string y.ky, .string y.vl] := by
    have := Blk.new (w.alloc (.cells #[.int .i64 x.g, .string x.nm, .string x.ky, .string x.vl] 57)) 57 #[.int .i64 y.g, .string y.nm, .string y.ky, .string y.vl]
    rw [World.size_alloc] at this; exact this
  obtain ⟨W, hW⟩ : ∃ W, (w.alloc (.cells #[.int .i64 x.g, .string x.nm, .string x.ky, .string x.vl] 57)).alloc (.cells #[.int .i64 y.g, .string y.nm, .string y.ky, .string y.vl] 57) = W := ⟨_, rfl⟩
  rw [hW] at hG k1 k2
  have c0 := k1.cell 0
  have c1 := k1.cell 1
  have c2 := k1.cell 2
  have c3 := k1.cell 3
  have d0 := k2.cell 0
  have d1 := k2.cell 1
  have d2 := k2.cell 2
  have d3 := k2.cell 3
  simp at c0 c1 c2 c3 d0 d1 d2 d3
  have hlt1 := k1.lt
  have hlt2 := k2.lt
  have m1 := Blk.new W 58 #[.func (Fn.func 80) #[] #[], .func (Fn.func 82) #[] #[], .func (Fn.func 83) #[] #[]]
  have n1 := m1.alloc (.cells #[.slice (some ⟨W.heap.size, 0, none⟩) 3 3] 94)
  have n2 : Blk ((W.alloc (.cells #[.func (Fn.func 80) #[] #[], .func (Fn.func 82) #[] #[], .func (Fn.func 83) #[] #[]] 58)).alloc (.cells #[.slice (some ⟨W.heap.size, 0, none⟩) 3 3] 94)) (W.heap.size + 1) 94 #[.slice (some ⟨W.heap.size, 0, none⟩) 3 3] := by
    have := Blk.new (W.alloc (.cells #[.func (Fn.func 80) #[] #[], .func (Fn.func 82) #[] #[], .func (Fn.func 83) #[] #[]] 58)) 94 #[.slice (some ⟨W.heap.size, 0, none⟩) 3 3]
    rw [World.size_alloc] at this; exact this
  have HC := hide (comp3_any x y (W.heap.size + 1) W.heap.size ((W.alloc (.cells #[.func (Fn.func 80) #[] #[], .func (Fn.func 82) #[] #[], .func (Fn.func 83) #[] #[]] 58)).alloc (.cells #[.slice (some ⟨W.heap.size, 0, none⟩) 3 3] 94)).drew n2 n1)
  have HG := hide ((((Grn.refl W).alloc (.cells #[.func (Fn.func 80) #[] #[], .func (Fn.func 82) #[] #[], .func (Fn.func 83) #[] #[]] 58)).alloc (.cells #[.slice (some ⟨W.heap.size, 0, none⟩) 3 3] 94)).drew)
  clear m1 n1 n2
  go_enter Try.func57, Try.ntmps57
  go_wp2_with fail
  clear hW
  go_region_held3 (fun w' => w'.cell? ⟨w.heap.size, 0, none⟩ = some (.int .i64 x.g) ∧ w'.cell? ⟨w.heap.size, 1, none⟩ = some (.string x.nm) ∧ w'.cell? ⟨w.heap.size, 2, none⟩ = some (.string x.ky) ∧ w'.cell? ⟨w.heap.size, 3, none⟩ = some (.string x.vl) ∧ w'.cell? ⟨w.heap.size + 1, 0, none⟩ = some (.int .i64 y.g) ∧ w'.cell? ⟨w.heap.size + 1, 1, none⟩ = some (.string y.nm) ∧ w'.cell? ⟨w.heap.size + 1, 2, none⟩ = some (.string y.ky) ∧ w'.cell? ⟨w.heap.size + 1, 3, none⟩ = some (.string y.vl)) (go_keep)
    (first
      | (go_at_call 63; refine (compared_any _ ⟨_, _, _, rfl⟩ _).mono ?_; rintro e w' ⟨rfl, rfl⟩)
      | (go_at_call 87; refine HC.out.mono ?_; rintro e w' ⟨rfl, hG1⟩; have hBc := bstep HG.out.below hG1.below; have zz1 := bw4 k1 hBc; have zz2 := bw4 k2 hBc; obtain ⟨s0, s1, s2, s3⟩ := zz1; obtain ⟨t0, t1, t2, t3⟩ := zz2))
  all_goals
    have hF := hide (hG.trans (HG.out.trans hG1))
    clear hBc s0 s1 s2 s3 t0 t1 t2 t3 hG1
    go_wp2
    go_ret
    exact ⟨rfl, hF.out⟩
set_option maxRecDepth 100000 in
set_option maxHeartbeats 4000000 in
theorem comp2_any (x y : En) (b1 b2 : Nat) (w : World) (h1 : Blk w b1 94 #[.slice (some ⟨b2, 0, none⟩) 2 2]) (h2 : Blk w b2 58 #[.func (Fn.func 57) #[] #[], .func (Fn.func 64) #[] #[]]) :
    Calls Try.prog 87 #[.agg #[.int .i64 x.g, .string x.nm, .string x.ky, .string x.vl], .agg #[.int .i64 y.g, .string y.nm, .string y.ky, .string y.vl], .pointer (some ⟨b1, 0, none⟩)] w (RetG w (.int .i64 (cmE x y))) := by
  obtain ⟨res, hres⟩ : ∃ r, cmE x y = r := ⟨_, rfl⟩
  have HR := hide hres
  rw [hres]
  clear hres
  have hG := (Grn.new w (.cells #[.int .i64 x.g, .string x.nm, .string x.ky, .string x.vl] 57)).alloc (.cells #[.int .i64 y.g, .string y.nm, .string y.ky, .string y.vl] 57)
  have k1 := (Blk.new w 57 #[.int .i64 x.g, .string x.nm, .string x.ky, .string x.vl]).alloc (.cells #[.int .i64 y.g, .string y.nm, .string y.ky, .string y.vl] 57)
  have k2 : Blk ((w.alloc (.cells #[.int .i64 x.g, .string x.nm, .string x.ky, .string x.vl] 57)).alloc (.cells #[.int .i64 y.g, .string y.nm, .string y.ky, .string y.vl] 57)) (w.heap.size + 1) 57 #[.int .i64 y.g, .string y.nm, .string y.ky, .string y.vl] := by
    have := Blk.new (w.alloc (.cells #[.int .i64 x.g, .string x.nm, .string x.ky, .string x.vl] 57)) 57 #[.int .i64 y.g, .string y.nm, .string y.ky, .string y.vl]
    rw [World.size_alloc] at this; exact this
  have g1 := h1.below hG.below h1.lt
  have g2 := h2.below hG.below h2.lt
  obtain ⟨W, hW⟩ : ∃ W, (w.alloc (.cells #[.int .i64 x.g, .string x.nm, .string x.ky, .string x.vl] 57)).alloc (.cells #[.int .i64 y.g, .string y.nm, .string y.ky, .string y.vl] 57) = W := ⟨_, rfl⟩
  rw [hW] at hG k1 k2 g1 g2
  have e0 := g1.cell 0
  simp at e0
  go_enter Try.func87, Try.ntmps87
  go_wp2_with fail
  clear hW e0
  go_loopw [11] (fun i wr => ∃ k : Nat, k ≤ 2 ∧ i = .int .i64 k ∧ (0 < k → plE x y = 0) ∧ (1 < k → cmpS x.vl y.vl = 0) ∧ Grn W wr) (fun i _ => 2 - (intOf i).toNat)
  case atStart => exact ⟨0, Nat.zero_le _, rfl, (fun h => absurd h (by omega)), (fun h => absurd h (by omega)), Grn.refl _⟩
  case round =>
    obtain ⟨k, hk, rfl, z0, z1, hGr⟩ := hrel
    have hb := hGr.below
    obtain ⟨c0, c1, c2, c3⟩ := bw4 k1 hb
    obtain ⟨d0, d1, d2, d3⟩ := bw4 k2 hb
    have g2r := g2.below hb g2.lt
    by_cases hk0 : k = 0
    · subst hk0
      have f0 := g2r.cell 0
      simp at f0
      clear g2r
      go_wp2_with fail
      refine (place_any x y wr).mono ?_
      rintro e w1 ⟨rfl, hG1⟩
      have HG1 := hide (hG.trans (hGr.trans hG1))
      have HG2 := hide (hGr.trans hG1)
      by_cases hc : plE x y = 0
      · have hz : (plE x y != 0) = false := by simpa using hc
        have HC := hide hc
        clear hc hG1 c0 c1 c2 c3 d0 d1 d2 d3 f0
        go_wp2
        go_roundw
        case rel => exact ⟨1, by omega, rfl, (fun _ => HC.out), (fun h => absurd h (by omega)), HG2.out⟩
        case measure => simp [intOf]
      · have hz : (plE x y != 0) = true := by simpa using hc
        have HX := hide (show plE x y = res by rw [← HR.out]; unfold cmE; rw [thenC, if_neg hc])
        clear hc hG1 c0 c1 c2 c3 d0 d1 d2 d3 f0
        go_wp2
        go_ret
        exact ⟨ret_int HX.out, HG1.out⟩
    by_cases hk1 : k = 1
    · subst hk1
      have f0 := g2r.cell 1
      simp at f0
      clear g2r
      go_wp2_with fail
      refine (ce1_any x y wr).mono ?_
      rintro e w1 ⟨rfl, hG1⟩
      have HG1 := hide (hG.trans (hGr.trans hG1))
      have HG2 := hide (hGr.trans hG1)
      by_cases hc : cmpS x.vl y.vl = 0
      · have hz : (cmpS x.vl y.vl != 0) = false := by simpa using hc
        have HC := hide hc
        clear hc hG1 c0 c1 c2 c3 d0 d1 d2 d3 f0
        go_wp2
        go_roundw
        case rel => exact ⟨2, by omega, rfl, (fun _ => z0 (by omega)), (fun _ => HC.out), HG2.out⟩
        case measure => simp [intOf]
      · have hz : (cmpS x.vl y.vl != 0) = true := by simpa using hc
        have HX := hide (show cmpS x.vl y.vl = res by rw [← HR.out]; unfold cmE; rw [thenC, if_pos (z0 (by omega))])
        clear hc hG1 c0 c1 c2 c3 d0 d1 d2 d3 f0
        go_wp2
        go_ret
        exact ⟨ret_int HX.out, HG1.out⟩
    obtain rfl : k = 2 := by omega
    have HX := hide (show 0 = res by rw [← HR.out]; unfold cmE; rw [thenC, if_pos (z0 (by omega)), z1 (by omega)])
    have HG1 := hide (hG.trans hGr)
    clear c0 c1 c2 c3 d0 d1 d2 d3 g2r
    go_wp2
    go_ret
    exact ⟨ret_int HX.out, HG1.out⟩
set_option maxRecDepth 100000 in
set_option maxHeartbeats 4000000 in
theorem CompareE_any (x y : En) (w : World) : Calls Try.prog 34 #[.agg #[.int .i64 x.g, .string x.nm, .string x.ky, .string x.vl], .agg #[.int .i64 y.g, .string y.nm, .string y.ky, .string y.vl]] w (RetG w (.int .i64 (cmE x y))) := by
  have hG := (Grn.new w (.cells #[.int .i64 x.g, .string x.nm, .string x.ky, .string x.vl] 57)).alloc (.cells #[.int .i64 y.g, .string y.nm, .string y.ky, .string y.vl] 57)
  have k1 := (Blk.new w 57 #[.int .i64 x.g, .string x.nm, .string x.ky, .string x.vl]).alloc (.cells #[.int .i64 y.g, .string y.nm, .string y.ky, .string y.vl] 57)
  have k2 : Blk ((w.alloc (.cells #[.int .i64 x.g, .string x.nm, .string x.ky, .string x.vl] 57)).alloc (.cells #[.int .i64 y.g, .string y.nm, .string y.ky, .string y.vl] 57)) (w.heap.size + 1) 57 #[.int .i64 y.g, .string y.nm, .string y.ky, .string y.vl] := by
    have := Blk.new (w.alloc (.cells #[.int .i64 x.g, .string x.nm, .string x.ky, .string x.vl] 57)) 57 #[.int .i64 y.g, .string y.nm, .string y.ky, .string y.vl]
    rw [World.size_alloc] at this; exact this
  obtain ⟨W, hW⟩ : ∃ W, (w.alloc (.cells #[.int .i64 x.g, .string x.nm, .string x.ky, .string x.vl] 57)).alloc (.cells #[.int .i64 y.g, .string y.nm, .string y.ky, .string y.vl] 57) = W := ⟨_, rfl⟩
  rw [hW] at hG k1 k2
  have c0 := k1.cell 0
  have c1 := k1.cell 1
  have c2 := k1.cell 2
  have c3 := k1.cell 3
  have d0 := k2.cell 0
  have d1 := k2.cell 1
  have d2 := k2.cell 2
  have d3 := k2.cell 3
  simp at c0 c1 c2 c3 d0 d1 d2 d3
  have hlt1 := k1.lt
  have hlt2 := k2.lt
  have m1 := Blk.new W 58 #[.func (Fn.func 57) #[] #[], .func (Fn.func 64) #[] #[]]
  have n1 := m1.alloc (.cells #[.slice (some ⟨W.heap.size, 0, none⟩) 2 2] 94)
  have n2 : Blk ((W.alloc (.cells #[.func (Fn.func 57) #[] #[], .func (Fn.func 64) #[] #[]] 58)).alloc (.cells #[.slice (some ⟨W.heap.size, 0, none⟩) 2 2] 94)) (W.heap.size + 1) 94 #[.slice (some ⟨W.heap.size, 0, none⟩) 2 2] := by
    have := Blk.new (W.alloc (.cells #[.func (Fn.func 57) #[] #[], .func (Fn.func 64) #[] #[]] 58)) 94 #[.slice (some ⟨W.heap.size, 0, none⟩) 2 2]
    rw [World.size_alloc] at this; exact this
  have HC := hide (comp2_any x y (W.heap.size + 1) W.heap.size ((W.alloc (.cells #[.func (Fn.func 57) #[] #[], .func (Fn.func 64) #[] #[]] 58)).alloc (.cells #[.slice (some ⟨W.heap.size, 0, none⟩) 2 2] 94)).drew n2 n1)
  have HG := hide ((((Grn.refl W).alloc (.cells #[.func (Fn.func 57) #[] #[], .func (Fn.func 64) #[] #[]] 58)).alloc (.cells #[.slice (some ⟨W.heap.size, 0, none⟩) 2 2] 94)).drew)
  clear m1 n1 n2
  go_enter Try.func34, Try.ntmps34
  go_wp2_with fail
  clear hW
  go_region_held3 (fun w' => w'.cell? ⟨w.heap.size, 0, none⟩ = some (.int .i64 x.g) ∧ w'.cell? ⟨w.heap.size, 1, none⟩ = some (.string x.nm) ∧ w'.cell? ⟨w.heap.size, 2, none⟩ = some (.string x.ky) ∧ w'.cell? ⟨w.heap.size, 3, none⟩ = some (.string x.vl) ∧ w'.cell? ⟨w.heap.size + 1, 0, none⟩ = some (.int .i64 y.g) ∧ w'.cell? ⟨w.heap.size + 1, 1, none⟩ = some (.string y.nm) ∧ w'.cell? ⟨w.heap.size + 1, 2, none⟩ = some (.string y.ky) ∧ w'.cell? ⟨w.heap.size + 1, 3, none⟩ = some (.string y.vl)) (go_keep)
    (first
      | (go_at_call 63; refine (compared_any _ ⟨_, _, _, rfl⟩ _).mono ?_; rintro e w' ⟨rfl, rfl⟩)
      | (go_at_call 87; refine HC.out.mono ?_; rintro e w' ⟨rfl, hG1⟩; have hBc := bstep HG.out.below hG1.below; have zz1 := bw4 k1 hBc; have zz2 := bw4 k2 hBc; obtain ⟨s0, s1, s2, s3⟩ := zz1; obtain ⟨t0, t1, t2, t3⟩ := zz2))
  all_goals
    have hF := hide (hG.trans (HG.out.trans hG1))
    clear hBc s0 s1 s2 s3 t0 t1 t2 t3 hG1
    go_wp2
    go_ret
    exact ⟨rfl, hF.out⟩
end Go.Proofs.Ythngjbhamgmcgaa
