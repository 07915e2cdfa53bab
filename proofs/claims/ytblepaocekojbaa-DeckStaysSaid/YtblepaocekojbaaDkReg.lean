/-
  The walks of deck.Regions and tidewrightref26.Regions, and of tidewrightref26.Back where it refuses.
-/
import Derived.Test.YtblepaocekojbaaDkRB
namespace Go.Proofs.Ytblepaocekojbaa
open Go.RowKit Go.Shelf Go.Deep
attribute [local go_sem] Oper.semAt_some

theorem errT_two (g : Gr) (A1 : Option Addr) (m1 c1 : Nat) (fallen : List Int) (A2 : Option Addr) (m2 c2 : Nat) (gone : List Int) : errT g [⟨A1, m1, c1, fallen⟩, ⟨A2, m2, c2, gone⟩] = errB g fallen gone := by
  simp [errT, errB]
theorem errB_ok {g : Gr} {fallen gone : List Int} (h : errB g fallen gone = 0) : validB g = true ∧ ascB fallen = true ∧ ascB gone = true ∧ fallen.any (outT g.n1) = false ∧ gone.any (outT g.n1) = false := by
  unfold errB at h
  by_cases h1 : (validB g && (ascB fallen && ascB gone)) = true
  · rw [if_pos h1] at h
    by_cases h2 : (fallen.any (outT g.n1) || gone.any (outT g.n1)) = true
    · rw [if_pos h2] at h; omega
    · simp only [Bool.and_eq_true, Bool.or_eq_true, not_or, Bool.not_eq_true] at h1 h2
      exact ⟨h1.1, h1.2.1, h1.2.2, h2.1, h2.2⟩
  · rw [if_neg h1] at h; omega

set_option maxRecDepth 100000 in
set_option maxHeartbeats 2000000 in
theorem RBack_no (g : Gr) (A1 : Option Addr) (m1 c1 : Nat) (fallen : List Int) (A2 : Option Addr) (m2 c2 : Nat) (gone : List Int) (w : World) (hg : g.Ok w w.heap.size) (hf : Reads w w.heap.size 1 A1 m1 (fallen.map (Value.int .i64))) (hgo : Reads w w.heap.size 1 A2 m2 (gone.map (Value.int .i64)))
    (hm1 : m1 ≤ 4611686018427387904) (hm2 : m2 ≤ 4611686018427387904) (hn1 : g.n1 ≤ 4611686018427387904) (hn2 : g.n2 ≤ 4611686018427387904) (E : Int) (he : errB g fallen gone = E) (hE : E ≠ 0) :
    Calls Try.prog 14 #[.agg #[g.v1, g.v2], .slice A1 m1 c1, .slice A2 m2 c2] w (RetSlE w 1 0 [] E) := by
  have HE0 := hide ((errT_two g A1 m1 c1 fallen A2 m2 c2 gone).trans he)
  have hne : (E != 0) = true := by simpa using hE
  clear he hE
  have hB0 : Below w.heap.size w ((w.alloc (.cells #[g.v1, g.v2] 25)).alloc (.cells #[.slice A1 m1 c1, .slice A2 m2 c2] 22)) := ((Below.refl _ _).alloc (Nat.le_refl _) _).alloc (by simp) _
  have b1 : Blk ((w.alloc (.cells #[g.v1, g.v2] 25)).alloc (.cells #[.slice A1 m1 c1, .slice A2 m2 c2] 22)) (w.heap.size + 1) 22 #[.slice A1 m1 c1, .slice A2 m2 c2] := by
    have := Blk.new (w.alloc (.cells #[g.v1, g.v2] 25)) 22 #[.slice A1 m1 c1, .slice A2 m2 c2]
    rwa [World.size_alloc] at this
  have hs0 : ((w.alloc (.cells #[g.v1, g.v2] 25)).alloc (.cells #[.slice A1 m1 c1, .slice A2 m2 c2] 22)).heap.size = w.heap.size + 2 := by simp
  go_enter Try.func14, Try.ntmps14
  go_wp2_with fail
  obtain ⟨W0, hW0⟩ : ∃ W0, (w.alloc (.cells #[g.v1, g.v2] 25)).alloc (.cells #[.slice A1 m1 c1, .slice A2 m2 c2] 22) = W0 := ⟨_, rfl⟩
  rw [hW0] at hB0 b1 hs0 ⊢
  clear hW0
  have hls : Lists W0 W0.heap.size (w.heap.size + 1) [⟨A1, m1, c1, fallen⟩, ⟨A2, m2, c2, gone⟩] := fun i s hs => by
    match i, hs with
    | 0, hs => cases hs; exact ⟨b1.cell 0, hf.up hB0, hm1⟩
    | 1, hs => cases hs; exact ⟨b1.cell 1, hgo.up hB0, hm2⟩
  refine (Rtasks_any g (w.heap.size + 1) 2 2 _ W0 (hg.up hB0) hls (by omega) rfl (by omega) hn1 hn2).mono ?_
  rintro e W1 ⟨rfl, hB1⟩
  rw [HE0.out]
  have HE := hide (bstep hB0 hB1)
  clear hB0 hB1 b1 hls
  go_wp2
  go_ret2
  exact ⟨none, 0, rfl, Reads.none_, HE.out⟩

theorem RBack_any (g : Gr) (A1 : Option Addr) (m1 c1 : Nat) (fallen : List Int) (A2 : Option Addr) (m2 c2 : Nat) (gone : List Int) (w : World) (hg : g.Ok w w.heap.size) (hf : Reads w w.heap.size 1 A1 m1 (fallen.map (Value.int .i64))) (hgo : Reads w w.heap.size 1 A2 m2 (gone.map (Value.int .i64)))
    (hm1 : m1 ≤ 4611686018427387904) (hm2 : m2 ≤ 4611686018427387904) (hn1 : g.n1 ≤ 4611686018427387904) (hn2 : g.n2 ≤ 4611686018427387904) (xs : List Int)
    (hx : errB g fallen gone = 0 → ∃ S, IsBack (labs g.es) g.es fallen gone S ∧ xs = tkn (fun t => S (labs g.es t)) g.n1) (hx0 : errB g fallen gone ≠ 0 → xs = []) :
    Calls Try.prog 14 #[.agg #[g.v1, g.v2], .slice A1 m1 c1, .slice A2 m2 c2] w (RetSlE w 1 xs.length (intsL xs) (errB g fallen gone)) := by
  by_cases h : errB g fallen gone = 0
  · obtain ⟨h1, _, _, h4, _⟩ := errB_ok h
    obtain ⟨S, hS, rfl⟩ := hx h
    rw [h]
    refine (RBack_ok g A1 m1 c1 fallen A2 m2 c2 gone w hg hf hgo hm1 hm2 h1 (by rw [errT_two, h]) h4).mono ?_
    rintro e w' ⟨T, hT, h5⟩
    rw [back_uniq hS hT]; exact h5
  · rw [hx0 h]
    exact RBack_no g A1 m1 c1 fallen A2 m2 c2 gone w hg hf hgo hm1 hm2 hn1 hn2 _ rfl h

/-- The regions' numbers, if the graph is valid. -/
def regL (g : Gr) : List Value := if validB g then rowL g.n1 fun i => .int .i64 ((numOf (labs g.es) i : Nat) : Int) else []
def regN (g : Gr) : Nat := if validB g then g.n1 else 0
def regE (g : Gr) : Int := if validB g then 0 else 1
set_option maxHeartbeats 1000000 in
theorem Regions_any (g : Gr) (w : World) (hg : g.Ok w w.heap.size) (hn1 : g.n1 ≤ 4611686018427387904) (hn2 : g.n2 ≤ 4611686018427387904) :
    Calls Try.prog 16 #[.agg #[g.v1, g.v2]] w (RetSlE w 1 (regN g) (regL g) (regE g)) := by
  have hB0 : Below w.heap.size w (w.alloc (.cells #[g.v1, g.v2] 30)) := (Below.refl _ _).alloc (Nat.le_refl _) _
  have b0 : Blk (w.alloc (.cells #[g.v1, g.v2] 30)) w.heap.size 30 #[g.v1, g.v2] := Blk.new w _ _
  have hs0 : (w.alloc (.cells #[g.v1, g.v2] 30)).heap.size = w.heap.size + 1 := World.size_alloc _ _
  cases hv : validB g
  · have HV := hide hv
    clear hv
    go_enter Try.func16, Try.ntmps16
    go_wp2_with fail
    obtain ⟨W0, hW0⟩ : ∃ W0, w.alloc (.cells #[g.v1, g.v2] 30) = W0 := ⟨_, rfl⟩
    rw [hW0] at hB0 b0 hs0 ⊢
    clear hW0
    refine (Valid_any g W0 (hg.up hB0) hn1 hn2).mono ?_
    rintro e W1 ⟨rfl, hB1⟩
    rw [HV.out]
    have HE := hide (bstep hB0 hB1)
    clear hB0 hB1
    go_wp2
    go_ret2
    exact ⟨none, 0, by simp [regE, regN, HV.out], by simp [regN, regL, HV.out]; exact Reads.none_, HE.out⟩
  · have HV := hide hv
    clear hv
    go_enter Try.func16, Try.ntmps16
    go_wp2_with fail
    obtain ⟨W0, hW0⟩ : ∃ W0, w.alloc (.cells #[g.v1, g.v2] 30) = W0 := ⟨_, rfl⟩
    rw [hW0] at hB0 b0 hs0 ⊢
    clear hW0
    refine (Valid_any g W0 (hg.up hB0) hn1 hn2).mono ?_
    rintro e W1 ⟨rfl, hB1⟩
    rw [HV.out]
    have hB01 := bstep hB0 hB1
    have b1 := b0.below hB1 (by omega)
    clear hB0 hB1
    have d0 := b1.cell 0
    have d1 := b1.cell 1
    simp at d0 d1
    go_wp2_with fail
    refine (regions_any g W1 (hg.up hB01) HV.out).mono ?_
    rintro e W2 ⟨A, c, rfl, hR, hB2⟩
    have HE := hide (bstep hB01 hB2)
    clear hB01 hB2 b1 d0 d1
    go_wp2
    go_ret2
    exact ⟨A, c, by simp [regE, regN, HV.out], by simp only [regN, regL, HV.out, if_true]; rw [← nums_row]; exact hR, HE.out⟩

set_option maxRecDepth 100000 in
set_option maxHeartbeats 2000000 in
theorem RRegions_any (g : Gr) (w : World) (hg : g.Ok w w.heap.size) (hn1 : g.n1 ≤ 4611686018427387904) (hn2 : g.n2 ≤ 4611686018427387904) :
    Calls Try.prog 26 #[.agg #[g.v1, g.v2]] w (RetSlE w 1 (regN g) (regL g) (regE g)) := by
  have hB0 : Below w.heap.size w (w.alloc (.cells #[g.v1, g.v2] 25)) := (Below.refl _ _).alloc (Nat.le_refl _) _
  have b0 : Blk (w.alloc (.cells #[g.v1, g.v2] 25)) w.heap.size 25 #[g.v1, g.v2] := Blk.new w _ _
  have hs0 : (w.alloc (.cells #[g.v1, g.v2] 25)).heap.size = w.heap.size + 1 := World.size_alloc _ _
  cases hv : validB g
  · have HV := hide hv
    clear hv
    go_enter Try.func26, Try.ntmps26
    go_wp2_with fail
    obtain ⟨W0, hW0⟩ : ∃ W0, w.alloc (.cells #[g.v1, g.v2] 25) = W0 := ⟨_, rfl⟩
    rw [hW0] at hB0 b0 hs0 ⊢
    clear hW0
    refine (RValid_any g W0 (hg.up hB0) hn1 hn2).mono ?_
    rintro e W1 ⟨rfl, hB1⟩
    rw [HV.out]
    have HE := hide (bstep hB0 hB1)
    clear hB0 hB1
    go_wp2
    go_ret2
    exact ⟨none, 0, by simp [regE, regN, HV.out], by simp [regN, regL, HV.out]; exact Reads.none_, HE.out⟩
  · have HV := hide hv
    have hb := ok_ops hv
    obtain ⟨i0, hi, hz0, hz1, hz2⟩ := info_parts infoInt_dk
    have hmk := fun W => run_make_row' (P := Try.prog) 22 3 (.int .i64 0) 8 Try.underlying22 infoInt_dk rfl .i64 .i64 g.n1 (by omega) (by omega) W
    clear hv
    go_enter Try.func26, Try.ntmps26
    go_wp2_with fail
    obtain ⟨W0, hW0⟩ : ∃ W0, w.alloc (.cells #[g.v1, g.v2] 25) = W0 := ⟨_, rfl⟩
    rw [hW0] at hB0 b0 hs0 ⊢
    clear hW0
    refine (RValid_any g W0 (hg.up hB0) hn1 hn2).mono ?_
    rintro e W1 ⟨rfl, hB1⟩
    rw [HV.out]
    have hB01 := bstep hB0 hB1
    have b1 := b0.below hB1 (by omega)
    clear hB0 hB1
    have d0 := b1.cell 0
    have d1 := b1.cell 1
    simp at d0 d1
    go_wp2_with fail
    refine (Rregions_any g W1 (hg.up hB01) HV.out).mono ?_
    rintro e W2 hret
    obtain ⟨g8, c8, rfl, hO8, hB2⟩ := OwnR.of_ret hret (by omega)
    have hB02 := bstep hB01 hB2
    have hg8 := hO8.lt
    clear hret hB01 hB2 b1 d0 d1
    have m7 := World.rowIs_made W2 (.int .i64 0) g.n1 3
    go_upto_region 5 with fail
    obtain ⟨W3, hW3⟩ : ∃ W3, W2.alloc (.cells (madeCells #[.int .i64 0] g.n1) 3) = W3 := ⟨_, rfl⟩
    have hB23 : Below W2.heap.size W2 W3 := by rw [← hW3]; exact (Below.refl _ _).alloc (Nat.le_refl _) _
    have s3 : W3.heap.size = W2.heap.size + 1 := by rw [← hW3]; simp
    rw [hW3] at m7 ⊢
    clear hW3 hmk
    obtain ⟨gb, hgb⟩ : ∃ gb, W2.heap.size = gb := ⟨_, rfl⟩
    have hwgb : w.heap.size ≤ gb := by rw [← hgb]; exact hB02.size
    rw [hgb] at m7 s3 hB23 hg8 ⊢
    have hom : ∀ i, i < g.n1 → W3.cell? ⟨g8, i, none⟩ = some (.int .i64 ((labs g.es i : Nat) : Int)) := fun i hi => (hB23.cell (p := ⟨g8, i, none⟩) hg8.2).trans (hO8.cell hi)
    have hB03 : Below w.heap.size w W3 := hB02.trans (hB23.mono hwgb)
    have hLab : Lab (labs g.es) := Lab.labs _
    obtain ⟨L, hL⟩ : ∃ L, labs g.es = L := ⟨_, rfl⟩
    rw [hL] at hom hLab
    have HLL := hide hL
    have HLAB := hide hLab
    have HOF := hide (fun i (h : i < g.n1) => Nat.lt_of_le_of_lt (hLab.le i) h)
    have HOM := hide hom
    clear hL hLab hB02 hB23 hO8 hgb hom
    go_wp2_with fail
    go_loopw [6, 7, 8] (fun n v i wr => ∃ k : Nat, k ≤ g.n1 ∧ i = .int .i64 k ∧ n = .int .i64 (numb L k : Nat) ∧ wr.ownsRow (gb + 1) 3 1 v k (rowL k fun i => .int .i64 ((numOf L i : Nat) : Int)) ∧ wr.rowIs gb 3 g.n1 (fun j => .int .i64 ((if j < k ∧ L j = j then numb L j else 0 : Nat) : Int)) ∧ Below gb W3 wr) (fun _ _ i _ => g.n1 - (intOf i).toNat)
    case atStart => exact ⟨0, Nat.zero_le _, rfl, rfl, World.ownsRow_nil _ _ _ _, m7.congr (fun i _ => by rw [if_neg (by omega)]; rfl), Below.refl _ _⟩
    case round =>
      clear m7
      obtain ⟨k, hk, rfl, rfl, hown, hrow, hB⟩ := hrel
      have hWs := hB.size
      by_cases hlt : k < g.n1
      · have kt := (hB.cell (p := ⟨g8, k, none⟩) hg8.2).trans (HOM.out k hlt)
        have hzn := HOF.out k hlt
        have hnk := numb_le L k
        have hne1 : some gb ≠ u7.ownBlock := fun e => by have := (hown.lt _ e.symm).1; omega
        have HSN := hide (numb_succ L k)
        have HRS := hide (rowL_snoc k fun i => Value.int .i64 ((numOf L i : Nat) : Int))
        obtain ⟨z, hz⟩ : ∃ z, L k = z := ⟨_, rfl⟩
        rw [hz] at kt hzn
        obtain ⟨nk, hnke⟩ : ∃ nk, numb L k = nk := ⟨_, rfl⟩
        by_cases hzk : z = k
        · have HN2 := hide (show numb L (k + 1) = nk + 1 by rw [HSN.out, hz, if_pos hzk, hnke])
          have HNO := hide (show numOf L k = nk by unfold numOf; rw [hz, hzk, hnke])
          have HZ := hide (hz.trans hzk)
          rw [hnke] at hnk ⊢
          have HNK := hide hnke
          subst hzk
          clear hnke HSN hz
          have fz := hrow.frozen z
          have cz := hrow.cell hzn
          have sz := hrow.set z (.int .i64 (nk : Int))
          have czs := sz.cell hzn
          rw [if_pos rfl] at czs
          go_upto_region 13 with fail
          obtain ⟨W5, hW5⟩ : ∃ W5, wr.setCell ⟨gb, z, none⟩ (.int .i64 (nk : Int)) = W5 := ⟨_, rfl⟩
          have hB5 : Below gb W3 W5 := by rw [← hW5]; exact hB.setCell (Nat.le_refl _) _
          have hown5 : W5.ownsRow (gb + 1) 3 1 u7 z (rowL z fun i => .int .i64 ((numOf L i : Nat) : Int)) := by
            rw [← hW5]; exact ownsRow_setCell_below hown (by show gb < gb + 1; omega) _
          have s5 : wr.heap.size = W5.heap.size := by rw [← hW5]; simp [World.setCell]
          rw [hW5] at sz czs ⊢
          have kt5 := (hB5.cell (p := ⟨g8, z, none⟩) hg8.2).trans (HOM.out z hlt)
          rw [HZ.out] at kt5
          clear hW5 hB hown hrow kt fz cz
          go_wp2_with (at_builtin; refine wpList_append_own _ rfl _ _ 22 rfl (gb + 1) 3 i0 _ 1 8 Try.underlying22 hi hz0 hz1 hz2 rfl (by decide) _ _ _ rfl (hown5.alloc _) ⟨W5.heap.size, 0, none⟩ 1 1 [.int .i64 (nk : Int)] rfl rfl (cells_new _ _ _) (by simp [Value.oneCell']) (by unfold maxLen; omega) (by omega) (by simp; omega) ?_; intro v' w1 hown' hgrow _)
          go_roundw
          case rel => exact ⟨z + 1, by omega, by go_num, by rw [HN2.out]; go_num, by rw [HRS.out, HNO.out]; exact hown', rowIs_kept ((sz.congr (fun i _ => by
            by_cases e : i = z
            · subst e; rw [if_pos rfl, if_pos ⟨by omega, HZ.out⟩, HNK.out]
            · rw [if_neg e]
              by_cases e2 : i < z
              · simp [e2, show i < z + 1 by omega]
              · simp [e2, show ¬ i < z + 1 by omega])).alloc _) hgrow hne1, below_append (hB5.alloc (by omega) _) (own_mono (hown5.alloc _) (by omega)) (by simp; omega) hgrow⟩
          case measure => simp [intOf]; omega
        · have hle := HLAB.out.le k
          have hid := HLAB.out.idem k
          rw [hz] at hle hid
          have HN2 := hide (show numb L (k + 1) = nk by rw [HSN.out, hz, if_neg hzk, hnke])
          have hcz := hrow.cell hzn
          rw [if_pos ⟨by omega, hid⟩] at hcz
          obtain ⟨nz, hnz⟩ : ∃ nz, numb L z = nz := ⟨_, rfl⟩
          have HNO := hide (show numOf L k = nz by unfold numOf; rw [hz, hnz])
          rw [hnz] at hcz
          rw [hnke] at hnk ⊢
          have HZ := hide (show L k ≠ k by rw [hz]; exact hzk)
          have n1 : ((z : Int) == (k : Int)) = false := by simp; omega
          clear hnke HSN hid hz hnz
          go_wp2_with (at_builtin; refine wpList_append_own _ rfl _ _ 22 rfl (gb + 1) 3 i0 _ 1 8 Try.underlying22 hi hz0 hz1 hz2 rfl (by decide) _ _ _ rfl (hown.alloc _) ⟨wr.heap.size, 0, none⟩ 1 1 [.int .i64 (nz : Int)] rfl rfl (cells_new _ _ _) (by simp [Value.oneCell']) (by unfold maxLen; omega) (by omega) (by simp; omega) ?_; intro v' w1 hown' hgrow _)
          go_roundw
          case rel => exact ⟨k + 1, by omega, by go_num, by rw [HN2.out], by rw [HRS.out, HNO.out]; exact hown', rowIs_kept ((hrow.congr (fun i _ => by
            by_cases e : i = k
            · subst e; rw [if_neg (by omega), if_neg (fun h => HZ.out h.2)]
            · by_cases e2 : i < k
              · simp [e2, show i < k + 1 by omega]
              · simp [e2, show ¬ i < k + 1 by omega])).alloc _) hgrow hne1, below_append (hB.alloc (by omega) _) (own_mono (hown.alloc _) (by omega)) (by simp; omega) hgrow⟩
          case measure => simp [intOf]; omega
      · obtain rfl : k = g.n1 := by omega
        obtain ⟨A, c, rfl, hR⟩ := own_form hown
        have HE := hide (show RetSlE w 1 (regN g) (regL g) (regE g) (.returned (.tuple #[.slice A g.n1 c, .int .i64 0])) wr from ⟨A, c, by simp [regE, regN, HV.out], by simp only [regN, regL, HV.out, if_true]; rw [HLL.out]; exact hR, hB03.trans (hB.mono hwgb)⟩)
        clear hrow hB hown hR
        go_wp2
        go_ret2
        exact HE.out
end Go.Proofs.Ytblepaocekojbaa
