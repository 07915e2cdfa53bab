/-
  The law DeckBack: the walk, for every input that is looked at.
-/
import Derived.Test.YtblepaocekojbaaDkLw
import Derived.Deep.CutRange
import Derived.Test.YtblepaocekojbaaOrdT
namespace Go.Proofs.Ytblepaocekojbaa
open Go.RowKit Go.Shelf Go.Deep
attribute [local go_sem] Oper.semAt_some

theorem has_quiet {A : Option Addr} {n c B : Nat} {xs : List Int} {w : World} (hx : Reads w B 1 A n (intsL xs)) (hn : n ≤ 9223372036854775807) (y : Int) (q : Nat) :
    Calls Try.prog 17 #[.slice A n c, .int .i64 y] (w.drewN q) fun e w'' => e = .returned (.bool (hasB xs y)) ∧ ∃ m, w'' = w.drewN m :=
  Calls.quiet_of_same ((Has_any A n c B xs y (w.drewN q) (hx.drewN q) hn).mono fun _ _ h => ⟨h.1, h.2.symm⟩)

set_option maxRecDepth 100000 in
set_option maxHeartbeats 8000000 in
theorem deckBack_near (g : Gr) (A1 : Option Addr) (m1 c1 : Nat) (fallen : List Int) (A2 : Option Addr) (m2 c2 : Nat) (gone : List Int) (more : Int) (w : World) (hg : g.Ok w w.heap.size)
    (hf : Reads w w.heap.size 1 A1 m1 (fallen.map (Value.int .i64))) (hgo : Reads w w.heap.size 1 A2 m2 (gone.map (Value.int .i64)))
    (hm1 : m1 ≤ 60) (hm2 : m2 ≤ 60) (hh : heavyB g = false) :
    Calls Try.prog 3 #[.agg #[g.v1, g.v2], .slice A1 m1 c1, .slice A2 m2 c2, .int .i64 more] w (RetV w (.bool true)) := by
  have hn : g.n1 ≤ 300 ∧ g.n2 ≤ 60 := by
    unfold heavyB at hh
    simp only [Bool.or_eq_false_iff, decide_eq_false_iff_not] at hh
    omega
  obtain ⟨hn1, hn2⟩ := hn
  have HL2 := hide (hg.r2.len encEd_len (by omega))
  have hB0 : Below w.heap.size w (w.alloc (.cells #[g.v1, g.v2] 25)) := (Below.refl _ _).alloc (Nat.le_refl _) _
  have b0 : Blk (w.alloc (.cells #[g.v1, g.v2] 25)) w.heap.size 25 #[g.v1, g.v2] := Blk.new w _ _
  have hs0 : (w.alloc (.cells #[g.v1, g.v2] 25)).heap.size = w.heap.size + 1 := World.size_alloc _ _
  have HH := hide hh
  clear hh
  go_enter Try.func3, Try.ntmps3
  go_wp2_with fail
  obtain ⟨W0, hW0⟩ : ∃ W0, w.alloc (.cells #[g.v1, g.v2] 25) = W0 := ⟨_, rfl⟩
  rw [hW0] at hB0 b0 hs0 ⊢
  clear hW0
  refine (awake_any W0).mono ?_
  rintro e W1 ⟨rfl, hB1⟩
  have b1 := b0.below hB1 (by omega)
  have hB01 := bstep hB0 hB1
  have hs1 : w.heap.size < W1.heap.size := by have := hB1.size; omega
  clear b0 hB0 hs0 hB1
  have d0 := b1.cell 0
  have d1 := b1.cell 1
  simp at d0 d1
  go_wp2_with fail
  refine (heavy_any g W1).mono ?_
  rintro e W2 ⟨rfl, hB2⟩
  rw [HH.out]
  have b2 := b1.below hB2 hs1
  have hB02 := bstep hB01 hB2
  have hs2 := Nat.lt_of_lt_of_le hs1 hB2.size
  clear hB01 hB2 b1 d0 d1 hs1
  have d0 := b2.cell 0
  have d1 := b2.cell 1
  simp at d0 d1
  go_wp2_with fail
  refine (made_any g W2 (hg.up hB02) (by omega) (by omega)).mono ?_
  rintro e W3 ⟨g', hlike, rfl, hg3, hB3⟩
  rw [show g'.v1 = .slice g'.a1 g'.n1 g'.c1 from rfl, show g'.v2 = .slice g'.a2 g'.n2 g'.c2 from rfl]
  have HLK := hide hlike
  have hgn1 : g'.n1 ≤ 300 := by have := hlike.n1; omega
  have hgn2 : g'.n2 ≤ 60 := by have := hlike.n2; omega
  have b3 := b2.below hB3 hs2
  have hB03 := bstep hB02 hB3
  have hs3 := Nat.lt_of_lt_of_le hs2 hB3.size
  clear hB02 hB3 b2 d0 d1 hs2 hlike
  have x4 := Blk.new W3 30 #[.slice g'.a1 g'.n1 g'.c1, .slice g'.a2 g'.n2 g'.c2]
  have hB4 : Below W3.heap.size W3 (W3.alloc (.cells #[.slice g'.a1 g'.n1 g'.c1, .slice g'.a2 g'.n2 g'.c2] 30)) := (Below.refl _ _).alloc (Nat.le_refl _) _
  have hs4 : (W3.alloc (.cells #[.slice g'.a1 g'.n1 g'.c1, .slice g'.a2 g'.n2 g'.c2] 30)).heap.size = W3.heap.size + 1 := World.size_alloc _ _
  obtain ⟨xs, hxs, hxs0⟩ := back_list g fallen gone
  have HXS := hide hxs
  have HXS0 := hide hxs0
  clear hxs hxs0
  have hxs' : errB g' fallen gone = 0 → ∃ S, IsBack (labs g'.es) g'.es fallen gone S ∧ xs = tkn (fun t => S (labs g'.es t)) g'.n1 := by
    rw [HLK.out.errB, HLK.out.es, HLK.out.n1]; exact HXS.out
  have hxs0' : errB g' fallen gone ≠ 0 → xs = [] := by rw [HLK.out.errB]; exact HXS0.out
  have HXP := hide hxs'
  have HXP0 := hide hxs0'
  clear hxs' hxs0'
  go_upto_region 6 with fail
  obtain ⟨W4, hW4⟩ : ∃ W4, W3.alloc (.cells #[.slice g'.a1 g'.n1 g'.c1, .slice g'.a2 g'.n2 g'.c2] 30) = W4 := ⟨_, rfl⟩
  rw [hW4] at x4 hB4 hs4 ⊢
  clear hW4
  obtain ⟨bx, hbx⟩ : ∃ bx, W3.heap.size = bx := ⟨_, rfl⟩
  rw [hbx] at x4 hs4 ⊢
  have hxw : w.heap.size < bx := by rw [← hbx]; exact hs3
  have b4 := b3.below hB4 hs3
  have hB04 := bstep hB03 hB4
  have hg4 := hg3.up hB4
  have hs4' : bx < W4.heap.size := by omega
  clear hB03 hB4 b3 hs3 hg3 hbx hs4
  have d0 := x4.cell 0
  have d1 := x4.cell 1
  simp at d0 d1
  go_wp2_with fail
  refine (Back_any g' A1 m1 c1 fallen A2 m2 c2 gone W4 hg4 (hf.up hB04) (hgo.up hB04) (by omega) (by omega) (by omega) (by omega) xs HXP.out HXP0.out).mono ?_
  rintro e W5 ⟨Aa, ca, rfl, ha, hB5⟩
  rw [HLK.out.errB]
  have b5 := b4.below hB5 (by omega)
  have x5 := x4.below hB5 hs4'
  have hB05 := bstep hB04 hB5
  have hg5 := hg4.up hB5
  have hs5 := Nat.lt_of_lt_of_le hs4' hB5.size
  clear hB04 hB5 b4 x4 d0 d1 hs4' hg4
  have d0 := b5.cell 0
  have d1 := b5.cell 1
  simp at d0 d1
  go_wp2_with fail
  refine (RBack_any g A1 m1 c1 fallen A2 m2 c2 gone W5 (hg.up hB05) (hf.up hB05) (hgo.up hB05) (by omega) (by omega) (by omega) (by omega) xs HXS.out HXS0.out).mono ?_
  rintro e W6 ⟨Ab, cb, rfl, hb, hB6⟩
  have b6 := b5.below hB6 (by omega)
  have x6 := x5.below hB6 hs5
  have hB06 := bstep hB05 hB6
  have hg6 := hg5.up hB6
  have ha6 := ha.up hB6
  have hs6 := Nat.lt_of_lt_of_le hs5 hB6.size
  clear hB05 hB6 b5 x5 d0 d1 hs5 hg5 ha
  have hxl : xs.length ≤ 300 := by
    by_cases he : errB g fallen gone = 0
    · obtain ⟨S, _, rfl⟩ := HXS.out he
      exact Nat.le_trans tkn_le hn1
    · rw [HXS0.out he]; simp
  obtain ⟨E, hE⟩ : ∃ E, errB g fallen gone = E := ⟨_, rfl⟩
  rw [hE]
  have hEE : (E != E) = false := by simp
  go_wp2_with fail
  refine (SameInts_any _ _ _ _ _ _ _ _ xs xs _ ha6 hb (by omega) (by omega)).mono ?_
  rintro e W7 ⟨rfl, q7, hq7⟩
  rw [show decide (xs = xs) = true from by simp]
  have hB67 : Below W6.heap.size W6 W7 := by rw [hq7]; exact below_drewN (Below.refl _ _) q7
  have b7 := b6.below hB67 (by omega)
  have x7 := x6.below hB67 hs6
  have hB07 := bstep hB06 hB67
  have hg7 := hg6.up hB67
  have ha7 := ha6.up hB67
  have hs7 := Nat.lt_of_lt_of_le hs6 hB67.size
  clear hB06 hB67 b6 x6 hs6 hg6 ha6 hb hq7
  by_cases hE0 : E = 0
  · subst hE0
    have HER := hide hE
    clear hE
    obtain ⟨hv, ha1, ha2, ho1, ho2⟩ := errB_ok HER.out
    have hb1 := ok_ops hv
    obtain ⟨S, hS, hxe⟩ := HXS.out HER.out
    have HV := hide hv
    have HS := hide hS
    have HX := hide hxe
    have HO1 := hide ho1
    clear hv hS hxe ho1 ha1 ha2 ho2
    have d0 := x7.cell 0
    have d1 := x7.cell 1
    simp at d0 d1
    go_wp2_with fail
    refine (Regions_any g' W7 hg7 (by omega) (by omega)).mono ?_
    rintro e W8 ⟨Ar, cr, rfl, hr, hB8⟩
    rw [HLK.out.regN, HLK.out.regL] at hr
    rw [HLK.out.regN, HLK.out.regE]
    rw [show regN g = g.n1 from by simp [regN, HV.out], show regL g = rowL g.n1 (fun i => .int .i64 ((numOf (labs g.es) i : Nat) : Int)) from by simp [regL, HV.out]] at hr
    rw [show regN g = g.n1 from by simp [regN, HV.out], show regE g = 0 from by simp [regE, HV.out]]
    obtain ⟨br, offr, rfl, hbr, hrc⟩ := reads_row hr (by omega)
    have b8 := b7.below hB8 (by omega)
    have x8 := x7.below hB8 hs7
    have hB08 := bstep hB07 hB8
    have hg8 := hg7.up hB8
    have ha8 := ha7.up hB8
    have hs8 := Nat.lt_of_lt_of_le hs7 hB8.size
    have HRC := hide hrc
    clear hB07 hB8 b7 x7 hs7 hg7 ha7 hr d0 d1 hrc
    have d0 : W8.cell? ⟨w.heap.size, 0, none⟩ = some (.slice g.a1 g.n1 g.c1) := b8.cell 0
    go_wp2_with fail
    clear d0
    go_loopw [15, 16] (fun i _ wr => ∃ k : Nat, k ≤ g.n1 ∧ i = .int .i64 k ∧ Below W8.heap.size W8 wr) (fun i _ _ => g.n1 - (intOf i).toNat)
    case atStart => exact ⟨0, Nat.zero_le _, rfl, Below.refl _ _⟩
    case round =>
      obtain ⟨k, hk, rfl, hB⟩ := hrel
      by_cases hlt : k < g.n1
      · go_wp2_with fail
        go_loopw [16] (fun j wr => ∃ i : Nat, i ≤ k ∧ j = .int .i64 i ∧ Below W8.heap.size W8 wr) (fun j _ => k - (intOf j).toNat)
        case atStart => exact ⟨0, Nat.zero_le _, rfl, hB⟩
        case round =>
          clear hB
          obtain ⟨i, hi, rfl, hB⟩ := hrel
          by_cases hlt2 : i < k
          · have ck := (hB.cell (p := ⟨br, offr + k, none⟩) hbr).trans (HRC.out k hlt)
            have ci := (hB.cell (p := ⟨br, offr + i, none⟩) hbr).trans (HRC.out i (by omega))
            have har := ha8.below hB
            have hsame : numOf (labs g.es) k = numOf (labs g.es) i → hasB xs (k : Int) = hasB xs (i : Int) := fun h => by
              rw [HX.out, has_tkn hlt, has_tkn (by omega), (numOf_eq (Lab.labs g.es)).1 h]
            obtain ⟨x, hx⟩ : ∃ x, numOf (labs g.es) k = x := ⟨_, rfl⟩
            obtain ⟨y, hy⟩ : ∃ y, numOf (labs g.es) i = y := ⟨_, rfl⟩
            rw [hx] at ck hsame
            rw [hy] at ci hsame
            clear hx hy
            have q1 : (0 : Int) ≤ (k : Int) := by omega
            have q2 : (k : Int) < (g.n1 : Int) := by omega
            have q3 : (0 : Int) ≤ (i : Int) := by omega
            have q4 : (i : Int) < (g.n1 : Int) := by omega
            by_cases hxy : x = y
            · have n1 : ((x : Int) == (y : Int)) = true := by simp; omega
              obtain ⟨bb, hbb⟩ : ∃ bb, hasB xs (i : Int) = bb := ⟨_, rfl⟩
              have hc : ∀ (y : Int) (q : Nat), (y = (k : Int) ∨ y = (i : Int)) → Calls Try.prog 17 #[.slice Aa xs.length ca, .int .i64 y] (wr.drewN q) fun e w'' => e = .returned (.bool bb) ∧ ∃ m, w'' = wr.drewN m := fun y q h => by
                have hy : hasB xs y = bb := by
                  rcases h with rfl | rfl
                  · rw [hsame hxy, hbb]
                  · exact hbb
                rw [← hy]; exact has_quiet har (by omega) _ q
              have HC := hide hc
              have hb2 : (bb != bb) = false := by simp
              clear hsame hxy hc hbb
              go_wp2_with fail
              go_quiet ((go_at_call 17; refine HC.out _ _ ?_; first | exact Or.inl rfl | exact Or.inr rfl))
              go_wp2
              go_roundw
              case rel => exact ⟨i + 1, by omega, by go_num, below_drewN hB _⟩
              case measure => simp [intOf]; omega
            · have n1 : ((x : Int) == (y : Int)) = false := by simp; omega
              clear hsame hxy
              go_wp2_with fail
              go_quiet (fail)
              go_wp2
              go_roundw
              case rel => exact ⟨i + 1, by omega, by go_num, below_drewN hB _⟩
              case measure => simp [intOf]; omega
          · obtain rfl : i = k := by omega
            go_wp2
            go_roundw
            case rel => exact ⟨i + 1, by omega, by go_num, hB⟩
            case measure => simp [intOf]; omega
      · obtain rfl : k = g.n1 := by omega
        go_wp2_with fail
        go_loopw [17] (fun i wr => ∃ k : Nat, k ≤ g.n2 ∧ i = .int .i64 k ∧ Below W8.heap.size W8 wr) (fun i _ => g.n2 - (intOf i).toNat)
        case atStart => exact ⟨0, Nat.zero_le _, rfl, hB⟩
        case round =>
          clear hB
          obtain ⟨k, hk, rfl, hB⟩ := hrel
          have hgr := (hg.up hB08).below hB
          have har := ha8.below hB
          have c1' : wr.cell? ⟨w.heap.size, 1, none⟩ = some (.slice g.a2 g.n2 g.c2) := (hB.cell (p := ⟨w.heap.size, 1, none⟩) (by show w.heap.size < _; omega)).trans (b8.cell 1)
          by_cases hlt : k < g.n2
          · obtain ⟨b1, off, e, ha0, hb2, hek, hce⟩ := hgr.r2.elem encEd_len HL2.out hlt
            obtain ⟨v1, v2, v3, v4, v5⟩ := ok_edge HV.out hek
            have himp : hasB xs e.f = true → hasB xs e.t = true := fun h => by
              obtain ⟨f, hf'⟩ := Int.eq_ofNat_of_zero_le v1
              obtain ⟨t, ht'⟩ := Int.eq_ofNat_of_zero_le (show 0 ≤ e.t by omega)
              have h2 := back_edge HS.out (mem_at hek)
              rw [hf'] at h v2 h2
              rw [ht'] at v2 v3 h2 ⊢
              simp only [Int.toNat_natCast] at h2
              rw [HX.out, has_tkn (by omega)] at h ⊢
              exact h2 h
            have e0 : wr.cell? ⟨b1, off + k * 3, none⟩ = some (.int .i64 e.f) := by simpa using hce 0 _ rfl
            have e1 : wr.cell? ⟨b1, off + k * 3 + 1, none⟩ = some (.int .i64 e.t) := by simpa [← Nat.add_assoc] using hce 1 _ rfl
            clear hce hek hgr
            rw [ha0] at c1'
            clear ha0
            have q1 : (0 : Int) ≤ (k : Int) := by omega
            have q2 : (k : Int) < (g.n2 : Int) := by omega
            obtain ⟨x, hx⟩ : ∃ x, hasB xs e.f = x := ⟨_, rfl⟩
            obtain ⟨y, hy⟩ : ∃ y, hasB xs e.t = y := ⟨_, rfl⟩
            rw [hx, hy] at himp
            have HXx := hide hx
            have HYy := hide hy
            clear hx hy
            cases x
            · clear himp
              go_wp2_with fail
              refine (Has_any _ _ _ _ xs _ _ har (by omega)).mono ?_
              rintro ee w' ⟨rfl, rfl⟩
              rw [HXx.out]
              go_wp2
              go_roundw
              case rel => exact ⟨k + 1, by omega, by go_num, hB⟩
              case measure => simp [intOf]; omega
            · have hyt := himp rfl
              subst hyt
              clear himp
              go_wp2_with fail
              refine (Has_any _ _ _ _ xs _ _ har (by omega)).mono ?_
              rintro ee w' ⟨rfl, rfl⟩
              rw [HXx.out]
              go_wp2_with fail
              refine (Has_any _ _ _ _ xs _ _ har (by omega)).mono ?_
              rintro ee w' ⟨rfl, rfl⟩
              rw [HYy.out]
              go_wp2
              go_roundw
              case rel => exact ⟨k + 1, by omega, by go_num, hB⟩
              case measure => simp [intOf]; omega
          · obtain rfl : k = g.n2 := by omega
            have hfr := (hf.up hB08).below hB
            have HE := hide (bstep hB08 hB)
            clear hgr
            by_cases hmo1 : more < 0
            · clear har hfr
              go_wp2
              go_ret
              exact ⟨rfl, HE.out⟩
            · by_cases hmo2 : (g.n1 : Int) ≤ more
              · clear har hfr
                go_wp2
                go_ret
                exact ⟨rfl, HE.out⟩
              · cases hmo3 : hasB fallen more
                · have HMO := hide hmo3
                  clear hmo3
                  go_wp2_with fail
                  refine (Has_any _ _ _ _ fallen _ _ hfr (by omega)).mono ?_
                  rintro ee w' ⟨rfl, rfl⟩
                  rw [HMO.out]
                  go_upto_region 30 with fail
                  have hxB := x8.below hB hs8
                  have hWs8 := hB.size
                  have hgW := hg8.up hB
                  have haW := har
                  have hoW := hgo.up HE.out
                  have hfW : Reads wr wr.heap.size 1 A1 m1 (fallen.map (Value.int .i64)) := hfr.more hB.size
                  have hm0 : 0 ≤ more := by omega
                  have hmn : more < (g.n1 : Int) := by omega
                  have hkey : ∀ ys : List Int, ys.Perm (fallen ++ [more]) → srt ys → ∃ zs : List Int, errB g' ys gone = 0 ∧ (errB g' ys gone = 0 → ∃ S, IsBack (labs g'.es) g'.es ys gone S ∧ zs = tkn (fun t => S (labs g'.es t)) g'.n1) ∧ (errB g' ys gone ≠ 0 → zs = []) ∧ (∀ x ∈ xs, hasB zs x = true) ∧ hasB zs more = true ∧ zs.length ≤ 300 := by
                    intro ys hp hs
                    have he := err_more HER.out hm0 hmn HMO.out hp hs
                    obtain ⟨S2, hS2⟩ := IsBack.exists_ (labs g.es) g.es ys gone
                    obtain ⟨mt, hmt⟩ := Int.eq_ofNat_of_zero_le hm0
                    refine ⟨tkn (fun t => S2 (labs g.es t)) g.n1, by rw [HLK.out.errB]; exact he, fun _ => ⟨S2, by rw [HLK.out.es]; exact hS2, by rw [HLK.out.es, HLK.out.n1]⟩, fun h => absurd (by rw [HLK.out.errB]; exact he) h, fun x hx => ?_, ?_, Nat.le_trans tkn_le hn1⟩
                    · rw [HX.out, mem_tkn] at hx
                      obtain ⟨t, ht, h1, rfl⟩ := hx
                      rw [has_tkn ht]
                      exact back_mono HS.out hS2 (fun u hu => hp.mem_iff.2 (List.mem_append_left _ hu)) h1
                    · rw [hmt, has_tkn (by omega)]
                      have := back_seed hS2 (hp.mem_iff.2 (show more ∈ fallen ++ [more] by simp))
                      rw [hmt] at this
                      simpa using this
                  have HKEY := hide hkey
                  clear hkey
                  have hlen1 : (fallen.map (Value.int .i64) ++ [.int .i64 more]) = (fallen ++ [more]).map (Value.int .i64) := by simp
                  have HLEN := hide hlen1
                  have y0 := hxB.cell 0
                  have y1 := hxB.cell 1
                  simp at y0 y1
                  have hbxw : bx < wr.heap.size := Nat.lt_of_lt_of_le hs8 hB.size
                  have hSX : ∀ X, Below wr.heap.size wr X → X.cell? ⟨bx, 0, none⟩ = some (.slice g'.a1 g'.n1 g'.c1) ∧ X.cell? ⟨bx, 1, none⟩ = some (.slice g'.a2 g'.n2 g'.c2) := fun X h => ⟨(h.cell (p := ⟨bx, 0, none⟩) hbxw).trans y0, (h.cell (p := ⟨bx, 1, none⟩) hbxw).trans y1⟩
                  have HSX := hide hSX
                  clear hSX hlen1 hfr har hB
                  obtain ⟨i0, hi, hz0, hz1, hz2⟩ := info_parts infoInt_dk
                  go_cut [11, 18] from 144 to 156 (fun e11 s18 wx => e11 = .int .i64 0 ∧ ∃ (A : Option Addr) (c : Nat) (zs : List Int), s18 = .slice A zs.length c ∧ Reads wx wx.heap.size 1 A zs.length (intsL zs) ∧ Below wr.heap.size wr wx ∧ (∀ x ∈ xs, hasB zs x = true) ∧ hasB zs more = true ∧ zs.length ≤ 300)
                  case first =>
                    refine Held.begin (fun x => x.cell? ⟨bx, 0, none⟩ = some (.slice g'.a1 g'.n1 g'.c1) ∧ x.cell? ⟨bx, 1, none⟩ = some (.slice g'.a2 g'.n2 g'.c2)) 14 (by kernel_rfl) ?_
                    have hBX : Below wr.heap.size wr wr.drew := (Below.refl _ _).drew
                    have hfX : Reads wr.drew wr.heap.size 1 A1 m1 (fallen.map (Value.int .i64)) := hfW
                    obtain ⟨X, hX⟩ : ∃ X, wr.drew = X := ⟨_, rfl⟩
                    rw [hX] at hBX hfX ⊢
                    clear hX y0 y1 hxB
                    have hS := HSX.out X hBX
                    have hsX := hBX.size
                    refine Held.take (i := 0) (.agg #[.slice g'.a1 g'.n1 g'.c1, .slice g'.a2 g'.n2 g'.c2]) rfl hS (by kernel_rfl) (by kernel_rfl) (by kernel_rfl) (by kernel_rfl) (fun _ _ _ h => h) rfl (fun x hx => by obtain ⟨x1, x2⟩ := hx; go_simp) ?_
                    try simp only [Act.put]
                    refine Held.take (i := 2) (.slice A1 m1 c1) rfl hS (by kernel_rfl) (by kernel_rfl) (by kernel_rfl) (by kernel_rfl) (fun _ _ _ h => h) rfl (fun x hx => by obtain ⟨x1, x2⟩ := hx; go_simp) ?_
                    try simp only [Act.put]
                    refine Held.take (i := 4) (.int .i64 more) rfl hS (by kernel_rfl) (by kernel_rfl) (by kernel_rfl) (by kernel_rfl) (fun _ _ _ h => h) rfl (fun x hx => by obtain ⟨x1, x2⟩ := hx; go_simp) ?_
                    try simp only [Act.put]
                    refine Held.take (i := 8) (.slice A2 m2 c2) rfl hS (by kernel_rfl) (by kernel_rfl) (by kernel_rfl) (by kernel_rfl) (fun _ _ _ h => h) rfl (fun x hx => by obtain ⟨x1, x2⟩ := hx; go_simp) ?_
                    try simp only [Act.put]
                    refine Held.two (i := 1) (j := 5) rfl rfl (by kernel_rfl) rfl rfl (fun K hK => ?_) (fun K hK => ?_)
                    · have hBn := hBX.alloc hBX.size (.cells #[] 3)
                      have hSn := HSX.out _ hBn
                      unfold Oper.wp
                      go_simp
                      refine hK _ _ (fun _ => hSn) ?_
                      try simp only [Act.put]
                      clear hK K
                      have own0 := own_lit X 3 1 0 #[] rfl (by unfold maxLen; omega) hBX.size
                      have hz : (X.alloc (.cells #[] 3)).heap.size = X.heap.size + 1 := World.size_alloc _ _
                      obtain ⟨h0, hh0⟩ : ∃ h0, X.heap.size = h0 := ⟨_, rfl⟩
                      rw [hh0] at own0 hz ⊢
                      have hlo0 : wr.heap.size ≤ h0 := by rw [← hh0]; exact hBX.size
                      obtain ⟨XB, hN⟩ : ∃ XB, X.alloc (.cells #[] 3) = XB := ⟨_, rfl⟩
                      rw [hN] at hBn hSn own0 hz ⊢
                      have hl0 : X.heap.size ≤ h0 := by omega
                      have hzi : h0 + 1 ≤ XB.heap.size ∧ XB.heap.size ≤ h0 + 1 := by omega
                      clear hN hS hBX hh0 hz
                      have hBX := hBn
                      have hS := hSn
                      clear hBn hSn
                      refine Held.two (i := 3) (j := 5) rfl rfl (by kernel_rfl) rfl rfl (fun K hK => ?_) (fun K hK => ?_)
                      · have hfx : Reads XB wr.heap.size 1 A1 m1 (fallen.map (Value.int .i64)) := hfW.below hBX
                        refine wp_append_any _ _ _ 22 rfl wr.heap.size 3 i0 _ 1 8 Try.underlying22 hi hz0 hz1 hz2 rfl (by decide) (.slice (some ⟨h0, 0, none⟩) 0 0) 0 [] rfl own0 wr.heap.size A1 m1 c1 (fallen.map (Value.int .i64)) rfl hfx (ints_one _) (by unfold maxLen; omega) (by omega) hBX.size ?_
                        intro v1 XC own1 hgrow _
                        rw [Nat.zero_add, List.nil_append] at own1
                        have hBn : Below wr.heap.size wr XC := hBX.grown hgrow hBX.size (fun k hk => (own0.lt k hk).1)
                        have hSn := HSX.out _ hBn
                        obtain ⟨A3, c3, rfl, _⟩ := own_form own1
                        refine hK _ _ (fun _ => hSn) ?_
                        try simp only [Act.put]
                        clear hK K hS hBX hgrow own0 hfx
                        have hBX := hBn
                        have hS := hSn
                        clear hBn hSn
                        refine Held.one (i := 5) rfl (by kernel_rfl) rfl (fun K hK => ?_)
                        have hBn := hBX.alloc hBX.size (.cells #[.int .i64 more] 3)
                        have hSn := HSX.out _ hBn
                        unfold Oper.wp
                        go_simp
                        refine hK _ _ (fun _ => hSn) ?_
                        try simp only [Act.put]
                        clear hK K
                        have ownM := own_lit XC 3 1 1 #[.int .i64 more] rfl (by unfold maxLen; omega) hBX.size
                        obtain ⟨hm, hhm⟩ : ∃ hm, XC.heap.size = hm := ⟨_, rfl⟩
                        rw [hhm] at ownM ⊢
                        have hzm : (XC.alloc (.cells #[.int .i64 more] 3)).heap.size = hm + 1 := by rw [← hhm]; exact World.size_alloc _ _
                        have own1 := own1.alloc (.cells #[.int .i64 more] 3)
                        obtain ⟨XD, hN⟩ : ∃ XD, XC.alloc (.cells #[.int .i64 more] 3) = XD := ⟨_, rfl⟩
                        rw [hN] at hBn hSn ownM hzm own1 ⊢
                        have hlm : XC.heap.size ≤ hm := by omega
                        have hzmi : hm + 1 ≤ XD.heap.size ∧ XD.heap.size ≤ hm + 1 := by omega
                        clear hN hS hBX hhm hzm
                        have hBX := hBn
                        have hS := hSn
                        clear hBn hSn
                        refine Held.one (i := 6) rfl (by kernel_rfl) rfl (fun K hK => ?_)
                        refine wp_append_any _ _ _ 22 rfl wr.heap.size 3 i0 _ 1 8 Try.underlying22 hi hz0 hz1 hz2 rfl (by decide) (.slice A3 m1 c3) m1 (fallen.map (Value.int .i64)) rfl own1 XD.heap.size (some ⟨hm, 0, none⟩) 1 1 [.int .i64 more] rfl (Reads.of_own ownM) (by simp [Value.oneCell']) (by unfold maxLen; omega) (by omega) hBX.size ?_
                        intro v2 XE own2 hgrow _
                        have hBn : Below wr.heap.size wr XE := hBX.grown hgrow hBX.size (fun k hk => (own1.lt k hk).1)
                        have hSn := HSX.out _ hBn
                        rw [HLEN.out] at own2
                        obtain ⟨A4, c4, rfl, hR4⟩ := own_form own2
                        refine hK _ _ (fun _ => hSn) ?_
                        try simp only [Act.put]
                        clear hK K hS hBX hgrow own1 ownM own2
                        have hBX := hBn
                        have hS := hSn
                        clear hBn hSn
                        refine Held.one (i := 7) rfl (by kernel_rfl) rfl (fun K hK => ?_)
                        unfold Oper.wp
                        go_simp
                        go_at_call 18
                        refine (Sorted_any A4 (m1 + 1) c4 XE.heap.size (fallen ++ [more]) XE hR4 (Nat.le_refl _) (by omega)).mono ?_
                        rintro ee XF ⟨ys, hp, hsr, hro⟩
                        obtain ⟨A5, c5, rfl, hR5, hB5⟩ := hro.sl
                        have hBn := hBX.trans (hB5.mono hBX.size)
                        have hSn := HSX.out _ hBn
                        obtain ⟨zs, hz1', hz2', hz3', hz4, hz5, hz6⟩ := HKEY.out ys hp hsr
                        refine hK _ _ (fun _ => hSn) ?_
                        try simp only [Act.put]
                        clear hK K hS hBX hro hR4
                        have hBX := hBn
                        have hS := hSn
                        clear hBn hSn
                        refine Held.one (i := 9) rfl (by kernel_rfl) rfl (fun K hK => ?_)
                        unfold Oper.wp
                        go_simp
                        go_at_call 13
                        refine (Back_any g' A5 (m1 + 1) c5 ys A2 m2 c2 gone XF ((hgW.below hBX).more_ hBX.size) hR5 ((hoW.below hBX).more hBX.size) (by omega) (by omega) (by omega) (by omega) zs hz2' hz3').mono ?_
                        rintro ee XG ⟨A6, c6, rfl, hR6, hB6⟩
                        rw [hz1']
                        have hBn := hBX.trans (hB6.mono hBX.size)
                        have hSn := HSX.out _ hBn
                        refine hK _ _ (fun _ => hSn) ?_
                        try simp only [Act.put]
                        clear hK K hS hBX
                        have hBX := hBn
                        have hS := hSn
                        clear hBn hSn
                        refine Held.one (i := 10) rfl (by kernel_rfl) rfl (fun K hK => ?_)
                        unfold Oper.wp
                        go_simp
                        refine hK _ _ (fun _ => hS) ?_
                        try simp only [Act.put]
                        clear hK K
                        refine Held.take (i := 11) (.slice A6 zs.length c6) rfl hS (by kernel_rfl) (by kernel_rfl) (by kernel_rfl) (by kernel_rfl) (fun _ _ _ h => h) rfl (fun x hx => by obtain ⟨x1, x2⟩ := hx; go_simp) ?_
                        try simp only [Act.put]
                        refine Held.take (i := 12) (.int .i64 0) rfl hS (by kernel_rfl) (by kernel_rfl) (by kernel_rfl) (by kernel_rfl) (fun _ _ _ h => h) rfl (fun x hx => by obtain ⟨x1, x2⟩ := hx; go_simp) ?_
                        try simp only [Act.put]
                        refine Held.one (i := 13) rfl (by kernel_rfl) rfl (fun K hK => ?_)
                        unfold Oper.wp
                        go_simp
                        refine hK _ _ (fun _ => hS) ?_
                        try simp only [Act.put]
                        clear hK K
                        refine Held.one (i := 14) rfl (by kernel_rfl) rfl (fun K hK => ?_)
                        unfold Oper.wp
                        go_simp
                        refine hK _ _ (fun h => absurd rfl h) ?_
                        try simp only [Act.put]
                        clear hK K
                        refine Held.done (by kernel_rfl) ?_
                        go_wp2_with fail
                        go_meet
                        exact ⟨rfl, A6, c6, zs, rfl, hR6, hBX, hz4, hz5, hz6⟩
                      · have hBn := hBX.alloc hBX.size (.cells #[.int .i64 more] 3)
                        have hSn := HSX.out _ hBn
                        unfold Oper.wp
                        go_simp
                        refine hK _ _ (fun _ => hSn) ?_
                        try simp only [Act.put]
                        clear hK K
                        have ownM := own_lit XB 3 1 1 #[.int .i64 more] rfl (by unfold maxLen; omega) hBX.size
                        obtain ⟨hm, hhm⟩ : ∃ hm, XB.heap.size = hm := ⟨_, rfl⟩
                        rw [hhm] at ownM ⊢
                        have hzm : (XB.alloc (.cells #[.int .i64 more] 3)).heap.size = hm + 1 := by rw [← hhm]; exact World.size_alloc _ _
                        have own0 := own0.alloc (.cells #[.int .i64 more] 3)
                        obtain ⟨XC, hN⟩ : ∃ XC, XB.alloc (.cells #[.int .i64 more] 3) = XC := ⟨_, rfl⟩
                        rw [hN] at hBn hSn ownM hzm own0 ⊢
                        have hlm : XB.heap.size ≤ hm := by omega
                        have hzmi : hm + 1 ≤ XC.heap.size ∧ XC.heap.size ≤ hm + 1 := by omega
                        clear hN hS hBX hhm hzm
                        have hBX := hBn
                        have hS := hSn
                        clear hBn hSn
                        refine Held.one (i := 3) rfl (by kernel_rfl) rfl (fun K hK => ?_)
                        have hfx : Reads XC wr.heap.size 1 A1 m1 (fallen.map (Value.int .i64)) := hfW.below hBX
                        refine wp_append_any _ _ _ 22 rfl wr.heap.size 3 i0 _ 1 8 Try.underlying22 hi hz0 hz1 hz2 rfl (by decide) (.slice (some ⟨h0, 0, none⟩) 0 0) 0 [] rfl own0 wr.heap.size A1 m1 c1 (fallen.map (Value.int .i64)) rfl hfx (ints_one _) (by unfold maxLen; omega) (by omega) hBX.size ?_
                        intro v1 XD own1 hgrow _
                        rw [Nat.zero_add, List.nil_append] at own1
                        have hBn : Below wr.heap.size wr XD := hBX.grown hgrow hBX.size (fun k hk => (own0.lt k hk).1)
                        have hSn := HSX.out _ hBn
                        have ownM := ownM.kept hgrow (.inr (by simp [Value.ownBlock]; omega))
                        obtain ⟨A3, c3, rfl, _⟩ := own_form own1
                        refine hK _ _ (fun _ => hSn) ?_
                        try simp only [Act.put]
                        clear hK K hS hBX hgrow own0 hfx
                        have hBX := hBn
                        have hS := hSn
                        clear hBn hSn
                        refine Held.one (i := 6) rfl (by kernel_rfl) rfl (fun K hK => ?_)
                        refine wp_append_any _ _ _ 22 rfl wr.heap.size 3 i0 _ 1 8 Try.underlying22 hi hz0 hz1 hz2 rfl (by decide) (.slice A3 m1 c3) m1 (fallen.map (Value.int .i64)) rfl own1 XD.heap.size (some ⟨hm, 0, none⟩) 1 1 [.int .i64 more] rfl (Reads.of_own ownM) (by simp [Value.oneCell']) (by unfold maxLen; omega) (by omega) hBX.size ?_
                        intro v2 XE own2 hgrow _
                        have hBn : Below wr.heap.size wr XE := hBX.grown hgrow hBX.size (fun k hk => (own1.lt k hk).1)
                        have hSn := HSX.out _ hBn
                        rw [HLEN.out] at own2
                        obtain ⟨A4, c4, rfl, hR4⟩ := own_form own2
                        refine hK _ _ (fun _ => hSn) ?_
                        try simp only [Act.put]
                        clear hK K hS hBX hgrow own1 ownM own2
                        have hBX := hBn
                        have hS := hSn
                        clear hBn hSn
                        refine Held.one (i := 7) rfl (by kernel_rfl) rfl (fun K hK => ?_)
                        unfold Oper.wp
                        go_simp
                        go_at_call 18
                        refine (Sorted_any A4 (m1 + 1) c4 XE.heap.size (fallen ++ [more]) XE hR4 (Nat.le_refl _) (by omega)).mono ?_
                        rintro ee XF ⟨ys, hp, hsr, hro⟩
                        obtain ⟨A5, c5, rfl, hR5, hB5⟩ := hro.sl
                        have hBn := hBX.trans (hB5.mono hBX.size)
                        have hSn := HSX.out _ hBn
                        obtain ⟨zs, hz1', hz2', hz3', hz4, hz5, hz6⟩ := HKEY.out ys hp hsr
                        refine hK _ _ (fun _ => hSn) ?_
                        try simp only [Act.put]
                        clear hK K hS hBX hro hR4
                        have hBX := hBn
                        have hS := hSn
                        clear hBn hSn
                        refine Held.one (i := 9) rfl (by kernel_rfl) rfl (fun K hK => ?_)
                        unfold Oper.wp
                        go_simp
                        go_at_call 13
                        refine (Back_any g' A5 (m1 + 1) c5 ys A2 m2 c2 gone XF ((hgW.below hBX).more_ hBX.size) hR5 ((hoW.below hBX).more hBX.size) (by omega) (by omega) (by omega) (by omega) zs hz2' hz3').mono ?_
                        rintro ee XG ⟨A6, c6, rfl, hR6, hB6⟩
                        rw [hz1']
                        have hBn := hBX.trans (hB6.mono hBX.size)
                        have hSn := HSX.out _ hBn
                        refine hK _ _ (fun _ => hSn) ?_
                        try simp only [Act.put]
                        clear hK K hS hBX
                        have hBX := hBn
                        have hS := hSn
                        clear hBn hSn
                        refine Held.one (i := 10) rfl (by kernel_rfl) rfl (fun K hK => ?_)
                        unfold Oper.wp
                        go_simp
                        refine hK _ _ (fun _ => hS) ?_
                        try simp only [Act.put]
                        clear hK K
                        refine Held.take (i := 11) (.slice A6 zs.length c6) rfl hS (by kernel_rfl) (by kernel_rfl) (by kernel_rfl) (by kernel_rfl) (fun _ _ _ h => h) rfl (fun x hx => by obtain ⟨x1, x2⟩ := hx; go_simp) ?_
                        try simp only [Act.put]
                        refine Held.take (i := 12) (.int .i64 0) rfl hS (by kernel_rfl) (by kernel_rfl) (by kernel_rfl) (by kernel_rfl) (fun _ _ _ h => h) rfl (fun x hx => by obtain ⟨x1, x2⟩ := hx; go_simp) ?_
                        try simp only [Act.put]
                        refine Held.one (i := 13) rfl (by kernel_rfl) rfl (fun K hK => ?_)
                        unfold Oper.wp
                        go_simp
                        refine hK _ _ (fun _ => hS) ?_
                        try simp only [Act.put]
                        clear hK K
                        refine Held.one (i := 14) rfl (by kernel_rfl) rfl (fun K hK => ?_)
                        unfold Oper.wp
                        go_simp
                        refine hK _ _ (fun h => absurd rfl h) ?_
                        try simp only [Act.put]
                        clear hK K
                        refine Held.done (by kernel_rfl) ?_
                        go_wp2_with fail
                        go_meet
                        exact ⟨rfl, A6, c6, zs, rfl, hR6, hBX, hz4, hz5, hz6⟩
                    · have hBn := hBX.alloc hBX.size (.cells #[.int .i64 more] 3)
                      have hSn := HSX.out _ hBn
                      unfold Oper.wp
                      go_simp
                      refine hK _ _ (fun _ => hSn) ?_
                      try simp only [Act.put]
                      clear hK K
                      have ownM := own_lit X 3 1 1 #[.int .i64 more] rfl (by unfold maxLen; omega) hBX.size
                      obtain ⟨hm, hhm⟩ : ∃ hm, X.heap.size = hm := ⟨_, rfl⟩
                      rw [hhm] at ownM ⊢
                      have hzm : (X.alloc (.cells #[.int .i64 more] 3)).heap.size = hm + 1 := by rw [← hhm]; exact World.size_alloc _ _
                      obtain ⟨XB, hN⟩ : ∃ XB, X.alloc (.cells #[.int .i64 more] 3) = XB := ⟨_, rfl⟩
                      rw [hN] at hBn hSn ownM hzm ⊢
                      have hlm : X.heap.size ≤ hm := by omega
                      have hzmi : hm + 1 ≤ XB.heap.size ∧ XB.heap.size ≤ hm + 1 := by omega
                      clear hN hS hBX hhm hzm
                      have hBX := hBn
                      have hS := hSn
                      clear hBn hSn
                      refine Held.one (i := 1) rfl (by kernel_rfl) rfl (fun K hK => ?_)
                      have hBn := hBX.alloc hBX.size (.cells #[] 3)
                      have hSn := HSX.out _ hBn
                      unfold Oper.wp
                      go_simp
                      refine hK _ _ (fun _ => hSn) ?_
                      try simp only [Act.put]
                      clear hK K
                      have own0 := own_lit XB 3 1 0 #[] rfl (by unfold maxLen; omega) hBX.size
                      have hz : (XB.alloc (.cells #[] 3)).heap.size = XB.heap.size + 1 := World.size_alloc _ _
                      obtain ⟨h0, hh0⟩ : ∃ h0, XB.heap.size = h0 := ⟨_, rfl⟩
                      rw [hh0] at own0 hz ⊢
                      have hlo0 : wr.heap.size ≤ h0 := by rw [← hh0]; exact hBX.size
                      have ownM := ownM.alloc (.cells #[] 3)
                      obtain ⟨XC, hN⟩ : ∃ XC, XB.alloc (.cells #[] 3) = XC := ⟨_, rfl⟩
                      rw [hN] at hBn hSn own0 hz ownM ⊢
                      have hl0 : XB.heap.size ≤ h0 := by omega
                      have hzi : h0 + 1 ≤ XC.heap.size ∧ XC.heap.size ≤ h0 + 1 := by omega
                      clear hN hS hBX hh0 hz
                      have hBX := hBn
                      have hS := hSn
                      clear hBn hSn
                      refine Held.one (i := 3) rfl (by kernel_rfl) rfl (fun K hK => ?_)
                      have hfx : Reads XC wr.heap.size 1 A1 m1 (fallen.map (Value.int .i64)) := hfW.below hBX
                      refine wp_append_any _ _ _ 22 rfl wr.heap.size 3 i0 _ 1 8 Try.underlying22 hi hz0 hz1 hz2 rfl (by decide) (.slice (some ⟨h0, 0, none⟩) 0 0) 0 [] rfl own0 wr.heap.size A1 m1 c1 (fallen.map (Value.int .i64)) rfl hfx (ints_one _) (by unfold maxLen; omega) (by omega) hBX.size ?_
                      intro v1 XD own1 hgrow _
                      rw [Nat.zero_add, List.nil_append] at own1
                      have hBn : Below wr.heap.size wr XD := hBX.grown hgrow hBX.size (fun k hk => (own0.lt k hk).1)
                      have hSn := HSX.out _ hBn
                      have ownM := ownM.kept hgrow (.inr (by simp [Value.ownBlock]; omega))
                      obtain ⟨A3, c3, rfl, _⟩ := own_form own1
                      refine hK _ _ (fun _ => hSn) ?_
                      try simp only [Act.put]
                      clear hK K hS hBX hgrow own0 hfx
                      have hBX := hBn
                      have hS := hSn
                      clear hBn hSn
                      refine Held.one (i := 6) rfl (by kernel_rfl) rfl (fun K hK => ?_)
                      refine wp_append_any _ _ _ 22 rfl wr.heap.size 3 i0 _ 1 8 Try.underlying22 hi hz0 hz1 hz2 rfl (by decide) (.slice A3 m1 c3) m1 (fallen.map (Value.int .i64)) rfl own1 XD.heap.size (some ⟨hm, 0, none⟩) 1 1 [.int .i64 more] rfl (Reads.of_own ownM) (by simp [Value.oneCell']) (by unfold maxLen; omega) (by omega) hBX.size ?_
                      intro v2 XE own2 hgrow _
                      have hBn : Below wr.heap.size wr XE := hBX.grown hgrow hBX.size (fun k hk => (own1.lt k hk).1)
                      have hSn := HSX.out _ hBn
                      rw [HLEN.out] at own2
                      obtain ⟨A4, c4, rfl, hR4⟩ := own_form own2
                      refine hK _ _ (fun _ => hSn) ?_
                      try simp only [Act.put]
                      clear hK K hS hBX hgrow own1 ownM own2
                      have hBX := hBn
                      have hS := hSn
                      clear hBn hSn
                      refine Held.one (i := 7) rfl (by kernel_rfl) rfl (fun K hK => ?_)
                      unfold Oper.wp
                      go_simp
                      go_at_call 18
                      refine (Sorted_any A4 (m1 + 1) c4 XE.heap.size (fallen ++ [more]) XE hR4 (Nat.le_refl _) (by omega)).mono ?_
                      rintro ee XF ⟨ys, hp, hsr, hro⟩
                      obtain ⟨A5, c5, rfl, hR5, hB5⟩ := hro.sl
                      have hBn := hBX.trans (hB5.mono hBX.size)
                      have hSn := HSX.out _ hBn
                      obtain ⟨zs, hz1', hz2', hz3', hz4, hz5, hz6⟩ := HKEY.out ys hp hsr
                      refine hK _ _ (fun _ => hSn) ?_
                      try simp only [Act.put]
                      clear hK K hS hBX hro hR4
                      have hBX := hBn
                      have hS := hSn
                      clear hBn hSn
                      refine Held.one (i := 9) rfl (by kernel_rfl) rfl (fun K hK => ?_)
                      unfold Oper.wp
                      go_simp
                      go_at_call 13
                      refine (Back_any g' A5 (m1 + 1) c5 ys A2 m2 c2 gone XF ((hgW.below hBX).more_ hBX.size) hR5 ((hoW.below hBX).more hBX.size) (by omega) (by omega) (by omega) (by omega) zs hz2' hz3').mono ?_
                      rintro ee XG ⟨A6, c6, rfl, hR6, hB6⟩
                      rw [hz1']
                      have hBn := hBX.trans (hB6.mono hBX.size)
                      have hSn := HSX.out _ hBn
                      refine hK _ _ (fun _ => hSn) ?_
                      try simp only [Act.put]
                      clear hK K hS hBX
                      have hBX := hBn
                      have hS := hSn
                      clear hBn hSn
                      refine Held.one (i := 10) rfl (by kernel_rfl) rfl (fun K hK => ?_)
                      unfold Oper.wp
                      go_simp
                      refine hK _ _ (fun _ => hS) ?_
                      try simp only [Act.put]
                      clear hK K
                      refine Held.take (i := 11) (.slice A6 zs.length c6) rfl hS (by kernel_rfl) (by kernel_rfl) (by kernel_rfl) (by kernel_rfl) (fun _ _ _ h => h) rfl (fun x hx => by obtain ⟨x1, x2⟩ := hx; go_simp) ?_
                      try simp only [Act.put]
                      refine Held.take (i := 12) (.int .i64 0) rfl hS (by kernel_rfl) (by kernel_rfl) (by kernel_rfl) (by kernel_rfl) (fun _ _ _ h => h) rfl (fun x hx => by obtain ⟨x1, x2⟩ := hx; go_simp) ?_
                      try simp only [Act.put]
                      refine Held.one (i := 13) rfl (by kernel_rfl) rfl (fun K hK => ?_)
                      unfold Oper.wp
                      go_simp
                      refine hK _ _ (fun _ => hS) ?_
                      try simp only [Act.put]
                      clear hK K
                      refine Held.one (i := 14) rfl (by kernel_rfl) rfl (fun K hK => ?_)
                      unfold Oper.wp
                      go_simp
                      refine hK _ _ (fun h => absurd rfl h) ?_
                      try simp only [Act.put]
                      clear hK K
                      refine Held.done (by kernel_rfl) ?_
                      go_wp2_with fail
                      go_meet
                      exact ⟨rfl, A6, c6, zs, rfl, hR6, hBX, hz4, hz5, hz6⟩
                  case rest =>
                    obtain ⟨rfl, A6, c6, zs, rfl, hR6, hB6, hz4, hz5, hz6⟩ := hcut
                    have HZ4 := hide hz4
                    have HZ5 := hide hz5
                    clear hz4 hz5 hxB y0 y1
                    have haX := (haW.more hWs8).below hB6
                    have HEX := hide (bstep HE.out hB6)
                    go_wp2_with fail
                    go_loopw [19] (fun i wx => ∃ k : Nat, k ≤ xs.length ∧ i = .int .i64 k ∧ wx = wc) (fun i _ => xs.length - (intOf i).toNat)
                    case atStart => exact ⟨0, Nat.zero_le _, rfl, rfl⟩
                    case round =>
                      obtain ⟨k, hk, rfl, hw⟩ := hrel
                      have haY : Reads wr wr.heap.size 1 Aa xs.length (xs.map (Value.int .i64)) := by rw [hw]; exact haX.more hB6.size
                      have hRY : Reads wr wr.heap.size 1 A6 zs.length (intsL zs) := by rw [hw]; exact hR6
                      have HW := hide hw
                      clear hw
                      by_cases hlt : k < xs.length
                      · obtain ⟨b, off, x, hax, hbx2, hxk, hc⟩ := haY.at1 hlt
                        have HHX := hide (HZ4.out x (List.mem_of_getElem? hxk))
                        rw [hax]
                        clear hax hxk
                        go_wp2_with fail
                        refine (Has_any _ _ _ _ zs _ _ hRY (by omega)).mono ?_
                        rintro ee w' ⟨rfl, rfl⟩
                        rw [HHX.out]
                        go_wp2
                        go_roundw
                        case rel => exact ⟨k + 1, by omega, by go_num, HW.out⟩
                        case measure => simp [intOf]; omega
                      · obtain rfl : k = xs.length := by omega
                        clear haY
                        go_wp2_with fail
                        refine (Has_any _ _ _ _ zs _ _ hRY (by omega)).mono ?_
                        rintro ee w' ⟨rfl, rfl⟩
                        rw [HZ5.out]
                        go_wp2
                        go_ret
                        exact ⟨rfl, by rw [HW.out]; exact HEX.out⟩
                · have HMO := hide hmo3
                  clear hmo3
                  go_wp2_with fail
                  refine (Has_any _ _ _ _ fallen _ _ hfr (by omega)).mono ?_
                  rintro ee w' ⟨rfl, rfl⟩
                  rw [HMO.out]
                  go_wp2
                  go_ret
                  exact ⟨rfl, HE.out⟩
  · have hne : (E != 0) = true := by simpa using hE0
    have HE := hide hB07
    clear hE0 hB07 b7 x7 hg7 ha7
    go_wp2
    go_ret
    exact ⟨rfl, HE.out⟩
end Go.Proofs.Ytblepaocekojbaa
