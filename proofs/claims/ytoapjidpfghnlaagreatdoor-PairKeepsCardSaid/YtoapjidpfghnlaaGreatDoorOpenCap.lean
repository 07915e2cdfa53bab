/-
  The walk of bag.Changes, for every two bags and every time. (Printed by gen_chg.)
  The walks of the reference's Made and Changes. (Printed by gen_made.)
  The walk of the reference's Netted.
  bag.gathered over the rows of changes, and over the rows of a bag.
  The walk of bag.Netted.
  Lists of rows in memory.
  The walk of bag.Upserts, for every bag, changes and key.
  The arguments of type Bag and []Change opened, with the room of every row.
-/
import Derived.Test.YtoapjidpfghnlaaGreatDoorBgL
import Derived.Test.YtoapjidpfghnlaaGreatDoorNetM
import Derived.Test.YtoapjidpfghnlaaGreatDoorApl
import Derived.Test.YtoapjidpfghnlaaGreatDoorUpA
import Derived.Laws.EntriesVeiled
import Derived.Test.YtoapjidpfghnlaaGreatDoorOpenEv
namespace Go.Proofs.YtoapjidpfghnlaaGreatDoor

section
section
open Go.RowKit
attribute [local go_sem] Oper.semAt_some wide_fn wide_depth
set_option linter.unusedVariables false
set_option linter.unusedSimpArgs false

/-- Changes, all at one time, and an error, handed back. -/
def RetChE (w : World) (T : Int) (p : Bg × Int) (e : Ending) (w' : World) : Prop :=
  ∃ A n c l, e = .returned (.tuple #[.slice A n c, .int .i64 p.2]) ∧ (l.map (fun i => (i.r, i.m)) = p.1 ∧ ∀ i ∈ l, i.t = T) ∧ ChgR w' w'.heap.size A n l ∧ Below w.heap.size w w'
theorem ChgR.nil (w : World) (B : Nat) : ChgR w B none 0 [] := ⟨⟨rfl, fun h => absurd h (by decide)⟩, nofun, by omega⟩
theorem bad_end {w W : World} {v0 e0 : Value} (hB : Below w.heap.size w W) (hr : Boxed W (w.heap.size + 1) 67 v0) (he : Boxed W (w.heap.size + 1 + 1) 28 e0) (E : Int) :
    ((W.setCell ⟨w.heap.size + 1, 0, none⟩ (.slice none 0 0)).setCell ⟨w.heap.size + 1 + 1, 0, none⟩ (.int .i64 E)).cell? ⟨w.heap.size + 1, 0, none⟩ = some (.slice none 0 0) ∧
    ((W.setCell ⟨w.heap.size + 1, 0, none⟩ (.slice none 0 0)).setCell ⟨w.heap.size + 1 + 1, 0, none⟩ (.int .i64 E)).cell? ⟨w.heap.size + 1 + 1, 0, none⟩ = some (.int .i64 E) ∧
    Below w.heap.size w ((W.setCell ⟨w.heap.size + 1, 0, none⟩ (.slice none 0 0)).setCell ⟨w.heap.size + 1 + 1, 0, none⟩ (.int .i64 E)) ∧
    Boxed ((W.setCell ⟨w.heap.size + 1, 0, none⟩ (.slice none 0 0)).setCell ⟨w.heap.size + 1 + 1, 0, none⟩ (.int .i64 E)) (w.heap.size + 1) 67 (.slice none 0 0) ∧
    Boxed ((W.setCell ⟨w.heap.size + 1, 0, none⟩ (.slice none 0 0)).setCell ⟨w.heap.size + 1 + 1, 0, none⟩ (.int .i64 E)) (w.heap.size + 1 + 1) 28 (.int .i64 E) := by
  have h1 := Boxed.setOther (hr.set (.slice none 0 0)) (p := ⟨w.heap.size + 1 + 1, 0, none⟩) (by show w.heap.size + 1 ≠ w.heap.size + 1 + 1; omega) (.int .i64 E)
  have h2 := (Boxed.setOther he (p := ⟨w.heap.size + 1, 0, none⟩) (by show w.heap.size + 1 + 1 ≠ w.heap.size + 1; omega) (.slice none 0 0)).set (.int .i64 E)
  exact ⟨h1.cell, h2.cell, (hB.setCell (p := ⟨w.heap.size + 1, 0, none⟩) (by show w.heap.size ≤ w.heap.size + 1; omega) _).setCell (p := ⟨w.heap.size + 1 + 1, 0, none⟩) (by show w.heap.size ≤ w.heap.size + 1 + 1; omega) _, h1, h2⟩
set_option maxRecDepth 100000 in
set_option maxHeartbeats 8000000 in
theorem Changes_gen
    (A : Option Addr) (n c : Nat) (la : List It) (A' : Option Addr) (n' c' : Nat) (lb : List It) (w : World) (ha : BagR w w.heap.size A n la) (hb : BagR w w.heap.size A' n' lb) (hc : n ≤ c) (hc' : n' ≤ c')
    (T : Int) :
    CallsIn Fence.wide 4 Tryz.prog 162 #[.slice A n c, .slice A' n' c', .int .i64 T] w (RetChE w T (diffB (dat la) (dat lb) T)) := by
  obtain ⟨i0, hi, hz0, hz1, hz2⟩ := info_parts3 infoCh
  obtain ⟨p, hp⟩ : ∃ p, diffB (dat la) (dat lb) T = p := ⟨_, rfl⟩
  rw [hp]
  have HP := hide hp
  clear hp
  have hB0 : Below w.heap.size w (((w.alloc (.cells #[.int .i64 T] 3)).alloc (.cells #[.slice none 0 0] 67)).alloc (.cells #[.int .i64 0] 28)) := (((Below.refl _ _).alloc (Nat.le_refl _) _).alloc (by simp) _).alloc (by simp; omega) _
  have xt := ((Boxed.new w 3 (.int .i64 T)).alloc (.cells #[.slice none 0 0] 67)).alloc (.cells #[.int .i64 0] 28)
  have xr := (Boxed.new (w.alloc (.cells #[.int .i64 T] 3)) 67 (.slice none 0 0)).alloc (.cells #[.int .i64 0] 28)
  have xe := Boxed.new ((w.alloc (.cells #[.int .i64 T] 3)).alloc (.cells #[.slice none 0 0] 67)) 28 (.int .i64 0)
  rw [World.size_alloc] at xr xe
  rw [World.size_alloc] at xe
  refine callsIn_of_wp_marks Tryz.func162 rfl trivial ?_ rfl
  simp only [Tryz.ntmps162, List.size_toArray, List.length_cons, List.length_nil, Nat.reduceAdd, Nat.reduceSub, Array.replicate_succ, Array.replicate_zero, List.push_toArray, List.append_toArray, List.nil_append, List.cons_append]
  gi_wp2_with fail
  obtain ⟨W0, hW0⟩ : ∃ W0, ((w.alloc (.cells #[.int .i64 T] 3)).alloc (.cells #[.slice none 0 0] 67)).alloc (.cells #[.int .i64 0] 28) = W0 := ⟨_, rfl⟩
  rw [hW0] at hB0 xt xr xe ⊢
  clear hW0
  refine (callsIn_wide.2 (BagValid_any A n c _ la W0 (ha.below hB0))).mono ?_
  rintro e W1 ⟨rfl, hB1⟩
  have hB01 := bstep hB0 hB1
  have yt : Boxed W1 w.heap.size 3 (.int .i64 T) := (hB1.block _ xt.lt).trans xt
  have yr : Boxed W1 (w.heap.size + 1) 67 (.slice none 0 0) := (hB1.block _ xr.lt).trans xr
  have ye : Boxed W1 (w.heap.size + 1 + 1) 28 (.int .i64 0) := (hB1.block _ xe.lt).trans xe
  clear hB0 hB1 xt xr xe
  cases hva : okBag (dat la)
  · have HX := hide (show p = ([], 1) by rw [← HP.out]; unfold diffB; rw [hva]; rfl)
    have kr := yr.cell
    have fr := yr.frozen
    have ye2 := Boxed.setOther ye (p := ⟨w.heap.size + 1, 0, none⟩) (by show w.heap.size + 1 + 1 ≠ w.heap.size + 1; omega) (.slice none 0 0)
    have ke := ye2.cell
    have fe := ye2.frozen
    obtain ⟨e1, e2, e3, _, _⟩ := bad_end hB01 yr ye (1)
    have E1 := hide e1
    have E2 := hide e2
    have E3 := hide e3
    clear e1 e2 e3 ye2 ha hb
    gi_wp2
    refine ⟨_, res_two rfl rfl E1.out E2.out, ?_⟩
    rw [HX.out]
    exact ⟨none, 0, 0, [], rfl, ⟨rfl, nofun⟩, ChgR.nil _ _, E3.out⟩
  have HVA := hide hva
  clear hva
  gi_wp2_with fail
  refine (callsIn_wide.2 (BagValid_any A' n' c' _ lb W1 (hb.below hB01))).mono ?_
  rintro e W2 ⟨rfl, hB2⟩
  have hB02 := bstep hB01 hB2
  have zt : Boxed W2 w.heap.size 3 (.int .i64 T) := (hB2.block _ yt.lt).trans yt
  have zr : Boxed W2 (w.heap.size + 1) 67 (.slice none 0 0) := (hB2.block _ yr.lt).trans yr
  have ze : Boxed W2 (w.heap.size + 1 + 1) 28 (.int .i64 0) := (hB2.block _ ye.lt).trans ye
  clear hB01 hB2 yt yr ye
  cases hvb : okBag (dat lb)
  · have HX := hide (show p = ([], 1) by rw [← HP.out]; unfold diffB; rw [HVA.out, hvb]; rfl)
    have kr := zr.cell
    have fr := zr.frozen
    have ye2 := Boxed.setOther ze (p := ⟨w.heap.size + 1, 0, none⟩) (by show w.heap.size + 1 + 1 ≠ w.heap.size + 1; omega) (.slice none 0 0)
    have ke := ye2.cell
    have fe := ye2.frozen
    obtain ⟨e1, e2, e3, _, _⟩ := bad_end hB02 zr ze (1)
    have E1 := hide e1
    have E2 := hide e2
    have E3 := hide e3
    clear e1 e2 e3 ye2 ha hb
    gi_wp2
    refine ⟨_, res_two rfl rfl E1.out E2.out, ?_⟩
    rw [HX.out]
    exact ⟨none, 0, 0, [], rfl, ⟨rfl, nofun⟩, ChgR.nil _ _, E3.out⟩
  have HVB := hide hvb
  clear hvb
  have kt := zt.cell
  have lte := ze.lt
  gi_wp2_with fail
  refine (callsIn_wide.2 (bwithin_any T _ _ W2)).mono ?_
  rintro e w2' ⟨rfl, rfl⟩
  cases hT : btw T (-1000000000000) 1000000000000
  · have HX := hide (show p = ([], 7) by rw [← HP.out]; unfold diffB; rw [HVA.out, HVB.out, hT]; rfl)
    have kr := zr.cell
    have fr := zr.frozen
    have ye2 := Boxed.setOther ze (p := ⟨w.heap.size + 1, 0, none⟩) (by show w.heap.size + 1 + 1 ≠ w.heap.size + 1; omega) (.slice none 0 0)
    have ke := ye2.cell
    have fe := ye2.frozen
    obtain ⟨e1, e2, e3, _, _⟩ := bad_end hB02 zr ze (7)
    have E1 := hide e1
    have E2 := hide e2
    have E3 := hide e3
    clear e1 e2 e3 ye2 ha hb
    gi_wp2
    refine ⟨_, res_two rfl rfl E1.out E2.out, ?_⟩
    rw [HX.out]
    exact ⟨none, 0, 0, [], rfl, ⟨rfl, nofun⟩, ChgR.nil _ _, E3.out⟩
  have HT := hide hT
  have HQ := hide (show p = toldB (both (fun m k => k - m) (prs (dat la) (dat lb))) by rw [← HP.out]; unfold diffB; rw [HVA.out, HVB.out, hT]; rfl)
  clear hT
  gi_wp2_with fail
  refine (callsIn_wide.2 (pairs_any _ _ _ ⟨_, _, _, rfl⟩ ⟨_, _, _, rfl⟩)).mono ?_
  rintro e W3 ⟨rfl, hW3⟩
  obtain ⟨ob, hob⟩ : ∃ ob, W2.heap.size = ob := ⟨_, rfl⟩
  have k0 := ((Boxed.new W2 67 (.slice none 0 0)).alloc (.cells #[.slice A n c] 40)).alloc (.cells #[.slice A' n' c'] 40)
  have k1 := (Boxed.new (W2.alloc (.cells #[.slice none 0 0] 67)) 40 (.slice A n c)).alloc (.cells #[.slice A' n' c'] 40)
  have k2 := Boxed.new ((W2.alloc (.cells #[.slice none 0 0] 67)).alloc (.cells #[.slice A n c] 40)) 40 (.slice A' n' c')
  have hB23 : Below W2.heap.size W2 W3 := by rw [hW3]; exact (((Below.refl _ _).alloc (Nat.le_refl _) _).alloc (by simp) _).alloc (by simp; omega) _
  have hs3 : W3.heap.size = ob + 3 := by rw [hW3, ← hob]; simp
  rw [← hW3] at k0 k1 k2
  rw [World.size_alloc] at k1 k2
  rw [World.size_alloc] at k2
  rw [World.size_alloc, hob]
  rw [hob] at k0 k1 k2 hB23 lte
  clear hW3
  have hra : BagR W2 W2.heap.size A n la := (ha.below hB02).mono hB02.size
  have hrb : BagR W2 W2.heap.size A' n' lb := (hb.below hB02).mono hB02.size
  have hasc1 := okBag_asc HVA.out
  have hasc2 := okBag_asc HVB.out
  have HPR := hide (prs_ok _ _ hasc1.1 hasc2.1)
  have hlen : (prI la lb).length ≤ 800 := by
    have h1 := prI_len la lb
    have h2 := hasc1.2.2
    have h3 := hasc2.2.2
    rw [dat_len] at h2 h3
    omega
  have HBD := hide (show ∀ x ∈ prI la lb, (-1000000 ≤ x.m ∧ x.m ≤ 1000000) ∧ (-1000000 ≤ x.k ∧ x.k ≤ 1000000) ∧ x.n ≤ 1000 from pr_bound hasc1.1 hasc1.2.1 hasc2.1 hasc2.2.1 hra.rows hrb.rows)
  clear ha hb hasc1 hasc2
  have hN : W2.heap.size ≤ ob + 3 := by omega
  gi_wp2_with fail
  obtain ⟨f, hff⟩ : ∃ f : Int → Int → Int, f = fun m k => k - m := ⟨_, rfl⟩
  have HF := hide hff
  rw [← hff] at HQ
  have HMEM := hide (show ∀ x ∈ prI la lb, f x.m x.k ≠ 0 → (x.r, f x.m x.k) ∈ both f (prs (dat la) (dat lb)) from fun x hx h0 => (by
    rw [← prI_dat]; exact both_mem (t := datP x) (List.mem_map_of_mem hx) h0))
  clear hff
  refine wpIn_iter (n := 4) rfl (by omega) (gf := 241) (lb := #[.pointer (some ⟨ob + 1, 0, none⟩), .pointer (some ⟨ob + 1 + 1, 0, none⟩)]) rfl trivial (enters_of Tryz.func241 (by kernel_rfl) rfl) (encs := encPe) (xs := prI la lb) (Wr := WrQ (ob + 1) (ob + 1 + 1)) (Kp := Bar (ob + 3) [ob])
    (fun W hW l J Jx hJw _ hY h0 => pairs1_in 3 (by omega) l (ob + 3) [ob] W2 (ob + 1) (ob + 1 + 1) la lb J Jx W hJw hY hN (by omega) (by omega) (by omega) (by omega) (by omega) (by simp; omega) (by simp) (by simp; omega) A n c A' n' c' ((hW.block _ k1.lt).trans k1) ((hW.block _ k2.lt).trans k2) hra hrb hc hc' (by rw [hob]; exact hB23.trans (hW.mono (by omega))) h0)
    (fun _ => rfl) (fun X Y h => h.wr.oth) bar_t (bar_b (by omega))
    (fun pre W => (OutC f T w.heap.size ob pre W ∧ Below ob W2 W) ∧ ∀ y ∈ both f (pre.map datP), numB y.2 = true)
    (fun c pre W => (c = .ret ∧ ∃ y ∈ both f (prs (dat la) (dat lb)), numB y.2 = false) ∧ Boxed W (w.heap.size + 1) 67 (.slice none 0 0) ∧ Boxed W (w.heap.size + 1 + 1) 28 (.int .i64 4) ∧ Below w.heap.size w W)
    (OwnFrom.and (OwnFrom.and (outC_from (by omega)) (ownFrom_below (by omega) (by omega))) (ownFrom_pure _ _))
    (fun c pre X Y row h hg hr => ⟨h.1, blk_own h.2.1 hg (fun k e => (hr k e).2), blk_own h.2.2.1 hg (fun k e => (hr k e).2), h.2.2.2.grown hg h.2.2.2.size fun k e => by have := (hr k e).1; omega⟩)
    (fun s X Y h k => ⟨⟨h.1.1.wr k (by omega), h.1.2.trans (k.wr.bar.below (by have := h.1.2.size; omega) (by simp; omega))⟩, h.2⟩)
    (fun c s X Y h k => ⟨h.1, (k.wr.bar.block _ h.2.1.lt (by simp; omega)).trans h.2.1, (k.wr.bar.block _ h.2.2.1.lt (by simp; omega)).trans h.2.2.1, h.2.2.2.trans (k.wr.bar.below (by have := h.2.2.2.size; omega) (by simp; omega))⟩)
    ⟨⟨⟨⟨_, [], k0, World.ownsRow_nil _ _ _ _, ⟨rfl, by intro i hi; cases hi⟩, by intro i hi; cases hi⟩, ⟨_, k1⟩, ⟨_, k2⟩⟩, hB23⟩, by intro y hy; cases hy⟩
    (fun pre x a' W => ∃ nb, ob + 3 ≤ nb ∧ Blk W nb 233 #[.int .i64 x.m, .int .i64 x.k] ∧ a' = { tmps := #[.slice A n c, .slice A' n' c', .int .i64 T, undef, undef, .pointer (some ⟨w.heap.size, 0, none⟩), .pointer (some ⟨w.heap.size + 1, 0, none⟩), .pointer (some ⟨w.heap.size + 1 + 1, 0, none⟩), .pointer (some ⟨ob, 0, none⟩), .slice x.A x.n x.c, .pointer (some ⟨nb, 0, none⟩), undef, .bool false, .slice A n c, .bool true, .bool false, .bool false, .slice A' n' c', .bool true, .bool false, .bool false, .bool false, .int .i64 T, .bool true, .bool false, .slice A n c, .slice A' n' c', .func (Fn.func 241) #[] #[.pointer (some ⟨ob + 1, 0, none⟩), .pointer (some ⟨ob + 1 + 1, 0, none⟩)], .slice x.A x.n x.c, .agg #[.int .i64 x.m, .int .i64 x.k], undef, undef, undef, undef, undef, undef, undef, undef, undef, undef, undef, undef, undef, undef, undef, undef, undef, undef, undef, undef, undef, undef], defers := [] })
    (fun pre x a' _ X Y row hs hg hr => by
      obtain ⟨nb, h1, h2, h3⟩ := hs
      exact ⟨nb, h1, blk_own h2 hg (fun r e => (hr r e).2), h3⟩)
    ?assign ?body ?done ?stop
  case assign =>
    rintro l pre x W K hpx ⟨⟨hI, hBW⟩, hAll⟩ hK
    have hWs : ob + 3 ≤ W.heap.size := by have := hI.lt; omega
    dsimp only [encPe]
    gi_wp2
    refine hK _ _ ((KeepsOthers.alloc _ _).from _) ((Bar.refl _ _ _).alloc hWs _) ⟨⟨hI.below (below_val _ _), hBW.alloc (by omega) _⟩, hAll⟩ ⟨W.heap.size, hWs, Blk.new W _ _, rfl⟩
  case body =>
    rintro l pre x a' W hpx ⟨⟨hI, hBW⟩, hAll⟩ ⟨nb, hnb, hbn, rfl⟩
    have HALL := hide hAll
    clear hAll
    have hxt : Boxed W w.heap.size 3 (.int .i64 T) := (hBW.block w.heap.size (by omega)).trans zt
    have hBwW : Below w.heap.size w W := hB02.trans (hBW.mono (by omega))
    have m0 := hbn.cell 0
    have m1 := hbn.cell 1
    simp at m0 m1
    have hxin : x ∈ prI la lb := hpx.subset (by simp)
    obtain ⟨⟨bm1, bm2⟩, ⟨bk1, bk2⟩, bn⟩ := HBD.out x hxin
    have hmem := HMEM.out x hxin
    have HSN := hide (both_snoc f (pre.map datP) (datP x))
    have hfx : f x.m x.k = x.k - x.m := by rw [HF.out]
    have hwr : IntKind.i64.wrap (x.k - x.m) = x.k - x.m := by rw [IntKind.wrap_i64]; omega
    obtain ⟨fv, hfv⟩ : ∃ fv, x.k - x.m = fv := ⟨_, rfl⟩
    rw [hfx, hfv] at hmem
    have HFV := hide (hfx.trans hfv)
    by_cases h0 : fv = 0
    · have n1 : (x.k - x.m == 0) = true := by rw [hfv]; simpa using h0
      have HE := hide (show both f ((pre ++ [x]).map datP) = both f (pre.map datP) from by
        rw [List.map_append, List.map_cons, List.map_nil, HSN.out]
        show _ ++ (if f x.m x.k = 0 then [] else _) = _
        rw [HFV.out, if_pos h0, List.append_nil])
      clear h0 hfv hmem hfx
      gi_wp2
      obtain ⟨⟨v, l', i1, i2, ⟨i3, i3'⟩, i4⟩, i5, i6⟩ := hI
      exact ⟨KeepsFrom.refl _ _, Bar.refl _ _ _, ⟨⟨⟨v, l', i1, i2, ⟨by rw [HE.out]; exact i3, i3'⟩, i4⟩, i5, i6⟩, hBW⟩, by rw [HE.out]; exact HALL.out⟩
    · have n1 : (x.k - x.m == 0) = false := by rw [hfv]; simpa using h0
      have HE := hide (show both f ((pre ++ [x]).map datP) = both f (pre.map datP) ++ [(x.r, fv)] from by
        rw [List.map_append, List.map_cons, List.map_nil, HSN.out]
        show _ ++ (if f x.m x.k = 0 then [] else [(x.r, f x.m x.k)]) = _
        rw [HFV.out, if_neg h0])
      have HMB := hide (hmem h0)
      have HV2 := hide hfv
      clear h0 hfx hmem hfv
      gi_wp2_with fail
      rw [HV2.out]
      refine ((callsIn_wide.2 (number_any fv W)).inRound l).mono ?_
      rintro e w' ⟨rfl, rfl⟩
      cases hnu : numB fv
      · have HBAD := hide (show ∃ y ∈ both f (prs (dat la) (dat lb)), numB y.2 = false from ⟨_, HMB.out, hnu⟩)
        have yr : Boxed W (w.heap.size + 1) 67 (.slice none 0 0) := (hBW.block _ (by omega)).trans zr
        have ye : Boxed W (w.heap.size + 1 + 1) 28 (.int .i64 0) := (hBW.block _ (by omega)).trans ze
        have kr := yr.cell
        have fr := yr.frozen
        have ye2 := Boxed.setOther ye (p := ⟨w.heap.size + 1, 0, none⟩) (by show w.heap.size + 1 + 1 ≠ w.heap.size + 1; omega) (.slice none 0 0)
        have ke := ye2.cell
        have fe := ye2.frozen
        obtain ⟨_, _, e3, e4, e5⟩ := bad_end hBwW yr ye 4
        have E3 := hide e3
        have E4 := hide e4
        have E5 := hide e5
        clear e3 e4 e5 ye2 hnu hBwW hBW hbn m0 m1 hI
        gi_wp2
        exact ⟨((KeepsOthers.setCell _ _ _).trans (KeepsOthers.setCell _ _ _)).from _, ⟨rfl, HBAD.out⟩, E4.out, E5.out, E3.out⟩
      have HNU := hide hnu
      clear hnu
      have HAL2 := hide (show ∀ y ∈ both f ((pre ++ [x]).map datP), numB y.2 = true by
        rw [HE.out]
        intro y hy
        rcases List.mem_append.1 hy with h | h
        · exact HALL.out y h
        · obtain rfl : y = (x.r, fv) := by simpa using h
          exact HNU.out)
      gi_wp2_with fail
      obtain ⟨⟨v, l', i1, i2, ⟨i3, i3'⟩, i4⟩, ⟨va, i5⟩, ⟨vb, i6⟩⟩ := hI
      have hrx := prI_row la lb hra.rows hrb.rows x hxin
      have hWs : ob + 3 ≤ W.heap.size := by have := i6.lt; have := hBW.size; omega
      refine Held.beginR (fun y => y.cell? ⟨ob, 0, none⟩ = some v ∧ y.cell? ⟨w.heap.size, 0, none⟩ = some (.int .i64 T)) 8 (by kernel_rfl) (by kernel_rfl) (by rintro ⟨_, _, h⟩; exact h) ?_
      have j1 : Boxed W.drew ob 67 v := i1
      have jt : Boxed W.drew w.heap.size 3 (.int .i64 T) := hxt
      have j2 : W.drew.ownsRow (ob + 3) 57 3 v l'.length (l'.flatMap encCh) := i2.drew
      have j4 : RowsC W.drew w.heap.size l' := fun i hi => (i4 i hi).below ((Below.refl _ _).drew)
      have j5 : Boxed W.drew (ob + 1) 40 va := i5
      have j6 : Boxed W.drew (ob + 1 + 1) 40 vb := i6
      have jB : Below ob W2 W.drew := hBW.drew
      have jK : KeepsOthers W W.drew := KeepsOthers.drew W
      have jR : Bar (ob + 3) [ob] W W.drew := (Bar.refl _ _ W).drew
      have jx : RowK W.drew W2.heap.size x.A x.n x.r := hrx.below (by rw [hob]; exact jB)
      have hWs' : ob + 3 ≤ W.drew.heap.size := hWs
      obtain ⟨X1, hX1⟩ : ∃ X1, W.drew = X1 := ⟨_, rfl⟩
      rw [hX1] at j1 jt j2 j4 j5 j6 jB jK jR jx hWs' ⊢
      clear hX1 i1 i2 i4 i5 i6 hBW hbn m0 m1 hBwW hxt
      have hS := And.intro j1.cell jt.cell
      refine Held.take (i := 0) (v) rfl hS (by kernel_rfl) (by kernel_rfl) (by kernel_rfl) (by kernel_rfl) (fun _ _ _ h => h) rfl (fun y hy => by obtain ⟨y1, y2⟩ := hy; go_simp) ?_
      try simp only [Act.put]
      refine Held.take (i := 1) (.int .i64 T) rfl hS (by kernel_rfl) (by kernel_rfl) (by kernel_rfl) (by kernel_rfl) (fun _ _ _ h => h) rfl (fun y hy => by obtain ⟨y1, y2⟩ := hy; go_simp) ?_
      try simp only [Act.put]
      refine Held.take (i := 2) (.slice x.A x.n x.c) rfl hS (by kernel_rfl) (by kernel_rfl) (by kernel_rfl) (by kernel_rfl) (fun _ _ _ h => h) rfl (fun y hy => by obtain ⟨y1, y2⟩ := hy; go_simp) ?_
      try simp only [Act.put]
      refine Held.take (i := 4) (.int .i64 fv) rfl hS (by kernel_rfl) (by kernel_rfl) (by kernel_rfl) (by kernel_rfl) (fun _ _ _ h => h) rfl (fun y hy => by obtain ⟨y1, y2⟩ := hy; go_simp) ?_
      try simp only [Act.put]
      refine Held.one (i := 3) rfl (by kernel_rfl) rfl (fun K hK => ?_)
      unfold Oper.wp
      go_simp
      refine (Clone_any x.A x.n x.c _ w.heap.size x.r X1 jx bn).mono ?_
      rintro e X2 ⟨Ac, cc, rfl, hrow, hB2⟩
      have l1 : Boxed X2 ob 67 v := (hB2.block ob j1.lt).trans j1
      have lt : Boxed X2 w.heap.size 3 (.int .i64 T) := (hB2.block _ jt.lt).trans jt
      have l2 := own_below j2 hB2
      have l4 : RowsC X2 w.heap.size l' := fun i hi => (j4 i hi).below hB2
      have l5 : Boxed X2 (ob + 1) 40 va := (hB2.block _ j5.lt).trans j5
      have l6 : Boxed X2 (ob + 1 + 1) 40 vb := (hB2.block _ j6.lt).trans j6
      have lB := jB.trans (hB2.mono (by omega))
      have lK := jK.trans (KeepsOthers.mk hB2.size fun k o hk _ => by rw [← hk]; exact hB2.block k (Array.getElem?_eq_some_iff.1 hk).1)
      have lR := jR.trans (Bar.of_below (hB2.mono hWs') [ob])
      have hWs2 : ob + 3 ≤ X2.heap.size := Nat.le_trans hWs' hB2.size
      refine hK _ _ (fun _ => ⟨l1.cell, lt.cell⟩) ?_
      try simp only [Act.put]
      clear hK K hS j1 jt j2 j4 j5 j6 jB jK jR jx hB2
      have hS := And.intro l1.cell lt.cell
      refine Held.take (i := 5) (.agg #[.int .i64 T, .slice Ac x.n cc, .int .i64 fv]) rfl hS (by kernel_rfl) (by kernel_rfl) (by kernel_rfl) (by kernel_rfl) (fun _ _ _ h => h) rfl (fun y hy => by obtain ⟨y1, y2⟩ := hy; go_simp) ?_
      try simp only [Act.put]
      refine Held.one (i := 6) rfl (by kernel_rfl) rfl (fun K hK => ?_)
      have hS4 : (X2.alloc (.cells #[.int .i64 T, .slice Ac x.n cc, .int .i64 fv] 57)).cell? ⟨ob, 0, none⟩ = some v ∧ (X2.alloc (.cells #[.int .i64 T, .slice Ac x.n cc, .int .i64 fv] 57)).cell? ⟨w.heap.size, 0, none⟩ = some (.int .i64 T) :=
        ⟨(World.cell?_alloc_lt X2 _ ⟨ob, 0, none⟩ (by show ob < _; omega)).trans hS.1, (World.cell?_alloc_lt X2 _ ⟨w.heap.size, 0, none⟩ lt.lt).trans hS.2⟩
      have HS4 := hide hS4
      clear hS4
      unfold Oper.wp
      go_simp
      refine hK _ _ (fun _ => HS4.out) ?_
      try simp only [Act.put]
      clear hK K
      refine Held.one (i := 7) rfl (by kernel_rfl) rfl (fun K hK => ?_)
      have hrd : Reads (X2.alloc (.cells #[.int .i64 T, .slice Ac x.n cc, .int .i64 fv] 57)) (X2.heap.size + 1) 3 (some ⟨X2.heap.size, 0, none⟩) 1 [.int .i64 T, .slice Ac x.n cc, .int .i64 fv] :=
        ⟨rfl, fun _ => ⟨X2.heap.size, 0, rfl, by omega, fun j u hu => by
          have := (Blk.new X2 57 #[.int .i64 T, .slice Ac x.n cc, .int .i64 fv]).cell j
          rw [Nat.zero_add, this]; simpa using hu⟩⟩
      have hll : l'.length ≤ 800 := by
        have h1 := both_len f (pre.map datP)
        rw [← i3, List.length_map, List.length_map] at h1
        have h2 := hpx.length_le
        rw [List.length_append] at h2
        omega
      refine wp_append_any _ _ _ 67 rfl (ob + 3) 57 i0 _ 3 40 Tryz.underlying67 hi hz0 hz1 hz2 rfl (by decide) v l'.length _ rfl (l2.alloc _) (X2.heap.size + 1) (some ⟨X2.heap.size, 0, none⟩) 1 1 [.int .i64 T, .slice Ac x.n cc, .int .i64 fv] rfl hrd (by simp [Value.oneCell']) (by unfold maxLen; omega) (by omega) (by simp; omega) ?_
      intro v' X3 hown1 hgrow _
      obtain ⟨gr, capr, hvr⟩ := ownsRow_succ hown1
      subst hvr
      obtain ⟨o1, o2, o3, o4, o5⟩ := Boxed.collected l1 l2 hWs2 (by omega) hown1 hgrow
      have nrow : ∀ i : Ch, RowK X2 w.heap.size i.A i.n i.r → RowK (X3.setCell ⟨ob, 0, none⟩ (.slice (some ⟨gr, 0, none⟩) (l'.length + 1) capr)) w.heap.size i.A i.n i.r := fun i h =>
        ((h.alloc _).grown (l2.alloc _) (by decide) (by omega) hgrow).setCell (p := ⟨ob, 0, none⟩) o1 (by decide) (by show w.heap.size ≤ ob; omega) _
      have ot : X3.cell? ⟨w.heap.size, 0, none⟩ = some (.int .i64 T) := by
        have hne : some w.heap.size ≠ v.ownBlock := fun e => by have := (l2.lt _ e.symm).1; omega
        have h1 : Boxed X3 w.heap.size 3 (.int .i64 T) := (lt.alloc _).kept hgrow hne
        exact h1.cell
      refine hK _ _ (fun _ => ⟨o1.cell, ot⟩) ?_
      try simp only [Act.put]
      have fo := o1.frozen
      have ko := o1.cell
      clear hK K hS HS4 hrd
      refine Held.one (i := 8) rfl (by kernel_rfl) rfl (fun K hK => ?_)
      unfold Oper.wp
      go_simp
      refine hK _ _ (fun h => absurd rfl h) ?_
      try simp only [Act.put]
      clear hK K
      refine Held.done (by kernel_rfl) ?_
      have HFIN := hide (show KeepsFrom W3.heap.size W (X3.setCell ⟨ob, 0, none⟩ (.slice (some ⟨gr, 0, none⟩) (l'.length + 1) capr)) ∧ Bar (ob + 3) [ob] W (X3.setCell ⟨ob, 0, none⟩ (.slice (some ⟨gr, 0, none⟩) (l'.length + 1) capr)) ∧ (OutC f T w.heap.size ob (pre ++ [x]) (X3.setCell ⟨ob, 0, none⟩ (.slice (some ⟨gr, 0, none⟩) (l'.length + 1) capr)) ∧ Below ob W2 (X3.setCell ⟨ob, 0, none⟩ (.slice (some ⟨gr, 0, none⟩) (l'.length + 1) capr))) ∧ ∀ y ∈ both f ((pre ++ [x]).map datP), numB y.2 = true from by
        refine ⟨(lK.trans o4).from _, lR.trans o5, ⟨⟨⟨_, l' ++ [⟨T, Ac, x.n, cc, x.r, fv⟩], o2, ?_, ⟨?_, ?_⟩, ?_⟩, ⟨va, o5.boxed l5 (by omega) (by simp)⟩, ⟨vb, o5.boxed l6 (by omega) (by simp; omega)⟩⟩, lB.trans (o5.below (by omega) (by simp))⟩, HAL2.out⟩
        · rw [List.flatMap_append, List.length_append]
          exact o3
        · rw [List.map_append, i3, HE.out]; rfl
        · intro i hi
          rcases List.mem_append.1 hi with hi | hi
          · exact i3' i hi
          · obtain rfl : i = ⟨T, Ac, x.n, cc, x.r, fv⟩ := by simpa using hi
            rfl
        · intro i hi
          rcases List.mem_append.1 hi with hi | hi
          · exact nrow i (l4 i hi)
          · obtain rfl : i = ⟨T, Ac, x.n, cc, x.r, fv⟩ := by simpa using hi
            exact nrow _ hrow)
      clear o1 o2 o3 o4 o5 nrow fo ko ot hown1 hgrow l1 lt l2 l4 l5 l6 lB lK lR hrow
      gi_wp2
      exact HFIN.out
  case done =>
    rintro D W hD ⟨⟨⟨⟨v, l, i1, i2, ⟨i3, i3'⟩, i4⟩, i5, ⟨vb, i6⟩⟩, hBW⟩, hAll⟩ hK
    have kv := i1.cell
    obtain ⟨Ao, co, rfl, hro⟩ := own_form i2
    have hBwW : Below w.heap.size w W := hB02.trans (hBW.mono (by omega))
    have hDl := (Array.getElem?_eq_some_iff.1 hK).1
    rw [prI_dat] at i3 hAll
    have HLD := hide (show l.length = (both f (prs (dat la) (dat lb))).length by rw [← i3, List.length_map])
    have hll8 : l.length ≤ 800 := by
      have h1 := both_len f (prs (dat la) (dat lb))
      rw [← HLD.out, ← prI_dat, List.length_map] at h1
      omega
    have yr : Boxed W (w.heap.size + 1) 67 (.slice none 0 0) := (hBW.block _ (by omega)).trans zr
    have ye : Boxed W (w.heap.size + 1 + 1) 28 (.int .i64 0) := (hBW.block _ (by omega)).trans ze
    by_cases hl4 : l.length ≤ 400
    case neg =>
      have HX := hide (show p = ([], 4) by rw [HQ.out]; unfold toldB; rw [okBag_long (by have := HLD.out; omega)]; rfl)
      have kr := yr.cell
      have fr := yr.frozen
      have ye2 := Boxed.setOther ye (p := ⟨w.heap.size + 1, 0, none⟩) (by show w.heap.size + 1 + 1 ≠ w.heap.size + 1; omega) (.slice none 0 0)
      have ke := ye2.cell
      have fe := ye2.frozen
      obtain ⟨_, _, e3, e4, e5⟩ := bad_end hBwW yr ye 4
      have hKF : ((W.setCell ⟨w.heap.size + 1, 0, none⟩ (.slice none 0 0)).setCell ⟨w.heap.size + 1 + 1, 0, none⟩ (.int .i64 4)).heap[D]? = some (.deferred (some [])) :=
        (Below.heap_setCell _ _ _ D (by show D ≠ w.heap.size + 1 + 1; omega)).trans ((Below.heap_setCell _ _ _ D (by show D ≠ w.heap.size + 1; omega)).trans hK)
      obtain ⟨WF, hWF⟩ : ∃ WF, (W.setCell ⟨w.heap.size + 1, 0, none⟩ (.slice none 0 0)).setCell ⟨w.heap.size + 1 + 1, 0, none⟩ (.int .i64 4) = WF := ⟨_, rfl⟩
      have HWF := hide hWF
      rw [hWF] at e3 e4 e5 hKF
      have C1 := hide (show (WF.putObj D (.deferred none)).cell? ⟨w.heap.size + 1, 0, none⟩ = some (.slice none 0 0) from by
        rw [World.cell?_of_block (w := WF) (a := ⟨w.heap.size + 1, 0, none⟩) (World.putObj_heap_other (by show w.heap.size + 1 ≠ D; omega))]; exact e4.cell)
      have C2 := hide (show (WF.putObj D (.deferred none)).cell? ⟨w.heap.size + 1 + 1, 0, none⟩ = some (.int .i64 4) from by
        rw [World.cell?_of_block (w := WF) (a := ⟨w.heap.size + 1 + 1, 0, none⟩) (World.putObj_heap_other (by show w.heap.size + 1 + 1 ≠ D; omega))]; exact e5.cell)
      have HB := hide (e3.grown (grownBy_putObj' WF D (.deferred none)) e3.size (fun k e => by cases e; have := hB02.size; omega))
      have KF := hide hKF
      have q4 : (400 : Int) < (l.length : Int) := by omega
      clear hWF hKF e3 e4 e5 ye2 i2 i4 i5 i6 hro
      gi_wp2
      rw [HWF.out]
      refine ⟨by simp, .inl ⟨_, _, rfl, run_takeDeferred KF.out, ?_⟩⟩
      refine ⟨_, res_two rfl rfl C1.out C2.out, ?_⟩
      rw [HX.out]
      exact ⟨none, 0, 0, [], rfl, ⟨rfl, nofun⟩, ChgR.nil _ _, HB.out⟩
    have HX := hide (show p = (both f (prs (dat la) (dat lb)), 0) by
      rw [HQ.out]
      unfold toldB
      rw [okBag_of (by rw [HF.out]; exact diff_asc HVA.out HVB.out) hAll (by have := HLD.out; omega)]
      rfl)
    have kr := yr.cell
    have fr := yr.frozen
    have ye2 := Boxed.setOther ye (p := ⟨w.heap.size + 1, 0, none⟩) (by show w.heap.size + 1 + 1 ≠ w.heap.size + 1; omega) (.slice Ao l.length co)
    have ke := ye2.cell
    have fe := ye2.frozen
    have yr2 := yr.set (.slice Ao l.length co)
    have yr3 := Boxed.setOther yr2 (p := ⟨w.heap.size + 1 + 1, 0, none⟩) (by show w.heap.size + 1 ≠ w.heap.size + 1 + 1; omega) (.int .i64 0)
    have ye3 := ye2.set (.int .i64 0)
    have hKF : ((W.setCell ⟨w.heap.size + 1, 0, none⟩ (.slice Ao l.length co)).setCell ⟨w.heap.size + 1 + 1, 0, none⟩ (.int .i64 0)).heap[D]? = some (.deferred (some [])) :=
      (Below.heap_setCell _ _ _ D (by show D ≠ w.heap.size + 1 + 1; omega)).trans ((Below.heap_setCell _ _ _ D (by show D ≠ w.heap.size + 1; omega)).trans hK)
    have hBF : Below w.heap.size w ((W.setCell ⟨w.heap.size + 1, 0, none⟩ (.slice Ao l.length co)).setCell ⟨w.heap.size + 1 + 1, 0, none⟩ (.int .i64 0)) := (hBwW.setCell (p := ⟨w.heap.size + 1, 0, none⟩) (by show w.heap.size ≤ w.heap.size + 1; omega) _).setCell (p := ⟨w.heap.size + 1 + 1, 0, none⟩) (by show w.heap.size ≤ w.heap.size + 1 + 1; omega) _
    have hoF := ownsRow_setCell_below (ownsRow_setCell_below i2 (a := ⟨w.heap.size + 1, 0, none⟩) (by show w.heap.size + 1 < ob + 3; omega) (.slice Ao l.length co)) (a := ⟨w.heap.size + 1 + 1, 0, none⟩) (by show w.heap.size + 1 + 1 < ob + 3; omega) (.int .i64 0)
    have hrF : ∀ i ∈ l, RowK ((W.setCell ⟨w.heap.size + 1, 0, none⟩ (.slice Ao l.length co)).setCell ⟨w.heap.size + 1 + 1, 0, none⟩ (.int .i64 0)) w.heap.size i.A i.n i.r := fun i hi =>
      ((RowK.setCell (i4 i hi) (p := ⟨w.heap.size + 1, 0, none⟩) yr (by decide) (by show w.heap.size ≤ w.heap.size + 1; omega) _).setCell (p := ⟨w.heap.size + 1 + 1, 0, none⟩) ye2 (by decide) (by show w.heap.size ≤ w.heap.size + 1 + 1; omega) _)
    obtain ⟨WF, hWF⟩ : ∃ WF, (W.setCell ⟨w.heap.size + 1, 0, none⟩ (.slice Ao l.length co)).setCell ⟨w.heap.size + 1 + 1, 0, none⟩ (.int .i64 0) = WF := ⟨_, rfl⟩
    have HWF := hide hWF
    rw [hWF] at yr3 ye3 hKF hBF hoF hrF
    have HEND := hide (show RetChE w T (both f (prs (dat la) (dat lb)), 0) (.returned (.tuple #[.slice Ao l.length co, .int .i64 0])) (WF.putObj D (.deferred none)) from by
      have hgp := grownBy_putObj' WF D (.deferred none)
      refine ⟨Ao, _, co, l, rfl, ⟨i3, i3'⟩, ⟨Reads.of_own (ownsRow_putObj hoF _ hKF rfl), fun i hi => (hrF i hi).keepCells (putObj_cells hKF rfl) (by simp [World.putObj]) (by have := hBF.size; simp [World.putObj]; omega), by omega⟩, hBF.grown hgp hBF.size (fun k e => by cases e; have := hB02.size; omega)⟩)
    have c1 : (WF.putObj D (.deferred none)).cell? ⟨w.heap.size + 1, 0, none⟩ = some (.slice Ao l.length co) := by
      rw [World.cell?_of_block (w := WF) (a := ⟨w.heap.size + 1, 0, none⟩) (World.putObj_heap_other (by show w.heap.size + 1 ≠ D; omega))]; exact yr3.cell
    have c2 : (WF.putObj D (.deferred none)).cell? ⟨w.heap.size + 1 + 1, 0, none⟩ = some (.int .i64 0) := by
      rw [World.cell?_of_block (w := WF) (a := ⟨w.heap.size + 1 + 1, 0, none⟩) (World.putObj_heap_other (by show w.heap.size + 1 + 1 ≠ D; omega))]; exact ye3.cell
    have q4 : ¬ (400 : Int) < (l.length : Int) := by omega
    have C1 := hide c1
    have C2 := hide c2
    have KF := hide hKF
    clear hWF c1 c2 hKF yr3 ye3 hBF hoF hrF i2 i4 i5 i6 hro
    gi_wp2
    rw [HWF.out]
    refine ⟨by simp, .inl ⟨_, _, rfl, run_takeDeferred KF.out, ?_⟩⟩
    refine ⟨_, res_two rfl rfl C1.out C2.out, ?_⟩
    rw [HX.out]
    exact HEND.out
  case stop =>
    rintro D c pre W hD _ ⟨⟨rfl, y, hy1, hy2⟩, e4, e5, e3⟩ hK
    have HX := hide (show p = ([], 4) by rw [HQ.out]; unfold toldB; rw [okBag_bad hy1 hy2]; rfl)
    have C1 := hide (show (W.putObj D (.deferred none)).cell? ⟨w.heap.size + 1, 0, none⟩ = some (.slice none 0 0) from by
      rw [World.cell?_of_block (w := W) (a := ⟨w.heap.size + 1, 0, none⟩) (World.putObj_heap_other (by show w.heap.size + 1 ≠ D; omega))]; exact e4.cell)
    have C2 := hide (show (W.putObj D (.deferred none)).cell? ⟨w.heap.size + 1 + 1, 0, none⟩ = some (.int .i64 4) from by
      rw [World.cell?_of_block (w := W) (a := ⟨w.heap.size + 1 + 1, 0, none⟩) (World.putObj_heap_other (by show w.heap.size + 1 + 1 ≠ D; omega))]; exact e5.cell)
    have HB := hide (e3.grown (grownBy_putObj' W D (.deferred none)) e3.size (fun k e => by cases e; have := hB02.size; omega))
    clear e3 e4 e5 hy1 hy2
    gi_wp2
    refine ⟨by simp, .inl ⟨_, _, rfl, run_takeDeferred hK, ?_⟩⟩
    refine ⟨_, res_two rfl rfl C1.out C2.out, ?_⟩
    rw [HX.out]
    exact ⟨none, 0, 0, [], rfl, ⟨rfl, nofun⟩, ChgR.nil _ _, HB.out⟩
end

section
open Go.RowKit
attribute [local go_sem] Oper.semAt_some
set_option linter.unusedVariables false
set_option linter.unusedSimpArgs false

/-- What is written so far. -/
structure MadI (w : World) (T : Int) (d : Bg) (v : Value) (W : World) : Prop where
  bel : Below w.heap.size w W
  ow : ∃ l : List Ch, W.ownsRow w.heap.size 57 3 v l.length (l.flatMap encCh) ∧ chD l = d ∧ (∀ i ∈ l, i.t = T) ∧ RowsC W w.heap.size l
theorem MadI.below {w W W' : World} {T : Int} {d : Bg} {v : Value} (h : MadI w T d v W) (hb : Below W.heap.size W W') : MadI w T d v W' := by
  obtain ⟨h1, l, h2, h3, h4, h5⟩ := h
  exact ⟨bstep h1 hb, l, own_below h2 hb, h3, h4, fun i hi => (h5 i hi).below hb⟩
theorem madi_app {w X2 X3 : World} {T : Int} {d : Bg} {v v' : Value} {l : List Ch} {Ac : Option Addr} {n cc : Nat} {r : Rw} {m : Int} (hB : Below w.heap.size w X2) (h1 : X2.ownsRow w.heap.size 57 3 v l.length (l.flatMap encCh)) (h2 : chD l = d) (ht : ∀ i ∈ l, i.t = T) (h3 : RowsC X2 w.heap.size l)
    (hrow : RowK X2 w.heap.size Ac n r) (hown : X3.ownsRow w.heap.size 57 3 v' (l.length + 1) (l.flatMap encCh ++ [.int .i64 T, .slice Ac n cc, .int .i64 m])) (hgrow : (X2.alloc (.cells #[.int .i64 T, .slice Ac n cc, .int .i64 m] 57)).grownBy X3 v.ownBlock) : MadI w T (d ++ [(r, m)]) v' X3 := by
  have hs := hB.size
  refine ⟨below_append (hB.alloc hs _) (h1.alloc _) (by simp; omega) hgrow, l ++ [⟨T, Ac, n, cc, r, m⟩], ?_, by rw [chD_snoc, h2], fun i hi => ?_, fun i hi => ?_⟩
  · rw [List.length_append, List.flatMap_append]
    simpa [encCh] using hown
  · rcases List.mem_append.1 hi with h | h
    · exact ht i h
    · obtain rfl : i = ⟨T, Ac, n, cc, r, m⟩ := by simpa using h
      rfl
  · have key : RowK X2 w.heap.size i.A i.n i.r := by
      rcases List.mem_append.1 hi with h | h
      · exact h3 i h
      · obtain rfl : i = ⟨T, Ac, n, cc, r, m⟩ := by simpa using h
        exact hrow
    exact (key.alloc _).grown (h1.alloc _) (by decide) (Nat.le_refl _) hgrow
/-- Changes, handed back. -/
def RetM (w : World) (T : Int) (d : Bg) (e : Ending) (w' : World) : Prop := ∃ A n c l, e = .returned (.slice A n c) ∧ (chD l = d ∧ ∀ i ∈ l, i.t = T) ∧ ChgR w' w'.heap.size A n l ∧ Below w.heap.size w w'
/-- .. in a row of the call's own. -/
def RetMO (w : World) (T : Int) (d : Bg) (e : Ending) (w' : World) : Prop := ∃ A n c l, e = .returned (.slice A n c) ∧ (chD l = d ∧ ∀ i ∈ l, i.t = T) ∧ w'.ownsRow w.heap.size 57 3 (.slice A n c) n (l.flatMap encCh) ∧ RowsC w' w.heap.size l ∧ n ≤ 100000 ∧ Below w.heap.size w w'
theorem madi_own {w W : World} {T : Int} {d : Bg} {v : Value} (h : MadI w T d v W) (hd : d.length ≤ 100000) : ∃ A n c l, v = .slice A n c ∧ (chD l = d ∧ ∀ i ∈ l, i.t = T) ∧ W.ownsRow w.heap.size 57 3 (.slice A n c) n (l.flatMap encCh) ∧ RowsC W w.heap.size l ∧ n ≤ 100000 ∧ Below w.heap.size w W := by
  obtain ⟨h1, l, h2, h3, h4, h5⟩ := h
  have hl : l.length = d.length := by rw [← h3, chD_len]
  obtain ⟨A, c, rfl, _⟩ := own_form h2
  exact ⟨A, _, c, l, rfl, ⟨h3, h4⟩, h2, h5, by omega, h1⟩
set_option maxRecDepth 100000 in
set_option maxHeartbeats 2000000 in
theorem RMadeO_any (A : Option Addr) (n c : Nat) (la : List It) (T : Int) (w : World) (hb : BagR w w.heap.size A n la) (ho : okBag (dat la) = true) :
    Calls Tryz.prog 163 #[.slice A n c, .int .i64 T] w (RetMO w T (dat la)) := by
  obtain ⟨i0, hi, hz0, hz1, hz2⟩ := info_parts3 infoCh
  have HL := hide hb.len
  have hn4 : n ≤ 400 := by have := (okBag_asc ho).2.2; rw [dat_len, hb.len] at this; exact this
  have HO := hide ho
  clear ho
  go_enter Tryz.func163, Tryz.ntmps163
  go_wp2_with fail
  go_loopw [5, 6] (fun v i wr => ∃ (k : Nat) (v' : Value), k ≤ n ∧ i = .int .i64 k ∧ v' = v ∧ MadI w T ((dat la).take k) v' wr) (fun _ i _ => n - (intOf i).toNat)
  case atStart => exact ⟨0, _, Nat.zero_le _, rfl, rfl, Below.refl _ _, [], World.ownsRow_nil _ _ _ _, rfl, nofun, nofun⟩
  case round =>
    obtain ⟨k, v, hk, rfl, rfl, hI⟩ := hrel
    by_cases hlt : k < n
    · obtain ⟨b, off, y0, rfl, hbl, hyk, c0', c1', hy⟩ := hb.at_ hlt
      have hyd := dat_at hyk
      have hmem := List.mem_of_getElem? hyd
      have hyr := (okBag_asc HO.out).1.ok _ hmem
      have hyn : y0.n ≤ 1000 := by
        have h1 := okR_len hyr
        have h2 := hy.len
        simp only at h1
        omega
      have HT := hide (show (dat la).take (k + 1) = (dat la).take k ++ [(y0.r, y0.m)] by rw [take_snoc' hyd])
      have HKL := hide (show ((dat la).take k).length ≤ 400 by rw [List.length_take]; omega)
      have C0 := hide c0'
      have C1 := hide c1'
      have c0 := (hI.bel.cell (p := ⟨b, off + k * 2, none⟩) hbl).trans c0'
      have c1 := (hI.bel.cell (p := ⟨b, off + k * 2 + 1, none⟩) hbl).trans c1'
      clear c0' c1' hyk hyd hmem hyr
      have q1 : (0 : Int) ≤ (k : Int) := by omega
      have q2 : (k : Int) < (n : Int) := by omega
      go_wp2_with fail
      refine Held.begin (fun y => y.cell? ⟨b, off + k * 2, none⟩ = some (.slice y0.A y0.n y0.c) ∧ y.cell? ⟨b, off + k * 2 + 1, none⟩ = some (.int .i64 y0.m)) 100 (by kernel_rfl) ?_
      have hI := hI.below (Below.refl wr.heap.size wr).drew
      obtain ⟨X1, hX1⟩ : ∃ X1, wr.drew = X1 := ⟨_, rfl⟩
      have hS : X1.cell? ⟨b, off + k * 2, none⟩ = some (.slice y0.A y0.n y0.c) ∧ X1.cell? ⟨b, off + k * 2 + 1, none⟩ = some (.int .i64 y0.m) := by rw [← hX1]; exact ⟨c0, c1⟩
      rw [hX1] at hI ⊢
      clear hX1 c0 c1
      refine Held.take (i := 0) (v) rfl hS (by kernel_rfl) (by kernel_rfl) (by kernel_rfl) (by kernel_rfl) (fun _ _ _ h => h) rfl (fun y hy => by obtain ⟨x1, x2⟩ := hy; go_simp) ?_
      try simp only [Act.put]
      refine Held.take (i := 1) (.int .i64 T) rfl hS (by kernel_rfl) (by kernel_rfl) (by kernel_rfl) (by kernel_rfl) (fun _ _ _ h => h) rfl (fun y hy => by obtain ⟨x1, x2⟩ := hy; go_simp) ?_
      try simp only [Act.put]
      refine Held.take (i := 2) (.slice (some ⟨b, off, none⟩) n c) rfl hS (by kernel_rfl) (by kernel_rfl) (by kernel_rfl) (by kernel_rfl) (fun _ _ _ h => h) rfl (fun y hy => by obtain ⟨x1, x2⟩ := hy; go_simp) ?_
      try simp only [Act.put]
      refine Held.take (i := 3) (.int .i64 (k : Int)) rfl hS (by kernel_rfl) (by kernel_rfl) (by kernel_rfl) (by kernel_rfl) (fun _ _ _ h => h) rfl (fun y hy => by obtain ⟨x1, x2⟩ := hy; go_simp) ?_
      try simp only [Act.put]
      refine Held.take (i := 4) (.pointer (some ⟨b, off + k * 2, none⟩)) rfl hS (by kernel_rfl) (by kernel_rfl) (by kernel_rfl) (by kernel_rfl) (fun _ _ _ h => h) rfl (fun y hy => by obtain ⟨x1, x2⟩ := hy; go_simp) ?_
      try simp only [Act.put]
      refine Held.take (i := 5) (.pointer (some ⟨b, off + k * 2, none⟩)) rfl hS (by kernel_rfl) (by kernel_rfl) (by kernel_rfl) (by kernel_rfl) (fun _ _ _ h => h) rfl (fun y hy => by obtain ⟨x1, x2⟩ := hy; go_simp) ?_
      try simp only [Act.put]
      refine Held.take (i := 6) (.slice y0.A y0.n y0.c) rfl hS (by kernel_rfl) (by kernel_rfl) (by kernel_rfl) (by kernel_rfl) (fun _ _ _ h => h) rfl (fun y hy => by obtain ⟨x1, x2⟩ := hy; go_simp) ?_
      try simp only [Act.put]
      refine Held.take (i := 8) (.slice (some ⟨b, off, none⟩) n c) rfl hS (by kernel_rfl) (by kernel_rfl) (by kernel_rfl) (by kernel_rfl) (fun _ _ _ h => h) rfl (fun y hy => by obtain ⟨x1, x2⟩ := hy; go_simp) ?_
      try simp only [Act.put]
      refine Held.take (i := 9) (.int .i64 (k : Int)) rfl hS (by kernel_rfl) (by kernel_rfl) (by kernel_rfl) (by kernel_rfl) (fun _ _ _ h => h) rfl (fun y hy => by obtain ⟨x1, x2⟩ := hy; go_simp) ?_
      try simp only [Act.put]
      refine Held.take (i := 10) (.pointer (some ⟨b, off + k * 2, none⟩)) rfl hS (by kernel_rfl) (by kernel_rfl) (by kernel_rfl) (by kernel_rfl) (fun _ _ _ h => h) rfl (fun y hy => by obtain ⟨x1, x2⟩ := hy; go_simp) ?_
      try simp only [Act.put]
      refine Held.take (i := 11) (.pointer (some ⟨b, off + k * 2 + 1, none⟩)) rfl hS (by kernel_rfl) (by kernel_rfl) (by kernel_rfl) (by kernel_rfl) (fun _ _ _ h => h) rfl (fun y hy => by obtain ⟨x1, x2⟩ := hy; go_simp) ?_
      try simp only [Act.put]
      refine Held.take (i := 12) (.int .i64 y0.m) rfl hS (by kernel_rfl) (by kernel_rfl) (by kernel_rfl) (by kernel_rfl) (fun _ _ _ h => h) rfl (fun y hy => by obtain ⟨x1, x2⟩ := hy; go_simp) ?_
      try simp only [Act.put]
      refine Held.one (i := 7) rfl (by kernel_rfl) rfl (fun K hK => ?_)
      unfold Oper.wp
      go_simp
      refine (Own_any y0.A y0.n y0.c _ w.heap.size y0.r X1 (hy.below hI.bel) (by omega)).mono ?_
      rintro e X2 ⟨Ac, cc, rfl, hrow, hB2⟩
      have hI2 := hI.below hB2
      clear hI
      have hS2 : X2.cell? ⟨b, off + k * 2, none⟩ = some (.slice y0.A y0.n y0.c) ∧ X2.cell? ⟨b, off + k * 2 + 1, none⟩ = some (.int .i64 y0.m) := ⟨(hB2.cell (World.block_lt_of_cell? _ _ hS.1)).trans hS.1, (hB2.cell (World.block_lt_of_cell? _ _ hS.2)).trans hS.2⟩
      refine hK _ _ (fun _ => hS2) ?_
      try simp only [Act.put]
      clear hK K hS hB2
      have hS := hS2
      clear hS2
      refine Held.take (i := 13) (.agg #[.int .i64 T, .slice Ac y0.n cc, .int .i64 y0.m]) rfl hS (by kernel_rfl) (by kernel_rfl) (by kernel_rfl) (by kernel_rfl) (fun _ _ _ h => h) rfl (fun y hy => by obtain ⟨x1, x2⟩ := hy; go_simp) ?_
      try simp only [Act.put]
      refine Held.one (i := 14) rfl (by kernel_rfl) rfl (fun K hK => ?_)
      have HS4 := hide (show (X2.alloc (.cells #[.int .i64 T, .slice Ac y0.n cc, .int .i64 y0.m] 57)).cell? ⟨b, off + k * 2, none⟩ = some (.slice y0.A y0.n y0.c) ∧ (X2.alloc (.cells #[.int .i64 T, .slice Ac y0.n cc, .int .i64 y0.m] 57)).cell? ⟨b, off + k * 2 + 1, none⟩ = some (.int .i64 y0.m) from
        ⟨(World.cell?_alloc_lt X2 _ ⟨b, off + k * 2, none⟩ (World.block_lt_of_cell? _ _ hS.1)).trans hS.1, (World.cell?_alloc_lt X2 _ ⟨b, off + k * 2 + 1, none⟩ (World.block_lt_of_cell? _ _ hS.2)).trans hS.2⟩)
      unfold Oper.wp
      go_simp
      refine hK _ _ (fun _ => HS4.out) ?_
      try simp only [Act.put]
      clear hK K hS
      refine Held.one (i := 15) rfl (by kernel_rfl) rfl (fun K hK => ?_)
      have hle := hI2.bel.size
      obtain ⟨hbel, l', h1, h2, ht, h3⟩ := hI2
      have hll : l'.length ≤ 400 := by have := HKL.out; rw [← h2, chD_len] at this; exact this
      have hrd : Reads (X2.alloc (.cells #[.int .i64 T, .slice Ac y0.n cc, .int .i64 y0.m] 57)) (X2.heap.size + 1) 3 (some ⟨X2.heap.size, 0, none⟩) 1 [.int .i64 T, .slice Ac y0.n cc, .int .i64 y0.m] :=
        ⟨rfl, fun _ => ⟨X2.heap.size, 0, rfl, by omega, fun j u hu => by
          have := (Blk.new X2 57 #[.int .i64 T, .slice Ac y0.n cc, .int .i64 y0.m]).cell j
          rw [Nat.zero_add, this]; simpa using hu⟩⟩
      refine wp_append_any _ _ _ 67 rfl w.heap.size 57 i0 _ 3 40 Tryz.underlying67 hi hz0 hz1 hz2 rfl (by decide) v l'.length _ rfl (h1.alloc _) (X2.heap.size + 1) (some ⟨X2.heap.size, 0, none⟩) 1 1 [.int .i64 T, .slice Ac y0.n cc, .int .i64 y0.m] rfl hrd (by simp [Value.oneCell']) (by unfold maxLen; omega) (by omega) (by simp; omega) ?_
      intro v' X3 hown1 hgrow _
      have hI := madi_app hbel h1 h2 ht h3 hrow hown1 hgrow
      have hS5 : X3.cell? ⟨b, off + k * 2, none⟩ = some (.slice y0.A y0.n y0.c) ∧ X3.cell? ⟨b, off + k * 2 + 1, none⟩ = some (.int .i64 y0.m) := ⟨(hI.bel.cell (p := ⟨b, off + k * 2, none⟩) hbl).trans C0.out, (hI.bel.cell (p := ⟨b, off + k * 2 + 1, none⟩) hbl).trans C1.out⟩
      refine hK _ _ (fun _ => hS5) ?_
      try simp only [Act.put]
      clear hK K HS4 hrd hown1 hgrow hbel h1 h2 h3 ht hrow
      refine Held.one (i := 16) rfl (by kernel_rfl) rfl (fun K hK => ?_)
      unfold Oper.wp
      go_simp
      refine hK _ _ (fun _ => hS5) ?_
      try simp only [Act.put]
      clear hK K hS5
      refine Held.done (by kernel_rfl) ?_
      go_wp2
      go_roundw
      case rel => exact ⟨k + 1, _, by omega, by go_num, rfl, by rw [HT.out]; exact hI⟩
      case measure => simp [intOf]; omega
    · obtain rfl : k = n := by omega
      rw [take_all (by rw [dat_len]; exact HL.out)] at hI
      obtain ⟨A', n', c', l', rfl, r1, r2, r3⟩ := madi_own hI (by rw [dat_len, HL.out]; omega)
      clear hI
      go_wp2
      go_ret
      exact ⟨A', n', c', l', rfl, r1, r2, r3⟩
theorem RMade_any (A : Option Addr) (n c : Nat) (la : List It) (T : Int) (w : World) (hb : BagR w w.heap.size A n la) (ho : okBag (dat la) = true) :
    Calls Tryz.prog 163 #[.slice A n c, .int .i64 T] w (RetM w T (dat la)) :=
  (RMadeO_any A n c la T w hb ho).mono fun e w' ⟨A', n', c', l', he, h1, h2, h3, h4, h5⟩ => ⟨A', n', c', l', he, h1, ⟨Reads.of_own h2, fun i hi => (h3 i hi).mono h5.size, by omega⟩, h5⟩
end
end

section
section
open Go.RowKit
attribute [local go_sem] Oper.semAt_some
set_option linter.unusedVariables false
set_option linter.unusedSimpArgs false

/-- Changes with their times, and an error, handed back. -/
def RetN (w : World) (p : List (Rw × Int × Int) × Int) (e : Ending) (w' : World) : Prop :=
  ∃ A n c l, e = .returned (.tuple #[.slice A n c, .int .i64 p.2]) ∧ datC l = p.1 ∧ ChgR w' w'.heap.size A n l ∧ Below w.heap.size w w'
/-- What is set of the times while element i is under way. -/
structure NtI (l : List Ch) (d : Bg) (i : Nat) (s : Int) (lq : List Ch) : Prop where
  dat : chD lq = d
  t : ∀ q c, lq[q]? = some c → c.t = if q < i then tim l c.r else if q = i then s else 0
end

section
open Go.RowKit
attribute [local go_sem] Oper.semAt_some
set_option linter.unusedVariables false

end

section
open Go.RowKit Go.Maps
attribute [local go_sem] Oper.semAt_some
set_option linter.unusedVariables false
set_option linter.unusedSimpArgs false

/-- What the map of last times holds. -/
def lF (L : List Ch) : Lit → Option Value
  | .string t => (lst L t).map (.int .i64)
  | _ => none
/-- What is put together so far. -/
structure NetI (w : World) (d : List (Rw × Int × Int)) (v : Value) (W : World) : Prop where
  bel : Below w.heap.size w W
  ow : ∃ l : List Ch, W.ownsRow w.heap.size 57 3 v l.length (l.flatMap encCh) ∧ datC l = d ∧ RowsC W w.heap.size l
end
end

section
open Go.RowKit

structure Rk where
  A : Option Addr
  n : Nat
  c : Nat
  r : Rw
def encRk (i : Rk) : List Value := [.slice i.A i.n i.c]
theorem encRk_len (i : Rk) : (encRk i).length = 1 := rfl
/-- The rows of a list. -/
def rwD (l : List Rk) : List Rw := l.map (·.r)
def RowsK (w : World) (B : Nat) (l : List Rk) : Prop := ∀ i ∈ l, RowK w B i.A i.n i.r
structure RowL (w : World) (B : Nat) (A : Option Addr) (n : Nat) (l : List Rk) : Prop where
  rd : Reads w w.heap.size 1 A n (l.flatMap encRk)
  rows : RowsK w B l
  le : n ≤ 9223372036854775807
section
variable {w w' : World} {B B' : Nat} {A : Option Addr} {n : Nat} {l : List Rk}
theorem RowL.len (h : RowL w B A n l) : l.length = n := h.rd.len encRk_len (by omega)
theorem RowL.mono (h : RowL w B A n l) (hB : B ≤ B') : RowL w B' A n l := ⟨h.rd, fun i hi => (h.rows i hi).mono hB, h.le⟩
theorem RowL.nil (w : World) (B : Nat) : RowL w B none 0 [] := ⟨Reads.none_, nofun, by omega⟩
end
/-- Rows put together so far. -/
structure RwlI (w : World) (d : List Rw) (v : Value) (W : World) : Prop where
  bel : Below w.heap.size w W
  ow : ∃ l : List Rk, W.ownsRow w.heap.size 34 1 v l.length (l.flatMap encRk) ∧ rwD l = d ∧ RowsK W w.heap.size l
theorem RwlI.nil (w : World) : RwlI w [] (.slice none 0 0) w := ⟨Below.refl _ _, [], World.ownsRow_nil _ _ _ _, rfl, nofun⟩
end

section
open Go.RowKit
attribute [local go_sem] Oper.semAt_some
set_option linter.unusedVariables false
set_option linter.unusedSimpArgs false

/-- A bag, an error, and that every row has room. -/
def RetCc (w : World) (p : Bg × Int) (e : Ending) (w' : World) : Prop :=
  ∃ A n c l, e = .returned (.tuple #[.slice A n c, .int .i64 p.2]) ∧ dat l = p.1 ∧ BagR w' w'.heap.size A n l ∧ n ≤ c ∧ Caps l ∧ Below w.heap.size w w'
def CapsC (l : List Ch) : Prop := ∀ i ∈ l, i.n ≤ i.c
/-- What lies in memory between two changes. -/
structure UpI (w W4 : World) (key : List Int) (d : Bg) (v : Value) (lo : List It) (W : World) : Prop where
  bel : Below W4.heap.size W4 W
  own : W.ownsRow W4.heap.size 119 2 v lo.length (lo.flatMap encIt)
  dat : dat lo = d
  rows : Rows_ w w.heap.size lo
  caps : Caps lo
  ok : ∀ i ∈ lo, okR i.r = true ∧ hasB i.r key = true
end

section
open Go.RowKit Go.Deep Go.WideShapes Go.ChangeShapes
section
variable {H : Type} {enc : TypeId × Value → H} {w : World} {base : Nat} {held : Bool}
end
end

end Go.Proofs.YtoapjidpfghnlaaGreatDoor
