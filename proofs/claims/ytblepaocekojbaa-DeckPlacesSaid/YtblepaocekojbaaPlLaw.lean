/-
  The law DeckPlaces: the walk, for every input.
-/
import Derived.Test.YtblepaocekojbaaPlZ
import Derived.Test.YtblepaocekojbaaDkAw
import Derived.Test.YtblepaocekojbaaDkOpen
import Derived.Deep.CutRange
import Derived.Deep.RegionHeld3
namespace Go.Proofs.Ytblepaocekojbaa
open Go.RowKit Go.Shelf Go.Maps Go.Deep
attribute [local go_sem] Oper.semAt_some
set_option linter.unusedVariables false

theorem samePlaces_v (A A' : Option Addr) (n c c' B B' : Nat) (l : List Pl) (w : World) (hx : Reads w B 2 A n (l.flatMap encPl)) (hy : Reads w B' 2 A' n (l.flatMap encPl)) (hn : n ≤ 1000000) :
    Calls Try.prog 38 #[.slice A n c, .slice A' n c'] w (RetV w (.bool true)) :=
  (samePlaces_one A A' n c c' B B' l w hx hy hn).mono fun e w' h => by
    obtain ⟨h1, k, rfl⟩ := h
    exact ⟨h1, below_drewN (Below.refl _ _) k⟩
set_option maxRecDepth 100000 in
set_option maxHeartbeats 8000000 in
theorem deckPlaces_near (g : Gr) (A : Option Addr) (m c : Nat) (gs : List Int) (A2 : Option Addr) (n c2 : Nat) (ss : List Int) (A3 : Option Addr) (q c3 : Nat) (l : List Pl) (w : World) (hg : g.Ok w w.heap.size) (hx : Reads w w.heap.size 1 A m (gs.map (Value.int .i64))) (hs : Reads w w.heap.size 1 A2 n (ss.map (Value.int .i64))) (hl : Reads w w.heap.size 2 A3 q (l.flatMap encPl)) (hpw : ∀ u, u < q → PlW (plA l u))
    (hh : heavyB g = false) (hm : m ≤ 250) (hn : n ≤ 40) (hq : q ≤ 300) :
    Calls Try.prog 7 #[.agg #[g.v1, g.v2], .slice A m c, .slice A2 n c2, .slice A3 q c3] w (RetV w (.bool true)) := by
  have hn' : g.n1 ≤ 300 ∧ g.n2 ≤ 60 := by
    unfold heavyB at hh
    simp only [Bool.or_eq_false_iff, decide_eq_false_iff_not] at hh
    omega
  obtain ⟨hn1, hn2⟩ := hn'
  have hB0 : Below w.heap.size w (w.alloc (.cells #[g.v1, g.v2] 25)) := (Below.refl _ _).alloc (Nat.le_refl _) _
  have b0 : Blk (w.alloc (.cells #[g.v1, g.v2] 25)) w.heap.size 25 #[g.v1, g.v2] := Blk.new w _ _
  have hs0 : (w.alloc (.cells #[g.v1, g.v2] 25)).heap.size = w.heap.size + 1 := World.size_alloc _ _
  have HH := hide hh
  clear hh
  go_enter Try.func7, Try.ntmps7
  go_wp2_with fail
  obtain ⟨W0, hW0⟩ : ∃ W0, w.alloc (.cells #[g.v1, g.v2] 25) = W0 := ⟨_, rfl⟩
  rw [hW0] at hB0 b0 hs0 ⊢
  clear hW0
  refine (awake_any W0).mono ?_
  rintro e W1 ⟨rfl, hB1⟩
  have b1 := b0.below hB1 (by omega)
  have hB01 := bstep hB0 hB1
  have hs1 : w.heap.size < W1.heap.size := by have := hB1.size; omega
  clear b0 hB0 hs0 hB1
  have d0 := b1.cell 0
  have d1 := b1.cell 1
  simp at d0 d1
  go_wp2_with fail
  refine (heavy_any g W1).mono ?_
  rintro e W2 ⟨rfl, hB2⟩
  rw [HH.out]
  have b2 := b1.below hB2 hs1
  have hB02 := bstep hB01 hB2
  have hs2 := Nat.lt_of_lt_of_le hs1 hB2.size
  clear hB01 hB2 b1 d0 d1 hs1
  have d0 := b2.cell 0
  have d1 := b2.cell 1
  simp at d0 d1
  go_wp2_with fail
  refine (made_any g W2 (hg.up hB02) (by omega) (by omega)).mono ?_
  rintro e W3 ⟨g', hlike, rfl, hg3, hB3⟩
  rw [show g'.v1 = .slice g'.a1 g'.n1 g'.c1 from rfl, show g'.v2 = .slice g'.a2 g'.n2 g'.c2 from rfl]
  have HLK := hide hlike
  have hgn1 : g'.n1 ≤ 300 := by have := hlike.n1; omega
  have hgn2 : g'.n2 ≤ 60 := by have := hlike.n2; omega
  have b3 := b2.below hB3 hs2
  have hB03 := bstep hB02 hB3
  have hs3 := Nat.lt_of_lt_of_le hs2 hB3.size
  clear hB02 hB3 b2 d0 d1 hs2 hlike
  have x4 := Blk.new W3 30 #[.slice g'.a1 g'.n1 g'.c1, .slice g'.a2 g'.n2 g'.c2]
  have hB4 : Below W3.heap.size W3 (W3.alloc (.cells #[.slice g'.a1 g'.n1 g'.c1, .slice g'.a2 g'.n2 g'.c2] 30)) := (Below.refl _ _).alloc (Nat.le_refl _) _
  have hs4 : (W3.alloc (.cells #[.slice g'.a1 g'.n1 g'.c1, .slice g'.a2 g'.n2 g'.c2] 30)).heap.size = W3.heap.size + 1 := World.size_alloc _ _
  go_upto_region 6 with fail
  obtain ⟨W4, hW4⟩ : ∃ W4, W3.alloc (.cells #[.slice g'.a1 g'.n1 g'.c1, .slice g'.a2 g'.n2 g'.c2] 30) = W4 := ⟨_, rfl⟩
  rw [hW4] at x4 hB4 hs4 ⊢
  clear hW4
  obtain ⟨bx, hbx⟩ : ∃ bx, W3.heap.size = bx := ⟨_, rfl⟩
  rw [hbx] at x4 hs4 ⊢
  have hxw : w.heap.size < bx := by rw [← hbx]; exact hs3
  have b4 := b3.below hB4 hs3
  have hB04 := bstep hB03 hB4
  have hg4 := hg3.up hB4
  have hs4' : bx < W4.heap.size := by omega
  clear hB03 hB4 b3 hs3 hg3 hbx hs4
  have d0 := x4.cell 0
  have d1 := x4.cell 1
  simp at d0 d1
  go_wp2_with fail
  refine (Least_any g' A m c gs W4 hg4 (hx.up hB04) (by omega) (by omega) (by omega)).mono ?_
  rintro e W5 ⟨rfl, hB5⟩
  rw [HLK.out.leastV, HLK.out.errG]
  have b5 := b4.below hB5 (by omega)
  have x5 := x4.below hB5 hs4'
  have hB05 := bstep hB04 hB5
  have hg5 := hg4.up hB5
  have hs5 := Nat.lt_of_lt_of_le hs4' hB5.size
  clear hB04 hB5 b4 x4 d0 d1 hs4' hg4
  have d0 := b5.cell 0
  have d1 := b5.cell 1
  simp at d0 d1
  go_wp2_with fail
  refine (RLeast_any g A m c gs W5 (hg.up hB05) (hx.up hB05) (by omega) (by omega) (by omega)).mono ?_
  rintro e W6 ⟨rfl, hB6⟩
  have b6 := b5.below hB6 (by omega)
  have x6 := x5.below hB6 hs5
  have hB06 := bstep hB05 hB6
  have hg6 := hg5.up hB6
  have hs6 := Nat.lt_of_lt_of_le hs5 hB6.size
  clear hB05 hB6 b5 x5 d0 d1 hs5 hg5
  have d0 := x6.cell 0
  have d1 := x6.cell 1
  simp at d0 d1
  go_wp2_with fail
  refine (Placed_any g' A m c gs A2 n c2 ss W6 hg6 (hx.up hB06) (hs.up hB06) (by omega) (by omega) (by omega) (by omega)).mono ?_
  rintro e W7 ⟨Aa, ca, rfl, ha, hB7⟩
  rw [HLK.out.plcR] at ha
  rw [HLK.out.plcR, HLK.out.plcE]
  have b7 := b6.below hB7 (by omega)
  have x7 := x6.below hB7 hs6
  have hB07 := bstep hB06 hB7
  have hg7 := hg6.up hB7
  have hs7 := Nat.lt_of_lt_of_le hs6 hB7.size
  clear hB06 hB7 b6 x6 d0 d1 hs6 hg6
  have d0 := b7.cell 0
  have d1 := b7.cell 1
  simp at d0 d1
  go_wp2_with fail
  refine (RPlaced_any g A m c gs A2 n c2 ss W7 (hg.up hB07) (hx.up hB07) (hs.up hB07) (by omega) (by omega) (by omega) (by omega)).mono ?_
  rintro e W8 ⟨Ab, cb, rfl, hb, hB8⟩
  have b8 := b7.below hB8 (by omega)
  have x8 := x7.below hB8 hs7
  have hB08 := bstep hB07 hB8
  have hg8 := hg7.up hB8
  have ha8 := ha.up hB8
  have hs8 := Nat.lt_of_lt_of_le hs7 hB8.size
  clear hB07 hB8 b7 x7 d0 d1 hs7 hg7 ha
  have hrl : (plcR g m gs n ss).length ≤ 300 := by
    unfold plcR
    split
    · rw [plcL_len]; exact hn1
    · simp
  have HE := hide (show plcE g m gs n ss = plcE g m gs n ss from rfl)
  obtain ⟨LE, hLE⟩ : ∃ LE, leastV g m gs = LE := ⟨_, rfl⟩
  obtain ⟨EG, hEG⟩ : ∃ EG, errG g m gs = EG := ⟨_, rfl⟩
  obtain ⟨PE, hPE⟩ : ∃ PE, plcE g m gs n ss = PE := ⟨_, rfl⟩
  obtain ⟨PR, hPR⟩ : ∃ PR, plcR g m gs n ss = PR := ⟨_, rfl⟩
  rw [hLE, hEG, hPE, hPR]
  rw [hPR] at ha8 hb hrl
  have HLE := hide hLE
  have HEG := hide hEG
  have HPE := hide hPE
  have HPR := hide hPR
  clear hLE hEG hPE hPR HE
  have n1 : (LE != LE) = false := by simp
  have n2 : (EG != EG) = false := by simp
  have n3 : (PE != PE) = false := by simp
  obtain ⟨RB, hRB⟩ : ∃ RB, rgtB g m gs n ss q (plA l) = RB := ⟨_, rfl⟩
  have n4 : (RB != RB) = false := by simp
  have n5 : (!(RB == RB)) = false := by simp
  have hlB := hl.up hB08
  have hxB := hx.up hB08
  have hsB := hs.up hB08
  have hgB := hg.up hB08
  have CR := hide (fun (W : World) (A5 : Option Addr) (c5 : Nat) (h : Below W8.heap.size W8 W) (hp : Reads W W.heap.size 2 A5 q (l.flatMap encPl)) => Right_any g' A m c gs A2 n c2 ss A5 q c5 l W (hg8.up h) (hxB.up h) (hsB.up h) hp (by omega) (by omega) (by omega) (by omega) (by omega) hpw)
  have CRR := hide (fun (W : World) (h : Below W8.heap.size W8 W) => RRight_any g A m c gs A2 n c2 ss A3 q c3 l W (hgB.up h) (hxB.up h) (hsB.up h) (hlB.up h) (by omega) (by omega) (by omega) (by omega) (by omega))
  rw [HLK.out.rgtB, hRB] at CR
  rw [hRB] at CRR
  rw [show g'.v1 = .slice g'.a1 g'.n1 g'.c1 from rfl, show g'.v2 = .slice g'.a2 g'.n2 g'.c2 from rfl] at CR
  clear hRB
  have KS : ∀ W : World, Below W8.heap.size W8 W → W.cell? ⟨bx, 0, none⟩ = some (.slice g'.a1 g'.n1 g'.c1) ∧ W.cell? ⟨bx, 1, none⟩ = some (.slice g'.a2 g'.n2 g'.c2) ∧ W.cell? ⟨w.heap.size, 0, none⟩ = some g.v1 ∧ W.cell? ⟨w.heap.size, 1, none⟩ = some g.v2 := fun W h =>
    ⟨(h.cell (p := ⟨bx, 0, none⟩) (by show bx < _; omega)).trans (x8.cell 0), (h.cell (p := ⟨bx, 1, none⟩) (by show bx < _; omega)).trans (x8.cell 1), (h.cell (p := ⟨w.heap.size, 0, none⟩) (by show w.heap.size < _; omega)).trans (b8.cell 0), (h.cell (p := ⟨w.heap.size, 1, none⟩) (by show w.heap.size < _; omega)).trans (b8.cell 1)⟩
  have h8 : Below W8.heap.size W8 W8.drew := (Below.refl _ _).drew
  have S8 := KS W8.drew h8
  have HKS := hide KS
  have CP := hide (places_any Aa PR.length ca PR W8.drew ha8.drew (by omega))
  have CS := hide (fun (W : World) (A5 : Option Addr) (c5 : Nat) (h : Below W8.heap.size W8 W) (hp : Reads W W.heap.size 2 A5 PR.length (PR.flatMap encPl)) => samePlaces_v A5 Ab PR.length c5 cb _ _ PR W hp (hb.up h) (by omega))
  have CPL := hide (fun (W : World) (h : Below W8.heap.size W8 W) => placed_any A3 q c3 l W (hlB.up h) (by omega))
  clear KS
  go_upto_region 10 with fail
  go_region_held3 (fun w' => w'.cell? ⟨bx, 0, none⟩ = some (.slice g'.a1 g'.n1 g'.c1) ∧ w'.cell? ⟨bx, 1, none⟩ = some (.slice g'.a2 g'.n2 g'.c2) ∧ w'.cell? ⟨w.heap.size, 0, none⟩ = some g.v1 ∧ w'.cell? ⟨w.heap.size, 1, none⟩ = some g.v2) (first | exact S8 | exact S9 | exact S10 | exact S11 | exact S12 | exact S13) ((first
    | (go_at_call 39; refine CP.out.mono ?_; rintro e W9 ⟨A9, c9, rfl, hp9, hB9⟩; have h9 := bstep h8 hB9; have S9 := HKS.out W9 h9)
    | (go_at_call 38; refine (CS.out W9 A9 c9 h9 hp9).mono ?_; rintro e W10 ⟨rfl, hB10⟩; have h10 := bstep h9 hB10; have S10 := HKS.out W10 h10)
    | (go_at_call 19; refine (CPL.out W10 h10).mono ?_; rintro e W11 ⟨A11, c11, rfl, hp11, hB11⟩; have h11 := bstep h10 hB11; have S11 := HKS.out W11 h11)
    | (go_at_call 40; refine (CR.out W11 A11 c11 h11 hp11).mono ?_; rintro e W12 ⟨rfl, hB12⟩; have h12 := bstep h11 hB12; have S12 := HKS.out W12 h12)
    | (go_at_call 41; refine (CRR.out W12 h12).mono ?_; rintro e W13 ⟨rfl, hB13⟩; have h13 := bstep h12 hB13; have S13 := HKS.out W13 h13)))
  by_cases hpe : PE = 0
  · have z0 : (PE != 0) = false := by simp [hpe]
    have hP : plcE g m gs n ss = 0 := HPE.out.trans hpe
    obtain ⟨p1, p2, p3⟩ := plcE_zero hP
    have hk := GrpOk.mk' hg hx p1
    have hPR : PR = plcL g gs n ss g.n1 := by rw [← HPR.out]; unfold plcR; rw [if_pos hP]
    have hLE : (needG g gs : Int) = LE := by rw [← HLE.out]; unfold leastV; rw [if_pos p1]
    have hso := slot_ok p2 hs
    have hlen : PR.length = g.n1 := by rw [hPR, plcL_len]
    have hrt := placed_right hP hk hso.1 hso.2.2
    have CR2 := hide (fun (W : World) (h : Below W8.heap.size W8 W) => Right_any g' A m c gs A2 n c2 ss Aa PR.length ca PR W (hg8.up h) (hxB.up h) (hsB.up h) (ha8.up h) (by omega) (by omega) (by omega) (by omega) (by omega) (fun u hu => by rw [hPR]; exact placed_wf hk p2 ⟨hso.1, hso.2.1⟩ (by rw [← hlen]; exact hu)))
    rw [HLK.out.rgtB, show rgtB g m gs n ss PR.length (plA PR) = true by rw [hlen, hPR]; exact hrt] at CR2
    rw [show g'.v1 = .slice g'.a1 g'.n1 g'.c1 from rfl, show g'.v2 = .slice g'.a2 g'.n2 g'.c2 from rfl] at CR2
    have hcnt : (ddP (plcF g gs n ss) g.n1).length = needG g gs := placed_count hk
    have HCNT := hide (show ((ddP (plcF g gs n ss) g.n1).length : Int) = LE by rw [hcnt, hLE])
    have HGET := hide (fun k (hk : k < g.n1) => show PR[k]? = some (plcF g gs n ss k) by rw [hPR]; unfold plcL; rw [List.getElem?_map, List.getElem?_range hk]; rfl)
    have hb13 := hb.up h13
    have HPL := hide (show PR.length = PR.length from rfl)
    obtain ⟨N, hN⟩ : ∃ N, PR.length = N := ⟨_, rfl⟩
    rw [hN] at hb13 CR2 hlen ⊢
    have HPN := hide hN
    have HLEN := hide hlen
    have hN300 : N ≤ 300 := by omega
    clear hlen
    obtain ⟨i0, hi, hz0, hz1, hz2⟩ := info_parts infoRPlace_dk
    obtain ⟨f, hf⟩ : ∃ f, plcF g gs n ss = f := ⟨_, rfl⟩
    rw [hf] at HCNT HGET
    have HDL := hide (fun k => ddP_len f k)
    have h130 := bstep hB08 h13
    clear hf hN hcnt hrt hso hLE hPR hk p1 p2 p3 hP HPL S8 S9 S10 S11 S12 S13 hpe
    go_wp2_with fail
    have ow0 : W13.ownsRow W13.heap.size 67 2 (.slice none 0 0) (ddP f 0).length ((ddP f 0).flatMap encPl) := World.ownsRow_nil _ _ _ _
    go_loopw [18, 19, 20, 21] (fun v i _ _ wr => ∃ k : Nat, k ≤ N ∧ i = .int .i64 k ∧ wr.ownsRow W13.heap.size 67 2 v (ddP f k).length ((ddP f k).flatMap encPl) ∧ Below W13.heap.size W13 wr) (fun _ i _ _ _ => N - (intOf i).toNat)
    case atStart => exact ⟨0, Nat.zero_le _, rfl, ow0, Below.refl _ _⟩
    case round =>
      clear ow0
      obtain ⟨k, hkN, rfl, hown, hB⟩ := hrel
      by_cases hltk : k < N
      · obtain ⟨b, off, p, hA, hbb, hpk, hcp⟩ := (hb13.below hB).elem encPl_len HPN.out hltk
        have hpf := HGET.out k (by rw [← HLEN.out]; exact hltk)
        rw [hpk] at hpf
        injection hpf with hpf
        have HPF := hide hpf
        have e0 : wr.cell? ⟨b, off + k * 2, none⟩ = some (.int .i64 p.m) := by simpa using hcp 0 _ rfl
        have e1 : wr.cell? ⟨b, off + k * 2 + 1, none⟩ = some (.int .i64 p.s) := by simpa [← Nat.add_assoc] using hcp 1 _ rfl
        have HS := hide (ddP_succ f k)
        rw [← hpf] at HS
        have hdl := HDL.out k
        obtain ⟨DL, hDL⟩ : ∃ DL, ddP f k = DL := ⟨_, rfl⟩
        rw [hDL] at hown HS hdl
        obtain ⟨D, hD⟩ : ∃ D, DL.length = D := ⟨_, rfl⟩
        rw [hD] at hown hdl
        have HD := hide hD
        clear hcp hpk hpf hDL hD
        obtain ⟨A', c', hvv, hR⟩ := own_form hown
        rw [hA]
        have HA := hide hA
        obtain ⟨wk, hwk⟩ : ∃ wk : World, wk = wr := ⟨_, rfl⟩
        subst hwk
        have HOWN := hide hown
        have HVV := hide hvv
        rw [hvv]
        clear hown hvv hA
        go_wp2_with fail
        go_loopw [20, 21] (fun th i wr' => ∃ j qq : Nat, j ≤ D ∧ i = .int .i64 j ∧ th = .bool (decide (p ∈ DL.take j)) ∧ wr' = wk.drewN qq) (fun _ i _ => D - (intOf i).toNat)
        case atStart => exact ⟨0, 0, Nat.zero_le _, rfl, rfl, rfl⟩
        case round =>
          obtain ⟨j, qq, hjD, rfl, rfl, rfl⟩ := hrel
          by_cases hltj : j < D
          · obtain ⟨b', off', x, hA', hb', hxk, hcx⟩ := hR.elem encPl_len HD.out hltj
            have f0 : wk.cell? ⟨b', off' + j * 2, none⟩ = some (.int .i64 x.m) := by simpa using hcx 0 _ rfl
            have f1 : wk.cell? ⟨b', off' + j * 2 + 1, none⟩ = some (.int .i64 x.s) := by simpa [← Nat.add_assoc] using hcx 1 _ rfl
            have HT := hide (take_snoc' hxk)
            have HEQ := eqRP x p
            have hgt : Try.prog.eqGuardType Try.prog.depth 67 = false := by kernel_rfl
            rw [hA']
            have HA' := hide hA'
            clear hcx hxk hA'
            have q1 : (0 : Int) ≤ (j : Int) := by omega
            have q2 : (j : Int) < (D : Int) := by omega
            have q3 : (0 : Int) ≤ (k : Int) := by omega
            have q4 : (k : Int) < (N : Int) := by omega
            by_cases hm1 : p ∈ DL.take j
            · have HN := hide (show decide (p ∈ DL.take (j + 1)) = true by rw [HT.out]; simp [hm1])
              rw [show decide (p ∈ DL.take j) = true by simpa using hm1]
              clear hm1
              go_wp2_with fail
              go_quiet (fail)
              go_wp2
              go_roundw
              case rel => exact ⟨j + 1, _, by omega, by go_num, by rw [HN.out], by first | rfl | exact World.drewN_drewN _ _ _⟩
              case measure => simp [intOf]; omega
            · rw [show decide (p ∈ DL.take j) = false by simpa using hm1]
              by_cases hxp : x = p
              · have HN := hide (show decide (p ∈ DL.take (j + 1)) = true by rw [HT.out]; simp [hxp])
                have z1 : decide (x = p) = true := by simpa using hxp
                simp only [z1] at HEQ
                clear hm1 hxp
                go_wp2_with fail
                go_quiet (fail)
                go_wp2
                go_roundw
                case rel => exact ⟨j + 1, _, by omega, by go_num, by rw [HN.out], by first | rfl | exact World.drewN_drewN _ _ _⟩
                case measure => simp [intOf]; omega
              · have HN := hide (show decide (p ∈ DL.take (j + 1)) = false by rw [HT.out]; simp [hm1]; exact fun h => hxp h.symm)
                have z1 : decide (x = p) = false := by simpa using hxp
                simp only [z1] at HEQ
                clear hm1 hxp
                go_wp2_with fail
                go_quiet (fail)
                go_wp2
                go_roundw
                case rel => exact ⟨j + 1, _, by omega, by go_num, by rw [HN.out], by first | rfl | exact World.drewN_drewN _ _ _⟩
                case measure => simp [intOf]; omega
          · obtain rfl : D = j := by omega
            rw [take_all HD.out]
            have hown := HOWN.out
            rw [HVV.out] at hown
            obtain ⟨X, hX⟩ : ∃ X, wk.drewN qq = X := ⟨_, rfl⟩
            have oX : X.ownsRow W13.heap.size 67 2 (.slice A' D c') D (DL.flatMap encPl) := by rw [← hX]; exact own_block hown (fun _ _ => rfl)
            have bX : Below W13.heap.size W13 X := by rw [← hX]; exact below_drewN hB qq
            have e0X : X.cell? ⟨b, off + k * 2, none⟩ = some (.int .i64 p.m) := by rw [← hX]; exact e0
            have e1X : X.cell? ⟨b, off + k * 2 + 1, none⟩ = some (.int .i64 p.s) := by rw [← hX]; exact e1
            rw [hX]
            clear hX hown hB e0 e1 HOWN hR
            by_cases hm1 : p ∈ DL
            · have z1 : (!decide (p ∈ DL)) = false := by simp [hm1]
              have HN := hide (show ddP f (k + 1) = DL by rw [HS.out, if_pos hm1])
              rw [show decide (p ∈ DL) = true by simpa using hm1]
              clear hm1 z1 e0X e1X
              have HO := hide (show X.ownsRow W13.heap.size 67 2 (.slice A' D c') (ddP f (k + 1)).length ((ddP f (k + 1)).flatMap encPl) by rw [HN.out, HD.out]; exact oX)
              clear oX
              go_wp2
              go_roundw
              case rel => exact ⟨k + 1, by omega, by go_num, HO.out, bX⟩
              case measure => simp [intOf]; omega
            · have HN := hide (show ddP f (k + 1) = DL ++ [p] by rw [HS.out, if_neg hm1])
              rw [show decide (p ∈ DL) = false by simpa using hm1]
              clear hm1
              have sX := bX.size
              have hrd : Reads (X.alloc (.cells #[.int .i64 p.m, .int .i64 p.s] 67)) (X.heap.size + 1) 2 (some ⟨X.heap.size, 0, none⟩) 1 [.int .i64 p.m, .int .i64 p.s] := by
                refine ⟨rfl, fun _ => ⟨X.heap.size, 0, rfl, by omega, fun j u hu => ?_⟩⟩
                rw [Nat.zero_add]
                exact ((Blk.new X 67 #[.int .i64 p.m, .int .i64 p.s]).cell j).trans (by simpa using hu)
              have vA := oX.alloc (.cells #[.int .i64 p.m, .int .i64 p.s] 67)
              have xs : W13.heap.size ≤ (X.alloc (.cells #[.int .i64 p.m, .int .i64 p.s] 67)).heap.size := by simp; omega
              have bA := bX.alloc sX (.cells #[.int .i64 p.m, .int .i64 p.s] 67)
              have q3 : (0 : Int) ≤ (k : Int) := by omega
              have q4 : (k : Int) < (N : Int) := by omega
              go_wp2_with (at_builtin; refine wpList_append_any _ rfl _ _ 43 rfl W13.heap.size 67 i0 _ 2 16 Try.underlying43 hi hz0 hz1 hz2 rfl (by decide) _ D (DL.flatMap encPl) rfl vA (X.heap.size + 1) (some ⟨X.heap.size, 0, none⟩) 1 1 [.int .i64 p.m, .int .i64 p.s] rfl hrd (by simp [Value.oneCell']) (by unfold maxLen; omega) (by omega) xs ?_; intro v3 w3 hown3 hgrow hat)
              have hB3 : Below W13.heap.size W13 w3 := below_append bA vA xs hgrow
              have HO := hide (show w3.ownsRow W13.heap.size 67 2 v3 (ddP f (k + 1)).length ((ddP f (k + 1)).flatMap encPl) by
                rw [HN.out, List.length_append, HD.out, flatP_snoc]
                exact hown3)
              clear hown3 hgrow hat bA vA hrd oX bX e0X e1X
              go_wp2
              go_roundw
              case rel => exact ⟨k + 1, by omega, by go_num, HO.out, hB3⟩
              case measure => simp [intOf]; omega
      · obtain rfl : N = k := by omega
        have hcn := HCNT.out
        rw [← HLEN.out] at hcn
        obtain ⟨A', c', rfl, hR⟩ := own_form hown
        have z1 : ((((ddP f N).length : Nat) : Int) == LE) = true := by rw [hcn]; simp
        have hS := HKS.out wr (bstep h13 hB)
        obtain ⟨s0, s1, s2, s3⟩ := hS
        have HC := hide (CR2.out wr (bstep h13 hB))
        have hB14 := bstep h130 hB
        clear hown hR hcn
        go_wp2_with fail
        refine HC.out.mono ?_
        rintro e W14 ⟨rfl, hBe⟩
        have HBE := hide (bstep hB14 hBe)
        clear hBe hB14 s0 s1 s2 s3
        go_wp2
        go_ret
        exact ⟨rfl, HBE.out⟩
  · have z0 : (PE != 0) = true := by simpa using hpe
    have HBE := hide (bstep hB08 h13)
    go_wp2
    go_ret
    exact ⟨rfl, HBE.out⟩
end Go.Proofs.Ytblepaocekojbaa
