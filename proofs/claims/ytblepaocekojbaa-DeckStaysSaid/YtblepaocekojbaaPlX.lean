/-
  The walk of deck.Placed.
-/
import Derived.Test.YtblepaocekojbaaPlB
namespace Go.Proofs.Ytblepaocekojbaa
open Go.RowKit Go.Shelf Go.Maps Go.Deep
attribute [local go_sem] Oper.semAt_some
set_option linter.unusedVariables false

set_option maxRecDepth 100000 in
set_option maxHeartbeats 8000000 in
theorem Placed_any (g : Gr) (A : Option Addr) (m c : Nat) (gs : List Int) (A2 : Option Addr) (n c2 : Nat) (ss : List Int) (w : World) (hg : g.Ok w w.heap.size) (hx : Reads w w.heap.size 1 A m (gs.map (Value.int .i64))) (hs : Reads w w.heap.size 1 A2 n (ss.map (Value.int .i64))) (hn : g.n1 ≤ 4611686018427387904) (hm : g.n2 ≤ 4611686018427387904) (hmm : m ≤ 1000000) (hnn : n ≤ 1000000) :
    Calls Try.prog 36 #[.agg #[g.v1, g.v2], .slice A m c, .slice A2 n c2] w (RetSlE w 2 (plcR g m gs n ss).length ((plcR g m gs n ss).flatMap encPl) (plcE g m gs n ss)) := by
  have hB0 : Below w.heap.size w (w.alloc (.cells #[g.v1, g.v2] 30)) := (Below.refl _ _).alloc (Nat.le_refl _) _
  have k0 := Blk.new w 30 #[g.v1, g.v2]
  have hg0 := hg.up hB0
  have hx0 := hx.up hB0
  have HV := hide (Valid_any g _ hg0 hn hm)
  have hwl : w.heap.size < (w.alloc (.cells #[g.v1, g.v2] 30)).heap.size := by simp
  have c1 : (w.alloc (.cells #[g.v1, g.v2] 30)).cell? ⟨w.heap.size, 0, none⟩ = some (.slice g.a1 g.n1 g.c1) := by simp [Gr.v1]
  have c2' : (w.alloc (.cells #[g.v1, g.v2] 30)).cell? ⟨w.heap.size, 1, none⟩ = some (.slice g.a2 g.n2 g.c2) := by simp [Gr.v2]
  obtain ⟨W, hW⟩ : ∃ W, w.alloc (.cells #[g.v1, g.v2] 30) = W := ⟨_, rfl⟩
  rw [hW] at hB0 k0 hg0 hx0 HV hwl c1 c2'
  cases hv : validB g
  · have he : plcE g m gs n ss = 1 := by simp [plcE, hv]
    rw [plcR_bad (by omega), he]
    rw [hv] at HV
    clear hv he
    go_enter Try.func36, Try.ntmps36
    go_wp2_with fail
    refine HV.out.mono ?_
    rintro e W1 ⟨rfl, hB1⟩
    have HB := hide (bstep hB0 hB1)
    clear hB0 hB1 HV
    go_wp2
    go_ret2
    exact ⟨none, 0, rfl, Reads.none_, HB.out⟩
  · cases hsl : slotB n ss
    · have he : plcE g m gs n ss = 1 := by simp [plcE, hsl]
      rw [plcR_bad (by omega), he]
      rw [hv] at HV
      clear hv he
      go_enter Try.func36, Try.ntmps36
      go_wp2_with fail
      refine HV.out.mono ?_
      rintro e W1 ⟨rfl, hB1⟩
      have HSL := hide (machines_any A2 n c2 _ ss W1 (hs.up (bstep hB0 hB1)) (by omega))
      rw [hsl] at HSL
      have HB := hide (bstep hB0 hB1)
      clear hsl hB0 hB1 HV c1 c2'
      go_wp2_with (go_at_call 69; refine HSL.out.mono ?_; rintro e w' ⟨rfl, rfl⟩)
      go_ret2
      exact ⟨none, 0, rfl, Reads.none_, HB.out⟩
    · obtain ⟨E, hE⟩ : ∃ E, errG g m gs = E := ⟨_, rfl⟩
      by_cases h0 : E = 0
      · subst h0
        have hk := GrpOk.mk' hg hx hE
        have hvl : leastV g m gs = (needG g gs : Int) := by unfold leastV; rw [if_pos hE]
        obtain ⟨PR, hPR⟩ : ∃ PR, plcR g m gs n ss = PR := ⟨_, rfl⟩
        obtain ⟨PE, hPE⟩ : ∃ PE, plcE g m gs n ss = PE := ⟨_, rfl⟩
        rw [hPR, hPE]
        have HPE := hide (show PE = if offW (natA ss) n < needG g gs then 4 else 0 by rw [← hPE]; simp [plcE, hsl, hv, hE])
        have HPR := hide (show PR = if PE = 0 then plcL g gs n ss g.n1 else [] by rw [← hPR, ← hPE]; rfl)
        have HK := hide hk
        have HO := hide (OpsOk.of hg hv)
        have hso := slot_ok hsl hs
        have HSO := hide (fun k hk => hso.2.2 k hk)
        have hn1 := hso.1
        have hn20 := hso.2.1
        have hnl := needG_le g gs hk.n2
        have hob : ∀ k, k ≤ n → offW (natA ss) k ≤ 320 := fun k hk => Nat.le_trans (offW_bound (M := 16) fun i hi => (HSO.out i (by omega)).2) (by omega)
        have HOB := hide hob
        have HND := hide (show needG g gs = offW (widO (natA g.ops) (natA gs) g.n1) 200 from rfl)
        obtain ⟨S, hS⟩ : ∃ S, natA ss = S := ⟨_, rfl⟩
        have HS := hide hS
        rw [hS] at HPE HSO HOB
        have hw3 := fun j => widO_le_k (natA g.ops) (natA gs) g.n1 j
        obtain ⟨nd, hnd⟩ : ∃ nd, needG g gs = nd := ⟨_, rfl⟩
        rw [hnd] at HPE HND hvl hnl
        obtain ⟨i0, hi, hz0, hz1, hz2⟩ := info_parts infoPlace_dk
        have hmm2 := @run_makeMap Try.prog
        have hmk := fun W => run_make_row' (P := Try.prog) 22 3 (.int .i64 0) 8 Try.underlying22 infoInt_dk rfl .i64 .i64 n (by omega) (by omega) W
        rw [hv] at HV
        clear hv hPR hPE hso hob hnd hS
        go_enter Try.func36, Try.ntmps36
        go_wp2_with fail
        refine HV.out.mono ?_
        rintro e W1 ⟨rfl, hB1⟩
        have HSL := hide (machines_any A2 n c2 _ ss W1 (hs.up (bstep hB0 hB1)) (by omega))
        rw [hsl] at HSL
        have hB01 := bstep hB0 hB1
        have HLE := hide (Least_any g A m c gs W1 (hg0.up hB1) (hx0.up hB1) hn hm hmm)
        rw [hE, hvl] at HLE
        have k1 := k0.below hB1 hwl
        have hwl1 : w.heap.size < W1.heap.size := Nat.lt_of_lt_of_le hwl hB1.size
        have d1 := k1.cell 0
        have d2 := k1.cell 1
        simp [Gr.v1, Gr.v2] at d1 d2
        clear hsl hB0 hB1 HV c1 c2' hE hvl k0 hwl hg0 hx0 hW
        go_wp2_with (go_at_call 69; refine HSL.out.mono ?_; rintro e w' ⟨rfl, rfl⟩)
        refine HLE.out.mono ?_
        rintro e W2 ⟨rfl, hB2⟩
        have hB02 := bstep hB01 hB2
        have k2 := k1.below hB2 hwl1
        have hwl2 : w.heap.size < W2.heap.size := Nat.lt_of_lt_of_le hwl1 hB2.size
        clear hB01 hB2 HLE HSL d1 d2 k1 hwl1
        go_wp2_with fail
        go_loop [10, 12, 42] (fun v _ i => ∃ k : Nat, k ≤ n ∧ i = .int .i64 k ∧ v = .int .i64 ((offW S k : Nat) : Int)) (fun _ _ i => n - (intOf i).toNat)
        case atStart => exact ⟨0, Nat.zero_le _, rfl, rfl⟩
        case round =>
          obtain ⟨k, hkk, rfl, rfl⟩ := hrel
          by_cases hlt : k < n
          · obtain ⟨b, off, x, hA, hb, hxk, hc⟩ := (hs.below hB02).at1 hlt
            have h1 := HSO.out k hlt
            have h2 := HS.out ▸ h1.1
            rw [hxk] at h1
            have h3 := h1.1
            injection h3 with h3
            have h4 := h1.2
            subst h3
            have e0 : W2.cell? ⟨b, off + k, none⟩ = some (.int .i64 ((S k : Nat) : Int)) := hc
            have HA := hide hA
            rw [hA]
            have HSU := hide (offW_succ S k)
            have ho1 := HOB.out (k + 1) (by omega)
            rw [HSU.out] at ho1
            obtain ⟨sv, hsv⟩ : ∃ sv, S k = sv := ⟨_, rfl⟩
            obtain ⟨ov, hov⟩ : ∃ ov, offW S k = ov := ⟨_, rfl⟩
            rw [hsv] at e0 HSU ho1 h4
            rw [hov] at HSU ho1 ⊢
            clear hsv hov h1 h2 hxk hc hA
            have q1 : (0 : Int) ≤ (k : Int) := by omega
            have q2 : (k : Int) < (n : Int) := by omega
            go_wp2
            go_round
            case rel => exact ⟨k + 1, by omega, by go_num, by rw [HSU.out]; go_num⟩
            case measure => simp [intOf]; omega
          · obtain rfl : n = k := by omega
            by_cases hall : offW S n < nd
            · have z : decide (((offW S n : Nat) : Int) < (nd : Int)) = true := by simp; omega
              have hpe := HPE.out
              rw [if_pos hall] at hpe
              have hpr := HPR.out
              rw [hpe, if_neg (by omega)] at hpr
              have HE4 := hide hpe
              have HR4 := hide hpr
              clear hpe hpr
              go_wp2
              go_ret2
              rw [HE4.out, HR4.out]
              exact ⟨none, 0, rfl, Reads.none_, hB02⟩
            · have z : decide (((offW S n : Nat) : Int) < (nd : Int)) = false := by simp; omega
              have hpe := HPE.out
              rw [if_neg hall] at hpe
              have hpr := HPR.out
              rw [if_pos hpe] at hpr
              have HE0 := hide hpe
              have HR0 := hide hpr
              clear hpe hpr HPE HPR
              obtain ⟨WW, hWW⟩ : ∃ WW, widO (natA g.ops) (natA gs) g.n1 = WW := ⟨_, rfl⟩
              have HWW := hide hWW
              rw [hWW] at HND
              simp only [hWW] at hw3
              have hi40 : ∀ j s, j < 200 → s < WW j → offW WW j + s < nd := fun j s hj hs => by
                have h1 := offW_mono WW (show j + 1 ≤ 200 from hj)
                rw [offW_succ] at h1
                have := HND.out
                omega
              have HI := hide hi40
              have hn2 := hk.n2
              clear hWW hi40 hk
              have HWD := hide (fun W hB => widths_any g A m c gs W (hg.up hB) (hx.up hB) HK.out)
              have r0 := World.rowIs_made W2 (.int .i64 0) n 3
              have r1 := r0.alloc (.map #[] 0)
              have om := OwnM.start (W2.alloc (.cells (madeCells #[.int .i64 0] n) 3)) (W2.heap.size + 1 + 1) S n WW
              have k4 := (k2.alloc (.cells (madeCells #[.int .i64 0] n) 3)).alloc (.map #[] 0)
              have hB4 := (hB02.alloc (by omega) (.cells (madeCells #[.int .i64 0] n) 3)).alloc (by simp; omega) (.map #[] 0)
              have e0 := k4.cell 0
              have e1 := k4.cell 1
              simp [Gr.v1, Gr.v2] at e0 e1
              have hsz4 : ((W2.alloc (.cells (madeCells #[.int .i64 0] n) 3)).alloc (.map #[] 0)).heap.size = W2.heap.size + 1 + 1 := by simp
              simp only [World.size_alloc] at om
              clear r0 k2
              go_wp2_with fail
              obtain ⟨W4, hW4⟩ : ∃ W4, (W2.alloc (.cells (madeCells #[.int .i64 0] n) 3)).alloc (.map #[] 0) = W4 := ⟨_, rfl⟩
              rw [hW4] at r1 om k4 hB4 e0 e1 hsz4 ⊢
              clear hW4 hmm2 hmk
              obtain ⟨bU, hbU⟩ : ∃ bU, W2.heap.size = bU := ⟨_, rfl⟩
              obtain ⟨bM, hbM⟩ : ∃ bM, W2.heap.size + 1 = bM := ⟨_, rfl⟩
              obtain ⟨bB, hbB⟩ : ∃ bB, W2.heap.size + 1 + 1 = bB := ⟨_, rfl⟩
              rw [hbB] at om hsz4
              rw [hbM] at om ⊢
              rw [hbU] at r1 hwl2 ⊢
              have x1 : bU < bB := by omega
              have x2 : bM < bB := by omega
              have x3 : bU ≠ bM := by omega
              have x4 : w.heap.size < bM := by omega
              have x5 : bB ≤ W4.heap.size := by omega
              clear hbU hbM hbB hsz4 hB02
              refine (HWD.out W4 hB4).mono ?_
              rintro e W5 ⟨cs, rfl, hcs, hget, hB5⟩
              have r2 : W5.rowIs bU 3 n (fun _ => .int .i64 0) := r1.of_block (hB5.block bU (by omega))
              have om2 := om.below hB5
              have k5 := k4.below hB5 (by omega)
              have hB05 := bstep hB4 hB5
              have x6 : bB ≤ W5.heap.size := Nat.le_trans x5 hB5.size
              have HGET := hide (fun j (hj : j < 200) => run_idx200 cs j _ hj (hget j hj))
              clear r1 om k4 hB4 e0 e1 x5 hB5 HWD hget
              rw [HWW.out] at HGET
              go_wp2_with fail
              have r2' : W5.rowIs bU 3 n (fun i => .int .i64 ((usedS S n (offW WW 0) i : Nat) : Int)) := r2
              clear r2
              go_loopw [15, 16, 17, 18, 60] (fun _ _ _ _ i wr => ∃ j : Nat, j ≤ 200 ∧ i = .int .i64 j ∧ wr.rowIs bU 3 n (fun i => .int .i64 ((usedS S n (offW WW j) i : Nat) : Int)) ∧ OwnM wr bB bM S n WW j 0 ∧ Blk wr w.heap.size 30 #[g.v1, g.v2] ∧ bB ≤ wr.heap.size ∧ Below w.heap.size w wr) (fun _ _ _ _ i _ => 200 - (intOf i).toNat)
              case atStart => exact ⟨0, Nat.zero_le _, rfl, r2', om2, k5, x6, hB05⟩
              case round =>
                clear r2' om2 k5 x6 hB05
                obtain ⟨j, hj, rfl, rU, om, kb, x6, hB⟩ := hrel
                by_cases hlt : j < 200
                · have hidx := HGET.out j hlt
                  have hwj := hw3 j
                  have q1 : (j : Int) < 200 := by omega
                  have q2 : (0 : Int) ≤ (j : Int) := by omega
                  obtain ⟨wj, hwjj⟩ : ∃ wj, WW j = wj := ⟨_, rfl⟩
                  have HWJ := hide hwjj
                  rw [hwjj] at hidx hwj
                  clear hwjj
                  go_wp2_with fail
                  have rU0 : wr.rowIs bU 3 n (fun i => .int .i64 ((usedS S n (offW WW j + 0) i : Nat) : Int)) := rU
                  clear rU hidx
                  go_loopw [17, 18, 65] (fun _ _ i wr => ∃ s : Nat, s ≤ wj ∧ i = .int .i64 s ∧ wr.rowIs bU 3 n (fun i => .int .i64 ((usedS S n (offW WW j + s) i : Nat) : Int)) ∧ OwnM wr bB bM S n WW j s ∧ Blk wr w.heap.size 30 #[g.v1, g.v2] ∧ bB ≤ wr.heap.size ∧ Below w.heap.size w wr) (fun _ _ i _ => wj - (intOf i).toNat)
                  case atStart => exact ⟨0, Nat.zero_le _, rfl, rU0, om, kb, x6, hB⟩
                  case round =>
                    clear rU0 om kb x6 hB
                    obtain ⟨s, hsj, rfl, rU, om, kb, x6, hB⟩ := hrel
                    by_cases hlts : s < wj
                    · have hi40 := HI.out j s hlt (by rw [HWJ.out]; exact hlts)
                      obtain ⟨i, hii⟩ : ∃ i, offW WW j + s = i := ⟨_, rfl⟩
                      have HII := hide hii
                      rw [hii] at hi40
                      simp only [hii] at rU
                      clear hii
                      obtain ⟨wk, hwk⟩ : ∃ wk : World, wk = wr := ⟨_, rfl⟩
                      subst hwk
                      go_wp2_with fail
                      go_loopw [17, 18, 69] (fun b _ k' wr' => ∃ k q : Nat, k ≤ n ∧ k' = .int .i64 k ∧ b = .int .i64 ((bestM S (usedS S n i) k : Nat) : Int) ∧ wr' = wk.drewN q) (fun _ _ i _ => n - (intOf i).toNat)
                      case atStart => exact ⟨0, 0, Nat.zero_le _, rfl, rfl, rfl⟩
                      case round =>
                        obtain ⟨k, q, hkn, rfl, rfl, rfl⟩ := hrel
                        by_cases hltk : k < n
                        · have hbm : bestM S (usedS S n i) k < n := by
                            by_cases e : k = 0
                            · subst e; exact hltk
                            · exact Nat.lt_trans (bestM_lt S _ (by omega)) hltk
                          have HBN := hide (bestM_succ S (usedS S n i) k)
                          obtain ⟨bm, hbmm⟩ : ∃ bm, bestM S (usedS S n i) k = bm := ⟨_, rfl⟩
                          rw [hbmm] at hbm HBN ⊢
                          obtain ⟨b, off, x, hA, hb, hxk, hc⟩ := (hs.below hB).at1 hltk
                          obtain ⟨b', off', y, hA', hb', hyk, hc'⟩ := (hs.below hB).at1 hbm
                          have h1 := (HSO.out k hltk).1
                          have h2 := (HSO.out bm hbm).1
                          have h3 := (HSO.out k hltk).2
                          have h4 := (HSO.out bm hbm).2
                          rw [hxk] at h1
                          rw [hyk] at h2
                          injection h1 with h1
                          injection h2 with h2
                          subst h1 h2
                          rw [hA] at hA'
                          injection hA' with hA'
                          injection hA' with hA1 hA2
                          subst hA1 hA2
                          have u1 := rU.cell hltk
                          have u2 := rU.cell hbm
                          have u3 := usedS_le S n i k
                          have u4 := usedS_le S n i bm
                          have f0 : wk.cell? ⟨b, off + k, none⟩ = some (.int .i64 ((S k : Nat) : Int)) := hc
                          have f1 : wk.cell? ⟨b, off + bm, none⟩ = some (.int .i64 ((S bm : Nat) : Int)) := hc'
                          have f2 : wk.cell? ⟨bU, k, none⟩ = some (.int .i64 ((usedS S n i k : Nat) : Int)) := u1
                          have f3 : wk.cell? ⟨bU, bm, none⟩ = some (.int .i64 ((usedS S n i bm : Nat) : Int)) := u2
                          clear hc hc' u1 u2 hxk hyk hbmm
                          obtain ⟨a1, ha1⟩ : ∃ a1, S k = a1 := ⟨_, rfl⟩
                          obtain ⟨a2, ha2⟩ : ∃ a2, S bm = a2 := ⟨_, rfl⟩
                          obtain ⟨a3, ha3⟩ : ∃ a3, usedS S n i k = a3 := ⟨_, rfl⟩
                          obtain ⟨a4, ha4⟩ : ∃ a4, usedS S n i bm = a4 := ⟨_, rfl⟩
                          rw [ha1] at f0 h3 HBN
                          rw [ha2] at f1 h4 HBN
                          rw [ha3] at f2 u3 HBN
                          rw [ha4] at f3 u4 HBN
                          have HA := hide hA
                          rw [hA]
                          clear ha1 ha2 ha3 ha4 hA
                          have w1 : IntKind.i64.wrap ((a1 : Int) - (a3 : Int)) = (a1 : Int) - (a3 : Int) := by rw [IntKind.wrap_i64]; omega
                          have w2 : IntKind.i64.wrap ((a2 : Int) - (a4 : Int)) = (a2 : Int) - (a4 : Int) := by rw [IntKind.wrap_i64]; omega
                          have q3 : (0 : Int) ≤ (k : Int) := by omega
                          have q4 : (k : Int) < (n : Int) := by omega
                          have q5 : (0 : Int) ≤ (bm : Int) := by omega
                          have q6 : (bm : Int) < (n : Int) := by omega
                          by_cases hgt : (a2 : Int) - (a4 : Int) < (a1 : Int) - (a3 : Int)
                          · have z : decide ((a2 : Int) - (a4 : Int) < (a1 : Int) - (a3 : Int)) = true := by simpa using hgt
                            have HN := hide (show bestM S (usedS S n i) (k + 1) = k by rw [HBN.out, if_pos hgt])
                            clear HBN hgt
                            go_wp2_with fail
                            go_quiet (fail)
                            go_wp2
                            go_roundw
                            case rel => exact ⟨k + 1, _, by omega, by go_num, by rw [HN.out], rfl⟩
                            case measure => simp [intOf]; omega
                          · have z : decide ((a2 : Int) - (a4 : Int) < (a1 : Int) - (a3 : Int)) = false := by simpa using hgt
                            have HN := hide (show bestM S (usedS S n i) (k + 1) = bm by rw [HBN.out, if_neg hgt])
                            clear HBN hgt
                            go_wp2_with fail
                            go_quiet (fail)
                            go_wp2
                            go_roundw
                            case rel => exact ⟨k + 1, _, by omega, by go_num, by rw [HN.out], rfl⟩
                            case measure => simp [intOf]; omega
                        · obtain rfl : n = k := by omega
                          have hbb : pickS S n i < n := bestM_lt S _ (by omega)
                          have hnw : encPl (plP S n (offW WW j + s)) = [.int .i64 ((pickS S n i : Nat) : Int), .int .i64 ((usedS S n i (pickS S n i) : Nat) : Int)] := by rw [HII.out]; rfl
                          have hus := fun a => usedS_succ S n i a
                          have hui := usedS_le S n i (pickS S n i)
                          have u1 := rU.cell hbb
                          have hcc : offW WW j + s < 1000000 := by rw [HII.out]; omega
                          rw [show bestM S (usedS S n i) n = pickS S n i from rfl]
                          obtain ⟨bb, hbbb⟩ : ∃ bb, pickS S n i = bb := ⟨_, rfl⟩
                          rw [hbbb] at hbb hnw hui u1 ⊢
                          simp only [hbbb] at hus
                          clear hbbb
                          obtain ⟨uu, huu⟩ : ∃ uu, usedS S n i bb = uu := ⟨_, rfl⟩
                          rw [huu] at hnw hui u1
                          have HUU := hide huu
                          have HUS := hide hus
                          clear huu hus
                          obtain ⟨v, hlk, hown, hvb⟩ := om.look_own hlt
                          obtain ⟨CL, hCL⟩ : ∃ CL, (rwP S n WW j s).flatMap encPl = CL := ⟨_, rfl⟩
                          rw [hCL] at hown
                          obtain ⟨X, hX⟩ : ∃ X, wk.drewN q = X := ⟨_, rfl⟩
                          have uX : X.cell? ⟨bU, bb, none⟩ = some (.int .i64 (uu : Int)) := by rw [← hX]; exact u1
                          have rX : X.rowIs bU 3 n (fun a => .int .i64 ((usedS S n i a : Nat) : Int)) := by rw [← hX]; exact rU.of_block rfl
                          have oX : OwnM X bB bM S n WW j s := by rw [← hX]; exact om.drewN q
                          have kX : Blk X w.heap.size 30 #[g.v1, g.v2] := by rw [← hX]; exact kb
                          have sX : bB ≤ X.heap.size := by rw [← hX]; exact x6
                          have bX : Below w.heap.size w X := by rw [← hX]; exact below_drewN hB q
                          have vX : X.ownsRow bB 85 2 v s CL := by rw [← hX]; exact own_block hown (fun _ _ => rfl)
                          have lX : ∀ w' : World, w'.heap[bM]? = X.heap[bM]? → (Instr.lookup 101 (.map (some bM)) (.int .i64 (j : Int)) false).run Try.prog w' = .ok v w' := by rw [← hX]; exact hlk
                          rw [hX]
                          clear hX u1 rU om kb x6 hB hown hlk
                          have hl1 := lX X.drew rfl
                          have hl2 := lX ((X.alloc (.cells #[.int .i64 (bb : Int), .int .i64 (uu : Int)] 85)).drew) (blk_alloc_lt _ _ _ oX.lt)
                          have hrd : Reads (X.alloc (.cells #[.int .i64 (bb : Int), .int .i64 (uu : Int)] 85)).drew (X.heap.size + 1) 2 (some ⟨X.heap.size, 0, none⟩) 1 [.int .i64 (bb : Int), .int .i64 (uu : Int)] := by
                            refine ⟨rfl, fun _ => ⟨X.heap.size, 0, rfl, by omega, fun j u hu => ?_⟩⟩
                            rw [Nat.zero_add]
                            exact ((Blk.new X 85 #[.int .i64 (bb : Int), .int .i64 (uu : Int)]).cell j).trans (by simpa using hu)
                          have oA := (oX.alloc (.cells #[.int .i64 (bb : Int), .int .i64 (uu : Int)] 85)).drew
                          have vA := (vX.alloc (.cells #[.int .i64 (bb : Int), .int .i64 (uu : Int)] 85)).drew
                          have hbX : bU < X.heap.size := by omega
                          have uA : ((X.alloc (.cells #[.int .i64 (bb : Int), .int .i64 (uu : Int)] 85)).drew).cell? ⟨bU, bb, none⟩ = some (.int .i64 (uu : Int)) := (World.cell?_alloc_lt X _ ⟨bU, bb, none⟩ hbX).trans uX
                          have hs400 : s + 1 ≤ 1000000 := by omega
                          have PUT := fun (v' : Value) (w1 : World) => oA.put (v' := v') (w1 := w1) hlt hcc hl2 hnw
                          rw [hCL] at PUT
                          have HCL := hide hCL
                          clear hCL hnw lX
                          have q3 : (0 : Int) ≤ (bb : Int) := by omega
                          have q4 : (bb : Int) < (n : Int) := by omega
                          have xs : bB ≤ ((X.alloc (.cells #[.int .i64 (bb : Int), .int .i64 (uu : Int)] 85)).drew).heap.size := by simp [World.drew]; omega
                          have bA : Below w.heap.size w ((X.alloc (.cells #[.int .i64 (bb : Int), .int .i64 (uu : Int)] 85)).drew) := (bX.alloc (by omega) _).drew
                          have vA0 := own_mono vA (show w.heap.size ≤ bB by omega)
                          have rA : ((X.alloc (.cells #[.int .i64 (bb : Int), .int .i64 (uu : Int)] 85)).drew).rowIs bU 3 n (fun a => .int .i64 ((usedS S n i a : Nat) : Int)) := (rX.alloc _).of_block rfl
                          have kA : Blk ((X.alloc (.cells #[.int .i64 (bb : Int), .int .i64 (uu : Int)] 85)).drew) w.heap.size 30 #[g.v1, g.v2] := kX.alloc _
                          have xlt : bU < ((X.alloc (.cells #[.int .i64 (bb : Int), .int .i64 (uu : Int)] 85)).drew).heap.size := by simp [World.drew]; omega
                          have nU : some bU ≠ v.ownBlock := fun e => by have := (vA.lt _ e.symm).1; omega
                          have nB : some w.heap.size ≠ v.ownBlock := fun e => by have := (vA.lt _ e.symm).1; omega
                          go_wp2_with fail
                          go_region_law ((refine step_append_any _ (by rfl) _ _ _ (by rfl) bB 85 i0 _ 2 16 Try.underlying44 hi hz0 hz1 hz2 rfl (by omega) v s CL (by rfl) vA (X.heap.size + 1) (some ⟨X.heap.size, 0, none⟩) 1 1 [.int .i64 (bb : Int), .int .i64 (uu : Int)] (by rfl) hrd (by simp [Value.oneCell']) (by unfold maxLen; omega) (by omega) xs ?_; intro v3 w3 hown3 hgrow hat; obtain ⟨w4, hrun, om4, hgM⟩ := PUT v3 w3 hown3 hgrow hat))
                          all_goals
                            have hB3 : Below w.heap.size w w3 := below_append bA vA0 (by simp [World.drew]; omega) hgrow
                            have hs3 : bB ≤ w3.heap.size := Nat.le_trans xs hgrow.size
                            have hB4 : Below w.heap.size w w4 := hB3.grown hgM (by omega) (fun e he => by injection he with he; omega)
                            have hs4 : bB ≤ w4.heap.size := Nat.le_trans hs3 hgM.size
                            have r4 : w4.rowIs bU 3 n (fun a => .int .i64 ((usedS S n i a : Nat) : Int)) := (rA.of_block (hgrow.block bU xlt nU)).of_block (hgM.block bU (by omega) (fun e => x3 (by injection e)))
                            have k4 := (kA.grown hgrow nB).grown hgM (fun e => by injection e with e; omega)
                            have u4 := r4.cell hbb
                            have fr4 := r4.frozen bb
                            have huu4 := HUU.out
                            rw [huu4] at u4
                            have r6 : (w4.setCell ⟨bU, bb, none⟩ (.int .i64 ((uu : Int) + 1))).rowIs bU 3 n (fun a => .int .i64 ((usedS S n (offW WW j + (s + 1)) a : Nat) : Int)) := (r4.set bb _).congr fun a _ => by
                              have e : offW WW j + (s + 1) = i + 1 := by have := HII.out; omega
                              rw [e, HUS.out a]
                              by_cases e2 : a = bb
                              · rw [if_pos e2, if_pos e2, e2, HUU.out]; simp
                              · rw [if_neg e2, if_neg e2]
                            have om6 := om4.setCell (a := ⟨bU, bb, none⟩) x1 (fun e => x3 e.symm) (.int .i64 ((uu : Int) + 1))
                            have k6 : Blk (w4.setCell ⟨bU, bb, none⟩ (.int .i64 ((uu : Int) + 1))) w.heap.size 30 #[g.v1, g.v2] := k4.far (show w.heap.size ≠ bU by omega) _
                            have hB6 := hB4.setCell (p := ⟨bU, bb, none⟩) (by show w.heap.size ≤ bU; omega) (.int .i64 ((uu : Int) + 1))
                            have hs6 : bB ≤ (w4.setCell ⟨bU, bb, none⟩ (.int .i64 ((uu : Int) + 1))).heap.size := by rw [World.size_setCell]; exact hs4
                            have HR6 := hide r6
                            have HO6 := hide om6
                            have HK6 := hide k6
                            clear hB3 hB4 r4 k4 hgrow hgM hat hown3 om4 hrun r6 om6 k6 huu4 bA vA0 vA rA kA oA hl1 hl2 hrd uA uX rX oX kX sX bX vX PUT hs3
                            go_wp2
                            go_roundw
                            case rel => exact ⟨s + 1, by omega, by go_num, HR6.out, HO6.out, HK6.out, hs6, hB6⟩
                            case measure => simp [intOf]; omega
                    · obtain rfl : s = wj := by omega
                      have om3 : OwnM wr bB bM S n WW (j + 1) 0 := by
                        rw [← HWJ.out] at om
                        exact om.next
                      have rU3 : wr.rowIs bU 3 n (fun i => .int .i64 ((usedS S n (offW WW (j + 1)) i : Nat) : Int)) := by
                        rw [offW_succ, HWJ.out]; exact rU
                      have HOM := hide om3
                      have HRU := hide rU3
                      have HKB := hide kb
                      clear om om3 rU rU3 kb
                      go_wp2
                      go_roundw
                      case rel => exact ⟨j + 1, by omega, by go_num, HRU.out, HOM.out, HKB.out, x6, hB⟩
                      case measure => simp [intOf]; omega
                · have hj200 : j = 200 := by omega
                  have hge : (200 : Int) ≤ (j : Int) := by omega
                  rw [hj200] at om
                  clear hj200 hj hlt
                  obtain ⟨wk, hwk⟩ : ∃ wk : World, wk = wr := ⟨_, rfl⟩
                  subst hwk
                  have kC := kb.alloc (.cells Try.zeroCells97 97)
                  have rC := roots_new wk
                  have bC := hB.alloc (by omega) (.cells Try.zeroCells97 97)
                  have HLK := hide (fun i (hi : i < 200) => om.look hi)
                  have hbM := om.lt
                  clear rU om kb hB HGET
                  go_upto_region 33 with fail
                  obtain ⟨Wc, hWc⟩ : ∃ Wc, wk.alloc (.cells Try.zeroCells97 97) = Wc := ⟨_, rfl⟩
                  have hkeep : ∀ gg, gg < wk.heap.size → Wc.heap[gg]? = wk.heap[gg]? := fun gg hgg => by rw [← hWc]; exact blk_alloc_lt _ _ _ hgg
                  have hszc : Wc.heap.size = wk.heap.size + 1 := by rw [← hWc]; simp
                  rw [hWc] at kC rC bC ⊢
                  clear hWc
                  obtain ⟨cb, hcb⟩ : ∃ cb, wk.heap.size = cb := ⟨_, rfl⟩
                  rw [hcb] at rC hkeep hszc hbM x6 ⊢
                  have x7 : w.heap.size < cb := by omega
                  have e0 := kC.cell 0
                  have e1 := kC.cell 1
                  simp [Gr.v1, Gr.v2] at e0 e1
                  go_wp2_with fail
                  clear e0 e1
                  have hBr := Below.refl cb Wc
                  have ow0 : Wc.ownsRow (cb + 1) 85 2 (.slice none 0 0) 0 [] := World.ownsRow_nil _ _ _ _
                  go_loopw [20, 22, 117] (fun v _ i wr => ∃ t : Nat, t ≤ g.n1 ∧ i = .int .i64 t ∧ wr.ownsRow (cb + 1) 85 2 v t ((plcL g gs n ss t).flatMap encPl) ∧ wr.rowIs cb 97 200 (fun o => .int .i64 ((cntO (natA g.ops) t o : Nat) : Int)) ∧ Below cb Wc wr) (fun _ _ i _ => g.n1 - (intOf i).toNat)
                  case atStart => exact ⟨0, Nat.zero_le _, rfl, ow0, rC, hBr⟩
                  case round =>
                    clear rC hBr ow0
                    obtain ⟨t, htn, rfl, hown, rC, hBr⟩ := hrel
                    have hBw := bC.trans (hBr.mono (by omega))
                    by_cases hlt : t < g.n1
                    · have hop := HO.out.op t hlt
                      have holt := HO.out.lt t hlt
                      have hom := HK.out.opm t hlt
                      have hpf : plcF g gs n ss t = plP S n (offW WW (natA gs (natA g.ops t)) + cntO (natA g.ops) t (natA g.ops t)) := by unfold plcF idxT; rw [HS.out, HWW.out]
                      have hcw : cntO (natA g.ops) t (natA g.ops t) < WW (natA gs (natA g.ops t)) := by rw [← HWW.out]; exact cnt_lt_wid _ _ hlt
                      have hcs := fun i => cntO_succ (natA g.ops) t i
                      have hcl := cntO_le (natA g.ops) t (natA g.ops t)
                      obtain ⟨bo, oo, x, hao, hbo, hxo, hco⟩ := (hg.r1.below hBw).at1 hlt
                      rw [hxo] at hop
                      injection hop with hop
                      subst hop
                      obtain ⟨o, hoo⟩ : ∃ o, natA g.ops t = o := ⟨_, rfl⟩
                      rw [hoo] at hco holt hom hpf hcw hcl
                      simp only [hoo] at hcs
                      obtain ⟨bg, og, y, hag, hbg, hyg, hcg⟩ := (hx.below hBw).at1 hom
                      have h2 := HK.out.gr o hom
                      have hjg := HK.out.grm o hom
                      rw [hyg] at h2
                      injection h2 with h2
                      subst h2
                      obtain ⟨jg, hjj⟩ : ∃ jg, natA gs o = jg := ⟨_, rfl⟩
                      rw [hjj] at hcg hpf hcw hjg
                      have i1 : wr.cell? ⟨bg, og + o, none⟩ = some (.int .i64 (jg : Int)) := hcg
                      have ic0 : wr.cell? ⟨bo, oo + t, none⟩ = some (.int .i64 (o : Int)) := hco
                      obtain ⟨cv, hcv⟩ : ∃ cv, cntO (natA g.ops) t o = cv := ⟨_, rfl⟩
                      rw [hcv] at hpf hcw hcl
                      have eC := rC.cell holt
                      simp only [hcv] at eC
                      obtain ⟨v, hlk, hrow, hvM⟩ := HLK.out jg hjg
                      rw [show LL WW 200 0 jg = WW jg by unfold LL; rw [if_pos hjg]] at hrow
                      obtain ⟨Ag, cg, hvv, hRg⟩ := own_form hrow
                      rw [hcb] at hRg
                      have hRw : Reads wr cb 2 Ag (WW jg) ((rwP S n WW jg (WW jg)).flatMap encPl) := hRg.keep (fun p hp => (hBr.cell hp).trans (World.cell?_of_block (hkeep _ hp)))
                      have hl1 := hlk wr.drew ((hBr.block bM hbM).trans (hkeep bM hbM))
                      obtain ⟨b, off, p, hA, hb, hpk, hcp⟩ := hRw.elem encPl_len (rwP_len _ _ _ _ _) hcw
                      rw [rwP_get _ _ _ _ hcw] at hpk
                      injection hpk with hpk
                      have HSN := hide (show (plcL g gs n ss (t + 1)).flatMap encPl = (plcL g gs n ss t).flatMap encPl ++ [.int .i64 p.m, .int .i64 p.s] by rw [plcL_succ, flatP_snoc, hpf, hpk])
                      have c0 : wr.cell? ⟨b, off + cv * 2, none⟩ = some (.int .i64 p.m) := by simpa using hcp 0 _ rfl
                      have c1 : wr.cell? ⟨b, off + cv * 2 + 1, none⟩ = some (.int .i64 p.s) := by simpa [← Nat.add_assoc] using hcp 1 _ rfl
                      obtain ⟨wg, hwg⟩ : ∃ wg, WW jg = wg := ⟨_, rfl⟩
                      rw [hvv, hA, hwg] at hl1
                      rw [hwg] at hcw
                      have HCS := hide hcs
                      have HOO := hide hoo
                      have HCV := hide hcv
                      have hwgl := hw3 jg
                      rw [hwg] at hwgl
                      clear hcp hpk hpf hRw hRg hlk hrow hvM hvv hcs hcv hoo hxo hyg hco hcg hjj hwg hA
                      obtain ⟨PL, hPL⟩ : ∃ PL, (plcL g gs n ss t).flatMap encPl = PL := ⟨_, rfl⟩
                      have HPL := hide hPL
                      rw [hPL] at hown
                      clear hPL
                      have k1 := kC.below hBr x7
                      have hszr := hBr.size
                      have f0 := k1.cell 0
                      simp [Gr.v1] at f0
                      rw [hao]
                      rw [hag]
                      have hrd : Reads (wr.alloc (.cells #[.int .i64 p.m, .int .i64 p.s] 85)).drew (wr.heap.size + 1) 2 (some ⟨wr.heap.size, 0, none⟩) 1 [.int .i64 p.m, .int .i64 p.s] := by
                        refine ⟨rfl, fun _ => ⟨wr.heap.size, 0, rfl, by omega, fun j u hu => ?_⟩⟩
                        rw [Nat.zero_add]
                        exact ((Blk.new wr 85 #[.int .i64 p.m, .int .i64 p.s]).cell j).trans (by simpa using hu)
                      have vA := (hown.alloc (.cells #[.int .i64 p.m, .int .i64 p.s] 85)).drew
                      have bA : Below cb Wc ((wr.alloc (.cells #[.int .i64 p.m, .int .i64 p.s] 85)).drew) := (hBr.alloc (by omega) _).drew
                      have vA0 := own_mono vA (show cb ≤ cb + 1 by omega)
                      have rA : ((wr.alloc (.cells #[.int .i64 p.m, .int .i64 p.s] 85)).drew).rowIs cb 97 200 (fun o => .int .i64 ((cntO (natA g.ops) t o : Nat) : Int)) := (rC.alloc _).of_block rfl
                      have xs : cb + 1 ≤ ((wr.alloc (.cells #[.int .i64 p.m, .int .i64 p.s] 85)).drew).heap.size := by simp [World.drew]; omega
                      have nC : some cb ≠ u20.ownBlock := fun e => by have := (vA.lt _ e.symm).1; omega
                      have hbc : b < wr.heap.size := by omega
                      have q1 : (0 : Int) ≤ (t : Int) := by omega
                      have q2 : (t : Int) < (g.n1 : Int) := by omega
                      have q3 : (0 : Int) ≤ (o : Int) := by omega
                      have q4 : (o : Int) < 200 := by omega
                      have q5 : (o : Int) < (m : Int) := by omega
                      have q6 : (0 : Int) ≤ (cv : Int) := by omega
                      have q7 : (cv : Int) < (wg : Int) := by omega
                      clear kC rC hown hBr hBw
                      go_wp2_with fail
                      go_region_law ((refine step_append_any _ (by rfl) _ _ _ (by rfl) (cb + 1) 85 i0 _ 2 16 Try.underlying44 hi hz0 hz1 hz2 rfl (by omega) _ t PL (by rfl) vA (wr.heap.size + 1) (some ⟨wr.heap.size, 0, none⟩) 1 1 [.int .i64 p.m, .int .i64 p.s] (by rfl) hrd (by simp [Value.oneCell']) (by unfold maxLen; omega) (by omega) xs ?_; intro v3 w3 hown3 hgrow hat))
                      all_goals
                        have hB3 : Below cb Wc w3 := below_append bA vA0 (by simp [World.drew]; omega) hgrow
                        have hs3 : cb + 1 ≤ w3.heap.size := Nat.le_trans xs hgrow.size
                        have r3 : w3.rowIs cb 97 200 (fun o => .int .i64 ((cntO (natA g.ops) t o : Nat) : Int)) := rA.of_block (hgrow.block cb (by omega) nC)
                        have g4 := r3.cell holt
                        have fr4 := r3.frozen o
                        have hcv4 := HCV.out
                        simp only [hcv4] at g4
                        have r6 : (w3.setCell ⟨cb, o, none⟩ (.int .i64 ((cv : Int) + 1))).rowIs cb 97 200 (fun i => .int .i64 ((cntO (natA g.ops) (t + 1) i : Nat) : Int)) := (r3.set o _).congr fun a _ => by
                          rw [HCS.out a]
                          by_cases e2 : a = o
                          · rw [if_pos e2, if_pos e2.symm, e2, HCV.out]; simp
                          · rw [if_neg e2, if_neg (fun h => e2 h.symm)]
                        have hB6 := hB3.setCell (p := ⟨cb, o, none⟩) (by show cb ≤ cb; omega) (.int .i64 ((cv : Int) + 1))
                        have ow6 : (w3.setCell ⟨cb, o, none⟩ (.int .i64 ((cv : Int) + 1))).ownsRow (cb + 1) 85 2 v3 (t + 1) ((plcL g gs n ss (t + 1)).flatMap encPl) := by
                          rw [HSN.out, HPL.out]
                          exact own_block hown3 fun gg hgg => blk_setCell_other _ _ _ _ (by have := (hown3.lt gg hgg).1; show gg ≠ cb; omega)
                        have HR6 := hide r6
                        have HO6 := hide ow6
                        clear hB3 r3 hgrow hat hown3 r6 ow6 hcv4 bA vA0 vA rA hl1 hrd c0 c1 ic0 i1 f0 hs3
                        go_wp2
                        go_roundw
                        case rel => exact ⟨t + 1, by omega, by go_num, HO6.out, HR6.out, hB6⟩
                        case measure => simp [intOf]; omega
                    · obtain rfl : g.n1 = t := by omega
                      obtain ⟨A', c', rfl, hR⟩ := own_form hown
                      clear rC kC
                      go_wp2
                      go_ret2
                      rw [HR0.out, HE0.out, plcL_len]
                      exact ⟨A', c', rfl, hR, hBw⟩
      · have z0 : (E != 0) = true := by simpa using h0
        have he : plcE g m gs n ss = E := by simp [plcE, hsl, hv, hE, h0]
        rw [plcR_bad (by omega), he]
        rw [hv] at HV
        clear hv he
        have hvl : leastV g m gs = 0 := by unfold leastV; rw [if_neg (by rw [hE]; exact h0)]
        go_enter Try.func36, Try.ntmps36
        go_wp2_with fail
        refine HV.out.mono ?_
        rintro e W1 ⟨rfl, hB1⟩
        have HSL := hide (machines_any A2 n c2 _ ss W1 (hs.up (bstep hB0 hB1)) (by omega))
        rw [hsl] at HSL
        have hB01 := bstep hB0 hB1
        have HLE := hide (Least_any g A m c gs W1 (hg0.up hB1) (hx0.up hB1) hn hm hmm)
        rw [hE, hvl] at HLE
        have k1 := k0.below hB1 hwl
        have d1 := k1.cell 0
        have d2 := k1.cell 1
        simp [Gr.v1, Gr.v2] at d1 d2
        clear hsl hB0 hB1 HV c1 c2' hE hvl k0 hwl hg0 hx0
        go_wp2_with (go_at_call 69; refine HSL.out.mono ?_; rintro e w' ⟨rfl, rfl⟩)
        refine HLE.out.mono ?_
        rintro e W2 ⟨rfl, hB2⟩
        have HB := hide (bstep hB01 hB2)
        clear hB01 hB2 HLE HSL d1 d2 k1
        go_wp2
        go_ret2
        exact ⟨none, 0, rfl, Reads.none_, HB.out⟩
end Go.Proofs.Ytblepaocekojbaa
