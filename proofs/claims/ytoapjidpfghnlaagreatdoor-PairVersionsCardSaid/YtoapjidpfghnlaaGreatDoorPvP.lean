/-
  The walk of pair.Versions. No condition.
-/
import Derived.Test.YtoapjidpfghnlaaGreatDoorPvN
import Derived.Test.YtoapjidpfghnlaaGreatDoorPrJ
namespace Go.Proofs.YtoapjidpfghnlaaGreatDoor
open Go.RowKit
attribute [local go_sem] Oper.semAt_some wide_fn wide_depth
set_option linter.unusedVariables false
set_option linter.unusedSimpArgs false

theorem versions1_any (t : Int) (A : Option Addr) (n c : Nat) (r : Rw) (b : Nat) (m : Int) (w : World) (h : w.cell? ⟨b, 0, none⟩ = some (.int .i64 m)) (hl : r.length = n) :
    Calls Tryz.prog 86 #[.agg #[.int .i64 t, .slice A n c], .pointer (some ⟨b, 0, none⟩)] w (RetV w (.bool (!decide ((r.length : Int) = m)))) := by
  subst hl
  have hB := below_val (w := w) #[.int .i64 t, .slice A r.length c] 36
  have k1 := Blk.new w 36 #[.int .i64 t, .slice A r.length c]
  have hb := (hB.cell (p := ⟨b, 0, none⟩) (World.block_lt_of_cell? _ _ h)).trans h
  obtain ⟨n, hn⟩ : ∃ n, r.length = n := ⟨_, rfl⟩
  rw [hn] at hB k1 hb ⊢
  clear h hn
  by_cases hm : (n : Int) = m
  · have z1 : ((n : Int) != m) = false := by simpa using hm
    have z2 : ((n : Int) == m) = true := by simpa using hm
    have HX := hide (show false = !decide ((n : Int) = m) by simp [hm])
    clear hm
    go_enter Tryz.func86, Tryz.ntmps86
    go_upto_region 1 with fail
    obtain ⟨W, hW⟩ : ∃ W, w.alloc (.cells #[.int .i64 t, .slice A n c] 36) = W := ⟨_, rfl⟩
    rw [hW] at hB k1 hb ⊢
    clear hW
    have c1 : W.cell? ⟨w.heap.size, 1, none⟩ = some (.slice A n c) := by simpa using k1.cell 1
    clear k1
    go_wp2
    go_ret
    exact ⟨ret_bool HX.out, hB⟩
  · have z1 : ((n : Int) != m) = true := by simpa using hm
    have z2 : ((n : Int) == m) = false := by simpa using hm
    have HX := hide (show true = !decide ((n : Int) = m) by simp [hm])
    clear hm
    go_enter Tryz.func86, Tryz.ntmps86
    go_upto_region 1 with fail
    obtain ⟨W, hW⟩ : ∃ W, w.alloc (.cells #[.int .i64 t, .slice A n c] 36) = W := ⟨_, rfl⟩
    rw [hW] at hB k1 hb ⊢
    clear hW
    have c1 : W.cell? ⟨w.heap.size, 1, none⟩ = some (.slice A n c) := by simpa using k1.cell 1
    clear k1
    go_wp2
    go_ret
    exact ⟨ret_bool HX.out, hB⟩
theorem overB_snoc' (l : List Te) (n : Nat) (x : Te) : overB (l ++ [x]) n = (overB l n || decide (8 < x.2.length + n)) := by unfold overB; rw [List.any_append]; simp
theorem overB_at' {l : List Te} {n k : Nat} {x : Te} (hx : l[k]? = some x) (h : 8 < x.2.length + n) : overB l n = true := by
  unfold overB
  rw [List.any_eq_true]
  exact ⟨x, List.mem_of_getElem? hx, by simpa using h⟩
theorem RowsE.grown {w w' : World} {base B : Nat} {e : TypeId} {size k : Nat} {v : Value} {xs : List Value} {l : List Ev} (h : RowsE w B l) (ho : w.ownsRow base e size v k xs) (he : e ≠ 102) (hB : B ≤ base) (hg : w.grownBy w' v.ownBlock) : RowsE w' B l := fun i hi => (h i hi).grown ho he hB hg
set_option maxRecDepth 100000 in
set_option maxHeartbeats 16000000 in
theorem Versions_any (A1 : Option Addr) (n1 c1 : Nat) (on : List Int) (A2 : Option Addr) (n2 c2 : Nat) (others : List Int) (width : Int) (A3 : Option Addr) (n3 c3 : Nat) (ll : List Ev) (A4 : Option Addr) (n4 c4 : Nat) (lr : List Ev) (w : World)
    (h1 : Reads w w.heap.size 1 A1 n1 (on.map (Value.int .i64))) (h2 : Reads w w.heap.size 1 A2 n2 (others.map (Value.int .i64))) (hn1 : n1 ≤ 1000) (hn2 : n2 ≤ 1000) (h3 : EvR w w.heap.size A3 n3 ll) (h4 : EvR w w.heap.size A4 n4 lr) (hm3 : n3 ≤ 100000) (hm4 : n4 ≤ 100000)
    (hc3 : ∀ x ∈ ll, x.n ≤ x.c) (hc4 : ∀ x ∈ lr, x.n ≤ x.c) (ht : Tab w) :
    Calls Tryz.prog 19 #[.slice A1 n1 c1, .slice A2 n2 c2, .int .i64 width, .slice A3 n3 c3, .slice A4 n4 c4] w (RetEvE w (verB on others width (dE ll) (dE lr))) := by
  obtain ⟨i0, hi0, hz0, hz1, hz2⟩ := info_parts3 infoEv
  obtain ⟨p, hp⟩ : ∃ p, verB on others width (dE ll) (dE lr) = p := ⟨_, rfl⟩
  rw [hp]
  have HL1 := hide h1.len1
  have HL2 := hide h2.len1
  have HL3 := hide h3.len
  have HL4 := hide h4.len
  unfold verB verE at hp
  obtain ⟨o1, r1⟩ : ∃ b, evsB (dE ll) = b := ⟨_, rfl⟩
  obtain ⟨o2, r2⟩ : ∃ b, evsB (dE lr) = b := ⟨_, rfl⟩
  obtain ⟨o3, r3⟩ : ∃ b, fitK on others = b := ⟨_, rfl⟩
  obtain ⟨o4, r4⟩ : ∃ b, wideB (dE lr) width = b := ⟨_, rfl⟩
  obtain ⟨o5, r5⟩ : ∃ b, insK on 8 = b := ⟨_, rfl⟩
  obtain ⟨o6, r6⟩ : ∃ b, insK others width = b := ⟨_, rfl⟩
  obtain ⟨o7, r7⟩ : ∃ b, hasE (dE ll) on = b := ⟨_, rfl⟩
  obtain ⟨o8, r8⟩ : ∃ b, btw width 0 8 = b := ⟨_, rfl⟩
  rw [r1, r2, r3, r4, r5, r6, r7, r8] at hp
  have HP := hide hp
  have R1 := hide r1
  have R2 := hide r2
  have R3 := hide r3
  have R4 := hide r4
  have R5 := hide r5
  have R6 := hide r6
  have R7 := hide r7
  have R8 := hide r8
  clear hp r1 r2 r3 r4 r5 r6 r7 r8
  have HC3 := hide hc3
  have HC4 := hide hc4
  have HT := hide ht
  have PA := hide h1
  have PB := hide h2
  have PC := hide h3
  have PD := hide h4
  clear h1 h2 h3 h4 hc3 hc4 ht
  have hB0 : Below w.heap.size w ((w.alloc (.cells #[.int .i64 width] 3)).alloc (.cells #[.slice A1 n1 c1, .slice A2 n2 c2] 91)) := ((Below.refl _ _).alloc (Nat.le_refl _) _).alloc (by simp) _
  have x0 := (Boxed.new w 3 (.int .i64 width)).alloc (.cells #[.slice A1 n1 c1, .slice A2 n2 c2] 91)
  have x1 := Blk.new (w.alloc (.cells #[.int .i64 width] 3)) 91 #[.slice A1 n1 c1, .slice A2 n2 c2]
  obtain ⟨kb, hkb⟩ : ∃ kb, w.heap.size = kb := ⟨_, rfl⟩
  have hs0 : ((w.alloc (.cells #[.int .i64 width] 3)).alloc (.cells #[.slice A1 n1 c1, .slice A2 n2 c2] 91)).heap.size = kb + 2 := by simp [hkb]
  simp only [World.size_alloc, hkb] at x1
  rw [hkb] at x0
  go_enter Tryz.func19, Tryz.ntmps19
  go_wp2_with fail
  try rw [hkb]
  obtain ⟨W0, hW0⟩ : ∃ W0, ((w.alloc (.cells #[.int .i64 width] 3)).alloc (.cells #[.slice A1 n1 c1, .slice A2 n2 c2] 91)) = W0 := ⟨_, rfl⟩
  rw [hW0] at hB0 x0 x1 hs0 ⊢
  clear hW0
  have X0 := hide x0
  have X1 := hide x1
  clear x0 x1
  have HB0 := hide hB0
  have bk0 : Below W0.heap.size W0 W0 := Below.refl _ _
  refine (events_any A3 n3 c3 ll W0 (PC.out.step' hB0)).mono ?_
  rintro e W1 ⟨rfl, hb⟩
  have hB1 := bstep hB0 hb
  have bk1 : Below W0.heap.size W0 W1 := bstep bk0 hb
  clear hb hB0 bk0
  rw [R1.out]
  cases o1
  · have HBZ := hide hB1
    go_wp2
    refine bodyPost_ret (results_tmp2 rfl _ _ _) rfl ?_
    rw [show p = ([], 1) from HP.out.symm.trans (by first | rfl | simp)]
    exact EvE_bad HBZ.out 1
  · skip
    go_wp2_with fail
    refine (events_any A4 n4 c4 lr W1 (PD.out.step' hB1)).mono ?_
    rintro e W2 ⟨rfl, hb⟩
    have hB2 := bstep hB1 hb
    have bk2 : Below W0.heap.size W0 W2 := bstep bk1 hb
    clear hb hB1 bk1
    rw [R2.out]
    cases o2
    · have HBZ := hide hB2
      go_wp2
      refine bodyPost_ret (results_tmp2 rfl _ _ _) rfl ?_
      rw [show p = ([], 1) from HP.out.symm.trans (by first | rfl | simp)]
      exact EvE_bad HBZ.out 1
    · skip
      have d0 : W2.cell? ⟨kb, 0, none⟩ = some (.int .i64 width) := Boxed.cell (show Boxed W2 kb 3 (.int .i64 width) from (bk2.block kb (by omega)).trans X0.out)
      have q4 : Blk W2 (kb + 1) 91 #[.slice A1 n1 c1, .slice A2 n2 c2] := (bk2.block (kb + 1) (by omega)).trans X1.out
      have d4 : W2.cell? ⟨kb + 1, 0, none⟩ = some (.slice A1 n1 c1) := by simpa using q4.cell 0
      have d5 : W2.cell? ⟨kb + 1, 1, none⟩ = some (.slice A2 n2 c2) := by simpa using q4.cell 1
      clear q4
      go_wp2_with fail
      refine (sized_any A1 n1 c1 A2 n2 c2 on others W2 HL1.out HL2.out (by omega) (by omega)).mono ?_
      rintro e W3 ⟨rfl, hb⟩
      have hB3 := bstep hB2 hb
      have bk3 : Below W0.heap.size W0 W3 := bstep bk2 hb
      clear hb hB2 bk2 d0 d4 d5
      rw [R3.out]
      cases o3
      · have HBZ := hide hB3
        go_wp2
        refine bodyPost_ret (results_tmp2 rfl _ _ _) rfl ?_
        rw [show p = ([], 9) from HP.out.symm.trans (by first | rfl | simp)]
        exact EvE_bad HBZ.out 9
      · skip
        have d0 : W3.cell? ⟨kb, 0, none⟩ = some (.int .i64 width) := Boxed.cell (show Boxed W3 kb 3 (.int .i64 width) from (bk3.block kb (by omega)).trans X0.out)
        have HCN := hide (show Calls Tryz.prog 85 #[.slice A4 n4 c4, .func (Fn.func 86) #[] #[.pointer (some ⟨kb, 0, none⟩)]] W3 (RetV W3 (.bool (!o4))) from by
          have hw : (lr.any fun i => !decide ((i.r.length : Int) = width)) = !o4 := by
            rw [← R4.out]
            unfold wideB
            rw [all_dE, ← any_all_not, Bool.not_not]
          rw [← hw]
          exact con_evs A4 n4 c4 lr W3 (PD.out.step' hB3).rd hm4 86 #[.pointer (some ⟨kb, 0, none⟩)] (fun i => !decide ((i.r.length : Int) = width)) (enters_of Tryz.func86 (by kernel_rfl) rfl) (fun x hx X hX => versions1_any x.t x.A x.n x.c x.r kb width X (Boxed.cell (show Boxed X kb 3 (.int .i64 width) from ((bstep bk3 hX).block kb (by omega)).trans X0.out)) ((PD.out.step' hB3).rows x hx).len))
        go_wp2_with fail
        refine (HCN.out).mono ?_
        rintro e W4 ⟨rfl, hb⟩
        have hB4 := bstep hB3 hb
        have bk4 : Below W0.heap.size W0 W4 := bstep bk3 hb
        clear hb hB3 bk3 d0 HCN
        cases o4
        · have HBZ := hide hB4
          go_wp2
          refine bodyPost_ret (results_tmp2 rfl _ _ _) rfl ?_
          rw [show p = ([], 9) from HP.out.symm.trans (by first | rfl | simp)]
          exact EvE_bad HBZ.out 9
        · skip
          have d0 : W4.cell? ⟨kb, 0, none⟩ = some (.int .i64 width) := Boxed.cell (show Boxed W4 kb 3 (.int .i64 width) from (bk4.block kb (by omega)).trans X0.out)
          have q4 : Blk W4 (kb + 1) 91 #[.slice A1 n1 c1, .slice A2 n2 c2] := (bk4.block (kb + 1) (by omega)).trans X1.out
          have d4 : W4.cell? ⟨kb + 1, 0, none⟩ = some (.slice A1 n1 c1) := by simpa using q4.cell 0
          have d5 : W4.cell? ⟨kb + 1, 1, none⟩ = some (.slice A2 n2 c2) := by simpa using q4.cell 1
          clear q4
          go_wp2_with fail
          refine (pwithin_any width 0 8 W4).mono ?_
          rintro e w' ⟨rfl, rfl⟩
          rw [R8.out]
          cases o8
          · have HBZ := hide hB4
            go_wp2
            refine bodyPost_ret (results_tmp2 rfl _ _ _) rfl ?_
            rw [show p = ([], 7) from HP.out.symm.trans (by first | rfl | simp)]
            exact EvE_bad HBZ.out 7
          · skip
            have hwb := btw_iff.1 R8.out
            go_wp2_with fail
            refine (below_any A1 n1 c1 on A2 n2 c2 others 8 width W4 (PA.out.up hB4) (PB.out.up hB4) (by omega) (by omega) (by omega) (by omega)).mono ?_
            rintro e W5 ⟨rfl, hb⟩
            have hB5 := bstep hB4 hb
            have bk5 : Below W0.heap.size W0 W5 := bstep bk4 hb
            clear hb hB4 bk4 d0 d4 d5
            rw [R5.out, R6.out]
            cases o5
            · rw [Bool.false_and]
              have HBZ := hide hB5
              go_wp2
              refine bodyPost_ret (results_tmp2 rfl _ _ _) rfl ?_
              rw [show p = ([], 7) from HP.out.symm.trans (by first | rfl | simp)]
              exact EvE_bad HBZ.out 7
            · skip
              cases o6
              · rw [Bool.and_false]
                have HBZ := hide hB5
                go_wp2
                refine bodyPost_ret (results_tmp2 rfl _ _ _) rfl ?_
                rw [show p = ([], 7) from HP.out.symm.trans (by first | rfl | simp)]
                exact EvE_bad HBZ.out 7
              · skip
                rw [Bool.and_true]
                go_wp2_with fail
                refine (lacking_any A1 n1 c1 on A3 n3 c3 ll W5 (PA.out.up hB5) (by omega) (PC.out.step' hB5) hm3).mono ?_
                rintro e W6 ⟨rfl, hb⟩
                have hB6 := bstep hB5 hb
                have bk6 : Below W0.heap.size W0 W6 := bstep bk5 hb
                clear hb hB5 bk5
                rw [R7.out]
                cases o7
                · have HBZ := hide hB6
                  go_wp2
                  refine bodyPost_ret (results_tmp2 rfl _ _ _) rfl ?_
                  rw [show p = ([], 7) from HP.out.symm.trans (by first | rfl | simp)]
                  exact EvE_bad HBZ.out 7
                · skip
                  obtain ⟨wd, rfl⟩ : ∃ wd : Nat, width = (wd : Int) := ⟨width.toNat, by omega⟩
                  have hwd : wd ≤ 8 := by omega
                  have HP2 : Hid (p = if overB (dE ll) wd then ([], 4) else (srtG cmpE ((dE ll).map fun x => verO on others wd x (dE lr)), 0)) := by
                    refine hide (HP.out.symm.trans ?_)
                    rw [show ((wd : Int)).toNat = wd from by omega]
                    cases overB (dE ll) wd <;> first | rfl | simp
                  have HOKL := hide (show ∀ x ∈ ll, okE (x.t, x.r) = true from fun x hx => by
                    have r1 := R1.out
                    unfold evsB at r1
                    rw [Bool.and_eq_true] at r1
                    exact List.all_eq_true.1 r1.2 (x.t, x.r) (List.mem_map_of_mem hx))
                  have HOKR := hide (show ∀ x ∈ lr, okE (x.t, x.r) = true from fun x hx => by
                    have r2 := R2.out
                    unfold evsB at r2
                    rw [Bool.and_eq_true] at r2
                    exact List.all_eq_true.1 r2.2 (x.t, x.r) (List.mem_map_of_mem hx))
                  have HHL := hide (show ∀ x ∈ ll, hasC x.r on = true from fun x hx => List.all_eq_true.1 R7.out (x.t, x.r) (List.mem_map_of_mem hx))
                  have HWR := hide (show ∀ y ∈ dE lr, y.2.length = wd from fun y hy => by have := wideB_at R4.out hy; omega)
                  have HHR := hide (show ∀ y ∈ lr, hasC y.r others = true from fun y hy => hasC_wide (wideB_at R4.out (show (y.t, y.r) ∈ dE lr from List.mem_map_of_mem hy)) R6.out)
                  have HWN := hide (show ∀ y ∈ lr, y.n = wd from fun y hy => by rw [← (PD.out.rows y hy).len]; exact HWR.out (y.t, y.r) (List.mem_map_of_mem hy))
                  have hn3 : n3 ≤ 100 := by
                    have r1 := R1.out
                    unfold evsB at r1
                    rw [Bool.and_eq_true, decide_eq_true_eq, dE_len, HL3.out] at r1
                    exact r1.1
                  clear R1 R2 R3 R4 R5 R6 R7 R8 HP hwb
                  obtain ⟨DR, hdr⟩ : ∃ DR, dE lr = DR := ⟨_, rfl⟩
                  rw [hdr] at HP2 HWR
                  have HDR := hide hdr
                  clear hdr
                  have HB6 := hide hB6
                  clear hB6
                  go_wp2_with fail
                  go_loopw [13, 54] (fun v i wr => ∃ (k : Nat) (l : List Ev), k ≤ n3 ∧ i = .int .i64 k ∧ wr.ownsRow (kb + 2) 36 2 v k (l.flatMap encEv) ∧ dE l = ((dE ll).take k).map (fun x => verO on others wd x DR) ∧ RowsE wr 0 l ∧ overB ((dE ll).take k) wd = false ∧ Below W0.heap.size W0 wr) (fun _ i _ => n3 - (intOf i).toNat)
                  case atStart => exact ⟨0, [], Nat.zero_le _, rfl, World.ownsRow_nil _ _ _ _, rfl, (by intro i hi; cases hi), rfl, bk6⟩
                  case round =>
                    clear bk6
                    obtain ⟨k, l, hk, rfl, hown, hd, hrows, hov, bkr⟩ := hrel
                    have hBr := bstep HB0.out bkr
                    have HOV := hide hov
                    have HD := hide hd
                    clear hov hd
                    by_cases hlt : k < n3
                    · have q1 : (0 : Int) ≤ (k : Int) := by omega
                      have q2 : (k : Int) < (n3 : Int) := by omega
                      obtain ⟨bx, ox, x, hA, hbx, hxk, e0, e1, hrx⟩ := (PC.out.step' hBr).at_ hlt
                      have hxin := List.mem_of_getElem? hxk
                      have hox := HOKL.out x hxin
                      have hx8 : x.r.length ≤ 8 := okR_eight (okE_row hox)
                      have hlx := hrx.len
                      have hxn8 : x.n ≤ 8 := by omega
                      have HXD := hide (dE_at hxk)
                      have hhx := HHL.out x hxin
                      have hcx := HC3.out x hxin
                      have HTK := hide (show (dE ll).take (k + 1) = (dE ll).take k ++ [(x.t, x.r)] from take_snoc' (dE_at hxk))
                      have hsr := bkr.size
                      rw [hA]
                      have HA := hide hA
                      have hba := below_val (w := wr) #[.int .i64 x.t, .slice x.A x.n x.c] 36
                      have kx := Blk.new wr 36 #[.int .i64 x.t, .slice x.A x.n x.c]
                      have hown1 := own_below hown hba
                      have hrows1 := hrows.below hba
                      have hrx1 := (hrx.below hba).mono hba.size
                      have bk1 := bstep bkr hba
                      have d0 : (wr.alloc (.cells #[.int .i64 x.t, .slice x.A x.n x.c] 36)).cell? ⟨kb, 0, none⟩ = some (.int .i64 (wd : Int)) := Boxed.cell (show Boxed _ kb 3 (.int .i64 (wd : Int)) from (bk1.block kb (by omega)).trans X0.out)
                      have q4 : Blk (wr.alloc (.cells #[.int .i64 x.t, .slice x.A x.n x.c] 36)) (kb + 1) 91 #[.slice A1 n1 c1, .slice A2 n2 c2] := (bk1.block (kb + 1) (by omega)).trans X1.out
                      go_upto_region 12 with fail
                      obtain ⟨W1, hW1⟩ : ∃ W1, wr.alloc (.cells #[.int .i64 x.t, .slice x.A x.n x.c] 36) = W1 := ⟨_, rfl⟩
                      rw [hW1] at kx hown1 hrows1 hrx1 bk1 d0 q4 ⊢
                      obtain ⟨xb, hxb⟩ : ∃ xb, wr.heap.size = xb := ⟨_, rfl⟩
                      rw [hxb] at kx ⊢
                      have d1 : W1.cell? ⟨xb, 0, none⟩ = some (.int .i64 x.t) := by simpa using kx.cell 0
                      have d2 : W1.cell? ⟨xb, 1, none⟩ = some (.slice x.A x.n x.c) := by simpa using kx.cell 1
                      have d4 : W1.cell? ⟨kb + 1, 0, none⟩ = some (.slice A1 n1 c1) := by simpa using q4.cell 0
                      have d5 : W1.cell? ⟨kb + 1, 1, none⟩ = some (.slice A2 n2 c2) := by simpa using q4.cell 1
                      clear hW1 hba kx q4 hxk hxin hA hown hrows hrx bkr hBr e0 e1 hxb
                      have hB1 := bstep HB0.out bk1
                      by_cases h8 : 8 < x.n + wd
                      · have q8 : (8 : Int) < (x.n : Int) + (wd : Int) := by omega
                        have HLA := hide (show overB (dE ll) wd = true from overB_at' HXD.out (by show 8 < x.r.length + wd; omega))
                        have HBR := hide hB1
                        clear hown1 hrows1 hrx1 hlx hB1 bk1 h8
                        go_wp2
                        refine bodyPost_ret (results_tmp2 rfl _ _ _) rfl ?_
                        rw [HP2.out, HLA.out, if_pos rfl]
                        exact EvE_bad HBR.out 4
                      · have q8 : ¬ (8 : Int) < (x.n : Int) + (wd : Int) := by omega
                        have HOV2 := hide (show overB ((dE ll).take (k + 1)) wd = false from by
                          rw [HTK.out, overB_snoc', HOV.out]
                          simp
                          omega)
                        have HNW := hide ((callsIn_wide (n := 4)).1 (newest_any A1 n1 c1 on A2 n2 c2 others wd x A4 n4 c4 lr W1 (PA.out.up hB1) (PB.out.up hB1) hn1 hn2 hwd hrx1 (PD.out.step' hB1) hm4 hcx HC4.out (HT.out.below hB1) hox HOKR.out hhx HHR.out HWN.out))
                        have hll : l.length = k := by
                          have h1 := hown1.1
                          rw [flat_length (enc := encEv) (k := 2) encEv_len] at h1
                          omega
                        have HLL := hide hll
                        clear hlx h8 hll
                        go_wp2_with fail
                        refine HNW.out.mono ?_
                        rw [HDR.out]
                        rintro e W2 hres
                        obtain ⟨Ac, nc, cc, rfl, hrow, hcap, hb2⟩ := hres
                        have hown2 := own_below hown1 hb2
                        have hrows2 := hrows1.below hb2
                        have bk2 := bstep bk1 hb2
                        have hs2 := hb2.size
                        have hs1 := bk1.size
                        clear hb2 HNW hown1 hrows1 hrx1 bk1 hB1 d0 d1 d2 d4 d5 q8
                        obtain ⟨T, hT⟩ : ∃ T, verO on others wd (x.t, x.r) DR = T := ⟨_, rfl⟩
                        rw [hT] at hrow ⊢
                        have HTT := hide hT
                        clear hT
                        have kv := Blk.new W2 36 #[.int .i64 T.1, .slice Ac nc cc]
                        have hBv := below_val (w := W2) #[.int .i64 T.1, .slice Ac nc cc] 36
                        have hrd : Reads (W2.alloc (.cells #[.int .i64 T.1, .slice Ac nc cc] 36)) (W2.heap.size + 1) 2 (some ⟨W2.heap.size, 0, none⟩) 1 [.int .i64 T.1, .slice Ac nc cc] :=
                          ⟨rfl, fun _ => ⟨W2.heap.size, 0, rfl, by omega, fun j u hu => by rw [Nat.zero_add, kv.cell j]; simpa using hu⟩⟩
                        have hown3 := own_below hown2 hBv
                        have hrows3 := hrows2.below hBv
                        have hrow3 := hrow.below hBv
                        have HBV := hide (bstep bk2 hBv)
                        clear kv hBv hown2 hrows2 hrow bk2
                        go_wp2_with (at_builtin; go_loud (refine wpList_append_any _ rfl _ _ 25 rfl (kb + 2) 36 i0 _ 2 32 Tryz.underlying25 hi0 hz0 hz1 hz2 rfl (by decide) _ k _ rfl hown3 (W2.heap.size + 1) (some ⟨W2.heap.size, 0, none⟩) 1 1 [.int .i64 T.1, .slice Ac nc cc] rfl hrd (by simp [Value.oneCell']) (by unfold maxLen; omega) (by omega) (by simp; omega) ?_; intro v3 w3 hown4 hgrow _; have hB3 : Below W0.heap.size W0 w3 := by { rw [hs0]; exact below_append (show Below (kb + 2) W0 _ from by rw [← hs0]; exact HBV.out) hown3 (by simp; omega) hgrow }; have hrows4 := hrows3.grown hown3 (by decide) (Nat.zero_le _) hgrow; have hrow4 := hrow3.grown hown3 (by decide) (Nat.zero_le _) hgrow; clear hgrow))
                        have HREL := hide (show dE (l ++ [⟨T.1, Ac, nc, cc, T.2⟩]) = ((dE ll).take (k + 1)).map (fun x => verO on others wd x DR) from by
                          rw [dE_snoc, HD.out, HTK.out, List.map_append, List.map_cons, List.map_nil, HTT.out])
                        have HRW := hide (show RowsE w3 0 (l ++ [⟨T.1, Ac, nc, cc, T.2⟩]) from fun i hi => by
                          rcases List.mem_append.1 hi with hi | hi
                          · exact hrows4 i hi
                          · obtain rfl : i = ⟨T.1, Ac, nc, cc, T.2⟩ := by simpa using hi
                            exact hrow4)
                        clear hrows3 hrow3 hown3 hrd hrows4 hrow4
                        go_wp2
                        go_roundw
                        case rel => exact ⟨k + 1, l ++ [⟨T.1, Ac, nc, cc, T.2⟩], by omega, by go_num, by rw [List.flatMap_append]; exact hown4, HREL.out, HRW.out, HOV2.out, hB3⟩
                        case measure => simp [intOf]; omega
                    · obtain rfl : k = n3 := by omega
                      rw [List.take_of_length_le (by rw [dE_len, HL3.out]; exact Nat.le_refl _)] at HOV HD
                      obtain ⟨Av, cv, rfl, _⟩ := own_form hown
                      have hcap := own_cap hown
                      have hll : l.length = k := by
                        have h1 := hown.1
                        rw [flat_length (enc := encEv) (k := 2) encEv_len] at h1
                        omega
                      have hsr := bkr.size
                      have HS := hide (SortE_any (kb + 2) k (.slice Av k cv) l wr hown (by omega) 71 #[] (enters_of Tryz.func71 (by kernel_rfl) rfl) (fun x y => cmpE (x.t, x.r) (y.t, y.r)) (swo_tot (Tot.te.comap fun x : Ev => (x.t, x.r)))
                        (fun x y W hx hy hb => compare_g x y W ((hrows.bar hown (by decide) (Nat.zero_le _) hb x hx).mono (Nat.zero_le _)) ((hrows.bar hown (by decide) (Nat.zero_le _) hb y hy).mono (Nat.zero_le _))))
                      have hof := off_own hown (B := kb + 2) (by decide) (Nat.le_refl _)
                      have HOWN := hide hown
                      have HROWS := hide hrows
                      have HBR := hide hBr
                      have HOF := hide hof
                      clear hown hrows hof hll hBr bkr
                      go_wp2_with fail
                      refine HS.out.mono ?_
                      rintro e W1 ⟨rfl, l', A', n', c', hv, hperm, hpw, hrd, hb1⟩
                      injection hv with hv1 hv2 hv3
                      subst hv1 hv2 hv3
                      have HDL := hide (show dE l' = srtG cmpE ((dE ll).map fun x => verO on others wd x DR) from by
                        rw [← HD.out]
                        refine srtG_eq Tot.te (hperm.map _) ?_ (by unfold dE; rw [List.pairwise_map]; exact hpw)
                        rw [HD.out]
                        have hokp : ∀ c ∈ ((dE ll).map fun x => verO on others wd x DR), okR c.2 = true := fun c hc => by
                          obtain ⟨x, hx, rfl⟩ := List.mem_map.1 hc
                          obtain ⟨i, hi, rfl⟩ := List.mem_map.1 hx
                          have h8 : ¬ 8 < i.r.length + wd := fun h => by
                            have h9 := HOV.out
                            rw [overB, List.any_eq_false] at h9
                            exact h9 (i.t, i.r) (List.mem_map_of_mem hi) (by simpa using h)
                          rw [← HDR.out]
                          refine ver_okR (okE_row (HOKL.out i hi)) (fun y hy => ?_) (by rw [HDR.out]; exact HWR.out) (by show i.r.length + wd ≤ 8; omega)
                          obtain ⟨z, hz, rfl⟩ := List.mem_map.1 hy
                          exact okE_row (HOKR.out z hz)
                        exact fun x hx y hy h => cmpE_eq (hokp x hx) (hokp y hy) h)
                      have HRES := hide (show RetEvE w p (.returned (.tuple #[.slice Av k cv, .int .i64 0])) W1 from by
                        rw [HP2.out, HOV.out]
                        exact ⟨_, _, _, l', rfl, HDL.out, ⟨hrd, fun i hi => (HROWS.out.bar HOWN.out (by decide) (Nat.zero_le _) hb1 i (hperm.mem_iff.1 hi)).mono (Nat.zero_le _), by omega⟩, hcap, HBR.out.trans (hb1.below HBR.out.size (fun x hx => by have := (HOF.out x hx).1; omega))⟩)
                      clear hperm hpw hrd hb1
                      go_wp2
                      refine bodyPost_ret (results_tmp2 rfl _ _ _) rfl ?_
                      exact HRES.out
end Go.Proofs.YtoapjidpfghnlaaGreatDoor
