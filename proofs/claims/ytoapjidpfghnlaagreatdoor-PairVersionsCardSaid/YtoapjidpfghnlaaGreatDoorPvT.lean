/-
  The walk of the reference's Versions. No condition.
-/
import Derived.Test.YtoapjidpfghnlaaGreatDoorPvS
namespace Go.Proofs.YtoapjidpfghnlaaGreatDoor
open Go.RowKit
attribute [local go_sem] Oper.semAt_some wide_fn wide_depth
set_option linter.unusedVariables false
set_option linter.unusedSimpArgs false

/-- What inside answers at any width. -/
def RetIn (w : World) (ok : Bool) (v : Bool) (e : Ending) (w' : World) : Prop := ∃ b : Bool, e = .returned (.bool b) ∧ (ok = true → b = v) ∧ Below w.heap.size w w'
theorem inside_w (A : Option Addr) (n c : Nat) (cols : List Int) (m : Int) (w : World) (hx : Reads w w.heap.size 1 A n (cols.map (Value.int .i64))) (hn : n ≤ 9223372036854775807) :
    Calls Tryz.prog 74 #[.slice A n c, .int .i64 m] w (RetIn w (btw m 0 8) (insK cols m)) := by
  cases h : btw m 0 8
  · exact (inside_some A n c cols m w hx hn).mono fun e w' ⟨b, h1, h2⟩ => ⟨b, h1, nofun, h2⟩
  · have := btw_iff.1 h
    exact (inside_any A n c cols m w hx hn (by omega)).mono fun e w' ⟨h1, h2⟩ => ⟨_, h1, fun _ => rfl, h2⟩
theorem overB_snoc (l : List Te) (n : Nat) (x : Te) : overB (l ++ [x]) n = (overB l n || decide (8 < x.2.length + n)) := by unfold overB; rw [List.any_append]; simp
theorem overB_at {l : List Te} {n k : Nat} {x : Te} (hx : l[k]? = some x) (h : 8 < x.2.length + n) : overB l n = true := by
  unfold overB
  rw [List.any_eq_true]
  exact ⟨x, List.mem_of_getElem? hx, by simpa using h⟩
set_option maxRecDepth 100000 in
set_option maxHeartbeats 16000000 in
theorem RVersions_any (A1 : Option Addr) (n1 c1 : Nat) (on : List Int) (A2 : Option Addr) (n2 c2 : Nat) (others : List Int) (width : Int) (A3 : Option Addr) (n3 c3 : Nat) (ll : List Ev) (A4 : Option Addr) (n4 c4 : Nat) (lr : List Ev) (w : World)
    (h1 : Reads w w.heap.size 1 A1 n1 (on.map (Value.int .i64))) (h2 : Reads w w.heap.size 1 A2 n2 (others.map (Value.int .i64))) (hn1 : n1 ≤ 1000) (hn2 : n2 ≤ 1000) (h3 : EvR w w.heap.size A3 n3 ll) (h4 : EvR w w.heap.size A4 n4 lr) (hm3 : n3 ≤ 100000) (hm4 : n4 ≤ 100000) :
    Calls Tryz.prog 20 #[.slice A1 n1 c1, .slice A2 n2 c2, .int .i64 width, .slice A3 n3 c3, .slice A4 n4 c4] w (RetEvE w (verB on others width (dE ll) (dE lr))) := by
  obtain ⟨p, hp⟩ : ∃ p, verB on others width (dE ll) (dE lr) = p := ⟨_, rfl⟩
  rw [hp]
  have HL1 := hide h1.len1
  have HL2 := hide h2.len1
  have HL3 := hide h3.len
  have HL4 := hide h4.len
  unfold verB verE at hp
  obtain ⟨o1, r1⟩ : ∃ b, evsB (dE ll) = b := ⟨_, rfl⟩
  obtain ⟨o2, r2⟩ : ∃ b, evsB (dE lr) = b := ⟨_, rfl⟩
  obtain ⟨o3, r3⟩ : ∃ b, fitK on others = b := ⟨_, rfl⟩
  obtain ⟨o4, r4⟩ : ∃ b, wideB (dE lr) width = b := ⟨_, rfl⟩
  obtain ⟨o5, r5⟩ : ∃ b, insK on 8 = b := ⟨_, rfl⟩
  obtain ⟨o6, r6⟩ : ∃ b, insK others width = b := ⟨_, rfl⟩
  obtain ⟨o7, r7⟩ : ∃ b, hasE (dE ll) on = b := ⟨_, rfl⟩
  obtain ⟨o8, r8⟩ : ∃ b, btw width 0 8 = b := ⟨_, rfl⟩
  rw [r1, r2, r3, r4, r5, r6, r7, r8] at hp
  have HP := hide hp
  have R1 := hide r1
  have R2 := hide r2
  have R3 := hide r3
  have R4 := hide r4
  have R5 := hide r5
  have R6 := hide r6
  have R7 := hide r7
  have R8 := hide r8
  clear hp r1 r2 r3 r4 r5 r6 r7 r8
  go_enter Tryz.func20, Tryz.ntmps20
  go_wp2_with fail
  refine (RValidEvents_any A3 n3 c3 ll w h3).mono ?_
  rintro e W1 ⟨rfl, hB1⟩
  rw [R1.out]
  cases o1
  · go_wp2
    refine bodyPost_ret (results_tmp2 rfl _ _ _) rfl ?_
    rw [show p = ([], 1) from HP.out.symm.trans (by first | rfl | simp)]
    exact EvE_bad hB1 1
  · skip
    go_wp2_with fail
    refine (RValidEvents_any A4 n4 c4 lr W1 (h4.step hB1)).mono ?_
    rintro e W2 ⟨rfl, hb⟩
    have hB2 := bstep hB1 hb
    clear hb hB1
    rw [R2.out]
    cases o2
    · go_wp2
      refine bodyPost_ret (results_tmp2 rfl _ _ _) rfl ?_
      rw [show p = ([], 1) from HP.out.symm.trans (by first | rfl | simp)]
      exact EvE_bad hB2 1
    · skip
      go_wp2_with fail
      refine (fit_any A1 n1 c1 A2 n2 c2 on others W2 HL1.out HL2.out).mono ?_
      rintro e w' ⟨rfl, rfl⟩
      rw [R3.out]
      cases o3
      · go_wp2
        refine bodyPost_ret (results_tmp2 rfl _ _ _) rfl ?_
        rw [show p = ([], 9) from HP.out.symm.trans (by first | rfl | simp)]
        exact EvE_bad hB2 9
      · skip
        go_wp2_with fail
        refine (wide_any A4 n4 c4 lr width W2 (h4.step hB2)).mono ?_
        rintro e W3 ⟨rfl, hb⟩
        have hB3 := bstep hB2 hb
        clear hb hB2
        rw [R4.out]
        cases o4
        · go_wp2
          refine bodyPost_ret (results_tmp2 rfl _ _ _) rfl ?_
          rw [show p = ([], 9) from HP.out.symm.trans (by first | rfl | simp)]
          exact EvE_bad hB3 9
        · skip
          go_wp2_with fail
          refine (inside_any A1 n1 c1 on 8 W3 (h1.up hB3) (by omega) (by omega)).mono ?_
          rintro e W4 ⟨rfl, hb⟩
          have hB4 := bstep hB3 hb
          clear hb hB3
          rw [R5.out]
          cases o5
          · go_wp2
            refine bodyPost_ret (results_tmp2 rfl _ _ _) rfl ?_
            rw [show p = ([], 7) from HP.out.symm.trans (by first | rfl | simp)]
            exact EvE_bad hB4 7
          · skip
            go_wp2_with fail
            refine (inside_w A2 n2 c2 others width W4 (h2.up hB4) (by omega)).mono ?_
            rintro e W5 hres
            obtain ⟨b6, rfl, hb6, hb⟩ := hres
            have hB5 := bstep hB4 hb
            clear hb hB4
            rw [R8.out, R6.out] at hb6
            cases b6
            · have HP6 := hide (show p = ([], 7) from HP.out.symm.trans (by cases o8 <;> cases o6 <;> first | rfl | (simp at hb6; done) | simp))
              go_wp2
              refine bodyPost_ret (results_tmp2 rfl _ _ _) rfl ?_
              rw [HP6.out]
              exact EvE_bad hB5 7
            · skip
              have HB6 := hide hb6
              clear hb6
              go_wp2_with fail
              refine (revents_any A3 n3 c3 ll A1 n1 c1 on W5 (h3.step hB5) (h1.up hB5) (by omega)).mono ?_
              rintro e W6 ⟨rfl, hb⟩
              have hB6 := bstep hB5 hb
              clear hb hB5
              rw [R7.out]
              cases o7
              · go_wp2
                refine bodyPost_ret (results_tmp2 rfl _ _ _) rfl ?_
                rw [show p = ([], 7) from HP.out.symm.trans (by first | rfl | simp)]
                exact EvE_bad hB6 7
              · skip
                go_wp2_with fail
                refine (R9within_any width 0 8 W6).mono ?_
                rintro e w' ⟨rfl, rfl⟩
                rw [R8.out]
                cases o8
                · go_wp2
                  refine bodyPost_ret (results_tmp2 rfl _ _ _) rfl ?_
                  rw [show p = ([], 7) from HP.out.symm.trans (by first | rfl | simp)]
                  exact EvE_bad hB6 7
                · skip
                  obtain rfl : o6 = true := (HB6.out rfl).symm
                  obtain ⟨wd, rfl⟩ : ∃ wd : Nat, width = (wd : Int) := ⟨width.toNat, by have := btw_iff.1 R8.out; omega⟩
                  have hwd : wd ≤ 8 := by have := btw_iff.1 R8.out; omega
                  have HP2 : Hid (p = if overB (dE ll) wd then ([], 4) else (srtG cmpE ((dE ll).map fun x => verO on others wd x (dE lr)), 0)) := by
                    refine hide (HP.out.symm.trans ?_)
                    rw [show ((wd : Int)).toNat = wd from by omega]
                    cases overB (dE ll) wd <;> first | rfl | simp
                  have HOKL := hide (show ∀ x ∈ ll, okE (x.t, x.r) = true from fun x hx => by
                    have r1 := R1.out
                    unfold evsB at r1
                    rw [Bool.and_eq_true] at r1
                    exact List.all_eq_true.1 r1.2 (x.t, x.r) (List.mem_map_of_mem hx))
                  have HOKR := hide (show ∀ x ∈ lr, okE (x.t, x.r) = true from fun x hx => by
                    have r2 := R2.out
                    unfold evsB at r2
                    rw [Bool.and_eq_true] at r2
                    exact List.all_eq_true.1 r2.2 (x.t, x.r) (List.mem_map_of_mem hx))
                  have HHL := hide (show ∀ x ∈ ll, hasC x.r on = true from fun x hx => List.all_eq_true.1 R7.out (x.t, x.r) (List.mem_map_of_mem hx))
                  have HWR := hide (show ∀ y ∈ dE lr, y.2.length = wd from fun y hy => by have := wideB_at R4.out hy; omega)
                  have HHR := hide (show ∀ y ∈ lr, hasC y.r others = true from fun y hy => hasC_wide (wideB_at R4.out (show (y.t, y.r) ∈ dE lr from List.mem_map_of_mem hy)) R6.out)
                  have hn3 : n3 ≤ 100 := by
                    have r1 := R1.out
                    unfold evsB at r1
                    rw [Bool.and_eq_true, decide_eq_true_eq, dE_len, HL3.out] at r1
                    exact r1.1
                  have hnn : n1 = n2 := by
                    have r3 := R3.out
                    unfold fitK at r3
                    rw [Bool.and_eq_true, decide_eq_true_eq, HL1.out, HL2.out] at r3
                    exact r3.1
                  have HNN := hide hnn
                  clear R1 R2 R3 R4 R5 R6 R7 R8 HP HB6 hnn
                  have PA := hide h1
                  have PB := hide h2
                  have PC := hide h3
                  have PD := hide h4
                  clear h1 h2 h3 h4
                  obtain ⟨DR, hdr⟩ : ∃ DR, dE lr = DR := ⟨_, rfl⟩
                  rw [hdr] at HP2 HWR
                  have HDR := hide hdr
                  clear hdr
                  go_wp2_with fail
                  go_loopw [12, 13] (fun v i wr => ∃ k : Nat, k ≤ n3 ∧ i = .int .i64 k ∧ EvO (srtG cmpE (((dE ll).take k).map fun x => verO on others wd x DR)) v wr ∧ overB ((dE ll).take k) wd = false ∧ Below w.heap.size w wr) (fun _ i _ => n3 - (intOf i).toNat)
                  case atStart => exact ⟨0, Nat.zero_le _, rfl, ⟨none, 0, 0, [], rfl, rfl, EvR.nil _ _, Nat.le_refl _⟩, rfl, hB6⟩
                  case round =>
                    clear hB6
                    obtain ⟨k, hk, rfl, hO, hov, hBr⟩ := hrel
                    have HOV := hide hov
                    clear hov
                    by_cases hlt : k < n3
                    · have q1 : (0 : Int) ≤ (k : Int) := by omega
                      have q2 : (k : Int) < (n3 : Int) := by omega
                      obtain ⟨bx, ox, x, hA, hbx, hxk, e0, e1, hrx⟩ := (PC.out.step' hBr).at_ hlt
                      have hxin := List.mem_of_getElem? hxk
                      have hox := HOKL.out x hxin
                      have hx8 : x.r.length ≤ 8 := okR_eight (okE_row hox)
                      have hlx := hrx.len
                      have hxn8 : x.n ≤ 8 := by omega
                      have HXD := hide (dE_at hxk)
                      have hhx := HHL.out x hxin
                      have HTK := hide (show (dE ll).take (k + 1) = (dE ll).take k ++ [(x.t, x.r)] from take_snoc' (dE_at hxk))
                      rw [hA]
                      have HA := hide hA
                      clear hxk hxin hA
                      by_cases h8 : 8 < x.n + wd
                      · have d8 : decide ((8 : Int) < (x.n : Int) + (wd : Int)) = true := decide_eq_true (by omega)
                        have q8 : (8 : Int) < (x.n : Int) + (wd : Int) := by omega
                        have HLA := hide (show overB (dE ll) wd = true from overB_at HXD.out (by show 8 < x.r.length + wd; omega))
                        have HBR := hide hBr
                        clear hO hrx e0 hlx hBr
                        go_wp2
                        refine bodyPost_ret (results_tmp2 rfl _ _ _) rfl ?_
                        rw [HP2.out, HLA.out, if_pos rfl]
                        exact EvE_bad HBR.out 4
                      · have d8 : decide ((8 : Int) < (x.n : Int) + (wd : Int)) = false := decide_eq_false (by omega)
                        have q8 : ¬ (8 : Int) < (x.n : Int) + (wd : Int) := by omega
                        have HOV2 := hide (show overB ((dE ll).take (k + 1)) wd = false from by
                          rw [HTK.out, overB_snoc, HOV.out]
                          simp
                          omega)
                        obtain ⟨A, n, c, l, rfl, hd, hr, hnc⟩ := hO
                        have hlen : n ≤ 100 := by
                          have h1 := hr.len
                          rw [← dE_len, hd, srtG_len Tot.te, List.length_map, List.length_take] at h1
                          omega
                        have HD := hide hd
                        have HXL := hide hlx
                        clear hd hlx h8
                        go_upto_region 13 with fail
                        refine Held.begin (fun z => z.cell? ⟨bx, ox + k * 2, none⟩ = some (.int .i64 x.t) ∧ z.cell? ⟨bx, ox + k * 2 + 1, none⟩ = some (.slice x.A x.n x.c)) 100 (by kernel_rfl) ?_
                        have hdr : Below wr.heap.size wr wr.drew := (Below.refl _ _).drew
                        have hS : wr.drew.cell? ⟨bx, ox + k * 2, none⟩ = some (.int .i64 x.t) ∧ wr.drew.cell? ⟨bx, ox + k * 2 + 1, none⟩ = some (.slice x.A x.n x.c) := ⟨e0, e1⟩
                        have hB1 := bstep hBr hdr
                        have hr := hr.step hdr
                        have hrx := (hrx.below hdr).mono hdr.size
                        have hbx := Nat.lt_of_lt_of_le hbx hdr.size
                        obtain ⟨X1, hX1⟩ : ∃ X1, wr.drew = X1 := ⟨_, rfl⟩
                        rw [hX1] at hS hB1 hr hrx hbx ⊢
                        clear hX1 hdr hBr e0 e1
                        refine Held.take (i := 0) (.slice A n c) rfl hS (by kernel_rfl) (by kernel_rfl) (by kernel_rfl) (by kernel_rfl) (fun _ _ _ h => h) rfl (fun y hy => by obtain ⟨x1, x2⟩ := hy; go_simp) ?_
                        try simp only [Act.put]
                        refine Held.take (i := 1) (.slice (some ⟨bx, ox, none⟩) n3 c3) rfl hS (by kernel_rfl) (by kernel_rfl) (by kernel_rfl) (by kernel_rfl) (fun _ _ _ h => h) rfl (fun y hy => by obtain ⟨x1, x2⟩ := hy; go_simp) ?_
                        try simp only [Act.put]
                        refine Held.take (i := 2) (.int .i64 (k : Int)) rfl hS (by kernel_rfl) (by kernel_rfl) (by kernel_rfl) (by kernel_rfl) (fun _ _ _ h => h) rfl (fun y hy => by obtain ⟨x1, x2⟩ := hy; go_simp) ?_
                        try simp only [Act.put]
                        refine Held.take (i := 3) (.pointer (some ⟨bx, ox + k * 2, none⟩)) rfl hS (by kernel_rfl) (by kernel_rfl) (by kernel_rfl) (by kernel_rfl) (fun _ _ _ h => h) rfl (fun y hy => by obtain ⟨x1, x2⟩ := hy; go_simp) ?_
                        try simp only [Act.put]
                        refine Held.take (i := 4) (.pointer (some ⟨bx, ox + k * 2, none⟩)) rfl hS (by kernel_rfl) (by kernel_rfl) (by kernel_rfl) (by kernel_rfl) (fun _ _ _ h => h) rfl (fun y hy => by obtain ⟨x1, x2⟩ := hy; go_simp) ?_
                        try simp only [Act.put]
                        refine Held.take (i := 5) (.int .i64 x.t) rfl hS (by kernel_rfl) (by kernel_rfl) (by kernel_rfl) (by kernel_rfl) (fun _ _ _ h => h) rfl (fun y hy => by obtain ⟨x1, x2⟩ := hy; go_simp) ?_
                        try simp only [Act.put]
                        refine Held.take (i := 6) (.slice (some ⟨bx, ox, none⟩) n3 c3) rfl hS (by kernel_rfl) (by kernel_rfl) (by kernel_rfl) (by kernel_rfl) (fun _ _ _ h => h) rfl (fun y hy => by obtain ⟨x1, x2⟩ := hy; go_simp) ?_
                        try simp only [Act.put]
                        refine Held.take (i := 7) (.int .i64 (k : Int)) rfl hS (by kernel_rfl) (by kernel_rfl) (by kernel_rfl) (by kernel_rfl) (fun _ _ _ h => h) rfl (fun y hy => by obtain ⟨x1, x2⟩ := hy; go_simp) ?_
                        try simp only [Act.put]
                        refine Held.take (i := 8) (.pointer (some ⟨bx, ox + k * 2, none⟩)) rfl hS (by kernel_rfl) (by kernel_rfl) (by kernel_rfl) (by kernel_rfl) (fun _ _ _ h => h) rfl (fun y hy => by obtain ⟨x1, x2⟩ := hy; go_simp) ?_
                        try simp only [Act.put]
                        refine Held.take (i := 9) (.pointer (some ⟨bx, ox + k * 2 + 1, none⟩)) rfl hS (by kernel_rfl) (by kernel_rfl) (by kernel_rfl) (by kernel_rfl) (fun _ _ _ h => h) rfl (fun y hy => by obtain ⟨x1, x2⟩ := hy; go_simp) ?_
                        try simp only [Act.put]
                        refine Held.take (i := 10) (.slice x.A x.n x.c) rfl hS (by kernel_rfl) (by kernel_rfl) (by kernel_rfl) (by kernel_rfl) (fun _ _ _ h => h) rfl (fun y hy => by obtain ⟨x1, x2⟩ := hy; go_simp) ?_
                        try simp only [Act.put]
                        refine Held.take (i := 11) (.slice A1 n1 c1) rfl hS (by kernel_rfl) (by kernel_rfl) (by kernel_rfl) (by kernel_rfl) (fun _ _ _ h => h) rfl (fun y hy => by obtain ⟨x1, x2⟩ := hy; go_simp) ?_
                        try simp only [Act.put]
                        refine Held.take (i := 12) (.slice A2 n2 c2) rfl hS (by kernel_rfl) (by kernel_rfl) (by kernel_rfl) (by kernel_rfl) (fun _ _ _ h => h) rfl (fun y hy => by obtain ⟨x1, x2⟩ := hy; go_simp) ?_
                        try simp only [Act.put]
                        refine Held.take (i := 13) (.int .i64 (wd : Int)) rfl hS (by kernel_rfl) (by kernel_rfl) (by kernel_rfl) (by kernel_rfl) (fun _ _ _ h => h) rfl (fun y hy => by obtain ⟨x1, x2⟩ := hy; go_simp) ?_
                        try simp only [Act.put]
                        refine Held.take (i := 14) (.slice (some ⟨bx, ox, none⟩) n3 c3) rfl hS (by kernel_rfl) (by kernel_rfl) (by kernel_rfl) (by kernel_rfl) (fun _ _ _ h => h) rfl (fun y hy => by obtain ⟨x1, x2⟩ := hy; go_simp) ?_
                        try simp only [Act.put]
                        refine Held.take (i := 15) (.int .i64 (k : Int)) rfl hS (by kernel_rfl) (by kernel_rfl) (by kernel_rfl) (by kernel_rfl) (fun _ _ _ h => h) rfl (fun y hy => by obtain ⟨x1, x2⟩ := hy; go_simp) ?_
                        try simp only [Act.put]
                        refine Held.take (i := 16) (.pointer (some ⟨bx, ox + k * 2, none⟩)) rfl hS (by kernel_rfl) (by kernel_rfl) (by kernel_rfl) (by kernel_rfl) (fun _ _ _ h => h) rfl (fun y hy => by obtain ⟨x1, x2⟩ := hy; go_simp) ?_
                        try simp only [Act.put]
                        refine Held.take (i := 17) (.agg #[.int .i64 x.t, .slice x.A x.n x.c]) rfl hS (by kernel_rfl) (by kernel_rfl) (by kernel_rfl) (by kernel_rfl) (fun _ _ _ h => h) rfl (fun y hy => by obtain ⟨x1, x2⟩ := hy; go_simp) ?_
                        try simp only [Act.put]
                        refine Held.take (i := 18) (.slice A4 n4 c4) rfl hS (by kernel_rfl) (by kernel_rfl) (by kernel_rfl) (by kernel_rfl) (fun _ _ _ h => h) rfl (fun y hy => by obtain ⟨x1, x2⟩ := hy; go_simp) ?_
                        try simp only [Act.put]
                        refine Held.one (i := 19) rfl (by kernel_rfl) rfl (fun K hK => ?_)
                        unfold Oper.wp
                        go_simp
                        refine (newest9_any A1 n1 c1 on A2 n2 c2 others wd x A4 n4 c4 lr X1 (PA.out.up hB1) (PB.out.up hB1) HNN.out (by omega) hwd hrx (PD.out.step' hB1) hm4 hox HOKR.out hhx HHR.out).mono ?_
                        rintro e X2 hres
                        obtain ⟨Ac, nc, cc, rfl, hrow, hb2⟩ := hres
                        rw [HDR.out] at hrow
                        have hB2 := bstep hB1 hb2
                        have hr2 := hr.step hb2
                        have hrx2 := (hrx.below hb2).mono hb2.size
                        have hS2 : X2.cell? ⟨bx, ox + k * 2, none⟩ = some (.int .i64 x.t) ∧ X2.cell? ⟨bx, ox + k * 2 + 1, none⟩ = some (.slice x.A x.n x.c) := ⟨(hb2.cell hbx).trans hS.1, (hb2.cell hbx).trans hS.2⟩
                        refine hK _ _ (fun _ => hS2) ?_
                        try simp only [Act.put]
                        have hbx2 := Nat.lt_of_lt_of_le hbx hb2.size
                        clear hK K hS hb2 hB1 hr hrx hbx
                        have hncl : nc ≤ 8 := by
                          have h1 := hrow.len
                          rw [rowN_len HWR.out] at h1
                          omega
                        refine Held.one (i := 20) rfl (by kernel_rfl) rfl (fun K hK => ?_)
                        unfold Oper.wp
                        go_simp
                        refine (both9_any x.A x.n x.c x.r Ac nc cc _ X2 hrx2 hrow (by omega) (by omega)).mono ?_
                        rintro e X3 ⟨Ad, cd, rfl, hown, hb3⟩
                        have hrow3 : RowK X3 X3.heap.size Ad (x.n + nc) (x.r ++ rowN wd (newN on others (x.t, x.r) DR)) := RowK.of_own hown (by omega)
                        have hB3 := bstep hB2 hb3
                        have hr3 := hr2.step hb3
                        have hS3 : X3.cell? ⟨bx, ox + k * 2, none⟩ = some (.int .i64 x.t) ∧ X3.cell? ⟨bx, ox + k * 2 + 1, none⟩ = some (.slice x.A x.n x.c) := ⟨(hb3.cell hbx2).trans hS2.1, (hb3.cell hbx2).trans hS2.2⟩
                        refine hK _ _ (fun _ => hS3) ?_
                        try simp only [Act.put]
                        have hbx3 := Nat.lt_of_lt_of_le hbx2 hb3.size
                        clear hK K hS2 hb3 hown hB2 hr2 hrx2 hbx2 hrow
                        have hS := hS3
                        clear hS3
                        obtain ⟨mm, hmm⟩ : ∃ mm, x.n + nc = mm := ⟨_, rfl⟩
                        rw [hmm] at hrow3 ⊢
                        clear hmm
                        refine Held.take (i := 21) (.agg #[.int .i64 x.t, .slice Ad mm cd]) rfl hS (by kernel_rfl) (by kernel_rfl) (by kernel_rfl) (by kernel_rfl) (fun _ _ _ h => h) rfl (fun y hy => by obtain ⟨x1, x2⟩ := hy; go_simp) ?_
                        try simp only [Act.put]
                        refine Held.one (i := 22) rfl (by kernel_rfl) rfl (fun K hK => ?_)
                        unfold Oper.wp
                        go_simp
                        refine (PutEvent_any A n c l ⟨x.t, Ad, mm, cd, x.r ++ rowN wd (newN on others (x.t, x.r) DR)⟩ X3 hr3 hnc (by omega) hrow3).mono ?_
                        rintro e X4 ⟨An, nn, cn, ln, rfl, hdn, hrn, hncn, hb4⟩
                        have hB4 := bstep hB3 hb4
                        have HS4 := hide (show X4.cell? ⟨bx, ox + k * 2, none⟩ = some (.int .i64 x.t) ∧ X4.cell? ⟨bx, ox + k * 2 + 1, none⟩ = some (.slice x.A x.n x.c) from ⟨(hb4.cell hbx3).trans hS.1, (hb4.cell hbx3).trans hS.2⟩)
                        refine hK _ _ (fun _ => HS4.out) ?_
                        try simp only [Act.put]
                        have HO := hide (show EvO (srtG cmpE (((dE ll).take (k + 1)).map fun x => verO on others wd x DR)) (.slice An nn cn) X4 from ⟨An, nn, cn, ln, rfl, by
                          rw [HTK.out, List.map_append, List.map_cons, List.map_nil, srtG_snoc, hdn, HD.out]
                          rfl, hrn, hncn⟩)
                        clear hK K hS hb4 hB3 hr3 hrow3 hdn hrn hncn hbx3
                        refine Held.one (i := 23) rfl (by kernel_rfl) rfl (fun K hK => ?_)
                        unfold Oper.wp
                        go_simp
                        refine hK _ _ (fun _ => HS4.out) ?_
                        try simp only [Act.put]
                        clear hK K
                        refine Held.done (by kernel_rfl) ?_
                        go_wp2
                        go_roundw
                        case rel => exact ⟨k + 1, by omega, by go_num, HO.out, HOV2.out, hB4⟩
                        case measure => simp [intOf]; omega
                    · obtain rfl : k = n3 := by omega
                      rw [List.take_of_length_le (by rw [dE_len, HL3.out]; exact Nat.le_refl _)] at hO HOV
                      obtain ⟨A, n, c, l, rfl, hd, hr, hnc⟩ := hO
                      have HEND := hide (show RetEvE w p (.returned (.tuple #[.slice A n c, .int .i64 0])) wr from by
                        rw [HP2.out, HOV.out]
                        exact ⟨A, n, c, l, rfl, hd, hr, hnc, hBr⟩)
                      clear hr hBr hd
                      go_wp2
                      refine bodyPost_ret (results_tmp2 rfl _ _ _) rfl ?_
                      exact HEND.out
end Go.Proofs.YtoapjidpfghnlaaGreatDoor
