/-
  The walk of the reference's Local.
-/
import Derived.Test.YtblepaocekojbaaLcR0
import Derived.Deep.AppendLies
import Derived.Deep.CutRange
import Derived.Deep.CutBlock
namespace Go.Proofs.Ytblepaocekojbaa
open Go.RowKit Go.Shelf Go.Maps Go.Deep
attribute [local go_sem] Oper.semAt_some
set_option linter.unusedVariables false

set_option maxRecDepth 100000 in
set_option maxHeartbeats 8000000 in
theorem RLocal_any (A : Option Addr) (q0 c : Nat) (lo : List Pl) (A1 : Option Addr) (q c1 : Nat) (ln : List Pl) (A2 : Option Addr) (n c2 : Nat) (ss : List Int) (w : World) (hlo : Reads w w.heap.size 2 A q0 (lo.flatMap encPl)) (hln : Reads w w.heap.size 2 A1 q (ln.flatMap encPl)) (hs : Reads w w.heap.size 1 A2 n (ss.map (Value.int .i64))) (hq0 : q0 ≤ 1000000) (hq : q ≤ 1000000) (hn : n ≤ 1000000) :
    Calls Try.prog 43 #[.slice A q0 c, .slice A1 q c1, .slice A2 n c2] w (RetSlE w 2 (locR q0 q n ss lo ln).length ((locR q0 q n ss lo ln).flatMap encPl) (locE q0 q n ss ln)) := by
  have HLN := hide (hln.len encPl_len (by omega))
  have HLO := hide (hlo.len encPl_len (by omega))
  have HSL := hide (slotted_any A2 n c2 _ ss w hs (by omega))
  cases hsl : slotB n ss
  · have he : locE q0 q n ss ln = 1 := by simp [locE, hsl]
    rw [locR_bad (by omega), he]
    rw [hsl] at HSL
    clear he
    go_enter Try.func43, Try.ntmps43
    go_wp2_with (go_at_call 70; refine HSL.out.mono ?_; rintro e w' ⟨rfl, rfl⟩)
    go_ret2
    exact ⟨none, 0, rfl, Reads.none_, Below.refl _ _⟩
  · rw [hsl] at HSL
    by_cases hq2 : q ≤ 200
    · obtain ⟨PR, hPR⟩ : ∃ PR, locR q0 q n ss lo ln = PR := ⟨_, rfl⟩
      obtain ⟨PE, hPE⟩ : ∃ PE, locE q0 q n ss ln = PE := ⟨_, rfl⟩
      rw [hPR, hPE]
      have HPE := hide (show PE = if (!(ln.any fun p => !winB n ss p)) = true then (if q0 = q then 0 else 9) else 1 by rw [← hPE]; simp [locE, hsl, hq2])
      have HPR := hide (show PR = if PE = 0 then locL n ss lo ln q q else [] by rw [← hPR, ← hPE]; rfl)
      have z200 : decide ((200 : Int) < (q : Int)) = false := by simp; omega
      have hso := slot_ok hsl hs
      have HSLB := hide hsl
      clear hPR hPE hsl
      go_enter Try.func43, Try.ntmps43
      go_wp2_with (go_at_call 70; refine HSL.out.mono ?_; rintro e w' ⟨rfl, rfl⟩)
      clear z200
      go_loopw [8] (fun i wr => ∃ k : Nat, k ≤ q ∧ i = .int .i64 k ∧ (ln.take k).any (fun p => !winB n ss p) = false ∧ Below w.heap.size w wr) (fun i _ => q - (intOf i).toNat)
      case atStart => exact ⟨0, Nat.zero_le _, rfl, rfl, Below.refl _ _⟩
      case round =>
        obtain ⟨k, hk, rfl, hany, hB⟩ := hrel
        have HA := hide hany
        clear hany
        by_cases hlt : k < q
        · obtain ⟨b, off, p, ha, hb, hpk, hcp⟩ := (hln.below hB).elem encPl_len HLN.out hlt
          have HPK := hide hpk
          have e0 : wr.cell? ⟨b, off + k * 2, none⟩ = some (.int .i64 p.m) := by simpa using hcp 0 _ rfl
          have e1 : wr.cell? ⟨b, off + k * 2 + 1, none⟩ = some (.int .i64 p.s) := by simpa [← Nat.add_assoc] using hcp 1 _ rfl
          have HWI := hide (Rwithin_any p A2 n c2 ss wr (hs.up hB) (by omega))
          clear hcp hpk
          rw [ha]
          have HAA := hide ha
          clear ha
          have q1 : (0 : Int) ≤ (k : Int) := by omega
          have q2 : (k : Int) < (q : Int) := by omega
          cases hwi : winB n ss p
          · have hx := any_hit (fun p => !winB n ss p) ln k p HPK.out (by rw [hwi]; rfl)
            have hpe := HPE.out
            rw [hx] at hpe
            have hpe : PE = 1 := by simpa using hpe
            have hpr := HPR.out
            rw [hpe, if_neg (by omega)] at hpr
            have HE4 := hide hpe
            have HR4 := hide hpr
            rw [hwi] at HWI
            clear hpe hpr hx hwi
            go_wp2_with fail
            refine HWI.out.mono ?_
            rintro e W3 ⟨rfl, hB3⟩
            have HB := hide (bstep hB hB3)
            clear hB hB3 HWI e0 e1
            go_wp2
            go_ret2
            rw [HE4.out, HR4.out]
            exact ⟨none, 0, rfl, Reads.none_, HB.out⟩
          · have HN := hide (any_take' (fun p => !winB n ss p) ln k p HPK.out (by rw [hwi]; rfl) HA.out)
            rw [hwi] at HWI
            clear hwi
            go_wp2_with fail
            refine HWI.out.mono ?_
            rintro e W3 ⟨rfl, hB3⟩
            have hB03 := bstep hB hB3
            clear hB hB3 HWI e0 e1
            go_wp2
            go_roundw
            case rel => exact ⟨k + 1, by omega, by go_num, HN.out, hB03⟩
            case measure => simp [intOf]; omega
        · obtain rfl : q = k := by omega
          have hall := HA.out
          rw [take_all HLN.out] at hall
          have HALL := hide hall
          by_cases hqq : q0 = q
          · have z9 : ((q0 : Int) != (q : Int)) = false := by simp [hqq]
            have hpe := HPE.out
            rw [hall] at hpe
            have hpe : PE = 0 := by simpa [hqq] using hpe
            have hpr := HPR.out
            rw [if_pos hpe] at hpr
            have HE4 := hide hpe
            have HR4 := hide hpr
            have HQQ := hide hqq
            clear hpe hpr hall hqq
            have HSO := hide (fun k hk => hso.2.2 k hk)
            have hn1 := hso.1
            have hn20 := hso.2.1
            obtain ⟨S, hS⟩ : ∃ S, natA ss = S := ⟨_, rfl⟩
            have HS := hide hS
            rw [hS] at HSO
            clear hS hso
            obtain ⟨w1, hw1⟩ : ∃ w1 : World, w1 = wr := ⟨_, rfl⟩
            subst hw1
            go_wp2_with fail
            have t0 := Two.nil w1 w.heap.size 67
            obtain ⟨ir0, hri, hrz0, hrz1, hrz2⟩ := info_parts infoRPlace_dk
            have hob : ∀ m s, m < n → s ≤ S m → ((slotsL S m ++ rowS m s).filter fun p => decide (p ∈ ln)).length ≤ 400 := fun m s hm hs => by
              have h1 := List.length_filter_le (fun p => decide (p ∈ ln)) (slotsL S m ++ rowS m s)
              rw [List.length_append, slotsL_len, rowS_len] at h1
              have h2 : offW S m ≤ m * 16 := offW_bound (M := 16) fun i hi => (HSO.out i (by omega)).2
              have h3 := (HSO.out m hm).2
              omega
            have HOB := hide hob
            obtain ⟨U, hU⟩ : ∃ U : Nat → Nat → List Pl, (fun m s => (slotsL S m ++ rowS m s).filter fun p => decide (p ∈ ln)) = U := ⟨_, rfl⟩
            have hUe : ∀ m s, ((slotsL S m ++ rowS m s).filter fun p => decide (p ∈ ln)) = U m s := fun m s => by rw [← hU]
            have HUE := hide hUe
            have HUS := hide (fun m s => show U m (s + 1) = U m s ++ (if (⟨(m : Int), (s : Int)⟩ : Pl) ∈ ln then [⟨(m : Int), (s : Int)⟩] else []) by rw [← hUe, ← hUe]; exact used_step)
            have HUN := hide (fun m => show U m (S m) = U (m + 1) 0 by rw [← hUe, ← hUe, slotsL_succ]; simp [rowS])
            have HU0 := hide (show U 0 0 = [] by rw [← hUe]; rfl)
            obtain ⟨TF, hTF⟩ : ∃ TF : List Pl → List Pl, (fun us => tkOf (slotsL S n) (winB n ss) (hadL lo ln q) us []) = TF := ⟨_, rfl⟩
            have hTe : ∀ us, tkOf (slotsL S n) (winB n ss) (hadL lo ln q) us [] = TF us := fun us => by rw [← hTF]
            have HTE := hide hTe
            have HTS := hide (fun us p => show TF (us ++ [p]) = TF us ++ [toF (slotsL S n) (winB n ss) (hadL lo ln q) (TF us) p] by rw [← hTe, ← hTe, tkOf_snoc])
            have HTL := hide (fun us => show (TF us).length = us.length by rw [← hTe, tkOf_len]; simp)
            have HT0 := hide (show TF [] = [] by rw [← hTe]; rfl)
            clear hob hU hUe hTF hTe
            have t1 : Two w1 w.heap.size 67 (.slice none 0 0) (.slice none 0 0) (U 0 0) (TF (U 0 0)) := by rw [HU0.out, HT0.out]; exact t0
            clear t0
            go_loopw [9, 10, 11, 12, 13, 14, 15, 16] (fun v9 v10 i _ _ _ _ _ wr => ∃ m : Nat, m ≤ n ∧ i = .int .i64 m ∧ Two wr w.heap.size 67 v9 v10 (U m 0) (TF (U m 0)) ∧ Below w.heap.size w wr) (fun _ _ i _ _ _ _ _ _ => n - (intOf i).toNat)
            case atStart => exact ⟨0, Nat.zero_le _, rfl, t1, hB⟩
            case round =>
              clear t1 hB
              obtain ⟨m, hmn, rfl, htw, hB⟩ := hrel
              by_cases hltm : m < n
              · have hsm := (HSO.out m hltm).2
                obtain ⟨b, off, x0, hA, hb, _, _⟩ := (hs.below hB).at1 hltm
                rw [hA]
                have HA2 := hide hA
                clear hA
                go_wp2_with fail
                go_loopw [9, 10, 12, 13, 14, 15, 16] (fun v9 v10 i _ _ _ _ wr => ∃ s : Nat, s ≤ S m ∧ i = .int .i64 s ∧ Two wr w.heap.size 67 v9 v10 (U m s) (TF (U m s)) ∧ Below w.heap.size w wr) (fun _ _ i _ _ _ _ _ => S m - (intOf i).toNat)
                case atStart => exact ⟨0, Nat.zero_le _, rfl, htw, hB⟩
                case round =>
                  clear htw hB
                  obtain ⟨s, hsn, rfl, htw, hB⟩ := hrel
                  obtain ⟨b', off', x, hA, hb', hxk, hc⟩ := (hs.below hB).at1 hltm
                  have h1 := (HSO.out m hltm).1
                  rw [hxk] at h1
                  injection h1 with h1
                  subst h1
                  rw [HA2.out] at hA
                  injection hA with hA
                  injection hA with hA1 hA2
                  subst hA1 hA2
                  have e0 : wr.cell? ⟨b, off + m, none⟩ = some (.int .i64 ((S m : Nat) : Int)) := hc
                  clear hxk hc
                  have q1 : (0 : Int) ≤ (m : Int) := by omega
                  have q2 : (m : Int) < (n : Int) := by omega
                  by_cases hlts : s < S m
                  · have hul := HOB.out m s hltm (by omega)
                    rw [HUE.out] at hul
                    have htl := HTL.out (U m s)
                    have HUSm := hide (HUS.out m s)
                    have HTSm := hide (HTS.out (U m s))
                    have HSM := hide (show ∃ sm, S m = sm ∧ s < sm from ⟨_, rfl, hlts⟩)
                    obtain ⟨us, hus⟩ : ∃ us, U m s = us := ⟨_, rfl⟩
                    obtain ⟨tk, htk⟩ : ∃ tk, TF us = tk := ⟨_, rfl⟩
                    rw [hus] at htw hul htl HUSm HTSm
                    rw [htk] at htw htl HTSm
                    have HTK := hide htk
                    have htb : tk.length ≤ 400 := by omega
                    clear hus htk htl
                    obtain ⟨P, hP⟩ : ∃ P : Pl, P = ⟨(m : Int), (s : Int)⟩ := ⟨_, rfl⟩
                    rw [← hP] at HUSm
                    have HPP := hide hP
                    have HI := hide (fun W (h : Below w.heap.size w W) => index_any A1 q c1 ln ⟨(m : Int), (s : Int)⟩ W (hln.up h) hq)
                    have HG := hide (show decide (idxP ln ⟨(m : Int), (s : Int)⟩ < 0) = !decide (P ∈ ln) by rw [hP]; exact idxP_lt)
                    obtain ⟨v, hv⟩ : ∃ v, idxP ln ⟨(m : Int), (s : Int)⟩ = v := ⟨_, rfl⟩
                    rw [hv] at HI HG
                    clear hv hP
                    obtain ⟨sm, hsmm⟩ : ∃ sm, S m = sm := ⟨_, rfl⟩
                    have HSMM := hide hsmm
                    rw [hsmm] at e0 hlts hsm hsn
                    clear hsmm
                    have k3 := Blk.new wr 67 #[.int .i64 (m : Int), .int .i64 (s : Int)]
                    have tw3 := htw.alloc (.cells #[.int .i64 (m : Int), .int .i64 (s : Int)] 67)
                    have hszw := hB.size
                    have hB3 := hB.alloc hszw (.cells #[.int .i64 (m : Int), .int .i64 (s : Int)] 67)
                    have hs3 : wr.heap.size < (wr.alloc (.cells #[.int .i64 (m : Int), .int .i64 (s : Int)] 67)).heap.size := by simp
                    go_upto_region 18 with fail
                    obtain ⟨W3, hW3⟩ : ∃ W3, wr.alloc (.cells #[.int .i64 (m : Int), .int .i64 (s : Int)] 67) = W3 := ⟨_, rfl⟩
                    obtain ⟨bA, hbA⟩ : ∃ bA, wr.heap.size = bA := ⟨_, rfl⟩
                    rw [hW3] at k3 tw3 hB3 hs3 ⊢
                    rw [hbA] at k3 hs3 hszw ⊢
                    clear hW3 hbA htw hB e0
                    have d0 := k3.cell 0
                    have d1 := k3.cell 1
                    simp at d0 d1
                    go_wp2_with fail
                    refine (HI.out W3 hB3).mono ?_
                    rintro e W4 ⟨rfl, hB4⟩
                    have k4 := k3.below hB4 hs3
                    have tw4 := tw3.below hB4
                    have hB04 := bstep hB3 hB4
                    have hsA : bA < W4.heap.size := Nat.lt_of_lt_of_le hs3 hB4.size
                    clear k3 tw3 hB3 hs3 d0 d1 hB4 HI
                    by_cases hin : P ∈ ln
                    · have z : decide (v < 0) = false := by rw [HG.out]; simp [hin]
                      have HUN1 := hide (show U m (s + 1) = us ++ [P] by rw [HUSm.out, if_pos hin])
                      clear hin
                      have k5 := k4.alloc (.cells #[.int .i64 (m : Int), .int .i64 (s : Int)] 67)
                      have kT5 := Blk.new W4 67 #[.int .i64 (m : Int), .int .i64 (s : Int)]
                      have tw5 := tw4.alloc (.cells #[.int .i64 (m : Int), .int .i64 (s : Int)] 67)
                      have hB5 := hB04.alloc hB04.size (.cells #[.int .i64 (m : Int), .int .i64 (s : Int)] 67)
                      have hs5 : W4.heap.size < (W4.alloc (.cells #[.int .i64 (m : Int), .int .i64 (s : Int)] 67)).heap.size := by simp
                      have n9 : u9.ownBlock ≠ some W4.heap.size := fun e => by have := (tw4.a.lt _ e).2; omega
                      have n10 : u10.ownBlock ≠ some W4.heap.size := fun e => by have := (tw4.b.lt _ e).2; omega
                      have d0 := k4.cell 0
                      have d1 := k4.cell 1
                      simp at d0 d1
                      go_upto_region 20 with fail
                      obtain ⟨W5, hW5⟩ : ∃ W5, W4.alloc (.cells #[.int .i64 (m : Int), .int .i64 (s : Int)] 67) = W5 := ⟨_, rfl⟩
                      obtain ⟨bT, hbT⟩ : ∃ bT, W4.heap.size = bT := ⟨_, rfl⟩
                      rw [hW5] at k5 kT5 tw5 hB5 hs5 ⊢
                      rw [hbT] at kT5 hs5 n9 n10 hsA ⊢
                      clear hW5 hbT k4 tw4 hB04 d0 d1
                      have xw : w.heap.size ≤ bT := by omega
                      have xAT : bA ≠ bT := by omega
                      have kT6 : Blk W5 bT 67 #[.int .i64 (toW (winB n ss) P (hadF (plA lo) (plA ln) 0 P)).m, .int .i64 (toW (winB n ss) P (hadF (plA lo) (plA ln) 0 P)).s] := by
                        rw [show toW (winB n ss) P (hadF (plA lo) (plA ln) 0 P) = P from rfl, HPP.out]; exact kT5
                      clear kT5
                      have hsA5 : bA < W5.heap.size := by omega
                      go_upto_block 6 with fail
                      go_cut [15, 16] from 51 to 128 (fun _ _ wx => Blk wx bT 67 #[.int .i64 (toW (winB n ss) P (hadL lo ln q P)).m, .int .i64 (toW (winB n ss) P (hadL lo ln q P)).s] ∧ Blk wx bA 67 #[.int .i64 (m : Int), .int .i64 (s : Int)] ∧ Two wx w.heap.size 67 u9 u10 us tk ∧ bT < wx.heap.size ∧ bA < wx.heap.size ∧ Below w.heap.size w wx)
                      case first =>
                        go_wp2_with fail
                        go_loopw [15, 16] (fun fd i wr => ∃ k : Nat, k ≤ q ∧ i = .int .i64 k ∧ fd = .bool (hadF (plA lo) (plA ln) k P).isSome ∧ Blk wr bT 67 #[.int .i64 (toW (winB n ss) P (hadF (plA lo) (plA ln) k P)).m, .int .i64 (toW (winB n ss) P (hadF (plA lo) (plA ln) k P)).s] ∧ Blk wr bA 67 #[.int .i64 (m : Int), .int .i64 (s : Int)] ∧ Two wr w.heap.size 67 u9 u10 us tk ∧ bT < wr.heap.size ∧ bA < wr.heap.size ∧ Below w.heap.size w wr) (fun _ i _ => q - (intOf i).toNat)
                        case atStart => exact ⟨0, Nat.zero_le _, rfl, rfl, kT6, k5, tw5, hs5, hsA5, hB5⟩
                        case round =>
                          clear kT6 k5 tw5 hs5 hsA5 hB5
                          obtain ⟨k, hkq, rfl, rfl, kT, kA, htw, hsT, hsA, hB⟩ := hrel
                          cases hfd : hadF (plA lo) (plA ln) k P with
                          | some o =>
                            have HKT := hide (show Blk wr bT 67 #[.int .i64 (toW (winB n ss) P (hadL lo ln q P)).m, .int .i64 (toW (winB n ss) P (hadL lo ln q P)).s] by
                              rw [hfd] at kT
                              unfold hadL; rw [hadF_keep hfd hkq]; exact kT)
                            have HKA := hide kA
                            have HTW := hide htw
                            clear hfd kT kA htw
                            simp only [Option.isSome]
                            by_cases hltk : k < q
                            · have hge : (k : Int) < (q : Int) := by omega
                              go_wp2_with fail
                              go_meet
                              case rel => exact ⟨HKT.out, HKA.out, HTW.out, hsT, hsA, hB⟩
                            · have hge : (q : Int) ≤ (k : Int) := by omega
                              go_wp2_with fail
                              go_meet
                              case rel => exact ⟨HKT.out, HKA.out, HTW.out, hsT, hsA, hB⟩
                          | none =>
                            by_cases hltk : k < q
                            · obtain ⟨b1, off1, x, hA1', hb1, hxk, hcx⟩ := (hln.below hB).elem encPl_len HLN.out hltk
                              obtain ⟨b0, off0, o, hA0', hb0, hok, hco⟩ := (hlo.below hB).elem encPl_len HLO.out (show k < q0 by rw [HQQ.out]; exact hltk)
                              have HH := hide (show hadF (plA lo) (plA ln) (k + 1) P = if x = P ∧ 0 ≤ o.m ∧ 0 ≤ o.s then some o else none by rw [hadF_succ, hfd]; simp only []; rw [← plA_at hxk, ← plA_at hok])
                              rw [hfd] at kT
                              have x0' : wr.cell? ⟨b1, off1 + k * 2, none⟩ = some (.int .i64 x.m) := by simpa using hcx 0 _ rfl
                              have x1' : wr.cell? ⟨b1, off1 + k * 2 + 1, none⟩ = some (.int .i64 x.s) := by simpa [← Nat.add_assoc] using hcx 1 _ rfl
                              have o0' : wr.cell? ⟨b0, off0 + k * 2, none⟩ = some (.int .i64 o.m) := by simpa using hco 0 _ rfl
                              have o1' : wr.cell? ⟨b0, off0 + k * 2 + 1, none⟩ = some (.int .i64 o.s) := by simpa [← Nat.add_assoc] using hco 1 _ rfl
                              have a0' := kA.cell 0
                              have a1' := kA.cell 1
                              simp at a0' a1'
                              clear hcx hco hxk hok hfd
                              rw [hA1', hA0']
                              have HA1' := hide hA1'
                              have HA0' := hide hA0'
                              clear hA1' hA0'
                              have HEQ := eqRP x ⟨(m : Int), (s : Int)⟩
                              have hgt : Try.prog.eqGuardType Try.prog.depth 67 = false := by kernel_rfl
                              have q3 : (0 : Int) ≤ (k : Int) := by omega
                              have q4 : (k : Int) < (q : Int) := by omega
                              have q5 : (k : Int) < (q0 : Int) := by have := HQQ.out; omega
                              simp only [Option.isSome]
                              by_cases hxp : x = P
                              · have z1 : decide (x = (⟨(m : Int), (s : Int)⟩ : Pl)) = true := by rw [hxp, HPP.out]; simp
                                simp only [z1] at HEQ
                                by_cases hom : 0 ≤ o.m
                                · have z2 : decide (0 ≤ o.m) = true := by simpa using hom
                                  by_cases hos : 0 ≤ o.s
                                  · have z3 : decide (0 ≤ o.s) = true := by simpa using hos
                                    have HN := hide (show hadF (plA lo) (plA ln) (k + 1) P = some o by rw [HH.out, if_pos ⟨hxp, hom, hos⟩])
                                    have HWI := hide (fun (W : World) (h : Below w.heap.size w W) => Rwithin_any o (some ⟨b, off, none⟩) n c2 ss W (HA2.out ▸ hs.up h) (by omega))
                                    clear hxp hom hos
                                    go_wp2_with fail
                                    go_quiet (fail)
                                    go_wp2_with fail
                                    refine (HWI.out _ (below_drewN hB _)).mono ?_
                                    rintro e W7 ⟨rfl, hB7⟩
                                    have kT7 := (kT.drewN nq).below hB7 hsT
                                    have kA7 := (kA.drewN nq).below hB7 hsA
                                    have tw7 := (htw.drewN nq).below hB7
                                    have hB07 := bstep (below_drewN hB nq) hB7
                                    have hsT7 : bT < W7.heap.size := Nat.lt_of_lt_of_le hsT hB7.size
                                    have hsA7 : bA < W7.heap.size := Nat.lt_of_lt_of_le hsA hB7.size
                                    have o0 : W7.cell? ⟨b0, off0 + k * 2, none⟩ = some (.int .i64 o.m) := by rw [hB7.cell (p := ⟨b0, off0 + k * 2, none⟩) (show b0 < wr.heap.size from Nat.lt_of_lt_of_le hb0 hB.size)]; exact o0'
                                    have o1 : W7.cell? ⟨b0, off0 + k * 2 + 1, none⟩ = some (.int .i64 o.s) := by rw [hB7.cell (p := ⟨b0, off0 + k * 2 + 1, none⟩) (show b0 < wr.heap.size from Nat.lt_of_lt_of_le hb0 hB.size)]; exact o1'
                                    have f0 := kT7.frozen 0
                                    have g0 := kT7.cell 0
                                    have f1 := (kT7.set_ 0 (.int .i64 o.m)).frozen 1
                                    have g1' := (kT7.set_ 0 (.int .i64 o.m)).cell 1
                                    simp at g0 g1'
                                    clear kT kA htw hB hsT hsA x0' x1' o0' o1' HWI
                                    cases hwo : winB n ss o
                                    · have HKT := hide (show Blk W7 bT 67 #[.int .i64 (toW (winB n ss) P (hadF (plA lo) (plA ln) (k + 1) P)).m, .int .i64 (toW (winB n ss) P (hadF (plA lo) (plA ln) (k + 1) P)).s] by
                                        rw [HN.out, show toW (winB n ss) P (some o) = P by show (if winB n ss o = true then o else P) = P; rw [if_neg (by rw [hwo]; simp)]]; exact kT7)
                                      have HKA := hide kA7
                                      have HTW := hide tw7
                                      clear hwo kT7 kA7 tw7 f0 f1 g0 g1' hB7
                                      go_wp2
                                      go_roundw
                                      case rel => exact ⟨k + 1, by omega, by go_num, by rw [HN.out], HKT.out, HKA.out, HTW.out, hsT7, hsA7, hB07⟩
                                      case measure => simp [intOf]; omega
                                    · have HKT := hide (show Blk ((W7.setCell ⟨bT, 0, none⟩ (.int .i64 o.m)).setCell ⟨bT, 1, none⟩ (.int .i64 o.s)) bT 67 #[.int .i64 (toW (winB n ss) P (hadF (plA lo) (plA ln) (k + 1) P)).m, .int .i64 (toW (winB n ss) P (hadF (plA lo) (plA ln) (k + 1) P)).s] by
                                        rw [HN.out, show toW (winB n ss) P (some o) = o by show (if winB n ss o = true then o else P) = o; rw [if_pos hwo]]; exact setP kT7 _ _)
                                      have HKA := hide ((kA7.far (p := ⟨bT, 0, none⟩) (show bA ≠ bT from xAT) (.int .i64 o.m)).far (p := ⟨bT, 1, none⟩) (show bA ≠ bT from xAT) (.int .i64 o.s))
                                      have HTW := hide ((tw7.set_ (a := ⟨bT, 0, none⟩) n9 n10 (.int .i64 o.m)).set_ (a := ⟨bT, 1, none⟩) n9 n10 (.int .i64 o.s))
                                      have hB8 := (hB07.setCell (p := ⟨bT, 0, none⟩) xw (.int .i64 o.m)).setCell (p := ⟨bT, 1, none⟩) xw (.int .i64 o.s)
                                      have hsT8 : bT < ((W7.setCell ⟨bT, 0, none⟩ (.int .i64 o.m)).setCell ⟨bT, 1, none⟩ (.int .i64 o.s)).heap.size := by rw [World.size_setCell, World.size_setCell]; exact hsT7
                                      have hsA8 : bA < ((W7.setCell ⟨bT, 0, none⟩ (.int .i64 o.m)).setCell ⟨bT, 1, none⟩ (.int .i64 o.s)).heap.size := by rw [World.size_setCell, World.size_setCell]; exact hsA7
                                      clear hwo kT7 kA7 tw7 hB7 hB07
                                      go_wp2
                                      go_roundw
                                      case rel => exact ⟨k + 1, by omega, by go_num, by rw [HN.out], HKT.out, HKA.out, HTW.out, hsT8, hsA8, hB8⟩
                                      case measure => simp [intOf]; omega
                                  · have z3 : decide (0 ≤ o.s) = false := by simpa using hos
                                    have HN := hide (show hadF (plA lo) (plA ln) (k + 1) P = none by rw [HH.out, if_neg (by rintro ⟨h1, h2, h3⟩; first | exact hxp h1 | omega)])
                                    have HKT := hide (show Blk wr bT 67 #[.int .i64 (toW (winB n ss) P (hadF (plA lo) (plA ln) (k + 1) P)).m, .int .i64 (toW (winB n ss) P (hadF (plA lo) (plA ln) (k + 1) P)).s] by rw [HN.out]; exact kT)
                                    have HKA := hide kA
                                    have HTW := hide htw
                                    clear kT kA htw hxp
                                    go_wp2_with fail
                                    go_quiet (fail)
                                    go_wp2
                                    go_roundw
                                    case rel => exact ⟨k + 1, by omega, by go_num, by rw [HN.out], HKT.out, HKA.out, HTW.out.drewN _, hsT, hsA, below_drewN hB _⟩
                                    case measure => simp [intOf]; omega
                                · have z2 : decide (0 ≤ o.m) = false := by simpa using hom
                                  have HN := hide (show hadF (plA lo) (plA ln) (k + 1) P = none by rw [HH.out, if_neg (by rintro ⟨h1, h2, h3⟩; first | exact hxp h1 | omega)])
                                  have HKT := hide (show Blk wr bT 67 #[.int .i64 (toW (winB n ss) P (hadF (plA lo) (plA ln) (k + 1) P)).m, .int .i64 (toW (winB n ss) P (hadF (plA lo) (plA ln) (k + 1) P)).s] by rw [HN.out]; exact kT)
                                  have HKA := hide kA
                                  have HTW := hide htw
                                  clear kT kA htw hxp
                                  go_wp2_with fail
                                  go_quiet (fail)
                                  go_wp2
                                  go_roundw
                                  case rel => exact ⟨k + 1, by omega, by go_num, by rw [HN.out], HKT.out, HKA.out, HTW.out.drewN _, hsT, hsA, below_drewN hB _⟩
                                  case measure => simp [intOf]; omega
                              · have z1 : decide (x = (⟨(m : Int), (s : Int)⟩ : Pl)) = false := by rw [← HPP.out]; simpa using hxp
                                simp only [z1] at HEQ
                                have HN := hide (show hadF (plA lo) (plA ln) (k + 1) P = none by rw [HH.out, if_neg (by rintro ⟨h1, h2, h3⟩; first | exact hxp h1 | omega)])
                                have HKT := hide (show Blk wr bT 67 #[.int .i64 (toW (winB n ss) P (hadF (plA lo) (plA ln) (k + 1) P)).m, .int .i64 (toW (winB n ss) P (hadF (plA lo) (plA ln) (k + 1) P)).s] by rw [HN.out]; exact kT)
                                have HKA := hide kA
                                have HTW := hide htw
                                clear kT kA htw
                                go_wp2_with fail
                                go_quiet (fail)
                                go_wp2
                                go_roundw
                                case rel => exact ⟨k + 1, by omega, by go_num, by rw [HN.out], HKT.out, HKA.out, HTW.out.drewN _, hsT, hsA, below_drewN hB _⟩
                                case measure => simp [intOf]; omega
                            · have HKT := hide (show Blk wr bT 67 #[.int .i64 (toW (winB n ss) P (hadL lo ln q P)).m, .int .i64 (toW (winB n ss) P (hadL lo ln q P)).s] by
                                rw [hfd] at kT
                                unfold hadL; rw [← show k = q by omega, hfd]; exact kT)
                              have HKA := hide kA
                              have HTW := hide htw
                              clear hfd kT kA htw
                              simp only [Option.isSome]
                              have hge : (q : Int) ≤ (k : Int) := by omega
                              go_wp2_with fail
                              go_meet
                              case rel => exact ⟨HKT.out, HKA.out, HTW.out, hsT, hsA, hB⟩
                      case rest =>
                        clear kT6 k5 tw5 hs5 hsA5 hB5
                        obtain ⟨kT, kA, htw, hsT, hsA, hB⟩ := hcut
                        obtain ⟨wr, hwr⟩ : ∃ wr : World, wr = wc := ⟨_, rfl⟩
                        subst hwr
                        obtain ⟨T0, hT0⟩ : ∃ T0, toW (winB n ss) P (hadL lo ln q P) = T0 := ⟨_, rfl⟩
                        have HT0' := hide hT0
                        rw [hT0] at kT
                        clear hT0
                        obtain ⟨A10, c10, hv10, hR10⟩ := own_form htw.b
                        have HV10 := hide hv10
                        have HTW := hide htw
                        rw [hv10]
                        clear hv10 htw
                        have HI := hide (index_any A10 tk.length c10 tk T0 wr hR10 (by omega))
                        have HG := hide (idxP_ge (l := tk) (p := T0))
                        obtain ⟨v, hv⟩ : ∃ v, idxP tk T0 = v := ⟨_, rfl⟩
                        rw [hv] at HI HG
                        clear hv
                        have e0 := kT.cell 0
                        have e1 := kT.cell 1
                        simp at e0 e1
                        go_wp2_with fail
                        refine HI.out.mono ?_
                        rintro e W6 ⟨rfl, hB6⟩
                        have kT6 := kT.below hB6 hsT
                        have kA6 := kA.below hB6 hsA
                        have tw6 := HTW.out.below hB6
                        have hB06 := bstep hB hB6
                        have hsT6 : bT < W6.heap.size := Nat.lt_of_lt_of_le hsT hB6.size
                        have hsA6 : bA < W6.heap.size := Nat.lt_of_lt_of_le hsA hB6.size
                        clear hB hB6 kT kA hR10 e0 e1 HI hsT hsA HTW
                        have hRt := Reads.of_own (HV10.out ▸ tw6.b)
                        have HWT := hide (show wantF (winB n ss) (hadL lo ln q) tk P = if T0 ∈ tk then P else T0 by rw [want_eq, HT0'.out])
                        by_cases hin0 : T0 ∈ tk
                        · have z : decide (0 ≤ v) = true := by rw [HG.out]; simp [hin0]
                          have HW1 := hide (show wantF (winB n ss) (hadL lo ln q) tk P = P by rw [HWT.out, if_pos hin0])
                          clear hin0
                          have a0 := kA6.cell 0
                          have a1 := kA6.cell 1
                          have g0 := kT6.cell 0
                          have g1 := kT6.cell 1
                          have f0 := kT6.frozen 0
                          have f1 := (kT6.set_ 0 (.int .i64 (m : Int))).frozen 1
                          have g1' := (kT6.set_ 0 (.int .i64 (m : Int))).cell 1
                          simp at a0 a1 g0 g1 g1'
                          have kT7 := setP kT6 (.int .i64 (m : Int)) (.int .i64 (s : Int))
                          have kA7 := (kA6.far (p := ⟨bT, 0, none⟩) (show bA ≠ bT from xAT) (.int .i64 (m : Int))).far (p := ⟨bT, 1, none⟩) (show bA ≠ bT from xAT) (.int .i64 (s : Int))
                          have tw7 := (tw6.set_ (a := ⟨bT, 0, none⟩) n9 n10 (.int .i64 (m : Int))).set_ (a := ⟨bT, 1, none⟩) n9 n10 (.int .i64 (s : Int))
                          have hB7 := (hB06.setCell (p := ⟨bT, 0, none⟩) xw (.int .i64 (m : Int))).setCell (p := ⟨bT, 1, none⟩) xw (.int .i64 (s : Int))
                          have hsT7 : bT < ((W6.setCell ⟨bT, 0, none⟩ (.int .i64 (m : Int))).setCell ⟨bT, 1, none⟩ (.int .i64 (s : Int))).heap.size := by rw [World.size_setCell, World.size_setCell]; exact hsT6
                          have hsA7 : bA < ((W6.setCell ⟨bT, 0, none⟩ (.int .i64 (m : Int))).setCell ⟨bT, 1, none⟩ (.int .i64 (s : Int))).heap.size := by rw [World.size_setCell, World.size_setCell]; exact hsA6
                          go_upto_region 30 with fail
                          obtain ⟨W7, hW7⟩ : ∃ W7, (W6.setCell ⟨bT, 0, none⟩ (.int .i64 (m : Int))).setCell ⟨bT, 1, none⟩ (.int .i64 (s : Int)) = W7 := ⟨_, rfl⟩
                          rw [hW7] at kT7 kA7 tw7 hB7 hsT7 hsA7 ⊢
                          clear hW7 kT6 kA6 tw6 hB06 hsT6 hsA6 a0 a1 g0 g1 g1' f0 f1 hRt z
                          have hRt := Reads.of_own (HV10.out ▸ tw7.b)
                          have HI2 := hide (index_any A10 tk.length c10 tk ⟨(m : Int), (s : Int)⟩ W7 hRt (by omega))
                          have HG2 := hide (show decide (0 ≤ idxP tk ⟨(m : Int), (s : Int)⟩) = decide (P ∈ tk) by rw [HPP.out]; exact idxP_ge)
                          obtain ⟨v2, hv2⟩ : ∃ v2, idxP tk ⟨(m : Int), (s : Int)⟩ = v2 := ⟨_, rfl⟩
                          rw [hv2] at HI2 HG2
                          clear hv2
                          have g0 := kT7.cell 0
                          have g1 := kT7.cell 1
                          simp at g0 g1
                          go_wp2_with fail
                          refine HI2.out.mono ?_
                          rintro e W8 ⟨rfl, hB8⟩
                          have kT8 := kT7.below hB8 hsT7
                          have kA8 := kA7.below hB8 hsA7
                          have tw8 := tw7.below hB8
                          have hB08 := bstep hB7 hB8
                          have hsT8 : bT < W8.heap.size := Nat.lt_of_lt_of_le hsT7 hB8.size
                          have hsA8 : bA < W8.heap.size := Nat.lt_of_lt_of_le hsA7 hB8.size
                          clear hB7 hB8 kT7 kA7 tw7 hRt g0 g1 HI2 hsT7 hsA7
                          by_cases hin1 : P ∈ tk
                          · have z : decide (0 ≤ v2) = true := by rw [HG2.out]; simp [hin1]
                            have HTO := hide (show toF (slotsL S n) (winB n ss) (hadL lo ln q) tk P = freeL (slotsL S n) tk by unfold toF; rw [HW1.out, if_pos hin1])
                            clear hin1
                            have hRt := Reads.of_own (HV10.out ▸ tw8.b)
                            have hFR := free_any A10 tk.length c10 tk (some ⟨b, off, none⟩) n c2 ss W8 hRt (HA2.out ▸ hs.up hB08) (by omega) HSLB.out
                            rw [HS.out] at hFR
                            obtain ⟨F, hF⟩ : ∃ F, freeL (slotsL S n) tk = F := ⟨_, rfl⟩
                            rw [hF] at HTO hFR
                            have HFR := hide hFR
                            clear hF hFR hRt
                            go_wp2_with fail
                            refine HFR.out.mono ?_
                            rintro e W9 ⟨rfl, hB9⟩
                            have kT9 := kT8.below hB9 hsT8
                            have kA9 := kA8.below hB9 hsA8
                            have tw9 := tw8.below hB9
                            have hB09 := bstep hB08 hB9
                            have hsT9 : bT < W9.heap.size := Nat.lt_of_lt_of_le hsT8 hB9.size
                            have hsA9 : bA < W9.heap.size := Nat.lt_of_lt_of_le hsA8 hB9.size
                            have f0 := kT9.frozen 0
                            have g0 := kT9.cell 0
                            have f1 := (kT9.set_ 0 (.int .i64 F.m)).frozen 1
                            have g1' := (kT9.set_ 0 (.int .i64 F.m)).cell 1
                            simp at g0 g1'
                            have kT := setP kT9 (.int .i64 F.m) (.int .i64 F.s)
                            have kA := (kA9.far (p := ⟨bT, 0, none⟩) (show bA ≠ bT from xAT) (.int .i64 F.m)).far (p := ⟨bT, 1, none⟩) (show bA ≠ bT from xAT) (.int .i64 F.s)
                            have htw := (tw9.set_ (a := ⟨bT, 0, none⟩) n9 n10 (.int .i64 F.m)).set_ (a := ⟨bT, 1, none⟩) n9 n10 (.int .i64 F.s)
                            have hBn := (hB09.setCell (p := ⟨bT, 0, none⟩) xw (.int .i64 F.m)).setCell (p := ⟨bT, 1, none⟩) xw (.int .i64 F.s)
                            have hsT : bT < ((W9.setCell ⟨bT, 0, none⟩ (.int .i64 F.m)).setCell ⟨bT, 1, none⟩ (.int .i64 F.s)).heap.size := by rw [World.size_setCell, World.size_setCell]; exact hsT9
                            have hsA : bA < ((W9.setCell ⟨bT, 0, none⟩ (.int .i64 F.m)).setCell ⟨bT, 1, none⟩ (.int .i64 F.s)).heap.size := by rw [World.size_setCell, World.size_setCell]; exact hsA9
                            clear kT8 kA8 tw8 hB08 hsT8 hsA8 hB9 HFR
                            go_upto_region 32 with fail
                            obtain ⟨X, hX⟩ : ∃ X, (W9.setCell ⟨bT, 0, none⟩ (.int .i64 F.m)).setCell ⟨bT, 1, none⟩ (.int .i64 F.s) = X := ⟨_, rfl⟩
                            rw [hX] at kT kA htw hBn hsT hsA ⊢
                            clear hX kT9 kA9 tw9 hB09 hsT9 hsA9 f0 f1 g0 g1' z
                            rw [HV10.out] at htw
                            have g0 := kA.cell 0
                            have g1 := kA.cell 1
                            have g2 := kT.cell 0
                            have g3 := kT.cell 1
                            simp at g0 g1 g2 g3
                            have hXs := hBn.size
                            have tw1 := (htw.alloc (.cells #[.int .i64 (m : Int), .int .i64 (s : Int)] 67)).drew
                            have tw12 := ((htw.alloc (.cells #[.int .i64 (m : Int), .int .i64 (s : Int)] 67)).alloc (.cells #[.int .i64 F.m, .int .i64 F.s] 67)).drew
                            have tw21 := ((htw.alloc (.cells #[.int .i64 F.m, .int .i64 F.s] 67)).alloc (.cells #[.int .i64 (m : Int), .int .i64 (s : Int)] 67)).drew
                            have bb1 := (hBn.alloc hXs (.cells #[.int .i64 (m : Int), .int .i64 (s : Int)] 67)).drew
                            have bb12 := ((hBn.alloc hXs (.cells #[.int .i64 (m : Int), .int .i64 (s : Int)] 67)).alloc (by simp; omega) (.cells #[.int .i64 F.m, .int .i64 F.s] 67)).drew
                            have bb21 := ((hBn.alloc hXs (.cells #[.int .i64 F.m, .int .i64 F.s] 67)).alloc (by simp; omega) (.cells #[.int .i64 (m : Int), .int .i64 (s : Int)] 67)).drew
                            have r1 := rd1 X (.int .i64 (m : Int)) (.int .i64 (s : Int)) 67
                            have r12 := rdA X (.int .i64 (m : Int)) (.int .i64 (s : Int)) 67 (.cells #[.int .i64 F.m, .int .i64 F.s] 67)
                            have r12' := rdB X (.int .i64 F.m) (.int .i64 F.s) 67 (.cells #[.int .i64 (m : Int), .int .i64 (s : Int)] 67)
                            have r21 := rdB X (.int .i64 (m : Int)) (.int .i64 (s : Int)) 67 (.cells #[.int .i64 F.m, .int .i64 F.s] 67)
                            have r21' := rdA X (.int .i64 F.m) (.int .i64 F.s) 67 (.cells #[.int .i64 (m : Int), .int .i64 (s : Int)] 67)
                            have y1 : w.heap.size ≤ ((X.alloc (.cells #[.int .i64 (m : Int), .int .i64 (s : Int)] 67)).drew).heap.size := by simp [World.drew]; omega
                            have y12 : X.heap.size + 2 ≤ (((X.alloc (.cells #[.int .i64 (m : Int), .int .i64 (s : Int)] 67)).alloc (.cells #[.int .i64 F.m, .int .i64 F.s] 67)).drew).heap.size := by simp [World.drew]
                            have y21 : X.heap.size + 2 ≤ (((X.alloc (.cells #[.int .i64 F.m, .int .i64 F.s] 67)).alloc (.cells #[.int .i64 (m : Int), .int .i64 (s : Int)] 67)).drew).heap.size := by simp [World.drew]
                            have y12w : w.heap.size ≤ (((X.alloc (.cells #[.int .i64 (m : Int), .int .i64 (s : Int)] 67)).alloc (.cells #[.int .i64 F.m, .int .i64 F.s] 67)).drew).heap.size := by omega
                            have y21w : w.heap.size ≤ (((X.alloc (.cells #[.int .i64 F.m, .int .i64 F.s] 67)).alloc (.cells #[.int .i64 (m : Int), .int .i64 (s : Int)] 67)).drew).heap.size := by omega
                            have m9 : ∀ gg, X.heap.size ≤ gg → some gg ≠ u9.ownBlock := fun gg hgg e => by have := (htw.a.lt _ e.symm).2; omega
                            have kT1 := (kT.alloc (.cells #[.int .i64 (m : Int), .int .i64 (s : Int)] 67)).drewN 1
                            have hlus : us.length + 1 ≤ 1000 := by omega
                            have hltk : tk.length + 1 ≤ 1000 := by omega
                            have hcm : encPl P = [.int .i64 (m : Int), .int .i64 (s : Int)] := by rw [HPP.out]; rfl
                            have hcF : encPl F = [.int .i64 F.m, .int .i64 F.s] := rfl
                            have TW1 := fun (v3 : Value) (w3 : World) => tw1.one (p := P) (v9' := v3) (w' := w3) rfl rfl
                            have TW12 := fun (v3 : Value) (w3 : World) => tw12.one (p := P) (v9' := v3) (w' := w3) rfl rfl
                            have TW21 := fun (v3 : Value) (w3 : World) => tw21.one (p := P) (v9' := v3) (w' := w3) rfl rfl
                            rw [hcm] at TW1 TW12 TW21
                            have hsTX := hsT
                            go_region_law ((first
                              | (refine step_append_any _ (by rfl) _ _ _ (by rfl) w.heap.size 67 ir0 _ 2 16 Try.underlying43 hri hrz0 hrz1 hrz2 rfl (by omega) _ us.length (us.flatMap encPl) (by rfl) tw1.a (X.heap.size + 1) (some ⟨X.heap.size, 0, none⟩) 1 1 [.int .i64 (m : Int), .int .i64 (s : Int)] (by rfl) r1 (by simp [Value.oneCell']) (by unfold maxLen; omega) (by omega) y1 ?_; intro v3 w3 hown3 hgrow3 hat3; have tw3 := TW1 v3 w3 hown3 hgrow3 hat3; have bb3 := below_append bb1 tw1.a y1 hgrow3; have hs3 := bb3.size; have j3 := ((kT1.grown hgrow3 (fun e => n9 e.symm)).cell 0); have j4 := ((kT1.grown hgrow3 (fun e => n9 e.symm)).cell 1); simp at j3 j4)
                              | (refine step_append_any _ (by rfl) _ _ _ (by rfl) w.heap.size 67 ir0 _ 2 16 Try.underlying43 hri hrz0 hrz1 hrz2 rfl (by omega) _ us.length (us.flatMap encPl) (by rfl) tw12.a (X.heap.size + 2) (some ⟨X.heap.size, 0, none⟩) 1 1 [.int .i64 (m : Int), .int .i64 (s : Int)] (by rfl) r12 (by simp [Value.oneCell']) (by unfold maxLen; omega) (by omega) y12w ?_; intro v3 w3 hown3 hgrow3 hat3; have tw3 := TW12 v3 w3 hown3 hgrow3 hat3; have bb3 := below_append bb12 tw12.a y12w hgrow3; have r3 := r12'.grow hgrow3 (by omega) (m9 (X.heap.size + 1) (by omega)))
                              | (refine step_append_any _ (by rfl) _ _ _ (by rfl) w.heap.size 67 ir0 _ 2 16 Try.underlying43 hri hrz0 hrz1 hrz2 rfl (by omega) _ us.length (us.flatMap encPl) (by rfl) tw21.a (X.heap.size + 2) (some ⟨X.heap.size + 1, 0, none⟩) 1 1 [.int .i64 (m : Int), .int .i64 (s : Int)] (by rfl) r21 (by simp [Value.oneCell']) (by unfold maxLen; omega) (by omega) y21w ?_; intro v3 w3 hown3 hgrow3 hat3; have tw3 := TW21 v3 w3 hown3 hgrow3 hat3; have bb3 := below_append bb21 tw21.a y21w hgrow3; have r3 := r21'.grow hgrow3 (by omega) (m9 X.heap.size (by omega)))
                              | (refine step_append_any _ (by rfl) _ _ _ (by rfl) w.heap.size 67 ir0 _ 2 16 Try.underlying43 hri hrz0 hrz1 hrz2 rfl (by omega) _ tk.length (tk.flatMap encPl) (by rfl) (tw3.alloc (.cells #[.int .i64 F.m, .int .i64 F.s] 67)).b (w3.heap.size + 1) (some ⟨w3.heap.size, 0, none⟩) 1 1 [.int .i64 F.m, .int .i64 F.s] (by rfl) (rd0 w3 (.int .i64 F.m) (.int .i64 F.s) 67) (by simp [Value.oneCell']) (by unfold maxLen; omega) (by omega) (by simp; omega) ?_; intro v4 w4 hown4 hgrow4 hat4; have tw4 := (tw3.alloc (.cells #[.int .i64 F.m, .int .i64 F.s] 67)).two (p := F) rfl rfl hown4 hgrow4 hat4; have bb4 := below_append (bb3.alloc hs3 (.cells #[.int .i64 F.m, .int .i64 F.s] 67)) (tw3.alloc (.cells #[.int .i64 F.m, .int .i64 F.s] 67)).b (by simp; omega) hgrow4)
                              | (refine step_append_any _ (by rfl) _ _ _ (by rfl) w.heap.size 67 ir0 _ 2 16 Try.underlying43 hri hrz0 hrz1 hrz2 rfl (by omega) _ tk.length (tk.flatMap encPl) (by rfl) tw3.b (X.heap.size + 2) (some ⟨X.heap.size + 1, 0, none⟩) 1 1 [.int .i64 F.m, .int .i64 F.s] (by rfl) r3 (by simp [Value.oneCell']) (by unfold maxLen; omega) (by omega) bb3.size ?_; intro v4 w4 hown4 hgrow4 hat4; have tw4 := tw3.two (p := F) rfl rfl hown4 hgrow4 hat4; have bb4 := below_append bb3 tw3.b bb3.size hgrow4)
                              | (refine step_append_any _ (by rfl) _ _ _ (by rfl) w.heap.size 67 ir0 _ 2 16 Try.underlying43 hri hrz0 hrz1 hrz2 rfl (by omega) _ tk.length (tk.flatMap encPl) (by rfl) tw3.b (X.heap.size + 2) (some ⟨X.heap.size, 0, none⟩) 1 1 [.int .i64 F.m, .int .i64 F.s] (by rfl) r3 (by simp [Value.oneCell']) (by unfold maxLen; omega) (by omega) bb3.size ?_; intro v4 w4 hown4 hgrow4 hat4; have tw4 := tw3.two (p := F) rfl rfl hown4 hgrow4 hat4; have bb4 := below_append bb3 tw3.b bb3.size hgrow4)))
                            all_goals
                              have HTW := hide (show Two w4 w.heap.size 67 v3 v4 (U m (s + 1)) (TF (U m (s + 1))) by rw [HUN1.out, HTSm.out, HTO.out]; exact tw4)
                              clear tw4 tw3 tw1 tw12 tw21 TW1 TW12 TW21 r1 r12 r12' r21 r21' bb1 bb12 bb21 bb3 hgrow3 hgrow4 hown3 hown4 hat3 hat4 htw kT kA kT1
                              go_wp2
                              go_roundw
                              case rel => exact ⟨s + 1, by rw [HSMM.out]; omega, by go_num, HTW.out, bb4⟩
                              case measure => rw [HSMM.out]; simp [intOf]; omega
                            -- END32
                          · have z : decide (0 ≤ v2) = false := by rw [HG2.out]; simp [hin1]
                            have HTO := hide (show toF (slotsL S n) (winB n ss) (hadL lo ln q) tk P = P by unfold toF; rw [HW1.out, if_neg hin1])
                            obtain ⟨F, hF⟩ : ∃ F, P = F := ⟨_, rfl⟩
                            have kT : Blk W8 bT 67 #[.int .i64 F.m, .int .i64 F.s] := by rw [← hF, HPP.out]; exact kT8
                            have kA := kA8
                            have htw := tw8
                            have hBn := hB08
                            have hsT := hsT8
                            have hsA := hsA8
                            have HTO := hide (show toF (slotsL S n) (winB n ss) (hadL lo ln q) tk P = F by rw [HTO.out, hF])
                            clear hin1 kT8 kA8 tw8 hB08 hsT8 hsA8 hF
                            go_upto_region 32 with fail
                            obtain ⟨X, hX⟩ : ∃ X, W8 = X := ⟨_, rfl⟩
                            rw [hX] at kT kA htw hBn hsT hsA ⊢
                            clear hX z
                            rw [HV10.out] at htw
                            have g0 := kA.cell 0
                            have g1 := kA.cell 1
                            have g2 := kT.cell 0
                            have g3 := kT.cell 1
                            simp at g0 g1 g2 g3
                            have hXs := hBn.size
                            have tw1 := (htw.alloc (.cells #[.int .i64 (m : Int), .int .i64 (s : Int)] 67)).drew
                            have tw12 := ((htw.alloc (.cells #[.int .i64 (m : Int), .int .i64 (s : Int)] 67)).alloc (.cells #[.int .i64 F.m, .int .i64 F.s] 67)).drew
                            have tw21 := ((htw.alloc (.cells #[.int .i64 F.m, .int .i64 F.s] 67)).alloc (.cells #[.int .i64 (m : Int), .int .i64 (s : Int)] 67)).drew
                            have bb1 := (hBn.alloc hXs (.cells #[.int .i64 (m : Int), .int .i64 (s : Int)] 67)).drew
                            have bb12 := ((hBn.alloc hXs (.cells #[.int .i64 (m : Int), .int .i64 (s : Int)] 67)).alloc (by simp; omega) (.cells #[.int .i64 F.m, .int .i64 F.s] 67)).drew
                            have bb21 := ((hBn.alloc hXs (.cells #[.int .i64 F.m, .int .i64 F.s] 67)).alloc (by simp; omega) (.cells #[.int .i64 (m : Int), .int .i64 (s : Int)] 67)).drew
                            have r1 := rd1 X (.int .i64 (m : Int)) (.int .i64 (s : Int)) 67
                            have r12 := rdA X (.int .i64 (m : Int)) (.int .i64 (s : Int)) 67 (.cells #[.int .i64 F.m, .int .i64 F.s] 67)
                            have r12' := rdB X (.int .i64 F.m) (.int .i64 F.s) 67 (.cells #[.int .i64 (m : Int), .int .i64 (s : Int)] 67)
                            have r21 := rdB X (.int .i64 (m : Int)) (.int .i64 (s : Int)) 67 (.cells #[.int .i64 F.m, .int .i64 F.s] 67)
                            have r21' := rdA X (.int .i64 F.m) (.int .i64 F.s) 67 (.cells #[.int .i64 (m : Int), .int .i64 (s : Int)] 67)
                            have y1 : w.heap.size ≤ ((X.alloc (.cells #[.int .i64 (m : Int), .int .i64 (s : Int)] 67)).drew).heap.size := by simp [World.drew]; omega
                            have y12 : X.heap.size + 2 ≤ (((X.alloc (.cells #[.int .i64 (m : Int), .int .i64 (s : Int)] 67)).alloc (.cells #[.int .i64 F.m, .int .i64 F.s] 67)).drew).heap.size := by simp [World.drew]
                            have y21 : X.heap.size + 2 ≤ (((X.alloc (.cells #[.int .i64 F.m, .int .i64 F.s] 67)).alloc (.cells #[.int .i64 (m : Int), .int .i64 (s : Int)] 67)).drew).heap.size := by simp [World.drew]
                            have y12w : w.heap.size ≤ (((X.alloc (.cells #[.int .i64 (m : Int), .int .i64 (s : Int)] 67)).alloc (.cells #[.int .i64 F.m, .int .i64 F.s] 67)).drew).heap.size := by omega
                            have y21w : w.heap.size ≤ (((X.alloc (.cells #[.int .i64 F.m, .int .i64 F.s] 67)).alloc (.cells #[.int .i64 (m : Int), .int .i64 (s : Int)] 67)).drew).heap.size := by omega
                            have m9 : ∀ gg, X.heap.size ≤ gg → some gg ≠ u9.ownBlock := fun gg hgg e => by have := (htw.a.lt _ e.symm).2; omega
                            have kT1 := (kT.alloc (.cells #[.int .i64 (m : Int), .int .i64 (s : Int)] 67)).drewN 1
                            have hlus : us.length + 1 ≤ 1000 := by omega
                            have hltk : tk.length + 1 ≤ 1000 := by omega
                            have hcm : encPl P = [.int .i64 (m : Int), .int .i64 (s : Int)] := by rw [HPP.out]; rfl
                            have hcF : encPl F = [.int .i64 F.m, .int .i64 F.s] := rfl
                            have TW1 := fun (v3 : Value) (w3 : World) => tw1.one (p := P) (v9' := v3) (w' := w3) rfl rfl
                            have TW12 := fun (v3 : Value) (w3 : World) => tw12.one (p := P) (v9' := v3) (w' := w3) rfl rfl
                            have TW21 := fun (v3 : Value) (w3 : World) => tw21.one (p := P) (v9' := v3) (w' := w3) rfl rfl
                            rw [hcm] at TW1 TW12 TW21
                            have hsTX := hsT
                            go_region_law ((first
                              | (refine step_append_any _ (by rfl) _ _ _ (by rfl) w.heap.size 67 ir0 _ 2 16 Try.underlying43 hri hrz0 hrz1 hrz2 rfl (by omega) _ us.length (us.flatMap encPl) (by rfl) tw1.a (X.heap.size + 1) (some ⟨X.heap.size, 0, none⟩) 1 1 [.int .i64 (m : Int), .int .i64 (s : Int)] (by rfl) r1 (by simp [Value.oneCell']) (by unfold maxLen; omega) (by omega) y1 ?_; intro v3 w3 hown3 hgrow3 hat3; have tw3 := TW1 v3 w3 hown3 hgrow3 hat3; have bb3 := below_append bb1 tw1.a y1 hgrow3; have hs3 := bb3.size; have j3 := ((kT1.grown hgrow3 (fun e => n9 e.symm)).cell 0); have j4 := ((kT1.grown hgrow3 (fun e => n9 e.symm)).cell 1); simp at j3 j4)
                              | (refine step_append_any _ (by rfl) _ _ _ (by rfl) w.heap.size 67 ir0 _ 2 16 Try.underlying43 hri hrz0 hrz1 hrz2 rfl (by omega) _ us.length (us.flatMap encPl) (by rfl) tw12.a (X.heap.size + 2) (some ⟨X.heap.size, 0, none⟩) 1 1 [.int .i64 (m : Int), .int .i64 (s : Int)] (by rfl) r12 (by simp [Value.oneCell']) (by unfold maxLen; omega) (by omega) y12w ?_; intro v3 w3 hown3 hgrow3 hat3; have tw3 := TW12 v3 w3 hown3 hgrow3 hat3; have bb3 := below_append bb12 tw12.a y12w hgrow3; have r3 := r12'.grow hgrow3 (by omega) (m9 (X.heap.size + 1) (by omega)))
                              | (refine step_append_any _ (by rfl) _ _ _ (by rfl) w.heap.size 67 ir0 _ 2 16 Try.underlying43 hri hrz0 hrz1 hrz2 rfl (by omega) _ us.length (us.flatMap encPl) (by rfl) tw21.a (X.heap.size + 2) (some ⟨X.heap.size + 1, 0, none⟩) 1 1 [.int .i64 (m : Int), .int .i64 (s : Int)] (by rfl) r21 (by simp [Value.oneCell']) (by unfold maxLen; omega) (by omega) y21w ?_; intro v3 w3 hown3 hgrow3 hat3; have tw3 := TW21 v3 w3 hown3 hgrow3 hat3; have bb3 := below_append bb21 tw21.a y21w hgrow3; have r3 := r21'.grow hgrow3 (by omega) (m9 X.heap.size (by omega)))
                              | (refine step_append_any _ (by rfl) _ _ _ (by rfl) w.heap.size 67 ir0 _ 2 16 Try.underlying43 hri hrz0 hrz1 hrz2 rfl (by omega) _ tk.length (tk.flatMap encPl) (by rfl) (tw3.alloc (.cells #[.int .i64 F.m, .int .i64 F.s] 67)).b (w3.heap.size + 1) (some ⟨w3.heap.size, 0, none⟩) 1 1 [.int .i64 F.m, .int .i64 F.s] (by rfl) (rd0 w3 (.int .i64 F.m) (.int .i64 F.s) 67) (by simp [Value.oneCell']) (by unfold maxLen; omega) (by omega) (by simp; omega) ?_; intro v4 w4 hown4 hgrow4 hat4; have tw4 := (tw3.alloc (.cells #[.int .i64 F.m, .int .i64 F.s] 67)).two (p := F) rfl rfl hown4 hgrow4 hat4; have bb4 := below_append (bb3.alloc hs3 (.cells #[.int .i64 F.m, .int .i64 F.s] 67)) (tw3.alloc (.cells #[.int .i64 F.m, .int .i64 F.s] 67)).b (by simp; omega) hgrow4)
                              | (refine step_append_any _ (by rfl) _ _ _ (by rfl) w.heap.size 67 ir0 _ 2 16 Try.underlying43 hri hrz0 hrz1 hrz2 rfl (by omega) _ tk.length (tk.flatMap encPl) (by rfl) tw3.b (X.heap.size + 2) (some ⟨X.heap.size + 1, 0, none⟩) 1 1 [.int .i64 F.m, .int .i64 F.s] (by rfl) r3 (by simp [Value.oneCell']) (by unfold maxLen; omega) (by omega) bb3.size ?_; intro v4 w4 hown4 hgrow4 hat4; have tw4 := tw3.two (p := F) rfl rfl hown4 hgrow4 hat4; have bb4 := below_append bb3 tw3.b bb3.size hgrow4)
                              | (refine step_append_any _ (by rfl) _ _ _ (by rfl) w.heap.size 67 ir0 _ 2 16 Try.underlying43 hri hrz0 hrz1 hrz2 rfl (by omega) _ tk.length (tk.flatMap encPl) (by rfl) tw3.b (X.heap.size + 2) (some ⟨X.heap.size, 0, none⟩) 1 1 [.int .i64 F.m, .int .i64 F.s] (by rfl) r3 (by simp [Value.oneCell']) (by unfold maxLen; omega) (by omega) bb3.size ?_; intro v4 w4 hown4 hgrow4 hat4; have tw4 := tw3.two (p := F) rfl rfl hown4 hgrow4 hat4; have bb4 := below_append bb3 tw3.b bb3.size hgrow4)))
                            all_goals
                              have HTW := hide (show Two w4 w.heap.size 67 v3 v4 (U m (s + 1)) (TF (U m (s + 1))) by rw [HUN1.out, HTSm.out, HTO.out]; exact tw4)
                              clear tw4 tw3 tw1 tw12 tw21 TW1 TW12 TW21 r1 r12 r12' r21 r21' bb1 bb12 bb21 bb3 hgrow3 hgrow4 hown3 hown4 hat3 hat4 htw kT kA kT1
                              go_wp2
                              go_roundw
                              case rel => exact ⟨s + 1, by rw [HSMM.out]; omega, by go_num, HTW.out, bb4⟩
                              case measure => rw [HSMM.out]; simp [intOf]; omega
                            -- END32
                        · have z : decide (0 ≤ v) = false := by rw [HG.out]; simp [hin0]
                          have HTO := hide (show toF (slotsL S n) (winB n ss) (hadL lo ln q) tk P = T0 by unfold toF; rw [HWT.out, if_neg hin0, if_neg hin0])
                          clear hin0
                          have HI2 := hide (index_any A10 tk.length c10 tk T0 W6 hRt (by omega))
                          have HG2 := hide (idxP_ge (l := tk) (p := T0))
                          obtain ⟨v2, hv2⟩ : ∃ v2, idxP tk T0 = v2 := ⟨_, rfl⟩
                          rw [hv2] at HI2 HG2
                          have z2 : decide (0 ≤ v2) = false := by
                            rw [HG2.out, ← HG.out]; exact z
                          clear hv2 hRt
                          have g0 := kT6.cell 0
                          have g1 := kT6.cell 1
                          simp at g0 g1
                          go_wp2_with fail
                          refine HI2.out.mono ?_
                          rintro e W8 ⟨rfl, hB8⟩
                          have kT := kT6.below hB8 hsT6
                          have kA := kA6.below hB8 hsA6
                          have htw := tw6.below hB8
                          have hBn := bstep hB06 hB8
                          have hsT : bT < W8.heap.size := Nat.lt_of_lt_of_le hsT6 hB8.size
                          have hsA : bA < W8.heap.size := Nat.lt_of_lt_of_le hsA6 hB8.size
                          obtain ⟨F, hF⟩ : ∃ F, T0 = F := ⟨_, rfl⟩
                          rw [hF] at kT HTO
                          clear hB06 hB8 kT6 kA6 tw6 g0 g1 HI2 hsT6 hsA6 hF z
                          go_upto_region 32 with fail
                          obtain ⟨X, hX⟩ : ∃ X, W8 = X := ⟨_, rfl⟩
                          rw [hX] at kT kA htw hBn hsT hsA ⊢
                          clear hX z2
                          rw [HV10.out] at htw
                          have g0 := kA.cell 0
                          have g1 := kA.cell 1
                          have g2 := kT.cell 0
                          have g3 := kT.cell 1
                          simp at g0 g1 g2 g3
                          have hXs := hBn.size
                          have tw1 := (htw.alloc (.cells #[.int .i64 (m : Int), .int .i64 (s : Int)] 67)).drew
                          have tw12 := ((htw.alloc (.cells #[.int .i64 (m : Int), .int .i64 (s : Int)] 67)).alloc (.cells #[.int .i64 F.m, .int .i64 F.s] 67)).drew
                          have tw21 := ((htw.alloc (.cells #[.int .i64 F.m, .int .i64 F.s] 67)).alloc (.cells #[.int .i64 (m : Int), .int .i64 (s : Int)] 67)).drew
                          have bb1 := (hBn.alloc hXs (.cells #[.int .i64 (m : Int), .int .i64 (s : Int)] 67)).drew
                          have bb12 := ((hBn.alloc hXs (.cells #[.int .i64 (m : Int), .int .i64 (s : Int)] 67)).alloc (by simp; omega) (.cells #[.int .i64 F.m, .int .i64 F.s] 67)).drew
                          have bb21 := ((hBn.alloc hXs (.cells #[.int .i64 F.m, .int .i64 F.s] 67)).alloc (by simp; omega) (.cells #[.int .i64 (m : Int), .int .i64 (s : Int)] 67)).drew
                          have r1 := rd1 X (.int .i64 (m : Int)) (.int .i64 (s : Int)) 67
                          have r12 := rdA X (.int .i64 (m : Int)) (.int .i64 (s : Int)) 67 (.cells #[.int .i64 F.m, .int .i64 F.s] 67)
                          have r12' := rdB X (.int .i64 F.m) (.int .i64 F.s) 67 (.cells #[.int .i64 (m : Int), .int .i64 (s : Int)] 67)
                          have r21 := rdB X (.int .i64 (m : Int)) (.int .i64 (s : Int)) 67 (.cells #[.int .i64 F.m, .int .i64 F.s] 67)
                          have r21' := rdA X (.int .i64 F.m) (.int .i64 F.s) 67 (.cells #[.int .i64 (m : Int), .int .i64 (s : Int)] 67)
                          have y1 : w.heap.size ≤ ((X.alloc (.cells #[.int .i64 (m : Int), .int .i64 (s : Int)] 67)).drew).heap.size := by simp [World.drew]; omega
                          have y12 : X.heap.size + 2 ≤ (((X.alloc (.cells #[.int .i64 (m : Int), .int .i64 (s : Int)] 67)).alloc (.cells #[.int .i64 F.m, .int .i64 F.s] 67)).drew).heap.size := by simp [World.drew]
                          have y21 : X.heap.size + 2 ≤ (((X.alloc (.cells #[.int .i64 F.m, .int .i64 F.s] 67)).alloc (.cells #[.int .i64 (m : Int), .int .i64 (s : Int)] 67)).drew).heap.size := by simp [World.drew]
                          have y12w : w.heap.size ≤ (((X.alloc (.cells #[.int .i64 (m : Int), .int .i64 (s : Int)] 67)).alloc (.cells #[.int .i64 F.m, .int .i64 F.s] 67)).drew).heap.size := by omega
                          have y21w : w.heap.size ≤ (((X.alloc (.cells #[.int .i64 F.m, .int .i64 F.s] 67)).alloc (.cells #[.int .i64 (m : Int), .int .i64 (s : Int)] 67)).drew).heap.size := by omega
                          have m9 : ∀ gg, X.heap.size ≤ gg → some gg ≠ u9.ownBlock := fun gg hgg e => by have := (htw.a.lt _ e.symm).2; omega
                          have kT1 := (kT.alloc (.cells #[.int .i64 (m : Int), .int .i64 (s : Int)] 67)).drewN 1
                          have hlus : us.length + 1 ≤ 1000 := by omega
                          have hltk : tk.length + 1 ≤ 1000 := by omega
                          have hcm : encPl P = [.int .i64 (m : Int), .int .i64 (s : Int)] := by rw [HPP.out]; rfl
                          have hcF : encPl F = [.int .i64 F.m, .int .i64 F.s] := rfl
                          have TW1 := fun (v3 : Value) (w3 : World) => tw1.one (p := P) (v9' := v3) (w' := w3) rfl rfl
                          have TW12 := fun (v3 : Value) (w3 : World) => tw12.one (p := P) (v9' := v3) (w' := w3) rfl rfl
                          have TW21 := fun (v3 : Value) (w3 : World) => tw21.one (p := P) (v9' := v3) (w' := w3) rfl rfl
                          rw [hcm] at TW1 TW12 TW21
                          have hsTX := hsT
                          go_region_law ((first
                            | (refine step_append_any _ (by rfl) _ _ _ (by rfl) w.heap.size 67 ir0 _ 2 16 Try.underlying43 hri hrz0 hrz1 hrz2 rfl (by omega) _ us.length (us.flatMap encPl) (by rfl) tw1.a (X.heap.size + 1) (some ⟨X.heap.size, 0, none⟩) 1 1 [.int .i64 (m : Int), .int .i64 (s : Int)] (by rfl) r1 (by simp [Value.oneCell']) (by unfold maxLen; omega) (by omega) y1 ?_; intro v3 w3 hown3 hgrow3 hat3; have tw3 := TW1 v3 w3 hown3 hgrow3 hat3; have bb3 := below_append bb1 tw1.a y1 hgrow3; have hs3 := bb3.size; have j3 := ((kT1.grown hgrow3 (fun e => n9 e.symm)).cell 0); have j4 := ((kT1.grown hgrow3 (fun e => n9 e.symm)).cell 1); simp at j3 j4)
                            | (refine step_append_any _ (by rfl) _ _ _ (by rfl) w.heap.size 67 ir0 _ 2 16 Try.underlying43 hri hrz0 hrz1 hrz2 rfl (by omega) _ us.length (us.flatMap encPl) (by rfl) tw12.a (X.heap.size + 2) (some ⟨X.heap.size, 0, none⟩) 1 1 [.int .i64 (m : Int), .int .i64 (s : Int)] (by rfl) r12 (by simp [Value.oneCell']) (by unfold maxLen; omega) (by omega) y12w ?_; intro v3 w3 hown3 hgrow3 hat3; have tw3 := TW12 v3 w3 hown3 hgrow3 hat3; have bb3 := below_append bb12 tw12.a y12w hgrow3; have r3 := r12'.grow hgrow3 (by omega) (m9 (X.heap.size + 1) (by omega)))
                            | (refine step_append_any _ (by rfl) _ _ _ (by rfl) w.heap.size 67 ir0 _ 2 16 Try.underlying43 hri hrz0 hrz1 hrz2 rfl (by omega) _ us.length (us.flatMap encPl) (by rfl) tw21.a (X.heap.size + 2) (some ⟨X.heap.size + 1, 0, none⟩) 1 1 [.int .i64 (m : Int), .int .i64 (s : Int)] (by rfl) r21 (by simp [Value.oneCell']) (by unfold maxLen; omega) (by omega) y21w ?_; intro v3 w3 hown3 hgrow3 hat3; have tw3 := TW21 v3 w3 hown3 hgrow3 hat3; have bb3 := below_append bb21 tw21.a y21w hgrow3; have r3 := r21'.grow hgrow3 (by omega) (m9 X.heap.size (by omega)))
                            | (refine step_append_any _ (by rfl) _ _ _ (by rfl) w.heap.size 67 ir0 _ 2 16 Try.underlying43 hri hrz0 hrz1 hrz2 rfl (by omega) _ tk.length (tk.flatMap encPl) (by rfl) (tw3.alloc (.cells #[.int .i64 F.m, .int .i64 F.s] 67)).b (w3.heap.size + 1) (some ⟨w3.heap.size, 0, none⟩) 1 1 [.int .i64 F.m, .int .i64 F.s] (by rfl) (rd0 w3 (.int .i64 F.m) (.int .i64 F.s) 67) (by simp [Value.oneCell']) (by unfold maxLen; omega) (by omega) (by simp; omega) ?_; intro v4 w4 hown4 hgrow4 hat4; have tw4 := (tw3.alloc (.cells #[.int .i64 F.m, .int .i64 F.s] 67)).two (p := F) rfl rfl hown4 hgrow4 hat4; have bb4 := below_append (bb3.alloc hs3 (.cells #[.int .i64 F.m, .int .i64 F.s] 67)) (tw3.alloc (.cells #[.int .i64 F.m, .int .i64 F.s] 67)).b (by simp; omega) hgrow4)
                            | (refine step_append_any _ (by rfl) _ _ _ (by rfl) w.heap.size 67 ir0 _ 2 16 Try.underlying43 hri hrz0 hrz1 hrz2 rfl (by omega) _ tk.length (tk.flatMap encPl) (by rfl) tw3.b (X.heap.size + 2) (some ⟨X.heap.size + 1, 0, none⟩) 1 1 [.int .i64 F.m, .int .i64 F.s] (by rfl) r3 (by simp [Value.oneCell']) (by unfold maxLen; omega) (by omega) bb3.size ?_; intro v4 w4 hown4 hgrow4 hat4; have tw4 := tw3.two (p := F) rfl rfl hown4 hgrow4 hat4; have bb4 := below_append bb3 tw3.b bb3.size hgrow4)
                            | (refine step_append_any _ (by rfl) _ _ _ (by rfl) w.heap.size 67 ir0 _ 2 16 Try.underlying43 hri hrz0 hrz1 hrz2 rfl (by omega) _ tk.length (tk.flatMap encPl) (by rfl) tw3.b (X.heap.size + 2) (some ⟨X.heap.size, 0, none⟩) 1 1 [.int .i64 F.m, .int .i64 F.s] (by rfl) r3 (by simp [Value.oneCell']) (by unfold maxLen; omega) (by omega) bb3.size ?_; intro v4 w4 hown4 hgrow4 hat4; have tw4 := tw3.two (p := F) rfl rfl hown4 hgrow4 hat4; have bb4 := below_append bb3 tw3.b bb3.size hgrow4)))
                          all_goals
                            have HTW := hide (show Two w4 w.heap.size 67 v3 v4 (U m (s + 1)) (TF (U m (s + 1))) by rw [HUN1.out, HTSm.out, HTO.out]; exact tw4)
                            clear tw4 tw3 tw1 tw12 tw21 TW1 TW12 TW21 r1 r12 r12' r21 r21' bb1 bb12 bb21 bb3 hgrow3 hgrow4 hown3 hown4 hat3 hat4 htw kT kA kT1
                            go_wp2
                            go_roundw
                            case rel => exact ⟨s + 1, by rw [HSMM.out]; omega, by go_num, HTW.out, bb4⟩
                            case measure => rw [HSMM.out]; simp [intOf]; omega
                          -- END32
                    · have z : decide (v < 0) = true := by rw [HG.out]; simp [hin]
                      have HUN1 := hide (show U m (s + 1) = us by rw [HUSm.out, if_neg hin]; simp)
                      have HTW := hide (show Two W4 w.heap.size 67 u9 u10 (U m (s + 1)) (TF (U m (s + 1))) by rw [HUN1.out, HTK.out]; exact tw4)
                      clear hin k4 tw4
                      go_wp2
                      go_roundw
                      case rel => exact ⟨s + 1, by rw [HSMM.out]; omega, by go_num, HTW.out, hB04⟩
                      case measure => rw [HSMM.out]; simp [intOf]; omega
                  · obtain rfl : s = S m := by omega
                    have HTW := hide (show Two wr w.heap.size 67 u9 u10 (U (m + 1) 0) (TF (U (m + 1) 0)) by rw [← HUN.out]; exact htw)
                    clear htw
                    go_wp2
                    go_roundw
                    case rel => exact ⟨m + 1, by omega, by go_num, HTW.out, hB⟩
                    case measure => simp [intOf]; omega
              · obtain rfl : n = m := by omega
                obtain ⟨w9, hw9⟩ : ∃ w9 : World, w9 = wr := ⟨_, rfl⟩
                subst hw9
                have hU0 : U n 0 = usedL S n ln := by rw [← HUE.out]; unfold usedL; simp [rowS]
                have hT0 : TF (U n 0) = tkL S n ss lo ln q := by rw [hU0, ← HTE.out]; rfl
                have hlen := HTL.out (U n 0)
                have hub : (U n 0).length ≤ 400 := by
                  rw [hU0]
                  have h1 := List.length_filter_le (fun p => decide (p ∈ ln)) (slotsL S n)
                  rw [slotsL_len] at h1
                  have h2 : offW S n ≤ n * 16 := offW_bound (M := 16) fun i hi => (HSO.out i hi).2
                  unfold usedL
                  omega
                have HMEM := hide (fun p (hp : p ∈ ln) => show p ∈ U n 0 by
                  rw [hU0]
                  unfold usedL
                  rw [List.mem_filter]
                  refine ⟨?_, by simpa using hp⟩
                  have h1 := List.any_eq_false.1 HALL.out p hp
                  rw [← HS.out]
                  exact slots_of_win (by simpa using h1))
                have HLF := hide (fun t => show locF n ss lo ln q t = plA (TF (U n 0)) ((U n 0).idxOf (plA ln t)) by
                  rw [hT0, hU0]
                  unfold locF
                  rw [HS.out])
                obtain ⟨us, hus⟩ : ∃ us, U n 0 = us := ⟨_, rfl⟩
                obtain ⟨tk, htk⟩ : ∃ tk, TF us = tk := ⟨_, rfl⟩
                rw [hus] at htw hub hlen HMEM HLF
                rw [htk] at htw hlen HLF
                have HLEN := hide hlen
                have htb : tk.length ≤ 400 := by omega
                clear hus htk hlen hU0 hT0
                obtain ⟨A9, c9, hv9, hR9⟩ := own_form htw.a
                obtain ⟨A10, c10, hv10, hR10⟩ := own_form htw.b
                rw [hv9, hv10]
                clear hv9 hv10 htw
                go_wp2_with fail
                have ow0 : w9.ownsRow w9.heap.size 67 2 (.slice none 0 0) 0 [] := World.ownsRow_nil _ _ _ _
                go_loopw [17, 18] (fun v i wr => ∃ t : Nat, t ≤ q ∧ i = .int .i64 t ∧ wr.ownsRow w9.heap.size 67 2 v t ((locL n ss lo ln q t).flatMap encPl) ∧ Below w9.heap.size w9 wr) (fun _ i _ => q - (intOf i).toNat)
                case atStart => exact ⟨0, Nat.zero_le _, rfl, ow0, Below.refl _ _⟩
                case round =>
                  clear ow0
                  obtain ⟨t, htq, rfl, hown, hBr⟩ := hrel
                  have hBw := bstep hB hBr
                  by_cases hltt : t < q
                  · obtain ⟨b1, off1, p, hA1', hb1, hpk, hcp⟩ := (hln.below hBw).elem encPl_len HLN.out hltt
                    have hlf := HLF.out t
                    rw [← plA_at hpk] at hlf
                    have hmem := HMEM.out p (List.mem_of_getElem? hpk)
                    have p0 : wr.cell? ⟨b1, off1 + t * 2, none⟩ = some (.int .i64 p.m) := by simpa using hcp 0 _ rfl
                    have p1 : wr.cell? ⟨b1, off1 + t * 2 + 1, none⟩ = some (.int .i64 p.s) := by simpa [← Nat.add_assoc] using hcp 1 _ rfl
                    clear hcp hpk
                    have hidx : idxP us p = ((us.idxOf p : Nat) : Int) := by unfold idxP; rw [if_pos hmem]
                    have hil := List.idxOf_lt_length_of_mem hmem
                    have HI := hide (index_any A9 us.length c9 us p wr (hR9.up hBr) (by omega))
                    rw [hidx] at HI
                    have hit : us.idxOf p < tk.length := by rw [HLEN.out]; exact hil
                    obtain ⟨ix, hix⟩ : ∃ ix, us.idxOf p = ix := ⟨_, rfl⟩
                    rw [hix] at HI hit hlf
                    clear hidx hil hmem hix
                    rw [hA1']
                    have HA1' := hide hA1'
                    clear hA1'
                    have q3 : (0 : Int) ≤ (t : Int) := by omega
                    have q4 : (t : Int) < (q : Int) := by omega
                    go_wp2_with fail
                    refine HI.out.mono ?_
                    rintro e W3 ⟨rfl, hB3⟩
                    have hBr3 := bstep hBr hB3
                    have vA := own_below hown hB3
                    obtain ⟨b2, off2, y, hA10, hb2, hyk, hcy⟩ := (hR10.up hBr3).elem encPl_len rfl hit
                    have HSN := hide (show (locL n ss lo ln q (t + 1)).flatMap encPl = (locL n ss lo ln q t).flatMap encPl ++ [.int .i64 y.m, .int .i64 y.s] by rw [locL_succ, flatP_snoc, hlf, ← plA_at hyk])
                    have y0 : W3.cell? ⟨b2, off2 + ix * 2, none⟩ = some (.int .i64 y.m) := by simpa using hcy 0 _ rfl
                    have y1 : W3.cell? ⟨b2, off2 + ix * 2 + 1, none⟩ = some (.int .i64 y.s) := by simpa [← Nat.add_assoc] using hcy 1 _ rfl
                    obtain ⟨PL, hPL⟩ : ∃ PL, (locL n ss lo ln q t).flatMap encPl = PL := ⟨_, rfl⟩
                    have HPL := hide hPL
                    rw [hPL] at vA
                    clear hcy hyk hPL hown hBr hB3 HI p0 p1 hlf
                    subst hA10
                    have vA2 := vA.alloc (.cells #[.int .i64 y.m, .int .i64 y.s] 67)
                    have bA := hBr3.alloc hBr3.size (.cells #[.int .i64 y.m, .int .i64 y.s] 67)
                    have xs : w9.heap.size ≤ (W3.alloc (.cells #[.int .i64 y.m, .int .i64 y.s] 67)).heap.size := bA.size
                    have q5 : (0 : Int) ≤ (ix : Int) := by omega
                    have q6 : (ix : Int) < (tk.length : Int) := by omega
                    go_wp2_with (at_builtin; refine wpList_append_any _ rfl _ _ 43 rfl w9.heap.size 67 ir0 _ 2 16 Try.underlying43 hri hrz0 hrz1 hrz2 rfl (by decide) _ t PL rfl vA2 (W3.heap.size + 1) (some ⟨W3.heap.size, 0, none⟩) 1 1 [.int .i64 y.m, .int .i64 y.s] rfl (rd0 W3 (.int .i64 y.m) (.int .i64 y.s) 67) (by simp [Value.oneCell']) (by unfold maxLen; omega) (by omega) xs ?_; intro v3 w3 hown3 hgrow hat)
                    have hBe : Below w9.heap.size w9 w3 := below_append bA vA2 xs hgrow
                    have HO := hide (show w3.ownsRow w9.heap.size 67 2 v3 (t + 1) ((locL n ss lo ln q (t + 1)).flatMap encPl) by rw [HSN.out, HPL.out]; exact hown3)
                    clear hown3 hgrow hat bA vA vA2 hBr3 y0 y1
                    go_wp2
                    go_roundw
                    case rel => exact ⟨t + 1, by omega, by go_num, HO.out, hBe⟩
                    case measure => simp [intOf]; omega
                  · obtain rfl : q = t := by omega
                    obtain ⟨A', c', rfl, hR⟩ := own_form hown
                    go_wp2
                    go_ret2
                    rw [HE4.out, HR4.out, locL_len]
                    exact ⟨A', c', rfl, hR, hBw⟩
          · have z9 : ((q0 : Int) != (q : Int)) = true := by simp; omega
            have hpe := HPE.out
            rw [hall] at hpe
            have hpe : PE = 9 := by simpa [hqq] using hpe
            have hpr := HPR.out
            rw [hpe, if_neg (by omega)] at hpr
            have HE4 := hide hpe
            have HR4 := hide hpr
            clear hpe hpr hall hqq
            go_wp2
            go_ret2
            rw [HE4.out, HR4.out]
            exact ⟨none, 0, rfl, Reads.none_, hB⟩
    · have he : locE q0 q n ss ln = 1 := by simp [locE, hq2]
      rw [locR_bad (by omega), he]
      have z200 : decide ((200 : Int) < (q : Int)) = true := by simp; omega
      clear he
      go_enter Try.func43, Try.ntmps43
      go_wp2_with (go_at_call 70; refine HSL.out.mono ?_; rintro e w' ⟨rfl, rfl⟩)
      go_ret2
      exact ⟨none, 0, rfl, Reads.none_, Below.refl _ _⟩
end Go.Proofs.Ytblepaocekojbaa
