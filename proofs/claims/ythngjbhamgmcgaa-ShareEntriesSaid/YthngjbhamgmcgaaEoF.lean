/-
  The walks of the reference's Dealt and Entries, and of sameDealt.
-/
import Derived.Test.YthngjbhamgmcgaaEoE
import Derived.Test.YthngjbhamgmcgaaQbw
namespace Go.Proofs.Ythngjbhamgmcgaa
open Go.RowKit
attribute [local go_sem] Oper.semAt_some
set_option linter.unusedVariables false

set_option maxRecDepth 100000 in
set_option maxHeartbeats 4000000 in
theorem RDealt_any (A : Option Addr) (n c : Nat) (l : List En) (P G : Int) (w : World) (hl : Reads w w.heap.size 4 A n (flatE l)) (hn : n ≤ 40000) (hs : AllSz l) :
    Calls Try.prog 39 #[.slice A n c, .int .i64 P, .int .i64 G] w (RetDl w l P G) := by
  have hV := hide (RvalidE_any A n c l w hl hn hs)
  have hY := fun W (hB : Below w.heap.size w W) => within_any A n c l G W (hl.up hB) (by omega)
  cases ha : allE l
  · have HE := hide (show errE l P G = 1 from by simp [errE, ha])
    rw [ha] at hV
    clear ha hY
    go_enter Try.func39, Try.ntmps39
    go_wp2_with fail
    refine hV.out.mono ?_
    rintro e W1 ⟨rfl, hB1⟩
    have HB := hide hB1
    clear hB1 hV
    go_wp2
    go_ret2
    exact RetDl.bad HE.out (by omega) HB.out
  · rw [ha] at hV
    have HYY := hide hY
    have HA := hide ha
    clear hY ha
    cases hr : rightB P G
    · have HE := hide (show errE l P G = 7 from by simp [errE, HA.out, hr])
      go_enter Try.func39, Try.ntmps39
      go_wp2_with fail
      refine hV.out.mono ?_
      rintro e W1 ⟨rfl, hB1⟩
      have HB := hide hB1
      clear hB1 hV
      go_wp2_with (go_at_call 43; refine (numbers_any _ _ _).mono ?_; rintro e w' ⟨rfl, rfl⟩)
      go_ret2
      exact RetDl.bad HE.out (by omega) HB.out
    · cases hg : inG G l
      · have HE := hide (show errE l P G = 7 from by simp [errE, HA.out, hr, hg])
        go_enter Try.func39, Try.ntmps39
        go_wp2_with fail
        refine hV.out.mono ?_
        rintro e W1 ⟨rfl, hB1⟩
        have HY2 := hide (HYY.out _ hB1)
        rw [hg] at HY2
        clear hV
        go_wp2_with (go_at_call 43; refine (numbers_any _ _ _).mono ?_; rintro e w' ⟨rfl, rfl⟩)
        refine HY2.out.mono ?_
        rintro e W2 ⟨rfl, hB2⟩
        have HB := hide (bstep hB1 hB2)
        clear hB1 hB2 HY2
        go_wp2
        go_ret2
        exact RetDl.bad HE.out (by omega) HB.out
      · have HE := hide (show errE l P G = 0 from by simp [errE, HA.out, hr, hg])
        have hrr := hr
        unfold rightB at hrr
        rw [decide_eq_true_eq] at hrr
        obtain ⟨p, rfl⟩ : ∃ p : Nat, P = p := ⟨P.toNat, by omega⟩
        obtain ⟨g, rfl⟩ : ∃ g : Nat, G = g := ⟨G.toNat, by omega⟩
        have hp1 : 1 ≤ p := by omega
        have hp2 : p ≤ 16 := by omega
        have hg2 : g ≤ 128 := by omega
        have HL0 := hide (fun x (hx : x ∈ l) => (allE_g HA.out x hx).1)
        have HL1 := hide (fun x (hx : x ∈ l) => inG_of hg x hx)
        clear hrr
        go_enter Try.func39, Try.ntmps39
        go_wp2_with fail
        refine hV.out.mono ?_
        rintro e W1 ⟨rfl, hB1⟩
        have HY2 := hide (HYY.out _ hB1)
        rw [hg] at HY2
        clear hV
        go_wp2_with (go_at_call 43; refine (numbers_any _ _ _).mono ?_; rintro e w' ⟨rfl, rfl⟩)
        refine HY2.out.mono ?_
        rintro e W2 ⟨rfl, hB2⟩
        have hB3 := bstep hB1 hB2
        have HD := hide (AllDealt_any A n c l p g W2 (hl.up hB3) hn hp1 hp2 hg2 HL0.out HL1.out)
        clear hB1 hB2 HY2
        go_wp2_with fail
        refine HD.out.mono ?_
        rintro e W3 ⟨b, V, s, rfl, hpm, hst, hGr, hB4⟩
        have HB := hide (bstep hB3 hB4)
        obtain ⟨R, hR1, hR2, hR3⟩ := hGr.tab (m := l.length) (fun q _ => Nat.le_trans (dealE_le p g s q) (Nat.le_of_eq hpm.length_eq))
        have HP := hide hpm
        have HST := hide hst
        have HR1 := hide hR1
        have HR2 := hide hR2
        have HR3 := hide hR3
        clear hB3 hB4 hGr hR1 hR2 hR3 HD hpm hst
        go_wp2
        go_ret2
        exact ⟨_, p, p, R, 0, ⟨HE.out.symm, .inr ⟨rfl, s, HP.out, HST.out, HR2.out⟩⟩, rfl, hp2, HR1.out, HR3.out, HB.out⟩
set_option maxRecDepth 100000 in
set_option maxHeartbeats 4000000 in
theorem REntries_any (A : Option Addr) (n c : Nat) (l : List En) (q P G : Int) (w : World) (hl : Reads w w.heap.size 4 A n (flatE l)) (hn : n ≤ 40000) (hs : AllSz l) :
    Calls Try.prog 37 #[.slice A n c, .int .i64 q, .int .i64 P, .int .i64 G] w (RetEn w l q P G) := by
  have hV := hide (RvalidE_any A n c l w hl hn hs)
  have hY := fun W (hB : Below w.heap.size w W) => within_any A n c l G W (hl.up hB) (by omega)
  have HLL := hide (show l.length = n from hl.len (enc := encE) encE_len (by omega))
  cases ha : allE l
  · have HE := hide (show errN l q P G = 1 from by simp [errN, ha])
    rw [ha] at hV
    clear ha hY
    go_enter Try.func37, Try.ntmps37
    go_wp2_with fail
    refine hV.out.mono ?_
    rintro e W1 ⟨rfl, hB1⟩
    have HB := hide hB1
    clear hB1 hV
    go_wp2
    go_ret2
    exact RetEn.bad HE.out (by omega) HB.out
  · rw [ha] at hV
    have HYY := hide hY
    have HA := hide ha
    clear hY ha
    cases hr : rightB P G
    · have HE := hide (show errN l q P G = 7 from by simp [errN, HA.out, hr])
      go_enter Try.func37, Try.ntmps37
      go_wp2_with fail
      refine hV.out.mono ?_
      rintro e W1 ⟨rfl, hB1⟩
      have HB := hide hB1
      clear hB1 hV
      go_wp2_with (go_at_call 43; refine (numbers_any _ _ _).mono ?_; rintro e w' ⟨rfl, rfl⟩)
      go_ret2
      exact RetEn.bad HE.out (by omega) HB.out
    · by_cases hq0 : q < 0
      · have z0 : decide (q < 0) = true := by simpa using hq0
        have HE := hide (show errN l q P G = 7 from by simp [errN, HA.out, hr]; omega)
        go_enter Try.func37, Try.ntmps37
        go_wp2_with fail
        refine hV.out.mono ?_
        rintro e W1 ⟨rfl, hB1⟩
        have HB := hide hB1
        clear hB1 hV
        go_wp2_with (go_at_call 43; refine (numbers_any _ _ _).mono ?_; rintro e w' ⟨rfl, rfl⟩)
        go_ret2
        exact RetEn.bad HE.out (by omega) HB.out
      · have z0 : decide (q < 0) = false := by simpa using hq0
        by_cases hq1 : P ≤ q
        · have z1 : decide (P ≤ q) = true := by simpa using hq1
          have HE := hide (show errN l q P G = 7 from by simp [errN, HA.out, hr]; omega)
          go_enter Try.func37, Try.ntmps37
          go_wp2_with fail
          refine hV.out.mono ?_
          rintro e W1 ⟨rfl, hB1⟩
          have HB := hide hB1
          clear hB1 hV
          go_wp2_with (go_at_call 43; refine (numbers_any _ _ _).mono ?_; rintro e w' ⟨rfl, rfl⟩)
          go_ret2
          exact RetEn.bad HE.out (by omega) HB.out
        · have z1 : decide (P ≤ q) = false := by simpa using hq1
          cases hg : inG G l
          · have HE := hide (show errN l q P G = 7 from by simp [errN, HA.out, hr, hg])
            go_enter Try.func37, Try.ntmps37
            go_wp2_with fail
            refine hV.out.mono ?_
            rintro e W1 ⟨rfl, hB1⟩
            have HY2 := hide (HYY.out _ hB1)
            rw [hg] at HY2
            clear hV
            go_wp2_with (go_at_call 43; refine (numbers_any _ _ _).mono ?_; rintro e w' ⟨rfl, rfl⟩)
            refine HY2.out.mono ?_
            rintro e W2 ⟨rfl, hB2⟩
            have HB := hide (bstep hB1 hB2)
            clear hB1 hB2 HY2
            go_wp2
            go_ret2
            exact RetEn.bad HE.out (by omega) HB.out
          · have HE := hide (show errN l q P G = 0 from by simp [errN, HA.out, hr, hg]; omega)
            have hrr := hr
            unfold rightB at hrr
            rw [decide_eq_true_eq] at hrr
            obtain ⟨p, rfl⟩ : ∃ p : Nat, P = p := ⟨P.toNat, by omega⟩
            obtain ⟨g, rfl⟩ : ∃ g : Nat, G = g := ⟨G.toNat, by omega⟩
            obtain ⟨t, rfl⟩ : ∃ t : Nat, q = t := ⟨q.toNat, by omega⟩
            have hp1 : 1 ≤ p := by omega
            have hp2 : p ≤ 16 := by omega
            have hg2 : g ≤ 128 := by omega
            have z2 : decide (p ≤ t) = false := by simp; omega
            have HL0 := hide (fun x (hx : x ∈ l) => (allE_g HA.out x hx).1)
            have HL1 := hide (fun x (hx : x ∈ l) => inG_of hg x hx)
            obtain ⟨i0, hi, hz0, hz1, hz2⟩ := info_parts4 infoE
            clear hrr
            go_enter Try.func37, Try.ntmps37
            go_wp2_with fail
            refine hV.out.mono ?_
            rintro e W1 ⟨rfl, hB1⟩
            have HY2 := hide (HYY.out _ hB1)
            rw [hg] at HY2
            clear hV hg
            go_wp2_with (go_at_call 43; refine (numbers_any _ _ _).mono ?_; rintro e w' ⟨rfl, rfl⟩)
            refine HY2.out.mono ?_
            rintro e W2 ⟨rfl, hB2⟩
            have hB3 := bstep hB1 hB2
            clear hB1 hB2 HY2
            go_wp2_with fail
            go_loopw [10, 11] (fun v i wr => ∃ k m : Nat, k ≤ n ∧ i = .int .i64 k ∧ (dealE p g (l.take k) t).length = m ∧ m ≤ k ∧ wr.ownsRow w.heap.size 57 4 v m (flatE (dealE p g (l.take k) t)) ∧ Below w.heap.size w wr) (fun _ i _ => n - (intOf i).toNat)
            case atStart => exact ⟨0, 0, Nat.zero_le _, rfl, rfl, Nat.le_refl _, World.ownsRow_nil _ _ _ _, hB3⟩
            case round =>
              clear hB3
              obtain ⟨k, m, hk, rfl, hm, hmk, hown, hB⟩ := hrel
              by_cases hlt : k < n
              · obtain ⟨b, off, x, rfl, hb, hxk, hc⟩ := (hl.up hB).elem (enc := encE) encE_len HLL.out hlt
                have d0 : wr.cell? ⟨b, off + k * 4, none⟩ = some (.int .i64 x.g) := by simpa using hc 0 _ rfl
                have d1 : wr.cell? ⟨b, off + k * 4 + 1, none⟩ = some (.string x.nm) := by simpa [← Nat.add_assoc] using hc 1 _ rfl
                have d2 : wr.cell? ⟨b, off + k * 4 + 2, none⟩ = some (.string x.ky) := by simpa [← Nat.add_assoc] using hc 2 _ rfl
                have d3 : wr.cell? ⟨b, off + k * 4 + 3, none⟩ = some (.string x.vl) := by simpa [← Nat.add_assoc] using hc 3 _ rfl
                have g0 := HL0.out x (List.mem_of_getElem? hxk)
                have g1 := HL1.out x (List.mem_of_getElem? hxk)
                obtain ⟨wp1, wp2⟩ := part_int (P := p) g0 g1 hg2 hp2
                have HTK := hide (take_snoc' hxk)
                obtain ⟨gp, hgp⟩ : ∃ gp : Int, IntKind.i64.wrap (x.g * (p : Int)) = gp := ⟨_, rfl⟩
                rw [← wp1, hgp] at wp2
                have hGz : ((g : Int) = 0) = False := eq_false (by omega)
                have hGz' : g ≠ 0 := by omega
                have HM := hide hm
                clear hc hxk wp1 g0 g1 hm
                have q1 : (0 : Int) ≤ (k : Int) := by omega
                have q2 : (k : Int) < (n : Int) := by omega
                have hWs := hB.size
                by_cases hpx : pN p g x = t
                · have z : (((pN p g x : Nat) : Int) == (t : Int)) = true := by simp [hpx]
                  have HX := hide (show dealE p g (l.take (k + 1)) t = dealE p g (l.take k) t ++ [x] by rw [HTK.out, dealE_snoc, if_pos hpx.symm])
                  clear hpx
                  go_wp2_with (at_builtin; refine wpList_append_own _ rfl _ _ 50 rfl w.heap.size 57 i0 _ 4 56 Try.underlying50 hi hz0 hz1 hz2 rfl (by decide) _ _ _ rfl (hown.alloc _) ⟨wr.heap.size, 0, none⟩ 1 1 (encE x) rfl rfl (cells_new _ _ _) (by simp [encE, Value.oneCell']) (by unfold maxLen; omega) (by omega) (by simp; omega) ?_; intro v3 w3 hown3 hgrow _; have hB3 : Below w.heap.size w w3 := below_append (hB.alloc hWs _) (hown.alloc _) (by simp; omega) hgrow; clear hgrow)
                  clear hown hB
                  go_roundw
                  case rel => exact ⟨k + 1, m + 1, by omega, by go_num, by rw [HX.out, List.length_append, HM.out]; rfl, by omega, by rw [HX.out, flatE_app]; simpa [flatE] using hown3, hB3⟩
                  case measure => simp [intOf]; omega
                · have z : (((pN p g x : Nat) : Int) == (t : Int)) = false := by simp; omega
                  have HX := hide (show dealE p g (l.take (k + 1)) t = dealE p g (l.take k) t by rw [HTK.out, dealE_snoc, if_neg (fun e => hpx e.symm)])
                  clear hpx
                  go_wp2
                  go_roundw
                  case rel => exact ⟨k + 1, m, by omega, by go_num, by rw [HX.out, HM.out], by omega, by rw [HX.out]; exact hown, hB⟩
                  case measure => simp [intOf]; omega
              · obtain rfl : k = n := by omega
                rw [take_all HLL.out] at hm hown
                obtain ⟨A5, c5, rfl, _⟩ := own_form hown
                have HS := hide (Sorted_any A5 m c5 (dealE p g l t) wr (Reads.of_own hown) (by omega))
                clear hown hm
                go_wp2_with fail
                refine HS.out.mono ?_
                rintro e W4 ⟨s, A6, c6, rfl, hpm, hst, hrd, hB4⟩
                have HB := hide (bstep hB hB4)
                have HP := hide hpm
                have HST := hide hst
                have HRD := hide hrd
                clear hB hB4 hpm hst hrd HS
                go_wp2
                go_ret2
                exact ⟨A6, m, c6, s, 0, ⟨HE.out.symm, .inr ⟨rfl, HP.out, HST.out⟩⟩, rfl, by rw [HLL.out]; exact hmk, HRD.out, HB.out⟩
set_option maxRecDepth 100000 in
set_option maxHeartbeats 4000000 in
theorem sameDealt_one (A A' : Option Addr) (n c c' : Nat) (R S : List Er) (w : World) (hx : TabE w w.heap.size A n R) (hy : TabE w w.heap.size A' n S) (hn : n ≤ 16) (he : xsL R = xsL S) (hR : ∀ r ∈ R, r.n ≤ 40000) :
    Calls Try.prog 40 #[.slice A n c, .slice A' n c'] w (RetV w (.bool true)) := by
  have n1 : ((n : Int) != (n : Int)) = false := by simp
  have HE := hide he
  have HR := hide hR
  clear he hR
  go_enter Try.func40, Try.ntmps40
  go_wp2_with fail
  go_loopw [5] (fun i wr => ∃ k : Nat, k ≤ n ∧ i = .int .i64 k ∧ Below w.heap.size w wr) (fun i _ => n - (intOf i).toNat)
  case atStart => exact ⟨0, Nat.zero_le _, rfl, Below.refl _ _⟩
  case round =>
    obtain ⟨k, hk, rfl, hB⟩ := hrel
    by_cases hlt : k < n
    · have hx1 := hx.up hB
      have hy1 := hy.up hB
      obtain ⟨b, off, r, rfl, hb, hrk, hc⟩ := hx1.1.at1 hlt
      obtain ⟨b', off', r', rfl, hb', hrk', hc'⟩ := hy1.1.at1 hlt
      have c0 : wr.cell? ⟨b, off + k, none⟩ = some (.slice r.a r.n r.c) := hc
      have c1 : wr.cell? ⟨b', off' + k, none⟩ = some (.slice r'.a r'.n r'.c) := hc'
      have e1 : r.xs = r'.xs := by
        have h1 : (xsL R)[k]? = some r.xs := by unfold xsL; rw [List.getElem?_map, hrk]; rfl
        have h2 : (xsL S)[k]? = some r'.xs := by unfold xsL; rw [List.getElem?_map, hrk']; rfl
        rw [HE.out, h2] at h1
        injection h1 with h1
        exact h1.symm
      have g1 := hx1.2 r (List.mem_of_getElem? hrk)
      have g2 := hy1.2 r' (List.mem_of_getElem? hrk')
      have l1 := g1.len (enc := encE) encE_len (by omega)
      have l2 := g2.len (enc := encE) encE_len (by omega)
      have hrn := HR.out r (List.mem_of_getElem? hrk)
      have e2 : r'.n = r.n := by rw [← l1, ← l2, e1]
      rw [← e1] at g2
      rw [e2] at g2 c1
      have C1 := hide (fun (p : BW wr) => calls_bw (p := p) (v := .bool true) (SameE_one r.a r.n r.c r'.a r'.c r.xs p.x (g1.up p.h) (g2.up p.h) (by omega)))
      have r0 := fun (p : BW wr) => BW.cell (a := ⟨b, off + k, none⟩) hb c0 p
      have r1 := fun (p : BW wr) => BW.cell (a := ⟨b', off' + k, none⟩) hb' c1 p
      have q1 : (0 : Int) ≤ (k : Int) := by omega
      have q2 : (k : Int) < (n : Int) := by omega
      clear hc hc' hrk hrk' e1 g1 g2 l1 l2 e2 hx1 hy1 c0 c1
      go_wp2_with fail
      (refine wp_region_quiet_bw (by kernel_rfl) (by kernel_rfl) ?_
       repeat (first | go_big_quiet_step (((go_at_call 31; with_reducible exact C1.out _))) | quiet_step (((go_at_call 31; with_reducible exact C1.out _))))
       refine wpQuiet_nil ?_
       intro wq hw'
       obtain ⟨⟨_, hbq⟩, hw''⟩ := hw'
       subst hw'')
      have HB := hide (hB.trans (hbq.mono hB.size))
      clear hbq hB r0 r1 C1
      go_wp2
      go_roundw
      case rel => exact ⟨k + 1, by omega, by go_num, HB.out⟩
      case measure => simp [intOf]; omega
    · obtain rfl : k = n := by omega
      go_wp2
      go_ret
      exact ⟨rfl, hB⟩
end Go.Proofs.Ythngjbhamgmcgaa
