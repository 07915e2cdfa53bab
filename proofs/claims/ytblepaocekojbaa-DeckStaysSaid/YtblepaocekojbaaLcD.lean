/-
  The walk of the program's Local.
-/
import Derived.Test.YtblepaocekojbaaLcP
import Derived.Test.YtblepaocekojbaaLcA
import Derived.Test.YtblepaocekojbaaLcT
import Derived.Deep.AppendLies
import Derived.Deep.CutRange
import Derived.Deep.CutBlock
import Derived.StillTailTactics
namespace Go.Proofs.Ytblepaocekojbaa
open Go.RowKit Go.Shelf Go.Maps Go.Deep
attribute [local go_sem] Oper.semAt_some
set_option linter.unusedVariables false

/-- What the search for a slot finds in memory. -/
structure LcSt (W7 : World) (b2 b3 bP bA : Nat) (p : Pl) (j : Nat) (F2 F3 : Lit → Option Value) (a : Pl) (wr : World) : Prop where
  kA : Blk wr bA 85 #[.int .i64 a.m, .int .i64 a.s]
  kP : Blk wr bP 85 #[.int .i64 p.m, .int .i64 p.s]
  m2 : MapF wr Try.prog 85 b2 j F2
  m3 : MapF wr Try.prog 85 b3 j F3
  hA : bA < wr.heap.size
  hB : Below W7.heap.size W7 wr
theorem LcSt.store {W7 : World} {b2 b3 bP bA : Nat} {p : Pl} {j : Nat} {F2 F3 : Lit → Option Value} {a : Pl} {wr : World} (h : LcSt W7 b2 b3 bP bA p j F2 F3 a wr) (hp : bP ≠ bA) (h2 : b2 ≠ bA) (h3 : b3 ≠ bA) (hW : W7.heap.size ≤ bA) (c : Pl) :
    LcSt W7 b2 b3 bP bA p j F2 F3 c ((wr.setCell ⟨bA, 0, none⟩ (.int .i64 c.m)).setCell ⟨bA, 1, none⟩ (.int .i64 c.s)) :=
  ⟨setP h.kA _ _, (h.kP.far (p := ⟨bA, 0, none⟩) hp _).far (p := ⟨bA, 1, none⟩) hp _, (h.m2.setCell (a := ⟨bA, 0, none⟩) h2 _).setCell (a := ⟨bA, 1, none⟩) h2 _, (h.m3.setCell (a := ⟨bA, 0, none⟩) h3 _).setCell (a := ⟨bA, 1, none⟩) h3 _, by rw [World.size_setCell, World.size_setCell]; exact h.hA, (h.hB.setCell (p := ⟨bA, 0, none⟩) hW _).setCell (p := ⟨bA, 1, none⟩) hW _⟩
theorem bp_of {p : Pl} (h1 : 0 ≤ p.m) (h2 : p.m < 20) (h3 : 0 ≤ p.s) (h4 : p.s < 16) : ∃ x : BP, p = toPl x := by
  refine ⟨(⟨p.m.toNat, by omega⟩, ⟨p.s.toNat, by omega⟩), ?_⟩
  obtain ⟨a, b⟩ := p
  show (⟨a, b⟩ : Pl) = ⟨((a.toNat : Nat) : Int), ((b.toNat : Nat) : Int)⟩
  rw [show ((a.toNat : Nat) : Int) = a from Int.toNat_of_nonneg h1, show ((b.toNat : Nat) : Int) = b from Int.toNat_of_nonneg h3]

set_option maxRecDepth 100000 in
set_option maxHeartbeats 8000000 in
theorem Local_any (A : Option Addr) (q0 c : Nat) (lo : List Pl) (A1 : Option Addr) (q c1 : Nat) (ln : List Pl) (A2 : Option Addr) (n c2 : Nat) (ss : List Int) (w : World) (hlo : Reads w w.heap.size 2 A q0 (lo.flatMap encPl)) (hln : Reads w w.heap.size 2 A1 q (ln.flatMap encPl)) (hs : Reads w w.heap.size 1 A2 n (ss.map (Value.int .i64))) (hq0 : q0 ≤ 1000000) (hq : q ≤ 1000000) (hn : n ≤ 1000000) (hpw : ∀ u, u < q0 → PlW (plA lo u)) :
    Calls Try.prog 42 #[.slice A q0 c, .slice A1 q c1, .slice A2 n c2] w (RetSlE w 2 (locR q0 q n ss lo ln).length ((locR q0 q n ss lo ln).flatMap encPl) (locE q0 q n ss ln)) := by
  have HLN := hide (hln.len encPl_len (by omega))
  have HLO := hide (hlo.len encPl_len (by omega))
  have hB0 : Below w.heap.size w (w.alloc (.cells #[.slice A2 n c2] 22)) := (Below.refl _ _).alloc (Nat.le_refl _) _
  have k0 := Blk.new w 22 #[.slice A2 n c2]
  have hwl : w.heap.size < (w.alloc (.cells #[.slice A2 n c2] 22)).heap.size := by simp
  obtain ⟨PR, hPR⟩ : ∃ PR, locR q0 q n ss lo ln = PR := ⟨_, rfl⟩
  obtain ⟨PE, hPE⟩ : ∃ PE, locE q0 q n ss ln = PE := ⟨_, rfl⟩
  rw [hPR, hPE]
  have HPE0 := hide hPE
  have HPR0 := hide (show PR = if PE = 0 then locL n ss lo ln q q else [] by rw [← hPR, ← hPE]; rfl)
  clear hPR hPE
  go_enter Try.func42, Try.ntmps42
  go_upto_region 1 with fail
  obtain ⟨W, hW⟩ : ∃ W, w.alloc (.cells #[.slice A2 n c2] 22) = W := ⟨_, rfl⟩
  rw [hW] at hB0 k0 hwl ⊢
  clear hW
  have s0 := k0.cell 0
  simp at s0
  have HSL := hide (machines_any A2 n c2 _ ss W (hs.up hB0) (by omega))
  cases hsl : slotB n ss
  · have hpe : PE = 1 := by rw [← HPE0.out]; simp [locE, hsl]
    have hpr := HPR0.out
    rw [hpe, if_neg (by omega)] at hpr
    have HE4 := hide hpe
    have HR4 := hide hpr
    rw [hsl] at HSL
    clear hpe hpr
    go_wp2_with (go_at_call 69; refine HSL.out.mono ?_; rintro e w' ⟨rfl, rfl⟩)
    go_ret2
    rw [HE4.out, HR4.out]
    exact ⟨none, 0, rfl, Reads.none_, hB0⟩
  · rw [hsl] at HSL
    by_cases hq2 : q ≤ 200
    · have HPE := hide (show PE = if (!(ln.any fun p => !winB n ss p)) = true then (if q0 = q then 0 else 9) else 1 by rw [← HPE0.out]; simp [locE, hsl, hq2])
      have HPR := hide HPR0.out
      have z200 : decide ((200 : Int) < (q : Int)) = false := by simp; omega
      have hso := slot_ok hsl hs
      have HCO := hide (conL_any A1 q c1 ln A2 n c2 w.heap.size ss W (hln.up hB0) (hs.up hB0) hq hn s0)
      clear hsl
      go_wp2_with (go_at_call 69; refine HSL.out.mono ?_; rintro e w' ⟨rfl, rfl⟩)
      refine HCO.out.mono ?_
      rintro e W1 ⟨rfl, hB1⟩
      have hB01 := bstep hB0 hB1
      have kx := k0.below hB1 hwl
      have hwl1 : w.heap.size < W1.heap.size := Nat.lt_of_lt_of_le hwl hB1.size
      clear z200 HCO HSL hB0 hB1 k0 hwl s0
      cases hall : ln.any fun p => !winB n ss p
      · by_cases hqq : q0 = q
        · have hpe := HPE.out
          rw [hall] at hpe
          have hpe : PE = 0 := by simpa [hqq] using hpe
          have hpr := HPR.out
          rw [if_pos hpe] at hpr
          have HE4 := hide hpe
          have HR4 := hide hpr
          have HQQ := hide hqq
          have z9 : ((q0 : Int) != (q : Int)) = false := by simp [hqq]
          have hwin : ∀ p ∈ ln, winB n ss p = true := fun p hp => by
            rw [List.any_eq_false] at hall
            have := hall p hp
            simpa using this
          have HWIN := hide hwin
          clear hpe hpr hall hqq HPE HPR hwin
          have HSO := hide (fun k hk => hso.2.2 k hk)
          have hn1 := hso.1
          have hn20 := hso.2.1
          obtain ⟨bS, oS, x0, rfl, hbS, _, _⟩ := hs.at1 (show 0 < n by omega)
          clear hso
          have hmm2 := @run_makeMap Try.prog
          obtain ⟨ir0, hri, hrz0, hrz1, hrz2⟩ := info_parts infoPlace_dk
          go_wp2_with fail
          clear hmm2 z9
          have m1 := MapF.made W1 Try.prog 85
          have kx2 := kx.alloc (.map #[] 0)
          have hB2 := hB01.alloc (Nat.le_of_lt hwl1) (.map #[] 0)
          have hb1B : W1.heap.size < (W1.alloc (.map #[] 0)).heap.size := by simp
          obtain ⟨W2, hW2⟩ : ∃ W2, W1.alloc (.map #[] 0) = W2 := ⟨_, rfl⟩
          obtain ⟨b1, hb1⟩ : ∃ b1, W1.heap.size = b1 := ⟨_, rfl⟩
          rw [hW2] at m1 kx2 hB2 hb1B ⊢
          rw [hb1] at m1 hb1B hwl1 ⊢
          clear hW2 hb1 kx hB01
          obtain ⟨B0, hB0⟩ : ∃ B0, W2.heap.size = B0 := ⟨_, rfl⟩
          rw [hB0] at hb1B
          have hBs2 : B0 ≤ W2.heap.size := by omega
          have ow0 : W2.ownsRow B0 85 2 (.slice none 0 0) 0 [] := World.ownsRow_nil _ _ _ _
          clear hB0
          go_loopw [9, 10, 11, 12, 13, 48] (fun v9 _ _ _ _ i wr => ∃ (k : Nat) (F : Lit → Option Value), k ≤ q ∧ i = .int .i64 k ∧ wr.ownsRow B0 85 2 v9 (ddP (plA ln) k).length ((ddP (plA ln) k).flatMap encPl) ∧ HadI lo ln k F ∧ MapF wr Try.prog 85 b1 k F ∧ Blk wr w.heap.size 22 #[.slice (some ⟨bS, oS, none⟩) n c2] ∧ B0 ≤ wr.heap.size ∧ Below w.heap.size w wr) (fun _ _ _ _ _ i _ => q - (intOf i).toNat)
          case atStart => exact ⟨0, _, Nat.zero_le _, rfl, ow0, HadI.start _ _, m1, kx2, hBs2, hB2⟩
          case round =>
            clear ow0 m1 kx2 hBs2 hB2
            obtain ⟨k, F, hk, rfl, hown, hhad, m1, kx, hBs, hB⟩ := hrel
            have HHAD := hide hhad
            clear hhad
            by_cases hlt : k < q
            · obtain ⟨bn, offn, p, ha1, hbn, hpk, hcp⟩ := hln.elem encPl_len HLN.out hlt
              obtain ⟨bo, offo, o, ha0, hbo, hok, hco⟩ := hlo.elem encPl_len HLO.out (show k < q0 by rw [HQQ.out]; exact hlt)
              have HPK := hide (plA_at hpk)
              have HOK := hide (plA_at hok)
              have hwp := (win_wf (HWIN.out p (List.mem_of_getElem? hpk)) hn20 HSO.out).1
              have hk1 : keyOf Try.prog 85 (.agg #[.int .i64 p.m, .int .i64 p.s]) = some (pk p) := pk_eq hwp
              have hdl := ddP_len (plA ln) k
              have hds := ddP_succ (plA ln) k
              rw [← HPK.out] at hds
              obtain ⟨dd, hdd⟩ : ∃ dd, ddP (plA ln) k = dd := ⟨_, rfl⟩
              obtain ⟨dd', hdd'⟩ : ∃ dd', ddP (plA ln) (k + 1) = dd' := ⟨_, rfl⟩
              rw [hdd, hdd'] at hds
              rw [hdd] at hdl hown
              have HDS := hide hds
              have HDD' := hide hdd'
              have HDL := hide hdl
              clear hds hdd hdd' hdl
              have hc0 : w.cell? ⟨bo, offo + k * 2, none⟩ = some (.int .i64 o.m) := by simpa using hco 0 _ rfl
              have hc1 : w.cell? ⟨bo, offo + k * 2 + 1, none⟩ = some (.int .i64 o.s) := by simpa [← Nat.add_assoc] using hco 1 _ rfl
              have HOC := hide (fun (W : World) (h : Below w.heap.size w W) => show W.cell? ⟨bo, offo + k * 2, none⟩ = some (.int .i64 o.m) ∧ W.cell? ⟨bo, offo + k * 2 + 1, none⟩ = some (.int .i64 o.s) from ⟨(h.cell (p := ⟨bo, offo + k * 2, none⟩) hbo).trans hc0, (h.cell (p := ⟨bo, offo + k * 2 + 1, none⟩) hbo).trans hc1⟩)
              have hd0 : w.cell? ⟨bn, offn + k * 2, none⟩ = some (.int .i64 p.m) := by simpa using hcp 0 _ rfl
              have hd1 : w.cell? ⟨bn, offn + k * 2 + 1, none⟩ = some (.int .i64 p.s) := by simpa [← Nat.add_assoc] using hcp 1 _ rfl
              have e0 : wr.cell? ⟨bn, offn + k * 2, none⟩ = some (.int .i64 p.m) := (hB.cell (p := ⟨bn, offn + k * 2, none⟩) hbn).trans hd0
              have e1 : wr.cell? ⟨bn, offn + k * 2 + 1, none⟩ = some (.int .i64 p.s) := (hB.cell (p := ⟨bn, offn + k * 2 + 1, none⟩) hbn).trans hd1
              clear hcp hco hpk hok hc0 hc1 hd0 hd1
              rw [ha1, ha0]
              have HA1 := hide ha1
              have HA0 := hide ha0
              clear ha1 ha0
              have q1 : (0 : Int) ≤ (k : Int) := by omega
              have q2 : (k : Int) < (q : Int) := by omega
              have q3 : (k : Int) < (q0 : Int) := by have := HQQ.out; omega
              go_upto_region 10 with fail
              have kP := Blk.new wr 85 #[.int .i64 p.m, .int .i64 p.s]
              have hown3 := hown.alloc (.cells #[.int .i64 p.m, .int .i64 p.s] 85)
              have m3 := m1.alloc (.cells #[.int .i64 p.m, .int .i64 p.s] 85)
              have kx3 := kx.alloc (.cells #[.int .i64 p.m, .int .i64 p.s] 85)
              have hBsz := hB.size
              have hB3 := hB.alloc hBsz (.cells #[.int .i64 p.m, .int .i64 p.s] 85)
              have hs3 : wr.heap.size < (wr.alloc (.cells #[.int .i64 p.m, .int .i64 p.s] 85)).heap.size := by simp
              have hnv : u9.ownBlock ≠ some wr.heap.size := fun e => by have := (hown.lt _ e).2; omega
              obtain ⟨W3, hW3⟩ : ∃ W3, wr.alloc (.cells #[.int .i64 p.m, .int .i64 p.s] 85) = W3 := ⟨_, rfl⟩
              obtain ⟨bP, hbP⟩ : ∃ bP, wr.heap.size = bP := ⟨_, rfl⟩
              rw [hW3] at kP hown3 m3 kx3 hB3 hs3 ⊢
              rw [hbP] at kP hs3 hBsz hBs hnv ⊢
              clear hW3 hbP hown m1 kx hB e0 e1
              obtain ⟨A9, c9, rfl, hR9⟩ := own_form hown3
              have HI := hide (ContainsD_any A9 dd.length c9 dd p W3 hR9 (by have := HDL.out; omega))
              obtain ⟨DB, hDB⟩ : ∃ DB, decide (p ∈ dd) = DB := ⟨_, rfl⟩
              rw [hDB] at HI
              have HDB := hide hDB
              clear hR9 hDB
              have p0 := kP.cell 0
              have p1 := kP.cell 1
              simp at p0 p1
              go_wp2_with fail
              refine HI.out.mono ?_
              rintro e W4 ⟨rfl, hB4⟩
              have hown4 := own_below hown3 hB4
              have m4 := m3.below hB4 m3.lt
              have kx4 := kx3.below hB4 (show w.heap.size < W3.heap.size by omega)
              have kP4 := kP.below hB4 hs3
              have hB04 := bstep hB3 hB4
              have hBs4 : B0 ≤ W4.heap.size := by have := hB4.size; omega
              have hP4 : bP < W4.heap.size := Nat.lt_of_lt_of_le hs3 hB4.size
              clear hown3 m3 kx3 kP hB3 hs3 hB4 HI p0 p1
              go_upto_if 56 with fail
              go_cut [9, 48] from 48 to 91 (fun v9 v48 wx => v48 = .int .i64 (k : Int) ∧ wx.ownsRow B0 85 2 v9 dd'.length (dd'.flatMap encPl) ∧ MapF wx Try.prog 85 b1 k F ∧ Blk wx w.heap.size 22 #[.slice (some ⟨bS, oS, none⟩) n c2] ∧ Blk wx bP 85 #[.int .i64 p.m, .int .i64 p.s] ∧ bP < wx.heap.size ∧ B0 ≤ wx.heap.size ∧ Below w.heap.size w wx)
              case first =>
                cases DB
                case true =>
                  have hin : p ∈ dd := of_decide_eq_true HDB.out
                  have HO := hide (show W4.ownsRow B0 85 2 (.slice A9 dd.length c9) dd'.length (dd'.flatMap encPl) by rw [HDS.out, if_pos hin]; exact hown4)
                  clear hin
                  go_wp2_with fail
                  go_meet
                  case rel => exact ⟨rfl, HO.out, m4, kx4, kP4, hP4, hBs4, hB04⟩
                case false =>
                  have hin : ¬ p ∈ dd := of_decide_eq_false HDB.out
                  have HN := hide (show dd'.length = dd.length + 1 ∧ dd'.flatMap encPl = dd.flatMap encPl ++ [.int .i64 p.m, .int .i64 p.s] by rw [HDS.out, if_neg hin, flatP_snoc]; simp)
                  clear hin
                  have hdl := HDL.out
                  obtain ⟨DL, hDL⟩ : ∃ DL, dd.flatMap encPl = DL := ⟨_, rfl⟩
                  have HDLL := hide hDL
                  rw [hDL] at hown4
                  clear hDL
                  have vA := hown4.alloc (.cells #[.int .i64 p.m, .int .i64 p.s] 85)
                  have bA := hB04.alloc hB04.size (.cells #[.int .i64 p.m, .int .i64 p.s] 85)
                  have mA := m4.alloc (.cells #[.int .i64 p.m, .int .i64 p.s] 85)
                  have kxA := kx4.alloc (.cells #[.int .i64 p.m, .int .i64 p.s] 85)
                  have kPA := kP4.alloc (.cells #[.int .i64 p.m, .int .i64 p.s] 85)
                  have xs : B0 ≤ (W4.alloc (.cells #[.int .i64 p.m, .int .i64 p.s] 85)).heap.size := by simp; omega
                  have xsP : bP < (W4.alloc (.cells #[.int .i64 p.m, .int .i64 p.s] 85)).heap.size := by simp; omega
                  have p0 := kP4.cell 0
                  have p1 := kP4.cell 1
                  simp at p0 p1
                  go_wp2_with (at_builtin; refine wpList_append_any _ rfl _ _ 44 rfl B0 85 ir0 _ 2 16 Try.underlying44 hri hrz0 hrz1 hrz2 rfl (by decide) _ dd.length DL rfl vA (W4.heap.size + 1) (some ⟨W4.heap.size, 0, none⟩) 1 1 [.int .i64 p.m, .int .i64 p.s] rfl (rd0 W4 (.int .i64 p.m) (.int .i64 p.s) 85) (by simp [Value.oneCell']) (by unfold maxLen; omega) (by omega) xs ?_; intro v3 w3 hown5 hgrow hat)
                  have hBe : Below w.heap.size w w3 := bA.grown hgrow (by omega) (fun k hk => by have := (hown4.lt k hk).1; omega)
                  have mE := mA.kept hgrow (fun e => by have := (hown4.lt b1 e.symm).1; omega)
                  have kxE := kxA.grown hgrow (fun e => by have := (hown4.lt _ e.symm).1; omega)
                  have kPE := kPA.grown hgrow (fun e => hnv e.symm)
                  have hPE : bP < w3.heap.size := Nat.lt_of_lt_of_le xsP hgrow.size
                  have hBE : B0 ≤ w3.heap.size := Nat.le_trans xs hgrow.size
                  have HO := hide (show w3.ownsRow B0 85 2 v3 dd'.length (dd'.flatMap encPl) by rw [HN.out.1, HN.out.2, HDLL.out]; exact hown5)
                  clear hown5 hgrow hat bA vA mA kxA kPA p0 p1 hown4 m4 kx4 kP4 hB04
                  go_wp2_with fail
                  go_meet
                  case rel => exact ⟨rfl, HO.out, mE, kxE, kPE, hPE, hBE, hBe⟩
              case rest =>
                clear hown4 m4 kx4 kP4 hP4 hBs4 hB04 hnv
                obtain ⟨rfl, hown, m1, kx, kP, hsP, hBs, hB⟩ := hcut
                obtain ⟨v, hv1, hv2, hv3⟩ := HHAD.out.val hwp
                have hlk := m1.look_ok lawP Try.underlying111 (zeroP wc) hk1
                rw [hv1, hv3] at hlk
                obtain ⟨B, hBv⟩ : ∃ B, (hadF (plA lo) (plA ln) k p).isSome = B := ⟨_, rfl⟩
                have HBV := hide hBv
                rw [hBv] at hlk
                clear hv1 hv2 hv3 hBv
                have p0 := kP.cell 0
                have p1 := kP.cell 1
                simp at p0 p1
                go_upto_region 13 with fail
                have kP6 := kP.alloc (.cells #[.int .i64 v.m, .int .i64 v.s] 85)
                have hown6 := hown.alloc (.cells #[.int .i64 v.m, .int .i64 v.s] 85)
                have m6 := m1.alloc (.cells #[.int .i64 v.m, .int .i64 v.s] 85)
                have kx6 := kx.alloc (.cells #[.int .i64 v.m, .int .i64 v.s] 85)
                have hB6 := hB.alloc hB.size (.cells #[.int .i64 v.m, .int .i64 v.s] 85)
                have hBs6 : B0 ≤ (wc.alloc (.cells #[.int .i64 v.m, .int .i64 v.s] 85)).heap.size := by simp; omega
                obtain ⟨W6, hW6⟩ : ∃ W6, wc.alloc (.cells #[.int .i64 v.m, .int .i64 v.s] 85) = W6 := ⟨_, rfl⟩
                rw [hW6] at kP6 hown6 m6 kx6 hB6 hBs6 ⊢
                clear hW6 kP hown m1 kx hB hBs hsP hlk p0 p1
                obtain ⟨o0, o1⟩ := HOC.out W6 hB6
                cases B
                · have hnone : hadF (plA lo) (plA ln) k (plA ln k) = none := by
                    have := HBV.out
                    rw [HPK.out] at this
                    cases h : hadF (plA lo) (plA ln) k (plA ln k) with
                    | none => rfl
                    | some o => rw [h] at this; cases this
                  by_cases hom : 0 ≤ o.m
                  · have z2 : decide (0 ≤ o.m) = true := by simpa using hom
                    by_cases hos : 0 ≤ o.s
                    · have z3 : decide (0 ≤ o.s) = true := by simpa using hos
                      have HN := hide (HHAD.out.put (by rw [← HPK.out]; exact hwp) hnone (by rw [← HOK.out]; exact hom) (by rw [← HOK.out]; exact hos))
                      rw [← HPK.out, ← HOK.out] at HN
                      clear hnone hom hos
                      have p0 := kP6.cell 0
                      have p1 := kP6.cell 1
                      simp at p0 p1
                      go_wp2_with fail
                      go_still_tail 6, (by kernel_rfl)
                      change wpList _ _ _ _ _ W6.drew
                      have mx : MapF W6.drew Try.prog 85 b1 k F := m6.drew
                      have ox : W6.drew.ownsRow B0 85 2 u9 dd'.length (dd'.flatMap encPl) := hown6
                      have kxx : Blk W6.drew w.heap.size 22 #[.slice (some ⟨bS, oS, none⟩) n c2] := kx6
                      have hBx : Below w.heap.size w W6.drew := hB6.drew
                      have hBsx : B0 ≤ W6.drew.heap.size := hBs6
                      obtain ⟨X, hX⟩ : ∃ X, W6.drew = X := ⟨_, rfl⟩
                      rw [hX] at mx ox kxx hBx hBsx ⊢
                      clear hX p0 p1 o0 o1 m6 hown6 kx6 hB6 hBs6 kP6
                      refine wpList_putF _ rfl _ _ _ 111 rfl 85 85 lawP Try.underlying111 mx (by unfold maxLen; omega) (.agg #[.int .i64 p.m, .int .i64 p.s]) (.agg #[.int .i64 o.m, .int .i64 o.s]) (pk p) rfl rfl rfl hk1 ?_
                      intro w1 m1y hgr
                      have oy : w1.ownsRow B0 85 2 u9 dd'.length (dd'.flatMap encPl) := own_block ox fun g hg => hgr.block g (ox.lt g hg).2 fun e => by injection e with e; have := (ox.lt g hg).1; omega
                      have ky := kxx.grown hgr (fun e => by injection e with e; omega)
                      have hBy : Below w.heap.size w w1 := hBx.grown hgr (by omega) (fun e he => by injection he with he; omega)
                      have hBsy : B0 ≤ w1.heap.size := Nat.le_trans hBsx hgr.size
                      clear mx ox kxx hBx hBsx hgr
                      go_wp2
                      go_roundw
                      case rel => exact ⟨k + 1, _, by omega, by go_num, by rw [HDD'.out]; exact oy, HN.out, m1y, ky, hBsy, hBy⟩
                      case measure => simp [intOf]; omega
                    · have z3 : decide (0 ≤ o.s) = false := by simpa using hos
                      have HN := hide (HHAD.out.skip (.inr (by rw [← HOK.out]; exact fun h => hos h.2)))
                      have HM := hide (m6.mono (Nat.le_succ k))
                      clear hnone hom hos m6
                      go_wp2_with fail
                      go_roundw
                      case rel => exact ⟨k + 1, _, by omega, by go_num, by rw [HDD'.out]; exact hown6, HN.out, HM.out, kx6, hBs6, hB6⟩
                      case measure => simp [intOf]; omega
                  · have z2 : decide (0 ≤ o.m) = false := by simpa using hom
                    have HN := hide (HHAD.out.skip (.inr (by rw [← HOK.out]; exact fun h => hom h.1)))
                    have HM := hide (m6.mono (Nat.le_succ k))
                    clear hnone hom m6
                    go_wp2_with fail
                    go_roundw
                    case rel => exact ⟨k + 1, _, by omega, by go_num, by rw [HDD'.out]; exact hown6, HN.out, HM.out, kx6, hBs6, hB6⟩
                    case measure => simp [intOf]; omega
                · have HN := hide (HHAD.out.skip (.inl (by
                    have := HBV.out
                    rw [HPK.out] at this
                    intro e
                    rw [e] at this
                    cases this)))
                  have HM := hide (m6.mono (Nat.le_succ k))
                  clear m6
                  go_wp2_with fail
                  go_roundw
                  case rel => exact ⟨k + 1, _, by omega, by go_num, by rw [HDD'.out]; exact hown6, HN.out, HM.out, kx6, hBs6, hB6⟩
                  case measure => simp [intOf]; omega
            · obtain rfl : q = k := by omega
              obtain ⟨A9, c9, rfl, hR9⟩ := own_form hown
              have hdl := ddP_len (plA ln) q
              have HSRT := hide (SortP_any B0 A9 (ddP (plA ln) q).length c9 (ddP (plA ln) q) wr hown (by omega) (fun p hp => by
                obtain ⟨t, ht, rfl⟩ := (ddP_mem _ _ _).1 hp
                obtain ⟨_, h1, h2, h3, h4⟩ := win_wf (HWIN.out _ (plA_mem (by rw [HLN.out]; exact ht))) hn20 HSO.out
                exact bp_of h1 h2 h3 h4) hBs)
              obtain ⟨dn, hdn⟩ : ∃ dn, (ddP (plA ln) q).length = dn := ⟨_, rfl⟩
              have HDN := hide hdn
              rw [hdn] at HSRT hdl ⊢
              have hlb1 : b1 < wr.heap.size := m1.lt
              clear hR9 hown hdn
              go_wp2_with fail
              refine HSRT.out.mono ?_
              rintro e W7 ⟨⟨rfl, l', ⟨hp, hsr⟩, hR⟩, hB7, hoth⟩
              have hus := srt_used HLN.out hp hsr HWIN.out
              have hul : l'.length = dn := by rw [hp.length_eq]; exact HDN.out
              have hund : l'.Nodup := hp.nodup_iff.2 (ddP_nodup _ _)
              have humem : ∀ x ∈ l', x ∈ ln := fun x hx => by rw [hus] at hx; exact of_decide_eq_true (List.mem_filter.1 hx).2
              have hlmem : ∀ x ∈ ln, x ∈ l' := fun x hx => by rw [hus]; exact List.mem_filter.2 ⟨slots_of_win (HWIN.out x hx), by simpa using hx⟩
              have huln : l'.length ≤ (slotsL (natA ss) n).length := by rw [hus]; exact List.length_filter_le _ _
              have m7 := m1.below hB7 (by omega)
              have kx7 := kx.below hB7 (by omega)
              have hB07 := hB.trans (hB7.mono (by omega))
              have hb17 : b1 < W7.heap.size := Nat.lt_of_lt_of_le hlb1 hB7.size
              have hx7 : w.heap.size < W7.heap.size := by omega
              clear hp hsr hB7 hoth m1 kx hB hBs HSRT
              obtain ⟨us, hus'⟩ : ∃ us, l' = us := ⟨_, rfl⟩
              rw [hus'] at hus hul hund humem hlmem hR huln
              have HUS := hide hus
              have HUL := hide hul
              have HUND := hide hund
              have HUMEM := hide humem
              have HLMEM := hide hlmem
              clear hus hul hund humem hlmem hus'
              have HLOC := hide (fun t => show locF n ss lo ln q t = plA (tkOf (slotsL (natA ss) n) (winB n ss) (hadL lo ln q) us []) (us.idxOf (plA ln t)) by rw [HUS.out]; rfl)
              obtain ⟨S, hS⟩ : ∃ S, natA ss = S := ⟨_, rfl⟩
              have HSE := hide hS
              rw [hS] at HSO HLOC huln
              clear hS HUS
              have HND := hide (asc_nodup (slotsL_asc S n))
              have HULN := hide huln
              clear huln
              obtain ⟨SL, hSL⟩ : ∃ SL, slotsL S n = SL := ⟨_, rfl⟩
              have HSL := hide hSL
              rw [hSL] at HND HULN HLOC
              clear hSL
              obtain ⟨TF, hTF⟩ : ∃ TF : Nat → List Pl, (fun j => tkOf SL (winB n ss) (hadL lo ln q) (us.take j) []) = TF := ⟨_, rfl⟩
              have hTe : ∀ j, tkOf SL (winB n ss) (hadL lo ln q) (us.take j) [] = TF j := fun j => by rw [← hTF]
              have HTS := hide (fun j x (h : us[j]? = some x) => show TF (j + 1) = TF j ++ [toF SL (winB n ss) (hadL lo ln q) (TF j) x] by rw [← hTe, ← hTe, take_snoc' h, tkOf_snoc])
              have HTL := hide (fun j (h : j ≤ us.length) => show (TF j).length = j by rw [← hTe, tkOf_len]; simp; omega)
              have HT0 := hide (show TF 0 = [] by rw [← hTe]; rfl)
              have HTN := hide (show TF us.length = tkOf SL (winB n ss) (hadL lo ln q) us [] by rw [← hTe, List.take_length])
              clear hTF hTe
              have hmm2 := @run_makeMap Try.prog
              go_wp2_with fail
              clear hmm2
              have m2 := (MapF.made W7 Try.prog 85).alloc (.map #[] 0)
              have m3 := MapF.made (W7.alloc (.map #[] 0)) Try.prog 85
              have hB8 : Below W7.heap.size W7 ((W7.alloc (.map #[] 0)).alloc (.map #[] 0)) := ((Below.refl _ _).alloc (Nat.le_refl _) _).alloc (by simp) _
              simp only [World.size_alloc] at m3
              obtain ⟨W8, hW8⟩ : ∃ W8, (W7.alloc (.map #[] 0)).alloc (.map #[] 0) = W8 := ⟨_, rfl⟩
              obtain ⟨b2, hb2⟩ : ∃ b2, W7.heap.size = b2 := ⟨_, rfl⟩
              obtain ⟨b3, hb3⟩ : ∃ b3, W7.heap.size + 1 = b3 := ⟨_, rfl⟩
              rw [hW8] at m2 m3 hB8 ⊢
              rw [hb3] at m3 ⊢
              rw [hb2] at m2 ⊢
              have xb2 : W7.heap.size ≤ b2 := by omega
              have x23 : b2 < b3 := by omega
              clear hW8 hb2 hb3
              have tk0 : TakI (TF 0) (fun _ => none) := by rw [HT0.out]; exact TakI.start
              go_loopw [17, 18, 19, 20, 21, 98] (fun _ _ _ _ _ i wr => ∃ (j : Nat) (F2 F3 : Lit → Option Value), j ≤ dn ∧ i = .int .i64 j ∧ TakI (TF j) F2 ∧ ToI us (TF j) j F3 ∧ MapF wr Try.prog 85 b2 j F2 ∧ MapF wr Try.prog 85 b3 j F3 ∧ Below W7.heap.size W7 wr) (fun _ _ _ _ _ i _ => dn - (intOf i).toNat)
              case atStart => exact ⟨0, _, _, Nat.zero_le _, rfl, tk0, ToI.start _ _, m2, m3, hB8⟩
              case round =>
                clear m2 m3 hB8 tk0
                obtain ⟨j, F2, F3, hj, rfl, htk, hto, m2, m3, hBr⟩ := hrel
                have HTO := hide hto
                have HTK := hide htk
                clear hto htk
                by_cases hlt : j < dn
                · obtain ⟨bu, ou, p, ha, hbu, hpk, hcp⟩ := hR.elem encPl_len HUL.out hlt
                  have HPK := hide (plA_at hpk)
                  have HPI := hide hpk
                  have hpl := HUMEM.out p (List.mem_of_getElem? hpk)
                  have HWP := hide (HWIN.out p hpl)
                  have hwp := (win_wf HWP.out hn20 (by rw [HSE.out]; exact HSO.out)).1
                  have hk1 : keyOf Try.prog 85 (.agg #[.int .i64 p.m, .int .i64 p.s]) = some (pk p) := pk_eq hwp
                  have hts := HTS.out j p hpk
                  have htl := HTL.out j (by rw [HUL.out]; omega)
                  obtain ⟨tk, htk⟩ : ∃ tk, TF j = tk := ⟨_, rfl⟩
                  rw [htk] at hts htl
                  have HTKE := hide htk
                  have HTLE := hide htl
                  obtain ⟨T, hT⟩ : ∃ T, toF SL (winB n ss) (hadL lo ln q) tk p = T := ⟨_, rfl⟩
                  rw [hT] at hts
                  have HTS1 := hide hts
                  have HT := hide hT
                  obtain ⟨c0, hc0⟩ : ∃ c0, wantF (winB n ss) (hadL lo ln q) tk p = c0 := ⟨_, rfl⟩
                  have HC0 := hide hc0
                  rw [htk] at HTK HTO
                  clear hts htl hT hc0 htk hpl
                  have e0 : wr.cell? ⟨bu, ou + j * 2, none⟩ = some (.int .i64 p.m) := (hBr.cell (p := ⟨bu, ou + j * 2, none⟩) hbu).trans (by simpa using hcp 0 _ rfl)
                  have e1 : wr.cell? ⟨bu, ou + j * 2 + 1, none⟩ = some (.int .i64 p.s) := (hBr.cell (p := ⟨bu, ou + j * 2 + 1, none⟩) hbu).trans (by simpa [← Nat.add_assoc] using hcp 1 _ rfl)
                  clear hcp hpk
                  rw [ha]
                  have HA := hide ha
                  clear ha
                  have q1 : (0 : Int) ≤ (j : Int) := by omega
                  have q2 : (j : Int) < (dn : Int) := by omega
                  -- the box of the old place
                  obtain ⟨v, hv1, hv2, hv3⟩ := HHAD.out.val hwp
                  have hvw : PlW v := by
                    rw [hv2]
                    cases hh : hadF (plA lo) (plA ln) q p with
                    | none => exact ⟨wf_nat (by omega : 0 ≤ 1000000), wf_nat (by omega : 0 ≤ 1000000)⟩
                    | some o => obtain ⟨u, hu, rfl⟩ := had_old hh; exact hpw u (by rw [HQQ.out]; exact hu)
                  have hk2 : keyOf Try.prog 85 (.agg #[.int .i64 v.m, .int .i64 v.s]) = some (pk v) := pk_eq hvw
                  have hch := want_choice (winB n ss) (hadL lo ln q) tk p v hv2
                  rw [HC0.out] at hch
                  have hB' : (hadL lo ln q p).isSome = (F (pk p)).isSome := hv3.symm
                  rw [hB'] at hch
                  obtain ⟨B, hBv⟩ : ∃ B, (F (pk p)).isSome = B := ⟨_, rfl⟩
                  rw [hBv] at hch
                  obtain ⟨CH, hCH⟩ : ∃ CH, ((!B) || (decide (v ∈ tk) || (!decide (v = p) && !winB n ss v))) = CH := ⟨_, rfl⟩
                  rw [hCH] at hch
                  have HCH := hide hCH
                  have HWC := hide hch
                  have HV1 := hide hv1
                  have HBV := hide hBv
                  clear hv1 hv2 hv3 hB' hBv hCH hch
                  have m2lt := m2.lt
                  have m3lt := m3.lt
                  have hBrs := hBr.size
                  have m1 := m7.below hBr hb17
                  go_upto_region 21 with fail
                  have kP := Blk.new wr 85 #[.int .i64 p.m, .int .i64 p.s]
                  have m1a := m1.alloc (.cells #[.int .i64 p.m, .int .i64 p.s] 85)
                  have m2a := m2.alloc (.cells #[.int .i64 p.m, .int .i64 p.s] 85)
                  have m3a := m3.alloc (.cells #[.int .i64 p.m, .int .i64 p.s] 85)
                  have hBa := hBr.alloc hBrs (.cells #[.int .i64 p.m, .int .i64 p.s] 85)
                  have hsa : wr.heap.size < (wr.alloc (.cells #[.int .i64 p.m, .int .i64 p.s] 85)).heap.size := by simp
                  obtain ⟨W9, hW9⟩ : ∃ W9, wr.alloc (.cells #[.int .i64 p.m, .int .i64 p.s] 85) = W9 := ⟨_, rfl⟩
                  obtain ⟨bP, hbP⟩ : ∃ bP, wr.heap.size = bP := ⟨_, rfl⟩
                  rw [hW9] at kP m1a m2a m3a hBa hsa ⊢
                  rw [hbP] at kP hsa hBrs m2lt m3lt ⊢
                  clear hW9 hbP m1 m2 m3 hBr e0 e1
                  have hlk := m1a.look_ok lawP Try.underlying111 (zeroP W9) hk1
                  rw [HV1.out, HBV.out] at hlk
                  have p0 := kP.cell 0
                  have p1 := kP.cell 1
                  simp at p0 p1
                  go_upto_region 22 with fail
                  have kA := Blk.new W9 85 #[.int .i64 v.m, .int .i64 v.s]
                  have kPb := kP.alloc (.cells #[.int .i64 v.m, .int .i64 v.s] 85)
                  have m2b := m2a.alloc (.cells #[.int .i64 v.m, .int .i64 v.s] 85)
                  have m3b := m3a.alloc (.cells #[.int .i64 v.m, .int .i64 v.s] 85)
                  have hBb := hBa.alloc hBa.size (.cells #[.int .i64 v.m, .int .i64 v.s] 85)
                  have hsb : W9.heap.size < (W9.alloc (.cells #[.int .i64 v.m, .int .i64 v.s] 85)).heap.size := by simp
                  obtain ⟨W10, hW10⟩ : ∃ W10, W9.alloc (.cells #[.int .i64 v.m, .int .i64 v.s] 85) = W10 := ⟨_, rfl⟩
                  obtain ⟨bA, hbA⟩ : ∃ bA, W9.heap.size = bA := ⟨_, rfl⟩
                  rw [hW10] at kA kPb m2b m3b hBb hsb ⊢
                  rw [hbA] at kA hsb hsa ⊢
                  have xPA : bP ≠ bA := by omega
                  have x2A : b2 ≠ bA := by omega
                  have x3A : b3 ≠ bA := by omega
                  have xWA : W7.heap.size ≤ bA := by omega
                  clear hW10 hbA kP m1a m2a m3a hBa hlk p0 p1
                  go_cut [98, 125] from 98 to 159 (fun v98 v125 wx => v98 = .int .i64 (j : Int) ∧ v125 = .bool CH ∧ Below W10.heap.size W10 wx)
                  case first =>
                    have a0 := kA.cell 0
                    have a1 := kA.cell 1
                    have p0 := kPb.cell 0
                    have p1 := kPb.cell 1
                    simp at a0 a1 p0 p1
                    cases B
                    · have HX := hide (show CH = true by rw [← HCH.out]; rfl)
                      go_wp2_with fail
                      go_meet
                      case rel => exact ⟨rfl, by rw [HX.out], Below.refl _ _⟩
                    · have hlk2 := m2b.look lawP Try.underlying116 (zeroB W10) hk2
                      rw [HTK.out.val hvw] at hlk2
                      cases hin : decide (v ∈ tk)
                      · rw [hin] at hlk2
                        have HEQ := neqDP v p
                        have hgt : Try.prog.eqGuardType Try.prog.depth 85 = false := by kernel_rfl
                        cases heq : decide (v = p)
                        · rw [heq] at HEQ
                          have s0 : W10.cell? ⟨w.heap.size, 0, none⟩ = some (.slice (some ⟨bS, oS, none⟩) n c2) := by rw [hBb.cell (p := ⟨w.heap.size, 0, none⟩) hx7, kx7.cell 0]; rfl
                          have HWI := hide (within_any v (some ⟨bS, oS, none⟩) n c2 ss W10 (hs.up (hB07.trans (hBb.mono (by omega)))) (by omega))
                          cases hwi : winB n ss v
                          · have HX := hide (show CH = true by rw [← HCH.out, hin, heq, hwi]; rfl)
                            rw [hwi] at HWI
                            clear hin heq hwi
                            go_wp2_with fail
                            refine HWI.out.mono ?_
                            rintro e W11 ⟨rfl, hB11⟩
                            go_wp2_with fail
                            go_meet
                            case rel => exact ⟨rfl, by rw [HX.out], hB11⟩
                          · have HX := hide (show CH = false by rw [← HCH.out, hin, heq, hwi]; rfl)
                            rw [hwi] at HWI
                            clear hin heq hwi
                            go_wp2_with fail
                            refine HWI.out.mono ?_
                            rintro e W11 ⟨rfl, hB11⟩
                            go_wp2_with fail
                            go_meet
                            case rel => exact ⟨rfl, by rw [HX.out], hB11⟩
                        · rw [heq] at HEQ
                          have HX := hide (show CH = false by rw [← HCH.out, hin, heq]; rfl)
                          clear hin heq
                          go_wp2_with fail
                          go_meet
                          case rel => exact ⟨rfl, by rw [HX.out], Below.refl _ _⟩
                      · have HX := hide (show CH = true by rw [← HCH.out, hin]; rfl)
                        rw [hin] at hlk2
                        clear hin
                        go_wp2_with fail
                        go_meet
                        case rel => exact ⟨rfl, by rw [HX.out], Below.refl _ _⟩
                  case rest =>
                    obtain ⟨rfl, rfl, hBx⟩ := hcut
                    have kA' := kA.below hBx hsb
                    have kP' := kPb.below hBx (by omega)
                    have m2' := m2b.below hBx m2b.lt
                    have m3' := m3b.below hBx m3b.lt
                    have hB' := bstep hBb hBx
                    have hA' : bA < wc.heap.size := Nat.lt_of_lt_of_le hsb hBx.size
                    have st0 : LcSt W7 b2 b3 bP bA p j F2 F3 v wc := ⟨kA', kP', m2', m3', hA', hB'⟩
                    have hc0w : PlW c0 := by
                      rw [← HWC.out]
                      split
                      · exact hwp
                      · exact hvw
                    have HBW := hide (fun (wx : World) (h : Below W7.heap.size W7 wx) => hB07.trans (h.mono (by omega)))
                    clear kA kPb m2b m3b hBb hsb hBx kA' kP' m2' m3' hB' hA'
                    go_upto_if 125 with fail
                    go_cut [98] from 98 to 159 (fun v98 wx => v98 = .int .i64 (j : Int) ∧ LcSt W7 b2 b3 bP bA p j F2 F3 c0 wx)
                    case first =>
                      cases hb : CH
                      · have HX := hide (show v = c0 by rw [← HWC.out, hb]; rfl)
                        clear hb
                        go_wp2_with fail
                        go_meet
                        case rel => exact ⟨rfl, HX.out ▸ st0⟩
                      · have HX := hide (show p = c0 by rw [← HWC.out, hb]; rfl)
                        clear hb
                        have HS := hide (st0.store xPA x2A x3A xWA p)
                        have p0 := st0.kP.cell 0
                        have p1 := st0.kP.cell 1
                        have f0 := st0.kA.frozen 0
                        have g0 := st0.kA.cell 0
                        have f1 := (st0.kA.set_ 0 (.int .i64 p.m)).frozen 1
                        have g1 := (st0.kA.set_ 0 (.int .i64 p.m)).cell 1
                        simp at p0 p1 g0 g1
                        go_wp2_with fail
                        go_meet
                        case rel => exact ⟨rfl, by have := HS.out; rw [HX.out] at this ⊢; exact this⟩
                    case rest =>
                      clear st0
                      obtain ⟨rfl, st⟩ := hcut
                      go_upto_block 5 with fail
                      go_cut [98] from 98 to 159 (fun v98 wx => v98 = .int .i64 (j : Int) ∧ PlW T ∧ LcSt W7 b2 b3 bP bA p j F2 F3 T wx)
                      case first =>
                        have hJ0 : AtJ tk (slotsL S 0) c0 T c0 := by rw [← HT.out]; exact AtJ.start HC0.out
                        go_wp2_with fail
                        go_loopw [20, 21] (fun v20 _ wr => ∃ (m : Nat) (a : Pl), m ≤ n ∧ v20 = .int .i64 m ∧ AtJ tk (slotsL S m) c0 T a ∧ PlW a ∧ LcSt W7 b2 b3 bP bA p j F2 F3 a wr) (fun v20 _ _ => n - (intOf v20).toNat)
                        case atStart => exact ⟨0, c0, Nat.zero_le _, rfl, hJ0, hc0w, st⟩
                        case round =>
                          clear hJ0 st
                          obtain ⟨m, a, hmn, rfl, hJ, haw, st⟩ := hrel
                          have HJ := hide hJ
                          clear hJ
                          have hka : keyOf Try.prog 85 (.agg #[.int .i64 a.m, .int .i64 a.s]) = some (pk a) := pk_eq haw
                          have hlk := st.m2.look lawP Try.underlying116 (zeroB wr) hka
                          rw [HTK.out.val haw] at hlk
                          have a0 := st.kA.cell 0
                          have a1 := st.kA.cell 1
                          simp at a0 a1
                          have s0 : wr.cell? ⟨w.heap.size, 0, none⟩ = some (.slice (some ⟨bS, oS, none⟩) n c2) := by rw [st.hB.cell (p := ⟨w.heap.size, 0, none⟩) hx7, kx7.cell 0]; rfl
                          by_cases hltm : m < n
                          · by_cases hin : a ∈ tk
                            · have z : decide (a ∈ tk) = true := by simpa using hin
                              rw [z] at hlk
                              clear z hin
                              have q3 : (0 : Int) ≤ (m : Int) := by omega
                              have q4 : (m : Int) < (n : Int) := by omega
                              have hJ1 : AtJ tk (slotsL S m ++ rowS m 0) c0 T a := by simpa [rowS] using HJ.out
                              go_wp2_with fail
                              go_loopw [21] (fun v21 wr => ∃ (s : Nat) (a : Pl), s ≤ S m ∧ v21 = .int .i64 s ∧ AtJ tk (slotsL S m ++ rowS m s) c0 T a ∧ PlW a ∧ LcSt W7 b2 b3 bP bA p j F2 F3 a wr) (fun v21 _ => S m - (intOf v21).toNat)
                              case atStart => exact ⟨0, a, Nat.zero_le _, rfl, hJ1, haw, st⟩
                              case round =>
                                clear hJ1 HJ st hka hlk a0 a1 s0 haw
                                obtain ⟨s, a, hsn, rfl, hJ, haw, st⟩ := hrel
                                have HJ := hide hJ
                                clear hJ
                                have hka : keyOf Try.prog 85 (.agg #[.int .i64 a.m, .int .i64 a.s]) = some (pk a) := pk_eq haw
                                have hlk := st.m2.look lawP Try.underlying116 (zeroB wr) hka
                                rw [HTK.out.val haw] at hlk
                                have a0 := st.kA.cell 0
                                have a1 := st.kA.cell 1
                                simp at a0 a1
                                have s0 : wr.cell? ⟨w.heap.size, 0, none⟩ = some (.slice (some ⟨bS, oS, none⟩) n c2) := by rw [st.hB.cell (p := ⟨w.heap.size, 0, none⟩) hx7, kx7.cell 0]; rfl
                                have hsm := (HSO.out m hltm).2
                                have e0 : wr.cell? ⟨bS, oS + m, none⟩ = some (.int .i64 ((S m : Nat) : Int)) := by
                                  obtain ⟨b', off', x, hA, hb', hxk, hc⟩ := (hs.below (HBW.out wr st.hB)).at1 hltm
                                  have h1 := (HSO.out m hltm).1
                                  rw [hxk] at h1
                                  injection h1 with h1
                                  subst h1
                                  injection hA with hA
                                  injection hA with hA1 hA2
                                  subst hA1 hA2
                                  exact hc
                                by_cases hlts : s < S m
                                · have HSP := hide (slots_split S hltm hlts)
                                  by_cases hin : a ∈ tk
                                  · have z : decide (a ∈ tk) = true := by simpa using hin
                                    have HJ2 := hide (show AtJ tk (slotsL S m ++ rowS m (s + 1)) c0 T ⟨(m : Int), (s : Int)⟩ by
                                      obtain ⟨rest, hr⟩ := HSP.out
                                      rw [HSL.out] at hr
                                      rw [rowS_succ, ← List.append_assoc, ← HT.out]
                                      exact AtJ.step HC0.out (by rw [HT.out]; exact HJ.out) hin hr)
                                    have hws : PlW ⟨(m : Int), (s : Int)⟩ := ⟨wf_nat (by omega), wf_nat (by omega)⟩
                                    have HS := hide (st.store xPA x2A x3A xWA ⟨(m : Int), (s : Int)⟩)
                                    have f0 := st.kA.frozen 0
                                    have f1 := (st.kA.set_ 0 (.int .i64 (m : Int))).frozen 1
                                    have g1 := (st.kA.set_ 0 (.int .i64 (m : Int))).cell 1
                                    simp at g1
                                    rw [z] at hlk
                                    clear z hin st
                                    obtain ⟨sm, hsmm⟩ : ∃ sm, S m = sm := ⟨_, rfl⟩
                                    have HSM := hide hsmm
                                    rw [hsmm] at e0 hlts hsm hsn
                                    clear hsmm
                                    go_wp2_with fail
                                    go_roundw
                                    case rel => exact ⟨s + 1, ⟨(m : Int), (s : Int)⟩, by rw [HSM.out]; omega, by go_num, HJ2.out, hws, HS.out⟩
                                    case measure => rw [HSM.out]; simp [intOf]; omega
                                  · have z : decide (a ∈ tk) = false := by simpa using hin
                                    have HJ2 := hide (show AtJ tk (slotsL S (m + 1)) c0 T a from HJ.out.keep hin)
                                    rw [z] at hlk
                                    clear z hin
                                    obtain ⟨sm, hsmm⟩ : ∃ sm, S m = sm := ⟨_, rfl⟩
                                    rw [hsmm] at e0 hlts hsm hsn
                                    clear hsmm
                                    go_wp2_with fail
                                    go_roundw
                                    case rel => exact ⟨m + 1, a, by omega, by go_num, HJ2.out, haw, st⟩
                                    case measure => simp [intOf]; omega
                                · obtain rfl : s = S m := by omega
                                  have HJ2 := hide (show AtJ tk (slotsL S (m + 1)) c0 T a by rw [slotsL_succ]; exact HJ.out)
                                  obtain ⟨sm, hsmm⟩ : ∃ sm, S m = sm := ⟨_, rfl⟩
                                  rw [hsmm] at e0 hsm hsn ⊢
                                  clear hsmm hlts
                                  go_wp2_with fail
                                  go_roundw
                                  case rel => exact ⟨m + 1, a, by omega, by go_num, HJ2.out, haw, st⟩
                                  case measure => simp [intOf]; omega
                            · have z : decide (a ∈ tk) = false := by simpa using hin
                              have HE := hide (HJ.out.hit hin)
                              rw [z] at hlk
                              clear z hin
                              go_wp2_with fail
                              go_meet
                              case rel => exact ⟨rfl, HE.out ▸ haw, HE.out ▸ st⟩
                          · obtain rfl : n = m := by omega
                            have hin : a ∉ tk := (show AtJ tk SL c0 T a by rw [← HSL.out]; exact HJ.out).full HND.out (by have := HTLE.out; have := HULN.out; have := HUL.out; omega)
                            have HE := hide (HJ.out.hit hin)
                            clear hin
                            go_wp2_with fail
                            go_meet
                            case rel => exact ⟨rfl, HE.out ▸ haw, HE.out ▸ st⟩
                      case rest =>
                        clear st
                        obtain ⟨rfl, hTw, st⟩ := hcut
                        have hkT : keyOf Try.prog 85 (.agg #[.int .i64 T.m, .int .i64 T.s]) = some (pk T) := pk_eq hTw
                        obtain ⟨kA, kP, m2, m3, hA, hBx⟩ := st
                        have a0 := kA.cell 0
                        have a1 := kA.cell 1
                        simp at a0 a1
                        go_upto_region 32 with (at_mapUpdate; refine wpList_putF _ rfl _ _ _ 116 rfl 85 4 lawP Try.underlying116 m2 (by unfold maxLen; omega) (.agg #[.int .i64 T.m, .int .i64 T.s]) (.bool true) (pk T) rfl rfl rfl hkT ?_; intro w1 m2y hgr)
                        have m3y := m3.kept hgr (fun e => by injection e with e; omega)
                        have kAy := kA.grown hgr (fun e => by injection e with e; omega)
                        have kPy := kP.grown hgr (fun e => by injection e with e; omega)
                        have hBy : Below W7.heap.size W7 w1 := hBx.grown hgr hBx.size (fun e he => by injection he with he; omega)
                        clear a0 a1 kA kP m2 m3 hBx
                        have a0 := kAy.cell 0
                        have a1 := kAy.cell 1
                        have p0 := kPy.cell 0
                        have p1 := kPy.cell 1
                        simp at a0 a1 p0 p1
                        go_upto_region 33 with (at_mapUpdate; refine wpList_putF _ rfl _ _ _ 111 rfl 85 85 lawP Try.underlying111 m3y (by unfold maxLen; omega) (.agg #[.int .i64 p.m, .int .i64 p.s]) (.agg #[.int .i64 T.m, .int .i64 T.s]) (pk p) rfl rfl rfl hk1 ?_; intro w2 m3z hgz)
                        have m2z := m2y.kept hgz (fun e => by injection e with e; omega)
                        have hBz : Below W7.heap.size W7 w2 := hBy.grown hgz hBy.size (fun e he => by injection he with he; omega)
                        clear a0 a1 p0 p1 kAy kPy m2y m3y hBy hgr hgz
                        have HTN1 := hide (show TakI (TF (j + 1)) (putF F2 (pk T) (.bool true)) by rw [HTS1.out]; exact HTK.out.put hTw)
                        have HTN2 := hide (show ToI us (TF (j + 1)) (j + 1) (putF F3 (pk p) (plV T)) by
                          rw [HTS1.out, HPK.out]
                          exact HTO.out.put HUND.out (by rw [HUL.out]; exact hlt) HTLE.out (fun x hx => (win_wf (HWIN.out x (HUMEM.out x hx)) hn20 (by rw [HSE.out]; exact HSO.out)).1) T)
                        go_wp2_with fail
                        go_roundw
                        case rel => exact ⟨j + 1, _, _, by omega, by go_num, HTN1.out, HTN2.out, m2z, m3z, hBz⟩
                        case measure => simp [intOf]; omega
                · obtain rfl : dn = j := by omega
                  obtain ⟨w9, hw9⟩ : ∃ w9 : World, w9 = wr := ⟨_, rfl⟩
                  subst hw9
                  have hB9 := hB07.trans (hBr.mono (by omega))
                  have hTOq := HTO.out
                  have HTFN := hide (show TF dn = tkOf SL (winB n ss) (hadL lo ln q) us [] by rw [← HTN.out, HUL.out])
                  rw [HTFN.out] at hTOq
                  have HTOQ := hide hTOq
                  clear hTOq m2 hBr HTO
                  go_wp2_with fail
                  have ow0 : w9.ownsRow w9.heap.size 85 2 (.slice none 0 0) 0 [] := World.ownsRow_nil _ _ _ _
                  go_loopw [22, 24, 162] (fun v22 _ i wr => ∃ t : Nat, t ≤ q ∧ i = .int .i64 t ∧ wr.ownsRow w9.heap.size 85 2 v22 t ((locL n ss lo ln q t).flatMap encPl) ∧ Below w9.heap.size w9 wr) (fun _ _ i _ => q - (intOf i).toNat)
                  case atStart => exact ⟨0, Nat.zero_le _, rfl, ow0, Below.refl _ _⟩
                  case round =>
                    clear ow0
                    obtain ⟨t, htq, rfl, hown, hBr⟩ := hrel
                    have hBw := bstep hB9 hBr
                    by_cases hlt : t < q
                    · obtain ⟨bn, offn, p, ha1, hbn, hpk, hcp⟩ := (hln.below hBw).elem encPl_len HLN.out hlt
                      have hpm := List.mem_of_getElem? hpk
                      have hwp := (win_wf (HWIN.out p hpm) hn20 (by rw [HSE.out]; exact HSO.out)).1
                      have hk1 : keyOf Try.prog 85 (.agg #[.int .i64 p.m, .int .i64 p.s]) = some (pk p) := pk_eq hwp
                      have hpu := HLMEM.out p hpm
                      have hlf := HLOC.out t
                      rw [← plA_at hpk] at hlf
                      have hix := List.idxOf_lt_length_of_mem hpu
                      have hty := HTOQ.out (us.idxOf p) (by rw [← HUL.out]; exact hix)
                      rw [show plA us (us.idxOf p) = p by unfold plA; rw [List.getElem?_eq_getElem hix]; exact List.getElem_idxOf hix] at hty
                      rw [← hlf] at hty
                      obtain ⟨y, hy⟩ : ∃ y, locF n ss lo ln q t = y := ⟨_, rfl⟩
                      rw [hy] at hty
                      have HSN := hide (show (locL n ss lo ln q (t + 1)).flatMap encPl = (locL n ss lo ln q t).flatMap encPl ++ [.int .i64 y.m, .int .i64 y.s] by rw [locL_succ, flatP_snoc, hy])
                      have e0 : wr.cell? ⟨bn, offn + t * 2, none⟩ = some (.int .i64 p.m) := by simpa using hcp 0 _ rfl
                      have e1 : wr.cell? ⟨bn, offn + t * 2 + 1, none⟩ = some (.int .i64 p.s) := by simpa [← Nat.add_assoc] using hcp 1 _ rfl
                      clear hcp hpk hpm hpu hlf hix hy
                      rw [ha1]
                      have HA1 := hide ha1
                      clear ha1
                      have q3 : (0 : Int) ≤ (t : Int) := by omega
                      have q4 : (t : Int) < (q : Int) := by omega
                      have m3r := (m3.below hBr m3.lt).alloc (.cells #[.int .i64 p.m, .int .i64 p.s] 85)
                      have kP := Blk.new wr 85 #[.int .i64 p.m, .int .i64 p.s]
                      have hownA := hown.alloc (.cells #[.int .i64 p.m, .int .i64 p.s] 85)
                      have hBA := hBr.alloc hBr.size (.cells #[.int .i64 p.m, .int .i64 p.s] 85)
                      have xsA : w9.heap.size ≤ (wr.alloc (.cells #[.int .i64 p.m, .int .i64 p.s] 85)).heap.size := hBA.size
                      go_upto_region 38 with fail
                      obtain ⟨W3, hW3⟩ : ∃ W3, wr.alloc (.cells #[.int .i64 p.m, .int .i64 p.s] 85) = W3 := ⟨_, rfl⟩
                      obtain ⟨bP, hbP⟩ : ∃ bP, wr.heap.size = bP := ⟨_, rfl⟩
                      rw [hW3] at m3r kP hownA hBA xsA ⊢
                      rw [hbP] at kP ⊢
                      clear hW3 hbP hown hBr e0 e1
                      have hlk := m3r.look lawP Try.underlying111 (zeroP W3) hk1
                      rw [hty] at hlk
                      simp only [Option.getD, plV] at hlk
                      have p0 := kP.cell 0
                      have p1 := kP.cell 1
                      simp at p0 p1
                      obtain ⟨PL, hPL⟩ : ∃ PL, (locL n ss lo ln q t).flatMap encPl = PL := ⟨_, rfl⟩
                      have HPL := hide hPL
                      rw [hPL] at hownA
                      clear hPL hty
                      have vA := hownA.alloc (.cells #[.int .i64 y.m, .int .i64 y.s] 85)
                      have bA := hBA.alloc hBA.size (.cells #[.int .i64 y.m, .int .i64 y.s] 85)
                      have xs : w9.heap.size ≤ (W3.alloc (.cells #[.int .i64 y.m, .int .i64 y.s] 85)).heap.size := bA.size
                      go_wp2_with (at_builtin; refine wpList_append_any _ rfl _ _ 44 rfl w9.heap.size 85 ir0 _ 2 16 Try.underlying44 hri hrz0 hrz1 hrz2 rfl (by decide) _ t PL rfl vA (W3.heap.size + 1) (some ⟨W3.heap.size, 0, none⟩) 1 1 [.int .i64 y.m, .int .i64 y.s] rfl (rd0 W3 (.int .i64 y.m) (.int .i64 y.s) 85) (by simp [Value.oneCell']) (by unfold maxLen; omega) (by omega) xs ?_; intro v3 w3 hown3 hgrow hat)
                      have hBe : Below w9.heap.size w9 w3 := below_append bA vA xs hgrow
                      have HO := hide (show w3.ownsRow w9.heap.size 85 2 v3 (t + 1) ((locL n ss lo ln q (t + 1)).flatMap encPl) by rw [HSN.out, HPL.out]; exact hown3)
                      clear hown3 hgrow hat bA vA hownA hBA p0 p1 hlk m3r kP
                      go_wp2_with fail
                      go_roundw
                      case rel => exact ⟨t + 1, by omega, by go_num, HO.out, hBe⟩
                      case measure => simp [intOf]; omega
                    · obtain rfl : q = t := by omega
                      obtain ⟨A', c', rfl, hR'⟩ := own_form hown
                      go_wp2_with fail
                      go_ret2
                      rw [HE4.out, HR4.out, locL_len]
                      exact ⟨A', c', rfl, hR', hBw⟩
        · have z9 : ((q0 : Int) != (q : Int)) = true := by simp; omega
          have hpe := HPE.out
          rw [hall] at hpe
          have hpe : PE = 9 := by simpa [hqq] using hpe
          have hpr := HPR.out
          rw [hpe, if_neg (by omega)] at hpr
          have HE4 := hide hpe
          have HR4 := hide hpr
          clear hpe hpr hall hqq HPE HPR kx
          go_wp2
          go_ret2
          rw [HE4.out, HR4.out]
          exact ⟨none, 0, rfl, Reads.none_, hB01⟩
      · have hpe := HPE.out
        rw [hall] at hpe
        have hpe : PE = 1 := by simpa using hpe
        have hpr := HPR.out
        rw [hpe, if_neg (by omega)] at hpr
        have HE4 := hide hpe
        have HR4 := hide hpr
        clear hpe hpr hall HPE HPR kx
        go_wp2
        go_ret2
        rw [HE4.out, HR4.out]
        exact ⟨none, 0, rfl, Reads.none_, hB01⟩
    · have hpe : PE = 1 := by rw [← HPE0.out]; simp [locE, hq2]
      have hpr := HPR0.out
      rw [hpe, if_neg (by omega)] at hpr
      have HE4 := hide hpe
      have HR4 := hide hpr
      have z200 : decide ((200 : Int) < (q : Int)) = true := by simp; omega
      clear hpe hpr
      go_wp2_with (go_at_call 69; refine HSL.out.mono ?_; rintro e w' ⟨rfl, rfl⟩)
      go_ret2
      rw [HE4.out, HR4.out]
      exact ⟨none, 0, rfl, Reads.none_, hB0⟩
end Go.Proofs.Ytblepaocekojbaa
