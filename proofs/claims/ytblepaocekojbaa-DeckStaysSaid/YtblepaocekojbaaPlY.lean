/-
  A row of places that the reference makes whole and fills one by one.
  The walk of the reference's Placed.
-/
import Derived.Test.YtblepaocekojbaaPlB
namespace Go.Proofs.Ytblepaocekojbaa

section
open Go.RowKit Go.Shelf Go.Deep
set_option linter.unusedVariables false

/-- Cell i of a row of places. -/
def plC (L : Nat → Pl) (i : Nat) : Value := if i % 2 = 0 then .int .i64 (L (i / 2)).m else .int .i64 (L (i / 2)).s
theorem plC_even (L : Nat → Pl) (t : Nat) : plC L (t * 2) = .int .i64 (L t).m := by
  unfold plC; rw [if_pos (by omega), show t * 2 / 2 = t by omega]
theorem plC_odd (L : Nat → Pl) (t : Nat) : plC L (t * 2 + 1) = .int .i64 (L t).s := by
  unfold plC; rw [if_neg (by omega), show (t * 2 + 1) / 2 = t by omega]
theorem infoRPlace_dk : (Try.prog.info? 67).map (fun i => (i.zero, i.size, i.bytes)) = some (some (.agg #[.int .i64 0, .int .i64 0]), 2, 16) := by kernel_rfl
theorem made_pl (w : World) (n : Nat) (t : TypeId) : (w.alloc (.cells (madeCells #[.int .i64 0, .int .i64 0] (n * 2)) t)).rowIs w.heap.size t (n * 2) (plC fun _ => ⟨0, 0⟩) :=
  ⟨_, blk_alloc_new _ _, size_madeCells _ _, fun i hi => by
    have h2 : plC (fun _ => ⟨0, 0⟩) i = .int .i64 0 := by unfold plC; split <;> rfl
    rw [h2]
    rcases Nat.mod_two_eq_zero_or_one i with h | h <;> simp [madeCells, hi, h]⟩
theorem run_make_pl (n : Nat) (hn : n ≤ 1000000) (w : World) :
    (Instr.makeSlice 43 (.int .i64 (n : Int)) (.int .i64 (n : Int))).run Try.prog w = .ok (.slice (some ⟨w.heap.size, 0, none⟩) n n) (w.alloc (.cells (madeCells #[.int .i64 0, .int .i64 0] (n * 2)) 67)) := by
  obtain ⟨i0, hi, hz0, hz1, hz2⟩ := info_parts infoRPlace_dk
  have hr := run_make (P := Try.prog) w 43 67 i0 _ Try.underlying43 hi hz0 .i64 .i64 n n (by omega) (Int.le_refl _) (by rw [hz2]; omega) (by omega)
  simp only [Int.toNat_natCast, hz1] at hr
  exact hr
/-- A place is stored. -/
theorem plC_set {w : World} {b N : Nat} {t : TypeId} {L L' : Nat → Pl} {k : Nat} (h : w.rowIs b t N (plC L)) (p : Pl) (hL : ∀ i, L' i = if i = k then p else L i) :
    ((w.setCell ⟨b, k * 2, none⟩ (.int .i64 p.m)).setCell ⟨b, k * 2 + 1, none⟩ (.int .i64 p.s)).rowIs b t N (plC L') :=
  ((h.set (k * 2) _).set (k * 2 + 1) _).congr fun i _ => by
    by_cases e1 : i = k * 2 + 1
    · subst e1
      rw [if_pos rfl, plC_odd, hL, if_pos rfl]
    · rw [if_neg e1]
      by_cases e2 : i = k * 2
      · subst e2
        rw [if_pos rfl, plC_even, hL, if_pos rfl]
      · rw [if_neg e2]
        unfold plC
        rw [hL, if_neg (show ¬ i / 2 = k by omega)]
theorem plC_reads {w : World} {b n : Nat} {t : TypeId} {L : Nat → Pl} (h : w.rowIs b t (n * 2) (plC L)) : Reads w w.heap.size 2 (some ⟨b, 0, none⟩) n (((List.range n).map L).flatMap encPl) := by
  refine ⟨by rw [flat_length (enc := encPl) (k := 2) encPl_len]; simp, fun _ => ⟨b, 0, rfl, h.lt, fun i u hu => ?_⟩⟩
  rw [Nat.zero_add]
  have hlen : i < n * 2 := by
    have := (List.getElem?_eq_some_iff.1 hu).1
    rw [flat_length (enc := encPl) (k := 2) encPl_len] at this
    simpa using this
  rw [h.cell hlen]
  have hk : ((List.range n).map L)[i / 2]? = some (L (i / 2)) := by
    rw [List.getElem?_map, List.getElem?_range (by omega)]; rfl
  have hg := flat_get (enc := encPl) (k := 2) encPl_len ((List.range n).map L) (i / 2) (i % 2) _ hk (by omega)
  rw [show i / 2 * 2 + i % 2 = i by omega, hu] at hg
  rw [hg]
  unfold plC
  rcases Nat.mod_two_eq_zero_or_one i with h | h <;> rw [h] <;> simp [encPl]
/-- What out holds when group j stands at task k. -/
def outL (g : Gr) (gs : List Int) (n : Nat) (ss : List Int) (j k t : Nat) : Pl :=
  if natA gs (natA g.ops t) < j ∨ (natA gs (natA g.ops t) = j ∧ t < k) then plcF g gs n ss t else ⟨0, 0⟩
theorem outL_zero (g : Gr) (gs : List Int) (n : Nat) (ss : List Int) (t : Nat) : outL g gs n ss 0 0 t = ⟨0, 0⟩ := by
  unfold outL
  rw [if_neg]
  rintro (h | h) <;> omega
theorem outL_hit {g : Gr} {gs : List Int} {n : Nat} {ss : List Int} {j k : Nat} (h : natA gs (natA g.ops k) = j) (i : Nat) : outL g gs n ss j (k + 1) i = if i = k then plcF g gs n ss k else outL g gs n ss j k i := by
  by_cases e : i = k
  · subst e
    unfold outL
    rw [if_pos (.inr ⟨h, by omega⟩), if_pos rfl]
  · rw [if_neg e]
    unfold outL
    have : (natA gs (natA g.ops i) < j ∨ natA gs (natA g.ops i) = j ∧ i < k + 1) ↔ (natA gs (natA g.ops i) < j ∨ natA gs (natA g.ops i) = j ∧ i < k) := by omega
    simp only [this]
theorem outL_miss {g : Gr} {gs : List Int} {n : Nat} {ss : List Int} {j k : Nat} (h : ¬ natA gs (natA g.ops k) = j) : outL g gs n ss j (k + 1) = outL g gs n ss j k := by
  funext i
  unfold outL
  have : (natA gs (natA g.ops i) < j ∨ natA gs (natA g.ops i) = j ∧ i < k + 1) ↔ (natA gs (natA g.ops i) < j ∨ natA gs (natA g.ops i) = j ∧ i < k) := by
    by_cases e : i = k
    · subst e; omega
    · omega
  simp only [this]
theorem outL_next {g : Gr} {gs : List Int} {n : Nat} {ss : List Int} {j k t : Nat} (h : t < k) : outL g gs n ss j k t = outL g gs n ss (j + 1) 0 t := by
  unfold outL
  have : (natA gs (natA g.ops t) < j ∨ natA gs (natA g.ops t) = j ∧ t < k) ↔ (natA gs (natA g.ops t) < j + 1 ∨ natA gs (natA g.ops t) = j + 1 ∧ t < 0) := by omega
  simp only [this]
theorem outL_all {g : Gr} {gs : List Int} {n : Nat} {ss : List Int} {j t : Nat} (h : natA gs (natA g.ops t) < j) : outL g gs n ss j 0 t = plcF g gs n ss t := by
  unfold outL
  rw [if_pos (.inl h)]
/-- How many places of group j operator o has got when task t comes. -/
def nxF (g : Gr) (gs : List Int) (j t o : Nat) : Nat := if natA gs o = j then cntO (natA g.ops) t o else 0
theorem nxF_zero (g : Gr) (gs : List Int) (j o : Nat) : nxF g gs j 0 o = 0 := by unfold nxF; split <;> rfl
theorem nxF_hit {g : Gr} {gs : List Int} {j t : Nat} (h : natA gs (natA g.ops t) = j) (i : Nat) : nxF g gs j (t + 1) i = if i = natA g.ops t then nxF g gs j t i + 1 else nxF g gs j t i := by
  unfold nxF
  by_cases e : i = natA g.ops t
  · subst e
    rw [if_pos h, if_pos rfl, if_pos h, cntO_succ, if_pos rfl]
  · have e2 : ¬ natA g.ops t = i := fun h => e h.symm
    rw [if_neg e, cntO_succ, if_neg e2]
theorem nxF_miss {g : Gr} {gs : List Int} {j t : Nat} (h : ¬ natA gs (natA g.ops t) = j) (i : Nat) : nxF g gs j (t + 1) i = nxF g gs j t i := by
  unfold nxF
  by_cases e : i = natA g.ops t
  · subst e; rw [if_neg h, if_neg h]
  · have e2 : ¬ natA g.ops t = i := fun h => e h.symm
    rw [cntO_succ, if_neg e2]
theorem nxF_at {g : Gr} {gs : List Int} {j t : Nat} (h : natA gs (natA g.ops t) = j) : nxF g gs j t (natA g.ops t) = cntO (natA g.ops) t (natA g.ops t) := by unfold nxF; rw [if_pos h]
theorem outL_list {g : Gr} {gs : List Int} {n : Nat} {ss : List Int} {j k : Nat} (h : ∀ t, t < k → natA gs (natA g.ops t) < j) : (List.range k).map (outL g gs n ss j 0) = plcL g gs n ss k := by
  unfold plcL
  refine List.map_congr_left fun t ht => ?_
  rw [List.mem_range] at ht
  exact outL_all (h t ht)
end

section
open Go.RowKit Go.Shelf Go.Maps Go.Deep
attribute [local go_sem] Oper.semAt_some
set_option linter.unusedVariables false

set_option maxRecDepth 100000 in
set_option maxHeartbeats 8000000 in
theorem RPlaced_any (g : Gr) (A : Option Addr) (m c : Nat) (gs : List Int) (A2 : Option Addr) (n c2 : Nat) (ss : List Int) (w : World) (hg : g.Ok w w.heap.size) (hx : Reads w w.heap.size 1 A m (gs.map (Value.int .i64))) (hs : Reads w w.heap.size 1 A2 n (ss.map (Value.int .i64))) (hn : g.n1 ≤ 4611686018427387904) (hm : g.n2 ≤ 4611686018427387904) (hmm : m ≤ 1000000) (hnn : n ≤ 1000000) :
    Calls Try.prog 37 #[.agg #[g.v1, g.v2], .slice A m c, .slice A2 n c2] w (RetSlE w 2 (plcR g m gs n ss).length ((plcR g m gs n ss).flatMap encPl) (plcE g m gs n ss)) := by
  have hB0 : Below w.heap.size w (w.alloc (.cells #[g.v1, g.v2] 25)) := (Below.refl _ _).alloc (Nat.le_refl _) _
  have k0 := Blk.new w 25 #[g.v1, g.v2]
  have hg0 := hg.up hB0
  have hx0 := hx.up hB0
  have HV := hide (RValid_any g _ hg0 hn hm)
  have hwl : w.heap.size < (w.alloc (.cells #[g.v1, g.v2] 25)).heap.size := by simp
  have c1 : (w.alloc (.cells #[g.v1, g.v2] 25)).cell? ⟨w.heap.size, 0, none⟩ = some (.slice g.a1 g.n1 g.c1) := by simp [Gr.v1]
  have c2' : (w.alloc (.cells #[g.v1, g.v2] 25)).cell? ⟨w.heap.size, 1, none⟩ = some (.slice g.a2 g.n2 g.c2) := by simp [Gr.v2]
  obtain ⟨W, hW⟩ : ∃ W, w.alloc (.cells #[g.v1, g.v2] 25) = W := ⟨_, rfl⟩
  rw [hW] at hB0 k0 hg0 hx0 HV hwl c1 c2'
  cases hv : validB g
  · have he : plcE g m gs n ss = 1 := by simp [plcE, hv]
    rw [plcR_bad (by omega), he]
    rw [hv] at HV
    clear hv he
    go_enter Try.func37, Try.ntmps37
    go_wp2_with fail
    refine HV.out.mono ?_
    rintro e W1 ⟨rfl, hB1⟩
    have HB := hide (bstep hB0 hB1)
    clear hB0 hB1 HV
    go_wp2
    go_ret2
    exact ⟨none, 0, rfl, Reads.none_, HB.out⟩
  · cases hsl : slotB n ss
    · have he : plcE g m gs n ss = 1 := by simp [plcE, hsl]
      rw [plcR_bad (by omega), he]
      rw [hv] at HV
      clear hv he
      go_enter Try.func37, Try.ntmps37
      go_wp2_with fail
      refine HV.out.mono ?_
      rintro e W1 ⟨rfl, hB1⟩
      have HSL := hide (slotted_any A2 n c2 _ ss W1 (hs.up (bstep hB0 hB1)) (by omega))
      rw [hsl] at HSL
      have HB := hide (bstep hB0 hB1)
      clear hsl hB0 hB1 HV c1 c2'
      go_wp2_with (go_at_call 70; refine HSL.out.mono ?_; rintro e w' ⟨rfl, rfl⟩)
      go_ret2
      exact ⟨none, 0, rfl, Reads.none_, HB.out⟩
    · obtain ⟨E, hE⟩ : ∃ E, errG g m gs = E := ⟨_, rfl⟩
      by_cases h0 : E = 0
      · subst h0
        have hk := GrpOk.mk' hg hx hE
        have hvl : leastV g m gs = (needG g gs : Int) := by unfold leastV; rw [if_pos hE]
        obtain ⟨PR, hPR⟩ : ∃ PR, plcR g m gs n ss = PR := ⟨_, rfl⟩
        obtain ⟨PE, hPE⟩ : ∃ PE, plcE g m gs n ss = PE := ⟨_, rfl⟩
        rw [hPR, hPE]
        have HPE := hide (show PE = if offW (natA ss) n < needG g gs then 4 else 0 by rw [← hPE]; simp [plcE, hsl, hv, hE])
        have HPR := hide (show PR = if PE = 0 then plcL g gs n ss g.n1 else [] by rw [← hPR, ← hPE]; rfl)
        have HK := hide hk
        have HO := hide (OpsOk.of hg hv)
        have hso := slot_ok hsl hs
        have HSO := hide (fun k hk => hso.2.2 k hk)
        have hn1 := hso.1
        have hn20 := hso.2.1
        have hnl := needG_le g gs hk.n2
        have hob : ∀ k, k ≤ n → offW (natA ss) k ≤ 320 := fun k hk => Nat.le_trans (offW_bound (M := 16) fun i hi => (HSO.out i (by omega)).2) (by omega)
        have HOB := hide hob
        have HND := hide (show needG g gs = offW (widO (natA g.ops) (natA gs) g.n1) 200 from rfl)
        obtain ⟨S, hS⟩ : ∃ S, natA ss = S := ⟨_, rfl⟩
        have HS := hide hS
        rw [hS] at HPE HSO HOB
        have hw3 := fun j => widO_le_k (natA g.ops) (natA gs) g.n1 j
        obtain ⟨nd, hnd⟩ : ∃ nd, needG g gs = nd := ⟨_, rfl⟩
        rw [hnd] at HPE HND hvl hnl
        obtain ⟨i0, hi, hz0, hz1, hz2⟩ := info_parts infoRPlace_dk
        have hmx : mxN (natA g.ops) g.n1 = m := (errG_zero hE).2.1.symm
        have HMX := hide hmx
        have hmkp := fun W => run_make_pl g.n1 (by have := hk.n2; omega) W
        have hm200 : m ≤ 200 := hk.m2
        have hmk2 := fun W => run_make_row' (P := Try.prog) 22 3 (.int .i64 0) 8 Try.underlying22 infoInt_dk rfl .i64 .i64 m (by omega) (by omega) W
        clear hmx
        have hmk := fun W => run_make_row' (P := Try.prog) 22 3 (.int .i64 0) 8 Try.underlying22 infoInt_dk rfl .i64 .i64 n (by omega) (by omega) W
        rw [hv] at HV
        clear hv hPR hPE hso hob hnd hS
        go_enter Try.func37, Try.ntmps37
        go_wp2_with fail
        refine HV.out.mono ?_
        rintro e W1 ⟨rfl, hB1⟩
        have HSL := hide (slotted_any A2 n c2 _ ss W1 (hs.up (bstep hB0 hB1)) (by omega))
        rw [hsl] at HSL
        have hB01 := bstep hB0 hB1
        have HLE := hide (RLeast_any g A m c gs W1 (hg0.up hB1) (hx0.up hB1) hn hm hmm)
        rw [hE, hvl] at HLE
        have k1 := k0.below hB1 hwl
        have hwl1 : w.heap.size < W1.heap.size := Nat.lt_of_lt_of_le hwl hB1.size
        have d1 := k1.cell 0
        have d2 := k1.cell 1
        simp [Gr.v1, Gr.v2] at d1 d2
        clear hsl hB0 hB1 HV c1 c2' hE hvl k0 hwl hg0 hx0 hW
        go_wp2_with (go_at_call 70; refine HSL.out.mono ?_; rintro e w' ⟨rfl, rfl⟩)
        refine HLE.out.mono ?_
        rintro e W2 ⟨rfl, hB2⟩
        have hB02 := bstep hB01 hB2
        have k2 := k1.below hB2 hwl1
        have hwl2 : w.heap.size < W2.heap.size := Nat.lt_of_lt_of_le hwl1 hB2.size
        clear hB01 hB2 HLE HSL d1 d2 k1 hwl1
        go_wp2_with fail
        go_loop [10, 11] (fun v i => ∃ k : Nat, k ≤ n ∧ i = .int .i64 k ∧ v = .int .i64 ((offW S k : Nat) : Int)) (fun _ i => n - (intOf i).toNat)
        case atStart => exact ⟨0, Nat.zero_le _, rfl, rfl⟩
        case round =>
          obtain ⟨k, hkk, rfl, rfl⟩ := hrel
          by_cases hlt : k < n
          · obtain ⟨b, off, x, hA, hb, hxk, hc⟩ := (hs.below hB02).at1 hlt
            have h1 := HSO.out k hlt
            have h2 := HS.out ▸ h1.1
            rw [hxk] at h1
            have h3 := h1.1
            injection h3 with h3
            have h4 := h1.2
            subst h3
            have e0 : W2.cell? ⟨b, off + k, none⟩ = some (.int .i64 ((S k : Nat) : Int)) := hc
            have HA := hide hA
            rw [hA]
            have HSU := hide (offW_succ S k)
            have ho1 := HOB.out (k + 1) (by omega)
            rw [HSU.out] at ho1
            obtain ⟨sv, hsv⟩ : ∃ sv, S k = sv := ⟨_, rfl⟩
            obtain ⟨ov, hov⟩ : ∃ ov, offW S k = ov := ⟨_, rfl⟩
            rw [hsv] at e0 HSU ho1 h4
            rw [hov] at HSU ho1 ⊢
            clear hsv hov h1 h2 hxk hc hA
            have q1 : (0 : Int) ≤ (k : Int) := by omega
            have q2 : (k : Int) < (n : Int) := by omega
            go_wp2
            go_round
            case rel => exact ⟨k + 1, by omega, by go_num, by rw [HSU.out]; go_num⟩
            case measure => simp [intOf]; omega
          · obtain rfl : n = k := by omega
            by_cases hall : offW S n < nd
            · have z : decide (((offW S n : Nat) : Int) < (nd : Int)) = true := by simp; omega
              have hpe := HPE.out
              rw [if_pos hall] at hpe
              have hpr := HPR.out
              rw [hpe, if_neg (by omega)] at hpr
              have HE4 := hide hpe
              have HR4 := hide hpr
              clear hpe hpr
              go_wp2
              go_ret2
              rw [HE4.out, HR4.out]
              exact ⟨none, 0, rfl, Reads.none_, hB02⟩
            · have z : decide (((offW S n : Nat) : Int) < (nd : Int)) = false := by simp; omega
              have hpe := HPE.out
              rw [if_neg hall] at hpe
              have hpr := HPR.out
              rw [if_pos hpe] at hpr
              have HE0 := hide hpe
              have HR0 := hide hpr
              clear hpe hpr HPE HPR
              obtain ⟨WW, hWW⟩ : ∃ WW, widO (natA g.ops) (natA gs) g.n1 = WW := ⟨_, rfl⟩
              have HWW := hide hWW
              rw [hWW] at HND
              simp only [hWW] at hw3
              have hi40 : ∀ j s, j < 200 → s < WW j → offW WW j + s < nd := fun j s hj hs => by
                have h1 := offW_mono WW (show j + 1 ≤ 200 from hj)
                rw [offW_succ] at h1
                have := HND.out
                omega
              have HI := hide hi40
              have hn2 := hk.n2
              clear hWW hi40 hk
              have HNE := hide (fun (j : Nat) W (hB : Below w.heap.size w W) => needs_any g A m c gs j W (hg.up hB) (hx.up hB) HK.out HO.out HMX.out)
              have r0 := World.rowIs_made W2 (.int .i64 0) n 3
              have r1 := r0.alloc (.cells (madeCells #[.int .i64 0, .int .i64 0] (g.n1 * 2)) 67)
              have rO := made_pl (W2.alloc (.cells (madeCells #[.int .i64 0] n) 3)) g.n1 67
              have k3 := k2.alloc (.cells (madeCells #[.int .i64 0] n) 3)
              have k4 := k3.alloc (.cells (madeCells #[.int .i64 0, .int .i64 0] (g.n1 * 2)) 67)
              have hB4 := (hB02.alloc (by omega) (.cells (madeCells #[.int .i64 0] n) 3)).alloc (by simp; omega) (.cells (madeCells #[.int .i64 0, .int .i64 0] (g.n1 * 2)) 67)
              have e0 := k3.cell 0
              simp [Gr.v1] at e0
              have hsz4 : ((W2.alloc (.cells (madeCells #[.int .i64 0] n) 3)).alloc (.cells (madeCells #[.int .i64 0, .int .i64 0] (g.n1 * 2)) 67)).heap.size = W2.heap.size + 1 + 1 := by simp
              simp only [World.size_alloc] at rO
              clear r0 k2 k3
              go_wp2_with fail
              clear e0
              obtain ⟨W4, hW4⟩ : ∃ W4, (W2.alloc (.cells (madeCells #[.int .i64 0] n) 3)).alloc (.cells (madeCells #[.int .i64 0, .int .i64 0] (g.n1 * 2)) 67) = W4 := ⟨_, rfl⟩
              rw [hW4] at r1 rO k4 hB4 hsz4 ⊢
              clear hW4 hmk hmkp
              obtain ⟨bU, hbU⟩ : ∃ bU, W2.heap.size = bU := ⟨_, rfl⟩
              obtain ⟨bO, hbO⟩ : ∃ bO, W2.heap.size + 1 = bO := ⟨_, rfl⟩
              obtain ⟨bB, hbB⟩ : ∃ bB, W2.heap.size + 1 + 1 = bB := ⟨_, rfl⟩
              rw [hbB] at hsz4
              rw [hbO] at rO ⊢
              rw [hbU] at r1 hwl2 ⊢
              have x1 : bU < bB := by omega
              have x2 : bO < bB := by omega
              have x3 : bU ≠ bO := by omega
              have x4 : w.heap.size < bO := by omega
              have x5 : bB ≤ W4.heap.size := by omega
              clear hbU hbO hbB hsz4 hB02
              have r2 : W4.rowIs bU 3 n (fun i => .int .i64 ((usedS S n (offW WW 0) i : Nat) : Int)) := r1
              have rO2 : W4.rowIs bO 67 (g.n1 * 2) (plC (outL g gs n ss 0 0)) := rO.congr fun i _ => by
                unfold plC; rw [outL_zero]
              clear r1 rO
              go_loopw [14, 15, 16, 17, 18, 19, 20, 21] (fun i _ _ _ _ _ _ _ wr => ∃ j : Nat, j ≤ 200 ∧ i = .int .i64 j ∧ wr.rowIs bU 3 n (fun i => .int .i64 ((usedS S n (offW WW j) i : Nat) : Int)) ∧ wr.rowIs bO 67 (g.n1 * 2) (plC (outL g gs n ss j 0)) ∧ Blk wr w.heap.size 25 #[g.v1, g.v2] ∧ bB ≤ wr.heap.size ∧ Below w.heap.size w wr) (fun i _ _ _ _ _ _ _ _ => 200 - (intOf i).toNat)
              case atStart => exact ⟨0, Nat.zero_le _, rfl, r2, rO2, k4, x5, hB4⟩
              case round =>
                clear r2 rO2 k4 x5 hB4
                obtain ⟨j, hj, rfl, rU, rO, kb, x6, hB⟩ := hrel
                by_cases hlt : j < 200
                · have hwj := hw3 j
                  have q1 : (j : Int) < 200 := by omega
                  obtain ⟨wj, hwjj⟩ : ∃ wj, WW j = wj := ⟨_, rfl⟩
                  have HWJ := hide hwjj
                  rw [hwjj] at hwj
                  clear hwjj
                  go_wp2_with fail
                  have rU0 : wr.rowIs bU 3 n (fun i => .int .i64 ((usedS S n (offW WW j + 0) i : Nat) : Int)) := rU
                  have ow0 : wr.ownsRow bB 67 2 (.slice none 0 0) 0 [] := World.ownsRow_nil _ _ _ _
                  clear rU
                  go_loopw [15, 16, 17, 18] (fun v i _ _ wr => ∃ s : Nat, s ≤ wj ∧ i = .int .i64 s ∧ wr.rowIs bU 3 n (fun i => .int .i64 ((usedS S n (offW WW j + s) i : Nat) : Int)) ∧ wr.rowIs bO 67 (g.n1 * 2) (plC (outL g gs n ss j 0)) ∧ wr.ownsRow bB 67 2 v s ((rwP S n WW j s).flatMap encPl) ∧ Blk wr w.heap.size 25 #[g.v1, g.v2] ∧ bB ≤ wr.heap.size ∧ Below w.heap.size w wr) (fun _ i _ _ _ => wj - (intOf i).toNat)
                  case atStart => exact ⟨0, Nat.zero_le _, rfl, rU0, rO, ow0, kb, x6, hB⟩
                  case round =>
                    clear rU0 rO ow0 kb x6 hB
                    obtain ⟨s, hsj, rfl, rU, rO, hown, kb, x6, hB⟩ := hrel
                    have HN := hide (HNE.out j wr hB)
                    rw [HWW.out, HWJ.out] at HN
                    have e0 := kb.cell 0
                    have e1 := kb.cell 1
                    simp [Gr.v1, Gr.v2] at e0 e1
                    go_wp2_with fail
                    refine HN.out.mono ?_
                    rintro e W3 ⟨rfl, hB3⟩
                    have rU3 := rU.of_block (hB3.block bU (by omega))
                    have rO3 := rO.of_block (hB3.block bO (by omega))
                    have ow3 := own_below hown hB3
                    have k3 := kb.below hB3 (by omega)
                    have s3 : bB ≤ W3.heap.size := Nat.le_trans x6 hB3.size
                    have hB03 := bstep hB hB3
                    clear rU rO hown kb x6 hB hB3 e0 e1 HN
                    by_cases hlts : s < wj
                    · have hi40 := HI.out j s hlt (by rw [HWJ.out]; exact hlts)
                      obtain ⟨i, hii⟩ : ∃ i, offW WW j + s = i := ⟨_, rfl⟩
                      have HII := hide hii
                      rw [hii] at hi40
                      simp only [hii] at rU3
                      clear hii
                      have rU := rU3
                      have hB := hB03
                      go_wp2_with fail
                      go_loopw [17, 18] (fun b k' wr' => ∃ k q : Nat, 1 ≤ k ∧ k ≤ n ∧ k' = .int .i64 k ∧ b = .int .i64 ((bestM S (usedS S n i) k : Nat) : Int) ∧ wr' = W3.drewN q) (fun _ i _ => n - (intOf i).toNat)
                      case atStart => exact ⟨1, 0, by omega, hn1, rfl, by rw [bestM_one]; rfl, rfl⟩
                      case round =>
                        obtain ⟨k, q, hk1, hkn, rfl, rfl, rfl⟩ := hrel
                        by_cases hltk : k < n
                        · have hbm : bestM S (usedS S n i) k < n := Nat.lt_trans (bestM_lt S _ (by omega)) hltk
                          have HBN := hide (bestM_succ S (usedS S n i) k)
                          obtain ⟨bm, hbmm⟩ : ∃ bm, bestM S (usedS S n i) k = bm := ⟨_, rfl⟩
                          rw [hbmm] at hbm HBN ⊢
                          obtain ⟨b, off, x, hA, hb, hxk, hc⟩ := (hs.below hB).at1 hltk
                          obtain ⟨b', off', y, hA', hb', hyk, hc'⟩ := (hs.below hB).at1 hbm
                          have h1 := (HSO.out k hltk).1
                          have h2 := (HSO.out bm hbm).1
                          have h3 := (HSO.out k hltk).2
                          have h4 := (HSO.out bm hbm).2
                          rw [hxk] at h1
                          rw [hyk] at h2
                          injection h1 with h1
                          injection h2 with h2
                          subst h1 h2
                          rw [hA] at hA'
                          injection hA' with hA'
                          injection hA' with hA1 hA2
                          subst hA1 hA2
                          have u1 := rU.cell hltk
                          have u2 := rU.cell hbm
                          have u3 := usedS_le S n i k
                          have u4 := usedS_le S n i bm
                          have f0 : W3.cell? ⟨b, off + k, none⟩ = some (.int .i64 ((S k : Nat) : Int)) := hc
                          have f1 : W3.cell? ⟨b, off + bm, none⟩ = some (.int .i64 ((S bm : Nat) : Int)) := hc'
                          have f2 : W3.cell? ⟨bU, k, none⟩ = some (.int .i64 ((usedS S n i k : Nat) : Int)) := u1
                          have f3 : W3.cell? ⟨bU, bm, none⟩ = some (.int .i64 ((usedS S n i bm : Nat) : Int)) := u2
                          clear hc hc' u1 u2 hxk hyk hbmm
                          obtain ⟨a1, ha1⟩ : ∃ a1, S k = a1 := ⟨_, rfl⟩
                          obtain ⟨a2, ha2⟩ : ∃ a2, S bm = a2 := ⟨_, rfl⟩
                          obtain ⟨a3, ha3⟩ : ∃ a3, usedS S n i k = a3 := ⟨_, rfl⟩
                          obtain ⟨a4, ha4⟩ : ∃ a4, usedS S n i bm = a4 := ⟨_, rfl⟩
                          rw [ha1] at f0 h3 HBN
                          rw [ha2] at f1 h4 HBN
                          rw [ha3] at f2 u3 HBN
                          rw [ha4] at f3 u4 HBN
                          have HA := hide hA
                          rw [hA]
                          clear ha1 ha2 ha3 ha4 hA
                          have w1 : IntKind.i64.wrap ((a1 : Int) - (a3 : Int)) = (a1 : Int) - (a3 : Int) := by rw [IntKind.wrap_i64]; omega
                          have w2 : IntKind.i64.wrap ((a2 : Int) - (a4 : Int)) = (a2 : Int) - (a4 : Int) := by rw [IntKind.wrap_i64]; omega
                          have q3 : (0 : Int) ≤ (k : Int) := by omega
                          have q4 : (k : Int) < (n : Int) := by omega
                          have q5 : (0 : Int) ≤ (bm : Int) := by omega
                          have q6 : (bm : Int) < (n : Int) := by omega
                          by_cases hgt : (a2 : Int) - (a4 : Int) < (a1 : Int) - (a3 : Int)
                          · have z : decide ((a2 : Int) - (a4 : Int) < (a1 : Int) - (a3 : Int)) = true := by simpa using hgt
                            have HN := hide (show bestM S (usedS S n i) (k + 1) = k by rw [HBN.out, if_pos hgt])
                            clear HBN hgt
                            go_wp2_with fail
                            go_quiet (fail)
                            go_wp2
                            go_roundw
                            case rel => exact ⟨k + 1, _, by omega, by omega, by go_num, by rw [HN.out], rfl⟩
                            case measure => simp [intOf]; omega
                          · have z : decide ((a2 : Int) - (a4 : Int) < (a1 : Int) - (a3 : Int)) = false := by simpa using hgt
                            have HN := hide (show bestM S (usedS S n i) (k + 1) = bm by rw [HBN.out, if_neg hgt])
                            clear HBN hgt
                            go_wp2_with fail
                            go_quiet (fail)
                            go_wp2
                            go_roundw
                            case rel => exact ⟨k + 1, _, by omega, by omega, by go_num, by rw [HN.out], rfl⟩
                            case measure => simp [intOf]; omega
                        · obtain rfl : n = k := by omega
                          have hbb : pickS S n i < n := bestM_lt S _ (by omega)
                          have hnw : encPl (plP S n (offW WW j + s)) = [.int .i64 ((pickS S n i : Nat) : Int), .int .i64 ((usedS S n i (pickS S n i) : Nat) : Int)] := by rw [HII.out]; rfl
                          have hus := fun a => usedS_succ S n i a
                          have hui := usedS_le S n i (pickS S n i)
                          have u1 := rU.cell hbb
                          rw [show bestM S (usedS S n i) n = pickS S n i from rfl]
                          obtain ⟨bb, hbbb⟩ : ∃ bb, pickS S n i = bb := ⟨_, rfl⟩
                          rw [hbbb] at hbb hnw hui u1 ⊢
                          simp only [hbbb] at hus
                          clear hbbb
                          obtain ⟨uu, huu⟩ : ∃ uu, usedS S n i bb = uu := ⟨_, rfl⟩
                          rw [huu] at hnw hui u1
                          have HUU := hide huu
                          have HUS := hide hus
                          clear huu hus
                          have HRS := hide (show (rwP S n WW j (s + 1)).flatMap encPl = (rwP S n WW j s).flatMap encPl ++ [.int .i64 (bb : Int), .int .i64 (uu : Int)] by rw [rwP_succ, List.flatMap_append, ← hnw]; simp)
                          obtain ⟨CL, hCL⟩ : ∃ CL, (rwP S n WW j s).flatMap encPl = CL := ⟨_, rfl⟩
                          have HCL := hide hCL
                          rw [hCL] at ow3 HRS
                          obtain ⟨X, hX⟩ : ∃ X, W3.drewN q = X := ⟨_, rfl⟩
                          have uX : X.cell? ⟨bU, bb, none⟩ = some (.int .i64 (uu : Int)) := by rw [← hX]; exact u1
                          have rX : X.rowIs bU 3 n (fun a => .int .i64 ((usedS S n i a : Nat) : Int)) := by rw [← hX]; exact rU.of_block rfl
                          have oX : X.rowIs bO 67 (g.n1 * 2) (plC (outL g gs n ss j 0)) := by rw [← hX]; exact rO3.of_block rfl
                          have kX : Blk X w.heap.size 25 #[g.v1, g.v2] := by rw [← hX]; exact k3
                          have sX : bB ≤ X.heap.size := by rw [← hX]; exact s3
                          have bX : Below w.heap.size w X := by rw [← hX]; exact below_drewN hB q
                          have vX : X.ownsRow bB 67 2 u15 s CL := by rw [← hX]; exact own_block ow3 (fun _ _ => rfl)
                          rw [hX]
                          clear hX u1 rU rU3 rO3 k3 s3 hB hB03 ow3 hnw hCL
                          have hrd : Reads (X.alloc (.cells #[.int .i64 (bb : Int), .int .i64 (uu : Int)] 67)) (X.heap.size + 1) 2 (some ⟨X.heap.size, 0, none⟩) 1 [.int .i64 (bb : Int), .int .i64 (uu : Int)] := by
                            refine ⟨rfl, fun _ => ⟨X.heap.size, 0, rfl, by omega, fun j u hu => ?_⟩⟩
                            rw [Nat.zero_add]
                            exact ((Blk.new X 67 #[.int .i64 (bb : Int), .int .i64 (uu : Int)]).cell j).trans (by simpa using hu)
                          have vA := vX.alloc (.cells #[.int .i64 (bb : Int), .int .i64 (uu : Int)] 67)
                          have xs : bB ≤ (X.alloc (.cells #[.int .i64 (bb : Int), .int .i64 (uu : Int)] 67)).heap.size := by simp; omega
                          have xlt : bU < (X.alloc (.cells #[.int .i64 (bb : Int), .int .i64 (uu : Int)] 67)).heap.size := by omega
                          have xlo : bO < (X.alloc (.cells #[.int .i64 (bb : Int), .int .i64 (uu : Int)] 67)).heap.size := by omega
                          have bA : Below w.heap.size w (X.alloc (.cells #[.int .i64 (bb : Int), .int .i64 (uu : Int)] 67)) := bX.alloc (by omega) _
                          have vA0 := own_mono vA (show w.heap.size ≤ bB by omega)
                          have rA := rX.alloc (.cells #[.int .i64 (bb : Int), .int .i64 (uu : Int)] 67)
                          have oA := oX.alloc (.cells #[.int .i64 (bb : Int), .int .i64 (uu : Int)] 67)
                          have kA := kX.alloc (.cells #[.int .i64 (bb : Int), .int .i64 (uu : Int)] 67)
                          have nU : some bU ≠ u15.ownBlock := fun e => by have := (vA.lt _ e.symm).1; omega
                          have nO : some bO ≠ u15.ownBlock := fun e => by have := (vA.lt _ e.symm).1; omega
                          have nB : some w.heap.size ≠ u15.ownBlock := fun e => by have := (vA.lt _ e.symm).1; omega
                          have hs400 : s + 1 ≤ 1000000 := by omega
                          have q3 : (0 : Int) ≤ (bb : Int) := by omega
                          have q4 : (bb : Int) < (n : Int) := by omega
                          have xla : w.heap.size ≤ (X.alloc (.cells #[.int .i64 (bb : Int), .int .i64 (uu : Int)] 67)).heap.size := by omega
                          go_wp2_with (at_builtin; refine wpList_append_any _ rfl _ _ 43 rfl bB 67 i0 _ 2 16 Try.underlying43 hi hz0 hz1 hz2 rfl (by decide) _ s CL rfl vA (X.heap.size + 1) (some ⟨X.heap.size, 0, none⟩) 1 1 [.int .i64 (bb : Int), .int .i64 (uu : Int)] rfl hrd (by simp [Value.oneCell']) (by unfold maxLen; omega) (by omega) xs ?_; intro v3 w3 hown3 hgrow hat; have r4 := rA.of_block (hgrow.block bU xlt nU); have u4 := r4.cell hbb; have huu4 := HUU.out; rw [huu4] at u4; have fr4 := r4.frozen bb)
                          have hB3 : Below w.heap.size w w3 := below_append bA vA0 xla hgrow
                          have hs3 : bB ≤ w3.heap.size := Nat.le_trans xs hgrow.size
                          have o4 := oA.of_block (hgrow.block bO xlo nO)
                          have k4 := kA.grown hgrow nB
                          have r6 : (w3.setCell ⟨bU, bb, none⟩ (.int .i64 ((uu : Int) + 1))).rowIs bU 3 n (fun a => .int .i64 ((usedS S n (offW WW j + (s + 1)) a : Nat) : Int)) := (r4.set bb _).congr fun a _ => by
                            have e : offW WW j + (s + 1) = i + 1 := by have := HII.out; omega
                            rw [e, HUS.out a]
                            by_cases e2 : a = bb
                            · rw [if_pos e2, if_pos e2, e2, HUU.out]; simp
                            · rw [if_neg e2, if_neg e2]
                          have o6 : (w3.setCell ⟨bU, bb, none⟩ (.int .i64 ((uu : Int) + 1))).rowIs bO 67 (g.n1 * 2) (plC (outL g gs n ss j 0)) := o4.of_block (blk_setCell_other _ _ _ _ (show bO ≠ bU from fun e => x3 e.symm))
                          have k6 : Blk (w3.setCell ⟨bU, bb, none⟩ (.int .i64 ((uu : Int) + 1))) w.heap.size 25 #[g.v1, g.v2] := k4.far (show w.heap.size ≠ bU by omega) _
                          have ow6 : (w3.setCell ⟨bU, bb, none⟩ (.int .i64 ((uu : Int) + 1))).ownsRow bB 67 2 v3 (s + 1) ((rwP S n WW j (s + 1)).flatMap encPl) := by
                            rw [HRS.out]
                            exact own_block hown3 fun gg hgg => blk_setCell_other _ _ _ _ (by have := (hown3.lt gg hgg).1; show gg ≠ bU; omega)
                          have hB6 := hB3.setCell (p := ⟨bU, bb, none⟩) (by show w.heap.size ≤ bU; omega) (.int .i64 ((uu : Int) + 1))
                          have hs6 : bB ≤ (w3.setCell ⟨bU, bb, none⟩ (.int .i64 ((uu : Int) + 1))).heap.size := by rw [World.size_setCell]; exact hs3
                          have HR6 := hide r6
                          have HO6 := hide o6
                          have HK6 := hide k6
                          have HW6 := hide ow6
                          clear hB3 r4 o4 k4 hgrow hat hown3 r6 o6 k6 ow6 huu4 bA vA0 vA rA oA kA hrd uX rX oX kX sX bX vX hs3 u4 fr4
                          go_wp2
                          go_roundw
                          case rel => exact ⟨s + 1, by omega, by go_num, HR6.out, HO6.out, HW6.out, HK6.out, hs6, hB6⟩
                          case measure => simp [intOf]; omega
                    · obtain rfl : wj = s := by omega
                      have rUn : W3.rowIs bU 3 n (fun i => .int .i64 ((usedS S n (offW WW (j + 1)) i : Nat) : Int)) := by
                        rw [offW_succ, HWJ.out]; exact rU3
                      obtain ⟨A', c', rfl, hRp⟩ := own_form ow3
                      have rN0 := World.rowIs_made W3 (.int .i64 0) m 3
                      have rU5 := rUn.alloc (.cells (madeCells #[.int .i64 0] m) 3)
                      have rO5 := rO3.alloc (.cells (madeCells #[.int .i64 0] m) 3)
                      have ow5 := ow3.alloc (.cells (madeCells #[.int .i64 0] m) 3)
                      have k5 := k3.alloc (.cells (madeCells #[.int .i64 0] m) 3)
                      have hB5 := hB03.alloc (by omega) (.cells (madeCells #[.int .i64 0] m) 3)
                      have hvN : (Value.slice A' wj c').ownBlock ≠ some W3.heap.size := fun e => by
                        have := (ow3.lt _ e).2; omega
                      have hsN : W3.heap.size < (W3.alloc (.cells (madeCells #[.int .i64 0] m) 3)).heap.size := by simp
                      clear rU3 rUn rO3 ow3 k3 hB03 hRp
                      go_wp2_with fail
                      obtain ⟨W5, hW5⟩ : ∃ W5, W3.alloc (.cells (madeCells #[.int .i64 0] m) 3) = W5 := ⟨_, rfl⟩
                      rw [hW5] at rN0 rU5 rO5 ow5 k5 hB5 hsN ⊢
                      obtain ⟨bN, hbN⟩ : ∃ bN, W3.heap.size = bN := ⟨_, rfl⟩
                      rw [hbN] at rN0 hvN hsN s3 ⊢
                      clear hW5 hbN
                      have rN : W5.rowIs bN 3 m (fun o => .int .i64 ((nxF g gs j 0 o : Nat) : Int)) := rN0.congr fun o _ => by rw [nxF_zero]; rfl
                      clear rN0
                      go_loopw [20, 21] (fun i _ wr => ∃ t : Nat, t ≤ g.n1 ∧ i = .int .i64 t ∧ wr.rowIs bN 3 m (fun o => .int .i64 ((nxF g gs j t o : Nat) : Int)) ∧ wr.rowIs bU 3 n (fun i => .int .i64 ((usedS S n (offW WW (j + 1)) i : Nat) : Int)) ∧ wr.rowIs bO 67 (g.n1 * 2) (plC (outL g gs n ss j t)) ∧ wr.ownsRow bB 67 2 (.slice A' wj c') wj ((rwP S n WW j wj).flatMap encPl) ∧ Blk wr w.heap.size 25 #[g.v1, g.v2] ∧ bN < wr.heap.size ∧ Below w.heap.size w wr) (fun i _ _ => g.n1 - (intOf i).toNat)
                      case atStart => exact ⟨0, Nat.zero_le _, rfl, rN, rU5, rO5, ow5, k5, hsN, hB5⟩
                      case round =>
                        clear rN rU5 rO5 ow5 k5 hsN hB5
                        obtain ⟨t, htn, rfl, rN, rU, rO, hown, kb, xN, hB⟩ := hrel
                        have g0 := kb.cell 0
                        simp [Gr.v1] at g0
                        by_cases hltt : t < g.n1
                        · have hop := HO.out.op t hltt
                          have hom := HK.out.opm t hltt
                          obtain ⟨bo, oo, x, hao, hbo, hxo, hco⟩ := (hg.r1.below hB).at1 hltt
                          rw [hxo] at hop
                          injection hop with hop
                          subst hop
                          obtain ⟨o, hoo⟩ : ∃ o, natA g.ops t = o := ⟨_, rfl⟩
                          have HOO := hide hoo
                          rw [hoo] at hco hom
                          obtain ⟨bg, og, y, hag, hbg, hyg, hcg⟩ := (hx.below hB).at1 hom
                          have h2 := HK.out.gr o hom
                          rw [hyg] at h2
                          injection h2 with h2
                          subst h2
                          obtain ⟨jg, hjj⟩ : ∃ jg, natA gs o = jg := ⟨_, rfl⟩
                          have HJJ := hide hjj
                          rw [hjj] at hcg
                          have i1 : wr.cell? ⟨bg, og + o, none⟩ = some (.int .i64 (jg : Int)) := hcg
                          have ic0 : wr.cell? ⟨bo, oo + t, none⟩ = some (.int .i64 (o : Int)) := hco
                          rw [hao] at g0
                          rw [hag]
                          have HAO := hide hao
                          have HAG := hide hag
                          clear hxo hyg hco hcg hoo hjj hao hag
                          have q2 : (t : Int) < (g.n1 : Int) := by omega
                          have q3 : (0 : Int) ≤ (t : Int) := by omega
                          have q4 : (0 : Int) ≤ (o : Int) := by omega
                          have q5 : (o : Int) < (m : Int) := by omega
                          by_cases hje : jg = j
                          · have z : ((jg : Int) == (j : Int)) = true := by simp [hje]
                            have hgj : natA gs (natA g.ops t) = j := by rw [HOO.out, HJJ.out, hje]
                            have hcw : cntO (natA g.ops) t o < wj := by
                              have h5 := cnt_lt_wid (natA g.ops) (natA gs) hltt
                              rw [HWW.out, hgj, HWJ.out, HOO.out] at h5
                              exact h5
                            have hna := nxF_at hgj
                            rw [HOO.out] at hna
                            have hpf : plcF g gs n ss t = plP S n (offW WW j + cntO (natA g.ops) t o) := by unfold plcF idxT; rw [HS.out, HWW.out, hgj, HOO.out]
                            have HNH := hide (fun i => nxF_hit hgj i)
                            have HLH := hide (fun i => outL_hit (n := n) (ss := ss) hgj i)
                            have hcl := cntO_le (natA g.ops) t o
                            obtain ⟨cv, hcv⟩ : ∃ cv, cntO (natA g.ops) t o = cv := ⟨_, rfl⟩
                            rw [hcv] at hcw hna hpf hcl
                            have eN := rN.cell hom
                            simp only [hna] at eN
                            have HNA := hide hna
                            obtain ⟨b, off, p, hA', hb', hpk, hcp⟩ := (Reads.of_own hown).elem encPl_len (rwP_len _ _ _ _ _) hcw
                            rw [rwP_get _ _ _ _ hcw] at hpk
                            injection hpk with hpk
                            have HPF := hide (hpf.trans hpk)
                            have c0 : wr.cell? ⟨b, off + cv * 2, none⟩ = some (.int .i64 p.m) := by simpa using hcp 0 _ rfl
                            have c1' : wr.cell? ⟨b, off + cv * 2 + 1, none⟩ = some (.int .i64 p.s) := by simpa [← Nat.add_assoc] using hcp 1 _ rfl
                            subst hA'
                            clear hpk hcp hpf hna hcv hgj hje
                            have fO := rO.frozen (t * 2)
                            have fO1 := rO.frozen (t * 2 + 1)
                            have rO6 : ((wr.setCell ⟨bO, t * 2, none⟩ (.int .i64 p.m)).setCell ⟨bO, t * 2 + 1, none⟩ (.int .i64 p.s)).rowIs bO 67 (g.n1 * 2) (plC (outL g gs n ss j (t + 1))) := plC_set rO p (fun i => by rw [HLH.out, HPF.out])
                            have eO0 := rO.cell (show t * 2 < g.n1 * 2 by omega)
                            have eO1 := rO.cell (show t * 2 + 1 < g.n1 * 2 by omega)
                            have q6 : (0 : Int) ≤ (cv : Int) := by omega
                            have q7 : (cv : Int) < (wj : Int) := by omega
                            go_upto_region 37 with fail
                            have n1 : bU ≠ bO := x3
                            have n2 : bN ≠ bO := by omega
                            have n3 : bU ≠ bN := by omega
                            have n4 : bO ≠ bN := by omega
                            have hvO : ∀ gg, (Value.slice (some ⟨b, off, none⟩) wj c').ownBlock = some gg → gg ≠ bO := fun gg hgg => by have := (hown.lt gg hgg).1; omega
                            have hvN2 : ∀ gg, (Value.slice (some ⟨b, off, none⟩) wj c').ownBlock = some gg → gg ≠ bN := fun gg hgg e => hvN (by rw [hgg, e])
                            have rN6 : ((wr.setCell ⟨bO, t * 2, none⟩ (.int .i64 p.m)).setCell ⟨bO, t * 2 + 1, none⟩ (.int .i64 p.s)).rowIs bN 3 m (fun o => .int .i64 ((nxF g gs j t o : Nat) : Int)) := (rN.of_block (blk_setCell_other _ _ _ _ (show bN ≠ bO from n2))).of_block (blk_setCell_other _ _ _ _ (show bN ≠ bO from n2))
                            have rU6 := (rU.of_block (blk_setCell_other wr ⟨bO, t * 2, none⟩ (.int .i64 p.m) _ (show bU ≠ bO from n1))).of_block (blk_setCell_other _ ⟨bO, t * 2 + 1, none⟩ (.int .i64 p.s) _ (show bU ≠ bO from n1))
                            have ow6 := own_block (own_block hown fun gg hgg => blk_setCell_other wr ⟨bO, t * 2, none⟩ (.int .i64 p.m) _ (hvO gg hgg)) fun gg hgg => blk_setCell_other _ ⟨bO, t * 2 + 1, none⟩ (.int .i64 p.s) _ (hvO gg hgg)
                            have kb6 := (kb.far (p := ⟨bO, t * 2, none⟩) (show w.heap.size ≠ bO by omega) (.int .i64 p.m)).far (p := ⟨bO, t * 2 + 1, none⟩) (show w.heap.size ≠ bO by omega) (.int .i64 p.s)
                            have hB6 := (hB.setCell (p := ⟨bO, t * 2, none⟩) (by show w.heap.size ≤ bO; omega) (.int .i64 p.m)).setCell (p := ⟨bO, t * 2 + 1, none⟩) (by show w.heap.size ≤ bO; omega) (.int .i64 p.s)
                            have xN6 : bN < ((wr.setCell ⟨bO, t * 2, none⟩ (.int .i64 p.m)).setCell ⟨bO, t * 2 + 1, none⟩ (.int .i64 p.s)).heap.size := by rw [World.size_setCell, World.size_setCell]; exact xN
                            clear rN rU rO hown kb hB xN g0 c0 c1' i1 ic0 eN eO0 eO1 fO fO1
                            obtain ⟨W6, hW6⟩ : ∃ W6, (wr.setCell ⟨bO, t * 2, none⟩ (.int .i64 p.m)).setCell ⟨bO, t * 2 + 1, none⟩ (.int .i64 p.s) = W6 := ⟨_, rfl⟩
                            rw [hW6] at rN6 rU6 rO6 ow6 kb6 hB6 xN6 ⊢
                            clear hW6
                            have eN := rN6.cell hom
                            have fN := rN6.frozen o
                            have hna := HNA.out
                            simp only [hna] at eN
                            have H1 := hide (show (W6.setCell ⟨bN, o, none⟩ (.int .i64 ((cv : Int) + 1))).rowIs bN 3 m (fun o => .int .i64 ((nxF g gs j (t + 1) o : Nat) : Int)) from (rN6.set o _).congr fun i _ => by
                              rw [HNH.out, HOO.out]
                              by_cases e : i = o
                              · rw [if_pos e, if_pos e, e, HNA.out]; simp
                              · rw [if_neg e, if_neg e])
                            have H2 := hide (rU6.of_block (blk_setCell_other W6 ⟨bN, o, none⟩ (.int .i64 ((cv : Int) + 1)) _ (show bU ≠ bN from n3)))
                            have H3 := hide (rO6.of_block (blk_setCell_other W6 ⟨bN, o, none⟩ (.int .i64 ((cv : Int) + 1)) _ (show bO ≠ bN from n4)))
                            have H4 := hide (own_block ow6 fun gg hgg => blk_setCell_other W6 ⟨bN, o, none⟩ (.int .i64 ((cv : Int) + 1)) _ (hvN2 gg hgg))
                            have H5 := hide (kb6.far (p := ⟨bN, o, none⟩) (show w.heap.size ≠ bN by omega) (.int .i64 ((cv : Int) + 1)))
                            have hB7 := hB6.setCell (p := ⟨bN, o, none⟩) (by show w.heap.size ≤ bN; omega) (.int .i64 ((cv : Int) + 1))
                            have xN7 : bN < (W6.setCell ⟨bN, o, none⟩ (.int .i64 ((cv : Int) + 1))).heap.size := by rw [World.size_setCell]; exact xN6
                            clear rN6 rU6 rO6 ow6 kb6 hB6 xN6 hna
                            go_wp2
                            go_roundw
                            case rel => exact ⟨t + 1, by omega, by go_num, H1.out, H2.out, H3.out, H4.out, H5.out, xN7, hB7⟩
                            case measure => simp [intOf]; omega
                          · have z : ((jg : Int) == (j : Int)) = false := by simp; omega
                            have hgj : ¬ natA gs (natA g.ops t) = j := by rw [HOO.out, HJJ.out]; exact hje
                            have rN6 : wr.rowIs bN 3 m (fun o => .int .i64 ((nxF g gs j (t + 1) o : Nat) : Int)) := rN.congr fun o _ => by rw [nxF_miss hgj]
                            have rO6 : wr.rowIs bO 67 (g.n1 * 2) (plC (outL g gs n ss j (t + 1))) := by rw [outL_miss hgj]; exact rO
                            have H1 := hide rN6
                            have H2 := hide rU
                            have H3 := hide rO6
                            have H4 := hide hown
                            have H5 := hide kb
                            clear rN6 rN rU rO rO6 hown kb hgj hje
                            go_wp2
                            go_roundw
                            case rel => exact ⟨t + 1, by omega, by go_num, H1.out, H2.out, H3.out, H4.out, H5.out, xN, hB⟩
                            case measure => simp [intOf]; omega
                        · obtain rfl : g.n1 = t := by omega
                          have rO6 : wr.rowIs bO 67 (g.n1 * 2) (plC (outL g gs n ss (j + 1) 0)) := rO.congr fun i hi => by
                            unfold plC
                            rw [outL_next (show i / 2 < g.n1 by omega)]
                          have H2 := hide rU
                          have H3 := hide rO6
                          have H5 := hide kb
                          clear rN rU rO rO6 hown kb
                          go_wp2
                          go_roundw
                          case rel => exact ⟨j + 1, by omega, by go_num, H2.out, H3.out, H5.out, by omega, hB⟩
                          case measure => simp [intOf]; omega
                · have hj200 : j = 200 := by omega
                  have hge : (200 : Int) ≤ (j : Int) := by omega
                  rw [hj200] at rO
                  clear hj200 hj hlt
                  have HR := hide (plC_reads rO)
                  clear rU rO kb
                  go_wp2
                  go_ret2
                  rw [HR0.out, HE0.out, plcL_len, ← outL_list (j := 200) (fun t ht => HK.out.grm _ (HK.out.opm t ht))]
                  exact ⟨_, _, rfl, HR.out, hB⟩
      · have z0 : (E != 0) = true := by simpa using h0
        have he : plcE g m gs n ss = E := by simp [plcE, hsl, hv, hE, h0]
        rw [plcR_bad (by omega), he]
        rw [hv] at HV
        clear hv he
        have hvl : leastV g m gs = 0 := by unfold leastV; rw [if_neg (by rw [hE]; exact h0)]
        go_enter Try.func37, Try.ntmps37
        go_wp2_with fail
        refine HV.out.mono ?_
        rintro e W1 ⟨rfl, hB1⟩
        have HSL := hide (slotted_any A2 n c2 _ ss W1 (hs.up (bstep hB0 hB1)) (by omega))
        rw [hsl] at HSL
        have hB01 := bstep hB0 hB1
        have HLE := hide (RLeast_any g A m c gs W1 (hg0.up hB1) (hx0.up hB1) hn hm hmm)
        rw [hE, hvl] at HLE
        have k1 := k0.below hB1 hwl
        have d1 := k1.cell 0
        have d2 := k1.cell 1
        simp [Gr.v1, Gr.v2] at d1 d2
        clear hsl hB0 hB1 HV c1 c2' hE hvl k0 hwl hg0 hx0
        go_wp2_with (go_at_call 70; refine HSL.out.mono ?_; rintro e w' ⟨rfl, rfl⟩)
        refine HLE.out.mono ?_
        rintro e W2 ⟨rfl, hB2⟩
        have HB := hide (bstep hB01 hB2)
        clear hB01 hB2 HLE HSL d1 d2 k1
        go_wp2
        go_ret2
        exact ⟨none, 0, rfl, Reads.none_, HB.out⟩
end

end Go.Proofs.Ytblepaocekojbaa
