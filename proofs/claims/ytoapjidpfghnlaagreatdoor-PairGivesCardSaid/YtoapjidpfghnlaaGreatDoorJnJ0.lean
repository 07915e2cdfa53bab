/-
  The walks of both NewJoiners. No condition.
  What a call keeps of boxes; what a joiner is made of. No condition.
-/
import Derived.Test.YtoapjidpfghnlaaGreatDoorJnA
import Derived.Test.YtoapjidpfghnlaaGreatDoorPrB
import Derived.Test.YtoapjidpfghnlaaGreatDoorPrR5
import Derived.Test.YtoapjidpfghnlaaGreatDoorJnK
namespace Go.Proofs.YtoapjidpfghnlaaGreatDoor

section
open Go.RowKit
attribute [local go_sem] Oper.semAt_some wide_fn wide_depth
set_option linter.unusedVariables false
set_option linter.unusedSimpArgs false

def njE (on others : List Int) (lo hi : Int) : Int := if fitK on others then (if insK on 8 && (insK others 8 && spanB lo hi) then 0 else 7) else 9
/-- What NewJoiner hands back. -/
def RetNJ (on others : List Int) (lo hi : Int) (w : World) (e : Ending) (w' : World) : Prop := Below w.heap.size w w' ∧
  if njE on others lo hi = 0 then ∃ b bL bR s, e = .returned (.tuple #[.pointer (some ⟨b, 0, none⟩), .int .i64 0]) ∧ JO w' w.heap.size b bL bR s (-1000000000000) 0 (fun _ => []) (fun _ => []) (fun _ => False) (fun _ => False) ∧ s.on = on ∧ s.others = others ∧ s.lo = lo ∧ s.hi = hi ∧ s.n1 = on.length ∧ s.n2 = others.length
  else e = .returned (.tuple #[.pointer none, .int .i64 (njE on others lo hi)])
theorem HmM.setB {w : World} {base b o bM i : Nat} {f : List UInt8 → List Hd} {S : Nat → Prop} {t : TypeId} {cs : Array Value} (h : HmM w base bM i f S) (hb : Blk w b t cs) (h1 : t ≠ 102) (h2 : t ≠ 144) (hB : base ≤ b) (v : Value) : HmM (w.setCell ⟨b, o, none⟩ v) base bM i f S := by
  refine h.keepS (P := fun k => k = b) (fun k _ hk => Below.heap_setCell _ _ _ k hk) (by simp [World.setCell]) ?_
  rintro k rfl
  exact ⟨hB, fun e => by rw [e] at hb; exact h.map_not _ _ _ hb, h.notS (blk_not hb h2), blk_not hb h1⟩
theorem IntK.setB {w : World} {b o : Nat} {t : TypeId} {cs : Array Value} {A : Option Addr} {n : Nat} {xs : List Int} (h : IntK w A n xs) (hb : Blk w b t cs) (h1 : t ≠ 3) (v : Value) : IntK (w.setCell ⟨b, o, none⟩ v) A n xs :=
  h.bar (Xs := [b]) ((Bar.refl _ _ w).setCell (.inr (by simp)) v) fun x hx => by rw [List.mem_singleton.1 hx]; exact blk_not hb h1
set_option maxRecDepth 100000 in
set_option maxHeartbeats 8000000 in
theorem NewJoiner_any (A1 : Option Addr) (n1 c1 : Nat) (on : List Int) (A2 : Option Addr) (n2 c2 : Nat) (others : List Int) (lo hi : Int) (w : World)
    (h1 : Reads w w.heap.size 1 A1 n1 (on.map (Value.int .i64))) (h2 : Reads w w.heap.size 1 A2 n2 (others.map (Value.int .i64))) (hn1 : n1 ≤ 1000) (hn2 : n2 ≤ 1000) :
    Calls Tryz.prog 37 #[.slice A1 n1 c1, .slice A2 n2 c2, .int .i64 lo, .int .i64 hi] w (RetNJ on others lo hi w) := by
  have HL1 := hide h1.len1
  have HL2 := hide h2.len1
  obtain ⟨E, hE⟩ : ∃ E, njE on others lo hi = E := ⟨_, rfl⟩
  have HE := hide hE
  unfold njE at hE
  obtain ⟨o1, r1⟩ : ∃ b, fitK on others = b := ⟨_, rfl⟩
  obtain ⟨o2, r2⟩ : ∃ b, spanB lo hi = b := ⟨_, rfl⟩
  obtain ⟨o3, r3⟩ : ∃ b, insK on 8 = b := ⟨_, rfl⟩
  obtain ⟨o4, r4⟩ : ∃ b, insK others 8 = b := ⟨_, rfl⟩
  rw [r1, r2, r3, r4] at hE
  have HX := hide hE
  have R1 := hide r1
  have R2 := hide r2
  have R3 := hide r3
  have R4 := hide r4
  clear hE r1 r2 r3 r4
  have PA := hide h1
  have PB := hide h2
  have hbv := below_val (w := w) #[.slice A1 n1 c1, .slice A2 n2 c2] 91
  have kk := Blk.new w 91 #[.slice A1 n1 c1, .slice A2 n2 c2]
  have d0 : (w.alloc (.cells #[.slice A1 n1 c1, .slice A2 n2 c2] 91)).cell? ⟨w.heap.size, 0, none⟩ = some (.slice A1 n1 c1) := by simp
  have d1 : (w.alloc (.cells #[.slice A1 n1 c1, .slice A2 n2 c2] 91)).cell? ⟨w.heap.size, 1, none⟩ = some (.slice A2 n2 c2) := by simp
  clear h1 h2
  go_enter Tryz.func37, Tryz.ntmps37
  go_upto_region 2 with fail
  obtain ⟨W3, hW3⟩ : ∃ W3, w.alloc (.cells #[.slice A1 n1 c1, .slice A2 n2 c2] 91) = W3 := ⟨_, rfl⟩
  rw [hW3] at hbv d0 d1 kk ⊢
  obtain ⟨qb, hqb⟩ : ∃ qb, w.heap.size = qb := ⟨_, rfl⟩
  rw [hqb] at kk d0 d1 ⊢
  clear hW3
  go_wp2_with fail
  refine (sized_any A1 n1 c1 A2 n2 c2 on others W3 HL1.out HL2.out (by omega) (by omega)).mono ?_
  rintro e W4 ⟨rfl, hb⟩
  have hB4 := bstep hbv hb
  have kk4 := kk.below hb kk.lt
  clear hb hbv kk d0 d1
  rw [R1.out]
  cases o1
  · have HB := hide hB4
    have HEE := hide (show E = 9 from HX.out.symm.trans (by simp))
    clear hB4 kk4
    go_wp2
    refine bodyPost_ret (results_tmp2 rfl _ _ _) rfl ?_
    refine ⟨HB.out, ?_⟩
    rw [HE.out, HEE.out, if_neg (by decide)]
    rfl
  have d0 : W4.cell? ⟨qb, 0, none⟩ = some (.slice A1 n1 c1) := by simpa using kk4.cell 0
  have d1 : W4.cell? ⟨qb, 1, none⟩ = some (.slice A2 n2 c2) := by simpa using kk4.cell 1
  go_wp2_with fail
  refine (below_any A1 n1 c1 on A2 n2 c2 others 8 8 W4 (PA.out.up hB4) (PB.out.up hB4) (by omega) (by omega) (by omega) (by omega)).mono ?_
  rintro e W5 ⟨rfl, hb⟩
  have hB5 := bstep hB4 hb
  clear hb hB4 kk4 d0 d1
  rw [R3.out, R4.out]
  obtain ⟨q, hq⟩ : ∃ q, (o3 && o4) = q := ⟨_, rfl⟩
  rw [hq]
  have HQ := hide hq
  clear hq
  cases q
  · have HB := hide hB5
    have HEE := hide (show E = 7 from HX.out.symm.trans (by rw [← Bool.and_assoc, HQ.out]; simp))
    clear hB5
    go_wp2
    refine bodyPost_ret (results_tmp2 rfl _ _ _) rfl ?_
    refine ⟨HB.out, ?_⟩
    rw [HE.out, HEE.out, if_neg (by decide)]
    rfl
  go_wp2_with fail
  refine (ranged_any lo hi W5).mono ?_
  rintro e w' ⟨rfl, rfl⟩
  rw [R2.out]
  cases o2
  · have HB := hide hB5
    have HEE := hide (show E = 7 from HX.out.symm.trans (by simp))
    clear hB5
    go_wp2
    refine bodyPost_ret (results_tmp2 rfl _ _ _) rfl ?_
    refine ⟨HB.out, ?_⟩
    rw [HE.out, HEE.out, if_neg (by decide)]
    rfl
  have HEE := hide (show E = 0 from HX.out.symm.trans (by rw [← Bool.and_assoc, HQ.out]; simp))
  have hbj := below_val (w := W5) #[.slice none 0 0, .map none, .slice none 0 0, .map none, .int .i64 lo, .int .i64 hi, .int .i64 (-1000000000000)] 140
  have kj := Blk.new W5 140 #[.slice none 0 0, .map none, .slice none 0 0, .map none, .int .i64 lo, .int .i64 hi, .int .i64 (-1000000000000)]
  go_upto_region 7 with fail
  obtain ⟨W6, hW6⟩ : ∃ W6, W5.alloc (.cells #[.slice none 0 0, .map none, .slice none 0 0, .map none, .int .i64 lo, .int .i64 hi, .int .i64 (-1000000000000)] 140) = W6 := ⟨_, rfl⟩
  obtain ⟨b, hbe⟩ : ∃ b, W5.heap.size = b := ⟨_, rfl⟩
  rw [hW6] at hbj kj ⊢
  rw [hbe] at kj ⊢
  have hB6 := bstep hB5 hbj
  have hbw : w.heap.size ≤ b := by rw [← hbe]; exact hB5.size
  clear hW6 hbj hB5 hbe
  go_wp2_with fail
  refine (CloneK_any A1 n1 c1 on W6 (PA.out.up hB6) hn1).mono ?_
  rintro e W7 ⟨Aa, ca, rfl, hka, hb⟩
  have hB7 := bstep hB6 hb
  have kj7 := kj.below hb kj.lt
  have hbm := (Below.refl W7.heap.size W7).alloc (Nat.le_refl _) (.map #[] 0)
  have kj8 := kj7.below hbm kj7.lt
  have hka8 := hka.below hbm
  have hB8 := bstep hB7 hbm
  have hm8 := HmM.start W7 hB7.size
  have j0 := kj8.cell 0
  have j1 := kj8.cell 1
  have fz0 := kj8.frozen 0
  have fz1 := kj8.frozen 1
  simp at j0 j1
  have k9 := (kj8.set_ 0 (.slice Aa n1 ca)).set_ 1 (.map (some W7.heap.size))
  have hk9 := (hka8.setB (o := 0) kj8 (by decide) (.slice Aa n1 ca)).setB (o := 1) (kj8.set_ 0 (.slice Aa n1 ca)) (by decide) (.map (some W7.heap.size))
  have hm9 := (hm8.setB (o := 0) kj8 (by decide) (by decide) hbw (.slice Aa n1 ca)).setB (o := 1) (kj8.set_ 0 (.slice Aa n1 ca)) (by decide) (by decide) hbw (.map (some W7.heap.size))
  have hB9 := (hB8.setCell (p := ⟨b, 0, none⟩) hbw (.slice Aa n1 ca)).setCell (p := ⟨b, 1, none⟩) hbw (.map (some W7.heap.size))
  clear hb kj hbm hka8 hB8 hm8 hka hB6
  have hmm := @run_makeMap Tryz.prog
  go_upto_region 8 with fail
  clear hmm
  obtain ⟨W9, hW9⟩ : ∃ W9, ((W7.alloc (.map #[] 0)).setCell ⟨b, 0, none⟩ (.slice Aa n1 ca)).setCell ⟨b, 1, none⟩ (.map (some W7.heap.size)) = W9 := ⟨_, rfl⟩
  rw [hW9] at k9 hk9 hm9 hB9 ⊢
  obtain ⟨bL, hbL⟩ : ∃ bL, W7.heap.size = bL := ⟨_, rfl⟩
  rw [hbL] at k9 hm9 ⊢
  have k9 : Blk W9 b 140 #[.slice Aa n1 ca, .map (some bL), .slice none 0 0, .map none, .int .i64 lo, .int .i64 hi, .int .i64 (-1000000000000)] := by simpa using k9
  clear hW9 hbL kj7 kj8 j0 j1 fz0 fz1 hB7
  go_wp2_with fail
  refine (CloneK_any A2 n2 c2 others W9 (PB.out.up hB9) hn2).mono ?_
  rintro e W10 ⟨Ab, cb, rfl, hkb, hb⟩
  have hB10 := bstep hB9 hb
  have k10 := k9.below hb k9.lt
  have hk10 := hk9.below hb
  have hm10 := hm9.below hb
  have hbm := (Below.refl W10.heap.size W10).alloc (Nat.le_refl _) (.map #[] 0)
  have k11 := k10.below hbm k10.lt
  have hk11 := hk10.below hbm
  have hkb11 := hkb.below hbm
  have hm11 := hm10.below hbm
  have hB11 := bstep hB10 hbm
  have hr11 := HmM.start W10 hB10.size
  have hne : bL ≠ W10.heap.size := by have := hm10.lt; omega
  have j2 := k11.cell 2
  have j3 := k11.cell 3
  have fz2 := k11.frozen 2
  have fz3 := k11.frozen 3
  simp at j2 j3
  have k12 := (k11.set_ 2 (.slice Ab n2 cb)).set_ 3 (.map (some W10.heap.size))
  have hk12 := (hk11.setB (o := 2) k11 (by decide) (.slice Ab n2 cb)).setB (o := 3) (k11.set_ 2 (.slice Ab n2 cb)) (by decide) (.map (some W10.heap.size))
  have hkb12 := (hkb11.setB (o := 2) k11 (by decide) (.slice Ab n2 cb)).setB (o := 3) (k11.set_ 2 (.slice Ab n2 cb)) (by decide) (.map (some W10.heap.size))
  have hm12 := (hm11.setB (o := 2) k11 (by decide) (by decide) hbw (.slice Ab n2 cb)).setB (o := 3) (k11.set_ 2 (.slice Ab n2 cb)) (by decide) (by decide) hbw (.map (some W10.heap.size))
  have hr12 := (hr11.setB (o := 2) k11 (by decide) (by decide) hbw (.slice Ab n2 cb)).setB (o := 3) (k11.set_ 2 (.slice Ab n2 cb)) (by decide) (by decide) hbw (.map (some W10.heap.size))
  have hB12 := (hB11.setCell (p := ⟨b, 2, none⟩) hbw (.slice Ab n2 cb)).setCell (p := ⟨b, 3, none⟩) hbw (.map (some W10.heap.size))
  clear hb hbm hk11 hkb11 hm11 hr11 hB11 hkb hk10 hm10 hk9 hm9 k9 hB9
  have hmm := @run_makeMap Tryz.prog
  go_upto_region 9 with fail
  clear hmm
  obtain ⟨W12, hW12⟩ : ∃ W12, ((W10.alloc (.map #[] 0)).setCell ⟨b, 2, none⟩ (.slice Ab n2 cb)).setCell ⟨b, 3, none⟩ (.map (some W10.heap.size)) = W12 := ⟨_, rfl⟩
  rw [hW12] at k12 hk12 hkb12 hm12 hr12 hB12 ⊢
  obtain ⟨bR, hbR⟩ : ∃ bR, W10.heap.size = bR := ⟨_, rfl⟩
  rw [hbR] at k12 hr12 hne
  have HRES := hide (show RetNJ on others lo hi w (.returned (.tuple #[.pointer (some ⟨b, 0, none⟩), .int .i64 0])) W12 from by
    refine ⟨hB12, ?_⟩
    rw [HE.out, HEE.out, if_pos rfl]
    exact ⟨b, bL, bR, ⟨Aa, n1, ca, on, Ab, n2, cb, others, lo, hi⟩, rfl, ⟨by simpa [JoS.cells] using k12, hk12, hkb12, hm12, hr12, hne, fun _ h => h.elim, hbw⟩, rfl, rfl, rfl, rfl, HL1.out.symm, HL2.out.symm⟩)
  clear hW12 k12 hk12 hkb12 hm12 hr12 hB12 j2 j3 fz2 fz3 k10 k11 hB10 hbR hne
  go_wp2
  refine bodyPost_ret (results_tmp2 rfl _ _ _) rfl ?_
  exact HRES.out
/-- What the reference's NewJoiner hands back. -/
def RetNR (on others : List Int) (lo hi : Int) (w : World) (e : Ending) (w' : World) : Prop := Below w.heap.size w w' ∧
  if njE on others lo hi = 0 then ∃ b s, e = .returned (.tuple #[.pointer (some ⟨b, 0, none⟩), .int .i64 0]) ∧ JR w' w.heap.size b s (-1000000000000) (.slice none 0 0) [] (.slice none 0 0) [] ∧ s.on = on ∧ s.others = others ∧ s.lo = lo ∧ s.hi = hi ∧ s.n1 = on.length ∧ s.n2 = others.length
  else e = .returned (.tuple #[.pointer none, .int .i64 (njE on others lo hi)])
set_option maxRecDepth 100000 in
set_option maxHeartbeats 8000000 in
theorem RNewJoiner_any (A1 : Option Addr) (n1 c1 : Nat) (on : List Int) (A2 : Option Addr) (n2 c2 : Nat) (others : List Int) (lo hi : Int) (w : World)
    (h1 : Reads w w.heap.size 1 A1 n1 (on.map (Value.int .i64))) (h2 : Reads w w.heap.size 1 A2 n2 (others.map (Value.int .i64))) (hn1 : n1 ≤ 1000) (hn2 : n2 ≤ 1000) :
    Calls Tryz.prog 43 #[.slice A1 n1 c1, .slice A2 n2 c2, .int .i64 lo, .int .i64 hi] w (RetNR on others lo hi w) := by
  obtain ⟨i0, hi0, hz0, hz1, hz2⟩ := info_parts3 infoInt9
  have HL1 := hide h1.len1
  have HL2 := hide h2.len1
  obtain ⟨E, hE⟩ : ∃ E, njE on others lo hi = E := ⟨_, rfl⟩
  have HE := hide hE
  unfold njE at hE
  obtain ⟨o1, r1⟩ : ∃ b, fitK on others = b := ⟨_, rfl⟩
  obtain ⟨o2, r2⟩ : ∃ b, spanB lo hi = b := ⟨_, rfl⟩
  obtain ⟨o3, r3⟩ : ∃ b, insK on 8 = b := ⟨_, rfl⟩
  obtain ⟨o4, r4⟩ : ∃ b, insK others 8 = b := ⟨_, rfl⟩
  rw [r1, r2, r3, r4] at hE
  have HX := hide hE
  have R1 := hide r1
  have R2 := hide r2
  have R3 := hide r3
  have R4 := hide r4
  clear hE r1 r2 r3 r4
  have PA := hide h1
  have PB := hide h2
  clear h1 h2
  go_enter Tryz.func43, Tryz.ntmps43
  go_wp2_with fail
  refine (fit_any A1 n1 c1 A2 n2 c2 on others w HL1.out HL2.out).mono ?_
  rintro e w' ⟨rfl, rfl⟩
  rw [R1.out]
  cases o1
  · have HEE := hide (show E = 9 from HX.out.symm.trans (by simp))
    go_wp2
    refine bodyPost_ret (results_tmp2 rfl _ _ _) rfl ?_
    refine ⟨Below.refl _ _, ?_⟩
    rw [HE.out, HEE.out, if_neg (by decide)]
    rfl
  go_wp2_with fail
  refine (inside_any A1 n1 c1 on 8 w PA.out (by omega) (by omega)).mono ?_
  rintro e W1 ⟨rfl, hB1⟩
  rw [R3.out]
  cases o3
  · have HB := hide hB1
    have HEE := hide (show E = 7 from HX.out.symm.trans (by simp))
    clear hB1
    go_wp2
    refine bodyPost_ret (results_tmp2 rfl _ _ _) rfl ?_
    refine ⟨HB.out, ?_⟩
    rw [HE.out, HEE.out, if_neg (by decide)]
    rfl
  go_wp2_with fail
  refine (inside_any A2 n2 c2 others 8 W1 (PB.out.up hB1) (by omega) (by omega)).mono ?_
  rintro e W2 ⟨rfl, hb⟩
  have hB2 := bstep hB1 hb
  clear hb hB1
  rw [R4.out]
  cases o4
  · have HB := hide hB2
    have HEE := hide (show E = 7 from HX.out.symm.trans (by simp))
    clear hB2
    go_wp2
    refine bodyPost_ret (results_tmp2 rfl _ _ _) rfl ?_
    refine ⟨HB.out, ?_⟩
    rw [HE.out, HEE.out, if_neg (by decide)]
    rfl
  go_wp2_with fail
  refine (rspan_any lo hi W2).mono ?_
  rintro e w' ⟨rfl, rfl⟩
  rw [R2.out]
  cases o2
  · have HB := hide hB2
    have HEE := hide (show E = 7 from HX.out.symm.trans (by simp))
    clear hB2
    go_wp2
    refine bodyPost_ret (results_tmp2 rfl _ _ _) rfl ?_
    refine ⟨HB.out, ?_⟩
    rw [HE.out, HEE.out, if_neg (by decide)]
    rfl
  have HEE := hide (show E = 0 from HX.out.symm.trans (by simp))
  have hlit := own_lit W2 3 1 0 #[] rfl (by unfold maxLen; omega) (Nat.le_refl W2.heap.size)
  have hB0 := below_val (w := W2) #[] 3
  have hrd := (PA.out.up hB2).alloc (Nat.le_refl _) (.cells #[] 3)
  have HB2 := hide hB2
  clear hB2
  go_wp2_with (first | (at_builtin; refine wpList_append_any _ rfl _ _ 22 rfl W2.heap.size 3 i0 _ 1 8 Tryz.underlying22 hi0 hz0 hz1 hz2 rfl (by decide) (.slice (some ⟨W2.heap.size, 0, none⟩) 0 0) 0 [] rfl hlit W2.heap.size A1 n1 c1 (on.map (Value.int .i64)) rfl hrd (by intro u hu; obtain ⟨y, _, rfl⟩ := List.mem_map.1 hu; rfl) (by unfold maxLen; omega) (by omega) (by simp) ?_; intro v' W3 hown hgrow _; rw [Nat.zero_add, List.nil_append] at hown; obtain ⟨Aa, ca, rfl, _⟩ := own_form hown; have hB1 : Below W2.heap.size W2 W3 := below_append hB0 hlit (by simp) hgrow; have hlit2 := own_lit W3 3 1 0 #[] rfl (by unfold maxLen; omega) (Nat.le_refl W3.heap.size); have hB02 := below_val (w := W3) #[] 3; have hrd2 := (PB.out.up (bstep HB2.out hB1)).alloc (Nat.le_refl _) (.cells #[] 3); clear hgrow) | (at_builtin; refine wpList_append_any _ rfl _ _ 22 rfl W3.heap.size 3 i0 _ 1 8 Tryz.underlying22 hi0 hz0 hz1 hz2 rfl (by decide) (.slice (some ⟨W3.heap.size, 0, none⟩) 0 0) 0 [] rfl hlit2 W3.heap.size A2 n2 c2 (others.map (Value.int .i64)) rfl hrd2 (by intro u hu; obtain ⟨y, _, rfl⟩ := List.mem_map.1 hu; rfl) (by unfold maxLen; omega) (by omega) (by simp) ?_; intro v'' W4 hown' hgrow' _; rw [Nat.zero_add, List.nil_append] at hown'; obtain ⟨Ab, cb, rfl, _⟩ := own_form hown'; have hB3 : Below W3.heap.size W3 W4 := below_append hB02 hlit2 (by simp) hgrow'; clear hgrow'))
  have HRES := hide (show RetNR on others lo hi w (.returned (.tuple #[.pointer (some ⟨W4.heap.size, 0, none⟩), .int .i64 0])) (W4.alloc (.cells #[.slice Aa n1 ca, .slice Ab n2 cb, .int .i64 lo, .int .i64 hi, .slice none 0 0, .slice none 0 0, .int .i64 (-1000000000000)] 149)) from by
    have hbv := below_val (w := W4) #[.slice Aa n1 ca, .slice Ab n2 cb, .int .i64 lo, .int .i64 hi, .slice none 0 0, .slice none 0 0, .int .i64 (-1000000000000)] 149
    have hBx := bstep (bstep HB2.out hB1) hB3
    refine ⟨bstep hBx hbv, ?_⟩
    rw [HE.out, HEE.out, if_pos rfl]
    exact ⟨_, ⟨Aa, n1, ca, on, Ab, n2, cb, others, lo, hi⟩, rfl, ⟨Blk.new _ _ _, ((IntK.of_own hown).below hB3).below hbv, (IntK.of_own hown').below hbv, OC.nil _ _, OC.nil _ _, hBx.size⟩, rfl, rfl, rfl, rfl, HL1.out.symm, HL2.out.symm⟩)
  clear hown hown' hlit hlit2 hB0 hB02 hB1 hB3 hrd hrd2
  go_wp2
  refine bodyPost_ret (results_tmp2 rfl _ _ _) rfl ?_
  exact HRES.out
end

section
open Go.RowKit
set_option linter.unusedVariables false
set_option linter.unusedSimpArgs false

theorem Quiet.mono {W : World} {B B' : Nat} {P : Nat → Prop} (h : Quiet W B P) (hB : B' ≤ B) : Quiet W B' P := fun k hk => ⟨Nat.le_trans hB (h k hk).1, (h k hk).2⟩
/-- Boxes of changes are kept. -/
def KeepC (w w' : World) : Prop := ∀ b cs, Blk w b 57 cs → Blk w' b 57 cs
theorem KeepC.of_below {w w' : World} (h : Below w.heap.size w w') : KeepC w w' := fun b cs hb => hb.below h hb.lt
theorem KeepC.of_frp {P : Nat → Prop} {w w' : World} {B : Nat} (h : FrP P w w') (hq : Quiet w B P) : KeepC w w' := fun b cs hb => hb.frp h fun hp => (hq b hp).2.2.2 cs _ hb
theorem FrP.lows {P : Nat → Prop} {w w' : World} {B : Nat} (h : FrP P w w') (hq : Quiet w B P) (hw : B ≤ w.heap.size) : Below B w w' := h.low (fun k hk => (hq k hk).1) hw
theorem nj_zero {on others : List Int} {lo hi : Int} (h : njE on others lo hi = 0) : on.length = others.length ∧ on.length ≤ 8 ∧ (-1000000000 ≤ lo ∧ lo ≤ 1000000000) ∧ (-1000000000 ≤ hi ∧ hi ≤ 1000000000) := by
  unfold njE at h
  split at h
  · rename_i h1
    split at h
    · rename_i h2
      rw [Bool.and_eq_true, Bool.and_eq_true] at h2
      have h3 := h2.2.2
      unfold spanB at h3
      unfold fitK at h1
      rw [Bool.and_eq_true, Bool.and_eq_true] at h3
      rw [Bool.and_eq_true, decide_eq_true_eq, decide_eq_true_eq] at h1
      exact ⟨h1.1, h1.2, btw_iff.1 h3.1.1, btw_iff.1 h3.1.2⟩
    · cases h
  · cases h
end

end Go.Proofs.YtoapjidpfghnlaaGreatDoor
