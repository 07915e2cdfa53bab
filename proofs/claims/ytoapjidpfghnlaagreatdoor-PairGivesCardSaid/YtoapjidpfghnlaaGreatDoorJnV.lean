/-
  The walk of a joiner's tell, whatever closure says which rows meet. No condition. (Printed by gen_jnV.)
-/
import Derived.Test.YtoapjidpfghnlaaGreatDoorJnT
import Derived.Test.YtoapjidpfghnlaaGreatDoorJnA
import Derived.Test.YtoapjidpfghnlaaGreatDoorApl
namespace Go.Proofs.YtoapjidpfghnlaaGreatDoor
open Go.RowKit
attribute [local go_sem] Oper.semAt_some wide_fn wide_depth
set_option linter.unusedVariables false
set_option linter.unusedSimpArgs false

theorem RowsC.oblk {w W : World} {base B n : Nat} {v : Value} {xs : List Value} {l : List Ch} (h : RowsC w B l) (hown : w.ownsRow base 57 3 v n xs) (hB : B ≤ base) (hb : Bar w.heap.size (obl v) w W) : RowsC W B l := fun i hi =>
  (h i hi).keep (p := fun k => k ∈ obl v) (fun k hk hp => hb.block k hk hp) hb.size fun k hk => by
    obtain ⟨h1, h2⟩ := own_not hown (t' := 102) (by decide) k hk
    exact ⟨Nat.le_trans hB h1, h2⟩
def rawH (left : Bool) (lo hi : Int) (c : Th) (L : List Hd) : List Th := (L.filter fun y => btw (dtT left c (thD y)) lo hi).map fun y => jnT left c (thD y)
theorem rawH_next {left : Bool} {lo hi : Int} {c : Th} {L : List Hd} {j : Nat} {y : Hd} (h : L[j]? = some y) : rawH left lo hi c (L.take (j + 1)) = rawH left lo hi c (L.take j) ++ if btw (dtT left c (thD y)) lo hi then [jnT left c (thD y)] else [] := by
  unfold rawH
  rw [take_snoc' h, List.filter_append, List.map_append]
  congr 1
  cases e : btw (dtT left c (thD y)) lo hi
  · rw [List.filter_cons_of_neg (by simp [e])]; rfl
  · rw [List.filter_cons_of_pos (by simp [e])]; rfl
theorem raw_is {left : Bool} {own : List Int} {lo hi : Int} {c : Th} {L : List Hd} (h : nonul (pick c.r own) = true) : rawJ left own lo hi c (L.map thD) = rawH left lo hi c L := by
  unfold rawJ rawH
  rw [if_pos h, List.filter_map, List.map_map]
  rfl
theorem raw_no {left : Bool} {own : List Int} {lo hi : Int} {c : Th} {g : List Th} (h : nonul (pick c.r own) = false) : rawJ left own lo hi c g = [] := by
  unfold rawJ
  rw [if_neg (by rw [h]; decide)]; rfl
theorem rawH_bad {left : Bool} {lo hi : Int} {c : Th} {L : List Hd} {y : Hd} (hy : y ∈ L) (hm : btw (dtT left c (thD y)) lo hi = true) (hb : badJ (jnT left c (thD y)) = true) : (rawH left lo hi c L).any badJ = true := by
  rw [List.any_eq_true]
  exact ⟨_, List.mem_map.2 ⟨y, List.mem_filter.2 ⟨hy, hm⟩, rfl⟩, hb⟩
/-- What tell hands back, and what it makes of the side. -/
def RetTl (w : World) (base bM i : Nat) (left : Bool) (own : List Int) (lo hi mk : Int) (f f' : List UInt8 → List Hd) (S : Nat → Prop) (c : Th) (e : Ending) (w' : World) : Prop :=
  ∃ A n cc lst, e = .returned (.tuple #[.slice A n cc, .int .i64 (tlE left own lo hi mk c ((f' (keyJ own c.r)).map thD))]) ∧ NC w' w.heap.size base A n lst ∧
    (tlE left own lo hi mk c ((f' (keyJ own c.r)).map thD) ≠ 0 → lst = [] ∧ Below w.heap.size w w') ∧
    (tlE left own lo hi mk c ((f' (keyJ own c.r)).map thD) = 0 → (lst.map thC).Perm (rawJ left own lo hi c ((f' (keyJ own c.r)).map thD)) ∧ lst.Pairwise (fun x y => ¬ cmpT (thC y) (thC x) < 0) ∧
      ∃ l' S', l'.map thD = putT ((f (keyJ own c.r)).map thD) c ∧ HmM w' base bM (i + 1) (fun q => if q = keyJ own c.r then l' else f q) S' ∧ (∀ k, S' k → S k ∨ w.heap.size ≤ k) ∧ FrJ S bM w w')
theorem RetTl.bad {w w' : World} {base bM i : Nat} {left : Bool} {own : List Int} {lo hi mk : Int} {f f' : List UInt8 → List Hd} {S : Nat → Prop} {c : Th} {E : Int} (hE : tlE left own lo hi mk c ((f' (keyJ own c.r)).map thD) = E) (h0 : E ≠ 0) (hb : Below w.heap.size w w') :
    RetTl w base bM i left own lo hi mk f f' S c (.returned (.tuple #[.slice none 0 0, .int .i64 E])) w' := by
  refine ⟨none, 0, 0, [], by rw [hE], NC.nil _ _ _, fun _ => ⟨rfl, hb⟩, fun h => absurd (hE.symm.trans h) h0⟩
set_option maxRecDepth 100000 in
set_option maxHeartbeats 16000000 in
theorem jtell_any (left : Bool) {jb so oo base bM bO i i' : Nat} {f f' : List UInt8 → List Hd} {S S' : Nat → Prop} (A1 : Option Addr) (n1 c1 : Nat) (own : List Int) (lo hi mk : Int) (t : Int) (Ar : Option Addr) (nr cr : Nat) (x : Rw) (m : Int) (w : World)
    (k0 : w.cell? ⟨jb, so, none⟩ = some (.slice A1 n1 c1)) (k1 : w.cell? ⟨jb, so + 1, none⟩ = some (.map (some bM))) (k2 : w.cell? ⟨jb, oo + 1, none⟩ = some (.map (some bO))) (k6 : w.cell? ⟨jb, 6, none⟩ = some (.int .i64 mk))
    (hSb : ¬ S jb) (h : HmM w base bM i f S) (h' : HmM w base bO i' f' S') (hi' : i < 1000) (hbase : base ≤ w.heap.size)
    (h1 : Reads w w.heap.size 1 A1 n1 (own.map (Value.int .i64))) (hn1 : n1 ≤ 1000) (hr : RowK w w.heap.size Ar nr x) (hrc : nr ≤ cr) (ht : Tab w) (hm : -100 ≤ m ∧ m ≤ 100)
    (hl : ∀ q, (f q).length ≤ 1000) (hf : ∀ q, ∀ y ∈ f q, okR y.r = true ∧ -100000 ≤ y.m ∧ y.m ≤ 100000)
    (hl' : ∀ q, (f' q).length < 400) (hf' : ∀ q, ∀ y ∈ f' q, okR y.r = true ∧ -4000 ≤ y.m ∧ y.m ≤ 4000)
    (pf : Nat) (caps : Array Value) (eg : ∀ args w, (callFunc pf args).run Tryz.prog w = .ok (.enter pf args) w)
    (hp : okCh t x m = true → ∀ q, ∀ y ∈ f' q, ∀ W, Below w.heap.size w W → Calls Tryz.prog pf (#[.agg #[.int .i64 y.t, .int .i64 y.m, .slice y.A y.n y.c]] ++ caps) W (RetPr W (jnT left ⟨t, m, x⟩ (thD y)).r.length (jnT left ⟨t, m, x⟩ (thD y)).r (btw (dtT left ⟨t, m, x⟩ (thD y)) lo hi))) :
    Calls Tryz.prog 107 #[.pointer (some ⟨jb, 0, none⟩), .pointer (some ⟨jb, so, none⟩), .pointer (some ⟨jb, oo, none⟩), .agg #[.int .i64 t, .slice Ar nr cr, .int .i64 m], .func (Fn.func pf) #[] caps] w (RetTl w base bM i left own lo hi mk f f' S ⟨t, m, x⟩) := by
  obtain ⟨E, hE⟩ : ∃ E, tlE left own lo hi mk ⟨t, m, x⟩ ((f' (keyJ own x)).map thD) = E := ⟨_, rfl⟩
  have HE := hide (show tlE left own lo hi mk ⟨t, m, x⟩ ((f' (keyJ own (⟨t, m, x⟩ : Th).r)).map thD) = E from hE)
  have HUE := hide (show (if okCh t x m then (if hasC x own then (if t < mk then (12 : Int) else (if (rawJ left own lo hi ⟨t, m, x⟩ ((f' (keyJ own x)).map thD)).any badJ then 4 else 0)) else 7) else 1) = E from hE)
  clear hE
  have hjl := World.block_lt_of_cell? _ _ k0
  have hB0 := below_val (w := w) #[.int .i64 t, .slice Ar nr cr, .int .i64 m] 57
  have kb := Blk.new w 57 #[.int .i64 t, .slice Ar nr cr, .int .i64 m]
  have k0' := (hB0.cell (p := ⟨jb, so, none⟩) hjl).trans k0
  have k1' := (hB0.cell (p := ⟨jb, so + 1, none⟩) hjl).trans k1
  have k2' := (hB0.cell (p := ⟨jb, oo + 1, none⟩) hjl).trans k2
  have k6' := (hB0.cell (p := ⟨jb, 6, none⟩) hjl).trans k6
  have hM := h.below hB0
  have hO := h'.below hB0
  have h1' := h1.up hB0
  have hr' := (hr.below hB0).mono hB0.size
  have ht' := ht.below hB0
  have hSlt : ∀ k, S k → k < w.heap.size := fun k hk => (h.typ hk).2.1
  have hbMl := h.lt
  have HQU := hide h.quiet
  have hrlen := hr.len
  have HHP := hide hp
  have HHL := hide hl
  have HHF := hide hf
  have HHL' := hide hl'
  have HHF' := hide hf'
  have HSLT := hide hSlt
  clear k0 k1 k2 k6 h h' h1 hr ht hp hl hf hl' hf' hSlt
  go_enter Tryz.func107, Tryz.ntmps107
  go_upto_region 1 with fail
  obtain ⟨W0, hW0⟩ : ∃ W0, w.alloc (.cells #[.int .i64 t, .slice Ar nr cr, .int .i64 m] 57) = W0 := ⟨_, rfl⟩
  obtain ⟨cb, hcb⟩ : ∃ cb, w.heap.size = cb := ⟨_, rfl⟩
  rw [hW0] at hB0 kb k0' k1' k2' k6' hM hO h1' hr' ht' ⊢
  rw [hcb] at kb ⊢
  have hjl0 : jb < W0.heap.size := Nat.lt_of_lt_of_le hjl hB0.size
  clear hW0
  have b0 : W0.cell? ⟨cb, 0, none⟩ = some (.int .i64 t) := by simpa using kb.cell 0
  have b1 : W0.cell? ⟨cb, 1, none⟩ = some (.slice Ar nr cr) := by simpa using kb.cell 1
  have b2 : W0.cell? ⟨cb, 2, none⟩ = some (.int .i64 m) := by simpa using kb.cell 2
  have HK0 := hide k0'
  have HK1 := hide k1'
  have HK2 := hide k2'
  have HK6 := hide k6'
  have HM := hide hM
  have HO := hide hO
  have H1 := hide h1'
  have HR := hide hr'
  have HT := hide ht'
  have HKB := hide kb
  have HB0 := hide hB0
  clear k0' k1' k2' k6' hM hO h1' ht' hB0
  go_wp2_with fail
  refine (ValidChange_any t Ar nr cr x m W0 hr').mono ?_
  rintro e W1 ⟨rfl, hB1⟩
  clear b0 b1 b2 kb hr'
  obtain ⟨q1, hq1⟩ : ∃ q, okCh t x m = q := ⟨_, rfl⟩
  rw [hq1]
  have HQ1 := hide hq1
  clear hq1
  cases q1
  · have HEE := hide (show E = 1 from by rw [← HUE.out, HQ1.out]; rfl)
    have HB := hide (bstep HB0.out hB1)
    clear hB1
    go_wp2
    refine bodyPost_ret (results_tmp2 rfl _ _ _) rfl ?_
    exact RetTl.bad (HE.out.trans HEE.out) (by decide) HB.out
  have hxo : okR x = true := (okCh_at (c := ⟨t, m, x⟩) HQ1.out).1
  have hnr8 : nr ≤ 8 := by have := okR_len hxo; have h2 : x.length = nr := hrlen; omega
  have hj1 : jb < W1.heap.size := Nat.lt_of_lt_of_le hjl0 hB1.size
  have hc1 : cb < W1.heap.size := Nat.lt_of_lt_of_le HKB.out.lt hB1.size
  have j0 := (hB1.cell (p := ⟨jb, so, none⟩) hjl0).trans HK0.out
  have j1 := (hB1.cell (p := ⟨jb, so + 1, none⟩) hjl0).trans HK1.out
  have j2 := (hB1.cell (p := ⟨jb, oo + 1, none⟩) hjl0).trans HK2.out
  have j6 := (hB1.cell (p := ⟨jb, 6, none⟩) hjl0).trans HK6.out
  have hn1' := hn1
  have c0' : W1.cell? ⟨cb, 0, none⟩ = some (.int .i64 t) := by simpa using (HKB.out.below hB1 HKB.out.lt).cell 0
  have c1' : W1.cell? ⟨cb, 1, none⟩ = some (.slice Ar nr cr) := by simpa using (HKB.out.below hB1 HKB.out.lt).cell 1
  have c2' : W1.cell? ⟨cb, 2, none⟩ = some (.int .i64 m) := by simpa using (HKB.out.below hB1 HKB.out.lt).cell 2
  have p0 := fun (p : BW W1) => BW.cell (a := ⟨jb, so, none⟩) hj1 j0 p
  have px1 := fun (p : BW W1) => BW.cell (a := ⟨cb, 1, none⟩) hc1 c1' p
  obtain ⟨q2, hq2⟩ : ∃ q, hasC x own = q := ⟨_, rfl⟩
  have C1 := hide (fun (p : BW W1) => calls_bw (p := p) (has_pair A1 n1 c1 own Ar nr cr x p.x ((H1.out.up hB1).up p.h) (by omega) hrlen (by omega)))
  rw [hq2] at C1
  have HQ2 := hide hq2
  clear hq2 j1 j2 j6 c0' c2' hn1'
  go_wp2_with fail
  (refine wp_region_quiet_bw (by kernel_rfl) (by kernel_rfl) ?_
   repeat (first | go_big_quiet_step (((go_at_call 82; with_reducible exact C1.out _))) | quiet_step (((go_at_call 82; with_reducible exact C1.out _))))
   refine wpQuiet_nil ?_
   intro wq hw'
   obtain ⟨⟨_, hbq⟩, hw''⟩ := hw'
   subst hw'')
  clear C1 p0 px1 j0 c1' hj1 hc1
  have hB2 := bstep hB1 hbq
  clear hbq hB1
  obtain ⟨W2, hW2⟩ : ∃ W2 : World, W2 = wq := ⟨_, rfl⟩
  subst hW2
  cases q2
  · have HEE := hide (show E = 7 from by rw [← HUE.out, HQ1.out, HQ2.out]; rfl)
    have HB := hide (bstep HB0.out hB2)
    clear hB2
    go_wp2
    refine bodyPost_ret (results_tmp2 rfl _ _ _) rfl ?_
    exact RetTl.bad (HE.out.trans HEE.out) (by decide) HB.out
  have hj1 : jb < W2.heap.size := Nat.lt_of_lt_of_le hjl0 hB2.size
  have hc1 : cb < W2.heap.size := Nat.lt_of_lt_of_le HKB.out.lt hB2.size
  have j0 := (hB2.cell (p := ⟨jb, so, none⟩) hjl0).trans HK0.out
  have j1 := (hB2.cell (p := ⟨jb, so + 1, none⟩) hjl0).trans HK1.out
  have j2 := (hB2.cell (p := ⟨jb, oo + 1, none⟩) hjl0).trans HK2.out
  have j6 := (hB2.cell (p := ⟨jb, 6, none⟩) hjl0).trans HK6.out
  have hn1' := hn1
  have c0' : W2.cell? ⟨cb, 0, none⟩ = some (.int .i64 t) := by simpa using (HKB.out.below hB2 HKB.out.lt).cell 0
  have c1' : W2.cell? ⟨cb, 1, none⟩ = some (.slice Ar nr cr) := by simpa using (HKB.out.below hB2 HKB.out.lt).cell 1
  have c2' : W2.cell? ⟨cb, 2, none⟩ = some (.int .i64 m) := by simpa using (HKB.out.below hB2 HKB.out.lt).cell 2
  have p6 := fun (p : BW W2) => BW.cell (a := ⟨jb, 6, none⟩) hj1 j6 p
  have px0 := fun (p : BW W2) => BW.cell (a := ⟨cb, 0, none⟩) hc1 c0' p
  obtain ⟨q3, hq3⟩ : ∃ q, decide (t < mk) = q := ⟨_, rfl⟩
  have HQ3 := hide hq3
  clear j0 j1 j2 c1' c2' hn1'
  go_wp2_with fail
  (refine wp_region_quiet_bw (by kernel_rfl) (by kernel_rfl) ?_
   repeat (first | go_big_quiet_step ((fail)) | quiet_step ((fail)))
   refine wpQuiet_nil ?_
   intro wq hw'
   obtain ⟨⟨_, hbq⟩, hw''⟩ := hw'
   subst hw'')
  clear p6 px0 j6 c0' hj1 hc1 hq3
  have hB3 := bstep hB2 hbq
  clear hbq hB2
  obtain ⟨W3, hW3⟩ : ∃ W3 : World, W3 = wq := ⟨_, rfl⟩
  subst hW3
  cases q3
  case true =>
    have HEE := hide (show E = 12 from by rw [← HUE.out, HQ1.out, HQ2.out, if_pos rfl, if_pos rfl, if_pos (of_decide_eq_true HQ3.out)])
    have HB := hide (bstep HB0.out hB3)
    clear hB3
    go_wp2
    refine bodyPost_ret (results_tmp2 rfl _ _ _) rfl ?_
    exact RetTl.bad (HE.out.trans HEE.out) (by decide) HB.out
  have HUE2 := hide (show (if (rawJ left own lo hi ⟨t, m, x⟩ ((f' (keyJ own x)).map thD)).any badJ then (4 : Int) else 0) = E from by
    rw [← HUE.out, HQ1.out, HQ2.out, if_pos rfl, if_pos rfl, if_neg (of_decide_eq_false HQ3.out)])
  have hj1 : jb < W3.heap.size := Nat.lt_of_lt_of_le hjl0 hB3.size
  have hc1 : cb < W3.heap.size := Nat.lt_of_lt_of_le HKB.out.lt hB3.size
  have j0 := (hB3.cell (p := ⟨jb, so, none⟩) hjl0).trans HK0.out
  have j1 := (hB3.cell (p := ⟨jb, so + 1, none⟩) hjl0).trans HK1.out
  have j2 := (hB3.cell (p := ⟨jb, oo + 1, none⟩) hjl0).trans HK2.out
  have j6 := (hB3.cell (p := ⟨jb, 6, none⟩) hjl0).trans HK6.out
  have hn1' := hn1
  have c0' : W3.cell? ⟨cb, 0, none⟩ = some (.int .i64 t) := by simpa using (HKB.out.below hB3 HKB.out.lt).cell 0
  have c1' : W3.cell? ⟨cb, 1, none⟩ = some (.slice Ar nr cr) := by simpa using (HKB.out.below hB3 HKB.out.lt).cell 1
  have c2' : W3.cell? ⟨cb, 2, none⟩ = some (.int .i64 m) := by simpa using (HKB.out.below hB3 HKB.out.lt).cell 2
  have p0 := fun (p : BW W3) => BW.cell (a := ⟨jb, so, none⟩) hj1 j0 p
  have px1 := fun (p : BW W3) => BW.cell (a := ⟨cb, 1, none⟩) hc1 c1' p
  obtain ⟨q4, hq4⟩ : ∃ q, nonul (pick x own) = q := ⟨_, rfl⟩
  obtain ⟨ks, hks⟩ : ∃ ks, ofS own x = ks := ⟨_, rfl⟩
  have C1 := hide (fun (p : BW W3) => calls_bw (p := p) (of_any A1 n1 c1 own Ar nr cr x p.x ((H1.out.up hB3).up p.h) hn1 ((HR.out.below (bstep hB3 p.h)).mono (bstep hB3 p.h).size) hrc hxo HQ2.out ((HT.out.below hB3).below p.h)))
  rw [hq4, hks] at C1
  have HQ4 := hide hq4
  have HKS := hide hks
  clear j1 j2 j6 c0' c2' hn1' hq4 hks
  go_wp2_with fail
  (refine wp_region_quiet_bw (by kernel_rfl) (by kernel_rfl) ?_
   repeat (first | go_big_quiet_step (((go_at_call 66; with_reducible exact C1.out _))) | quiet_step (((go_at_call 66; with_reducible exact C1.out _))))
   refine wpQuiet_nil ?_
   intro wq hw'
   obtain ⟨⟨_, hbq⟩, hw''⟩ := hw'
   subst hw'')
  clear C1 p0 px1 j0 c1' hj1 hc1
  have hB4 := bstep hB3 hbq
  clear hbq hB3
  obtain ⟨W4, hW4⟩ : ∃ W4 : World, W4 = wq := ⟨_, rfl⟩
  subst hW4
  cases q4
  · try simp only [Bool.not_true, Bool.not_false]
    obtain ⟨ks2, hks2⟩ : ∃ ks2 : ByteArray, ks2 = { data := #[126] } := ⟨_, rfl⟩
    have hsk : ks2.data.toList = keyJ own x := by
      rw [hks2]
      unfold keyJ kyF
      rw [HQ4.out, if_neg (by decide)]
      rfl
    have hks8 : ks2.data.size ≤ maxLen := by rw [hks2]; unfold maxLen; decide
    obtain ⟨Lo, hLo⟩ : ∃ Lo, f' (keyJ own x) = Lo := ⟨_, rfl⟩
    have HLo := hide hLo
    obtain ⟨vO, hlkO, hownO, _, _⟩ := HO.out.look ks2 hks8
    have HK8 := hide hks8
    clear hks8
    rw [hsk, hLo] at hownO
    have hlen : Lo.length < 400 := by rw [← hLo]; exact HHL'.out _
    have HFo := hide (show ∀ y ∈ Lo, okR y.r = true ∧ -4000 ≤ y.m ∧ y.m ≤ 4000 from by rw [← hLo]; exact HHF'.out _)
    have HRo := hide (show RowsH W0 base Lo from by rw [← hLo]; exact HO.out.rows _)
    have HPo := hide (show ∀ y ∈ Lo, ∀ W, Below w.heap.size w W → Calls Tryz.prog pf (#[.agg #[.int .i64 y.t, .int .i64 y.m, .slice y.A y.n y.c]] ++ caps) W (RetPr W (jnT left ⟨t, m, x⟩ (thD y)).r.length (jnT left ⟨t, m, x⟩ (thD y)).r (btw (dtT left ⟨t, m, x⟩ (thD y)) lo hi)) from fun y hy => HHP.out HQ1.out _ y (by rw [hLo]; exact hy))
    obtain ⟨Ah, ch, rfl, _⟩ := own_form hownO
    have HOW := hide hownO
    have hlk := hlkO W4 (hB4.block bO HO.out.lt)
    have HSK := hide hsk
    clear hLo hownO hlkO hsk
    have hj1 : jb < W4.heap.size := Nat.lt_of_lt_of_le hjl0 hB4.size
    have hc1 : cb < W4.heap.size := Nat.lt_of_lt_of_le HKB.out.lt hB4.size
    have j0 := (hB4.cell (p := ⟨jb, so, none⟩) hjl0).trans HK0.out
    have j1 := (hB4.cell (p := ⟨jb, so + 1, none⟩) hjl0).trans HK1.out
    have j2 := (hB4.cell (p := ⟨jb, oo + 1, none⟩) hjl0).trans HK2.out
    have j6 := (hB4.cell (p := ⟨jb, 6, none⟩) hjl0).trans HK6.out
    have hn1' := hn1
    have c0' : W4.cell? ⟨cb, 0, none⟩ = some (.int .i64 t) := by simpa using (HKB.out.below hB4 HKB.out.lt).cell 0
    have c1' : W4.cell? ⟨cb, 1, none⟩ = some (.slice Ar nr cr) := by simpa using (HKB.out.below hB4 HKB.out.lt).cell 1
    have c2' : W4.cell? ⟨cb, 2, none⟩ = some (.int .i64 m) := by simpa using (HKB.out.below hB4 HKB.out.lt).cell 2
    rw [hks2] at hlk
    have HKS2 := hide hks2
    clear hks2
    clear j0 j1 j6 c0' c1' c2'
    go_wp2_with fail
    clear hlk j2 hj1 hc1
    go_loopw [14, 16, 17, 18, 19, 60] (fun vo _ _ _ _ i wr => ∃ (j : Nat) (Ao : Option Addr) (co : Nat) (lst : List Ch), j ≤ Lo.length ∧ i = .int .i64 j ∧ vo = .slice Ao lst.length co ∧ lst.map thC = [] ∧ lst.any (fun y => badJ (thC y)) = false ∧ lst.length ≤ j ∧
      wr.ownsRow W0.heap.size 57 3 (.slice Ao lst.length co) lst.length (lst.flatMap encCh) ∧ RowsC wr base lst ∧ Below W0.heap.size W0 wr) (fun _ _ _ _ _ i _ => Lo.length - (intOf i).toNat)
    case atStart => exact ⟨0, none, 0, [], Nat.zero_le _, rfl, rfl, rfl, rfl, Nat.zero_le _, World.ownsRow_nil _ _ _ _, (by intro i hi; cases hi), hB4⟩
    case round =>
      clear hB4
      obtain ⟨j, Ao, co, lst, hj, rfl, rfl, hlst, hbad, hlj, hown, hrows, hB⟩ := hrel
      have HLST := hide hlst
      have HBAD := hide hbad
      clear hlst hbad
      have hj1 : jb < wr.heap.size := Nat.lt_of_lt_of_le hjl0 hB.size
      have hc1 : cb < wr.heap.size := Nat.lt_of_lt_of_le HKB.out.lt hB.size
      have j0 := (hB.cell (p := ⟨jb, so, none⟩) hjl0).trans HK0.out
      have j1 := (hB.cell (p := ⟨jb, so + 1, none⟩) hjl0).trans HK1.out
      have j2 := (hB.cell (p := ⟨jb, oo + 1, none⟩) hjl0).trans HK2.out
      have j6 := (hB.cell (p := ⟨jb, 6, none⟩) hjl0).trans HK6.out
      have hn1' := hn1
      have c0' : wr.cell? ⟨cb, 0, none⟩ = some (.int .i64 t) := by simpa using (HKB.out.below hB HKB.out.lt).cell 0
      have c1' : wr.cell? ⟨cb, 1, none⟩ = some (.slice Ar nr cr) := by simpa using (HKB.out.below hB HKB.out.lt).cell 1
      have c2' : wr.cell? ⟨cb, 2, none⟩ = some (.int .i64 m) := by simpa using (HKB.out.below hB HKB.out.lt).cell 2
      by_cases hlt : j < Lo.length
      · have hownw := own_below HOW.out hB
        obtain ⟨bq, oq, y, hA, hbl, hyl, hyc⟩ := (Reads.of_own hownw).elem encHd_len rfl hlt
        have hyin := List.mem_of_getElem? hyl
        obtain ⟨hyo, hym⟩ := HFo.out y hyin
        have HNX := hide (rawH_next (left := left) (lo := lo) (hi := hi) (c := ⟨t, m, x⟩) hyl)
        have e0 : wr.cell? ⟨bq, oq + j * 3, none⟩ = some (.int .i64 y.t) := by simpa using hyc 0 _ rfl
        have e1 : wr.cell? ⟨bq, oq + j * 3 + 1, none⟩ = some (.int .i64 y.m) := by simpa [Nat.add_assoc] using hyc 1 _ rfl
        have e2 : wr.cell? ⟨bq, oq + j * 3 + 2, none⟩ = some (.slice y.A y.n y.c) := by simpa [Nat.add_assoc] using hyc 2 _ rfl
        have q1 : (0 : Int) ≤ (j : Int) := by omega
        have q2 : (j : Int) < (Lo.length : Int) := by omega
        subst hA
        have hba := below_val (w := wr) #[.int .i64 y.t, .int .i64 y.m, .slice y.A y.n y.c] 144
        have kh := Blk.new wr 144 #[.int .i64 y.t, .int .i64 y.m, .slice y.A y.n y.c]
        have HYIN := hide hyin
        clear hyc hyl hyin j0 j1 j2 j6 hownw
        go_upto_region 14 with fail
        obtain ⟨W5, hW5⟩ : ∃ W5, wr.alloc (.cells #[.int .i64 y.t, .int .i64 y.m, .slice y.A y.n y.c] 144) = W5 := ⟨_, rfl⟩
        obtain ⟨hb, hhb⟩ : ∃ hb, wr.heap.size = hb := ⟨_, rfl⟩
        rw [hW5] at hba kh ⊢
        rw [hhb] at kh ⊢
        clear hW5
        have hB5 := bstep hB hba
        have hown5 := own_below hown hba
        have hrows5 : RowsC W5 base lst := fun i hi => (hrows i hi).below hba
        have g0 : W5.cell? ⟨hb, 0, none⟩ = some (.int .i64 y.t) := by simpa using kh.cell 0
        have g1 : W5.cell? ⟨hb, 1, none⟩ = some (.int .i64 y.m) := by simpa using kh.cell 1
        have g2 : W5.cell? ⟨hb, 2, none⟩ = some (.slice y.A y.n y.c) := by simpa using kh.cell 2
        have c0 := (hba.cell (p := ⟨cb, 0, none⟩) hc1).trans c0'
        have c2 := (hba.cell (p := ⟨cb, 2, none⟩) hc1).trans c2'
        have hcb5 : cb < W5.heap.size := Nat.lt_of_lt_of_le hc1 hba.size
        have HCL := hide (HPo.out y HYIN.out W5 (bstep HB0.out hB5))
        clear hba hB hown hrows e0 e1 e2 c0' c1' c2' hj1 hc1
        go_wp2_with fail
        refine HCL.out.mono ?_
        rintro e W6 ⟨A6, c6, rfl, hrow6, hb6⟩
        have hB6 := bstep hB5 hb6
        have kh6 := kh.below hb6 kh.lt
        have g0 : W6.cell? ⟨hb, 0, none⟩ = some (.int .i64 y.t) := by simpa using kh6.cell 0
        have g1 : W6.cell? ⟨hb, 1, none⟩ = some (.int .i64 y.m) := by simpa using kh6.cell 1
        have c0 := (hb6.cell (p := ⟨cb, 0, none⟩) hcb5).trans c0
        have c2 := (hb6.cell (p := ⟨cb, 2, none⟩) hcb5).trans c2
        have hown6 := own_below hown5 hb6
        have hrows6 : RowsC W6 base lst := fun i hi => (hrows5 i hi).below hb6
        clear hb6 kh kh6 HCL hB5 hown5 hrows5 hcb5 g2
        obtain ⟨bm, hbm⟩ : ∃ bm, btw (dtT left ⟨t, m, x⟩ (thD y)) lo hi = bm := ⟨_, rfl⟩
        rw [hbm] at HNX ⊢
        have HBM := hide hbm
        clear hbm
        have HB6 := hide hB6
        have HO6 := hide hown6
        have HR6 := hide hrows6
        clear hB6 hown6 hrows6 hrow6 HNX
        cases bm
        · go_wp2_with fail
          go_roundw
          case rel => exact ⟨j + 1, Ao, co, lst, by omega, by go_num, rfl, HLST.out, HBAD.out, by omega, HO6.out, HR6.out, HB6.out⟩
          case measure => first | (simp [intOf]; done) | (simp [intOf]; omega)
        · go_wp2_with fail
          go_roundw
          case rel => exact ⟨j + 1, Ao, co, lst, by omega, by go_num, rfl, HLST.out, HBAD.out, by omega, HO6.out, HR6.out, HB6.out⟩
          case measure => first | (simp [intOf]; done) | (simp [intOf]; omega)
      · obtain rfl : j = Lo.length := by omega
        have HLS := hide (show lst.map thC = rawJ left own lo hi ⟨t, m, x⟩ ((f' (keyJ own x)).map thD) from by rw [HLST.out, raw_no (show nonul (pick (⟨t, m, x⟩ : Th).r own) = false from HQ4.out)])
        have HEE := hide (show E = 0 from by
          rw [← HUE2.out, ← HLS.out, List.any_map]
          exact if_neg (by rw [show (lst.any (badJ ∘ thC)) = false from HBAD.out]; decide))
        have hBw := bstep HB0.out hB
        have hput := jput_any (sb := jb) (so := so) ks2 t Ar nr cr x m wr j1 hSb (HM.out.below hB) hi' HK8.out (Nat.le_trans hbase hBw.size) ((HR.out.below hB).mono hB.size) (by omega) hxo (by omega) (by rw [HSK.out]; exact HHL.out _) (by rw [HSK.out]; exact HHF.out _)
        rw [HSK.out] at hput
        rw [HKS2.out] at hput
        have HPT := hide hput
        have HOWN := hide hown
        have HROW := hide hrows
        have HBW := hide hBw
        have HQR := hide (HM.out.below hB).quiet
        clear hput j0 j2 j6 hown hrows hB hBw 
        go_wp2_with fail
        refine HPT.out.mono ?_
        rintro e W7 ⟨rfl, l', S2, hl2, hm2, hS2, hfr2⟩
        have hs7 := hfr2.size
        have HL2 := hide hl2
        have hown7 : W7.ownsRow W0.heap.size 57 3 (.slice Ao lst.length co) lst.length (lst.flatMap encCh) := own_blockU HOWN.out fun g hg => hfr2.block g ((HOWN.out.lt g hg).2) (fun e => by have h5 := (HOWN.out.lt g hg).1; have h6 := HB0.out.size; omega) fun e => by have h5 := (HOWN.out.lt g hg).1; have h6 := HB0.out.size; have h7 := HSLT.out g e; omega
        have hrows7 : RowsC W7 base lst := fun i hi => (HROW.out i hi).frp hfr2.frp HQR.out
        have hb07 : base ≤ W0.heap.size := Nat.le_trans hbase HB0.out.size
        have HS := hide (SortC_any W0.heap.size lst.length (.slice Ao lst.length co) lst W7 hown7 (by omega) 154 #[] (enters_of Tryz.func154 (by kernel_rfl) rfl) (fun x y => cmpT (thC x) (thC y)) (swo_tot (Tot.th.comap thC))
          (fun a b W ha hb hbar => tellc_g a b W (((hrows7.oblk hown7 hb07 hbar) a ha).mono (by have := hbar.size; have := HBW.out.size; omega)) (((hrows7.oblk hown7 hb07 hbar) b hb).mono (by have := hbar.size; have := HBW.out.size; omega))))
        have HO7 := hide hown7
        have HR7 := hide hrows7
        have HM7 := hide hm2
        have HF7 := hide hfr2
        have HS2 := hide hS2
        clear hown7 hrows7 hm2 hfr2 hS2 hl2 HPT HQR
        go_wp2_with fail
        refine HS.out.mono ?_
        rintro e W8 ⟨rfl, l2, A8, n8, c8, hv8, hperm, hpw, hrd8, hbar⟩
        injection hv8 with hv1 hv2 hv3
        subst hv1 hv2 hv3
        have hX : ∀ y ∈ obl (Value.slice Ao lst.length co), W0.heap.size ≤ y := fun y hy => (HO7.out.lt y (by unfold obl at hy; simpa using hy)).1
        have hw0 := HB0.out.size
        have HRES := hide (show RetTl w base bM i left own lo hi mk f f' S ⟨t, m, x⟩ (.returned (.tuple #[.slice Ao lst.length co, .int .i64 0])) W8 from by
          refine ⟨Ao, lst.length, co, l2, by rw [HE.out.trans HEE.out], ⟨hrd8, fun h0 b off mm e => ?_, fun i hi => HR7.out.oblk HO7.out hb07 hbar i (hperm.mem_iff.1 hi), by omega⟩, fun h => absurd (HE.out.trans HEE.out) h, fun _ => ⟨(hperm.map thC).trans (.of_eq HLS.out), hpw, l', S2, HL2.out, ?_, fun k hk => ?_, ?_⟩⟩
          · subst e
            have := (HO7.out.lt b rfl).1
            omega
          · refine HM7.out.keepS (P := fun k => k ∈ obl (Value.slice Ao lst.length co)) (fun k hk hn => hbar.block k hk hn) hbar.size fun k hk => ⟨by have := hX k hk; omega, fun e => ?_, HM7.out.notS (own_not HO7.out (by decide) k hk).2, (own_not HO7.out (by decide) k hk).2⟩
            obtain ⟨c9, fz9, h9⟩ := own_cells HO7.out (g := k) (by unfold obl at hk; simpa using hk)
            rw [e] at h9
            exact HM7.out.map_not _ _ _ h9
          · rcases HS2.out k hk with h5 | h5
            · exact .inl h5
            · exact .inr (Nat.le_trans HBW.out.size h5)
          · have h5 := (FrJ.of_below S bM HBW.out).trans HF7.out fun x hx => .inl hx
            exact ⟨hbar.os.trans h5.os, hbar.tape.trans h5.tape, hbar.output.trans h5.output, Nat.le_trans h5.size hbar.size, fun k hk h6 h7 => (hbar.block k (Nat.lt_of_lt_of_le hk h5.size) fun h8 => by have := hX k h8; omega).trans (h5.block k hk h6 h7)⟩)
        clear hperm hpw hrd8 hbar hX
        go_wp2
        refine bodyPost_ret (results_tmp2 rfl _ _ _) rfl ?_
        exact HRES.out
  · try simp only [Bool.not_true, Bool.not_false]
    have hsk : ks.data.toList = keyJ own x := by
      have h1 := HKS.out
      have h2 := HQ4.out
      unfold ofS at h1
      rw [h2, if_pos rfl] at h1
      unfold keyJ kyF
      rw [h2, if_pos rfl, ← h1]
      rfl
    have hks8 : ks.data.size ≤ maxLen := by
      have h1 := HKS.out
      have h2 := HQ4.out
      unfold ofS at h1
      rw [h2, if_pos rfl] at h1
      have h3 := keyC_len (pickC_okV (okR_all hxo) own)
      have h4 := pickC_len x own
      have h5 : own.length = n1 := H1.out.len1
      have h6 : 803 * (pick x own).length ≤ 803 * 1000 := Nat.mul_le_mul_left _ (by omega)
      rw [← h1]
      unfold maxLen
      show (keyC (pick x own)).toArray.size ≤ _
      rw [List.size_toArray]
      omega
    obtain ⟨Lo, hLo⟩ : ∃ Lo, f' (keyJ own x) = Lo := ⟨_, rfl⟩
    have HLo := hide hLo
    obtain ⟨vO, hlkO, hownO, _, _⟩ := HO.out.look ks hks8
    have HK8 := hide hks8
    clear hks8
    rw [hsk, hLo] at hownO
    have hlen : Lo.length < 400 := by rw [← hLo]; exact HHL'.out _
    have HFo := hide (show ∀ y ∈ Lo, okR y.r = true ∧ -4000 ≤ y.m ∧ y.m ≤ 4000 from by rw [← hLo]; exact HHF'.out _)
    have HRo := hide (show RowsH W0 base Lo from by rw [← hLo]; exact HO.out.rows _)
    have HPo := hide (show ∀ y ∈ Lo, ∀ W, Below w.heap.size w W → Calls Tryz.prog pf (#[.agg #[.int .i64 y.t, .int .i64 y.m, .slice y.A y.n y.c]] ++ caps) W (RetPr W (jnT left ⟨t, m, x⟩ (thD y)).r.length (jnT left ⟨t, m, x⟩ (thD y)).r (btw (dtT left ⟨t, m, x⟩ (thD y)) lo hi)) from fun y hy => HHP.out HQ1.out _ y (by rw [hLo]; exact hy))
    obtain ⟨Ah, ch, rfl, _⟩ := own_form hownO
    have HOW := hide hownO
    have hlk := hlkO W4 (hB4.block bO HO.out.lt)
    have HSK := hide hsk
    clear hLo hownO hlkO hsk
    have hj1 : jb < W4.heap.size := Nat.lt_of_lt_of_le hjl0 hB4.size
    have hc1 : cb < W4.heap.size := Nat.lt_of_lt_of_le HKB.out.lt hB4.size
    have j0 := (hB4.cell (p := ⟨jb, so, none⟩) hjl0).trans HK0.out
    have j1 := (hB4.cell (p := ⟨jb, so + 1, none⟩) hjl0).trans HK1.out
    have j2 := (hB4.cell (p := ⟨jb, oo + 1, none⟩) hjl0).trans HK2.out
    have j6 := (hB4.cell (p := ⟨jb, 6, none⟩) hjl0).trans HK6.out
    have hn1' := hn1
    have c0' : W4.cell? ⟨cb, 0, none⟩ = some (.int .i64 t) := by simpa using (HKB.out.below hB4 HKB.out.lt).cell 0
    have c1' : W4.cell? ⟨cb, 1, none⟩ = some (.slice Ar nr cr) := by simpa using (HKB.out.below hB4 HKB.out.lt).cell 1
    have c2' : W4.cell? ⟨cb, 2, none⟩ = some (.int .i64 m) := by simpa using (HKB.out.below hB4 HKB.out.lt).cell 2
    clear j0 j1 j6 c0' c1' c2'
    go_wp2_with fail
    clear hlk j2 hj1 hc1
    go_loopw [14, 16, 17, 18, 19, 60] (fun vo _ _ _ _ i wr => ∃ (j : Nat) (Ao : Option Addr) (co : Nat) (lst : List Ch), j ≤ Lo.length ∧ i = .int .i64 j ∧ vo = .slice Ao lst.length co ∧ lst.map thC = rawH left lo hi ⟨t, m, x⟩ (Lo.take j) ∧ lst.any (fun y => badJ (thC y)) = false ∧ lst.length ≤ j ∧
      wr.ownsRow W0.heap.size 57 3 (.slice Ao lst.length co) lst.length (lst.flatMap encCh) ∧ RowsC wr base lst ∧ Below W0.heap.size W0 wr) (fun _ _ _ _ _ i _ => Lo.length - (intOf i).toNat)
    case atStart => exact ⟨0, none, 0, [], Nat.zero_le _, rfl, rfl, rfl, rfl, Nat.zero_le _, World.ownsRow_nil _ _ _ _, (by intro i hi; cases hi), hB4⟩
    case round =>
      clear hB4
      obtain ⟨j, Ao, co, lst, hj, rfl, rfl, hlst, hbad, hlj, hown, hrows, hB⟩ := hrel
      have HLST := hide hlst
      have HBAD := hide hbad
      clear hlst hbad
      have hj1 : jb < wr.heap.size := Nat.lt_of_lt_of_le hjl0 hB.size
      have hc1 : cb < wr.heap.size := Nat.lt_of_lt_of_le HKB.out.lt hB.size
      have j0 := (hB.cell (p := ⟨jb, so, none⟩) hjl0).trans HK0.out
      have j1 := (hB.cell (p := ⟨jb, so + 1, none⟩) hjl0).trans HK1.out
      have j2 := (hB.cell (p := ⟨jb, oo + 1, none⟩) hjl0).trans HK2.out
      have j6 := (hB.cell (p := ⟨jb, 6, none⟩) hjl0).trans HK6.out
      have hn1' := hn1
      have c0' : wr.cell? ⟨cb, 0, none⟩ = some (.int .i64 t) := by simpa using (HKB.out.below hB HKB.out.lt).cell 0
      have c1' : wr.cell? ⟨cb, 1, none⟩ = some (.slice Ar nr cr) := by simpa using (HKB.out.below hB HKB.out.lt).cell 1
      have c2' : wr.cell? ⟨cb, 2, none⟩ = some (.int .i64 m) := by simpa using (HKB.out.below hB HKB.out.lt).cell 2
      by_cases hlt : j < Lo.length
      · have hownw := own_below HOW.out hB
        obtain ⟨bq, oq, y, hA, hbl, hyl, hyc⟩ := (Reads.of_own hownw).elem encHd_len rfl hlt
        have hyin := List.mem_of_getElem? hyl
        obtain ⟨hyo, hym⟩ := HFo.out y hyin
        have HNX := hide (rawH_next (left := left) (lo := lo) (hi := hi) (c := ⟨t, m, x⟩) hyl)
        have e0 : wr.cell? ⟨bq, oq + j * 3, none⟩ = some (.int .i64 y.t) := by simpa using hyc 0 _ rfl
        have e1 : wr.cell? ⟨bq, oq + j * 3 + 1, none⟩ = some (.int .i64 y.m) := by simpa [Nat.add_assoc] using hyc 1 _ rfl
        have e2 : wr.cell? ⟨bq, oq + j * 3 + 2, none⟩ = some (.slice y.A y.n y.c) := by simpa [Nat.add_assoc] using hyc 2 _ rfl
        have q1 : (0 : Int) ≤ (j : Int) := by omega
        have q2 : (j : Int) < (Lo.length : Int) := by omega
        subst hA
        have hba := below_val (w := wr) #[.int .i64 y.t, .int .i64 y.m, .slice y.A y.n y.c] 144
        have kh := Blk.new wr 144 #[.int .i64 y.t, .int .i64 y.m, .slice y.A y.n y.c]
        have HYIN := hide hyin
        clear hyc hyl hyin j0 j1 j2 j6 hownw
        go_upto_region 14 with fail
        obtain ⟨W5, hW5⟩ : ∃ W5, wr.alloc (.cells #[.int .i64 y.t, .int .i64 y.m, .slice y.A y.n y.c] 144) = W5 := ⟨_, rfl⟩
        obtain ⟨hb, hhb⟩ : ∃ hb, wr.heap.size = hb := ⟨_, rfl⟩
        rw [hW5] at hba kh ⊢
        rw [hhb] at kh ⊢
        clear hW5
        have hB5 := bstep hB hba
        have hown5 := own_below hown hba
        have hrows5 : RowsC W5 base lst := fun i hi => (hrows i hi).below hba
        have g0 : W5.cell? ⟨hb, 0, none⟩ = some (.int .i64 y.t) := by simpa using kh.cell 0
        have g1 : W5.cell? ⟨hb, 1, none⟩ = some (.int .i64 y.m) := by simpa using kh.cell 1
        have g2 : W5.cell? ⟨hb, 2, none⟩ = some (.slice y.A y.n y.c) := by simpa using kh.cell 2
        have c0 := (hba.cell (p := ⟨cb, 0, none⟩) hc1).trans c0'
        have c2 := (hba.cell (p := ⟨cb, 2, none⟩) hc1).trans c2'
        have hcb5 : cb < W5.heap.size := Nat.lt_of_lt_of_le hc1 hba.size
        have HCL := hide (HPo.out y HYIN.out W5 (bstep HB0.out hB5))
        clear hba hB hown hrows e0 e1 e2 c0' c1' c2' hj1 hc1
        go_wp2_with fail
        refine HCL.out.mono ?_
        rintro e W6 ⟨A6, c6, rfl, hrow6, hb6⟩
        have hB6 := bstep hB5 hb6
        have kh6 := kh.below hb6 kh.lt
        have g0 : W6.cell? ⟨hb, 0, none⟩ = some (.int .i64 y.t) := by simpa using kh6.cell 0
        have g1 : W6.cell? ⟨hb, 1, none⟩ = some (.int .i64 y.m) := by simpa using kh6.cell 1
        have c0 := (hb6.cell (p := ⟨cb, 0, none⟩) hcb5).trans c0
        have c2 := (hb6.cell (p := ⟨cb, 2, none⟩) hcb5).trans c2
        have hown6 := own_below hown5 hb6
        have hrows6 : RowsC W6 base lst := fun i hi => (hrows5 i hi).below hb6
        clear hb6 kh kh6 HCL hB5 hown5 hrows5 hcb5 g2
        obtain ⟨bm, hbm⟩ : ∃ bm, btw (dtT left ⟨t, m, x⟩ (thD y)) lo hi = bm := ⟨_, rfl⟩
        rw [hbm] at HNX ⊢
        have HBM := hide hbm
        clear hbm
        cases bm
        · have HN2 := hide (show lst.map thC = rawH left lo hi ⟨t, m, x⟩ (Lo.take (j + 1)) from by rw [HNX.out, HLST.out]; simp)
          have HB6 := hide hB6
          have HO6 := hide hown6
          have HR6 := hide hrows6
          clear hB6 hown6 hrows6 hrow6 HNX
          go_wp2_with fail
          go_roundw
          case rel => exact ⟨j + 1, Ao, co, lst, by omega, by go_num, rfl, HN2.out, HBAD.out, by omega, HO6.out, HR6.out, HB6.out⟩
          case measure => first | (simp [intOf]; done) | (simp [intOf]; omega)
        · obtain ⟨N, hN⟩ : ∃ N, (jnT left ⟨t, m, x⟩ (thD y)).r.length = N := ⟨_, rfl⟩
          have hnb : badJ (jnT left ⟨t, m, x⟩ (thD y)) = decide (8 < N) := by unfold badJ; rw [hN]
          rw [hN] at hrow6 ⊢
          obtain ⟨M, hM⟩ : ∃ M, y.m * m = M := ⟨_, rfl⟩
          have hMb : -400000 ≤ M ∧ M ≤ 400000 := by
            rw [← hM]
            obtain ⟨ya, yb⟩ := hym
            obtain ⟨ma, mb⟩ := hm
            have s1 : (y.m * m).natAbs ≤ 4000 * 100 := by
              rw [Int.natAbs_mul]
              exact Nat.mul_le_mul (by omega) (by omega)
            omega
          have hwm : IntKind.i64.wrap (y.m * m) = M := by rw [hM, IntKind.wrap_i64]; omega
          have HM9 := hide hM
          by_cases hN8 : 8 < N
          · have d1 : decide (8 < N) = true := decide_eq_true hN8
            have d1' : decide ((8 : Int) < (N : Int)) = true := decide_eq_true (by omega)
            have HEE := hide (show E = 4 from by
              rw [← HUE2.out, HLo.out, raw_is (show nonul (pick (⟨t, m, x⟩ : Th).r own) = true from HQ4.out), if_pos (rawH_bad HYIN.out HBM.out (by rw [hnb]; exact d1))])
            have HB := hide (bstep HB0.out hB6)
            clear hB6 hown6 hrows6 hrow6 HNX hN8 hMb
            go_wp2_with fail
            refine bodyPost_ret (results_tmp2 rfl _ _ _) rfl ?_
            exact RetTl.bad (HE.out.trans HEE.out) (by decide) HB.out
          · have d1 : decide (8 < N) = false := decide_eq_false hN8
            have d1' : decide ((8 : Int) < (N : Int)) = false := decide_eq_false (by omega)
            have hbt : btw M (-1000000) 1000000 = true := btw_iff.2 (by omega)
            have d2 : (((lst.length : Nat) : Int) == 400) = false := by
              have : lst.length ≠ 400 := by omega
              simp; omega
            have hrk : RowK W6 base A6 N (jnT left ⟨t, m, x⟩ (thD y)).r := RowK.of_own hrow6 (by omega)
            have hs6 := hB6.size
            obtain ⟨A', c', X', hrun, hown7, hrows7, hblk7, hb7⟩ := oc_app ⟨max t y.t, A6, N, c6, (jnT left ⟨t, m, x⟩ (thD y)).r, M⟩ hown6 hrows6 hrk hs6 (by have := HB0.out.size; omega) (by omega)
            have hln : (lst ++ [(⟨max t y.t, A6, N, c6, (jnT left ⟨t, m, x⟩ (thD y)).r, M⟩ : Ch)]).length = lst.length + 1 := by simp
            have HN2 := hide (show (lst ++ [(⟨max t y.t, A6, N, c6, (jnT left ⟨t, m, x⟩ (thD y)).r, M⟩ : Ch)]).map thC = rawH left lo hi ⟨t, m, x⟩ (Lo.take (j + 1)) from by
              rw [HNX.out, if_pos rfl, List.map_append, HLST.out, ← HM9.out]; rfl)
            have HBD := hide (show (lst ++ [(⟨max t y.t, A6, N, c6, (jnT left ⟨t, m, x⟩ (thD y)).r, M⟩ : Ch)]).any (fun y => badJ (thC y)) = false from by
              rw [List.any_append, HBAD.out]
              have h9 : badJ (jnT left ⟨t, m, x⟩ (thD y)) = false := by rw [hnb]; exact d1
              have h10 : badJ (thC ⟨max t y.t, A6, N, c6, (jnT left ⟨t, m, x⟩ (thD y)).r, M⟩) = false := h9
              rw [List.any_cons, h10]; rfl)
            rw [hln] at hown7
            have HO7 := hide hown7
            have HR7 := hide hrows7
            have HB7 := hide (hB6.trans hb7)
            clear hown6 hrows6 hrow6 hrk hown7 hrows7 hblk7 hb7 hB6 HNX hN8 hs6
            go_wp2_with (first | (at_builtin; refine wpList_append_is rfl _ _ 67 rfl rfl rfl rfl hrun ?_) | (go_at_call 68; refine (pwithin_any M (-1000000) 1000000 _).mono ?_; rintro e w' ⟨rfl, rfl⟩; rw [hbt]))
            go_roundw
            case rel => exact ⟨j + 1, A', c', _, by omega, by go_num, by rw [hln], HN2.out, HBD.out, by omega, by rw [hln]; exact HO7.out, HR7.out, HB7.out⟩
            case measure => first | (simp [intOf]; done) | (simp [intOf]; omega)
      · obtain rfl : j = Lo.length := by omega
        have HLS := hide (show lst.map thC = rawJ left own lo hi ⟨t, m, x⟩ ((f' (keyJ own x)).map thD) from by rw [HLST.out, List.take_length, HLo.out, raw_is (show nonul (pick (⟨t, m, x⟩ : Th).r own) = true from HQ4.out)])
        have HEE := hide (show E = 0 from by
          rw [← HUE2.out, ← HLS.out, List.any_map]
          exact if_neg (by rw [show (lst.any (badJ ∘ thC)) = false from HBAD.out]; decide))
        have hBw := bstep HB0.out hB
        have hput := jput_any (sb := jb) (so := so) ks t Ar nr cr x m wr j1 hSb (HM.out.below hB) hi' HK8.out (Nat.le_trans hbase hBw.size) ((HR.out.below hB).mono hB.size) (by omega) hxo (by omega) (by rw [HSK.out]; exact HHL.out _) (by rw [HSK.out]; exact HHF.out _)
        rw [HSK.out] at hput
      
        have HPT := hide hput
        have HOWN := hide hown
        have HROW := hide hrows
        have HBW := hide hBw
        have HQR := hide (HM.out.below hB).quiet
        clear hput j0 j2 j6 hown hrows hB hBw 
        go_wp2_with fail
        refine HPT.out.mono ?_
        rintro e W7 ⟨rfl, l', S2, hl2, hm2, hS2, hfr2⟩
        have hs7 := hfr2.size
        have HL2 := hide hl2
        have hown7 : W7.ownsRow W0.heap.size 57 3 (.slice Ao lst.length co) lst.length (lst.flatMap encCh) := own_blockU HOWN.out fun g hg => hfr2.block g ((HOWN.out.lt g hg).2) (fun e => by have h5 := (HOWN.out.lt g hg).1; have h6 := HB0.out.size; omega) fun e => by have h5 := (HOWN.out.lt g hg).1; have h6 := HB0.out.size; have h7 := HSLT.out g e; omega
        have hrows7 : RowsC W7 base lst := fun i hi => (HROW.out i hi).frp hfr2.frp HQR.out
        have hb07 : base ≤ W0.heap.size := Nat.le_trans hbase HB0.out.size
        have HS := hide (SortC_any W0.heap.size lst.length (.slice Ao lst.length co) lst W7 hown7 (by omega) 154 #[] (enters_of Tryz.func154 (by kernel_rfl) rfl) (fun x y => cmpT (thC x) (thC y)) (swo_tot (Tot.th.comap thC))
          (fun a b W ha hb hbar => tellc_g a b W (((hrows7.oblk hown7 hb07 hbar) a ha).mono (by have := hbar.size; have := HBW.out.size; omega)) (((hrows7.oblk hown7 hb07 hbar) b hb).mono (by have := hbar.size; have := HBW.out.size; omega))))
        have HO7 := hide hown7
        have HR7 := hide hrows7
        have HM7 := hide hm2
        have HF7 := hide hfr2
        have HS2 := hide hS2
        clear hown7 hrows7 hm2 hfr2 hS2 hl2 HPT HQR
        go_wp2_with fail
        refine HS.out.mono ?_
        rintro e W8 ⟨rfl, l2, A8, n8, c8, hv8, hperm, hpw, hrd8, hbar⟩
        injection hv8 with hv1 hv2 hv3
        subst hv1 hv2 hv3
        have hX : ∀ y ∈ obl (Value.slice Ao lst.length co), W0.heap.size ≤ y := fun y hy => (HO7.out.lt y (by unfold obl at hy; simpa using hy)).1
        have hw0 := HB0.out.size
        have HRES := hide (show RetTl w base bM i left own lo hi mk f f' S ⟨t, m, x⟩ (.returned (.tuple #[.slice Ao lst.length co, .int .i64 0])) W8 from by
          refine ⟨Ao, lst.length, co, l2, by rw [HE.out.trans HEE.out], ⟨hrd8, fun h0 b off mm e => ?_, fun i hi => HR7.out.oblk HO7.out hb07 hbar i (hperm.mem_iff.1 hi), by omega⟩, fun h => absurd (HE.out.trans HEE.out) h, fun _ => ⟨(hperm.map thC).trans (.of_eq HLS.out), hpw, l', S2, HL2.out, ?_, fun k hk => ?_, ?_⟩⟩
          · subst e
            have := (HO7.out.lt b rfl).1
            omega
          · refine HM7.out.keepS (P := fun k => k ∈ obl (Value.slice Ao lst.length co)) (fun k hk hn => hbar.block k hk hn) hbar.size fun k hk => ⟨by have := hX k hk; omega, fun e => ?_, HM7.out.notS (own_not HO7.out (by decide) k hk).2, (own_not HO7.out (by decide) k hk).2⟩
            obtain ⟨c9, fz9, h9⟩ := own_cells HO7.out (g := k) (by unfold obl at hk; simpa using hk)
            rw [e] at h9
            exact HM7.out.map_not _ _ _ h9
          · rcases HS2.out k hk with h5 | h5
            · exact .inl h5
            · exact .inr (Nat.le_trans HBW.out.size h5)
          · have h5 := (FrJ.of_below S bM HBW.out).trans HF7.out fun x hx => .inl hx
            exact ⟨hbar.os.trans h5.os, hbar.tape.trans h5.tape, hbar.output.trans h5.output, Nat.le_trans h5.size hbar.size, fun k hk h6 h7 => (hbar.block k (Nat.lt_of_lt_of_le hk h5.size) fun h8 => by have := hX k h8; omega).trans (h5.block k hk h6 h7)⟩)
        clear hperm hpw hrd8 hbar hX
        go_wp2
        refine bodyPost_ret (results_tmp2 rfl _ _ _) rfl ?_
        exact HRES.out
end Go.Proofs.YtoapjidpfghnlaaGreatDoor
