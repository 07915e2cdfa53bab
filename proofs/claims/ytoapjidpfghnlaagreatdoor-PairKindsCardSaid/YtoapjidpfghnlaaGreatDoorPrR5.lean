/-
  The walks of the reference's both and PutEvent. No condition.
  The walk of the reference's PutEvent. No condition.
  The walk of the reference's Intervals. No condition.
-/
import Derived.Test.YtoapjidpfghnlaaGreatDoorPrR2
import Derived.Test.YtoapjidpfghnlaaGreatDoorPrK
import Derived.Deep.CutRange
namespace Go.Proofs.YtoapjidpfghnlaaGreatDoor

section
open Go.RowKit
attribute [local go_sem] Oper.semAt_some wide_fn wide_depth
set_option linter.unusedVariables false
set_option linter.unusedSimpArgs false

/-- A row of the call's own, handed back. -/
def RetRowO (w : World) (n : Nat) (r : Rw) (e : Ending) (w' : World) : Prop := ∃ A c, e = .returned (.slice A n c) ∧ w'.ownsRow w.heap.size 102 3 (.slice A n c) n (r.flatMap encV) ∧ Below w.heap.size w w'
set_option maxRecDepth 100000 in
set_option maxHeartbeats 2000000 in
theorem OwnO_any (A : Option Addr) (n c B : Nat) (r : Rw) (w : World) (hr : RowK w B A n r) (hn : n ≤ 1000) :
    Calls Tryz.prog 116 #[.slice A n c] w (RetRowO w n r) := by
  obtain ⟨i0, hi, hz0, hz1, hz2⟩ := info_parts3 infoVal
  have hlit := own_lit w 102 3 0 #[] rfl (by unfold maxLen; omega) (Nat.le_refl w.heap.size)
  have hB0 := below_val (w := w) #[] 102
  have hrd := hr.rd.alloc (Nat.le_refl _) (.cells #[] 102)
  have hle := hr.le
  clear hr
  go_enter Tryz.func116, Tryz.ntmps116
  go_wp2_with (at_builtin; refine wpList_append_any _ rfl _ _ 34 rfl w.heap.size 102 i0 _ 3 32 Tryz.underlying34 hi hz0 hz1 hz2 rfl (by decide) (.slice (some ⟨w.heap.size, 0, none⟩) 0 0) 0 [] rfl hlit w.heap.size A n c (r.flatMap encV) rfl hrd one_cell (by unfold maxLen; omega) (by omega) (by simp) ?_; intro v' W1 hown hgrow _; rw [Nat.zero_add, List.nil_append] at hown)
  have hB1 : Below w.heap.size w W1 := below_append hB0 hlit (by simp) hgrow
  obtain ⟨A', c', rfl, hR⟩ := own_form hown
  go_ret
  exact ⟨A', c', rfl, hown, hB1⟩
set_option maxRecDepth 100000 in
set_option maxHeartbeats 2000000 in
theorem both9_any (A : Option Addr) (n c : Nat) (r : Rw) (A' : Option Addr) (n' c' : Nat) (r' : Rw) (w : World) (hr : RowK w w.heap.size A n r) (hr' : RowK w w.heap.size A' n' r') (hn : n ≤ 1000) (hn' : n' ≤ 1000) :
    Calls Tryz.prog 79 #[.slice A n c, .slice A' n' c'] w (RetRowO w (n + n') (r ++ r')) := by
  obtain ⟨i0, hi, hz0, hz1, hz2⟩ := info_parts3 infoVal
  go_enter Tryz.func79, Tryz.ntmps79
  go_wp2_with fail
  refine (OwnO_any A n c _ r w hr hn).mono ?_
  rintro e W1 ⟨A1, c1, rfl, hown1, hB1⟩
  have hs1 := hB1.size
  have hrd := (hr'.below hB1).rd.up (Below.refl _ _)
  have one := one_vals r'
  have hfm : (r ++ r').flatMap encV = r.flatMap encV ++ r'.flatMap encV := by rw [List.flatMap_append]
  have HFM := hide hfm
  clear hfm hr hr'
  go_wp2_with (at_builtin; refine wpList_append_any _ rfl _ _ 34 rfl w.heap.size 102 i0 _ 3 32 Tryz.underlying34 hi hz0 hz1 hz2 rfl (by decide) (.slice A1 n c1) n (r.flatMap encV) rfl hown1 W1.heap.size A' n' c' (r'.flatMap encV) rfl hrd one (by unfold maxLen; omega) (by omega) (by omega) ?_; intro v' W2 hown hgrow _)
  have hB2 : Below w.heap.size w W2 := below_append hB1 hown1 (by omega) hgrow
  obtain ⟨A2, c2, rfl, hR⟩ := own_form hown
  go_ret
  exact ⟨A2, c2, rfl, by rw [HFM.out]; exact hown, hB2⟩

/-! Parts of a slice of events. -/
theorem flat_takeE (l : List Ev) (j : Nat) : (l.take j).flatMap encEv = (l.flatMap encEv).take (j * 2) := by
  induction l generalizing j with
  | nil => simp
  | cons x l ih =>
    cases j with
    | zero => simp
    | succ j =>
      rw [List.take_succ_cons, List.flatMap_cons, List.flatMap_cons, ih, show (j + 1) * 2 = (encEv x).length + j * 2 by rw [encEv_len]; omega, List.take_length_add_append]
theorem flat_dropE (l : List Ev) (j : Nat) : (l.drop j).flatMap encEv = (l.flatMap encEv).drop (j * 2) := by
  induction l generalizing j with
  | nil => simp
  | cons x l ih =>
    cases j with
    | zero => simp
    | succ j =>
      rw [List.drop_succ_cons, List.flatMap_cons, ih, show (j + 1) * 2 = (encEv x).length + j * 2 by rw [encEv_len]; omega, List.drop_length_add_append]
theorem Reads.takeE {w : World} {B n j : Nat} {A : Option Addr} {l : List Ev} (h : Reads w B 2 A n (l.flatMap encEv)) (hj : j ≤ n) : Reads w B 2 A j ((l.take j).flatMap encEv) := by
  have hl := h.len encEv_len (by omega)
  refine ⟨by rw [flat_length encEv_len, List.length_take]; omega, fun h0 => ?_⟩
  obtain ⟨b, off, e, hb, hc⟩ := h.2 (by omega)
  refine ⟨b, off, e, hb, fun i u hu => hc i u ?_⟩
  rw [flat_takeE, List.getElem?_take] at hu
  split at hu
  · exact hu
  · cases hu
def dropAE (A : Option Addr) (j c : Nat) : Option Addr := if c = j then A else A.map (·.add (j * 2))
theorem Reads.dropE {w : World} {B n j c : Nat} {A : Option Addr} {l : List Ev} (h : Reads w B 2 A n (l.flatMap encEv)) (hj : j ≤ n) (hc : n ≤ c) : Reads w B 2 (dropAE A j c) (n - j) ((l.drop j).flatMap encEv) := by
  have hl := h.len encEv_len (by omega)
  refine ⟨by rw [flat_length encEv_len, List.length_drop, hl], fun h0 => ?_⟩
  obtain ⟨b, off, e, hb, hcl⟩ := h.2 (by omega)
  refine ⟨b, off + j * 2, by rw [e]; unfold dropAE; rw [if_neg (by omega)]; simp [add_plain], hb, fun i u hu => ?_⟩
  rw [flat_dropE, List.getElem?_drop] at hu
  have := hcl _ u hu
  rw [Nat.add_assoc]
  exact this
theorem take_runE (A : Option Addr) (n c j : Nat) (hj : j ≤ n) (hc : n ≤ c) (w : World) :
    (Instr.slice 25 (.slice A n c) none (some (.int .i64 (j : Int))) none).run Tryz.prog w = .ok (.slice A j c) w := by
  have u := Tryz.underlying25
  have z := Tryz.sizeOf36
  have q1 : (0 : Int) ≤ (j : Int) := by omega
  have q2 : (j : Int) ≤ (c : Int) := by omega
  unfold Instr.slice
  go_simp
theorem drop_runE (A : Option Addr) (n c j : Nat) (hj : j ≤ n) (hc : n ≤ c) (w : World) :
    (Instr.slice 25 (.slice A n c) (some (.int .i64 (j : Int))) none none).run Tryz.prog w = .ok (.slice (dropAE A j c) (n - j) (c - j)) w := by
  have u := Tryz.underlying25
  have z := Tryz.sizeOf36
  have q1 : (0 : Int) ≤ (j : Int) := by omega
  have q2 : (j : Int) ≤ (n : Int) := by omega
  unfold Instr.slice dropAE
  by_cases h : c = j
  · subst h
    obtain rfl : c = n := by omega
    go_simp
  · go_simp
theorem one_encEvs (l : List Ev) : ∀ u ∈ l.flatMap encEv, u.oneCell' = true := fun u hu => by
  obtain ⟨x, _, hx⟩ := List.mem_flatMap.1 hu
  unfold encEv at hx
  simp only [List.mem_cons, List.not_mem_nil, or_false] at hx
  rcases hx with rfl | rfl <;> rfl
/-- Events, handed back. -/
def RetEvs (w : World) (p : List Te) (e : Ending) (w' : World) : Prop := ∃ A n c k, e = .returned (.slice A n c) ∧ dE k = p ∧ EvR w' w'.heap.size A n k ∧ n ≤ c ∧ Below w.heap.size w w'
theorem cmpE_pos {x y : Te} : cmpE x y < 0 ↔ (x.1 < y.1 ∨ (y.1 = x.1 ∧ 0 < cmpR y.2 x.2)) := by
  have ha := Tot.row.anti x.2 y.2
  unfold cmpE thenC cmpI
  by_cases h1 : x.1 < y.1
  · simp [h1]
  · by_cases h2 : y.1 < x.1
    · simp [h1, h2]; omega
    · have : y.1 = x.1 := by omega
      simp [this]
      omega
end

section
open Go.RowKit
attribute [local go_sem] Oper.semAt_some wide_fn wide_depth
set_option linter.unusedVariables false
set_option linter.unusedSimpArgs false

set_option maxRecDepth 100000 in
set_option maxHeartbeats 4000000 in
theorem PutEvent_any (A : Option Addr) (n c : Nat) (l : List Ev) (x : Ev) (w : World) (hl : EvR w w.heap.size A n l) (hnc : n ≤ c) (hn : n ≤ 100000) (hx : RowK w w.heap.size x.A x.n x.r) :
    Calls Tryz.prog 36 #[.slice A n c, .agg #[.int .i64 x.t, .slice x.A x.n x.c]] w (RetEvs w (stepG cmpE (dE l) (x.t, x.r))) := by
  obtain ⟨i0, hi, hz0, hz1, hz2⟩ := info_parts3 infoEv
  obtain ⟨D, hD⟩ : ∃ D, dE l = D := ⟨_, rfl⟩
  have HLN := hide hl.len
  have HDL := hide (show D.length = n by rw [← hD, dE_len]; exact hl.len)
  have HD := hide hD
  rw [hD]
  clear hD
  have hB0 := below_val (w := w) #[.int .i64 x.t, .slice x.A x.n x.c] 36
  have kz := Blk.new w 36 #[.int .i64 x.t, .slice x.A x.n x.c]
  have hlW := hl.step hB0
  have hxW := (hx.below hB0).mono hB0.size
  have hs0 : (w.alloc (.cells #[.int .i64 x.t, .slice x.A x.n x.c] 36)).heap.size = w.heap.size + 1 := World.size_alloc _ _
  clear hl hx
  go_enter Tryz.func36, Tryz.ntmps36
  go_upto_region 1 with fail
  obtain ⟨W, hW⟩ : ∃ W, w.alloc (.cells #[.int .i64 x.t, .slice x.A x.n x.c] 36) = W := ⟨_, rfl⟩
  obtain ⟨zb, hzb⟩ : ∃ zb, w.heap.size = zb := ⟨_, rfl⟩
  rw [hW] at hB0 kz hlW hxW hs0 ⊢
  rw [hzb] at kz hs0 ⊢
  clear hW
  iterate 14 (first | go_values | go_skip | go_guarded | go_step | go_upon | go_back)
  go_cut [5] from 9 to 46 (fun s5 wx => ∃ j : Nat, s5 = .int .i64 (j : Int) ∧ j ≤ n ∧ atG cmpE (x.t, x.r) D D.length = j ∧ Below W.heap.size W wx)
  case first =>
    go_wp2_with fail
    go_loopw [5] (fun i wz => ∃ j : Nat, j ≤ n ∧ i = .int .i64 (j : Int) ∧ atG cmpE (x.t, x.r) D D.length = atG cmpE (x.t, x.r) D j ∧ Below W.heap.size W wz) (fun i _ => (intOf i).toNat)
    case atStart => exact ⟨n, Nat.le_refl _, rfl, by rw [HDL.out], Below.refl _ _⟩
    case round =>
      obtain ⟨j, hj, rfl, hat, hBr⟩ := hrel
      have HAT := hide hat
      clear hat
      by_cases hj0 : j = 0
      · have z : ¬ ((0 : Int) < (j : Int)) := by omega
        have z' : decide ((0 : Int) < (j : Int)) = false := decide_eq_false z
        have z'' : decide (0 < j) = false := decide_eq_false (by omega)
        have HX := hide (show atG cmpE (x.t, x.r) D D.length = j by rw [HAT.out, hj0]; rfl)
        clear hj0
        go_wp2_with fail
        (refine wp_region_quiet_bw (by kernel_rfl) (by kernel_rfl) ?_
         repeat (first | go_big_quiet_step ((fail)) | quiet_step ((fail)))
         refine wpQuiet_nil ?_
         intro wq hw'
         obtain ⟨⟨_, hbq⟩, hw''⟩ := hw'
         subst hw'')
        have hB3 := bstep hBr hbq
        clear hbq hBr
        go_wp2_with fail
        go_meet
        case rel => exact ⟨j, rfl, hj, HX.out, hB3⟩
      · obtain ⟨t, rfl⟩ : ∃ t, j = t + 1 := ⟨j - 1, by omega⟩
        clear hj0
        obtain ⟨bq, oq, y, rfl, hbl, hyl, r0, r1, hyr⟩ := (hlW.step hBr).at_ (show t < n by omega)
        have hyd : D[t]? = some (y.t, y.r) := by rw [← HD.out]; exact dE_at hyl
        have HYD := hide hyd
        have kxr := kz.below hBr kz.lt
        have b0 : wr.cell? ⟨zb, 0, none⟩ = some (.int .i64 x.t) := by simpa using kxr.cell 0
        have b1 : wr.cell? ⟨zb, 1, none⟩ = some (.slice x.A x.n x.c) := by simpa using kxr.cell 1
        have hxr := hxW.below hBr
        have p0 := fun (p : BW wr) => BW.cell (a := ⟨bq, oq + t * 2, none⟩) hbl r0 p
        have p1 := fun (p : BW wr) => BW.cell (a := ⟨bq, oq + t * 2 + 1, none⟩) hbl r1 p
        have p2 := fun (p : BW wr) => BW.cell (a := ⟨zb, 0, none⟩) kxr.lt b0 p
        have p3 := fun (p : BW wr) => BW.cell (a := ⟨zb, 1, none⟩) kxr.lt b1 p
        have w1 : IntKind.i64.wrap ((t : Int) + 1 - 1) = (t : Int) := by rw [IntKind.wrap_i64]; omega
        have w2 : IntKind.i64.wrap (((t + 1 : Nat) : Int) - 1) = (t : Int) := by rw [IntKind.wrap_i64]; omega
        have q3 : (0 : Int) ≤ (t : Int) := by omega
        have q4 : (t : Int) < (n : Int) := by omega
        have q5 : (0 : Int) < (t : Int) + 1 := by omega
        have q7 : decide (0 < t + 1) = true := decide_eq_true (by omega)
        have q6 : decide ((0 : Int) < (t : Int) + 1) = true := decide_eq_true q5
        have HC1 := hide (fun (p : BW wr) => calls_bw (p := p) (R2Compare_any y.A y.n y.c y.r x.A x.n x.c x.r p.x (hyr.rd.up p.h) ((hxr.below p.h).rd.up (Below.refl _ _)) hyr.le))
        obtain ⟨cc, hcc⟩ : ∃ cc, cmpR y.r x.r = cc := ⟨_, rfl⟩
        have HNG := hide (show cmpE (x.t, x.r) (y.t, y.r) < 0 ↔ (x.t < y.t ∨ (y.t = x.t ∧ 0 < cc)) by rw [← hcc]; exact cmpE_pos)
        rw [hcc] at HC1
        clear hyl hyd hcc r0 r1 kxr b0 b1 hxr hyr
        by_cases c1 : x.t < y.t
        · have d1 : decide (x.t < y.t) = true := decide_eq_true c1
          go_wp2_with fail
          (refine wp_region_quiet_bw (by kernel_rfl) (by kernel_rfl) ?_
           repeat (first | go_big_quiet_step ((fail)) | quiet_step ((fail)))
           refine wpQuiet_nil ?_
           intro wq hw'
           obtain ⟨⟨_, hbq⟩, hw''⟩ := hw'
           subst hw'')
          have hB3 := bstep hBr hbq
          clear hBr hbq p0 p1 p2 p3 HC1
          have HX := hide (show atG cmpE (x.t, x.r) D D.length = atG cmpE (x.t, x.r) D t from HAT.out.trans (atG_go HYD.out (HNG.out.2 (.inl c1))))
          clear HNG HAT
          go_wp2_with fail
          go_roundw
          case rel => exact ⟨t, by omega, by go_num, HX.out, hB3⟩
          case measure => first | (simp [intOf]; done) | (simp [intOf]; omega)
        · have d1 : decide (x.t < y.t) = false := decide_eq_false c1
          by_cases c2 : y.t = x.t
          · have d2 : (y.t == x.t) = true := by simpa using c2
            by_cases c3 : 0 < cc
            · have d3 : decide (0 < cc) = true := decide_eq_true c3
              have HX := hide (show atG cmpE (x.t, x.r) D D.length = atG cmpE (x.t, x.r) D t from HAT.out.trans (atG_go HYD.out (HNG.out.2 (.inr ⟨c2, c3⟩))))
              clear HNG HAT c2 c3
              go_wp2_with fail
              (refine wp_region_quiet_bw (by kernel_rfl) (by kernel_rfl) ?_
               repeat (first | go_big_quiet_step (((go_at_call 106; exact HC1.out _))) | quiet_step (((go_at_call 106; exact HC1.out _))))
               refine wpQuiet_nil ?_
               intro wq hw'
               obtain ⟨⟨_, hbq⟩, hw''⟩ := hw'
               subst hw'')
              have hB3 := bstep hBr hbq
              clear hBr hbq p0 p1 p2 p3 HC1
              go_wp2_with fail
              go_roundw
              case rel => exact ⟨t, by omega, by go_num, HX.out, hB3⟩
              case measure => first | (simp [intOf]; done) | (simp [intOf]; omega)
            · have d3 : decide (0 < cc) = false := decide_eq_false c3
              have HX := hide (show atG cmpE (x.t, x.r) D D.length = t + 1 from HAT.out.trans (atG_stop HYD.out (fun h => by rcases HNG.out.1 h with h | h; exact c1 h; exact c3 h.2)))
              clear HNG HAT c2 c3
              go_wp2_with fail
              (refine wp_region_quiet_bw (by kernel_rfl) (by kernel_rfl) ?_
               repeat (first | go_big_quiet_step (((go_at_call 106; exact HC1.out _))) | quiet_step (((go_at_call 106; exact HC1.out _))))
               refine wpQuiet_nil ?_
               intro wq hw'
               obtain ⟨⟨_, hbq⟩, hw''⟩ := hw'
               subst hw'')
              have hB3 := bstep hBr hbq
              clear hBr hbq p0 p1 p2 p3 HC1
              go_wp2_with fail
              go_meet
              case rel => exact ⟨t + 1, by first | rfl | go_num, hj, HX.out, hB3⟩
          · have d2 : (y.t == x.t) = false := by simpa using c2
            have HX := hide (show atG cmpE (x.t, x.r) D D.length = t + 1 from HAT.out.trans (atG_stop HYD.out (fun h => by rcases HNG.out.1 h with h | h; exact c1 h; exact c2 h.1)))
            clear HNG HAT c2
            go_wp2_with fail
            (refine wp_region_quiet_bw (by kernel_rfl) (by kernel_rfl) ?_
             repeat (first | go_big_quiet_step ((fail)) | quiet_step ((fail)))
             refine wpQuiet_nil ?_
             intro wq hw'
             obtain ⟨⟨_, hbq⟩, hw''⟩ := hw'
             subst hw'')
            have hB3 := bstep hBr hbq
            clear hBr hbq p0 p1 p2 p3 HC1
            go_wp2_with fail
            go_meet
            case rel => exact ⟨t + 1, by first | rfl | go_num, hj, HX.out, hB3⟩
  case rest =>
    obtain ⟨j, rfl, hjn, hat, hBz⟩ := hcut
    have HAT := hide hat
    have hR3 := hlW.step hBz
    have kx3 := kz.below hBz kz.lt
    have b0 : wc.cell? ⟨zb, 0, none⟩ = some (.int .i64 x.t) := by simpa using kx3.cell 0
    have b1 : wc.cell? ⟨zb, 1, none⟩ = some (.slice x.A x.n x.c) := by simpa using kx3.cell 1
    have hsl1 := take_runE A n c j hjn hnc
    have hsl2 := drop_runE A n c j hjn hnc
    have hlit := own_lit wc 36 2 0 #[] rfl (by unfold maxLen; omega) (Nat.le_refl wc.heap.size)
    have hBa := below_val (w := wc) #[] 36
    have hrdA := (hR3.rd.takeE hjn).below hBa
    have hrdB := hR3.rd.dropE hjn hnc
    have hxl := kx3.lt
    have hbelc := bstep hB0 hBz
    have hxc := (hxW.below hBz).mono hBz.size
    have HLEN := hide (show (j + 1) + (n - j) = (l.take j ++ [x] ++ l.drop j).length by simp [HLN.out]; omega)
    obtain ⟨LT, hLT⟩ : ∃ LT, (l.take j).flatMap encEv = LT := ⟨_, rfl⟩
    obtain ⟨LD, hLD⟩ : ∃ LD, (l.drop j).flatMap encEv = LD := ⟨_, rfl⟩
    have one1 : ∀ u ∈ LT, u.oneCell' = true := by rw [← hLT]; exact one_encEvs _
    have one2 : ∀ u ∈ LD, u.oneCell' = true := by rw [← hLD]; exact one_encEvs _
    rw [hLT] at hrdA
    rw [hLD] at hrdB
    have HINS := hide (show ∀ (v3 : Value) (X3 : World), Below wc.heap.size wc X3 → X3.ownsRow wc.heap.size 36 2 v3 ((j + 1) + (n - j)) (LT ++ [.int .i64 x.t, .slice x.A x.n x.c] ++ LD) → RetEvs w (stepG cmpE D (x.t, x.r)) (.returned v3) X3 from fun v3 X3 hB3 ho => by
      obtain ⟨A3, c3, rfl, _⟩ := own_form ho
      have hcap := own_cap ho
      refine ⟨A3, _, c3, l.take j ++ [x] ++ l.drop j, rfl, ?_, ⟨?_, fun y hy => ?_, by have := HLN.out; omega⟩, hcap, bstep hbelc hB3⟩
      · rw [stepG_at HAT.out, ← HD.out]
        simp [dE, List.map_take, List.map_drop]
      · have e : (l.take j ++ [x] ++ l.drop j).flatMap encEv = LT ++ [.int .i64 x.t, .slice x.A x.n x.c] ++ LD := by
          rw [← hLT, ← hLD, List.flatMap_append, List.flatMap_append]; simp [encEv]
        rw [e]
        exact Reads.of_own ho
      · have key : RowK wc wc.heap.size y.A y.n y.r := by
          rcases List.mem_append.1 hy with hy | hy
          · rcases List.mem_append.1 hy with hy | hy
            · exact hR3.rows y (List.mem_of_mem_take hy)
            · obtain rfl := List.mem_singleton.1 hy
              exact hxc
          · exact hR3.rows y (List.mem_of_mem_drop hy)
        exact (key.below hB3).mono hB3.size)
    have q3 : (0 : Int) ≤ (j : Int) := by omega
    have q4 : (j : Int) ≤ (n : Int) := by omega
    clear hR3 kx3 hbelc hxc hLT hLD hat hB0 hlW hxW hBz kz
    have HRD2 := hide (show ∀ X1 : World, Reads (X1.alloc (.cells #[.int .i64 x.t, .slice x.A x.n x.c] 36)) (X1.heap.size + 1) 2 (some ⟨X1.heap.size, 0, none⟩) 1 [.int .i64 x.t, .slice x.A x.n x.c] from fun X1 =>
      ⟨rfl, fun _ => ⟨X1.heap.size, 0, rfl, by omega, fun i u hu => by
        have := (Blk.new X1 36 #[.int .i64 x.t, .slice x.A x.n x.c]).cell i
        rw [Nat.zero_add, this]; simpa using hu⟩⟩)
    go_wp2_with (first | (at_builtin; refine wpList_append_any _ rfl _ _ 25 rfl wc.heap.size 36 i0 _ 2 32 Tryz.underlying25 hi hz0 hz1 hz2 rfl (by decide) (.slice (some ⟨wc.heap.size, 0, none⟩) 0 0) 0 [] rfl hlit wc.heap.size A j c LT rfl hrdA one1 (by unfold maxLen; omega) (by omega) (by simp) ?_; intro v1 X1 own1 grow1 _; rw [Nat.zero_add, List.nil_append] at own1; have hB1 := below_append hBa hlit (by simp) grow1; have e0 := (hB1.cell (p := ⟨zb, 0, none⟩) hxl).trans b0; have e1 := (hB1.cell (p := ⟨zb, 1, none⟩) hxl).trans b1; have own1a := own1.alloc (.cells #[.int .i64 x.t, .slice x.A x.n x.c] 36); have hB1a := hB1.alloc hB1.size (.cells #[.int .i64 x.t, .slice x.A x.n x.c] 36); have hrd2 := HRD2.out X1; have hsz1 := hB1a.size) | (at_builtin; refine wpList_append_any _ rfl _ _ 25 rfl wc.heap.size 36 i0 _ 2 32 Tryz.underlying25 hi hz0 hz1 hz2 rfl (by decide) v1 j LT rfl own1a (X1.heap.size + 1) (some ⟨X1.heap.size, 0, none⟩) 1 1 [.int .i64 x.t, .slice x.A x.n x.c] rfl hrd2 (by simp [Value.oneCell']) (by unfold maxLen; omega) (by omega) hsz1 ?_; intro v2 X2 own2 grow2 _; have hB2 := below_append hB1a own1a hsz1 grow2; have hrd3 := hrdB.below hB2; have hsz2 := hB2.size) | (at_builtin; refine wpList_append_any _ rfl _ _ 25 rfl wc.heap.size 36 i0 _ 2 32 Tryz.underlying25 hi hz0 hz1 hz2 rfl (by decide) v2 (j + 1) _ rfl own2 wc.heap.size (dropAE A j c) (n - j) (c - j) LD rfl hrd3 one2 (by unfold maxLen; omega) (by omega) hsz2 ?_; intro v3 X3 own3 grow3 _; have hB3 := below_append hB2 own2 hsz2 grow3))
    have HEND := hide (HINS.out v3 X3 hB3 own3)
    clear HINS own3 hB3 grow3
    go_ret
    exact HEND.out
end

section
open Go.RowKit
attribute [local go_sem] Oper.semAt_some wide_fn wide_depth
set_option linter.unusedVariables false
set_option linter.unusedSimpArgs false

theorem R9withinV (n lo hi : Int) (w : World) : Calls Tryz.prog 77 #[.int .i64 n, .int .i64 lo, .int .i64 hi] w (RetV w (.bool (btw n lo hi))) :=
  (R9within_any n lo hi w).mono fun e w' h => ⟨h.1, by rw [h.2]; exact Below.refl _ _⟩
/-- Events that are held in a variable. -/
def EvO (cs : List Te) (v : Value) (w : World) : Prop := ∃ A n c l, v = .slice A n c ∧ dE l = cs ∧ EvR w w.heap.size A n l ∧ n ≤ c
theorem EvO.below {cs : List Te} {v : Value} {w w' : World} (h : EvO cs v w) (hb : Below w.heap.size w w') : EvO cs v w' := by
  obtain ⟨A, n, c, l, h1, h2, h3, h4⟩ := h
  exact ⟨A, n, c, l, h1, h2, h3.step hb, h4⟩
theorem pairs_next {on others : List Int} {lo hi : Int} {x : Te} {r : List Te} {k : Nat} {y : Te} (h : r[k]? = some y) :
    pairsOf on others lo hi x (r.take (k + 1)) = pairsOf on others lo hi x (r.take k) ++ if btw (y.1 - x.1) lo hi && eqK on others x.2 y.2 then [(max x.1 y.1, x.2 ++ y.2)] else [] := by
  rw [take_snoc' h, pairs_snoc]
theorem pairsOf_pre (on others : List Int) (lo hi : Int) (x : Te) {a b : List Te} (h : a <+: b) : pairsOf on others lo hi x a <+: pairsOf on others lo hi x b := by
  obtain ⟨c, rfl⟩ := h
  unfold pairsOf
  rw [List.filter_append, List.map_append]
  exact List.prefix_append _ _
theorem sofar_pre2 {on others : List Int} {lo hi : Int} {ll rr : List Te} {k m : Nat} {x : Te} (hx : ll[k]? = some x) : pairsI on others lo hi (ll.take k) rr ++ pairsOf on others lo hi x (rr.take m) <+: pairsI on others lo hi ll rr := by
  have h1 : pairsI on others lo hi (ll.take k) rr ++ pairsOf on others lo hi x (rr.take m) <+: pairsI on others lo hi (ll.take (k + 1)) rr := by
    rw [take_snoc' hx, pairsI_snoc, List.prefix_append_right_inj]
    exact pairsOf_pre _ _ _ _ _ (List.take_prefix _ _)
  exact h1.trans (pairsI_pre _ _ _ _ _ (List.take_prefix _ _))
theorem dE_take (l : List Ev) (k : Nat) : dE (l.take k) = (dE l).take k := by simp [dE, List.map_take]

set_option maxRecDepth 100000 in
set_option maxHeartbeats 16000000 in
theorem RIntervals_any (A1 : Option Addr) (n1 c1 : Nat) (on : List Int) (A2 : Option Addr) (n2 c2 : Nat) (others : List Int) (lo hi : Int) (A3 : Option Addr) (n3 c3 : Nat) (ll : List Ev) (A4 : Option Addr) (n4 c4 : Nat) (lr : List Ev) (w : World)
    (h1 : Reads w w.heap.size 1 A1 n1 (on.map (Value.int .i64))) (h2 : Reads w w.heap.size 1 A2 n2 (others.map (Value.int .i64))) (hn1 : n1 ≤ 1000) (hn2 : n2 ≤ 1000) (h3 : EvR w w.heap.size A3 n3 ll) (h4 : EvR w w.heap.size A4 n4 lr) (hm3 : n3 ≤ 100000) (hm4 : n4 ≤ 100000) :
    Calls Tryz.prog 15 #[.slice A1 n1 c1, .slice A2 n2 c2, .int .i64 lo, .int .i64 hi, .slice A3 n3 c3, .slice A4 n4 c4] w (RetEvE w (intB on others lo hi (dE ll) (dE lr))) := by
  obtain ⟨p, hp⟩ : ∃ p, intB on others lo hi (dE ll) (dE lr) = p := ⟨_, rfl⟩
  rw [hp]
  have HL1 := hide h1.len1
  have HL2 := hide h2.len1
  have HL3 := hide h3.len
  have HL4 := hide h4.len
  have HP1 := hide hp
  unfold intB intE at hp
  obtain ⟨o1, r1⟩ : ∃ b, evsB (dE ll) = b := ⟨_, rfl⟩
  obtain ⟨o2, r2⟩ : ∃ b, evsB (dE lr) = b := ⟨_, rfl⟩
  obtain ⟨o3, r3⟩ : ∃ b, fitK on others = b := ⟨_, rfl⟩
  obtain ⟨o4, r4⟩ : ∃ b, insK on 8 = b := ⟨_, rfl⟩
  obtain ⟨o5, r5⟩ : ∃ b, insK others 8 = b := ⟨_, rfl⟩
  obtain ⟨o6, r6⟩ : ∃ b, spanB lo hi = b := ⟨_, rfl⟩
  obtain ⟨o7, r7⟩ : ∃ b, hasE (dE ll) on = b := ⟨_, rfl⟩
  obtain ⟨o8, r8⟩ : ∃ b, hasE (dE lr) others = b := ⟨_, rfl⟩
  obtain ⟨ALL, hall⟩ : ∃ ALL, pairsI on others lo hi (dE ll) (dE lr) = ALL := ⟨_, rfl⟩
  rw [r1, r2, r3, r4, r5, r6, r7, r8, hall] at hp
  have HP := hide hp
  have HALL := hide hall
  have R1 := hide r1
  have R2 := hide r2
  have R3 := hide r3
  have R4 := hide r4
  have R5 := hide r5
  have R6 := hide r6
  have R7 := hide r7
  have R8 := hide r8
  clear hp hall r1 r2 r3 r4 r5 r6 r7 r8
  go_enter Tryz.func15, Tryz.ntmps15
  go_wp2_with fail
  refine (RValidEvents_any A3 n3 c3 ll w h3).mono ?_
  rintro e W1 ⟨rfl, hB1⟩
  rw [R1.out]
  cases o1
  · go_wp2
    refine bodyPost_ret (results_tmp2 rfl _ _ _) rfl ?_
    rw [show p = ([], 1) from HP.out.symm.trans (by first | rfl | simp)]
    exact EvE_bad hB1 1
  · go_wp2_with fail
    refine (RValidEvents_any A4 n4 c4 lr W1 (h4.step hB1)).mono ?_
    rintro e W2 ⟨rfl, hb⟩
    have hB2 := bstep hB1 hb
    clear hb hB1
    rw [R2.out]
    cases o2
    · go_wp2
      refine bodyPost_ret (results_tmp2 rfl _ _ _) rfl ?_
      rw [show p = ([], 1) from HP.out.symm.trans (by first | rfl | simp)]
      exact EvE_bad hB2 1
    · go_wp2_with fail
      refine (fit_any A1 n1 c1 A2 n2 c2 on others W2 HL1.out HL2.out).mono ?_
      rintro e w' ⟨rfl, rfl⟩
      rw [R3.out]
      cases o3
      · go_wp2
        refine bodyPost_ret (results_tmp2 rfl _ _ _) rfl ?_
        rw [show p = ([], 9) from HP.out.symm.trans (by first | rfl | simp)]
        exact EvE_bad hB2 9
      · go_wp2_with fail
        refine (inside_any A1 n1 c1 on 8 W2 (h1.up hB2) (by omega) (by omega)).mono ?_
        rintro e W3 ⟨rfl, hb⟩
        have hB3 := bstep hB2 hb
        clear hb hB2
        rw [R4.out]
        cases o4
        · go_wp2
          refine bodyPost_ret (results_tmp2 rfl _ _ _) rfl ?_
          rw [show p = ([], 7) from HP.out.symm.trans (by first | rfl | simp)]
          exact EvE_bad hB3 7
        · go_wp2_with fail
          refine (inside_any A2 n2 c2 others 8 W3 (h2.up hB3) (by omega) (by omega)).mono ?_
          rintro e W4 ⟨rfl, hb⟩
          have hB4 := bstep hB3 hb
          clear hb hB3
          rw [R5.out]
          cases o5
          · go_wp2
            refine bodyPost_ret (results_tmp2 rfl _ _ _) rfl ?_
            rw [show p = ([], 7) from HP.out.symm.trans (by first | rfl | simp)]
            exact EvE_bad hB4 7
          · go_wp2_with fail
            refine (revents_any A3 n3 c3 ll A1 n1 c1 on W4 (h3.step hB4) (h1.up hB4) (by omega)).mono ?_
            rintro e W5 ⟨rfl, hb⟩
            have hB5 := bstep hB4 hb
            clear hb hB4
            rw [R7.out]
            cases o7
            · go_wp2
              refine bodyPost_ret (results_tmp2 rfl _ _ _) rfl ?_
              rw [show p = ([], 7) from HP.out.symm.trans (by first | rfl | simp)]
              exact EvE_bad hB5 7
            · go_wp2_with fail
              refine (revents_any A4 n4 c4 lr A2 n2 c2 others W5 (h4.step hB5) (h2.up hB5) (by omega)).mono ?_
              rintro e W6 ⟨rfl, hb⟩
              have hB6 := bstep hB5 hb
              clear hb hB5
              rw [R8.out]
              cases o8
              · go_wp2
                refine bodyPost_ret (results_tmp2 rfl _ _ _) rfl ?_
                rw [show p = ([], 7) from HP.out.symm.trans (by first | rfl | simp)]
                exact EvE_bad hB6 7
              · go_wp2_with fail
                refine (rspan_any lo hi W6).mono ?_
                rintro e w' ⟨rfl, rfl⟩
                rw [R6.out]
                cases o6
                · go_wp2
                  refine bodyPost_ret (results_tmp2 rfl _ _ _) rfl ?_
                  rw [show p = ([], 7) from HP.out.symm.trans (by first | rfl | simp)]
                  exact EvE_bad hB6 7
                · have HFI := hide (show p = if limP ALL then ([], 4) else (srtG cmpE ALL, 0) from HP.out.symm.trans (by cases limP ALL <;> first | rfl | simp))
                  go_wp2_with fail
                  have HOKL := hide (show ∀ x ∈ ll, okE (x.t, x.r) = true from fun x hx => by
                    have r1 := R1.out
                    unfold evsB at r1
                    rw [Bool.and_eq_true] at r1
                    exact List.all_eq_true.1 r1.2 (x.t, x.r) (List.mem_map_of_mem hx))
                  have HOKR := hide (show ∀ x ∈ lr, okE (x.t, x.r) = true from fun x hx => by
                    have r2 := R2.out
                    unfold evsB at r2
                    rw [Bool.and_eq_true] at r2
                    exact List.all_eq_true.1 r2.2 (x.t, x.r) (List.mem_map_of_mem hx))
                  have HHL := hide (show ∀ x ∈ ll, hasC x.r on = true from fun x hx => List.all_eq_true.1 R7.out (x.t, x.r) (List.mem_map_of_mem hx))
                  have HHR := hide (show ∀ x ∈ lr, hasC x.r others = true from fun x hx => List.all_eq_true.1 R8.out (x.t, x.r) (List.mem_map_of_mem hx))
                  have hnn : n1 = n2 := by
                    have r3 := R3.out
                    unfold fitK at r3
                    rw [Bool.and_eq_true, decide_eq_true_eq, HL1.out, HL2.out] at r3
                    exact r3.1
                  have HNN := hide hnn
                  clear R1 R2 R3 R4 R5 R6 R7 R8 HP HP1 hnn
                  have PA := hide h1
                  have PB := hide h2
                  have PC := hide h3
                  have PD := hide h4
                  clear h1 h2 h3 h4
                  go_loopw [14, 15] (fun v i wr => ∃ k : Nat, k ≤ n3 ∧ i = .int .i64 k ∧ EvO (srtG cmpE (pairsI on others lo hi ((dE ll).take k) (dE lr))) v wr ∧ limP (pairsI on others lo hi ((dE ll).take k) (dE lr)) = false ∧ Below w.heap.size w wr) (fun _ i _ => n3 - (intOf i).toNat)
                  case atStart => exact ⟨0, Nat.zero_le _, rfl, ⟨none, 0, 0, [], rfl, rfl, EvR.nil _ _, Nat.le_refl _⟩, rfl, hB6⟩
                  case round =>
                    clear hB6
                    obtain ⟨k, hk, rfl, hO, hlm, hBr⟩ := hrel
                    have HLM := hide hlm
                    clear hlm
                    by_cases hlt : k < n3
                    · have q1 : (0 : Int) ≤ (k : Int) := by omega
                      have q2 : (k : Int) < (n3 : Int) := by omega
                      obtain ⟨bq, oq, x, hq1, hq2, hxk, hq3, hq4, hq5⟩ := (PC.out.step' hBr).at_ hlt
                      have hxin := List.mem_of_getElem? hxk
                      have HX := hide hxk
                      have HXD := hide (dE_at hxk)
                      have hox := HOKL.out x hxin
                      have hoxr : okR x.r = true := okE_row hox
                      obtain ⟨tx1, tx2⟩ : -1000000000000 ≤ x.t ∧ x.t ≤ 1000000000000 := okE_time hox
                      have hx8 := okR_eight hoxr
                      have hovx := okR_vals hoxr
                      have hcx := HHL.out x hxin
                      clear hxk hxin hox hq1 hq2 hq3 hq4 hq5 bq oq
                      go_wp2_with fail
                      go_loopw [14, 16] (fun v i wx => ∃ m : Nat, m ≤ n4 ∧ i = .int .i64 m ∧ EvO (srtG cmpE (pairsI on others lo hi ((dE ll).take k) (dE lr) ++ pairsOf on others lo hi (x.t, x.r) ((dE lr).take m))) v wx ∧ limP (pairsI on others lo hi ((dE ll).take k) (dE lr) ++ pairsOf on others lo hi (x.t, x.r) ((dE lr).take m)) = false ∧ Below w.heap.size w wx) (fun _ i _ => n4 - (intOf i).toNat)
                      case atStart => exact ⟨0, Nat.zero_le _, rfl, by rw [show pairsOf on others lo hi (x.t, x.r) ((dE lr).take 0) = [] from rfl, List.append_nil]; exact hO, by rw [show pairsOf on others lo hi (x.t, x.r) ((dE lr).take 0) = [] from rfl, List.append_nil]; exact HLM.out, hBr⟩
                      case round =>
                        clear hO hBr
                        obtain ⟨m, hm, rfl, hO, hlm, hBr⟩ := hrel
                        have HLW := hide hlm
                        clear hlm
                        by_cases hlt2 : m < n4
                        · skip
                          have q3 : (0 : Int) ≤ (m : Int) := by omega
                          have q4 : (m : Int) < (n4 : Int) := by omega
                          obtain ⟨bx, ox, x', rfl, hbx, hxk', e0, e1, hrx⟩ := (PC.out.step' hBr).at_ hlt
                          obtain rfl : x' = x := by rw [HX.out] at hxk'; exact (Option.some.inj hxk').symm
                          obtain ⟨by_, oy, y, rfl, hby, hyk, f0, f1, hry⟩ := (PD.out.step' hBr).at_ hlt2
                          have hyin := List.mem_of_getElem? hyk
                          have hoy := HOKR.out y hyin
                          have hoyr : okR y.r = true := okE_row hoy
                          obtain ⟨ty1, ty2⟩ : -1000000000000 ≤ y.t ∧ y.t ≤ 1000000000000 := okE_time hoy
                          have hy8 := okR_eight hoyr
                          have hovy := okR_vals hoyr
                          have hcy := HHR.out y hyin
                          have hlx := hrx.len
                          have hly := hry.len
                          have HPN := hide (pairs_next (on := on) (others := others) (lo := lo) (hi := hi) (x := (x'.t, x'.r)) (dE_at hyk))
                          clear hyk hyin hoy hxk'
                          have p0 := fun (p : BW wr) => BW.cell (a := ⟨bx, ox + k * 2, none⟩) hbx e0 p
                          have p1 := fun (p : BW wr) => BW.cell (a := ⟨bx, ox + k * 2 + 1, none⟩) hbx e1 p
                          have p2 := fun (p : BW wr) => BW.cell (a := ⟨by_, oy + m * 2, none⟩) hby f0 p
                          have p3 := fun (p : BW wr) => BW.cell (a := ⟨by_, oy + m * 2 + 1, none⟩) hby f1 p
                          have HC1 := hide (fun (p : BW wr) => calls_bw (p := p) (R9withinV (y.t - x'.t) lo hi p.x))
                          have HC2 := hide (fun (p : BW wr) => calls_bw (p := p) (equal_any A1 n1 c1 on A2 n2 c2 others x'.A x'.n x'.c x'.r y.A y.n y.c y.r p.x (PA.out.up (bstep hBr p.h)) (PB.out.up (bstep hBr p.h)) HNN.out (by omega) ((hrx.below p.h).mono p.h.size) ((hry.below p.h).mono p.h.size) hovx hovy hcx hcy))
                          obtain ⟨u, hu⟩ : ∃ u, btw (y.t - x'.t) lo hi = u := ⟨_, rfl⟩
                          obtain ⟨v2, hv2⟩ : ∃ v2, eqK on others x'.r y.r = v2 := ⟨_, rfl⟩
                          have HPN2 := hide (show pairsOf on others lo hi (x'.t, x'.r) ((dE lr).take (m + 1)) = pairsOf on others lo hi (x'.t, x'.r) ((dE lr).take m) ++ if u && v2 then [(max x'.t y.t, x'.r ++ y.r)] else [] from by rw [HPN.out]; show _ ++ (if btw (y.t - x'.t) lo hi && eqK on others x'.r y.r then _ else _) = _; rw [hu, hv2])
                          rw [hu] at HC1
                          rw [hv2] at HC2
                          clear HPN hu hv2 hovx hovy hcx hcy
                          obtain ⟨cs, hcs⟩ : ∃ cs, pairsI on others lo hi ((dE ll).take k) (dE lr) ++ pairsOf on others lo hi (x'.t, x'.r) ((dE lr).take m) = cs := ⟨_, rfl⟩
                          rw [hcs] at HLW hO
                          have hO0 := hO
                          have w1 : IntKind.i64.wrap (y.t - x'.t) = y.t - x'.t := by rw [IntKind.wrap_i64]; omega
                          cases u
                          · have HX2 := hide (show pairsI on others lo hi ((dE ll).take k) (dE lr) ++ pairsOf on others lo hi (x'.t, x'.r) ((dE lr).take (m + 1)) = cs from by rw [HPN2.out, ← hcs]; simp)
                            go_wp2_with fail
                            (refine wp_region_quiet_bw (by kernel_rfl) (by kernel_rfl) ?_
                             repeat (first | go_big_quiet_step (((go_at_call 77; with_reducible exact HC1.out _))) | quiet_step (((go_at_call 77; with_reducible exact HC1.out _))))
                             refine wpQuiet_nil ?_
                             intro wq hw'
                             obtain ⟨⟨_, hbq⟩, hw''⟩ := hw'
                             subst hw'')
                            have HBZ := hide (bstep hBr hbq)
                            have HO := hide (hO.below hbq)
                            clear hO hO0 hBr hbq p0 p1 p2 p3 HC1 HC2 hcs
                            go_wp2
                            go_roundw
                            case rel => exact ⟨m + 1, by omega, by go_num, by rw [HX2.out]; exact HO.out, by rw [HX2.out]; exact HLW.out, HBZ.out⟩
                            case measure => simp [intOf]; omega
                          · cases v2
                            · have HX2 := hide (show pairsI on others lo hi ((dE ll).take k) (dE lr) ++ pairsOf on others lo hi (x'.t, x'.r) ((dE lr).take (m + 1)) = cs from by rw [HPN2.out, ← hcs]; simp)
                              go_wp2_with fail
                              (refine wp_region_quiet_bw (by kernel_rfl) (by kernel_rfl) ?_
                               repeat (first | go_big_quiet_step ((first | (go_at_call 77; with_reducible exact HC1.out _) | (go_at_call 78; with_reducible exact HC2.out _))) | quiet_step ((first | (go_at_call 77; with_reducible exact HC1.out _) | (go_at_call 78; with_reducible exact HC2.out _))))
                               refine wpQuiet_nil ?_
                               intro wq hw'
                               obtain ⟨⟨_, hbq⟩, hw''⟩ := hw'
                               subst hw'')
                              have HBZ := hide (bstep hBr hbq)
                              have HO := hide (hO.below hbq)
                              clear hO hO0 hBr hbq p0 p1 p2 p3 HC1 HC2 hcs
                              go_wp2
                              go_roundw
                              case rel => exact ⟨m + 1, by omega, by go_num, by rw [HX2.out]; exact HO.out, by rw [HX2.out]; exact HLW.out, HBZ.out⟩
                              case measure => simp [intOf]; omega
                            · have HX2 := hide (show pairsI on others lo hi ((dE ll).take k) (dE lr) ++ pairsOf on others lo hi (x'.t, x'.r) ((dE lr).take (m + 1)) = cs ++ [(max x'.t y.t, x'.r ++ y.r)] from by rw [HPN2.out, ← List.append_assoc, hcs]; simp)
                              have HPRE := hide (show cs ++ [(max x'.t y.t, x'.r ++ y.r)] <+: ALL from by
                                rw [← HX2.out, ← HALL.out]
                                exact sofar_pre2 HXD.out)
                              go_wp2_with fail
                              (refine wp_region_quiet_bw (by kernel_rfl) (by kernel_rfl) ?_
                               repeat (first | go_big_quiet_step ((first | (go_at_call 77; with_reducible exact HC1.out _) | (go_at_call 78; with_reducible exact HC2.out _))) | quiet_step ((first | (go_at_call 77; with_reducible exact HC1.out _) | (go_at_call 78; with_reducible exact HC2.out _))))
                               refine wpQuiet_nil ?_
                               intro wq hw'
                               obtain ⟨⟨_, hbq⟩, hw''⟩ := hw'
                               subst hw'')
                              obtain ⟨wv, hwv⟩ : ∃ wv : World, wv = wq := ⟨_, rfl⟩
                              subst hwv
                              have hBz := bstep hBr hbq
                              have hOz := hO.below hbq
                              have e0 := (hbq.cell hbx).trans e0
                              have e1 := (hbq.cell hbx).trans e1
                              have f0 := (hbq.cell hby).trans f0
                              have f1 := (hbq.cell hby).trans f1
                              have hbx := Nat.lt_of_lt_of_le hbx hbq.size
                              have hby := Nat.lt_of_lt_of_le hby hbq.size
                              have hrx := (hrx.below hbq).mono hbq.size
                              have hry := (hry.below hbq).mono hbq.size
                              clear hO hO0 hBr hbq p0 p1 p2 p3 HC1 HC2 hcs
                              obtain ⟨Ao, no, co, l, rfl, hd, hr, hnc⟩ := hOz
                              have hno : no = cs.length := by rw [← srtG_len Tot.te cs, ← hd, dE_len]; exact hr.len.symm
                              have hno4 : no ≤ 400 := by
                                have h1 := HLW.out
                                unfold limP at h1
                                rw [Bool.or_eq_false_iff] at h1
                                have h2 := h1.2
                                rw [decide_eq_false_iff_not] at h2
                                omega
                              have HNOL := hide (show (x'.r ++ y.r).length = x'.n + y.n ∧ cs.length = no from ⟨by rw [List.length_append, hlx, hly], hno.symm⟩)
                              have HD := hide hd
                              have hxn8 : x'.n ≤ 8 := by rw [← hlx]; exact hx8
                              have hyn8 : y.n ≤ 8 := by rw [← hly]; exact hy8
                              clear hno hd hlx hly
                              have p0 := fun (p : BW wv) => BW.cell (a := ⟨bx, ox + k * 2, none⟩) hbx e0 p
                              have p1 := fun (p : BW wv) => BW.cell (a := ⟨bx, ox + k * 2 + 1, none⟩) hbx e1 p
                              have p2 := fun (p : BW wv) => BW.cell (a := ⟨by_, oy + m * 2, none⟩) hby f0 p
                              have p3 := fun (p : BW wv) => BW.cell (a := ⟨by_, oy + m * 2 + 1, none⟩) hby f1 p
                              by_cases hcase : 8 < x'.n + y.n
                              · have d8 : decide ((8 : Int) < (x'.n : Int) + (y.n : Int)) = true := decide_eq_true (by omega)
                                have d9 : decide (8 < x'.n + y.n) = true := decide_eq_true hcase
                                have HLA := hide (show limP ALL = true from limP_pre (by rw [limP_snoc cs _ HLW.out]; simp [HNOL.out, hcase]) HPRE.out)
                                clear hr hnc hrx hry
                                go_wp2_with fail
                                (refine wp_region_quiet_bw (by kernel_rfl) (by kernel_rfl) ?_
                                 repeat (first | go_big_quiet_step ((fail)) | quiet_step ((fail)))
                                 refine wpQuiet_nil ?_
                                 intro wq hw'
                                 obtain ⟨⟨_, hbq⟩, hw''⟩ := hw'
                                 subst hw'')
                                have HB9 := hide (bstep hBz hbq)
                                clear p0 p1 p2 p3 e0 e1 f0 f1
                                clear hBz hbq
                                go_wp2
                                refine bodyPost_ret (results_tmp2 rfl _ _ _) rfl ?_
                                rw [HFI.out, HLA.out, if_pos rfl]
                                exact EvE_bad HB9.out 4
                              · have d8 : decide ((8 : Int) < (x'.n : Int) + (y.n : Int)) = false := decide_eq_false (by omega)
                                have d9 : decide (8 < x'.n + y.n) = false := decide_eq_false hcase
                                have HC8 := hide hcase
                                clear hcase
                                by_cases hcase : no = 400
                                · have d4 : ((no : Int) == 400) = true := by simp; omega
                                  have d5 : (no == 400) = true := by simpa using hcase
                                  have HLA := hide (show limP ALL = true from limP_pre (by rw [limP_snoc cs _ HLW.out]; simp [HNOL.out, hcase]) HPRE.out)
                                  clear hr hnc hrx hry
                                  go_wp2_with fail
                                  (refine wp_region_quiet_bw (by kernel_rfl) (by kernel_rfl) ?_
                                   repeat (first | go_big_quiet_step ((fail)) | quiet_step ((fail)))
                                   refine wpQuiet_nil ?_
                                   intro wq hw'
                                   obtain ⟨⟨_, hbq⟩, hw''⟩ := hw'
                                   subst hw'')
                                  have HB9 := hide (bstep hBz hbq)
                                  clear p0 p1 p2 p3 e0 e1 f0 f1
                                  clear hBz hbq
                                  go_wp2
                                  refine bodyPost_ret (results_tmp2 rfl _ _ _) rfl ?_
                                  rw [HFI.out, HLA.out, if_pos rfl]
                                  exact EvE_bad HB9.out 4
                                · have d4 : ((no : Int) == 400) = false := by simp; omega
                                  have d5 : (no == 400) = false := by simpa using hcase
                                  have HLF := hide (show limP (cs ++ [(max x'.t y.t, x'.r ++ y.r)]) = false from by rw [limP_snoc cs _ HLW.out]; simp only [HNOL.out]; simp [HC8.out, hcase])
                                  clear hcase
                                  go_wp2_with fail
                                  (refine wp_region_quiet_bw (by kernel_rfl) (by kernel_rfl) ?_
                                   repeat (first | go_big_quiet_step ((fail)) | quiet_step ((fail)))
                                   refine wpQuiet_nil ?_
                                   intro wq hw'
                                   obtain ⟨⟨_, hbq⟩, hw''⟩ := hw'
                                   subst hw'')
                                  obtain ⟨wu, hwu⟩ : ∃ wu : World, wu = wq := ⟨_, rfl⟩
                                  subst hwu
                                  have hBy := bstep hBz hbq
                                  have hr := hr.step hbq
                                  have e0 := (hbq.cell hbx).trans e0
                                  have e1 := (hbq.cell hbx).trans e1
                                  have f0 := (hbq.cell hby).trans f0
                                  have f1 := (hbq.cell hby).trans f1
                                  have hbx := Nat.lt_of_lt_of_le hbx hbq.size
                                  have hby := Nat.lt_of_lt_of_le hby hbq.size
                                  have hrx := (hrx.below hbq).mono hbq.size
                                  have hry := (hry.below hbq).mono hbq.size
                                  clear hBz hbq p0 p1 p2 p3 d8 d9 d4 d5
                                  obtain ⟨mx, hmx⟩ : ∃ mx, max x'.t y.t = mx := ⟨_, rfl⟩
                                  rw [hmx] at HX2 HLF
                                  go_wp2_with fail
                                  refine Held.begin (fun z => z.cell? ⟨bx, ox + k * 2, none⟩ = some (.int .i64 x'.t) ∧ z.cell? ⟨bx, ox + k * 2 + 1, none⟩ = some (.slice x'.A x'.n x'.c) ∧ z.cell? ⟨by_, oy + m * 2, none⟩ = some (.int .i64 y.t) ∧ z.cell? ⟨by_, oy + m * 2 + 1, none⟩ = some (.slice y.A y.n y.c)) 100 (by kernel_rfl) ?_
                                  have hdr : Below wu.heap.size wu wu.drew := (Below.refl _ _).drew
                                  have hS : wu.drew.cell? ⟨bx, ox + k * 2, none⟩ = some (.int .i64 x'.t) ∧ wu.drew.cell? ⟨bx, ox + k * 2 + 1, none⟩ = some (.slice x'.A x'.n x'.c) ∧ wu.drew.cell? ⟨by_, oy + m * 2, none⟩ = some (.int .i64 y.t) ∧ wu.drew.cell? ⟨by_, oy + m * 2 + 1, none⟩ = some (.slice y.A y.n y.c) := ⟨e0, e1, f0, f1⟩
                                  have hB1 := bstep hBy hdr
                                  have hr := hr.step hdr
                                  have hrx := (hrx.below hdr).mono hdr.size
                                  have hry := (hry.below hdr).mono hdr.size
                                  have hbx := Nat.lt_of_lt_of_le hbx hdr.size
                                  have hby := Nat.lt_of_lt_of_le hby hdr.size
                                  obtain ⟨X1, hX1⟩ : ∃ X1, wu.drew = X1 := ⟨_, rfl⟩
                                  rw [hX1] at hS hB1 hr hrx hry hbx hby ⊢
                                  clear hX1 hdr hBy e0 e1 f0 f1
                                  refine Held.take (i := 0) (.slice Ao no co) rfl hS (by kernel_rfl) (by kernel_rfl) (by kernel_rfl) (by kernel_rfl) (fun _ _ _ h => h) rfl (fun y hy => by obtain ⟨x1, x2, x3, x4⟩ := hy; go_simp) ?_
                                  try simp only [Act.put]
                                  refine Held.take (i := 1) (.slice (some ⟨bx, ox, none⟩) n3 c3) rfl hS (by kernel_rfl) (by kernel_rfl) (by kernel_rfl) (by kernel_rfl) (fun _ _ _ h => h) rfl (fun y hy => by obtain ⟨x1, x2, x3, x4⟩ := hy; go_simp) ?_
                                  try simp only [Act.put]
                                  refine Held.take (i := 2) (.int .i64 (k : Int)) rfl hS (by kernel_rfl) (by kernel_rfl) (by kernel_rfl) (by kernel_rfl) (fun _ _ _ h => h) rfl (fun y hy => by obtain ⟨x1, x2, x3, x4⟩ := hy; go_simp) ?_
                                  try simp only [Act.put]
                                  refine Held.take (i := 3) (.pointer (some ⟨bx, ox + k * 2, none⟩)) rfl hS (by kernel_rfl) (by kernel_rfl) (by kernel_rfl) (by kernel_rfl) (fun _ _ _ h => h) rfl (fun y hy => by obtain ⟨x1, x2, x3, x4⟩ := hy; go_simp) ?_
                                  try simp only [Act.put]
                                  refine Held.take (i := 4) (.pointer (some ⟨bx, ox + k * 2, none⟩)) rfl hS (by kernel_rfl) (by kernel_rfl) (by kernel_rfl) (by kernel_rfl) (fun _ _ _ h => h) rfl (fun y hy => by obtain ⟨x1, x2, x3, x4⟩ := hy; go_simp) ?_
                                  try simp only [Act.put]
                                  refine Held.take (i := 5) (.int .i64 x'.t) rfl hS (by kernel_rfl) (by kernel_rfl) (by kernel_rfl) (by kernel_rfl) (fun _ _ _ h => h) rfl (fun y hy => by obtain ⟨x1, x2, x3, x4⟩ := hy; go_simp) ?_
                                  try simp only [Act.put]
                                  refine Held.take (i := 6) (.slice (some ⟨by_, oy, none⟩) n4 c4) rfl hS (by kernel_rfl) (by kernel_rfl) (by kernel_rfl) (by kernel_rfl) (fun _ _ _ h => h) rfl (fun y hy => by obtain ⟨x1, x2, x3, x4⟩ := hy; go_simp) ?_
                                  try simp only [Act.put]
                                  refine Held.take (i := 7) (.int .i64 (m : Int)) rfl hS (by kernel_rfl) (by kernel_rfl) (by kernel_rfl) (by kernel_rfl) (fun _ _ _ h => h) rfl (fun y hy => by obtain ⟨x1, x2, x3, x4⟩ := hy; go_simp) ?_
                                  try simp only [Act.put]
                                  refine Held.take (i := 8) (.pointer (some ⟨by_, oy + m * 2, none⟩)) rfl hS (by kernel_rfl) (by kernel_rfl) (by kernel_rfl) (by kernel_rfl) (fun _ _ _ h => h) rfl (fun y hy => by obtain ⟨x1, x2, x3, x4⟩ := hy; go_simp) ?_
                                  try simp only [Act.put]
                                  refine Held.take (i := 9) (.pointer (some ⟨by_, oy + m * 2, none⟩)) rfl hS (by kernel_rfl) (by kernel_rfl) (by kernel_rfl) (by kernel_rfl) (fun _ _ _ h => h) rfl (fun y hy => by obtain ⟨x1, x2, x3, x4⟩ := hy; go_simp) ?_
                                  try simp only [Act.put]
                                  refine Held.take (i := 10) (.int .i64 y.t) rfl hS (by kernel_rfl) (by kernel_rfl) (by kernel_rfl) (by kernel_rfl) (fun _ _ _ h => h) rfl (fun y hy => by obtain ⟨x1, x2, x3, x4⟩ := hy; go_simp) ?_
                                  try simp only [Act.put]
                                  refine Held.take (i := 11) (.int .i64 mx) rfl hS (by kernel_rfl) (by kernel_rfl) (by kernel_rfl) (by kernel_rfl) (fun _ _ _ h => h) rfl (fun y hy => by obtain ⟨x1, x2, x3, x4⟩ := hy; go_simp) ?_
                                  try simp only [Act.put]
                                  refine Held.take (i := 12) (.slice (some ⟨bx, ox, none⟩) n3 c3) rfl hS (by kernel_rfl) (by kernel_rfl) (by kernel_rfl) (by kernel_rfl) (fun _ _ _ h => h) rfl (fun y hy => by obtain ⟨x1, x2, x3, x4⟩ := hy; go_simp) ?_
                                  try simp only [Act.put]
                                  refine Held.take (i := 13) (.int .i64 (k : Int)) rfl hS (by kernel_rfl) (by kernel_rfl) (by kernel_rfl) (by kernel_rfl) (fun _ _ _ h => h) rfl (fun y hy => by obtain ⟨x1, x2, x3, x4⟩ := hy; go_simp) ?_
                                  try simp only [Act.put]
                                  refine Held.take (i := 14) (.pointer (some ⟨bx, ox + k * 2, none⟩)) rfl hS (by kernel_rfl) (by kernel_rfl) (by kernel_rfl) (by kernel_rfl) (fun _ _ _ h => h) rfl (fun y hy => by obtain ⟨x1, x2, x3, x4⟩ := hy; go_simp) ?_
                                  try simp only [Act.put]
                                  refine Held.take (i := 15) (.pointer (some ⟨bx, ox + k * 2 + 1, none⟩)) rfl hS (by kernel_rfl) (by kernel_rfl) (by kernel_rfl) (by kernel_rfl) (fun _ _ _ h => h) rfl (fun y hy => by obtain ⟨x1, x2, x3, x4⟩ := hy; go_simp) ?_
                                  try simp only [Act.put]
                                  refine Held.take (i := 16) (.slice x'.A x'.n x'.c) rfl hS (by kernel_rfl) (by kernel_rfl) (by kernel_rfl) (by kernel_rfl) (fun _ _ _ h => h) rfl (fun y hy => by obtain ⟨x1, x2, x3, x4⟩ := hy; go_simp) ?_
                                  try simp only [Act.put]
                                  refine Held.take (i := 17) (.slice (some ⟨by_, oy, none⟩) n4 c4) rfl hS (by kernel_rfl) (by kernel_rfl) (by kernel_rfl) (by kernel_rfl) (fun _ _ _ h => h) rfl (fun y hy => by obtain ⟨x1, x2, x3, x4⟩ := hy; go_simp) ?_
                                  try simp only [Act.put]
                                  refine Held.take (i := 18) (.int .i64 (m : Int)) rfl hS (by kernel_rfl) (by kernel_rfl) (by kernel_rfl) (by kernel_rfl) (fun _ _ _ h => h) rfl (fun y hy => by obtain ⟨x1, x2, x3, x4⟩ := hy; go_simp) ?_
                                  try simp only [Act.put]
                                  refine Held.take (i := 19) (.pointer (some ⟨by_, oy + m * 2, none⟩)) rfl hS (by kernel_rfl) (by kernel_rfl) (by kernel_rfl) (by kernel_rfl) (fun _ _ _ h => h) rfl (fun y hy => by obtain ⟨x1, x2, x3, x4⟩ := hy; go_simp) ?_
                                  try simp only [Act.put]
                                  refine Held.take (i := 20) (.pointer (some ⟨by_, oy + m * 2 + 1, none⟩)) rfl hS (by kernel_rfl) (by kernel_rfl) (by kernel_rfl) (by kernel_rfl) (fun _ _ _ h => h) rfl (fun y hy => by obtain ⟨x1, x2, x3, x4⟩ := hy; go_simp) ?_
                                  try simp only [Act.put]
                                  refine Held.take (i := 21) (.slice y.A y.n y.c) rfl hS (by kernel_rfl) (by kernel_rfl) (by kernel_rfl) (by kernel_rfl) (fun _ _ _ h => h) rfl (fun y hy => by obtain ⟨x1, x2, x3, x4⟩ := hy; go_simp) ?_
                                  try simp only [Act.put]
                                  refine Held.one (i := 22) rfl (by kernel_rfl) rfl (fun K hK => ?_)
                                  unfold Oper.wp
                                  go_simp
                                  refine (both9_any x'.A x'.n x'.c x'.r y.A y.n y.c y.r X1 hrx hry (by omega) (by omega)).mono ?_
                                  rintro e X2 ⟨Ac, cc, rfl, hown, hb2⟩
                                  have hrow : RowK X2 X2.heap.size Ac (x'.n + y.n) (x'.r ++ y.r) := RowK.of_own hown (by omega)
                                  have hB2 := bstep hB1 hb2
                                  have hr2 := hr.step hb2
                                  have hS2 : X2.cell? ⟨bx, ox + k * 2, none⟩ = some (.int .i64 x'.t) ∧ X2.cell? ⟨bx, ox + k * 2 + 1, none⟩ = some (.slice x'.A x'.n x'.c) ∧ X2.cell? ⟨by_, oy + m * 2, none⟩ = some (.int .i64 y.t) ∧ X2.cell? ⟨by_, oy + m * 2 + 1, none⟩ = some (.slice y.A y.n y.c) := ⟨(hb2.cell hbx).trans hS.1, (hb2.cell hbx).trans hS.2.1, (hb2.cell hby).trans hS.2.2.1, (hb2.cell hby).trans hS.2.2.2⟩
                                  refine hK _ _ (fun _ => hS2) ?_
                                  try simp only [Act.put]
                                  have hbx2 := Nat.lt_of_lt_of_le hbx hb2.size
                                  have hby2 := Nat.lt_of_lt_of_le hby hb2.size
                                  clear hK K hS hb2 hown hB1 hr hrx hry hbx hby
                                  have hS := hS2
                                  clear hS2
                                  obtain ⟨mm, hmm⟩ : ∃ mm, x'.n + y.n = mm := ⟨_, rfl⟩
                                  rw [hmm] at hrow ⊢
                                  clear hmm HNOL HC8
                                  refine Held.take (i := 23) (.agg #[.int .i64 mx, .slice Ac mm cc]) rfl hS (by kernel_rfl) (by kernel_rfl) (by kernel_rfl) (by kernel_rfl) (fun _ _ _ h => h) rfl (fun y hy => by obtain ⟨x1, x2, x3, x4⟩ := hy; go_simp) ?_
                                  try simp only [Act.put]
                                  refine Held.one (i := 24) rfl (by kernel_rfl) rfl (fun K hK => ?_)
                                  unfold Oper.wp
                                  go_simp
                                  refine (PutEvent_any Ao no co l ⟨mx, Ac, mm, cc, x'.r ++ y.r⟩ X2 hr2 hnc (by omega) hrow).mono ?_
                                  rintro e X3 ⟨An, nn, cn, ln, rfl, hdn, hrn, hncn, hb3⟩
                                  have hB3 := bstep hB2 hb3
                                  have HS3 := hide (show X3.cell? ⟨bx, ox + k * 2, none⟩ = some (.int .i64 x'.t) ∧ X3.cell? ⟨bx, ox + k * 2 + 1, none⟩ = some (.slice x'.A x'.n x'.c) ∧ X3.cell? ⟨by_, oy + m * 2, none⟩ = some (.int .i64 y.t) ∧ X3.cell? ⟨by_, oy + m * 2 + 1, none⟩ = some (.slice y.A y.n y.c) from ⟨(hb3.cell hbx2).trans hS.1, (hb3.cell hbx2).trans hS.2.1, (hb3.cell hby2).trans hS.2.2.1, (hb3.cell hby2).trans hS.2.2.2⟩)
                                  refine hK _ _ (fun _ => HS3.out) ?_
                                  try simp only [Act.put]
                                  have HO := hide (show EvO (srtG cmpE (cs ++ [(mx, x'.r ++ y.r)])) (.slice An nn cn) X3 from ⟨An, nn, cn, ln, rfl, by rw [srtG_snoc, hdn, HD.out], hrn, hncn⟩)
                                  clear hK K hS hb3 hB2 hr2 hrow hdn hrn hncn hbx2 hby2
                                  refine Held.one (i := 25) rfl (by kernel_rfl) rfl (fun K hK => ?_)
                                  unfold Oper.wp
                                  go_simp
                                  refine hK _ _ (fun _ => HS3.out) ?_
                                  try simp only [Act.put]
                                  clear hK K
                                  refine Held.done (by kernel_rfl) ?_
                                  go_wp2
                                  go_roundw
                                  case rel => exact ⟨m + 1, by omega, by go_num, by rw [HX2.out]; exact HO.out, by rw [HX2.out]; exact HLF.out, hB3⟩
                                  case measure => simp [intOf]; omega
                        · obtain rfl : n4 = m := by omega
                          have HNX := hide (show pairsI on others lo hi ((dE ll).take (k + 1)) (dE lr) = pairsI on others lo hi ((dE ll).take k) (dE lr) ++ pairsOf on others lo hi (x.t, x.r) ((dE lr).take n4) from by
                            rw [take_snoc' HXD.out, pairsI_snoc, show (dE lr).take n4 = dE lr from List.take_of_length_le (by rw [dE_len, HL4.out]; exact Nat.le_refl _)])
                          rw [← HNX.out] at hO HLW
                          go_wp2
                          go_roundw
                          case rel => exact ⟨k + 1, by omega, by go_num, hO, HLW.out, hBr⟩
                          case measure => simp [intOf]; omega
                    · obtain rfl : k = n3 := by omega
                      rw [List.take_of_length_le (by rw [dE_len, HL3.out]; exact Nat.le_refl _), HALL.out] at hO HLM
                      obtain ⟨A, n, c, l, rfl, hd, hr, hnc⟩ := hO
                      have HEND := hide (show RetEvE w p (.returned (.tuple #[.slice A n c, .int .i64 0])) wr from by
                        rw [HFI.out, HLM.out]
                        exact ⟨A, n, c, l, rfl, hd, hr, hnc, hBr⟩)
                      clear hr hBr hd
                      go_wp2
                      refine bodyPost_ret (results_tmp2 rfl _ _ _) rfl ?_
                      exact HEND.out
end

end Go.Proofs.YtoapjidpfghnlaaGreatDoor
