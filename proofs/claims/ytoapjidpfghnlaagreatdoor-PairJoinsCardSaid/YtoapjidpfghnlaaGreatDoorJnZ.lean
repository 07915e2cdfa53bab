/-
  The walk of the reference's Mark. No condition. (Printed by gen_jnZ.)
-/
import Derived.Test.YtoapjidpfghnlaaGreatDoorJnX
import Derived.Test.YtoapjidpfghnlaaGreatDoorJnK
namespace Go.Proofs.YtoapjidpfghnlaaGreatDoor
open Go.RowKit
attribute [local go_sem] Oper.semAt_some wide_fn wide_depth
set_option linter.unusedVariables false
set_option linter.unusedSimpArgs false

theorem JR.setM {w : World} {base b : Nat} {s : JoS} {mk : Int} {vL vR : Value} {L R : List Ch} (h : JR w base b s mk vL L vR R) (m : Int) : JR (w.setCell ⟨b, 6, none⟩ (.int .i64 m)) base b s m vL L vR R ∧ FrP (fun k => k = b) w (w.setCell ⟨b, 6, none⟩ (.int .i64 m)) := by
  have c6 := h.blk.cell 6
  simp [JoS.rcells] at c6
  have hf := frp_setY (v := .int .i64 m) c6
  exact ⟨⟨by simpa [JoS.rcells] using h.blk.set_ 6 (.int .i64 m), h.on.frp hf h.quiet, h.ot.frp hf h.quiet, h.l.frp hf h.quiet, h.r.frp hf h.quiet, h.low⟩, hf⟩
/-- What the reference's Mark hands back, and what it makes of its joiner. -/
def RetMr (w : World) (base b : Nat) (s : JoS) (mk m : Int) (vL : Value) (Ll : List Ch) (vR : Value) (Rl : List Ch) (e : Ending) (w' : World) : Prop :=
  ∃ E, e = .returned (.tuple #[.slice none 0 0, .int .i64 E]) ∧ E = mkE mk m ∧ FrP (fun k => k = b) w w' ∧ (E ≠ 0 → JR w' base b s mk vL Ll vR Rl) ∧
    (E = 0 → ∃ vL' L' vR' R', JR w' base b s m vL' L' vR' R' ∧ L'.map thC = (Ll.map thC).filter (keepL s.hi m) ∧ R'.map thC = (Rl.map thC).filter (keepL (-s.lo) m))
theorem RMarkJ_nil (m : Int) (w : World) : Calls Tryz.prog 46 #[.pointer none, .int .i64 m] w (fun e w' => e = .returned (.tuple #[.slice none 0 0, .int .i64 1]) ∧ Below w.heap.size w w') := by
  go_enter Tryz.func46, Tryz.ntmps46
  go_wp2
  refine bodyPost_ret (results_tmp2 rfl _ _ _) rfl ?_
  exact ⟨rfl, Below.refl _ _⟩
theorem filt_next {l : List Ch} {j : Nat} {y : Ch} {p : Th → Bool} (h : l[j]? = some y) : (((l.take (j + 1)).map thC).filter p) = ((l.take j).map thC).filter p ++ if p (thC y) then [thC y] else [] := by
  rw [take_map h, List.filter_append]
  congr 1
  cases e : p (thC y)
  · rw [List.filter_cons_of_neg (by simp [e])]; rfl
  · rw [List.filter_cons_of_pos (by simp [e])]; rfl
set_option maxRecDepth 100000 in
set_option maxHeartbeats 16000000 in
theorem RMarkJ_any {base b q : Nat} {s : JoS} {mk : Int} {vL vR : Value} {Ll Rl : List Ch} (m : Int) (w : World) (h : JR w base b s mk vL Ll vR Rl)
    (hbl : BdT s.on q (Ll.map thC)) (hbr : BdT s.others q (Rl.map thC)) (hq : q ≤ 40) (hbase : base ≤ w.heap.size) (hlo : -1000000000 ≤ s.lo ∧ s.lo ≤ 1000000000) (hhi : -1000000000 ≤ s.hi ∧ s.hi ≤ 1000000000) :
    Calls Tryz.prog 46 #[.pointer (some ⟨b, 0, none⟩), .int .i64 m] w (RetMr w base b s mk m vL Ll vR Rl) := by
  obtain ⟨AL, cL, hvL, _⟩ := own_form h.l.own
  obtain ⟨AR, cR, hvR, _⟩ := own_form h.r.own
  subst hvL hvR
  have HJ := hide h
  have hlL : Ll.length ≤ 40 := by have h5 := hbl.len; rw [List.length_map] at h5; omega
  have hlR : Rl.length ≤ 40 := by have h5 := hbr.len; rw [List.length_map] at h5; omega
  have HLL := hide (show ∀ y ∈ Ll, -1000000000000 ≤ y.t ∧ y.t ≤ 1000000000000 from fun y hy => by
    have h5 := hbl.ok (thC y) (List.mem_map.2 ⟨y, hy, rfl⟩)
    have h8 : (thC y).t = y.t := rfl
    exact ⟨by omega, by omega⟩)
  have HLR := hide (show ∀ y ∈ Rl, -1000000000000 ≤ y.t ∧ y.t ≤ 1000000000000 from fun y hy => by
    have h5 := hbr.ok (thC y) (List.mem_map.2 ⟨y, hy, rfl⟩)
    have h8 : (thC y).t = y.t := rfl
    exact ⟨by omega, by omega⟩)
  have c6 := h.blk.cell 6
  simp [JoS.rcells] at c6
  have hbw := h.blk.lt
  clear h hbl hbr
  go_enter Tryz.func46, Tryz.ntmps46
  go_wp2_with fail
  refine (R9within_any m mk 1000000000001 w).mono ?_
  rintro e w' ⟨rfl, rfl⟩
  cases hq1 : btw m mk 1000000000001
  · have HE := hide (show mkE mk m = 7 from by unfold mkE; rw [hq1]; rfl)
    clear hq1 c6
    go_wp2
    refine bodyPost_ret (results_tmp2 rfl _ _ _) rfl ?_
    exact ⟨7, rfl, HE.out.symm, FrP.of_below (Below.refl _ _), fun _ => HJ.out, fun h => absurd h (by decide)⟩
  have HE := hide (show mkE mk m = 0 from by unfold mkE; rw [hq1]; rfl)
  clear hq1 c6
  try simp only [Bool.not_true, Bool.not_false]
  have hB0 : Below w.heap.size w w := Below.refl _ _
  go_wp2_with fail
  go_loopw [6, 8] (fun vo i wr => ∃ (k : Nat) (Ao : Option Addr) (co : Nat) (lo : List Ch), k ≤ Ll.length ∧ i = .int .i64 k ∧ vo = .slice Ao lo.length co ∧ lo.map thC = ((Ll.take k).map thC).filter (keepL s.hi m) ∧ lo.length ≤ k ∧
    wr.ownsRow w.heap.size 57 3 (.slice Ao lo.length co) lo.length (lo.flatMap encCh) ∧ RowsC wr base lo ∧ Below w.heap.size w wr) (fun _ i _ => Ll.length - (intOf i).toNat)
  case atStart => exact ⟨0, none, 0, [], Nat.zero_le _, rfl, rfl, rfl, Nat.zero_le _, World.ownsRow_nil _ _ _ _, (by intro i hi; cases hi), hB0⟩
  case round =>
    clear hB0
    obtain ⟨k, Ao, co, lo, hk, rfl, rfl, hlo2, hlk, hown, hrows, hB⟩ := hrel
    have HLO := hide hlo2
    clear hlo2
    have hBw : Below w.heap.size w wr := hB
    have HJr := hide (HJ.out.below hBw)
    have hbl := HJr.out.blk.lt
    have jl := HJr.out.blk.cell 4
    have jh := HJr.out.blk.cell 3
    simp [JoS.rcells] at jl jh
    by_cases hlt : k < Ll.length
    · obtain ⟨bq, oq, y, hA, hbq2, hyl, hyc⟩ := (Reads.of_own HJr.out.l.own).elem encCh_len rfl hlt
      have hyin := List.mem_of_getElem? hyl
      have hyr := HJr.out.l.rows y hyin
      obtain ⟨hy3, hy4⟩ := HLL.out y hyin
      have HNX := hide (filt_next (p := keepL (s.hi) m) hyl)
      have e0 : wr.cell? ⟨bq, oq + k * 3, none⟩ = some (.int .i64 y.t) := by simpa using hyc 0 _ rfl
      have e1 : wr.cell? ⟨bq, oq + k * 3 + 1, none⟩ = some (.slice y.A y.n y.c) := by simpa [Nat.add_assoc] using hyc 1 _ rfl
      have e2 : wr.cell? ⟨bq, oq + k * 3 + 2, none⟩ = some (.int .i64 y.m) := by simpa [Nat.add_assoc] using hyc 2 _ rfl
      have q1 : (0 : Int) ≤ (k : Int) := by omega
      have q2 : (k : Int) < (Ll.length : Int) := by omega
      rw [hA] at jl
      have pl := fun (p : BW wr) => BW.cell (a := ⟨b, 4, none⟩) hbl jl p
      have ph := fun (p : BW wr) => BW.cell (a := ⟨b, 3, none⟩) hbl jh p
      have p0 := fun (p : BW wr) => BW.cell (a := ⟨bq, oq + k * 3, none⟩) hbq2 e0 p
      have hw9 : IntKind.i64.wrap (y.t + s.hi) = y.t + s.hi := by rw [IntKind.wrap_i64]; omega
      obtain ⟨u, hu⟩ : ∃ u, decide (m ≤ y.t + s.hi) = u := ⟨_, rfl⟩
      have HKP := hide (show keepL (s.hi) m (thC y) = u from by
        rw [← hu]
        unfold keepL
        have h8 : (thC y).t = y.t := rfl
        rw [h8]
        by_cases h9 : m ≤ y.t + s.hi
        · rw [decide_eq_true h9, decide_eq_false (by omega)]; rfl
        · rw [decide_eq_false h9, decide_eq_true (by omega)]; rfl)
      clear hyc hyl hyin hA
      go_upto_region 9 with fail
      go_cut [42] from 19 to 52 (fun s1 wx => s1 = .bool u ∧ Below wr.heap.size wr wx)
      case first =>
        clear hown hrows hB hBw e1 e2
        (refine wp_region_quiet_bw (by kernel_rfl) (by kernel_rfl) ?_
         repeat (first | go_big_quiet_step ((fail)) | quiet_step ((fail)))
         refine wpQuiet_nil ?_
         intro wq hw'
         obtain ⟨⟨_, hbq⟩, hw''⟩ := hw'
         subst hw'')
        have HBQ := hide hbq
        clear hbq pl ph p0
        go_wp2_with fail
        go_meet
        case rel => exact ⟨rfl, HBQ.out⟩
      case rest =>
      obtain ⟨rfl, hbq⟩ := hcut
      obtain ⟨V, hV⟩ : ∃ V : World, V = wc := ⟨_, rfl⟩
      subst hV
      have hB3 := bstep hB hbq
      have hown3 := own_below hown hbq
      have hrows3 : RowsC V base lo := fun i hi => (hrows i hi).below hbq
      have hyr3 := hyr.below hbq
      have jl3 := (hbq.cell (p := ⟨b, 4, none⟩) hbl).trans jl
      have f0 := (hbq.cell (p := ⟨bq, oq + k * 3, none⟩) hbq2).trans e0
      have f1 := (hbq.cell (p := ⟨bq, oq + k * 3 + 1, none⟩) hbq2).trans e1
      have f2 := (hbq.cell (p := ⟨bq, oq + k * 3 + 2, none⟩) hbq2).trans e2
      clear hbq hB hBw pl ph p0 hown hrows hyr jl jh e0 e1 e2 HJr hu hbl
      cases u
      · have HN2 := hide (show lo.map thC = ((Ll.take (k + 1)).map thC).filter (keepL (s.hi) m) from by rw [HNX.out, HKP.out, if_neg (by decide), List.append_nil]; exact HLO.out)
        have HO3 := hide hown3
        have HR3 := hide hrows3
        have HB3 := hide hB3
        clear HNX hown3 hrows3 hB3 hyr3 jl3 f0 f1 f2
        go_wp2_with fail
        go_roundw
        case rel => exact ⟨k + 1, Ao, co, lo, by omega, by go_num, rfl, HN2.out, by omega, HO3.out, HR3.out, HB3.out⟩
        case measure => first | (simp [intOf]; done) | (simp [intOf]; omega)
      · obtain ⟨A', c', X', hrun, hown4, hrows4, hblk4, hb4⟩ := oc_app y hown3 hrows3 hyr3 hB3.size (hbase) (by omega)
        have hlen : (lo ++ [y]).length = lo.length + 1 := by simp
        rw [hlen] at hown4
        have HN2 := hide (show (lo ++ [y]).map thC = ((Ll.take (k + 1)).map thC).filter (keepL (s.hi) m) from by rw [HNX.out, HKP.out, if_pos rfl, List.map_append, HLO.out]; rfl)
        have HO4 := hide hown4
        have HR4 := hide hrows4
        have HB4 := hide (hB3.trans hb4)
        have HLEN := hide hlen
        clear HNX hown3 hrows3 hB3 hyr3 hown4 hrows4 hblk4 hb4 hlen
        go_wp2_with (at_builtin; refine wpList_append_is rfl _ _ 67 rfl rfl rfl rfl hrun ?_)
        go_roundw
        case rel => exact ⟨k + 1, A', c', lo ++ [y], by omega, by go_num, by rw [HLEN.out], HN2.out, by rw [HLEN.out]; omega, by rw [HLEN.out]; exact HO4.out, HR4.out, HB4.out⟩
        case measure => first | (simp [intOf]; done) | (simp [intOf]; omega)
    · obtain rfl : k = Ll.length := by omega
      have htk : Ll.take Ll.length = Ll := List.take_length
      have HL1 := hide (show lo.map thC = (Ll.map thC).filter (keepL s.hi m) from by have := HLO.out; rwa [htk] at this)
      have HO1 := hide hown
      have HR1 := hide hrows
      have HB1 := hide hB
      clear hown hrows hB HLO htk hBw HJr hbl jl jh
      obtain ⟨l1, hl1⟩ : ∃ l1, l1 = lo := ⟨_, rfl⟩
      obtain ⟨A1, hA1⟩ : ∃ A1, A1 = Ao := ⟨_, rfl⟩
      obtain ⟨c1, hc1⟩ : ∃ c1, c1 = co := ⟨_, rfl⟩
      subst hl1 hA1 hc1
      have hB0 : Below wr.heap.size wr wr := Below.refl _ _
      have hJ8 := HJ.out.below HB1.out
      have jl := hJ8.blk.cell 4
      simp [JoS.rcells] at jl
      clear hJ8
      go_wp2_with fail
      clear jl
      obtain ⟨W8, hW8⟩ : ∃ V : World, wr = V := ⟨_, rfl⟩
      rw [hW8] at HO1 HR1 HB1 hB0 ⊢
      clear hW8
      go_loopw [7, 9] (fun vo i wr => ∃ (k : Nat) (Ao : Option Addr) (co : Nat) (lo : List Ch), k ≤ Rl.length ∧ i = .int .i64 k ∧ vo = .slice Ao lo.length co ∧ lo.map thC = ((Rl.take k).map thC).filter (keepL (-s.lo) m) ∧ lo.length ≤ k ∧
        wr.ownsRow W8.heap.size 57 3 (.slice Ao lo.length co) lo.length (lo.flatMap encCh) ∧ RowsC wr base lo ∧ Below W8.heap.size W8 wr) (fun _ i _ => Rl.length - (intOf i).toNat)
      case atStart => exact ⟨0, none, 0, [], Nat.zero_le _, rfl, rfl, rfl, Nat.zero_le _, World.ownsRow_nil _ _ _ _, (by intro i hi; cases hi), hB0⟩
      case round =>
        clear hB0
        skip
        obtain ⟨k, Ao, co, lo, hk, rfl, rfl, hlo2, hlk, hown, hrows, hB⟩ := hrel
        have HLO := hide hlo2
        clear hlo2
        have hBw : Below w.heap.size w wr := HB1.out.trans (hB.mono HB1.out.size)
        have HJr := hide (HJ.out.below hBw)
        have hbl := HJr.out.blk.lt
        have jl := HJr.out.blk.cell 5
        have jh := HJr.out.blk.cell 2
        simp [JoS.rcells] at jl jh
        by_cases hlt : k < Rl.length
        · obtain ⟨bq, oq, y, hA, hbq2, hyl, hyc⟩ := (Reads.of_own HJr.out.r.own).elem encCh_len rfl hlt
          have hyin := List.mem_of_getElem? hyl
          have hyr := HJr.out.r.rows y hyin
          obtain ⟨hy3, hy4⟩ := HLR.out y hyin
          have HNX := hide (filt_next (p := keepL (-s.lo) m) hyl)
          have e0 : wr.cell? ⟨bq, oq + k * 3, none⟩ = some (.int .i64 y.t) := by simpa using hyc 0 _ rfl
          have e1 : wr.cell? ⟨bq, oq + k * 3 + 1, none⟩ = some (.slice y.A y.n y.c) := by simpa [Nat.add_assoc] using hyc 1 _ rfl
          have e2 : wr.cell? ⟨bq, oq + k * 3 + 2, none⟩ = some (.int .i64 y.m) := by simpa [Nat.add_assoc] using hyc 2 _ rfl
          have q1 : (0 : Int) ≤ (k : Int) := by omega
          have q2 : (k : Int) < (Rl.length : Int) := by omega
          rw [hA] at jl
          have pl := fun (p : BW wr) => BW.cell (a := ⟨b, 5, none⟩) hbl jl p
          have ph := fun (p : BW wr) => BW.cell (a := ⟨b, 2, none⟩) hbl jh p
          have p0 := fun (p : BW wr) => BW.cell (a := ⟨bq, oq + k * 3, none⟩) hbq2 e0 p
          have hw9 : IntKind.i64.wrap (y.t - s.lo) = y.t - s.lo := by rw [IntKind.wrap_i64]; omega
          obtain ⟨u, hu⟩ : ∃ u, decide (m ≤ y.t - s.lo) = u := ⟨_, rfl⟩
          have HKP := hide (show keepL (-s.lo) m (thC y) = u from by
            rw [← hu]
            unfold keepL
            have h8 : (thC y).t = y.t := rfl
            rw [h8]
            by_cases h9 : m ≤ y.t - s.lo
            · rw [decide_eq_true h9, decide_eq_false (by omega)]; rfl
            · rw [decide_eq_false h9, decide_eq_true (by omega)]; rfl)
          clear hyc hyl hyin hA
          go_upto_region 14 with fail
          go_cut [76] from 53 to 86 (fun s1 wx => s1 = .bool u ∧ Below wr.heap.size wr wx)
          case first =>
            clear hown hrows hB hBw e1 e2
            (refine wp_region_quiet_bw (by kernel_rfl) (by kernel_rfl) ?_
             repeat (first | go_big_quiet_step ((fail)) | quiet_step ((fail)))
             refine wpQuiet_nil ?_
             intro wq hw'
             obtain ⟨⟨_, hbq⟩, hw''⟩ := hw'
             subst hw'')
            have HBQ := hide hbq
            clear hbq pl ph p0
            go_wp2_with fail
            go_meet
            case rel => exact ⟨rfl, HBQ.out⟩
          case rest =>
          obtain ⟨rfl, hbq⟩ := hcut
          obtain ⟨V, hV⟩ : ∃ V : World, V = wc := ⟨_, rfl⟩
          subst hV
          have hB3 := bstep hB hbq
          have hown3 := own_below hown hbq
          have hrows3 : RowsC V base lo := fun i hi => (hrows i hi).below hbq
          have hyr3 := hyr.below hbq
          have jl3 := (hbq.cell (p := ⟨b, 5, none⟩) hbl).trans jl
          have f0 := (hbq.cell (p := ⟨bq, oq + k * 3, none⟩) hbq2).trans e0
          have f1 := (hbq.cell (p := ⟨bq, oq + k * 3 + 1, none⟩) hbq2).trans e1
          have f2 := (hbq.cell (p := ⟨bq, oq + k * 3 + 2, none⟩) hbq2).trans e2
          clear hbq hB hBw pl ph p0 hown hrows hyr jl jh e0 e1 e2 HJr hu hbl
          cases u
          · have HN2 := hide (show lo.map thC = ((Rl.take (k + 1)).map thC).filter (keepL (-s.lo) m) from by rw [HNX.out, HKP.out, if_neg (by decide), List.append_nil]; exact HLO.out)
            have HO3 := hide hown3
            have HR3 := hide hrows3
            have HB3 := hide hB3
            clear HNX hown3 hrows3 hB3 hyr3 jl3 f0 f1 f2
            go_wp2_with fail
            go_roundw
            case rel => exact ⟨k + 1, Ao, co, lo, by omega, by go_num, rfl, HN2.out, by omega, HO3.out, HR3.out, HB3.out⟩
            case measure => first | (simp [intOf]; done) | (simp [intOf]; omega)
          · obtain ⟨A', c', X', hrun, hown4, hrows4, hblk4, hb4⟩ := oc_app y hown3 hrows3 hyr3 hB3.size (Nat.le_trans hbase HB1.out.size) (by omega)
            have hlen : (lo ++ [y]).length = lo.length + 1 := by simp
            rw [hlen] at hown4
            have HN2 := hide (show (lo ++ [y]).map thC = ((Rl.take (k + 1)).map thC).filter (keepL (-s.lo) m) from by rw [HNX.out, HKP.out, if_pos rfl, List.map_append, HLO.out]; rfl)
            have HO4 := hide hown4
            have HR4 := hide hrows4
            have HB4 := hide (hB3.trans hb4)
            have HLEN := hide hlen
            clear HNX hown3 hrows3 hB3 hyr3 hown4 hrows4 hblk4 hb4 hlen
            go_wp2_with (at_builtin; refine wpList_append_is rfl _ _ 67 rfl rfl rfl rfl hrun ?_)
            go_roundw
            case rel => exact ⟨k + 1, A', c', lo ++ [y], by omega, by go_num, by rw [HLEN.out], HN2.out, by rw [HLEN.out]; omega, by rw [HLEN.out]; exact HO4.out, HR4.out, HB4.out⟩
            case measure => first | (simp [intOf]; done) | (simp [intOf]; omega)
        · obtain rfl : k = Rl.length := by omega
          have htk : Rl.take Rl.length = Rl := List.take_length
          have HLR2 := hide (show lo.map thC = (Rl.map thC).filter (keepL (-s.lo) m) from by have := HLO.out; rwa [htk] at this)
          have hJ := HJr.out
          have hOL : OC wr base (.slice A1 l1.length c1) l1 := ⟨own_mono (own_below HO1.out hB) hbase, fun i hi => (HR1.out i hi).below hB⟩
          have hOR : OC wr base (.slice Ao lo.length co) lo := ⟨own_mono hown (Nat.le_trans hbase HB1.out.size), hrows⟩
          obtain ⟨hJ1, hF1⟩ := hJ.setL hOL
          obtain ⟨hJ2, hF2⟩ := hJ1.setR (hOR.frp hF1 hJ.quiet)
          obtain ⟨hJ3, hF3⟩ := hJ2.setM m
          have j4 := hJ.blk.cell 4
          have j5 := hJ.blk.cell 5
          have j6 := hJ.blk.cell 6
          have f4 := hJ.blk.frozen 4
          have f5 := hJ.blk.frozen 5
          have f6 := hJ.blk.frozen 6
          simp [JoS.rcells] at j4 j5 j6
          have HRES := hide (show RetMr w base b s mk m (.slice AL Ll.length cL) Ll (.slice AR Rl.length cR) Rl (.returned (.tuple #[.slice none 0 0, .int .i64 0])) (((wr.setCell ⟨b, 4, none⟩ (.slice A1 l1.length c1)).setCell ⟨b, 5, none⟩ (.slice Ao lo.length co)).setCell ⟨b, 6, none⟩ (.int .i64 m)) from
            ⟨0, rfl, HE.out.symm, (((FrP.of_below hBw).trans hF1 fun k hk => .inl hk).trans hF2 fun k hk => .inl hk).trans hF3 (fun k hk => .inl hk), fun h => absurd rfl h, fun _ => ⟨_, l1, _, lo, hJ3, HL1.out, HLR2.out⟩⟩)
          clear hJ hOL hOR hJ1 hF1 hJ2 hF2 hJ3 hF3 hown hrows hB hBw htk HLO HJr jl jh
          go_wp2
          refine bodyPost_ret (results_tmp2 rfl _ _ _) rfl ?_
          exact HRES.out
end Go.Proofs.YtoapjidpfghnlaaGreatDoor
