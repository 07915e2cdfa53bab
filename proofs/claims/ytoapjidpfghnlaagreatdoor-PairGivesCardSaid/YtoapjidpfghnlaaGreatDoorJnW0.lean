/-
  The walks of the law's summed and rising. No condition.
  What the laws of the joiners hold of their input; two lists of changes that are alike. No condition.
-/
import Derived.Test.YtoapjidpfghnlaaGreatDoorJnX
import Derived.Test.YtoapjidpfghnlaaGreatDoorVtA
import Derived.Test.YtoapjidpfghnlaaGreatDoorPrL3
import Derived.Test.YtoapjidpfghnlaaGreatDoorBgL
namespace Go.Proofs.YtoapjidpfghnlaaGreatDoor

section
open Go.RowKit
attribute [local go_sem] Oper.semAt_some wide_fn wide_depth
set_option linter.unusedVariables false
set_option linter.unusedSimpArgs false

/-- A list of changes handed back. -/
def RetSu (w : World) (d : List Th) (e : Ending) (w' : World) : Prop := ∃ A c lst, e = .returned (.slice A lst.length c) ∧ lst.map thC = d ∧ ChgR w' w'.heap.size A lst.length lst ∧ Below w.heap.size w w'
set_option maxRecDepth 100000 in
set_option maxHeartbeats 4000000 in
theorem summed_any (A : Option Addr) (n c : Nat) (l : List Ch) (w : World) (hl : ChgR w w.heap.size A n l) (hn : n ≤ 1000) (M : Int) (hM : 0 ≤ M) (hMn : M * (n : Int) ≤ 1000000000) (hM2 : M ≤ 1000000000) (hok : ∀ y ∈ l, okR y.r = true ∧ -M ≤ y.m ∧ y.m ≤ M) (hrn : ∀ y ∈ l, y.n ≤ 1000) :
    Calls Tryz.prog 42 #[.slice A n c] w (RetSu w (sumT (l.map thC))) := by
  have hLn : l.length = n := hl.rd.len encCh_len (by omega)
  have HLN := hide hLn
  have HOK := hide hok
  have HRN := hide hrn
  have HL := hide hl
  clear hLn hok hrn hl
  go_enter Tryz.func42, Tryz.ntmps42
  go_wp2_with fail
  go_loopw [3, 4] (fun vo i wr => ∃ (k : Nat) (Ao : Option Addr) (co : Nat) (lo : List Ch), k ≤ n ∧ i = .int .i64 k ∧ vo = .slice Ao lo.length co ∧ lo.map thC = sumT ((l.take k).map thC) ∧
    Reads wr wr.heap.size 3 Ao lo.length (lo.flatMap encCh) ∧ RowsC wr w.heap.size lo ∧ Below w.heap.size w wr) (fun _ i _ => n - (intOf i).toNat)
  case atStart => exact ⟨0, none, 0, [], Nat.zero_le _, rfl, rfl, rfl, ⟨rfl, nofun⟩, (by intro i hi; cases hi), Below.refl _ _⟩
  case round =>
    obtain ⟨k, Ao, co, lo, hk, rfl, rfl, hlo, hrd, hrows, hB⟩ := hrel
    have HLO := hide hlo
    have hll : lo.length ≤ 1000 := by
      have h1 := congrArg List.length hlo
      rw [List.length_map] at h1
      have h2 := sumT_len ((l.take k).map thC)
      rw [List.length_map, List.length_take] at h2
      omega
    have HOL := hide (show ∀ y ∈ lo, okR y.r = true ∧ -1000000000 ≤ y.m ∧ y.m ≤ 1000000000 from fun y hy => by
      have h5 := sumT_small (M := M) hM (xs := (l.take k).map thC) (fun z hz => by
        obtain ⟨u, hu, rfl⟩ := List.mem_map.1 hz
        exact (HOK.out u (List.mem_of_mem_take hu)).1) (fun z hz => by
        obtain ⟨u, hu, rfl⟩ := List.mem_map.1 hz
        exact (HOK.out u (List.mem_of_mem_take hu)).2) (thC y) (by rw [← hlo]; exact List.mem_map.2 ⟨y, hy, rfl⟩)
      have h6 : ((l.take k).map thC).length ≤ n := by rw [List.length_map, List.length_take]; omega
      have h9 : M * (((l.take k).map thC).length : Int) ≤ M * (n : Int) := Int.mul_le_mul_of_nonneg_left (by omega) hM
      have h7 : (thC y).m = y.m := rfl
      have h8 : (thC y).r = y.r := rfl
      rw [h8] at h5
      exact ⟨h5.1, by omega, by omega⟩)
    clear hlo
    by_cases hlt : k < n
    · obtain ⟨bq, oq, y, hA, hbl, hyl, hyc⟩ := (HL.out.rd.up hB).elem encCh_len HLN.out hlt
      have hyin := List.mem_of_getElem? hyl
      have hyr := (HL.out.rows y hyin).below hB
      have hyo := HOK.out y hyin
      have hyn := HRN.out y hyin
      have HTM := hide (take_map hyl)
      have e0 : wr.cell? ⟨bq, oq + k * 3, none⟩ = some (.int .i64 y.t) := by simpa using hyc 0 _ rfl
      have e1 : wr.cell? ⟨bq, oq + k * 3 + 1, none⟩ = some (.slice y.A y.n y.c) := by simpa [Nat.add_assoc] using hyc 1 _ rfl
      have e2 : wr.cell? ⟨bq, oq + k * 3 + 2, none⟩ = some (.int .i64 y.m) := by simpa [Nat.add_assoc] using hyc 2 _ rfl
      have q1 : (0 : Int) ≤ (k : Int) := by omega
      have q2 : (k : Int) < (n : Int) := by omega
      have HPC := hide (PutChange_any Ao lo.length co lo y w.heap.size wr hrd hrows hB.size hyr hyn (by omega) hyo.1 HOL.out (by have := hyo.2; omega))
      subst hA
      clear hyc hyl hyin hyr hrd hrows hyo hyn
      go_wp2_with fail
      refine HPC.out.mono ?_
      rintro e W4 ⟨A7, c7, lst7, rfl, hl7, hown7, hrows7, hb7⟩
      have HN2 := hide (show lst7.map thC = sumT ((l.take (k + 1)).map thC) from by rw [HTM.out, sumT_snoc, ← HLO.out, hl7])
      have HRD := hide (Reads.of_own hown7)
      have HRR := hide hrows7
      have HBB := hide (bstep hB hb7)
      clear hl7 hown7 hrows7 hb7 hB HPC e0 e1 e2
      go_wp2
      go_roundw
      case rel => exact ⟨k + 1, A7, c7, lst7, by omega, by go_num, rfl, HN2.out, HRD.out, HRR.out, HBB.out⟩
      case measure => simp [intOf]; omega
    · obtain rfl : k = n := by omega
      have htk : l.take k = l := List.take_of_length_le (by rw [HLN.out]; omega)
      have HR := hide (show RetSu w (sumT (l.map thC)) (.returned (.slice Ao lo.length co)) wr from ⟨Ao, co, lo, rfl, by have := HLO.out; rwa [htk] at this, ⟨hrd, fun i hi => (hrows i hi).mono hB.size, by omega⟩, hB⟩)
      clear hrd hrows hB htk
      go_wp2_with fail
      go_ret
      exact HR.out
set_option maxRecDepth 100000 in
set_option maxHeartbeats 4000000 in
theorem rising_any (A : Option Addr) (n c : Nat) (l : List Ch) (w : World) (hl : ChgR w w.heap.size A n l) (hn : n ≤ 100000) (hp : (l.map thC).Pairwise fun x y => ¬ 0 < cmpR x.r y.r) :
    Calls Tryz.prog 47 #[.slice A n c] w (RetV w (.bool true)) := by
  have hLn : l.length = n := hl.rd.len encCh_len (by omega)
  have HLN := hide hLn
  have HP := hide hp
  have HL := hide hl
  clear hLn hp hl
  go_enter Tryz.func47, Tryz.ntmps47
  go_wp2_with fail
  go_loopw [3] (fun i wr => ∃ k : Nat, k ≤ n ∧ i = .int .i64 ((k : Int) + 1) ∧ Below w.heap.size w wr) (fun i _ => n + 1 - (intOf i).toNat)
  case atStart => exact ⟨0, Nat.zero_le _, rfl, Below.refl _ _⟩
  case round =>
    obtain ⟨k, hk, rfl, hB⟩ := hrel
    by_cases hlt : k + 1 < n
    · obtain ⟨bq, oq, y, hA, hbl, hyl, hyc⟩ := (HL.out.rd.up hB).elem encCh_len HLN.out (show k < n by omega)
      obtain ⟨bz, oz, z, hA2, hbz, hzl, hzc⟩ := (HL.out.rd.up hB).elem encCh_len HLN.out hlt
      rw [hA] at hA2
      injection hA2 with hA2
      injection hA2 with hA3 hA4
      subst hA3 hA4
      have hyr := ((HL.out.rows y (List.mem_of_getElem? hyl)).below hB).mono hB.size
      have hzr := ((HL.out.rows z (List.mem_of_getElem? hzl)).below hB).mono hB.size
      have e1 : wr.cell? ⟨bq, oq + k * 3 + 1, none⟩ = some (.slice y.A y.n y.c) := by simpa [Nat.add_assoc] using hyc 1 _ rfl
      have f1 : wr.cell? ⟨bq, oq + (k + 1) * 3 + 1, none⟩ = some (.slice z.A z.n z.c) := by simpa [Nat.add_assoc] using hzc 1 _ rfl
      have q1 : (0 : Int) ≤ (k : Int) := by omega
      have q2 : (k : Int) < (n : Int) := by omega
      have q3 : (k : Int) + 1 < (n : Int) := by omega
      have q4 : (0 : Int) ≤ (k : Int) + 1 := by omega
      have w1 : IntKind.i64.wrap ((k : Int) + 1 - 1) = (k : Int) := by rw [IntKind.wrap_i64]; omega
      have w2 : (k : Int) + 1 - 1 = (k : Int) := by omega
      have t1 : ((k : Int) + 1).toNat = k + 1 := by omega
      have p1 := fun (p : BW wr) => BW.cell (a := ⟨bq, oq + k * 3 + 1, none⟩) hbl e1 p
      have p2 := fun (p : BW wr) => BW.cell (a := ⟨bq, oq + (k + 1) * 3 + 1, none⟩) hbl f1 p
      have HC1 := hide (fun (p : BW wr) => calls_bw (p := p) (R2Compare_any y.A y.n y.c y.r z.A z.n z.c z.r p.x ((hyr.below p.h).rd.up (Below.refl _ _)) ((hzr.below p.h).rd.up (Below.refl _ _)) hyr.le))
      have hnc : ¬ 0 < cmpR y.r z.r := by
        have h1 := List.pairwise_iff_getElem.1 HP.out k (k + 1) (by rw [List.length_map, HLN.out]; omega) (by rw [List.length_map, HLN.out]; omega) (by omega)
        rw [List.getElem_map, List.getElem_map] at h1
        rw [(List.getElem?_eq_some_iff.1 hyl).2, (List.getElem?_eq_some_iff.1 hzl).2] at h1
        have h2 : cmpR y.r z.r ≤ 0 := by first | exact h1 | (have h3 : ¬ 0 < cmpR y.r z.r := h1; omega)
        omega
      obtain ⟨cc, hcc⟩ : ∃ cc, cmpR y.r z.r = cc := ⟨_, rfl⟩
      rw [hcc] at HC1 hnc
      have d1 : decide (0 < cc) = false := decide_eq_false hnc
      subst hA
      clear hyc hzc hyl hzl hyr hzr hcc hnc e1 f1
      go_wp2_with fail
      (refine wp_region_quiet_bw (by kernel_rfl) (by kernel_rfl) ?_
       repeat (first | go_big_quiet_step (((go_at_call 106; exact HC1.out _))) | quiet_step (((go_at_call 106; exact HC1.out _))))
       refine wpQuiet_nil ?_
       intro wq hw'
       obtain ⟨⟨_, hbq⟩, hw''⟩ := hw'
       subst hw'')
      have HBB := hide (bstep hB hbq)
      clear hbq hB p1 p2 HC1
      go_wp2
      go_roundw
      case rel => exact ⟨k + 1, by omega, by go_num, HBB.out⟩
      case measure => first | (simp [intOf]; done) | (simp [intOf]; omega)
    · have HB := hide hB
      have z1 : decide ((k : Int) + 1 < (n : Int)) = false := decide_eq_false (by omega)
      clear hB
      go_wp2
      go_ret
      exact ⟨ret_bool rfl, HB.out⟩
end

section
open Go.RowKit
set_option linter.unusedVariables false
set_option linter.unusedSimpArgs false

theorem AcR.mono {w : World} {B B' n : Nat} {A : Option Addr} {l : List Ac} (h : AcR w B A n l) (hB : B ≤ B') : AcR w B' A n l := ⟨h.rd, fun a ha => (h.rows a ha).mono hB, h.caps, h.le⟩
theorem ChgR.keepB {w w' : World} {A : Option Addr} {n : Nat} {l : List Ch} (h : ChgR w w.heap.size A n l) (hb : Below w.heap.size w w') : ChgR w' w'.heap.size A n l :=
  ⟨h.rd.up hb, fun i hi => ((h.rows i hi).below hb).mono hb.size, h.le⟩
/-- What the law holds of its input. -/
structure KJs (W : World) (kb : Nat) (ks : Array Value) (A1 : Option Addr) (n1 : Nat) (on : List Int) (A2 : Option Addr) (n2 : Nat) (others : List Int) (A3 : Option Addr) (n3 : Nat) (la : List Ac) : Prop where
  ky : Blk W kb 24 ks
  on : Reads W W.heap.size 1 A1 n1 (on.map (Value.int .i64))
  ot : Reads W W.heap.size 1 A2 n2 (others.map (Value.int .i64))
  ac : AcR W W.heap.size A3 n3 la
  tab : Tab W
theorem KJs.below {W W' : World} {kb : Nat} {ks : Array Value} {A1 A2 A3 : Option Addr} {n1 n2 n3 : Nat} {on others : List Int} {la : List Ac} (h : KJs W kb ks A1 n1 on A2 n2 others A3 n3 la) (hb : Below W.heap.size W W') : KJs W' kb ks A1 n1 on A2 n2 others A3 n3 la :=
  ⟨h.ky.below hb h.ky.lt, h.on.up hb, h.ot.up hb, (h.ac.below hb).mono hb.size, h.tab.below hb⟩
/-- The number of a change that the law hands on. -/
def redJ (q : Int) : Int := if 100 < q ∨ q < -100 then q.tmod 100 else q
theorem tmod_100 (q : Int) : -100 ≤ q.tmod 100 ∧ q.tmod 100 ≤ 100 := by
  have h1 := Int.lt_tmod_of_pos q (show (0 : Int) < 100 by omega)
  have h2 := Int.tmod_lt_of_pos q (show (0 : Int) < 100 by omega)
  omega
theorem redJ_in (q : Int) : -100 ≤ redJ q ∧ redJ q ≤ 100 := by
  unfold redJ
  split
  · exact tmod_100 q
  · omega
theorem same_jn {A A' : Option Addr} {n n' c c' : Nat} {l l' : List Ch} {W : World} {B B' : Nat} (h : ChgR W B A n l) (h' : ChgR W B' A' n' l') (hn : n = l.length) (hn' : n' = l'.length) (he : l.map thC = l'.map thC) : Calls Tryz.prog 41 #[.slice A n c, .slice A' n' c'] W (RetV W (.bool true)) := by
  have e : n' = n := by
    have h1 := congrArg List.length he
    rw [List.length_map, List.length_map] at h1
    omega
  subst e
  refine ChgSame_one A n' c A' c' B B' l l' W h h' ?_
  have e2 : ∀ k : List Ch, datC k = (k.map thC).map (fun x => (x.r, x.t, x.m)) := fun k => by unfold datC; rw [List.map_map]; rfl
  rw [e2, e2, he]
end

end Go.Proofs.YtoapjidpfghnlaaGreatDoor
