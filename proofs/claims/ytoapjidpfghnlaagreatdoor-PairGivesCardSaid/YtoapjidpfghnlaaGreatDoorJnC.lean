/-
  The walks of a side's drop and count. No condition.
-/
import Derived.Test.YtoapjidpfghnlaaGreatDoorJnA
namespace Go.Proofs.YtoapjidpfghnlaaGreatDoor
open Go.RowKit Go.Maps
attribute [local go_sem] Oper.semAt_some wide_fn wide_depth
set_option linter.unusedVariables false
set_option linter.unusedSimpArgs false

set_option maxRecDepth 100000 in
set_option maxHeartbeats 2000000 in
theorem drop1_any (x : Hd) (more m : Int) (b1 b2 : Nat) (w : World) (h1 : w.cell? ⟨b1, 0, none⟩ = some (.int .i64 more)) (h2 : w.cell? ⟨b2, 0, none⟩ = some (.int .i64 m))
    (hx : -1000000000000 ≤ x.t ∧ x.t ≤ 1000000000000) (hm : -1000000000 ≤ more ∧ more ≤ 1000000000) :
    Calls Tryz.prog 157 #[.agg #[.int .i64 x.t, .int .i64 x.m, .slice x.A x.n x.c], .pointer (some ⟨b1, 0, none⟩), .pointer (some ⟨b2, 0, none⟩)] w (RetV w (.bool (decide (x.t + more < m)))) := by
  have hB := below_val (w := w) #[.int .i64 x.t, .int .i64 x.m, .slice x.A x.n x.c] 144
  have kx := Blk.new w 144 #[.int .i64 x.t, .int .i64 x.m, .slice x.A x.n x.c]
  have x0 := kx.cell 0
  have h1' := (hB.cell (World.block_lt_of_cell? _ _ h1)).trans h1
  have h2' := (hB.cell (World.block_lt_of_cell? _ _ h2)).trans h2
  simp at x0
  have HB := hide hB
  obtain ⟨y1, y2⟩ := hx
  obtain ⟨y3, y4⟩ := hm
  clear hB kx h1 h2
  go_enter Tryz.func157, Tryz.ntmps157
  go_wp2_with fail
  go_ret
  exact ⟨ret_bool rfl, HB.out⟩
/-- A list of the call's own, handed back. -/
def RetDfH (w : World) (base : Nat) (l : List Hd) (e : Ending) (w' : World) : Prop := ∃ A c, e = .returned (.slice A l.length c) ∧ w'.ownsRow base 144 3 (.slice A l.length c) l.length (l.flatMap encHd) ∧ Below base w w'
set_option maxRecDepth 100000 in
set_option maxHeartbeats 2000000 in
theorem DelNH_any (base : Nat) (A : Option Addr) (c : Nat) (l : List Hd) (w : World) (hown : w.ownsRow base 144 3 (.slice A l.length c) l.length (l.flatMap encHd)) (hbase : base ≤ w.heap.size) (hn : l.length ≤ 100000) (pf : Nat) (caps : Array Value) (p : Hd → Bool)
    (eg : ∀ args w, (callFunc pf args).run Tryz.prog w = .ok (.enter pf args) w)
    (hp : ∀ x ∈ l, ∀ W, Below base w W → Calls Tryz.prog pf (#[.agg #[.int .i64 x.t, .int .i64 x.m, .slice x.A x.n x.c]] ++ caps) W (RetV W (.bool (p x)))) :
    Calls Tryz.prog 155 #[.slice A l.length c, .func (Fn.func pf) #[] caps] w (RetDfH w base (l.filter fun x => !p x)) := by
  rcases hown.2 with ⟨e, h0⟩ | ⟨g, cap, cur, e, _⟩
  · injection e with e1 e2 e3
    subst e1 e3
    clear e2
    have hl : l = [] := by
      cases l with
      | nil => rfl
      | cons x l => simp [encHd] at h0
    subst hl
    have HI := hide (idxH_any none 0 0 [] w ⟨rfl, nofun⟩ (by omega) pf caps p eg nofun)
    clear hp hown h0
    show Calls Tryz.prog 155 #[.slice none 0 0, .func (Fn.func pf) #[] caps] w (RetDfH w base [])
    go_enter Tryz.func155, Tryz.ntmps155
    go_wp2_with fail
    refine HI.out.mono ?_
    rintro e W1 ⟨⟨i, rfl, hfi⟩, hB1⟩
    obtain rfl : i = -1 := by
      rcases hfi with ⟨_, h⟩ | ⟨k, _, _, x, h, _⟩
      · exact h
      · cases h
    clear HI hfi
    have HR := hide (show RetDfH w base [] (.returned (.slice none 0 0)) W1 from ⟨none, 0, rfl, World.ownsRow_nil _ _ _ _, hB1.mono hbase⟩)
    clear hB1
    go_wp2_with fail
    go_ret
    exact HR.out
  · injection e with e1 e2 e3
    subst e1
    have hg := (hown.lt g rfl).1
    refine (DeleteFuncH_any base g l.length c l w hown hn pf caps p eg fun x hx W hB => hp x hx W (hB.below hbase (by intro y hy; rw [List.mem_singleton.1 hy]; exact hg))).mono ?_
    rintro e w' ⟨rfl, h1, h2⟩
    exact ⟨_, _, rfl, h1, h2.below hbase (by intro y hy; rw [List.mem_singleton.1 hy]; exact hg)⟩
theorem below_grown {n r : Nat} {a b c : World} (h : Below n a b) (hg : b.grownBy c (some r)) (hr : n ≤ r) (hn : n ≤ b.heap.size) : Below n a c :=
  ⟨hg.os.trans h.os, hg.tape.trans h.tape, hg.output.trans h.output, Nat.le_trans h.size hg.size, fun k hk => (hg.block k (by omega) fun e => by injection e with e; omega).trans (h.block k hk)⟩
set_option maxRecDepth 100000 in
set_option maxHeartbeats 4000000 in
theorem jcount_any {sb so base bM i : Nat} {f : List UInt8 → List Hd} {S : Nat → Prop} (cols : List Int) (L : List Th) (w : World)
    (hc : w.cell? ⟨sb, so + 1, none⟩ = some (.map (some bM))) (h : HmM w base bM i f S) (hJ : JOk cols L fun q => (f q).map thD) (hL : L.length ≤ 1000) :
    Calls Tryz.prog 113 #[.pointer (some ⟨sb, so, none⟩)] w (RetV w (.int .i64 L.length)) := by
  obtain ⟨W1, cnt, left, hrun, hR, hstart, hg, hs⟩ := h.range
  obtain ⟨r, hr⟩ : ∃ r, w.heap.size = r := ⟨_, rfl⟩
  rw [hr] at hrun hR
  have hB1 : Below w.heap.size w W1 := ⟨hg.os, hg.tape, hg.output, hg.size, fun k hk => hg.block k hk nofun⟩
  have H0 := hide (show cntJ cols L left = 0 from cnt_start hJ fun q hq => by rw [hstart q hq]; rfl)
  have HJ := hide hJ
  have HH := hide h
  clear hJ h hstart hg
  go_enter Tryz.func113, Tryz.ntmps113
  go_wp2_with fail
  go_loopw [3, 5] (fun n _ wr => ∃ (left : Lit → Bool) (cnt : Nat), HmR wr base bM r i f S left cnt ∧ n = .int .i64 (cntJ cols L left : Nat) ∧ Below w.heap.size w wr) (fun _ _ wr => wr.rangeLeft bM r)
  case atStart => exact ⟨left, cnt, hR, by rw [H0.out]; rfl, hB1⟩
  case round =>
    clear hR hB1 H0 hrun
    obtain ⟨left, cnt, hR, rfl, hB⟩ := hrel
    have hrl : r ≤ wr.heap.size := Nat.le_of_lt hR.lt
    have hle : cntJ cols L left ≤ 1000 := Nat.le_trans (List.length_filter_le _ _) hL
    rcases hR.next 0 with ⟨h0, hall, hnx⟩ | ⟨s, v, w2, cnt2, hs, hls, hnx, hR2, hlt, hg2, hs2, hen, hown, hlk⟩
    · have HE := hide (cnt_end (cols := cols) (L := L) hall)
      have HB := hide hB
      clear hall hB hR
      go_wp2_with fail
      go_ret
      exact ⟨ret_int (by rw [HE.out]), HB.out⟩
    · obtain ⟨A, c, rfl, hrd⟩ := own_form hown
      have HM := hide (show wr.rangeLeft bM r = cnt from hR.left_eq)
      have HM2 := hide (show w2.rangeLeft bM r = cnt2 from hR2.left_eq)
      have HC := hide (show cntJ cols L (fun x => left x && !x.sameKey (.string s.data.toList)) = cntJ cols L left + (f s.data.toList).length by rw [cnt_step HJ.out hls, List.length_map])
      have hle2 : cntJ cols L (fun x => left x && !x.sameKey (.string s.data.toList)) ≤ 1000 := Nat.le_trans (List.length_filter_le _ _) hL
      rw [HC.out] at hle2
      have HR2 := hide hR2
      have HB := hide (below_grown hB hg2 (by omega) hB.size)
      clear hR hB hR2 hg2 hs2 hown hrd hlk hls
      go_wp2_with fail
      go_roundw
      case rel => exact ⟨_, cnt2, HR2.out, by rw [HC.out]; go_num, HB.out⟩
      case measure => rw [HM.out, HM2.out]; exact hlt
/-- What lies between two rounds of drop. -/
structure DrI (w : World) (base bM r i : Nat) (f : List UInt8 → List Hd) (S : Nat → Prop) (p : Hd → Bool) (W : World) (left : Lit → Bool) (cnt : Nat) (g : List UInt8 → List Hd) (S' : Nat → Prop) : Prop where
  hm : HmR W base bM r i g S' left cnt
  g : ∀ q, g q = if left (.string q) = true then f q else (f q).filter p
  s : ∀ k, S' k → S k ∨ w.heap.size ≤ k
  fr : FrJ S bM w W
theorem left_cut {left : Lit → Bool} {q q' : List UInt8} : ((fun x : Lit => left x && !x.sameKey (.string q)) (.string q') = true) ↔ left (.string q') = true ∧ q' ≠ q := by
  simp [Lit.sameKey]
theorem cut_twice (left : Lit → Bool) (q : List UInt8) : (fun x : Lit => (fun x : Lit => left x && !x.sameKey (.string q)) x && !x.sameKey (.string q)) = fun x => left x && !x.sameKey (.string q) := by
  funext x
  show ((left x && !x.sameKey (.string q)) && !x.sameKey (.string q)) = _
  cases left x <;> cases x.sameKey (.string q) <;> rfl
theorem DrI.map_eq {w W : World} {base bM r i : Nat} {f : List UInt8 → List Hd} {S : Nat → Prop} {p : Hd → Bool} {left : Lit → Bool} {cnt : Nat} {g : List UInt8 → List Hd} {S' : Nat → Prop} (h : DrI w base bM r i f S p W left cnt g S') {q : List UInt8} (hq : left (.string q) = true) : g q = f q := by
  rw [h.g, if_pos hq]
theorem upd_g {f g : List UInt8 → List Hd} {p : Hd → Bool} {left : Lit → Bool} (hg : ∀ q, g q = if left (.string q) = true then f q else (f q).filter p) (s : List UInt8) (q : List UInt8) :
    (if q = s then (f s).filter p else g q) = if (fun x : Lit => left x && !x.sameKey (.string s)) (.string q) = true then f q else (f q).filter p := by
  by_cases e : q = s
  · subst e
    rw [if_pos rfl, if_neg fun h => (left_cut.1 h).2 rfl]
  · rw [if_neg e, hg q]
    by_cases h : left (.string q) = true
    · rw [if_pos h, if_pos (left_cut.2 ⟨h, e⟩)]
    · rw [if_neg h, if_neg fun h2 => h (left_cut.1 h2).1]
/-- What drop leaves. -/
def RetDr (w : World) (base bM i : Nat) (f : List UInt8 → List Hd) (S : Nat → Prop) (p : Hd → Bool) (e : Ending) (w' : World) : Prop := e = .returned (.tuple #[]) ∧ ∃ S', HmM w' base bM i (fun q => (f q).filter p) S' ∧ (∀ k, S' k → S k ∨ w.heap.size ≤ k) ∧ FrJ S bM w w'
set_option maxRecDepth 100000 in
set_option maxHeartbeats 8000000 in
theorem jdrop_any {sb so base bM i : Nat} {f : List UInt8 → List Hd} {S : Nat → Prop} (more m : Int) (w : World)
    (hc : w.cell? ⟨sb, so + 1, none⟩ = some (.map (some bM))) (hSb : ¬ S sb) (h : HmM w base bM i f S) (hi : i < 1000) (hbase : base ≤ w.heap.size) (hm : -1000000000 ≤ more ∧ more ≤ 1000000000)
    (hl : ∀ q, (f q).length ≤ 1000) (hf : ∀ q, ∀ y ∈ f q, -1000000000000 ≤ y.t ∧ y.t ≤ 1000000000000) :
    Calls Tryz.prog 110 #[.pointer (some ⟨sb, so, none⟩), .int .i64 more, .int .i64 m] w (RetDr w base bM i f S fun x => !decide (x.t + more < m)) := by
  have hsb := World.block_lt_of_cell? _ _ hc
  have hb1 := below_val (w := w) #[.int .i64 more] 3
  have hb2 := below_val (w := w.alloc (.cells #[.int .i64 more] 3)) #[.int .i64 m] 3
  have hB0 := bstep hb1 hb2
  have k1 := (Blk.new w 3 #[.int .i64 more]).below hb2 (by simp)
  have k2 := Blk.new (w.alloc (.cells #[.int .i64 more] 3)) 3 #[.int .i64 m]
  rw [World.size_alloc] at k2
  have hSlt : ∀ k, S k → k < w.heap.size := fun k hk => (h.typ hk).2.1
  have hsne : sb ≠ bM := fun e => by
    obtain ⟨es, c, e2⟩ := h.is_map
    rw [← e] at e2
    unfold World.cell? at hc
    simp [e2] at hc
  have hbMlt := h.lt
  have h0 := h.below hB0
  have c0 := (hB0.cell (p := ⟨sb, so + 1, none⟩) hsb).trans hc
  clear h hc hb1 hb2
  go_enter Tryz.func110, Tryz.ntmps110
  go_upto_region 1 with fail
  obtain ⟨W0, hW0⟩ : ∃ W0, (w.alloc (.cells #[.int .i64 more] 3)).alloc (.cells #[.int .i64 m] 3) = W0 := ⟨_, rfl⟩
  obtain ⟨b1, hb1e⟩ : ∃ b1, w.heap.size = b1 := ⟨_, rfl⟩
  rw [hW0] at hB0 k1 k2 h0 c0 ⊢
  rw [hb1e] at k1 k2 ⊢
  obtain ⟨W1, cnt, left, hrun, hR, hstart, hg, hs⟩ := h0.range
  obtain ⟨r, hr⟩ : ∃ r, W0.heap.size = r := ⟨_, rfl⟩
  rw [hr] at hrun hR
  have hB1 : Below W0.heap.size W0 W1 := ⟨hg.os, hg.tape, hg.output, hg.size, fun k hk => hg.block k hk nofun⟩
  have HD : DrI W0 base bM r i f S (fun x => !decide (x.t + more < m)) W1 left cnt f S :=
    ⟨hR, fun q => by
      by_cases hq : left (.string q) = true
      · rw [if_pos hq]
      · have : f q = [] := hstart q (by simpa using hq)
        rw [this]; simp, fun k hk => .inl hk, FrJ.of_below S bM hB1⟩
  have HF := hide hf
  have HLL := hide hl
  have HSL := hide hSlt
  have HW := hide hB0
  have hbase0 : base ≤ W0.heap.size := Nat.le_trans hbase hB0.size
  have hsb0 : sb < W0.heap.size := Nat.lt_of_lt_of_le hsb hB0.size
  have hrge : W0.heap.size ≤ r := by omega
  clear hf hl hR hstart hg hs h0 hB1 hSlt hB0 hW0
  go_wp2_with fail
  clear hrun
  go_loopw [6, 7] (fun _ _ wr => ∃ (left : Lit → Bool) (cnt : Nat) (g : List UInt8 → List Hd) (S' : Nat → Prop), DrI W0 base bM r i f S (fun x => !decide (x.t + more < m)) wr left cnt g S') (fun _ _ wr => wr.rangeLeft bM r)
  case atStart => exact ⟨_, _, _, _, HD⟩
  case round =>
    clear HD
    obtain ⟨left, cnt, g, S', hD⟩ := hrel
    have cW : wr.cell? ⟨sb, so + 1, none⟩ = some (.map (some bM)) := (World.cell?_of_block (hD.fr.block sb hsb0 hsne hSb)).trans c0
    have hn1 : b1 ≠ bM := by omega
    have hn2 : b1 + 1 ≠ bM := by omega
    have kb1 : Blk wr b1 3 #[.int .i64 more] := (hD.fr.block b1 k1.lt hn1 fun h => by have := HSL.out _ h; omega).trans k1
    have kb2 : Blk wr (b1 + 1) 3 #[.int .i64 m] := (hD.fr.block (b1 + 1) k2.lt hn2 fun h => by have := HSL.out _ h; omega).trans k2
    have hrl := hD.hm.lt
    have hM := hD.hm.left_eq
    rcases hD.hm.next 0 with ⟨h0, hall, hnx⟩ | ⟨s, v, w2, cnt2, hs, hls, hnx, hR2, hlt, hg2, hs2, hen, hown, hlk⟩
    · have HR := hide (show RetDr w base bM i f S (fun x => !decide (x.t + more < m)) (.returned (.tuple #[])) wr from
        ⟨rfl, S', hD.hm.map.congr fun q => by rw [hD.g, hall]; rfl, fun k hk => (hD.s k hk).imp id fun h => Nat.le_trans HW.out.size h, (FrJ.of_below S bM HW.out).trans hD.fr fun x hx => .inl hx⟩)
      clear hD hall kb1 kb2
      go_wp2_with fail
      refine bodyPost_ret (results_none rfl _ _ _) rfl ?_
      exact HR.out
    · have hgs := hD.map_eq hls
      rw [hgs] at hown
      obtain ⟨L, hL⟩ : ∃ L, f s.data.toList = L := ⟨_, rfl⟩
      have hLl := HLL.out s.data.toList
      have hLf := HF.out s.data.toList
      have hrows := hR2.map.rows s.data.toList
      rw [hgs] at hrows
      rw [hL] at hown hLl hLf hrows
      have HLf := hide hLf
      obtain ⟨A, c, rfl, hrd⟩ := own_form hown
      have HM := hide hM
      have hfr2 : FrJ S bM W0 w2 := hD.fr.grown hg2 fun k e => by injection e with e; subst e; exact .inr (.inr hrge)
      have cW2 : w2.cell? ⟨sb, so + 1, none⟩ = some (.map (some bM)) := (World.cell?_of_block (hfr2.block sb hsb0 hsne hSb)).trans c0
      have kc1 : Blk w2 b1 3 #[.int .i64 more] := (hfr2.block b1 k1.lt hn1 fun h => by have := HSL.out _ h; omega).trans k1
      have kc2 : Blk w2 (b1 + 1) 3 #[.int .i64 m] := (hfr2.block (b1 + 1) k2.lt hn2 fun h => by have := HSL.out _ h; omega).trans k2
      have HG := hide hD.g
      have HS := hide hD.s
      have hW02 := hfr2.size
      have HR2 := hide hR2
      have HLK := hide hlk
      have HCL := hide (CloneH_any w2 hown hLl)
      have HRW := hide hrows
      clear hD kb1 kb2 cW hg2 hs2 hown hrd hLf hR2 hM hlk hrows hgs hLl hls
      go_wp2_with fail
      refine HCL.out.mono ?_
      rintro e W3 ⟨A2, c2, rfl, hown2, hB3⟩
      have hbl1 : b1 < w2.heap.size := kc1.lt
      have hbl2 : b1 + 1 < w2.heap.size := kc2.lt
      have HDF := hide (DelNH_any w2.heap.size A2 c2 L W3 hown2 hB3.size (by have := HLL.out s.data.toList; rw [hL] at this; omega) 157 #[.pointer (some ⟨b1, 0, none⟩), .pointer (some ⟨b1 + 1, 0, none⟩)] (fun x => decide (x.t + more < m)) (fun _ _ => rfl) (fun x hx W hB => by
        have hBB := hB3.trans hB
        exact drop1_any x more m b1 (b1 + 1) W ((hBB.cell (p := ⟨b1, 0, none⟩) hbl1).trans (by simpa using kc1.cell 0)) ((hBB.cell (p := ⟨b1 + 1, 0, none⟩) hbl2).trans (by simpa using kc2.cell 0)) (HLf.out x hx) hm))
      have hsb2 := World.block_lt_of_cell? _ _ cW2
      clear hown2 HCL
      go_wp2_with fail
      refine HDF.out.mono ?_
      rintro e W4 ⟨A3, c3, rfl, hown4, hB4⟩
      have hB5 := hB3.trans hB4
      obtain ⟨L', hL'⟩ : ∃ L', (L.filter fun x => !decide (x.t + more < m)) = L' := ⟨_, rfl⟩
      rw [hL'] at hown4 ⊢
      obtain ⟨w5, hupd, hR5, hg5⟩ := HR2.out.put (by omega) hs HLK.out hB5 hown4 (Nat.le_trans hbase0 hW02) ((HRW.out.below hB5).sub fun x hx => by rw [← hL'] at hx; exact (List.mem_filter.1 hx).1)
      have cW4 := (hB5.cell (p := ⟨sb, so + 1, none⟩) hsb2).trans cW2
      have hblk5 := hg5.block sb (Nat.lt_of_lt_of_le hsb2 hB5.size) fun e => hsne (by first | exact Option.some.inj e | exact (Option.some.inj e).symm)
      have cW5 := (World.cell?_of_block (a := ⟨sb, so + 1, none⟩) hblk5).trans cW4
      have hfr5 : FrJ S bM W0 w5 := (hfr2.below hB5).grown hg5 fun k e => .inl (by injection e with e; exact e.symm)
      have HS5 := hide (show ∀ k, (S' k ∨ (Value.slice A3 L'.length c3).ownBlock = some k) → S k ∨ W0.heap.size ≤ k from fun k hk => by
        rcases hk with hk | hk
        · exact HS.out k hk
        · exact .inr (Nat.le_trans hW02 (hown4.lt k hk).1))
      have HG5 := hide (show ∀ q, (if q = s.data.toList then L' else g q) = if (fun x : Lit => left x && !x.sameKey (.string s.data.toList)) (.string q) = true then f q else (f q).filter fun x => !decide (x.t + more < m) from fun q => by
        rw [← hL', ← hL]; exact upd_g HG.out _ _)
      have HFR5 := hide hfr5
      have HR5 := hide hR5
      have hM5 := hR5.left_eq
      have HM5 := hide hM5
      clear HDF hown4 hB3 hB4 hB5 hfr2 kc1 kc2 cW2 hblk5 hfr5 hR5 hg5 HR2 HLK HRW HG HS hM5 hL
      by_cases hz : L' = []
      · subst hz
        simp only [List.length_nil] at hupd ⊢
        obtain ⟨w6, cnt6, hdel, hR6, hle6, hg6⟩ := HR5.out.drop hs (by rw [if_pos rfl]) 0
        rw [cut_twice] at hR6
        have HD6 := hide (show DrI W0 base bM r i f S (fun x => !decide (x.t + more < m)) w6 _ cnt6 _ _ from ⟨hR6, HG5.out, HS5.out, HFR5.out.grown hg6 fun k e => .inl (by injection e with e; exact e.symm)⟩)
        have hM6 := hR6.left_eq
        clear hR6 hg6
        go_wp2_with fail
        go_roundw
        case rel => exact ⟨_, _, _, _, HD6.out⟩
        case measure => rw [HM.out, hM6]; omega
      · have z : (((L'.length : Nat) : Int) == 0) = false := by
          have : L'.length ≠ 0 := fun e => hz (List.length_eq_zero_iff.1 e)
          simp; exact hz
        have HD6 := hide (show DrI W0 base bM r i f S (fun x => !decide (x.t + more < m)) w5 _ cnt2 _ _ from ⟨HR5.out, HG5.out, HS5.out, HFR5.out⟩)
        clear hz
        go_wp2_with fail
        go_roundw
        case rel => exact ⟨_, _, _, _, HD6.out⟩
        case measure => rw [HM.out, HM5.out]; exact hlt
end Go.Proofs.YtoapjidpfghnlaaGreatDoor
