/-
  The walk of the reference's Netted.
  bag.gathered over the rows of changes, and over the rows of a bag.
  The walk of bag.Netted.
-/
import Derived.Test.YtiioiajcoiaalaaGreatDoorNetM
import Derived.Test.YtiioiajcoiaalaaGreatDoorMade
import Derived.Test.YtiioiajcoiaalaaGreatDoorApl
namespace Go.Proofs.YtiioiajcoiaalaaGreatDoor

section
open Go.RowKit
attribute [local go_sem] Oper.semAt_some
set_option linter.unusedVariables false
set_option linter.unusedSimpArgs false

/-- Changes with their times, and an error, handed back. -/
def RetN (w : World) (p : List (Rw × Int × Int) × Int) (e : Ending) (w' : World) : Prop :=
  ∃ A n c l, e = .returned (.tuple #[.slice A n c, .int .i64 p.2]) ∧ datC l = p.1 ∧ ChgR w' w'.heap.size A n l ∧ Below w.heap.size w w'
theorem set_same {α : Type} {l : List α} {i : Nat} {x : α} (h : l[i]? = some x) : l.set i x = l := by
  apply List.ext_getElem?
  intro k
  rw [List.getElem?_set]
  split
  · rename_i e
    subst e
    rw [if_pos (List.getElem?_eq_some_iff.1 h).1, h]
  · rfl
/-- What is set of the times while element i is under way. -/
structure NtI (l : List Ch) (d : Bg) (i : Nat) (s : Int) (lq : List Ch) : Prop where
  dat : chD lq = d
  t : ∀ q c, lq[q]? = some c → c.t = if q < i then tim l c.r else if q = i then s else 0
theorem NtI.start {l lq : List Ch} {d : Bg} (h : chD lq = d) (ht : ∀ i ∈ lq, i.t = 0) : NtI l d 0 0 lq := ⟨h, fun q c hc => by
  rw [ht c (List.mem_of_getElem? hc), if_neg (by omega)]
  split <;> rfl⟩
theorem NtI.put {l lq : List Ch} {d : Bg} {i : Nat} {s : Int} (h : NtI l d i s lq) {x : Ch} (hx : lq[i]? = some x) (s' : Int) : NtI l d i s' (lq.set i ⟨s', x.A, x.n, x.c, x.r, x.m⟩) := by
  refine ⟨?_, fun q c hc => ?_⟩
  · rw [← h.dat]
    unfold chD
    rw [List.map_set]
    exact set_same (by rw [List.getElem?_map, hx]; rfl)
  · rw [List.getElem?_set] at hc
    split at hc
    · rename_i e
      subst e
      rw [if_pos (List.getElem?_eq_some_iff.1 hx).1] at hc
      injection hc with hc
      subst hc
      rw [if_neg (by omega), if_pos rfl]
    · rename_i e
      rw [h.t q c hc]
      split
      · rfl
      · rw [if_neg (fun e2 => e e2.symm), if_neg (fun e2 => e e2.symm)]
theorem NtI.next {l lq : List Ch} {d : Bg} {i : Nat} {s : Int} (h : NtI l d i s lq) {x : Ch} (hx : lq[i]? = some x) (hs : s = tim l x.r) : NtI l d (i + 1) 0 lq := ⟨h.dat, fun q c hc => by
  rw [h.t q c hc]
  by_cases h1 : q < i
  · rw [if_pos h1, if_pos (by omega)]
  · rw [if_neg h1]
    by_cases h2 : q = i
    · subst h2
      rw [if_pos rfl, if_pos (by omega), hs]
      rw [hx] at hc
      injection hc with hc
      rw [hc]
    · rw [if_neg h2, if_neg (by omega)]
      split <;> rfl⟩
theorem NtI.done {l lq : List Ch} {d : Bg} {i : Nat} {s : Int} (h : NtI l d i s lq) (hi : lq.length ≤ i) : datC lq = d.map fun x => (x.1, tim l x.1, x.2) := by
  rw [← h.dat]
  unfold datC chD
  rw [List.map_map]
  refine List.map_congr_left fun c hc => ?_
  obtain ⟨q, hq⟩ := List.getElem?_of_mem hc
  have h1 := (List.getElem?_eq_some_iff.1 hq).1
  have h2 := h.t q c hq
  rw [if_pos (by omega)] at h2
  simp [h2]
theorem flat_setT {l : List Ch} {i : Nat} {x : Ch} (hx : l[i]? = some x) (s : Int) : (l.set i ⟨s, x.A, x.n, x.c, x.r, x.m⟩).flatMap encCh = (l.flatMap encCh).set (i * 3) (.int .i64 s) := by
  induction l generalizing i with
  | nil => simp at hx
  | cons y l ih =>
    cases i with
    | zero =>
      obtain rfl : y = x := by simpa using hx
      rfl
    | succ i =>
      rw [List.set_cons_succ, List.flatMap_cons, List.flatMap_cons, ih (by simpa using hx)]
      rw [show (i + 1) * 3 = i * 3 + 3 by omega]
      rfl
theorem flatCh_get {l : List Ch} {i : Nat} {x : Ch} (h : l[i]? = some x) : (l.flatMap encCh)[i * 3]? = some (.int .i64 x.t) ∧ (l.flatMap encCh)[i * 3 + 1]? = some (.slice x.A x.n x.c) ∧ (l.flatMap encCh)[i * 3 + 2]? = some (.int .i64 x.m) :=
  ⟨flat_get (enc := encCh) (k := 3) encCh_len l i 0 x h (by omega), flat_get (enc := encCh) (k := 3) encCh_len l i 1 x h (by omega), flat_get (enc := encCh) (k := 3) encCh_len l i 2 x h (by omega)⟩
theorem own_cellC {w : World} {base : Nat} {e : TypeId} {size g c n j : Nat} {xs : List Value} {u : Value} (h : w.ownsRow base e size (.slice (some ⟨g, 0, none⟩) n c) n xs) (hu : xs[j]? = some u) : w.cell? ⟨g, j, none⟩ = some u := by
  rw [← Nat.zero_add j, ← add_plain]
  exact h.cells (g := g) rfl j u hu
theorem lst_no {l : List Ch} {y : Ch} {j : Nat} {r : Rw} (hy : l[j]? = some y) (h1 : okR y.r = true) (h2 : okR r = true) (hc : cmpR y.r r ≠ 0) : lst (l.take (j + 1)) (rowT r) = lst (l.take j) (rowT r) := by
  rw [take_snoc' hy, lst_snoc]
  unfold lstS
  rw [if_neg]
  intro e
  rw [rowT_inj h1 h2 e, Tot.row.self] at hc
  exact hc rfl
theorem lst_yes {l : List Ch} {y : Ch} {j : Nat} {r : Rw} (hy : l[j]? = some y) (h1 : okR y.r = true) (h2 : okR r = true) (hc : cmpR y.r r = 0) : lst (l.take (j + 1)) (rowT r) = match lst (l.take j) (rowT r) with
    | none => some y.t
    | some s => if s < y.t then some y.t else some s := by
  rw [take_snoc' hy, lst_snoc]
  unfold lstS
  rw [if_pos (by rw [okR_eq h1 h2 hc])]
  cases lst (l.take j) (rowT r) <;> rfl
theorem own_frozenC {w : World} {base : Nat} {e : TypeId} {size g c n : Nat} {xs : List Value} (h : w.ownsRow base e size (.slice (some ⟨g, 0, none⟩) n c) n xs) (j : Nat) : w.frozen? ⟨g, j, none⟩ = false := by
  rcases h.2 with ⟨he, _⟩ | ⟨g', cap, cur, he, hb, hg, _⟩
  · cases he
  · injection he with he1 he2 he3
    injection he1 with he1
    injection he1 with he1
    subst he1
    exact Blk.frozen (t := e) (cs := cur) hg j
theorem nt_store {W : World} {B g n cap k : Nat} {lz : List Ch} {x : Ch} (s : Int) (hown : W.ownsRow B 45 3 (.slice (some ⟨g, 0, none⟩) n cap) n (lz.flatMap encCh)) (hrows : RowsC W B lz) (hx : lz[k]? = some x) :
    (W.setCell ⟨g, k * 3, none⟩ (.int .i64 s)).ownsRow B 45 3 (.slice (some ⟨g, 0, none⟩) n cap) n ((lz.set k ⟨s, x.A, x.n, x.c, x.r, x.m⟩).flatMap encCh) ∧ RowsC (W.setCell ⟨g, k * 3, none⟩ (.int .i64 s)) B (lz.set k ⟨s, x.A, x.n, x.c, x.r, x.m⟩) := by
  refine ⟨by rw [flat_setT hx]; exact own_store2 hown _, fun i hi => ?_⟩
  obtain ⟨cs, fz, hb⟩ := own_cells hown (g := g) rfl
  have key : RowK W B i.A i.n i.r := by
    rcases List.mem_or_eq_of_mem_set hi with h | h
    · exact hrows i h
    · subst h
      exact hrows x (List.mem_of_getElem? hx)
  exact key.setCell (p := ⟨g, k * 3, none⟩) hb (by decide) (hown.lt g rfl).1 _
set_option maxRecDepth 100000 in
set_option maxHeartbeats 8000000 in
theorem RNetted_any (A : Option Addr) (n c : Nat) (l : List Ch) (w : World) (hx : ChgR w w.heap.size A n l) :
    Calls Tryz.prog 29 #[.slice A n c] w (RetN w (netB l)) := by
  obtain ⟨p, hp⟩ : ∃ p, netB l = p := ⟨_, rfl⟩
  rw [hp]
  have HP := hide hp
  clear hp
  go_enter Tryz.func29, Tryz.ntmps29
  go_wp2_with fail
  refine (RValidChanges_any A n c _ l w hx (Nat.le_refl _)).mono ?_
  rintro e W1 ⟨rfl, hB1⟩
  cases ob : okChs l
  · have HQ := hide (show p = ([], 1) by rw [← HP.out]; unfold netB; rw [ob]; rfl)
    clear ob
    go_wp2
    go_ret2
    rw [HQ.out]
    exact ⟨none, 0, 0, [], rfl, rfl, ChgR.nil _ _, hB1⟩
  have OB := hide ob
  have hn := hx.le
  have hx1 : ChgR W1 W1.heap.size A n l := ⟨(hx.below hB1).rd, fun i hi => ((hx.below hB1).rows i hi).mono hB1.size, hx.le⟩
  have HL := hide hx.len
  clear ob
  go_wp2_with fail
  refine (RAfter_any none 0 0 [] A n c l W1 (BagR.nil _ _) (Nat.le_refl _) hx1 rfl OB.out).mono ?_
  rintro e W2 ⟨A2, n2, c2, l2, rfl, hd2, hb2, hc2, hB2⟩
  have hB02 := bstep hB1 hB2
  have HD2 := hide (show dat l2 = aftB [] (chD l) from hd2)
  clear hB1 hB2 hx1 hd2
  go_wp2_with fail
  refine (R3Valid_any A2 n2 c2 _ l2 W2 hb2).mono ?_
  rintro e W3 ⟨rfl, hB3⟩
  have hB03 := bstep hB02 hB3
  cases od : okBag (dat l2)
  · have HQ := hide (show p = ([], 4) by rw [← HP.out]; unfold netB; rw [OB.out, ← HD2.out, od]; rfl)
    clear od hB02 hB3
    go_wp2
    go_ret2
    rw [HQ.out]
    exact ⟨none, 0, 0, [], rfl, rfl, ChgR.nil _ _, hB03⟩
  have HQ := hide (show p = ((dat l2).map fun x => (x.1, tim l x.1, x.2), 0) by rw [← HP.out]; unfold netB; rw [OB.out, ← HD2.out, od]; rfl)
  have OD := hide od
  have hb3 := (hb2.below hB3).mono hB3.size
  clear od hB02 hB3 hb2
  go_wp2_with fail
  refine (RMadeO_any A2 n2 c2 l2 0 W3 hb3 OD.out).mono ?_
  rintro e W4 ⟨A4, n4, c4, l4, rfl, ⟨hd4, ht4⟩, hown, hrows, hn4, hB4⟩
  have hx3 : ChgR W3 W3.heap.size A n l := ⟨(hx.below hB03).rd, fun i hi => ((hx.below hB03).rows i hi).mono hB03.size, hx.le⟩
  have HB03 := hide hB03
  have HN0 := hide (NtI.start (l := l) hd4 ht4)
  have HR4 := hide (show ∀ x ∈ dat l2, okR x.1 = true from fun x hx => (okBag_asc OD.out).1.ok x hx)
  clear hB03 hb3 hd4 ht4 hx
  go_wp2_with fail
  go_loopw [6] (fun i wr => ∃ (k : Nat) (lq : List Ch), k ≤ n4 ∧ i = .int .i64 k ∧ NtI l (dat l2) k 0 lq ∧ wr.ownsRow W3.heap.size 45 3 (.slice A4 n4 c4) n4 (lq.flatMap encCh) ∧ RowsC wr W3.heap.size lq ∧ Below W3.heap.size W3 wr) (fun i _ => n4 - (intOf i).toNat)
  case atStart => exact ⟨0, l4, Nat.zero_le _, rfl, HN0.out, hown, hrows, hB4⟩
  case round =>
    clear hown hrows hB4 HN0
    obtain ⟨k, lq, hk, rfl, hnt, hown, hrows, hBw⟩ := hrel
    have hlq : lq.length = n4 := by have := hown.1; rw [flat_length (enc := encCh) (k := 3) encCh_len] at this; omega
    have HLQ := hide hlq
    have HNT := hide hnt
    clear hlq hnt
    by_cases hlt : k < n4
    · obtain ⟨x, hxk⟩ : ∃ x, lq[k]? = some x := ⟨_, List.getElem?_eq_getElem (by rw [HLQ.out]; exact hlt)⟩
      obtain ⟨g, cap, hv, _⟩ := hown.form (by omega)
      injection hv with hv1 _ hv2
      subst hv1 hv2
      have HXT := hide (show x.t = 0 by rw [HNT.out.t k x hxk, if_neg (by omega), if_pos rfl])
      have HXR := hide (show okR x.r = true by
        have : (x.r, x.m) ∈ dat l2 := by rw [← HNT.out.dat]; exact List.mem_map.2 ⟨x, List.mem_of_getElem? hxk, rfl⟩
        exact HR4.out _ this)
      have HXK := hide (show lq[k]? = some ⟨(lst (l.take 0) (rowT x.r)).getD 0, x.A, x.n, x.c, x.r, x.m⟩ by
        rw [hxk]
        congr 1
        rcases x with ⟨x1, x2, x3, x4, x5, x6⟩
        have := HXT.out
        simp only at this
        subst this
        rfl)
      obtain ⟨x1, xA, xn, xc, xr, xm⟩ := x
      simp only at HXR HXK
      clear HXT hxk
      have q1 : (0 : Int) ≤ (k : Int) := by omega
      have q2 : (k : Int) < (n4 : Int) := by omega
      have hN0 := hide (show NtI l (dat l2) k ((lst (l.take 0) (rowT xr)).getD 0) lq from HNT.out)
      clear HNT
      have hf0 : (lst (l.take 0) (rowT xr)).isNone = true := rfl
      go_wp2_with fail
      go_loopw [7, 8] (fun f i wx => ∃ (j : Nat) (lz : List Ch), j ≤ n ∧ f = .bool (lst (l.take j) (rowT xr)).isNone ∧ i = .int .i64 j ∧ NtI l (dat l2) k ((lst (l.take j) (rowT xr)).getD 0) lz ∧ lz[k]? = some ⟨(lst (l.take j) (rowT xr)).getD 0, xA, xn, xc, xr, xm⟩ ∧ wx.ownsRow W3.heap.size 45 3 (.slice (some ⟨g, 0, none⟩) n4 c4) n4 (lz.flatMap encCh) ∧ RowsC wx W3.heap.size lz ∧ Below W3.heap.size W3 wx) (fun _ i _ => n - (intOf i).toNat)
      case atStart => exact ⟨0, lq, Nat.zero_le _, rfl, rfl, hN0.out, HXK.out, hown, hrows, hBw⟩
      case round =>
        clear hown hrows hBw hf0 hN0 HXK HLQ
        obtain ⟨j, lz, hj, rfl, rfl, hnt, hzk, hown, hrows, hBw⟩ := hrel
        by_cases hlt2 : j < n
        · obtain ⟨b, off, y, rfl, hb, hyk, e0, e1, e2, hrowy⟩ := (hx3.below hBw).at_ hlt2
          have HYK := hide hyk
          have HYR := hide (show okR y.r = true from ((chs_in OB.out).1 _ (List.mem_of_getElem? (chD_at hyk))).1)
          obtain ⟨o, ho⟩ : ∃ o, lst (l.take j) (rowT xr) = o := ⟨_, rfl⟩
          obtain ⟨s, hs⟩ : ∃ s, o.getD 0 = s := ⟨_, rfl⟩
          obtain ⟨fb, hfb⟩ : ∃ b, o.isNone = b := ⟨_, rfl⟩
          rw [ho, hs] at hnt hzk
          rw [ho, hfb]
          have HNT := hide hnt
          have HZK := hide hzk
          have HO := hide ho
          have HSO := hide hs
          have HFO := hide hfb
          have hg : g < wr.heap.size := (hown.lt g rfl).2
          have hgb : W3.heap.size ≤ g := (hown.lt g rfl).1
          have f0 : wr.cell? ⟨g, k * 3, none⟩ = some (.int .i64 s) := own_cellC hown (flatCh_get hzk).1
          have f1 : wr.cell? ⟨g, k * 3 + 1, none⟩ = some (.slice xA xn xc) := own_cellC hown (flatCh_get hzk).2.1
          have hrowx : RowK wr W3.heap.size xA xn xr := hrows _ (List.mem_of_getElem? hzk)
          clear hyk hzk hnt ho hs hfb
          obtain ⟨cc, hcc⟩ : ∃ cc, cmpR y.r xr = cc := ⟨_, rfl⟩
          have C1 := hide (fun (p : BW wr) => calls_bw (p := p) (v := .int .i64 cc) (by rw [← hcc]; exact R2Compare_any y.A y.n y.c y.r xA xn xc xr p.x (hrowy.below p.h).rd (hrowx.below p.h).rd hrowy.le))
          have HCC := hide hcc
          clear hcc
          have y0 := fun (p : BW wr) => BW.cell (a := ⟨b, off + j * 3, none⟩) hb e0 p
          have y1 := fun (p : BW wr) => BW.cell (a := ⟨b, off + j * 3 + 1, none⟩) hb e1 p
          have z0 := fun (p : BW wr) => BW.cell (a := ⟨g, k * 3, none⟩) hg f0 p
          have z1 := fun (p : BW wr) => BW.cell (a := ⟨g, k * 3 + 1, none⟩) hg f1 p
          have q3 : (0 : Int) ≤ (j : Int) := by omega
          have q4 : (j : Int) < (n : Int) := by omega
          by_cases hc : cc = 0
          · have zc : (cc == 0) = true := by simpa using hc
            have HL2 := hide (lst_yes HYK.out HYR.out HXR.out (HCC.out.trans hc))
            clear hc
            cases o with
            | none =>
              obtain rfl : fb = true := HFO.out.symm
              have HS := hide (show lst (l.take (j + 1)) (rowT xr) = some y.t by rw [HL2.out, HO.out])
              clear HL2
              go_wp2_with fail
              (refine wp_region_quiet_bw (by kernel_rfl) (by kernel_rfl) ?_
               repeat (first | go_big_quiet_step (((go_at_call 78; with_reducible exact C1.out _))) | quiet_step (((go_at_call 78; with_reducible exact C1.out _))))
               refine wpQuiet_nil ?_
               intro wq hw'
               obtain ⟨⟨_, hbq⟩, hw''⟩ := hw'
               subst hw'')
              have hownX := own_below hown hbq
              have hrowsX : RowsC wq W3.heap.size lz := fun i hi => (hrows i hi).below hbq
              have hBX := hBw.trans (hbq.mono hBw.size)
              have x0 : wq.cell? ⟨b, off + j * 3, none⟩ = some (.int .i64 y.t) := (hbq.cell (p := ⟨b, off + j * 3, none⟩) hb).trans e0
              have x1 := own_frozenC hownX (k * 3)
              have x2 : wq.cell? ⟨g, k * 3, none⟩ = some (.int .i64 s) := (hbq.cell (p := ⟨g, k * 3, none⟩) hg).trans f0
              obtain ⟨r1, r2⟩ := nt_store y.t hownX hrowsX HZK.out
              have HOX := hide r1
              have HRX := hide r2
              have HBX := hide (hBX.setCell (p := ⟨g, k * 3, none⟩) hgb (.int .i64 y.t))
              clear r1 r2 y0 y1 z0 z1 e0 e1 e2 f0 f1 hown hrows hBw hbq C1 hrowx hrowy hownX hrowsX hBX
              go_wp2
              go_roundw
              case rel => exact ⟨j + 1, lz.set k ⟨y.t, xA, xn, xc, xr, xm⟩, by omega, by rw [HS.out]; rfl, by go_num, by rw [HS.out]; exact HNT.out.put HZK.out y.t, by rw [HS.out, List.getElem?_set_self (List.getElem?_eq_some_iff.1 HZK.out).1]; rfl, HOX.out, HRX.out, HBX.out⟩
              case measure => simp [intOf]; omega
            | some s2 =>
              obtain rfl : fb = false := HFO.out.symm
              obtain rfl : s2 = s := HSO.out
              by_cases hst : s2 < y.t
              · have zt : decide (s2 < y.t) = true := by simpa using hst
                have HS := hide (show lst (l.take (j + 1)) (rowT xr) = some y.t by rw [HL2.out, HO.out]; simp only [if_pos hst])
                clear HL2 hst
                go_wp2_with fail
                (refine wp_region_quiet_bw (by kernel_rfl) (by kernel_rfl) ?_
                 repeat (first | go_big_quiet_step (((go_at_call 78; with_reducible exact C1.out _))) | quiet_step (((go_at_call 78; with_reducible exact C1.out _))))
                 refine wpQuiet_nil ?_
                 intro wq hw'
                 obtain ⟨⟨_, hbq⟩, hw''⟩ := hw'
                 subst hw'')
                have hownX := own_below hown hbq
                have hrowsX : RowsC wq W3.heap.size lz := fun i hi => (hrows i hi).below hbq
                have hBX := hBw.trans (hbq.mono hBw.size)
                have x0 : wq.cell? ⟨b, off + j * 3, none⟩ = some (.int .i64 y.t) := (hbq.cell (p := ⟨b, off + j * 3, none⟩) hb).trans e0
                have x1 := own_frozenC hownX (k * 3)
                have x2 : wq.cell? ⟨g, k * 3, none⟩ = some (.int .i64 s2) := (hbq.cell (p := ⟨g, k * 3, none⟩) hg).trans f0
                obtain ⟨r1, r2⟩ := nt_store y.t hownX hrowsX HZK.out
                have HOX := hide r1
                have HRX := hide r2
                have HBX := hide (hBX.setCell (p := ⟨g, k * 3, none⟩) hgb (.int .i64 y.t))
                clear r1 r2 y0 y1 z0 z1 e0 e1 e2 f0 f1 hown hrows hBw hbq C1 hrowx hrowy hownX hrowsX hBX
                go_wp2
                go_roundw
                case rel => exact ⟨j + 1, lz.set k ⟨y.t, xA, xn, xc, xr, xm⟩, by omega, by rw [HS.out]; rfl, by go_num, by rw [HS.out]; exact HNT.out.put HZK.out y.t, by rw [HS.out, List.getElem?_set_self (List.getElem?_eq_some_iff.1 HZK.out).1]; rfl, HOX.out, HRX.out, HBX.out⟩
                case measure => simp [intOf]; omega
              · have zt : decide (s2 < y.t) = false := by simpa using hst
                have HS := hide (show lst (l.take (j + 1)) (rowT xr) = some s2 by rw [HL2.out, HO.out]; simp only [if_neg hst])
                clear HL2 hst
                go_wp2_with fail
                (refine wp_region_quiet_bw (by kernel_rfl) (by kernel_rfl) ?_
                 repeat (first | go_big_quiet_step (((go_at_call 78; with_reducible exact C1.out _))) | quiet_step (((go_at_call 78; with_reducible exact C1.out _))))
                 refine wpQuiet_nil ?_
                 intro wq hw'
                 obtain ⟨⟨_, hbq⟩, hw''⟩ := hw'
                 subst hw'')
                have HOX := hide (own_below hown hbq)
                have HRX := hide (show RowsC wq W3.heap.size lz from fun i hi => (hrows i hi).below hbq)
                have HBX := hide (hBw.trans (hbq.mono hBw.size))
                clear y0 y1 z0 z1 e0 e1 e2 f0 f1 hown hrows hBw hbq C1 hrowx hrowy
                go_wp2
                go_roundw
                case rel => exact ⟨j + 1, lz, by omega, by rw [HS.out]; rfl, by go_num, by rw [HS.out]; exact HNT.out, by rw [HS.out]; exact HZK.out, HOX.out, HRX.out, HBX.out⟩
                case measure => simp [intOf]; omega
          · have zc : (cc == 0) = false := by simpa using hc
            have HS := hide (show lst (l.take (j + 1)) (rowT xr) = o by rw [lst_no HYK.out HYR.out HXR.out (by rw [HCC.out]; exact hc), HO.out])
            clear hc
            go_wp2_with fail
            (refine wp_region_quiet_bw (by kernel_rfl) (by kernel_rfl) ?_
             repeat (first | go_big_quiet_step (((go_at_call 78; with_reducible exact C1.out _))) | quiet_step (((go_at_call 78; with_reducible exact C1.out _))))
             refine wpQuiet_nil ?_
             intro wq hw'
             obtain ⟨⟨_, hbq⟩, hw''⟩ := hw'
             subst hw'')
            have HOX := hide (own_below hown hbq)
            have HRX := hide (show RowsC wq W3.heap.size lz from fun i hi => (hrows i hi).below hbq)
            have HBX := hide (hBw.trans (hbq.mono hBw.size))
            clear y0 y1 z0 z1 e0 e1 e2 f0 f1 hown hrows hBw hbq C1 hrowx hrowy
            go_wp2
            go_roundw
            case rel => exact ⟨j + 1, lz, by omega, by rw [HS.out, HFO.out], by go_num, by rw [HS.out, HSO.out]; exact HNT.out, by rw [HS.out, HSO.out]; exact HZK.out, HOX.out, HRX.out, HBX.out⟩
            case measure => simp [intOf]; omega
        · obtain rfl : j = n := by omega
          have HNX := hide (hnt.next hzk (show _ = tim l xr by unfold tim; rw [take_all HL.out]))
          have HOX := hide hown
          have HRX := hide hrows
          have HBX := hide hBw
          clear hnt hzk hown hrows hBw
          go_wp2
          go_roundw
          case rel => exact ⟨k + 1, lz, by omega, by go_num, HNX.out, HOX.out, HRX.out, HBX.out⟩
          case measure => simp [intOf]; omega
    · obtain rfl : k = n4 := by omega
      have HD := hide (HNT.out.done (by rw [HLQ.out]; exact Nat.le_refl _))
      have HR := hide (show ChgR wr wr.heap.size A4 k lq from ⟨Reads.of_own hown, fun i hi => (hrows i hi).mono hBw.size, by omega⟩)
      have HE := hide (bstep HB03.out hBw)
      clear hown hrows hBw
      go_wp2
      go_ret2
      rw [HQ.out]
      exact ⟨A4, k, c4, lq, rfl, HD.out, HR.out, HE.out⟩
end

section
open Go.RowKit
attribute [local go_sem] Oper.semAt_some
set_option linter.unusedVariables false

theorem gathered_rows (Bx : Nat) (A : Option Addr) (n c : Nat) (l : List Ch) (w : World) (hb : Boxed w Bx 24 (.slice A n c)) (hc : ChgR w w.heap.size A n l) (ht : Tab w) (ho : okChs l = true) :
    Calls Tryz.prog 46 #[.func (Fn.func 111) #[] #[.pointer (some ⟨Bx, 0, none⟩)]] w (RetGat w w.heap.size [] (chD l)) :=
  callsIn_wide.1 (gathered_in 111 #[.pointer (some ⟨Bx, 0, none⟩)] (chD l) w.heap.size [] w (fun W hW => ht.below (bar_nil hW)) (enters_of Tryz.func111 (by kernel_rfl) rfl)
    (fun W hW hs => rows1_iter 7 (by omega) Bx A n c l W w.heap.size (w.heap.size + 5) (KeepT w.heap.size (w.heap.size + 5)) (fun V => Below w.heap.size w V)
      (fun V hV => ⟨(hV.block _ hb.lt).trans hb, hc.below hV⟩) (fun X Y hX hk => hX.trans (bar_nil hk.bar)) (fun X o hX => hX.alloc hX.size o) hW)
    (fun x hx => ⟨((chs_in ho).1 x hx).1, (numB_ne ((chs_in ho).1 x hx).2).2⟩)
    (by rw [chD_len]; have := (chs_in ho).2; omega) (Nat.le_refl _) (by simp))
theorem gathered_items (Bx : Nat) (A : Option Addr) (n c : Nat) (l : List It) (w : World) (hb : Boxed w Bx 23 (.slice A n c)) (hc : BagR w w.heap.size A n l) (ht : Tab w) (hok : ∀ x ∈ dat l, okR x.1 = true ∧ -1000000 ≤ x.2 ∧ x.2 ≤ 1000000) (hlen : (dat l).length ≤ 1000) :
    Calls Tryz.prog 46 #[.func (Fn.func 110) #[] #[.pointer (some ⟨Bx, 0, none⟩)]] w (RetGat w w.heap.size [] (dat l)) :=
  callsIn_wide.1 (gathered_in 110 #[.pointer (some ⟨Bx, 0, none⟩)] (dat l) w.heap.size [] w (fun W hW => ht.below (bar_nil hW)) (enters_of Tryz.func110 (by kernel_rfl) rfl)
    (fun W hW hs => items1_iter 7 (by omega) Bx A n c l W w.heap.size (w.heap.size + 5) (KeepT w.heap.size (w.heap.size + 5)) (fun V => Below w.heap.size w V)
      (fun V hV => ⟨(hV.block _ hb.lt).trans hb, hc.below (hV.mono (Nat.le_refl _))⟩) (fun X Y hX hk => hX.trans (bar_nil hk.bar)) (fun X o hX => hX.alloc hX.size o) hW)
    hok hlen (Nat.le_refl _) (by simp))
end

section
open Go.RowKit Go.Maps
attribute [local go_sem] Oper.semAt_some
set_option linter.unusedVariables false
set_option linter.unusedSimpArgs false

/-- What the map of last times holds. -/
def lF (L : List Ch) : Lit → Option Value
  | .string t => (lst L t).map (.int .i64)
  | _ => none
theorem lF_nil : lF [] = fun _ => none := by
  funext kl
  cases kl <;> rfl
theorem lF_keep {L : List Ch} {i : Ch} {s : Int} (h : lst L (rowT i.r) = some s) (hs : ¬ s < i.t) : lF (L ++ [i]) = lF L := by
  funext kl
  cases kl with
  | string t =>
    simp only [lF]
    rw [lst_snoc]
    unfold lstS
    split
    · rename_i e
      rw [← e, h]
      simp only [if_neg hs]
    · rfl
  | _ => rfl
theorem lF_put {L : List Ch} {i : Ch} (h : ∀ s, lst L (rowT i.r) = some s → s < i.t) : lF (L ++ [i]) = putF (lF L) (.string (rowT i.r)) (.int .i64 i.t) := by
  funext kl
  unfold putF
  cases kl with
  | string t =>
    simp only [lF]
    rw [lst_snoc]
    unfold lstS
    by_cases e : rowT i.r = t
    · subst e
      rw [if_pos rfl, if_pos rfl]
      cases ho : lst L (rowT i.r) with
      | none => rfl
      | some s => simp only [if_pos (h s ho)]; rfl
    · rw [if_neg e, if_neg (fun e2 => by injection e2 with e2; exact e e2.symm)]
  | _ => rw [if_neg (by intro e; cases e)]; rfl
theorem last_ok {W : World} {mb nn : Nat} {L : List Ch} (h : MapF W Tryz.prog 9 mb nn (lF L)) (r : Rw) : (Instr.lookup 99 (.map (some mb)) (.string ⟨(rowT r).toArray⟩) true).run Tryz.prog W = .ok (.tuple #[.int .i64 (tim L r), .bool (lst L (rowT r)).isSome]) W := by
  have h1 := h.look_ok (t := 99) (e := 3) (string_keyed Tryz.underlying9) Tryz.underlying99 (z := .int .i64 0) (by kernel_rfl) (key_of W r)
  rw [h1]
  simp only [lF]
  unfold tim
  cases lst L (rowT r) <;> rfl
theorem last_at {W : World} {mb nn : Nat} {L : List Ch} (h : MapF W Tryz.prog 9 mb nn (lF L)) (r : Rw) : (Instr.lookup 99 (.map (some mb)) (.string ⟨(rowT r).toArray⟩) false).run Tryz.prog W = .ok (.int .i64 (tim L r)) W := by
  have h1 := h.look (t := 99) (e := 3) (string_keyed Tryz.underlying9) Tryz.underlying99 (z := .int .i64 0) (by kernel_rfl) (key_of W r)
  rw [h1]
  simp only [lF]
  unfold tim
  cases lst L (rowT r) <;> rfl
/-- What is put together so far. -/
structure NetI (w : World) (d : List (Rw × Int × Int)) (v : Value) (W : World) : Prop where
  bel : Below w.heap.size w W
  ow : ∃ l : List Ch, W.ownsRow w.heap.size 45 3 v l.length (l.flatMap encCh) ∧ datC l = d ∧ RowsC W w.heap.size l
theorem NetI.below {w W W' : World} {d : List (Rw × Int × Int)} {v : Value} (h : NetI w d v W) (hb : Below W.heap.size W W') : NetI w d v W' := by
  obtain ⟨h1, l, h2, h3, h5⟩ := h
  exact ⟨bstep h1 hb, l, own_below h2 hb, h3, fun i hi => (h5 i hi).below hb⟩
theorem neti_app {w X2 X3 : World} {T : Int} {d : List (Rw × Int × Int)} {v v' : Value} {l : List Ch} {Ac : Option Addr} {n cc : Nat} {r : Rw} {m : Int} (hB : Below w.heap.size w X2) (h1 : X2.ownsRow w.heap.size 45 3 v l.length (l.flatMap encCh)) (h2 : datC l = d) (h3 : RowsC X2 w.heap.size l)
    (hrow : RowK X2 w.heap.size Ac n r) (hown : X3.ownsRow w.heap.size 45 3 v' (l.length + 1) (l.flatMap encCh ++ [.int .i64 T, .slice Ac n cc, .int .i64 m])) (hgrow : (X2.alloc (.cells #[.int .i64 T, .slice Ac n cc, .int .i64 m] 45)).grownBy X3 v.ownBlock) : NetI w (d ++ [(r, T, m)]) v' X3 := by
  have hs := hB.size
  refine ⟨below_append (hB.alloc hs _) (h1.alloc _) (by simp; omega) hgrow, l ++ [⟨T, Ac, n, cc, r, m⟩], ?_, by unfold datC at h2 ⊢; rw [List.map_append, h2]; rfl, fun i hi => ?_⟩
  · rw [List.length_append, List.flatMap_append]
    simpa [encCh] using hown
  · have key : RowK X2 w.heap.size i.A i.n i.r := by
      rcases List.mem_append.1 hi with h | h
      · exact h3 i h
      · obtain rfl : i = ⟨T, Ac, n, cc, r, m⟩ := by simpa using h
        exact hrow
    exact (key.alloc _).grown (h1.alloc _) (by decide) (Nat.le_refl _) hgrow
theorem neti_end {w W : World} {d : List (Rw × Int × Int)} {v : Value} (h : NetI w d v W) (hd : d.length ≤ 100000) : ∃ A n c l, v = .slice A n c ∧ datC l = d ∧ ChgR W W.heap.size A n l ∧ Below w.heap.size w W := by
  obtain ⟨h1, l, h2, h3, h5⟩ := h
  have hl : l.length = d.length := by rw [← h3]; simp [datC]
  obtain ⟨A, c, rfl, _⟩ := own_form h2
  exact ⟨A, _, c, l, rfl, h3, ⟨Reads.of_own h2, fun i hi => (h5 i hi).mono h1.size, by omega⟩, h1⟩
set_option maxRecDepth 100000 in
set_option maxHeartbeats 8000000 in
theorem Netted_any (A : Option Addr) (n c : Nat) (l : List Ch) (w : World) (hx : ChgR w w.heap.size A n l) (ht : Tab w) :
    Calls Tryz.prog 28 #[.slice A n c] w (RetN w (netB l)) := by
  obtain ⟨i0, hi, hz0, hz1, hz2⟩ := info_parts3 infoCh
  obtain ⟨p, hp⟩ : ∃ p, netB l = p := ⟨_, rfl⟩
  rw [hp]
  have HP := hide hp
  clear hp
  go_enter Tryz.func28, Tryz.ntmps28
  go_wp2_with fail
  refine (changes_any A n c _ l w hx (Nat.le_refl _)).mono ?_
  rintro e W1 ⟨rfl, hB1⟩
  cases ob : okChs l
  · have HQ := hide (show p = ([], 1) by rw [← HP.out]; unfold netB; rw [ob]; rfl)
    clear ob
    go_wp2
    go_ret2
    rw [HQ.out]
    exact ⟨none, 0, 0, [], rfl, rfl, ChgR.nil _ _, hB1⟩
  have OB := hide ob
  have h4 := (chs_in ob).2
  rw [hx.len] at h4
  have hx1 : ChgR W1 W1.heap.size A n l := ⟨(hx.below hB1).rd, fun i hi => ((hx.below hB1).rows i hi).mono hB1.size, hx.le⟩
  have ht1 := ht.below hB1
  have HL := hide hx.len
  clear ob hx ht
  have hmm := @run_makeMap Tryz.prog
  have hM0 : MapF (W1.alloc (.map #[] 0)) Tryz.prog 9 W1.heap.size 0 (lF []) := by rw [lF_nil]; exact MapF.made W1 Tryz.prog 9
  have hB2 : Below W1.heap.size W1 (W1.alloc (.map #[] 0)) := (Below.refl _ _).alloc (Nat.le_refl _) _
  go_wp2_with fail
  obtain ⟨W2, hW2⟩ : ∃ W2, W1.alloc (.map #[] 0) = W2 := ⟨_, rfl⟩
  rw [hW2] at hM0 hB2 ⊢
  clear hW2 hmm
  go_loopw [21] (fun i wr => ∃ k : Nat, k ≤ n ∧ i = .int .i64 k ∧ MapF wr Tryz.prog 9 W1.heap.size k (lF (l.take k)) ∧ Below W1.heap.size W1 wr) (fun i _ => n - (intOf i).toNat)
  case atStart => exact ⟨0, Nat.zero_le _, rfl, hM0, hB2⟩
  case round =>
    clear hM0 hB2
    obtain ⟨k, hk, rfl, hM, hBw⟩ := hrel
    by_cases hlt : k < n
    · obtain ⟨b, off, x, rfl, hb, hxk, c0, c1, c2, hrow⟩ := (hx1.below hBw).at_ hlt
      have HT := hide (show l.take (k + 1) = l.take k ++ [x] from take_snoc' hxk)
      have q1 : (0 : Int) ≤ (k : Int) := by omega
      have q2 : (k : Int) < (n : Int) := by omega
      have hBv := below_val (w := wr) #[.int .i64 x.t, .slice x.A x.n x.c, .int .i64 x.m] 45
      have kx := Blk.new wr 45 #[.int .i64 x.t, .slice x.A x.n x.c, .int .i64 x.m]
      have HTX := hide (Text_any x.A x.n x.c x.r _ (hrow.below hBv).rd hrow.le ((ht1.below hBw).below hBv))
      have hM1 := hM.alloc (.cells #[.int .i64 x.t, .slice x.A x.n x.c, .int .i64 x.m] 45)
      have hBx := bstep hBw hBv
      clear hxk hrow hBv hM
      go_wp2_with fail
      refine HTX.out.mono ?_
      rintro e Y ⟨rfl, hBY⟩
      have hM2 := hM1.below hBY hM1.lt
      have hBz := bstep hBx hBY
      have kt : Y.cell? ⟨wr.heap.size, 0, none⟩ = some (.int .i64 x.t) := (hBY.cell (p := ⟨wr.heap.size, 0, none⟩) kx.lt).trans (kx.cell 0)
      have HM2 := hide hM2
      have hlk := last_ok hM2 x.r
      obtain ⟨o, ho⟩ : ∃ o, lst (l.take k) (rowT x.r) = o := ⟨_, rfl⟩
      obtain ⟨T, hT⟩ : ∃ T, tim (l.take k) x.r = T := ⟨_, rfl⟩
      rw [ho, hT] at hlk
      have HO := hide ho
      have HTM := hide hT
      clear hM1 hBx hBY kx HTX c0 c1 c2 ho hT hM2
      cases o with
      | none =>
        have HF := hide (show lF (l.take (k + 1)) = putF (lF (l.take k)) (.string (rowT x.r)) (.int .i64 x.t) by rw [HT.out]; exact lF_put fun s h => by rw [HO.out] at h; cases h)
        simp only [Option.isSome_none] at hlk
        go_wp2_with (at_mapUpdate; refine wpList_putF _ rfl _ _ _ 99 rfl 9 3 (string_keyed Tryz.underlying9) Tryz.underlying99 HM2.out (by unfold maxLen; omega) _ _ (.string (rowT x.r)) rfl rfl rfl (key_of Y x.r) ?_; intro W4 hM4 hg4)
        have hM5 := HF.out ▸ hM4
        have hB5 := hBz.grown hg4 hBz.size fun b e => by cases e; exact Nat.le_refl _
        clear hlk kt hBz hg4 hM4
        go_roundw
        case rel => exact ⟨k + 1, by omega, by go_num, hM5, hB5⟩
        case measure => simp [intOf]; omega
      | some s =>
        obtain rfl : s = T := by rw [← HTM.out]; unfold tim; rw [HO.out]; rfl
        simp only [Option.isSome_some] at hlk
        by_cases hst : s < x.t
        · have zt : decide (s < x.t) = true := by simpa using hst
          have HF := hide (show lF (l.take (k + 1)) = putF (lF (l.take k)) (.string (rowT x.r)) (.int .i64 x.t) by rw [HT.out]; exact lF_put fun s h => by rw [HO.out] at h; injection h with h; omega)
          go_wp2_with (at_mapUpdate; refine wpList_putF _ rfl _ _ _ 99 rfl 9 3 (string_keyed Tryz.underlying9) Tryz.underlying99 HM2.out (by unfold maxLen; omega) _ _ (.string (rowT x.r)) rfl rfl rfl (key_of Y x.r) ?_; intro W4 hM4 hg4)
          have hM5 := HF.out ▸ hM4
          have hB5 := hBz.grown hg4 hBz.size fun b e => by cases e; exact Nat.le_refl _
          clear hlk kt hBz hg4 hM4
          go_roundw
          case rel => exact ⟨k + 1, by omega, by go_num, hM5, hB5⟩
          case measure => simp [intOf]; omega
        · have zt : decide (s < x.t) = false := by simpa using hst
          have hM5 : MapF Y Tryz.prog 9 W1.heap.size (k + 1) (lF (l.take (k + 1))) := by rw [HT.out, lF_keep HO.out hst]; exact HM2.out.mono (by omega)
          go_wp2_with fail
          clear hlk kt
          go_roundw
          case rel => exact ⟨k + 1, by omega, by go_num, hM5, hBz⟩
          case measure => simp [intOf]; omega
    · obtain rfl : k = n := by omega
      rw [take_all HL.out] at hM
      have HM0 := hide hM
      have hBr := bstep hB1 hBw
      clear hM
      go_wp2_with fail
      refine (rows_any A k c wr).mono ?_
      rintro e Z ⟨rfl, hZ⟩
      have hb0 := Boxed.new wr 24 (.slice A k c)
      rw [← hZ] at hb0
      have hBZ : Below wr.heap.size wr Z := by rw [hZ]; exact below_val _ _
      have hB0Z := bstep hBr hBZ
      have hB1Z := bstep hBw hBZ
      have hxZ : ChgR Z Z.heap.size A k l := ⟨(hx1.below hB1Z).rd, fun i hi => ((hx1.below hB1Z).rows i hi).mono hB1Z.size, hx1.le⟩
      have htZ := ht1.below hB1Z
      have hMZ := HM0.out.below hBZ HM0.out.lt
      clear hZ hBw hBr hBZ hB1Z HM0 hx1 ht1
      go_wp2_with fail
      refine (gathered_rows wr.heap.size A k c l Z hb0 hxZ htZ OB.out).mono ?_
      rintro e V ⟨A4, n4, c4, l4, rfl, hnet, hbag, hcap, _, hbar⟩
      have hBV := bstep hB0Z (bar_nil hbar)
      have HD4 := hide (show dat l4 = aftB [] (chD l) from hnet.same (aft_nil OB.out) fun _ => rfl)
      have hsz := hbar.size
      have hMV := hMZ.below (bar_nil hbar) hMZ.lt
      have htV := htZ.below (bar_nil hbar)
      clear hbar hnet hxZ hb0 htZ hMZ hB0Z hB1
      go_wp2_with fail
      refine (put_any A4 n4 c4 Z.heap.size l4 V hbag hsz hcap).mono ?_
      intro e U h
      rw [HD4.out] at h
      obtain ⟨A5, n5, c5, l5, rfl, r2, r3, r4, r5⟩ := told_ret' (Below.refl _ _) h
      have hBU := bstep hBV r5
      have hMU := hMV.below r5 hMV.lt
      have htU := htV.below r5
      clear h hbag hcap hsz hBV hMV htV r5 HD4
      cases od : okBag (aftB [] (chD l))
      · have hq : toldB (aftB [] (chD l)) = ([], 4) := by unfold toldB; rw [od]; rfl
        have HQ := hide (show p = ([], 4) by rw [← HP.out]; unfold netB; rw [OB.out, od]; rfl)
        rw [hq]
        clear od hq r2 r3 hMU htU
        go_wp2
        go_ret2
        rw [HQ.out]
        exact ⟨none, 0, 0, [], rfl, rfl, ChgR.nil _ _, hBU⟩
      · have hq : toldB (aftB [] (chD l)) = (aftB [] (chD l), 0) := by unfold toldB; rw [od]; rfl
        have HQ := hide (show p = ((aftB [] (chD l)).map fun x => (x.1, tim l x.1, x.2), 0) by rw [← HP.out]; unfold netB; rw [OB.out, od]; rfl)
        rw [hq] at r2 ⊢
        have HR2 := hide (show dat l5 = aftB [] (chD l) from r2)
        have OD := hide (show okBag (dat l5) = true by rw [HR2.out]; exact od)
        have HMU := hide hMU
        have HTU := hide htU
        have hn5 : n5 ≤ 400 := by have := (okBag_asc OD.out).2.2; rw [dat_len, r3.len] at this; exact this
        have HL5 := hide r3.len
        clear od hq r2 hMU htU
        go_wp2_with fail
        go_loopw [12, 59] (fun v i wx => ∃ (j : Nat) (v' : Value), j ≤ n5 ∧ i = .int .i64 j ∧ v' = v ∧ NetI U (((dat l5).take j).map fun x => (x.1, tim l x.1, x.2)) v' wx) (fun _ i _ => n5 - (intOf i).toNat)
        case atStart => exact ⟨0, _, Nat.zero_le _, rfl, rfl, Below.refl _ _, [], World.ownsRow_nil _ _ _ _, rfl, nofun⟩
        case round =>
          obtain ⟨j, v, hj, rfl, rfl, hI⟩ := hrel
          by_cases hlt2 : j < n5
          · obtain ⟨b, off, y0, rfl, hbl, hyk, c0', c1', hy⟩ := r3.at_ hlt2
            have hyd := dat_at hyk
            have hmem := List.mem_of_getElem? hyd
            have hyr := (okBag_asc OD.out).1.ok _ hmem
            have hyn : y0.n ≤ 1000 := by
              have h1 := okR_len hyr
              have h2 := hy.len
              simp only at h1
              omega
            have HT := hide (show ((dat l5).take (j + 1)).map (fun x => (x.1, tim l x.1, x.2)) = ((dat l5).take j).map (fun x => (x.1, tim l x.1, x.2)) ++ [(y0.r, tim l y0.r, y0.m)] by rw [take_snoc' hyd, List.map_append]; rfl)
            have HKL := hide (show (((dat l5).take j).map fun x => (x.1, tim l x.1, x.2)).length ≤ 400 by rw [List.length_map, List.length_take]; omega)
            have c0 := (hI.bel.cell (p := ⟨b, off + j * 2, none⟩) hbl).trans c0'
            have c1 := (hI.bel.cell (p := ⟨b, off + j * 2 + 1, none⟩) hbl).trans c1'
            obtain ⟨D, hD⟩ : ∃ D, ((dat l5).take j).map (fun x => (x.1, tim l x.1, x.2)) = D := ⟨_, rfl⟩
            rw [hD] at hI
            have HDD := hide hD
            clear c0' c1' hyk hyd hmem hyr hD
            have q1 : (0 : Int) ≤ (j : Int) := by omega
            have q2 : (j : Int) < (n5 : Int) := by omega
            have kx := Blk.new wr 62 #[.slice y0.A y0.n y0.c, .int .i64 y0.m]
            have hI1 := hI.below (below_val (w := wr) #[.slice y0.A y0.n y0.c, .int .i64 y0.m] 62)
            clear hI
            go_wp2_with fail
            obtain ⟨xb, hxb⟩ : ∃ xb, wr.heap.size = xb := ⟨_, rfl⟩
            rw [hxb] at kx ⊢
            refine Held.begin (fun y => y.cell? ⟨xb, 0, none⟩ = some (.slice y0.A y0.n y0.c) ∧ y.cell? ⟨xb, 1, none⟩ = some (.int .i64 y0.m) ∧ MapF y Tryz.prog 9 W1.heap.size k (lF l)) 100 (by kernel_rfl) ?_
            have hI := hI1.below (Below.refl _ _).drew
            clear hI1
            obtain ⟨X1, hX1⟩ : ∃ X1, (wr.alloc (.cells #[.slice y0.A y0.n y0.c, .int .i64 y0.m] 62)).drew = X1 := ⟨_, rfl⟩
            rw [hX1] at hI
            have kx1 : Blk X1 xb 62 #[.slice y0.A y0.n y0.c, .int .i64 y0.m] := by rw [← hX1]; exact kx
            have hS : X1.cell? ⟨xb, 0, none⟩ = some (.slice y0.A y0.n y0.c) ∧ X1.cell? ⟨xb, 1, none⟩ = some (.int .i64 y0.m) ∧ MapF X1 Tryz.prog 9 W1.heap.size k (lF l) := ⟨kx1.cell 0, kx1.cell 1, HMU.out.below hI.bel HMU.out.lt⟩
            rw [hX1]
            clear hX1 c0 c1 kx hxb
            refine Held.take (i := 0) (v) rfl hS (by kernel_rfl) (by kernel_rfl) (by kernel_rfl) (by kernel_rfl) (fun _ _ _ h => h) rfl (fun y hy => by obtain ⟨x1, x2, x3⟩ := hy; go_simp) ?_
            try simp only [Act.put]
            refine Held.take (i := 1) (.map (some W1.heap.size)) rfl hS (by kernel_rfl) (by kernel_rfl) (by kernel_rfl) (by kernel_rfl) (fun _ _ _ h => h) rfl (fun y hy => by obtain ⟨x1, x2, x3⟩ := hy; go_simp) ?_
            try simp only [Act.put]
            refine Held.take (i := 2) (.pointer (some ⟨xb, 0, none⟩)) rfl hS (by kernel_rfl) (by kernel_rfl) (by kernel_rfl) (by kernel_rfl) (fun _ _ _ h => h) rfl (fun y hy => by obtain ⟨x1, x2, x3⟩ := hy; go_simp) ?_
            try simp only [Act.put]
            refine Held.take (i := 3) (.slice y0.A y0.n y0.c) rfl hS (by kernel_rfl) (by kernel_rfl) (by kernel_rfl) (by kernel_rfl) (fun _ _ _ h => h) rfl (fun y hy => by obtain ⟨x1, x2, x3⟩ := hy; go_simp) ?_
            try simp only [Act.put]
            refine Held.take (i := 6) (.pointer (some ⟨xb, 0, none⟩)) rfl hS (by kernel_rfl) (by kernel_rfl) (by kernel_rfl) (by kernel_rfl) (fun _ _ _ h => h) rfl (fun y hy => by obtain ⟨x1, x2, x3⟩ := hy; go_simp) ?_
            try simp only [Act.put]
            refine Held.take (i := 7) (.slice y0.A y0.n y0.c) rfl hS (by kernel_rfl) (by kernel_rfl) (by kernel_rfl) (by kernel_rfl) (fun _ _ _ h => h) rfl (fun y hy => by obtain ⟨x1, x2, x3⟩ := hy; go_simp) ?_
            try simp only [Act.put]
            refine Held.take (i := 8) (.pointer (some ⟨xb, 1, none⟩)) rfl hS (by kernel_rfl) (by kernel_rfl) (by kernel_rfl) (by kernel_rfl) (fun _ _ _ h => h) rfl (fun y hy => by obtain ⟨x1, x2, x3⟩ := hy; go_simp) ?_
            try simp only [Act.put]
            refine Held.take (i := 9) (.int .i64 y0.m) rfl hS (by kernel_rfl) (by kernel_rfl) (by kernel_rfl) (by kernel_rfl) (fun _ _ _ h => h) rfl (fun y hy => by obtain ⟨x1, x2, x3⟩ := hy; go_simp) ?_
            try simp only [Act.put]
            refine Held.one (i := 4) rfl (by kernel_rfl) rfl (fun K hK => ?_)
            unfold Oper.wp
            go_simp
            refine (Text_any y0.A y0.n y0.c y0.r X1 (hy.below hI.bel).rd hy.le (HTU.out.below hI.bel)).mono ?_
            rintro e X2 ⟨rfl, hB2⟩
            have hI2 := hI.below hB2
            have kx2 : Blk X2 xb 62 #[.slice y0.A y0.n y0.c, .int .i64 y0.m] := (hB2.block _ kx1.lt).trans kx1
            clear hI kx1
            have hS2 : X2.cell? ⟨xb, 0, none⟩ = some (.slice y0.A y0.n y0.c) ∧ X2.cell? ⟨xb, 1, none⟩ = some (.int .i64 y0.m) ∧ MapF X2 Tryz.prog 9 W1.heap.size k (lF l) := ⟨kx2.cell 0, kx2.cell 1, HMU.out.below hI2.bel HMU.out.lt⟩
            refine hK _ _ (fun _ => hS2) ?_
            try simp only [Act.put]
            clear hK K hS hB2
            have hS := hS2
            clear hS2
            refine Held.take (i := 5) (.int .i64 (tim l y0.r)) rfl hS (by kernel_rfl) (by kernel_rfl) (by kernel_rfl) (by kernel_rfl) (fun _ _ _ h => h) rfl (fun y hy => by obtain ⟨x1, x2, x3⟩ := hy; have x4 := last_at x3 y0.r; go_simp) ?_
            try simp only [Act.put]
            refine Held.take (i := 10) (.agg #[.int .i64 (tim l y0.r), .slice y0.A y0.n y0.c, .int .i64 y0.m]) rfl hS (by kernel_rfl) (by kernel_rfl) (by kernel_rfl) (by kernel_rfl) (fun _ _ _ h => h) rfl (fun y hy => by obtain ⟨x1, x2, x3⟩ := hy; go_simp) ?_
            try simp only [Act.put]
            refine Held.one (i := 11) rfl (by kernel_rfl) rfl (fun K hK => ?_)
            have kx3 := kx2.alloc (.cells #[.int .i64 (tim l y0.r), .slice y0.A y0.n y0.c, .int .i64 y0.m] 45)
            have HS4 := hide (show _ ∧ _ ∧ MapF (X2.alloc (.cells #[.int .i64 (tim l y0.r), .slice y0.A y0.n y0.c, .int .i64 y0.m] 45)) Tryz.prog 9 W1.heap.size k (lF l) from ⟨kx3.cell 0, kx3.cell 1, hS.2.2.alloc _⟩)
            unfold Oper.wp
            go_simp
            refine hK _ _ (fun _ => HS4.out) ?_
            try simp only [Act.put]
            clear hK K hS
            refine Held.one (i := 12) rfl (by kernel_rfl) rfl (fun K hK => ?_)
            have hle := hI2.bel.size
            have hrow := hy.below hI2.bel
            obtain ⟨hbel, l', h1, h2, h3⟩ := hI2
            have hll : l'.length ≤ 400 := by
              have := HKL.out
              rw [HDD.out, ← h2] at this
              simpa [datC] using this
            have hrd : Reads (X2.alloc (.cells #[.int .i64 (tim l y0.r), .slice y0.A y0.n y0.c, .int .i64 y0.m] 45)) (X2.heap.size + 1) 3 (some ⟨X2.heap.size, 0, none⟩) 1 [.int .i64 (tim l y0.r), .slice y0.A y0.n y0.c, .int .i64 y0.m] :=
              ⟨rfl, fun _ => ⟨X2.heap.size, 0, rfl, by omega, fun j u hu => by
                have := (Blk.new X2 45 #[.int .i64 (tim l y0.r), .slice y0.A y0.n y0.c, .int .i64 y0.m]).cell j
                rw [Nat.zero_add, this]; simpa using hu⟩⟩
            refine wp_append_any _ _ _ 24 rfl U.heap.size 45 i0 _ 3 40 Tryz.underlying24 hi hz0 hz1 hz2 rfl (by decide) v l'.length _ rfl (h1.alloc _) (X2.heap.size + 1) (some ⟨X2.heap.size, 0, none⟩) 1 1 [.int .i64 (tim l y0.r), .slice y0.A y0.n y0.c, .int .i64 y0.m] rfl hrd (by simp [Value.oneCell']) (by unfold maxLen; omega) (by omega) (by simp; omega) ?_
            intro v' X3 hown1 hgrow _
            have hI := neti_app hbel h1 h2 h3 hrow hown1 hgrow
            have HNE := hide (show v.ownBlock ≠ some xb by
              intro e
              obtain ⟨cs, fz, hc⟩ := own_cells h1 e
              have := kx2
              unfold Blk at this
              rw [this] at hc
              injection hc with hc
              injection hc with _ hc2
              exact absurd hc2 (by decide))
            have kx4 : Blk X3 xb 62 #[.slice y0.A y0.n y0.c, .int .i64 y0.m] := kx3.grown hgrow fun e => HNE.out e.symm
            have hS5 : X3.cell? ⟨xb, 0, none⟩ = some (.slice y0.A y0.n y0.c) ∧ X3.cell? ⟨xb, 1, none⟩ = some (.int .i64 y0.m) ∧ MapF X3 Tryz.prog 9 W1.heap.size k (lF l) := ⟨kx4.cell 0, kx4.cell 1, HMU.out.below hI.bel HMU.out.lt⟩
            refine hK _ _ (fun _ => hS5) ?_
            try simp only [Act.put]
            clear hK K HS4 hrd hown1 hgrow hbel h1 h2 h3 hrow kx2 kx3 kx4
            refine Held.one (i := 13) rfl (by kernel_rfl) rfl (fun K hK => ?_)
            unfold Oper.wp
            go_simp
            refine hK _ _ (fun _ => hS5) ?_
            try simp only [Act.put]
            clear hK K hS5
            refine Held.done (by kernel_rfl) ?_
            go_wp2
            go_roundw
            case rel => exact ⟨j + 1, _, by omega, by go_num, rfl, by rw [HT.out, HDD.out]; exact hI⟩
            case measure => simp [intOf]; omega
          · obtain rfl : j = n5 := by omega
            rw [take_all (by rw [dat_len]; exact HL5.out)] at hI
            obtain ⟨A', n', c', l', rfl, s1, s2, s3⟩ := neti_end hI (by rw [List.length_map, dat_len, HL5.out]; omega)
            have HE := hide (bstep hBU s3)
            have HS := hide s1
            clear hI s1 s3 hBU
            go_wp2
            go_ret2
            rw [HQ.out]
            exact ⟨A', n', c', l', rfl, by rw [← HR2.out]; exact HS.out, s2, HE.out⟩
end

end Go.Proofs.YtiioiajcoiaalaaGreatDoor
