/-
  The walk of tidewrightref26.Ready, for every graph and tasks that are no error.
-/
import Derived.Test.YtblepaocekojbaaDkWv
namespace Go.Proofs.Ytblepaocekojbaa
open Go.RowKit Go.Shelf Go.Deep
attribute [local go_sem] Oper.semAt_some

/-- Does edge e hold region r back, told by labels? -/
def holdL (L : Nat → Nat) (dn : List Int) (r : Nat) (e : Ed) : Bool := e.s && (decide (L e.t.toNat = r) && (decide (L e.f.toNat ≠ r) && !hasB dn e.f))
/-- Can region p begin, told by numbers? -/
def rdy (g : Gr) (dn : List Int) (p : Nat) : Bool := (List.range g.n1).all (fun i => !(decide (wvNum g i = p) && hasB dn (i : Int))) && !g.es.any (holdL (wvNum g) dn p)
/-- Whole regions are done. -/
def whole (g : Gr) (dn : List Int) : Prop := ∀ i : Nat, i < g.n1 → hasB dn (i : Int) = hasB dn ((labs g.es i : Nat) : Int)
theorem hold_same {g : Gr} (dn : List Int) {r : Nat} (hr : labs g.es r = r) (e : Ed) : holdL (wvNum g) dn (wvNum g r) e = holdL (labs g.es) dn r e := by
  have h : ∀ x, wvNum g x = wvNum g r ↔ labs g.es x = r := fun x => by
    unfold wvNum
    rw [numOf_eq (Lab.labs g.es), hr]
  unfold holdL
  have e1 : decide (wvNum g e.t.toNat = wvNum g r) = decide (labs g.es e.t.toNat = r) := by rw [decide_eq_decide]; exact h _
  have e2 : decide (wvNum g e.f.toNat ≠ wvNum g r) = decide (labs g.es e.f.toNat ≠ r) := by rw [decide_eq_decide]; exact not_congr (h _)
  rw [e1, e2]
theorem rdy_root {g : Gr} {dn : List Int} (hw : whole g dn) {r : Nat} (hrn : r < g.n1) (hr : labs g.es r = r) : rdy g dn (wvNum g r) = (!hasB dn (r : Int) && !g.es.any (holdL (labs g.es) dn r)) := by
  unfold rdy
  have h2 : g.es.any (holdL (wvNum g) dn (wvNum g r)) = g.es.any (holdL (labs g.es) dn r) := by
    congr 1; funext e; exact hold_same dn hr e
  rw [h2]
  congr 1
  cases hd : hasB dn (r : Int)
  · rw [List.all_eq_true.2 (fun i hi => ?_)]
    · rfl
    · have hi' := List.mem_range.1 hi
      by_cases hp : wvNum g i = wvNum g r
      · have hl : labs g.es i = r := by
          have := (numOf_eq (Lab.labs g.es)).1 hp
          rw [this, hr]
        have := hw i hi'
        rw [hl, hd] at this
        rw [this]; simp
      · simp [hp]
  · have : (List.range g.n1).all (fun i => !(decide (wvNum g i = wvNum g r) && hasB dn (i : Int))) = false := by
      rw [List.all_eq_false]
      exact ⟨r, List.mem_range.2 hrn, by simp [hd]⟩
    rw [this]; rfl
theorem any_snoc' {es : List Ed} {k : Nat} {e : Ed} (f : Ed → Bool) (h : es[k]? = some e) : (es.take (k + 1)).any f = ((es.take k).any f || f e) := by
  rw [take_snoc' h, List.any_append]; simp

/-- What Ready answers of tasks that are no error. -/
def RetRy (g : Gr) (dn : List Int) (w : World) (e : Ending) (w' : World) : Prop :=
  (whole g dn ∧ RetSlE w 1 (tkn (rdy g dn) (wvK g)).length (intsL (tkn (rdy g dn) (wvK g))) 0 e w') ∨ (¬ whole g dn ∧ RetSlE w 1 0 [] 10 e w')

set_option maxRecDepth 100000 in
set_option maxHeartbeats 4000000 in
theorem RReady_ok (g : Gr) (A1 : Option Addr) (m1 c1 : Nat) (dn : List Int) (w : World) (hg : g.Ok w w.heap.size) (hf : Reads w w.heap.size 1 A1 m1 (dn.map (Value.int .i64))) (hm1 : m1 ≤ 4611686018427387904) (hv : validB g = true)
    (he0 : errT g [⟨A1, m1, c1, dn⟩] = 0) :
    Calls Try.prog 33 #[.agg #[g.v1, g.v2], .slice A1 m1 c1] w (RetRy g dn w) := by
  obtain ⟨i0, hi, hz0, hz1, hz2⟩ := info_parts infoInt_dk
  have hb := ok_ops hv
  have hbn : g.n2 ≤ 400 := by
    unfold validB at hv
    simp only [Bool.and_eq_true, decide_eq_true_eq] at hv
    exact hv.1.1.2
  have HV := hide hv
  have HE0 := hide he0
  have HL2 := hide (hg.r2.len encEd_len (by omega))
  have hLab : Lab (labs g.es) := Lab.labs _
  have HLAB := hide hLab
  clear hv he0 hLab
  have hB0 : Below w.heap.size w ((w.alloc (.cells #[g.v1, g.v2] 25)).alloc (.cells #[.slice A1 m1 c1] 22)) := ((Below.refl _ _).alloc (Nat.le_refl _) _).alloc (by simp) _
  have b0 : Blk ((w.alloc (.cells #[g.v1, g.v2] 25)).alloc (.cells #[.slice A1 m1 c1] 22)) w.heap.size 25 #[g.v1, g.v2] := (Blk.new w _ _).alloc _
  have b1 : Blk ((w.alloc (.cells #[g.v1, g.v2] 25)).alloc (.cells #[.slice A1 m1 c1] 22)) (w.heap.size + 1) 22 #[.slice A1 m1 c1] := by
    have := Blk.new (w.alloc (.cells #[g.v1, g.v2] 25)) 22 #[.slice A1 m1 c1]
    rwa [World.size_alloc] at this
  have hs0 : ((w.alloc (.cells #[g.v1, g.v2] 25)).alloc (.cells #[.slice A1 m1 c1] 22)).heap.size = w.heap.size + 2 := by simp
  go_enter Try.func33, Try.ntmps33
  go_wp2_with fail
  obtain ⟨W0, hW0⟩ : ∃ W0, (w.alloc (.cells #[g.v1, g.v2] 25)).alloc (.cells #[.slice A1 m1 c1] 22) = W0 := ⟨_, rfl⟩
  rw [hW0] at hB0 b0 b1 hs0 ⊢
  clear hW0
  have hls : Lists W0 W0.heap.size (w.heap.size + 1) [⟨A1, m1, c1, dn⟩] := fun i s hs => by
    match i, hs with
    | 0, hs => cases hs; exact ⟨b1.cell 0, hf.up hB0, hm1⟩
  refine (Rtasks_any g (w.heap.size + 1) 1 1 _ W0 (hg.up hB0) hls (by omega) rfl (by omega) (by omega) (by omega)).mono ?_
  rintro e W1 ⟨rfl, hB1⟩
  rw [HE0.out]
  have b01 := b0.below hB1 (by omega)
  have hB01 := bstep hB0 hB1
  have hs1 : w.heap.size + 2 ≤ W1.heap.size := by have := hB1.size; omega
  clear hls b1 b0 hB0 hs0 hB1
  have d0 := b01.cell 0
  have d1 := b01.cell 1
  simp at d0 d1
  go_wp2_with fail
  refine (Rregions_any g W1 (hg.up hB01) HV.out).mono ?_
  rintro e W2 hret
  obtain ⟨g8, c8, rfl, hO8, hB2⟩ := OwnR.of_ret hret (by omega)
  have b02 := b01.below hB2 (by omega)
  have hB02 := bstep hB01 hB2
  have hs2 : w.heap.size + 2 ≤ W2.heap.size := Nat.le_trans hs1 hB2.size
  have hg8 := hO8.lt
  have HOM := hide (fun i (h : i < g.n1) => hO8.cell h)
  have HOF := hide (fun i (h : i < g.n1) => Nat.lt_of_le_of_lt (HLAB.out.le i) h)
  have hf2 := hf.up hB02
  clear hret b01 hB01 hB2 d0 d1 hO8 hs1
  go_wp2_with fail
  go_loopw [8] (fun i wr => ∃ k : Nat, k ≤ g.n1 ∧ i = .int .i64 k ∧ (∀ i : Nat, i < k → hasB dn (i : Int) = hasB dn ((labs g.es i : Nat) : Int)) ∧ Below W2.heap.size W2 wr) (fun i _ => g.n1 - (intOf i).toNat)
  case atStart => exact ⟨0, Nat.zero_le _, rfl, fun i hi => by omega, Below.refl _ _⟩
  case round =>
    obtain ⟨k, hk, rfl, hall, hB⟩ := hrel
    have HALL := hide hall
    clear hall
    by_cases hlt : k < g.n1
    · have ck := (hB.cell (p := ⟨g8, k, none⟩) hg8.2).trans (HOM.out k hlt)
      have hfr := hf2.below hB
      have hlk := HOF.out k hlt
      obtain ⟨x, hx⟩ : ∃ x, labs g.es k = x := ⟨_, rfl⟩
      rw [hx] at ck hlk
      have HX := hide hx
      clear hx
      obtain ⟨bk, hbk⟩ : ∃ b, hasB dn (k : Int) = b := ⟨_, rfl⟩
      obtain ⟨bx, hbx⟩ : ∃ b, hasB dn (x : Int) = b := ⟨_, rfl⟩
      have q1 : (0 : Int) ≤ (k : Int) := by omega
      have q2 : (k : Int) < (g.n1 : Int) := by omega
      have hc : ∀ (y : Int) (q : Nat), Calls Try.prog 17 #[.slice A1 m1 c1, .int .i64 y] (wr.drewN q) fun e w'' => e = .returned (.bool (hasB dn y)) ∧ ∃ m, w'' = wr.drewN m := fun y q =>
        Calls.quiet_of_same ((Has_any A1 m1 c1 W2.heap.size dn y (wr.drewN q) (hfr.drewN q) (by omega)).mono fun _ _ h => ⟨h.1, h.2.symm⟩)
      have HC := hide hc
      have HBK := hide hbk
      have HBX := hide hbx
      clear hc
      by_cases hbb : bk = bx
      · have hn1 : (!(hasB dn (k : Int) == hasB dn (x : Int))) = false := by rw [hbk, hbx, hbb]; simp
        have HN := hide (show ∀ i : Nat, i < k + 1 → hasB dn (i : Int) = hasB dn ((labs g.es i : Nat) : Int) from fun i hi => by
          by_cases e : i = k
          · subst e; rw [HX.out, HBK.out, HBX.out, hbb]
          · exact HALL.out i (by omega))
        clear hbk hbx hbb
        go_wp2_with fail
        go_quiet ((go_at_call 17; exact HC.out _ _))
        go_wp2
        go_roundw
        case rel => exact ⟨k + 1, by omega, by go_num, HN.out, below_drewN hB _⟩
        case measure => simp [intOf]; omega
      · have hn1 : (!(hasB dn (k : Int) == hasB dn (x : Int))) = true := by rw [hbk, hbx]; simpa using hbb
        have hnw : ¬ whole g dn := fun h => by
          have := h k hlt
          rw [HX.out, hbk, hbx] at this
          exact hbb this
        have HR := hide (fun q : Nat => show RetRy g dn w (.returned (.tuple #[.slice none 0 0, .int .i64 10])) (wr.drewN q) from .inr ⟨hnw, none, 0, rfl, Reads.none_, below_drewN (bstep hB02 hB) q⟩)
        clear hbk hbx hbb hnw
        go_wp2_with fail
        go_quiet ((go_at_call 17; exact HC.out _ _))
        go_wp2
        go_ret2
        exact HR.out _
    · obtain rfl : k = g.n1 := by omega
      have hwh : whole g dn := HALL.out
      have hBk := bstep hB02 hB
      have b03 := b02.below hB (by omega)
      have hs3 : w.heap.size + 2 ≤ wr.heap.size := Nat.le_trans hs2 hB.size
      have hf3 := hf.up hBk
      have HO2 := hide (fun i (h : i < g.n1) => (hB.cell (p := ⟨g8, i, none⟩) hg8.2).trans (HOM.out i h))
      have hg83 : g8 < wr.heap.size := Nat.lt_of_lt_of_le hg8.2 hB.size
      clear HOM hf2 hB b02 hB02
      have d0 := b03.cell 0
      have d1 := b03.cell 1
      simp at d0 d1
      go_wp2_with fail
      refine (RRegions_any g wr (hg.up hBk) (by omega) (by omega)).mono ?_
      rintro e W4 ⟨An, cn, rfl, hrn, hB4⟩
      rw [show regN g = g.n1 from by simp [regN, HV.out], show regL g = rowL g.n1 (fun i => .int .i64 ((numOf (labs g.es) i : Nat) : Int)) from by simp [regL, HV.out]] at hrn
      rw [show regN g = g.n1 from by simp [regN, HV.out], show regE g = 0 from by simp [regE, HV.out]]
      obtain ⟨an, offn, rfl, han, hnc⟩ := reads_row hrn (by omega)
      have HNC := hide hnc
      have b4 := b03.below hB4 (by omega)
      have hBw := bstep hBk hB4
      have hs4 : w.heap.size < W4.heap.size := by have := hB4.size; omega
      have HO4 := hide (fun i (h : i < g.n1) => (hB4.cell (p := ⟨g8, i, none⟩) hg83).trans (HO2.out i h))
      have hf4 := hf.up hBw
      have hg4 := hg.up hBw
      have hg84 : g8 < W4.heap.size := Nat.lt_of_lt_of_le hg83 hB4.size
      have d1m : W4.cell? ⟨w.heap.size, 1, none⟩ = some (.slice g.a2 g.n2 g.c2) := b4.cell 1
      clear HO2 hf3 hBk b03 b4 hB4 hrn hnc d0 d1
      go_wp2_with fail
      go_loopw [11, 12, 13, 14, 15] (fun v i _ _ _ wx => ∃ k : Nat, k ≤ g.n1 ∧ i = .int .i64 k ∧ wx.ownsRow W4.heap.size 3 1 v (tkn (rdy g dn) (numb (labs g.es) k)).length (intsL (tkn (rdy g dn) (numb (labs g.es) k))) ∧ Below W4.heap.size W4 wx) (fun _ i _ _ _ _ => g.n1 - (intOf i).toNat)
      case atStart => exact ⟨0, Nat.zero_le _, rfl, World.ownsRow_nil _ _ _ _, Below.refl _ _⟩
      case round =>
        obtain ⟨k, hk, rfl, hown, hB⟩ := hrel
        have hWs := hB.size
        by_cases hlt : k < g.n1
        · have ck := (hB.cell (p := ⟨g8, k, none⟩) hg84).trans (HO4.out k hlt)
          have hfr := hf4.below hB
          have HTK := hide (tkn_succ (rdy g dn) (numb (labs g.es) k))
          have HNS := hide (numb_succ (labs g.es) k)
          have hlen := tkn_len (rdy g dn) (numb (labs g.es) k)
          have hnk := numb_le (labs g.es) k
          have HROOT := hide (fun (h : labs g.es k = k) => rdy_root hwh hlt h)
          have HNUM := hide (fun (h : labs g.es k = k) => show wvNum g k = numb (labs g.es) k from by unfold wvNum numOf; rw [h])
          have hcn : ∀ wx, Below W4.heap.size W4 wx → wx.cell? ⟨an, offn + k, none⟩ = some (.int .i64 ((numOf (labs g.es) k : Nat) : Int)) := fun wx h => (h.cell (p := ⟨an, offn + k, none⟩) han).trans (HNC.out k hlt)
          have HCN := hide hcn
          clear hcn
          obtain ⟨r0, hr0⟩ : ∃ r0 : Bool, r0 = (decide (labs g.es k = k) && !hasB dn (k : Int)) := ⟨_, rfl⟩
          have HR0 := hide hr0
          have hgo : True := trivial
          by_cases hroot : labs g.es k = k
          · obtain ⟨q, hq⟩ : ∃ q, (tkn (rdy g dn) (numb (labs g.es) k)).length = q := ⟨_, rfl⟩
            rw [hq] at hown hlen
            have HQ := hide hq
            clear hq
            have hck : wr.cell? ⟨g8, k, none⟩ = some (.int .i64 (k : Int)) := by rw [hroot] at ck; exact ck
            have HRT := hide hroot
            clear hroot ck
            cases hd : hasB dn (k : Int)
            · have HD := hide hd
              clear hd
              go_wp2_with (go_at_call 17; refine (Has_any A1 m1 c1 W4.heap.size dn _ _ hfr (by omega)).mono ?_; rintro ee w' ⟨rfl, rfl⟩; rw [HD.out])
              go_loopw [13, 14, 15] (fun ry j _ wx => ∃ j' : Nat, j' ≤ g.n2 ∧ j = .int .i64 (j' : Int) ∧ ry = .bool (true && !(g.es.take j').any (holdL (labs g.es) dn k)) ∧ wx.ownsRow W4.heap.size 3 1 u11 q (intsL (tkn (rdy g dn) (numb (labs g.es) k))) ∧ Below W4.heap.size W4 wx) (fun _ j _ _ => g.n2 - (intOf j).toNat)
              case atStart => exact ⟨0, Nat.zero_le _, rfl, rfl, hown, hB⟩
              case round =>
                clear hown hB hfr hWs
                obtain ⟨j, hj, rfl, rfl, hown, hB⟩ := hrel
                have hWs := hB.size
                have hfr := hf4.below hB
                have hd1 := (hB.cell (p := ⟨w.heap.size, 1, none⟩) hs4).trans d1m
                by_cases hlt2 : j < g.n2
                · obtain ⟨b1, off, e, ha, hb1, hek, hce⟩ := (hg4.below hB).r2.elem encEd_len HL2.out hlt2
                  obtain ⟨v1, v2, v3, v4, v5⟩ := ok_edge HV.out hek
                  have HSN := hide (any_snoc' (holdL (labs g.es) dn k) hek)
                  clear hek
                  have e0 : wr.cell? ⟨b1, off + j * 3, none⟩ = some (.int .i64 e.f) := by simpa using hce 0 _ rfl
                  have e1 : wr.cell? ⟨b1, off + j * 3 + 1, none⟩ = some (.int .i64 e.t) := by simpa [← Nat.add_assoc] using hce 1 _ rfl
                  have e2 : wr.cell? ⟨b1, off + j * 3 + 2, none⟩ = some (.bool e.s) := by simpa [← Nat.add_assoc] using hce 2 _ rfl
                  clear hce
                  rw [ha] at hd1
                  clear ha
                  obtain ⟨f, hf'⟩ := Int.eq_ofNat_of_zero_le v1
                  obtain ⟨t, ht'⟩ := Int.eq_ofNat_of_zero_le (show 0 ≤ e.t by omega)
                  have HHL := hide (show holdL (labs g.es) dn k e = (e.s && (decide (labs g.es t = k) && (decide (labs g.es f ≠ k) && !hasB dn (f : Int)))) from by unfold holdL; rw [hf', ht']; rfl)
                  rw [hf'] at e0 v2
                  rw [ht'] at e1 v2 v3
                  have hfn : f < g.n1 := by omega
                  have htn : t < g.n1 := by omega
                  have kf := (hB.cell (p := ⟨g8, f, none⟩) hg84).trans (HO4.out f hfn)
                  have kt := (hB.cell (p := ⟨g8, t, none⟩) hg84).trans (HO4.out t htn)
                  obtain ⟨x, hx⟩ : ∃ x, labs g.es f = x := ⟨_, rfl⟩
                  obtain ⟨y, hy⟩ : ∃ y, labs g.es t = y := ⟨_, rfl⟩
                  rw [hx] at kf HHL
                  rw [hy] at kt HHL
                  have HXF := hide hx
                  have HXT := hide hy
                  clear hx hy
                  have hB2 := hB.alloc hWs (.cells #[.int .i64 (f : Int), .int .i64 (t : Int), .bool e.s] 40)
                  have hown2 := hown.alloc (.cells #[.int .i64 (f : Int), .int .i64 (t : Int), .bool e.s] 40)
                  have hfr2 := hf4.below hB2
                  have kf2 := (hB2.cell (p := ⟨g8, f, none⟩) hg84).trans (HO4.out f hfn)
                  have kt2 := (hB2.cell (p := ⟨g8, t, none⟩) hg84).trans (HO4.out t htn)
                  clear kf kt kf2 kt2 hfr2
                  go_upto_region 20 with fail
                  obtain ⟨W5, hW5⟩ : ∃ W5, wr.alloc (.cells #[.int .i64 (f : Int), .int .i64 (t : Int), .bool e.s] 40) = W5 := ⟨_, rfl⟩
                  have f0 : W5.cell? ⟨wr.heap.size, 0, none⟩ = some (.int .i64 (f : Int)) := by rw [← hW5]; simp
                  have f1 : W5.cell? ⟨wr.heap.size, 1, none⟩ = some (.int .i64 (t : Int)) := by rw [← hW5]; simp
                  have f2 : W5.cell? ⟨wr.heap.size, 2, none⟩ = some (.bool e.s) := by rw [← hW5]; simp
                  rw [hW5] at hB2 hown2 ⊢
                  clear hW5 hown hB hfr hWs hd1 e0 e1 e2
                  obtain ⟨be, hbe⟩ : ∃ be, wr.heap.size = be := ⟨_, rfl⟩
                  rw [hbe] at f0 f1 f2 ⊢
                  clear hbe
                  have hfr := hf4.below hB2
                  have kf := (hB2.cell (p := ⟨g8, f, none⟩) hg84).trans (HO4.out f hfn)
                  have kt := (hB2.cell (p := ⟨g8, t, none⟩) hg84).trans (HO4.out t htn)
                  rw [HXF.out] at kf
                  rw [HXT.out] at kt
                  have q3 : (0 : Int) ≤ (f : Int) := by omega
                  have q4 : (f : Int) < (g.n1 : Int) := by omega
                  have q5 : (0 : Int) ≤ (t : Int) := by omega
                  have q6 : (t : Int) < (g.n1 : Int) := by omega
                  have HIDLE := hide (fun (h : holdL (labs g.es) dn k e = false) => show (g.es.take (j + 1)).any (holdL (labs g.es) dn k) = (g.es.take j).any (holdL (labs g.es) dn k) from by rw [HSN.out, h, Bool.or_false])
                  have HHIT := hide (fun (h : holdL (labs g.es) dn k e = true) => show (g.es.take (j + 1)).any (holdL (labs g.es) dn k) = true from by rw [HSN.out, h, Bool.or_true])
                  cases hs : e.s
                  · rw [hs] at f2
                    have HEND := hide (HIDLE.out (by rw [HHL.out, hs]; rfl))
                    go_wp2
                    go_roundw
                    case rel => exact ⟨j + 1, by omega, by go_num, by rw [HEND.out] <;> simp, hown2, hB2⟩
                    case measure => simp [intOf]; omega
                  · rw [hs] at f2
                    by_cases hyk : y = k
                    · have n1 : ((y : Int) == (k : Int)) = true := by simp; omega
                      by_cases hxk : x = k
                      · have n2 : ((x : Int) != (k : Int)) = false := by simp; omega
                        have HEND := hide (HIDLE.out (by rw [HHL.out]; simp [hxk]))
                        clear hyk hxk
                        go_wp2
                        go_roundw
                        case rel => exact ⟨j + 1, by omega, by go_num, by rw [HEND.out] <;> simp, hown2, hB2⟩
                        case measure => simp [intOf]; omega
                      · have n2 : ((x : Int) != (k : Int)) = true := by simp; omega
                        cases hdf : hasB dn (f : Int)
                        · have HDF := hide hdf
                          have HEND := hide (HHIT.out (by rw [HHL.out, hs, hdf]; simp [hyk, hxk]))
                          clear hyk hxk hdf
                          go_wp2_with (go_at_call 17; refine (Has_any A1 m1 c1 W4.heap.size dn _ _ hfr (by omega)).mono ?_; rintro ee w' ⟨rfl, rfl⟩; rw [HDF.out])
                          go_roundw
                          case rel => exact ⟨j + 1, by omega, by go_num, by rw [HEND.out] <;> simp, hown2, hB2⟩
                          case measure => simp [intOf]; omega
                        · have HDF := hide hdf
                          have HEND := hide (HIDLE.out (by rw [HHL.out, hdf]; simp))
                          clear hyk hxk hdf
                          go_wp2_with (go_at_call 17; refine (Has_any A1 m1 c1 W4.heap.size dn _ _ hfr (by omega)).mono ?_; rintro ee w' ⟨rfl, rfl⟩; rw [HDF.out])
                          go_roundw
                          case rel => exact ⟨j + 1, by omega, by go_num, by rw [HEND.out] <;> simp, hown2, hB2⟩
                          case measure => simp [intOf]; omega
                    · have n1 : ((y : Int) == (k : Int)) = false := by simp; omega
                      have HEND := hide (HIDLE.out (by rw [HHL.out]; simp [hyk]))
                      clear hyk
                      go_wp2
                      go_roundw
                      case rel => exact ⟨j + 1, by omega, by go_num, by rw [HEND.out] <;> simp, hown2, hB2⟩
                      case measure => simp [intOf]; omega
                · obtain rfl : j = g.n2 := by omega
                  rw [take_all HL2.out]
                  clear hfr
                  obtain ⟨an', hany⟩ : ∃ b, g.es.any (holdL (labs g.es) dn k) = b := ⟨_, rfl⟩
                  rw [hany]
                  have HANY := hide hany
                  clear hany
                  have hnb : numb (labs g.es) (k + 1) = numb (labs g.es) k + 1 := by rw [HNS.out, if_pos HRT.out]
                  have hrdy : rdy g dn (numb (labs g.es) k) = !an' := by rw [← HNUM.out HRT.out, HROOT.out HRT.out, HD.out, HANY.out]; simp
                  cases an'
                  · have HT := hide (show tkn (rdy g dn) (numb (labs g.es) (k + 1)) = tkn (rdy g dn) (numb (labs g.es) k) ++ [((numb (labs g.es) k : Nat) : Int)] from by rw [hnb, HTK.out, hrdy]; rfl)
                    have cnk := HCN.out wr hB
                    rw [show numOf (labs g.es) k = numb (labs g.es) k from HNUM.out HRT.out] at cnk
                    obtain ⟨nk, hnke⟩ : ∃ nk, numb (labs g.es) k = nk := ⟨_, rfl⟩
                    rw [hnke] at HT hown HQ cnk
                    clear hnb hrdy hnke
                    rw [show (true && !false) = true from rfl]
                    go_wp2_with (at_builtin; refine wpList_append_own _ rfl _ _ 22 rfl W4.heap.size 3 i0 _ 1 8 Try.underlying22 hi hz0 hz1 hz2 rfl (by decide) _ _ _ rfl (hown.alloc _) ⟨wr.heap.size, 0, none⟩ 1 1 [.int .i64 (nk : Int)] rfl rfl (cells_new _ _ _) (by simp [Value.oneCell']) (by unfold maxLen; omega) (by omega) (by simp; omega) ?_; intro v' w1 hown' hgrow _)
                    go_roundw
                    case rel => exact ⟨k + 1, by omega, by go_num, by rw [HT.out, intsL_snoc, List.length_append, HQ.out]; exact hown', below_append (hB.alloc hWs _) (hown.alloc _) (by simp; omega) hgrow⟩
                    case measure => simp [intOf]; omega
                  · have HT := hide (show tkn (rdy g dn) (numb (labs g.es) (k + 1)) = tkn (rdy g dn) (numb (labs g.es) k) from by rw [hnb, HTK.out, hrdy]; rfl)
                    clear hnb hrdy
                    rw [show (true && !true) = false from rfl]
                    go_wp2
                    go_roundw
                    case rel => exact ⟨k + 1, by omega, by go_num, by rw [HT.out, HQ.out]; exact hown, hB⟩
                    case measure => simp [intOf]; omega
            · have HD := hide hd
              clear hd
              go_wp2_with (go_at_call 17; refine (Has_any A1 m1 c1 W4.heap.size dn _ _ hfr (by omega)).mono ?_; rintro ee w' ⟨rfl, rfl⟩; rw [HD.out])
              go_loopw [13, 14, 15] (fun ry j _ wx => ∃ j' : Nat, j' ≤ g.n2 ∧ j = .int .i64 (j' : Int) ∧ ry = .bool (false && !(g.es.take j').any (holdL (labs g.es) dn k)) ∧ wx.ownsRow W4.heap.size 3 1 u11 q (intsL (tkn (rdy g dn) (numb (labs g.es) k))) ∧ Below W4.heap.size W4 wx) (fun _ j _ _ => g.n2 - (intOf j).toNat)
              case atStart => exact ⟨0, Nat.zero_le _, rfl, rfl, hown, hB⟩
              case round =>
                clear hown hB hfr hWs
                obtain ⟨j, hj, rfl, rfl, hown, hB⟩ := hrel
                have hWs := hB.size
                have hfr := hf4.below hB
                have hd1 := (hB.cell (p := ⟨w.heap.size, 1, none⟩) hs4).trans d1m
                by_cases hlt2 : j < g.n2
                · obtain ⟨b1, off, e, ha, hb1, hek, hce⟩ := (hg4.below hB).r2.elem encEd_len HL2.out hlt2
                  obtain ⟨v1, v2, v3, v4, v5⟩ := ok_edge HV.out hek
                  have HSN := hide (any_snoc' (holdL (labs g.es) dn k) hek)
                  clear hek
                  have e0 : wr.cell? ⟨b1, off + j * 3, none⟩ = some (.int .i64 e.f) := by simpa using hce 0 _ rfl
                  have e1 : wr.cell? ⟨b1, off + j * 3 + 1, none⟩ = some (.int .i64 e.t) := by simpa [← Nat.add_assoc] using hce 1 _ rfl
                  have e2 : wr.cell? ⟨b1, off + j * 3 + 2, none⟩ = some (.bool e.s) := by simpa [← Nat.add_assoc] using hce 2 _ rfl
                  clear hce
                  rw [ha] at hd1
                  clear ha
                  obtain ⟨f, hf'⟩ := Int.eq_ofNat_of_zero_le v1
                  obtain ⟨t, ht'⟩ := Int.eq_ofNat_of_zero_le (show 0 ≤ e.t by omega)
                  have HHL := hide (show holdL (labs g.es) dn k e = (e.s && (decide (labs g.es t = k) && (decide (labs g.es f ≠ k) && !hasB dn (f : Int)))) from by unfold holdL; rw [hf', ht']; rfl)
                  rw [hf'] at e0 v2
                  rw [ht'] at e1 v2 v3
                  have hfn : f < g.n1 := by omega
                  have htn : t < g.n1 := by omega
                  have kf := (hB.cell (p := ⟨g8, f, none⟩) hg84).trans (HO4.out f hfn)
                  have kt := (hB.cell (p := ⟨g8, t, none⟩) hg84).trans (HO4.out t htn)
                  obtain ⟨x, hx⟩ : ∃ x, labs g.es f = x := ⟨_, rfl⟩
                  obtain ⟨y, hy⟩ : ∃ y, labs g.es t = y := ⟨_, rfl⟩
                  rw [hx] at kf HHL
                  rw [hy] at kt HHL
                  have HXF := hide hx
                  have HXT := hide hy
                  clear hx hy
                  have hB2 := hB.alloc hWs (.cells #[.int .i64 (f : Int), .int .i64 (t : Int), .bool e.s] 40)
                  have hown2 := hown.alloc (.cells #[.int .i64 (f : Int), .int .i64 (t : Int), .bool e.s] 40)
                  have hfr2 := hf4.below hB2
                  have kf2 := (hB2.cell (p := ⟨g8, f, none⟩) hg84).trans (HO4.out f hfn)
                  have kt2 := (hB2.cell (p := ⟨g8, t, none⟩) hg84).trans (HO4.out t htn)
                  clear kf kt kf2 kt2 hfr2
                  go_upto_region 20 with fail
                  obtain ⟨W5, hW5⟩ : ∃ W5, wr.alloc (.cells #[.int .i64 (f : Int), .int .i64 (t : Int), .bool e.s] 40) = W5 := ⟨_, rfl⟩
                  have f0 : W5.cell? ⟨wr.heap.size, 0, none⟩ = some (.int .i64 (f : Int)) := by rw [← hW5]; simp
                  have f1 : W5.cell? ⟨wr.heap.size, 1, none⟩ = some (.int .i64 (t : Int)) := by rw [← hW5]; simp
                  have f2 : W5.cell? ⟨wr.heap.size, 2, none⟩ = some (.bool e.s) := by rw [← hW5]; simp
                  rw [hW5] at hB2 hown2 ⊢
                  clear hW5 hown hB hfr hWs hd1 e0 e1 e2
                  obtain ⟨be, hbe⟩ : ∃ be, wr.heap.size = be := ⟨_, rfl⟩
                  rw [hbe] at f0 f1 f2 ⊢
                  clear hbe
                  have hfr := hf4.below hB2
                  have kf := (hB2.cell (p := ⟨g8, f, none⟩) hg84).trans (HO4.out f hfn)
                  have kt := (hB2.cell (p := ⟨g8, t, none⟩) hg84).trans (HO4.out t htn)
                  rw [HXF.out] at kf
                  rw [HXT.out] at kt
                  have q3 : (0 : Int) ≤ (f : Int) := by omega
                  have q4 : (f : Int) < (g.n1 : Int) := by omega
                  have q5 : (0 : Int) ≤ (t : Int) := by omega
                  have q6 : (t : Int) < (g.n1 : Int) := by omega
                  have HIDLE := hide (fun (h : holdL (labs g.es) dn k e = false) => show (g.es.take (j + 1)).any (holdL (labs g.es) dn k) = (g.es.take j).any (holdL (labs g.es) dn k) from by rw [HSN.out, h, Bool.or_false])
                  have HHIT := hide (fun (h : holdL (labs g.es) dn k e = true) => show (g.es.take (j + 1)).any (holdL (labs g.es) dn k) = true from by rw [HSN.out, h, Bool.or_true])
                  cases hs : e.s
                  · rw [hs] at f2
                    have HEND := hide (HIDLE.out (by rw [HHL.out, hs]; rfl))
                    go_wp2
                    go_roundw
                    case rel => exact ⟨j + 1, by omega, by go_num, by rw [HEND.out] <;> simp, hown2, hB2⟩
                    case measure => simp [intOf]; omega
                  · rw [hs] at f2
                    by_cases hyk : y = k
                    · have n1 : ((y : Int) == (k : Int)) = true := by simp; omega
                      by_cases hxk : x = k
                      · have n2 : ((x : Int) != (k : Int)) = false := by simp; omega
                        have HEND := hide (HIDLE.out (by rw [HHL.out]; simp [hxk]))
                        clear hyk hxk
                        go_wp2
                        go_roundw
                        case rel => exact ⟨j + 1, by omega, by go_num, by rw [HEND.out] <;> simp, hown2, hB2⟩
                        case measure => simp [intOf]; omega
                      · have n2 : ((x : Int) != (k : Int)) = true := by simp; omega
                        cases hdf : hasB dn (f : Int)
                        · have HDF := hide hdf
                          have HEND := hide (HHIT.out (by rw [HHL.out, hs, hdf]; simp [hyk, hxk]))
                          clear hyk hxk hdf
                          go_wp2_with (go_at_call 17; refine (Has_any A1 m1 c1 W4.heap.size dn _ _ hfr (by omega)).mono ?_; rintro ee w' ⟨rfl, rfl⟩; rw [HDF.out])
                          go_roundw
                          case rel => exact ⟨j + 1, by omega, by go_num, by rw [HEND.out] <;> simp, hown2, hB2⟩
                          case measure => simp [intOf]; omega
                        · have HDF := hide hdf
                          have HEND := hide (HIDLE.out (by rw [HHL.out, hdf]; simp))
                          clear hyk hxk hdf
                          go_wp2_with (go_at_call 17; refine (Has_any A1 m1 c1 W4.heap.size dn _ _ hfr (by omega)).mono ?_; rintro ee w' ⟨rfl, rfl⟩; rw [HDF.out])
                          go_roundw
                          case rel => exact ⟨j + 1, by omega, by go_num, by rw [HEND.out] <;> simp, hown2, hB2⟩
                          case measure => simp [intOf]; omega
                    · have n1 : ((y : Int) == (k : Int)) = false := by simp; omega
                      have HEND := hide (HIDLE.out (by rw [HHL.out]; simp [hyk]))
                      clear hyk
                      go_wp2
                      go_roundw
                      case rel => exact ⟨j + 1, by omega, by go_num, by rw [HEND.out] <;> simp, hown2, hB2⟩
                      case measure => simp [intOf]; omega
                · obtain rfl : j = g.n2 := by omega
                  rw [take_all HL2.out]
                  clear hfr
                  obtain ⟨an', hany⟩ : ∃ b, g.es.any (holdL (labs g.es) dn k) = b := ⟨_, rfl⟩
                  rw [hany]
                  have HANY := hide hany
                  clear hany
                  have HT := hide (show tkn (rdy g dn) (numb (labs g.es) (k + 1)) = tkn (rdy g dn) (numb (labs g.es) k) from by
                    rw [HNS.out, if_pos HRT.out, HTK.out, ← HNUM.out HRT.out, HROOT.out HRT.out, HD.out]; rfl)
                  rw [show (false && !an') = false from rfl]
                  go_wp2
                  go_roundw
                  case rel => exact ⟨k + 1, by omega, by go_num, by rw [HT.out, HQ.out]; exact hown, hB⟩
                  case measure => simp [intOf]; omega
          · obtain ⟨q, hq⟩ : ∃ q, (tkn (rdy g dn) (numb (labs g.es) k)).length = q := ⟨_, rfl⟩
            rw [hq] at hown hlen
            have HQ := hide hq
            clear hq
            have n1 : (((labs g.es k : Nat) : Int) == (k : Int)) = false := by simp; omega
            have HRT := hide hroot
            go_wp2_with fail
            go_loopw [13, 14, 15] (fun ry j _ wx => ∃ j' : Nat, j' ≤ g.n2 ∧ j = .int .i64 (j' : Int) ∧ ry = .bool (false && !(g.es.take j').any (holdL (labs g.es) dn k)) ∧ wx.ownsRow W4.heap.size 3 1 u11 q (intsL (tkn (rdy g dn) (numb (labs g.es) k))) ∧ Below W4.heap.size W4 wx) (fun _ j _ _ => g.n2 - (intOf j).toNat)
            case atStart => exact ⟨0, Nat.zero_le _, rfl, rfl, hown, hB⟩
            case round =>
              clear hown hB hfr hWs
              obtain ⟨j, hj, rfl, rfl, hown, hB⟩ := hrel
              have hWs := hB.size
              have hfr := hf4.below hB
              have hd1 := (hB.cell (p := ⟨w.heap.size, 1, none⟩) hs4).trans d1m
              by_cases hlt2 : j < g.n2
              · obtain ⟨b1, off, e, ha, hb1, hek, hce⟩ := (hg4.below hB).r2.elem encEd_len HL2.out hlt2
                obtain ⟨v1, v2, v3, v4, v5⟩ := ok_edge HV.out hek
                have HSN := hide (any_snoc' (holdL (labs g.es) dn k) hek)
                clear hek
                have e0 : wr.cell? ⟨b1, off + j * 3, none⟩ = some (.int .i64 e.f) := by simpa using hce 0 _ rfl
                have e1 : wr.cell? ⟨b1, off + j * 3 + 1, none⟩ = some (.int .i64 e.t) := by simpa [← Nat.add_assoc] using hce 1 _ rfl
                have e2 : wr.cell? ⟨b1, off + j * 3 + 2, none⟩ = some (.bool e.s) := by simpa [← Nat.add_assoc] using hce 2 _ rfl
                clear hce
                rw [ha] at hd1
                clear ha
                obtain ⟨f, hf'⟩ := Int.eq_ofNat_of_zero_le v1
                obtain ⟨t, ht'⟩ := Int.eq_ofNat_of_zero_le (show 0 ≤ e.t by omega)
                have HHL := hide (show holdL (labs g.es) dn k e = (e.s && (decide (labs g.es t = k) && (decide (labs g.es f ≠ k) && !hasB dn (f : Int)))) from by unfold holdL; rw [hf', ht']; rfl)
                rw [hf'] at e0 v2
                rw [ht'] at e1 v2 v3
                have hfn : f < g.n1 := by omega
                have htn : t < g.n1 := by omega
                have kf := (hB.cell (p := ⟨g8, f, none⟩) hg84).trans (HO4.out f hfn)
                have kt := (hB.cell (p := ⟨g8, t, none⟩) hg84).trans (HO4.out t htn)
                obtain ⟨x, hx⟩ : ∃ x, labs g.es f = x := ⟨_, rfl⟩
                obtain ⟨y, hy⟩ : ∃ y, labs g.es t = y := ⟨_, rfl⟩
                rw [hx] at kf HHL
                rw [hy] at kt HHL
                have HXF := hide hx
                have HXT := hide hy
                clear hx hy
                have hB2 := hB.alloc hWs (.cells #[.int .i64 (f : Int), .int .i64 (t : Int), .bool e.s] 40)
                have hown2 := hown.alloc (.cells #[.int .i64 (f : Int), .int .i64 (t : Int), .bool e.s] 40)
                have hfr2 := hf4.below hB2
                have kf2 := (hB2.cell (p := ⟨g8, f, none⟩) hg84).trans (HO4.out f hfn)
                have kt2 := (hB2.cell (p := ⟨g8, t, none⟩) hg84).trans (HO4.out t htn)
                clear kf kt kf2 kt2 hfr2
                go_upto_region 20 with fail
                obtain ⟨W5, hW5⟩ : ∃ W5, wr.alloc (.cells #[.int .i64 (f : Int), .int .i64 (t : Int), .bool e.s] 40) = W5 := ⟨_, rfl⟩
                have f0 : W5.cell? ⟨wr.heap.size, 0, none⟩ = some (.int .i64 (f : Int)) := by rw [← hW5]; simp
                have f1 : W5.cell? ⟨wr.heap.size, 1, none⟩ = some (.int .i64 (t : Int)) := by rw [← hW5]; simp
                have f2 : W5.cell? ⟨wr.heap.size, 2, none⟩ = some (.bool e.s) := by rw [← hW5]; simp
                rw [hW5] at hB2 hown2 ⊢
                clear hW5 hown hB hfr hWs hd1 e0 e1 e2
                obtain ⟨be, hbe⟩ : ∃ be, wr.heap.size = be := ⟨_, rfl⟩
                rw [hbe] at f0 f1 f2 ⊢
                clear hbe
                have hfr := hf4.below hB2
                have kf := (hB2.cell (p := ⟨g8, f, none⟩) hg84).trans (HO4.out f hfn)
                have kt := (hB2.cell (p := ⟨g8, t, none⟩) hg84).trans (HO4.out t htn)
                rw [HXF.out] at kf
                rw [HXT.out] at kt
                have q3 : (0 : Int) ≤ (f : Int) := by omega
                have q4 : (f : Int) < (g.n1 : Int) := by omega
                have q5 : (0 : Int) ≤ (t : Int) := by omega
                have q6 : (t : Int) < (g.n1 : Int) := by omega
                have HIDLE := hide (fun (h : holdL (labs g.es) dn k e = false) => show (g.es.take (j + 1)).any (holdL (labs g.es) dn k) = (g.es.take j).any (holdL (labs g.es) dn k) from by rw [HSN.out, h, Bool.or_false])
                have HHIT := hide (fun (h : holdL (labs g.es) dn k e = true) => show (g.es.take (j + 1)).any (holdL (labs g.es) dn k) = true from by rw [HSN.out, h, Bool.or_true])
                cases hs : e.s
                · rw [hs] at f2
                  have HEND := hide (HIDLE.out (by rw [HHL.out, hs]; rfl))
                  go_wp2
                  go_roundw
                  case rel => exact ⟨j + 1, by omega, by go_num, by rw [HEND.out] <;> simp, hown2, hB2⟩
                  case measure => simp [intOf]; omega
                · rw [hs] at f2
                  by_cases hyk : y = k
                  · have n1 : ((y : Int) == (k : Int)) = true := by simp; omega
                    by_cases hxk : x = k
                    · have n2 : ((x : Int) != (k : Int)) = false := by simp; omega
                      have HEND := hide (HIDLE.out (by rw [HHL.out]; simp [hxk]))
                      clear hyk hxk
                      go_wp2
                      go_roundw
                      case rel => exact ⟨j + 1, by omega, by go_num, by rw [HEND.out] <;> simp, hown2, hB2⟩
                      case measure => simp [intOf]; omega
                    · have n2 : ((x : Int) != (k : Int)) = true := by simp; omega
                      cases hdf : hasB dn (f : Int)
                      · have HDF := hide hdf
                        have HEND := hide (HHIT.out (by rw [HHL.out, hs, hdf]; simp [hyk, hxk]))
                        clear hyk hxk hdf
                        go_wp2_with (go_at_call 17; refine (Has_any A1 m1 c1 W4.heap.size dn _ _ hfr (by omega)).mono ?_; rintro ee w' ⟨rfl, rfl⟩; rw [HDF.out])
                        go_roundw
                        case rel => exact ⟨j + 1, by omega, by go_num, by rw [HEND.out] <;> simp, hown2, hB2⟩
                        case measure => simp [intOf]; omega
                      · have HDF := hide hdf
                        have HEND := hide (HIDLE.out (by rw [HHL.out, hdf]; simp))
                        clear hyk hxk hdf
                        go_wp2_with (go_at_call 17; refine (Has_any A1 m1 c1 W4.heap.size dn _ _ hfr (by omega)).mono ?_; rintro ee w' ⟨rfl, rfl⟩; rw [HDF.out])
                        go_roundw
                        case rel => exact ⟨j + 1, by omega, by go_num, by rw [HEND.out] <;> simp, hown2, hB2⟩
                        case measure => simp [intOf]; omega
                  · have n1 : ((y : Int) == (k : Int)) = false := by simp; omega
                    have HEND := hide (HIDLE.out (by rw [HHL.out]; simp [hyk]))
                    clear hyk
                    go_wp2
                    go_roundw
                    case rel => exact ⟨j + 1, by omega, by go_num, by rw [HEND.out] <;> simp, hown2, hB2⟩
                    case measure => simp [intOf]; omega
              · obtain rfl : j = g.n2 := by omega
                rw [take_all HL2.out]
                clear hfr
                obtain ⟨an', hany⟩ : ∃ b, g.es.any (holdL (labs g.es) dn k) = b := ⟨_, rfl⟩
                rw [hany]
                have HANY := hide hany
                clear hany
                have HT := hide (show tkn (rdy g dn) (numb (labs g.es) (k + 1)) = tkn (rdy g dn) (numb (labs g.es) k) from by rw [HNS.out, if_neg HRT.out])
                rw [show (false && !an') = false from rfl]
                go_wp2
                go_roundw
                case rel => exact ⟨k + 1, by omega, by go_num, by rw [HT.out, HQ.out]; exact hown, hB⟩
                case measure => simp [intOf]; omega
        · obtain rfl : k = g.n1 := by omega
          obtain ⟨A', c', rfl, hR⟩ := own_form hown
          have HR := hide (show RetRy g dn w (.returned (.tuple #[.slice A' (tkn (rdy g dn) (numb (labs g.es) g.n1)).length c', .int .i64 0])) wr from .inl ⟨hwh, A', c', rfl, hR, bstep hBw hB⟩)
          clear hown hB hR
          go_wp2
          go_ret2
          exact HR.out
end Go.Proofs.Ytblepaocekojbaa
