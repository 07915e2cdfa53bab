/-
  The walk of BagValid, for every two bags and change.
-/
import Derived.Test.YtiioiajcoiaalaaBgO
import Derived.Test.YtiioiajcoiaalaaBgT3
import Derived.Test.YtiioiajcoiaalaaBgT4
import Derived.Test.YtiioiajcoiaalaaBgT5
import Derived.Test.YtiioiajcoiaalaaBgT6
import Derived.Test.YtiioiajcoiaalaaBgT7
namespace Go.Proofs.Ytiioiajcoiaalaa
open Go.RowKit
attribute [local go_sem] Oper.semAt_some

set_option maxRecDepth 100000 in
set_option maxHeartbeats 2000000 in
theorem bagValid_all (A1 : Option Addr) (n1 c1 : Nat) (l1 : List It) (A2 : Option Addr) (n2 c2 : Nat) (l2 : List It) (t : Int) (A : Option Addr) (n c : Nat) (r : Rw) (m : Int) (w : World)
    (h1 : BagR w w.heap.size A1 n1 l1) (h2 : BagR w w.heap.size A2 n2 l2) (hr : RowK w w.heap.size A n r) :
    Calls Try.prog 5 #[.slice A1 n1 c1, .slice A2 n2 c2, .agg #[.int .i64 t, .slice A n c, .int .i64 m]] w (RetV w (.bool true)) := by
  have hB0 := below_val (w := w) #[.int .i64 t, .slice A n c, .int .i64 m] 36
  have x0 := Blk.new w 36 #[.int .i64 t, .slice A n c, .int .i64 m]
  have hB1 := bstep hB0 (below_val (w := w.alloc (.cells #[.int .i64 t, .slice A n c, .int .i64 m] 36)) #[.slice A1 n1 c1, .slice A2 n2 c2] 23)
  have b0 := Blk.new (w.alloc (.cells #[.int .i64 t, .slice A n c, .int .i64 m] 36)) 23 #[.slice A1 n1 c1, .slice A2 n2 c2]
  rw [show (w.alloc (.cells #[.int .i64 t, .slice A n c, .int .i64 m] 36)).heap.size = w.heap.size + 1 from Array.size_push ..] at b0
  have x1 := x0.below (below_val (w := w.alloc (.cells #[.int .i64 t, .slice A n c, .int .i64 m] 36)) #[.slice A1 n1 c1, .slice A2 n2 c2] 23) x0.lt
  have g1 := h1.step hB1
  have g2 := h2.step hB1
  have HF := hide (Few_any [⟨A1, n1, c1, l1⟩, ⟨A2, n2, c2, l2⟩] 2 (w.heap.size + 1) ((w.alloc (.cells #[.int .i64 t, .slice A n c, .int .i64 m] 36)).alloc (.cells #[.slice A1 n1 c1, .slice A2 n2 c2] 23)) rfl (by omega) (fun i x hx => by
    have hi := (List.getElem?_eq_some_iff.1 hx).1
    simp only [List.length_cons, List.length_nil] at hi
    match i, hi, hx with
    | 0, _, hx => injection hx with hx; subst hx; exact ⟨by rw [b0.cell]; rfl, g1⟩
    | 1, _, hx => injection hx with hx; subst hx; exact ⟨by rw [b0.cell]; rfl, g2⟩))
  clear b0 g1 g2 x0
  have H0 := hide hB1
  have X1 := hide x1
  clear hB0 hB1 x1
  have HA := hide (awake_any)
  go_enter Try.func5, Try.ntmps5
  go_wp2_with fail
  refine HF.out.mono ?_
  rintro e W1 ⟨b, rfl, _, hB1⟩
  have x2 := X1.out.below hB1 X1.out.lt
  have hB01 := bstep H0.out hB1
  clear hB1 HF H0 X1
  cases b
  · go_wp2_with fail
    refine (HA.out W1).mono ?_
    rintro e W2 ⟨rfl, hB2⟩
    have HE := hide (bstep hB01 hB2)
    clear hB01 hB2 x2
    go_wp2
    go_ret
    exact ⟨rfl, HE.out⟩
  · have hB2 := below_val (w := W1) #[.int .i64 t, .slice A n c, .int .i64 m] 36
    have hB02 := bstep hB01 hB2
    have HF := hide (FewChanges_one W1.heap.size t A n c r m (W1.alloc (.cells #[.int .i64 t, .slice A n c, .int .i64 m] 36)) (Blk.new W1 36 #[.int .i64 t, .slice A n c, .int .i64 m]) ((hr.below hB02).mono hB02.size))
    have d0 := x2.cell 0
    have d1 := x2.cell 1
    have d2 := x2.cell 2
    have X3 := hide (x2.below hB2 x2.lt)
    have H0 := hide hB02
    clear x2 hB2 hB01 hB02
    go_wp2_with fail
    refine HF.out.mono ?_
    rintro e W2 ⟨b, rfl, hB3⟩
    have x4 := X3.out.below hB3 X3.out.lt
    have hB03 := bstep H0.out hB3
    clear hB3 HF H0 X3 d0 d1 d2
    cases b
    · go_wp2_with fail
      refine (HA.out W2).mono ?_
      rintro e W3 ⟨rfl, hB4⟩
      have HE := hide (bstep hB03 hB4)
      clear hB03 hB4 x4
      go_wp2
      go_ret
      exact ⟨rfl, HE.out⟩
    · have h1W := h1.step hB03
      have h2W := h2.step hB03
      have hrW := (hr.below hB03).mono hB03.size
      obtain ⟨v1, hv1⟩ : ∃ v, okBag (dat l1) = v := ⟨_, rfl⟩
      obtain ⟨v2, hv2⟩ : ∃ v, wholeB (dat l1) = v := ⟨_, rfl⟩
      obtain ⟨v3, hv3⟩ : ∃ v, okCh t r m = v := ⟨_, rfl⟩
      obtain ⟨v4, hv4⟩ : ∃ v, cntB (dat l1) r = v := ⟨_, rfl⟩
      obtain ⟨v5, hv5⟩ : ∃ v, totB (dat l1) = v := ⟨_, rfl⟩
      obtain ⟨v6, hv6⟩ : ∃ v, decide (dat l1 = dat l2) = v := ⟨_, rfl⟩
      have C1 := hide (fun (p : BW W2) => calls_bw (p := p) (v := .bool v1) (by rw [← hv1]; exact BagValid_any A1 n1 c1 _ l1 p.x (h1W.below p.h)))
      have C2 := hide (fun (p : BW W2) => calls_bw (p := p) (v := .bool v1) (by rw [← hv1]; exact R3Valid_any A1 n1 c1 _ l1 p.x (h1W.below p.h)))
      have C3 := hide (fun (p : BW W2) => calls_bw (p := p) (v := .bool v2) (by rw [← hv2]; exact Whole_any A1 n1 c1 _ l1 p.x (h1W.below p.h)))
      have C4 := hide (fun (p : BW W2) => calls_bw (p := p) (v := .bool v2) (by rw [← hv2]; exact RWhole_any A1 n1 c1 _ l1 p.x (h1W.below p.h)))
      have C5 := hide (fun (p : BW W2) => calls_bw (p := p) (v := .bool v3) (by rw [← hv3]; exact ValidChange_any t A n c r m p.x ((hrW.below p.h).mono p.h.size)))
      have C6 := hide (fun (p : BW W2) => calls_bw (p := p) (v := .bool v3) (by rw [← hv3]; exact RValidChange_any t A n c r m p.x ((hrW.below p.h).mono p.h.size)))
      have C7 := hide (fun (p : BW W2) => calls_bw (p := p) (v := .int .i64 v4) (by rw [← hv4]; exact Count_any A1 n1 c1 _ l1 A n c r p.x (h1W.below p.h) ((hrW.below p.h).mono p.h.size) p.h.size))
      have C8 := hide (fun (p : BW W2) => calls_bw (p := p) (v := .int .i64 v4) (by rw [← hv4]; exact RCount_any A1 n1 c1 _ l1 A n c r p.x (h1W.below p.h) ((hrW.below p.h).mono p.h.size)))
      have C9 := hide (fun (p : BW W2) => calls_bw (p := p) (v := .int .i64 v5) (by rw [← hv5]; exact Total_any A1 n1 c1 _ l1 p.x (h1W.below p.h)))
      have Ca := hide (fun (p : BW W2) => calls_bw (p := p) (v := .int .i64 v5) (by rw [← hv5]; exact RTotal_any A1 n1 c1 _ l1 p.x (h1W.below p.h)))
      have Cb := hide (fun (p : BW W2) => calls_bw (p := p) (v := .bool v6) (by rw [← hv6]; exact BagSame_any A1 n1 c1 l1 A2 n2 c2 l2 _ _ p.x (h1W.below p.h) (h2W.below p.h) p.h.size p.h.size))
      have Cc := hide (fun (p : BW W2) => calls_bw (p := p) (v := .bool v6) (by rw [← hv6]; exact RBagSame_any A1 n1 c1 l1 A2 n2 c2 l2 _ _ p.x (h1W.below p.h) (h2W.below p.h)))
      have Cd := hide (fun (p : BW W2) => calls_bw (p := p) (v := .bool true) (HA.out p.x))
      have p0 := fun (p : BW W2) => BW.cell (a := ⟨w.heap.size, 0, none⟩) x4.lt (x4.cell 0) p
      have p1 := fun (p : BW W2) => BW.cell (a := ⟨w.heap.size, 1, none⟩) x4.lt (x4.cell 1) p
      have p2 := fun (p : BW W2) => BW.cell (a := ⟨w.heap.size, 2, none⟩) x4.lt (x4.cell 2) p
      have z1 : (v1 == v1) = true := by simp
      have z2 : (v2 == v2) = true := by simp
      have z3 : (v3 == v3) = true := by simp
      have z4 : (v4 == v4) = true := by simp
      have z5 : (v5 == v5) = true := by simp
      have z6 : (v6 == v6) = true := by simp
      clear hv1 hv2 hv3 hv4 hv5 hv6 h1W h2W hrW x4 h1 h2 hr HA
      go_wp2_with fail
      (refine wp_region_quiet_bw (by kernel_rfl) (by kernel_rfl) ?_
       repeat (first | go_big_quiet_step ((first | (go_at_call 16; with_reducible exact C1.out _) | (go_at_call 17; with_reducible exact C2.out _) | (go_at_call 18; with_reducible exact C3.out _) | (go_at_call 19; with_reducible exact C4.out _) | (go_at_call 20; with_reducible exact C5.out _) | (go_at_call 21; with_reducible exact C6.out _) | (go_at_call 22; with_reducible exact C7.out _) | (go_at_call 23; with_reducible exact C8.out _) | (go_at_call 24; with_reducible exact C9.out _) | (go_at_call 25; with_reducible exact Ca.out _) | (go_at_call 26; with_reducible exact Cb.out _) | (go_at_call 9; with_reducible exact Cc.out _) | (go_at_call 7; with_reducible exact Cd.out _))) | quiet_step ((first | (go_at_call 16; with_reducible exact C1.out _) | (go_at_call 17; with_reducible exact C2.out _) | (go_at_call 18; with_reducible exact C3.out _) | (go_at_call 19; with_reducible exact C4.out _) | (go_at_call 20; with_reducible exact C5.out _) | (go_at_call 21; with_reducible exact C6.out _) | (go_at_call 22; with_reducible exact C7.out _) | (go_at_call 23; with_reducible exact C8.out _) | (go_at_call 24; with_reducible exact C9.out _) | (go_at_call 25; with_reducible exact Ca.out _) | (go_at_call 26; with_reducible exact Cb.out _) | (go_at_call 9; with_reducible exact Cc.out _) | (go_at_call 7; with_reducible exact Cd.out _))))
       refine wpQuiet_nil ?_
       intro wq hw'
       obtain ⟨⟨_, hbq⟩, hw''⟩ := hw'
       subst hw'')
      have HE := hide (hB03.trans (hbq.mono hB03.size))
      clear hbq hB03 p0 p1 p2 C1 C2 C3 C4 C5 C6 C7 C8 C9 Ca Cb Cc Cd
      go_wp2
      go_ret
      exact ⟨rfl, HE.out⟩
end Go.Proofs.Ytiioiajcoiaalaa
