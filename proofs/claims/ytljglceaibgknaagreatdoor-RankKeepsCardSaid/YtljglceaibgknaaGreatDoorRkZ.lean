/-
  The helpers of the statements about rankings: pairs, awake, many.
-/
import Derived.Test.YtljglceaibgknaaGreatDoorRkW
import Derived.Test.YtljglceaibgknaaGreatDoorBcL
import Derived.Test.YtljglceaibgknaaGreatDoorBgL
namespace Go.Proofs.YtljglceaibgknaaGreatDoor
open Go.RowKit
attribute [local go_sem] Oper.semAt_some
set_option linter.unusedVariables false
set_option linter.unusedSimpArgs false

def prR (st : ByteArray) (n : Int) : Rw := [⟨2, 0, st⟩, ⟨1, n, ByteArray.empty⟩]
def RetPr (w : World) (st : ByteArray) (n : Int) (e : Ending) (w' : World) : Prop := e = .returned (.slice (some ⟨w.heap.size, 0, none⟩) 2 2) ∧ Blk w' w.heap.size 68 #[.int .i64 2, .int .i64 0, .string st, .int .i64 1, .int .i64 n, .string ByteArray.empty] ∧ Below w.heap.size w w'
theorem pairs10_any (st : ByteArray) (n : Int) (w : World) : Calls Tryz.prog 50 #[.string st, .int .i64 n] w (RetPr w st n) := by
  have k1 := Blk.new w 68 #[.int .i64 2, .int .i64 0, .string st, .int .i64 1, .int .i64 n, .string ⟨#[]⟩]
  have hB := below_val (w := w) #[.int .i64 2, .int .i64 0, .string st, .int .i64 1, .int .i64 n, .string ⟨#[]⟩] 68
  have HK := hide k1
  have HB := hide hB
  clear k1 hB
  go_enter Tryz.func50, Tryz.ntmps50
  go_wp2_with fail
  go_ret
  exact ⟨rfl, HK.out, HB.out⟩
theorem row_pr {w : World} {b : Nat} {st : ByteArray} {n : Int} (h : Blk w b 68 #[.int .i64 2, .int .i64 0, .string st, .int .i64 1, .int .i64 n, .string ByteArray.empty]) (B : Nat) : RowK w B (some ⟨b, 0, none⟩) 2 (prR st n) :=
  ⟨⟨rfl, fun _ => ⟨b, 0, rfl, h.lt, fun j u hu => by rw [Nat.zero_add, h.cell]; simpa [prR, encV] using hu⟩⟩, fun _ b' off m e => by
    injection e with e
    injection e with e1
    subst e1
    exact .inr ⟨_, _, h⟩, by omega⟩
/-- The chapter's example. -/
def exS : Stp := ⟨[0], [1], true, 2⟩
def exB : Bg := [(prR ⟨#[97]⟩ 5, 1), (prR ⟨#[97]⟩ 7, 2), (prR ⟨#[98]⟩ 1, 1)]
def exT : Bg := [(prR ⟨#[97]⟩ 7, 2), (prR ⟨#[98]⟩ 1, 1)]
theorem ex_top : topE exS 2 exB = (exT, 0) := by decide +kernel
set_option maxRecDepth 100000 in
set_option maxHeartbeats 4000000 in
theorem awake10_any (w : World) (ht : Tab w) : Calls Tryz.prog 11 #[] w (RetV w (.bool true)) := by
  go_enter Tryz.func11, Tryz.ntmps11
  go_wp2_with fail
  refine (pairs10_any ⟨#[97]⟩ 5 w).mono ?_
  rintro e W1 ⟨rfl, k1, hB1⟩
  go_wp2_with fail
  refine (pairs10_any ⟨#[97]⟩ 7 W1).mono ?_
  rintro e W2 ⟨rfl, k2, hB2⟩
  have k1 := k1.below hB2 k1.lt
  have hB := bstep hB1 hB2
  clear hB1 hB2
  go_wp2_with fail
  refine (pairs10_any ⟨#[98]⟩ 1 W2).mono ?_
  rintro e W3 ⟨rfl, k3, hB3⟩
  have k1 := k1.below hB3 k1.lt
  have k2 := k2.below hB3 k2.lt
  have hB := bstep hB hB3
  clear hB3
  obtain ⟨b1, hb1⟩ : ∃ b1, w.heap.size = b1 := ⟨_, rfl⟩
  obtain ⟨b2, hb2⟩ : ∃ b2, W1.heap.size = b2 := ⟨_, rfl⟩
  obtain ⟨b3, hb3⟩ : ∃ b3, W2.heap.size = b3 := ⟨_, rfl⟩
  rw [hb1] at k1 ⊢
  rw [hb2] at k2 ⊢
  rw [hb3] at k3 ⊢
  have HW := hide hB
  clear hb1 hb2 hb3 hB
  have i1 := Blk.new W3 52 #[.slice (some ⟨b1, 0, none⟩) 2 2, .int .i64 1, .slice (some ⟨b2, 0, none⟩) 2 2, .int .i64 2, .slice (some ⟨b3, 0, none⟩) 2 2, .int .i64 1]
  have hX1 := below_val (w := W3) #[.slice (some ⟨b1, 0, none⟩) 2 2, .int .i64 1, .slice (some ⟨b2, 0, none⟩) 2 2, .int .i64 2, .slice (some ⟨b3, 0, none⟩) 2 2, .int .i64 1] 52
  go_upto_region 2 with fail
  obtain ⟨W4, hW4⟩ : ∃ W4, W3.alloc (.cells #[.slice (some ⟨b1, 0, none⟩) 2 2, .int .i64 1, .slice (some ⟨b2, 0, none⟩) 2 2, .int .i64 2, .slice (some ⟨b3, 0, none⟩) 2 2, .int .i64 1] 52) = W4 := ⟨_, rfl⟩
  obtain ⟨b4, hb4⟩ : ∃ b4, W3.heap.size = b4 := ⟨_, rfl⟩
  have k1 := k1.below hX1 k1.lt
  have k2 := k2.below hX1 k2.lt
  have k3 := k3.below hX1 k3.lt
  have HW4 := bstep HW.out hX1
  rw [hW4] at k1 k2 k3 i1 HW4 ⊢
  rw [hb4] at i1 ⊢
  clear hW4 hb4 hX1 HW
  have j1 := (Blk.new W4 3 #[.int .i64 0]).alloc (.cells #[.int .i64 1] 3)
  have j2 := Blk.new (W4.alloc (.cells #[.int .i64 0] 3)) 3 #[.int .i64 1]
  have hX2 := bstep (below_val (w := W4) #[.int .i64 0] 3) (below_val (w := W4.alloc (.cells #[.int .i64 0] 3)) #[.int .i64 1] 3)
  rw [World.size_alloc] at j2
  have k1 := k1.below hX2 k1.lt
  have k2 := k2.below hX2 k2.lt
  have k3 := k3.below hX2 k3.lt
  have i1 := i1.below hX2 i1.lt
  have HW5 := bstep HW4 hX2
  clear HW4 hX2
  go_wp2_with fail
  obtain ⟨W5, hW5⟩ : ∃ W5, (W4.alloc (.cells #[.int .i64 0] 3)).alloc (.cells #[.int .i64 1] 3) = W5 := ⟨_, rfl⟩
  rw [hW5] at k1 k2 k3 i1 j1 j2 HW5 ⊢
  clear hW5
  have hset : SetK W5 W5.heap.size ⟨some ⟨W4.heap.size, 0, none⟩, 1, 1, some ⟨W4.heap.size + 1, 0, none⟩, 1, 1⟩ exS := ⟨⟨rfl, fun _ => ⟨_, 0, rfl, j1.lt, fun j u hu => by rw [Nat.zero_add, j1.cell]; simpa [exS] using hu⟩⟩, ⟨rfl, fun _ => ⟨_, 0, rfl, j2.lt, fun j u hu => by rw [Nat.zero_add, j2.cell]; simpa [exS] using hu⟩⟩, (show (1 : Nat) ≤ 1000 by omega), (show (1 : Nat) ≤ 1000 by omega)⟩
  have hbag : BagR W5 W5.heap.size (some ⟨b4, 0, none⟩) 3 [⟨some ⟨b1, 0, none⟩, 2, 2, prR ⟨#[97]⟩ 5, 1⟩, ⟨some ⟨b2, 0, none⟩, 2, 2, prR ⟨#[97]⟩ 7, 2⟩, ⟨some ⟨b3, 0, none⟩, 2, 2, prR ⟨#[98]⟩ 1, 1⟩] :=
    ⟨⟨rfl, fun _ => ⟨b4, 0, rfl, i1.lt, fun j u hu => by rw [Nat.zero_add, i1.cell]; simpa [encIt] using hu⟩⟩, fun i hi => by
      simp only [List.mem_cons, List.not_mem_nil, or_false] at hi
      rcases hi with rfl | rfl | rfl
      · exact row_pr k1 _
      · exact row_pr k2 _
      · exact row_pr k3 _, by omega⟩
  have hT := Top_any ⟨some ⟨W4.heap.size, 0, none⟩, 1, 1, some ⟨W4.heap.size + 1, 0, none⟩, 1, 1⟩ exS 2 (some ⟨b4, 0, none⟩) 3 3 _ W5 hset (Nat.le_refl _) (Nat.le_refl _) hbag (by omega) (ht.below HW5)
  rw [show topE exS 2 (dat [⟨some ⟨b1, 0, none⟩, 2, 2, prR ⟨#[97]⟩ 5, 1⟩, ⟨some ⟨b2, 0, none⟩, 2, 2, prR ⟨#[97]⟩ 7, 2⟩, ⟨some ⟨b3, 0, none⟩, 2, 2, prR ⟨#[98]⟩ 1, 1⟩]) = (exT, 0) from ex_top] at hT
  unfold Sk.v at hT
  have HT := hide hT
  clear hT hset hbag j1 j2 i1 k1 k2 k3
  refine HT.out.mono ?_
  rintro e W6 ⟨A6, n6, c6, l6, rfl, hd6, hb6, hc6, hB6⟩
  have hB := bstep HW5 hB6
  have z : ((0 : Int) == 0) = true := rfl
  clear HW5 hB6 HT
  go_wp2_with fail
  refine (pairs10_any ⟨#[97]⟩ 7 W6).mono ?_
  rintro e W7 ⟨rfl, k1, hB7⟩
  have hb6 := hb6.step hB7
  have hB := bstep hB hB7
  clear hB7
  go_wp2_with fail
  refine (pairs10_any ⟨#[98]⟩ 1 W7).mono ?_
  rintro e W8 ⟨rfl, k2, hB8⟩
  have hb6 := hb6.step hB8
  have hB := bstep hB hB8
  have k1 := k1.below hB8 k1.lt
  clear hB8
  obtain ⟨b1, hb1⟩ : ∃ b1, W6.heap.size = b1 := ⟨_, rfl⟩
  obtain ⟨b2, hb2⟩ : ∃ b2, W7.heap.size = b2 := ⟨_, rfl⟩
  rw [hb1] at k1 ⊢
  rw [hb2] at k2 ⊢
  clear hb1 hb2
  have i1 := Blk.new W8 52 #[.slice (some ⟨b1, 0, none⟩) 2 2, .int .i64 2, .slice (some ⟨b2, 0, none⟩) 2 2, .int .i64 1]
  have hX1 := below_val (w := W8) #[.slice (some ⟨b1, 0, none⟩) 2 2, .int .i64 2, .slice (some ⟨b2, 0, none⟩) 2 2, .int .i64 1] 52
  have hb7 := hb6.step hX1
  have k1 := k1.below hX1 k1.lt
  have k2 := k2.below hX1 k2.lt
  have hB9 := bstep hB hX1
  clear hB hX1 hb6
  go_wp2_with fail
  obtain ⟨W9, hW9⟩ : ∃ W9, W8.alloc (.cells #[.slice (some ⟨b1, 0, none⟩) 2 2, .int .i64 2, .slice (some ⟨b2, 0, none⟩) 2 2, .int .i64 1] 52) = W9 := ⟨_, rfl⟩
  rw [hW9] at k1 k2 i1 hb7 hB9 ⊢
  clear hW9
  have hbag : BagR W9 W9.heap.size (some ⟨W8.heap.size, 0, none⟩) 2 [⟨some ⟨b1, 0, none⟩, 2, 2, prR ⟨#[97]⟩ 7, 2⟩, ⟨some ⟨b2, 0, none⟩, 2, 2, prR ⟨#[98]⟩ 1, 1⟩] :=
    ⟨⟨rfl, fun _ => ⟨W8.heap.size, 0, rfl, i1.lt, fun j u hu => by rw [Nat.zero_add, i1.cell]; simpa [encIt] using hu⟩⟩, fun i hi => by
      simp only [List.mem_cons, List.not_mem_nil, or_false] at hi
      rcases hi with rfl | rfl
      · exact row_pr k1 _
      · exact row_pr k2 _, by omega⟩
  have HS := hide (same_dat (c := c6) (c' := 2) hb7 hbag (by rw [hd6]; rfl))
  clear k1 k2 i1 hb7 hbag hd6
  refine HS.out.mono ?_
  rintro e W10 ⟨rfl, hB10⟩
  have HE := hide (bstep hB9 hB10)
  clear hB9 hB10 HS
  go_wp2_with fail
  go_ret
  exact ⟨rfl, HE.out⟩
/-- What many tells. -/
def RetMany (w : World) (k : Sk) (n : Nat) (e : Ending) (w' : World) : Prop := ∃ b : Bool, e = .returned (.bool b) ∧ (b = false → k.n ≤ 50 ∧ k.n' ≤ 50 ∧ n ≤ 60) ∧ Below w.heap.size w w'
set_option maxRecDepth 100000 in
set_option maxHeartbeats 4000000 in
theorem many_any (k : Sk) (s : Stp) (A : Option Addr) (n c : Nat) (l : List It) (w : World) (hb : BagR w w.heap.size A n l) : Calls Tryz.prog 10 #[k.v s, .slice A n c] w (RetMany w k n) := by
  have hn := hb.le
  have hB1 := below_val (w := w) #[.slice k.A k.n k.c, .slice k.A' k.n' k.c', .bool s.dn, .int .i64 s.n] 24
  have k1 := Blk.new w 24 #[.slice k.A k.n k.c, .slice k.A' k.n' k.c', .bool s.dn, .int .i64 s.n]
  have hb1 := (hb.below hB1).mono hB1.size
  clear hb
  unfold Sk.v
  go_enter Tryz.func10, Tryz.ntmps10
  go_upto_region 1 with fail
  obtain ⟨W0, hW0⟩ : ∃ W0, w.alloc (.cells #[.slice k.A k.n k.c, .slice k.A' k.n' k.c', .bool s.dn, .int .i64 s.n] 24) = W0 := ⟨_, rfl⟩
  rw [hW0] at hB1 k1 hb1 ⊢
  clear hW0
  have c0 := k1.cell 0
  have c1 := k1.cell 1
  simp at c0 c1
  clear k1
  go_wp2_with fail
  go_loopw [5, 6] (fun v i wr => ∃ (q : Nat) (z : Int), q ≤ n ∧ i = .int .i64 q ∧ v = .int .i64 z ∧ wr = W0) (fun _ i _ => n - (intOf i).toNat)
  case atStart => exact ⟨0, 0, Nat.zero_le _, rfl, rfl, rfl⟩
  case round =>
    obtain ⟨q, z, hq, rfl, rfl, hwr⟩ := hrel
    subst hwr
    by_cases hlt : q < n
    · obtain ⟨b, off, x, rfl, hbb, hxq, e0, e1, hrow⟩ := hb1.at_ hlt
      have q1 : (0 : Int) ≤ (q : Int) := by omega
      have q2 : (q : Int) < (n : Int) := by omega
      clear hxq hrow
      go_wp2_with fail
      go_roundw
      case rel => exact ⟨q + 1, _, by omega, by go_num, rfl, trivial⟩
      case measure => simp [intOf]; omega
    · obtain rfl : q = n := by omega
      by_cases h1 : 50 < k.n
      · have d1 : decide ((50 : Int) < (k.n : Int)) = true := by simp; omega
        have d1' : decide (50 < k.n) = true := by simp; omega
        go_wp2_with fail
        go_ret
        exact ⟨true, rfl, nofun, hB1⟩
      have d1 : decide ((50 : Int) < (k.n : Int)) = false := by simp; omega
      have d1' : decide (50 < k.n) = false := by simp; omega
      by_cases h2 : 50 < k.n'
      · have d2 : decide ((50 : Int) < (k.n' : Int)) = true := by simp; omega
        have d2' : decide (50 < k.n') = true := by simp; omega
        go_wp2_with fail
        go_ret
        exact ⟨true, rfl, nofun, hB1⟩
      have d2 : decide ((50 : Int) < (k.n' : Int)) = false := by simp; omega
      have d2' : decide (50 < k.n') = false := by simp; omega
      have hX := below_val (w := wr) #[.slice A q c] 26
      have kf := Blk.new wr 26 #[.slice A q c]
      have hb2 := (hb1.below hX).mono hX.size
      have hB2 := bstep hB1 hX
      have HF := hide (Few_any [⟨A, q, c, l⟩] 1 wr.heap.size _ rfl (by omega) (fun i x hx => by
        have hi := (List.getElem?_eq_some_iff.1 hx).1
        simp only [List.length_cons, List.length_nil] at hi
        obtain rfl : i = 0 := by omega
        injection hx with hx
        subst hx
        exact ⟨by rw [kf.cell]; rfl, hb2⟩))
      clear hb1 hb2 hX kf hB1
      go_wp2_with fail
      refine HF.out.mono ?_
      rintro e W1 ⟨b, rfl, hb, hB3⟩
      have hB4 := bstep hB2 hB3
      cases b
      · go_wp2_with fail
        go_ret
        exact ⟨true, rfl, nofun, hB4⟩
      · have hq60 : q ≤ 60 := hb rfl ⟨A, q, c, l⟩ List.mem_cons_self
        clear hb hB2 hB3 HF
        by_cases h3 : 400 < z
        · have d3 : decide (400 < z) = true := decide_eq_true h3
          go_wp2_with fail
          go_ret
          exact ⟨true, rfl, nofun, hB4⟩
        · have d3 : decide (400 < z) = false := decide_eq_false h3
          go_wp2_with fail
          go_ret
          exact ⟨false, rfl, fun _ => ⟨by omega, by omega, hq60⟩, hB4⟩
end Go.Proofs.YtljglceaibgknaaGreatDoor
