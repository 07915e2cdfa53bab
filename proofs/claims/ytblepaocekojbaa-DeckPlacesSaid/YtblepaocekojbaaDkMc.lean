/-
  The law DeckMachines: the walk, for every input; the argument of type []Place opened.
-/
import Derived.Test.YtblepaocekojbaaDkP4
import Derived.Test.YtblepaocekojbaaDkAw
import Derived.Test.YtblepaocekojbaaOpenRec
import Derived.Lib.SmallJoins
import Derived.ChangeArms
namespace Go.Proofs.Ytblepaocekojbaa
open Go.RowKit Go.Shelf Go.Deep
attribute [local go_sem] Oper.semAt_some

theorem sprL_ints (n : Nat) (l : List Pl) (x : Int) : ∃ ys : List Int, sprL n l x = ys.map (Value.int .i64) := by
  unfold sprL
  by_cases h : sprE n l x = 0
  · rw [if_pos h]
    exact ⟨(List.range x.toNat).map fun m => ((numM l n m : Nat) : Int), by simp [rowL]⟩
  · rw [if_neg h]; exact ⟨[], rfl⟩
theorem sprN_le (n : Nat) (l : List Pl) (x : Int) : sprN n l x ≤ 20 := by
  unfold sprN
  by_cases h : sprE n l x = 0
  · rw [if_pos h]
    unfold sprE at h
    split at h
    · split at h
      · omega
      · omega
    · omega
  · rw [if_neg h]; omega
theorem lostL_le (n : Nat) (l : List Pl) (x : Int) : (lostL n l x).length ≤ n := by
  unfold lostL
  split
  · exact tkn_len _ _
  · simp

set_option maxRecDepth 100000 in
set_option maxHeartbeats 4000000 in
theorem deckMach_all (A : Option Addr) (n c : Nat) (l : List Pl) (x y s g q : Int) (w : World) (hl : Reads w w.heap.size 2 A n (l.flatMap encPl)) (hn : n ≤ 9223372036854775807) :
    Calls Try.prog 4 #[.slice A n c, .int .i64 x, .int .i64 y, .int .i64 s, .int .i64 g, .int .i64 q] w (RetV w (.bool true)) := by
  go_enter Try.func4, Try.ntmps4
  go_wp2_with fail
  refine (awake_any w).mono ?_
  rintro e W1 ⟨rfl, hB1⟩
  by_cases h3 : 300 < n
  · go_wp2
    go_ret
    exact ⟨rfl, hB1⟩
  · go_wp2_with fail
    refine (placed_any A n c l W1 (hl.up hB1) (by omega)).mono ?_
    rintro e W2 ⟨A2, c2, rfl, hp2, hB2⟩
    have hB12 := bstep hB1 hB2
    clear hB1 hB2
    go_wp2_with fail
    refine (Lost_any A2 n c2 l x W2 hp2 (by omega)).mono ?_
    rintro e W3 ⟨A3, c3, rfl, hR3, hB3⟩
    have hp3 := hp2.up hB3
    have hB13 := bstep hB12 hB3
    clear hp2 hB12 hB3
    go_wp2_with fail
    refine (RLost_any A n c l x W3 (hl.up hB13) (by omega)).mono ?_
    rintro e W4 ⟨A4, c4, rfl, hR4, hB4⟩
    have hp4 := hp3.up hB4
    have hR34 := hR3.up hB4
    have hB14 := bstep hB13 hB4
    clear hp3 hR3 hB13 hB4
    go_wp2_with fail
    refine (Spread_any A2 n c2 l y W4 hp4 (by omega)).mono ?_
    rintro e W5 ⟨A5, c5, rfl, hR5, hB5⟩
    have hR35 := hR34.up hB5
    have hR45 := hR4.up hB5
    have hB15 := bstep hB14 hB5
    clear hp4 hR34 hR4 hB14 hB5
    go_wp2_with fail
    refine (RSpread_any A n c l y W5 (hl.up hB15) (by omega)).mono ?_
    rintro e W6 ⟨A6, c6, rfl, hR6, hB6⟩
    have hR36 := hR35.up hB6
    have hR46 := hR45.up hB6
    have hR56 := hR5.up hB6
    have hB16 := bstep hB15 hB6
    clear hR35 hR45 hR5 hB15 hB6
    have hll := lostL_le n l x
    have hsl := sprN_le n l y
    obtain ⟨ys, hys⟩ := sprL_ints n l y
    rw [hys] at hR6 hR56
    have hyl := hR6.len1
    obtain ⟨L, hL⟩ : ∃ L, lostL n l x = L := ⟨_, rfl⟩
    rw [hL] at hR36 hR46 hll ⊢
    obtain ⟨E1, hE1⟩ : ∃ E1, lostE n l x = E1 := ⟨_, rfl⟩
    obtain ⟨E2, hE2⟩ : ∃ E2, sprE n l y = E2 := ⟨_, rfl⟩
    obtain ⟨N2, hN2⟩ : ∃ N2, sprN n l y = N2 := ⟨_, rfl⟩
    rw [hN2] at hR6 hR56 hsl hyl ⊢
    rw [hE1, hE2]
    clear hL hE1 hE2 hN2 hys
    go_wp2_with fail
    refine (Reactive_any s g q W6).mono ?_
    rintro e W7 ⟨rfl, rfl⟩
    go_wp2_with fail
    refine (RReactive_any s g q W6).mono ?_
    rintro e W7 ⟨rfl, rfl⟩
    obtain ⟨V, hV⟩ : ∃ V, reaV s g q = V := ⟨_, rfl⟩
    obtain ⟨E3, hE3⟩ : ∃ E3, reaE s g q = E3 := ⟨_, rfl⟩
    rw [hV, hE3]
    clear hV hE3
    go_wp2_with fail
    refine (SameInts_any _ _ _ _ _ _ _ _ L L _ hR36 hR46 (by omega) (by omega)).mono ?_
    rintro e W7 ⟨rfl, q7, hq7⟩
    rw [show decide (L = L) = true from by simp]
    have hB67 : Below W6.heap.size W6 W7 := by rw [hq7]; exact below_drewN (Below.refl _ _) q7
    have hR57 := hR56.up hB67
    have hR67 := hR6.up hB67
    have hB17 := bstep hB16 hB67
    clear hR36 hR46 hR56 hR6 hB16 hB67 hq7
    go_wp2_with fail
    refine (SameInts_any _ _ _ _ _ _ _ _ ys ys _ hR57 hR67 (by omega) (by omega)).mono ?_
    rintro e W8 ⟨rfl, q8, hq8⟩
    rw [show decide (ys = ys) = true from by simp]
    have HE := hide (show Below w.heap.size w W8 from by rw [hq8]; exact below_drewN hB17 q8)
    clear hR57 hR67 hB17 hq8
    go_wp2
    go_ret
    exact ⟨rfl, HE.out⟩

section
variable {H : Type} {enc : TypeId × Value → H} {w : World} {base : Nat} {held : Bool}
set_option maxRecDepth 100000 in
theorem dec_place (n : Nat) (cs : List Value) (y : DataW H × List MemPlace) (h : DataW.trod enc Try.prog w base (fun _ => true) held n 67 cs = some y) : ∃ z : Pl, cs = encPl z := by
  obtain ⟨y0, y1, k, _, hl, h0, h1⟩ := Go.ChangeShapes.trod_struct2 Try.underlying67 h
  rw [show Try.prog.cellsOf 67 = 2 by kernel_rfl] at hl
  match cs, hl with
  | [v0, v1], _ =>
    change DataW.trod enc Try.prog w base (fun _ => true) held k 3 (([v0, v1].drop 0).take (Try.prog.cellsOf 3)) = some y0 at h0
    change DataW.trod enc Try.prog w base (fun _ => true) held k 3 (([v0, v1].drop 1).take (Try.prog.cellsOf 3)) = some y1 at h1
    rw [show Try.prog.cellsOf 3 = 1 by kernel_rfl] at h0 h1
    have g0 : DataW.trod enc Try.prog w base (fun _ => true) held k 3 [v0] = some y0 := h0
    have g1 : DataW.trod enc Try.prog w base (fun _ => true) held k 3 [v1] = some y1 := h1
    obtain ⟨a, ea, _⟩ := DataW.trod_int Try.underlying3 g0
    obtain ⟨b, eb, _⟩ := DataW.trod_int Try.underlying3 g1
    simp at ea eb
    subst ea eb
    exact ⟨⟨a, b⟩, rfl⟩
set_option maxRecDepth 100000 in
theorem open_places {r : Reach} {b0 : Nat} {v : Value} {d : DataW H} {ps : List MemPlace} (hval : Value.okWide Try.prog w r b0 43 v) (hd : DataW.Trod enc Try.prog w base (fun _ => true) held 43 v d ps) :
    ∃ A n c, ∃ l : List Pl, v = .slice A n c ∧ Reads w w.heap.size 2 A n (l.flatMap encPl) ∧ n ≤ 9223372036854775807 := by
  obtain ⟨a0, l0, c0, rfl⟩ := Go.WideShapes.okWide_slice Try.underlying43 hval
  obtain ⟨fuel, hf⟩ := hd
  obtain ⟨A2, n2, c2, es, h1, r2, l2⟩ := open_recs (α := Pl) (encα := encPl) (k := 2) encPl_len (by omega) Try.underlying43 (by kernel_rfl) (fun n cs' y hy => dec_place n cs' y hy) (by simpa only [Value.cells] using hf)
  exact ⟨A2, n2, c2, es, h1, r2, l2⟩
end
end Go.Proofs.Ytblepaocekojbaa
