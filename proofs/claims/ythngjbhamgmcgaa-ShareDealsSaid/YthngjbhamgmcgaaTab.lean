/-
  A slice of slices that is read: Tab. The walks of SameTexts, sameLists, long, share.fits' closures and of both 'lists'.
-/
import Derived.Test.YthngjbhamgmcgaaShE
import Derived.WideShapes
namespace Go.Proofs.Ythngjbhamgmcgaa
open Go.RowKit Go.Shelf

theorem str_eq (x y : ByteArray) : (x.toList == y.toList) = decide (x = y) := by
  rw [ByteArray.toList_eq, ByteArray.toList_eq, Bool.eq_iff_iff, decide_eq_true_eq, beq_iff_eq]
  exact ⟨fun h => Go.WideShapes.bytes_inj h, fun h => by rw [h]⟩
theorem str_ne {x y : ByteArray} (h : x ≠ y) : (x.toList == y.toList) = false := by rw [str_eq]; simpa using h

/-- One row of a slice of slices. -/
structure RowT where
  a : Option Addr
  n : Nat
  c : Nat
  xs : List ByteArray
def RowT.val (r : RowT) : Value := .slice r.a r.n r.c
def RowT.Ok (w : World) (B : Nat) (r : RowT) : Prop := Reads w B 1 r.a r.n (r.xs.map Value.string)
def Tab (w : World) (B : Nat) (A : Option Addr) (n : Nat) (R : List RowT) : Prop :=
  Reads w B 1 A n (R.map RowT.val) ∧ ∀ r ∈ R, r.Ok w B
theorem Tab.len {w : World} {B n : Nat} {A : Option Addr} {R : List RowT} (h : Tab w B A n R) : R.length = n := h.1.len1
theorem Tab.up {w w' : World} {n : Nat} {A : Option Addr} {R : List RowT} (h : Tab w w.heap.size A n R) (hb : Below w.heap.size w w') : Tab w' w'.heap.size A n R :=
  ⟨h.1.up hb, fun r hr => Reads.up (h.2 r hr) hb⟩
theorem Tab.drewN {w : World} {B n : Nat} {A : Option Addr} {R : List RowT} (h : Tab w B A n R) (k : Nat) : Tab (w.drewN k) B A n R := h
theorem Tab.below {w w' : World} {B n : Nat} {A : Option Addr} {R : List RowT} (h : Tab w B A n R) (hb : Below B w w') : Tab w' B A n R :=
  ⟨h.1.below hb, fun r hr => Reads.below (h.2 r hr) hb⟩
/-- Row i of the table. -/
theorem Tab.row {w : World} {B n : Nat} {A : Option Addr} {R : List RowT} (h : Tab w B A n R) {i : Nat} (hi : i < n) :
    ∃ b off r, A = some ⟨b, off, none⟩ ∧ b < B ∧ R[i]? = some r ∧ w.cell? ⟨b, off + i, none⟩ = some (.slice r.a r.n r.c) ∧ Reads w B 1 r.a r.n (r.xs.map Value.string) := by
  obtain ⟨b, off, r, hA, hb, hr, hc⟩ := h.1.at1 hi
  exact ⟨b, off, r, hA, hb, hr, hc, h.2 r (List.mem_of_getElem? hr)⟩

set_option maxHeartbeats 1000000 in
theorem SameTexts_any (A A' : Option Addr) (n m c c' B B' : Nat) (xs ys : List ByteArray) (w : World) (hx : Reads w B 1 A n (xs.map Value.string)) (hy : Reads w B' 1 A' m (ys.map Value.string)) (hn : n ≤ 9223372036854775807) (hm : m ≤ 9223372036854775807) :
    Calls Try.prog 53 #[.slice A n c, .slice A' m c'] w (RetQ w (.bool (decide (xs = ys)))) := by
  have hxl := hx.len1
  have hyl := hy.len1
  by_cases hnm : n = m
  · subst hnm
    clear hm
    have HX := hide hxl
    have HY := hide hyl
    clear hxl hyl
    go_enter Try.func53, Try.ntmps53
    go_wp2
    go_loopw [5] (fun i wr => ∃ k q : Nat, k ≤ n ∧ i = .int .i64 k ∧ xs.take k = ys.take k ∧ wr = w.drewN q) (fun i _ => n - (intOf i).toNat)
    case atStart => exact ⟨0, 0, Nat.zero_le _, rfl, rfl, rfl⟩
    case round =>
      obtain ⟨k, q, hk, rfl, heq, rfl⟩ := hrel
      have HE := hide heq
      clear heq
      by_cases hlt : k < n
      · obtain ⟨b, off, x, rfl, hb, hxk, hc⟩ := hx.at1 hlt
        obtain ⟨b', off', y, rfl, hb', hyk, hc'⟩ := hy.at1 hlt
        have HXK := hide hxk
        have HYK := hide hyk
        clear hxk hyk
        by_cases hxy : x = y
        · subst hxy
          go_wp2
          go_quiet (fail)
          go_wp2
          go_roundw
          case rel => exact ⟨k + 1, _, by omega, by go_num, by rw [take_snoc' HXK.out, take_snoc' HYK.out, HE.out], rfl⟩
          case measure => simp [intOf]; omega
        · have hxy' := str_ne hxy
          go_wp2
          go_quiet (fail)
          go_wp2
          go_ret
          exact ⟨ret_bool (by
            symm; rw [decide_eq_false_iff_not]; rintro rfl
            exact hxy (Option.some.inj (HXK.out.symm.trans HYK.out))), _, World.drewN_drewN _ _ _⟩
      · obtain rfl : k = n := by omega
        go_wp2
        go_ret
        exact ⟨ret_bool (by
          symm; rw [decide_eq_true_eq]
          have := HE.out; rwa [take_all HX.out, take_all HY.out] at this), _, rfl⟩
  · have hne : ((n : Int) != (m : Int)) = true := by simp; omega
    have HX := hide hxl
    have HY := hide hyl
    clear hxl hyl
    go_enter Try.func53, Try.ntmps53
    go_wp2
    go_ret
    exact ⟨ret_bool (by
      symm; rw [decide_eq_false_iff_not]; rintro rfl
      exact hnm (HX.out.symm.trans HY.out)), 0, rfl⟩

/-- The lists of a table. -/
def lists (R : List RowT) : List (List ByteArray) := R.map RowT.xs
set_option maxHeartbeats 1000000 in
theorem sameLists_any (A A' : Option Addr) (n m c c' B B' : Nat) (R S : List RowT) (w : World) (hx : Tab w B A n R) (hy : Tab w B' A' m S) (hn : n ≤ 9223372036854775807) (hm : m ≤ 9223372036854775807)
    (hR : ∀ r ∈ R, r.n ≤ 9223372036854775807) (hS : ∀ r ∈ S, r.n ≤ 9223372036854775807) :
    Calls Try.prog 27 #[.slice A n c, .slice A' m c'] w (RetQ w (.bool (decide (lists R = lists S)))) := by
  have hxl := hx.len
  have hyl := hy.len
  by_cases hnm : n = m
  · subst hnm
    clear hm
    have HX := hide hxl
    have HY := hide hyl
    clear hxl hyl
    have HR := hide hR
    have HS := hide hS
    clear hR hS
    go_enter Try.func27, Try.ntmps27
    go_wp2
    go_loopw [5] (fun i wr => ∃ k q : Nat, k ≤ n ∧ i = .int .i64 k ∧ (lists R).take k = (lists S).take k ∧ wr = w.drewN q) (fun i _ => n - (intOf i).toNat)
    case atStart => exact ⟨0, 0, Nat.zero_le _, rfl, rfl, rfl⟩
    case round =>
      obtain ⟨k, q, hk, rfl, heq, hwr⟩ := hrel
      have hx' : Tab wr B A n R := by rw [hwr]; exact hx.drewN q
      have hy' : Tab wr B' A' n S := by rw [hwr]; exact hy.drewN q
      have HW := hide hwr
      clear hwr
      have HE := hide heq
      clear heq
      by_cases hlt : k < n
      · obtain ⟨b, off, x, rfl, hb, hxk, hc, hrx⟩ := hx'.row hlt
        obtain ⟨b', off', y, rfl, hb', hyk, hc', hry⟩ := hy'.row hlt
        have hx1 := HR.out x (List.mem_of_getElem? hxk)
        have hy1 := HS.out y (List.mem_of_getElem? hyk)
        have HXK := hide (show (lists R)[k]? = some x.xs by unfold lists; rw [List.getElem?_map, hxk]; rfl)
        have HYK := hide (show (lists S)[k]? = some y.xs by unfold lists; rw [List.getElem?_map, hyk]; rfl)
        clear hxk hyk
        by_cases hxy : x.xs = y.xs
        · have hd : decide (x.xs = y.xs) = true := by simpa using hxy
          go_wp2
          go_quiet ((go_at_call 53; exact Calls.quiet_of (SameTexts_any _ _ _ _ _ _ _ _ _ _ _ (hrx.drewN _) (hry.drewN _) hx1 hy1)))
          go_wp2
          go_roundw
          case rel => exact ⟨k + 1, _, by omega, by go_num, by rw [take_snoc' HXK.out, take_snoc' HYK.out, HE.out, hxy], by rw [HW.out]; exact World.drewN_drewN _ _ _⟩
          case measure => simp [intOf]; omega
        · have hd : decide (x.xs = y.xs) = false := by simpa using hxy
          go_wp2
          go_quiet ((go_at_call 53; exact Calls.quiet_of (SameTexts_any _ _ _ _ _ _ _ _ _ _ _ (hrx.drewN _) (hry.drewN _) hx1 hy1)))
          go_wp2
          go_ret
          exact ⟨ret_bool (by
            symm; rw [decide_eq_false_iff_not]; intro e
            have h1 := HXK.out; have h2 := HYK.out
            rw [e, h2] at h1
            exact hxy (Option.some.inj h1).symm), _, by rw [HW.out]; exact World.drewN_drewN _ _ _⟩
      · obtain rfl : k = n := by omega
        go_wp2
        go_ret
        exact ⟨ret_bool (by
          symm; rw [decide_eq_true_eq]
          have := HE.out; rwa [take_all (by unfold lists; rw [List.length_map]; exact HX.out), take_all (by unfold lists; rw [List.length_map]; exact HY.out)] at this), _, HW.out⟩
  · have hne : ((n : Int) != (m : Int)) = true := by simp; omega
    have HX := hide hxl
    have HY := hide hyl
    clear hxl hyl
    go_enter Try.func27, Try.ntmps27
    go_wp2
    go_ret
    exact ⟨ret_bool (by
      symm; rw [decide_eq_false_iff_not]; intro e
      have := congrArg List.length e; unfold lists at this; rw [List.length_map, List.length_map, HX.out, HY.out] at this; exact hnm this), 0, rfl⟩

end Go.Proofs.Ythngjbhamgmcgaa
