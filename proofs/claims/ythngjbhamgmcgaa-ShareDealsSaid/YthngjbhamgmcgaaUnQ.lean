/-
  The walks of share.Union and of its reference, joined; a grid reads as a table.
-/
import Derived.Test.YthngjbhamgmcgaaUnD
namespace Go.Proofs.Ythngjbhamgmcgaa
open Go.RowKit Go.Shelf Go.Deep
attribute [local go_sem] Oper.semAt_some

theorem GridS.mono {w : World} {base base' b N : Nat} {V : Nat → Value} {X : Nat → List ByteArray} (hG : GridS w base b N V X) (h : base' ≤ base) : GridS w base' b N V X :=
  ⟨Nat.le_trans h hG.low, hG.top, fun p hp => World.ownsRow.mono (hG.row p hp) h, hG.away, hG.apart⟩

theorem Union_yes (A : Option Addr) (n c : Nat) (R : List RowT) (P : Nat) (w : World) (hx : Tab w w.heap.size A n R) (hn1 : 1 ≤ n) (hn : n ≤ 16) (hss : Short R) (hP1 : 1 ≤ P) (hP : P ≤ 16) (ht : allN R ≤ 400) :
    Calls Try.prog 25 #[.slice A n c, .int .i64 (P : Int)] w fun e w' => ∃ b V, e = .returned (.tuple #[.slice (some ⟨b, 0, none⟩) P P, .int .i64 0]) ∧ GridS w' w.heap.size b P V (fun _ => flat R) ∧ Below w.heap.size w w' := by
  refine (Union_mid A n c P hP1 hP w (fun v1 v2 w' => ∃ b V, v1 = .slice (some ⟨b, 0, none⟩) P P ∧ v2 = .int .i64 0 ∧ GridS w' w.heap.size b P V (fun _ => flat R) ∧ Below w.heap.size w w') ?_).mono ?_
  · intro W A' c' hB hlt hc hR
    have hx1 := hx.up hB
    refine (dealing_yes A n c R P _ _ _ _ hx1 hn1 hn hss hP1 hP ht (dealtAll A n c w.heap.size A' c' R P W hx1 hn hss hP1 hP ht hlt hc hR)).mono ?_
    rintro e w' ⟨b, V, rfl, hG, hB'⟩
    exact ⟨_, _, rfl, b, V, rfl, rfl, hG.mono (by omega), bstep hB hB'⟩
  · rintro e w' ⟨v1, v2, rfl, b, V, rfl, rfl, hG, hB⟩
    exact ⟨b, V, rfl, hG, hB⟩

theorem Union_no (A : Option Addr) (n c : Nat) (R : List RowT) (P : Int) (w : World) (hx : Tab w w.heap.size A n R) (hn : n ≤ 30) (hss : Short R) (he : listsE n P (allN R) ≠ 0) :
    Calls Try.prog 25 #[.slice A n c, .int .i64 P] w fun e w' => e = .returned (.tuple #[.slice none 0 0, .int .i64 (listsE n P (allN R))]) ∧ Below w.heap.size w w' := by
  have hD : ∀ W, Below w.heap.size w W → ∀ f bs, Calls Try.prog 49 #[.slice A n c, .int .i64 P, .func (Fn.func f) #[] bs] W fun e w' => ∃ v1 v2, e = .returned (.tuple #[v1, v2]) ∧ (v1 = .slice none 0 0 ∧ v2 = .int .i64 (listsE n P (allN R)) ∧ Below w.heap.size w w') := by
    intro W hB f bs
    refine (dealing_no A n c R P f bs W (hx.up hB) hn hss he).mono ?_
    rintro e w' ⟨rfl, rfl⟩
    exact ⟨_, _, rfl, rfl, rfl, hB⟩
  have fin : ∀ (e : Ending) (w' : World), (∃ v1 v2, e = .returned (.tuple #[v1, v2]) ∧ (v1 = .slice none 0 0 ∧ v2 = .int .i64 (listsE n P (allN R)) ∧ Below w.heap.size w w')) → e = .returned (.tuple #[.slice none 0 0, .int .i64 (listsE n P (allN R))]) ∧ Below w.heap.size w w' := by
    rintro e w' ⟨v1, v2, rfl, rfl, rfl, hB⟩
    exact ⟨rfl, hB⟩
  by_cases h1 : P ≤ 0
  · exact (Union_low A n c P h1 w _ (fun W _ _ hB _ _ _ => hD W hB _ _)).mono fin
  · by_cases h2 : 16 < P
    · exact (Union_high A n c P h2 w _ (fun W _ _ hB _ _ _ => hD W hB _ _)).mono fin
    · obtain ⟨N, rfl⟩ := Int.eq_ofNat_of_zero_le (show 0 ≤ P by omega)
      exact (Union_mid A n c N (by omega) (by omega) w _ (fun W _ _ hB _ _ _ => hD W hB _ _)).mono fin

set_option maxHeartbeats 1000000 in
theorem RUnion_no (A : Option Addr) (n c : Nat) (R : List RowT) (P : Int) (w : World) (hx : Tab w w.heap.size A n R) (hn : n ≤ 30) (hss : Short R) (he : listsE n P (allN R) ≠ 0) :
    Calls Try.prog 26 #[.slice A n c, .int .i64 P] w fun e w' => e = .returned (.tuple #[.slice none 0 0, .int .i64 (listsE n P (allN R))]) ∧ w = w' := by
  have CL := hide (Rlists_short A n c w.heap.size R P w hx hn hss)
  clear hss
  obtain ⟨q, hq⟩ : ∃ q, listsE n P (allN R) = q := ⟨_, rfl⟩
  rw [hq] at CL he ⊢
  clear hq
  go_enter Try.func26, Try.ntmps26
  go_wp2_with fail
  refine CL.out.mono ?_
  rintro e w' ⟨rfl, rfl⟩
  go_wp2
  go_ret2
  exact ⟨rfl, rfl⟩

/-- Row p of a grid, as a row of a table. -/
def rowOf (V : Nat → Value) (X : Nat → List ByteArray) (p : Nat) : RowT :=
  match V p with
  | .slice a n c => ⟨a, n, c, X p⟩
  | _ => ⟨none, 0, 0, X p⟩
def rowsOf (N : Nat) (V : Nat → Value) (X : Nat → List ByteArray) : List RowT := (List.range N).map (rowOf V X)
theorem rowOf_eq {w : World} {base b N : Nat} {V : Nat → Value} {X : Nat → List ByteArray} (hG : GridS w base b N V X) {p : Nat} (hp : p < N) :
    ∃ a c, V p = .slice a (X p).length c ∧ rowOf V X p = ⟨a, (X p).length, c, X p⟩ ∧ Reads w w.heap.size 1 a (X p).length ((X p).map Value.string) := by
  obtain ⟨a, c, hv, hr⟩ := own_form (hG.row p hp)
  exact ⟨a, c, hv, by unfold rowOf; rw [hv], hr⟩
theorem GridS.tab {w : World} {base b N : Nat} {V : Nat → Value} {X : Nat → List ByteArray} (hG : GridS w base b N V X) : Tab w w.heap.size (some ⟨b, 0, none⟩) N (rowsOf N V X) := by
  refine ⟨⟨by simp [rowsOf], fun _ => ⟨b, 0, rfl, hG.lt, fun j u hu => ?_⟩⟩, fun r hr => ?_⟩
  · unfold rowsOf at hu
    rw [List.map_map, List.getElem?_map] at hu
    by_cases hj : j < N
    · rw [List.getElem?_range hj] at hu
      obtain ⟨a, c, hv, hr, _⟩ := rowOf_eq hG hj
      simp only [Option.map_some, Function.comp, hr, RowT.val, Option.some.injEq] at hu
      rw [Nat.zero_add, hG.cell hj, hv, hu]
    · rw [List.getElem?_eq_none (by simpa using hj)] at hu; cases hu
  · unfold rowsOf at hr
    obtain ⟨p, hp, rfl⟩ := List.mem_map.1 hr
    obtain ⟨a, c, hv, he, hrd⟩ := rowOf_eq hG (List.mem_range.1 hp)
    rw [he]; exact hrd
theorem GridS.lists {w : World} {base b N : Nat} {V : Nat → Value} {X : Nat → List ByteArray} (hG : GridS w base b N V X) : lists (rowsOf N V X) = (List.range N).map X := by
  unfold Go.Proofs.Ythngjbhamgmcgaa.lists rowsOf
  rw [List.map_map]
  refine List.map_congr_left fun p hp => ?_
  obtain ⟨a, c, hv, he, hrd⟩ := rowOf_eq hG (List.mem_range.1 hp)
  show (rowOf V X p).xs = X p
  rw [he]
theorem GridS.le {w : World} {base b N m : Nat} {V : Nat → Value} {X : Nat → List ByteArray} (hG : GridS w base b N V X) (hX : ∀ p, p < N → (X p).length ≤ m) : ∀ r ∈ rowsOf N V X, r.n ≤ m := by
  intro r hr
  unfold rowsOf at hr
  obtain ⟨p, hp, rfl⟩ := List.mem_map.1 hr
  obtain ⟨a, c, hv, he, hrd⟩ := rowOf_eq hG (List.mem_range.1 hp)
  rw [he]; exact hX p (List.mem_range.1 hp)
end Go.Proofs.Ythngjbhamgmcgaa
