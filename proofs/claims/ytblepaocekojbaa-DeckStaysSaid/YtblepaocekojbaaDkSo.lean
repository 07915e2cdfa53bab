/-
  The walk of tidewrightref12.Sorted: the same numbers, in ascending order.
-/
import Derived.Test.YtblepaocekojbaaDkReg
import Derived.Test.YtblepaocekojbaaApp
import Derived.BigRegion
namespace Go.Proofs.Ytblepaocekojbaa
open Go.RowKit Go.Shelf Go.Deep
attribute [local go_sem] Oper.semAt_some

def srt (l : List Int) : Prop := l.Pairwise (fun a b => a ≤ b)
/-- x goes on between P and Q. -/
theorem srt_mid {P Q : List Int} {x : Int} (h : srt (P ++ Q)) (hp : ∀ y ∈ P, y ≤ x) (hq : ∀ y ∈ Q, x ≤ y) : srt (P ++ x :: Q) := by
  unfold srt at *
  rw [List.pairwise_append] at h ⊢
  rw [List.pairwise_cons]
  refine ⟨h.1, ⟨hq, h.2.1⟩, fun a ha b hb => ?_⟩
  rcases List.mem_cons.1 hb with rfl | hb
  · exact hp a ha
  · exact h.2.2 a ha b hb
theorem srt_last {P Q : List Int} {p x : Int} (h : srt ((P ++ [p]) ++ Q)) (hp : p ≤ x) : ∀ y ∈ P ++ [p], y ≤ x := by
  unfold srt at h
  rw [List.pairwise_append, List.pairwise_append] at h
  intro y hy
  rcases List.mem_append.1 hy with hy | hy
  · exact Int.le_trans (h.1.2.2 y hy p (by simp)) hp
  · obtain rfl : y = p := by simpa using hy
    exact hp
theorem own_drewN {w : World} {base : Nat} {e : TypeId} {size n : Nat} {v : Value} {xs : List Value} (h : w.ownsRow base e size v n xs) (q : Nat) : (w.drewN q).ownsRow base e size v n xs := h
theorem set_two (A C : List Value) (a b x : Value) : (A ++ a :: b :: C).set A.length x = A ++ x :: b :: C := by
  rw [List.set_append_right _ _ (Nat.le_refl _), Nat.sub_self]; rfl
theorem set_two' (A C : List Value) (a b y : Value) : (A ++ a :: b :: C).set (A.length + 1) y = A ++ a :: y :: C := by
  rw [List.set_append_right _ _ (by omega), show A.length + 1 - A.length = 1 by omega]; rfl
theorem intsL_app (a b : List Int) : intsL (a ++ b) = intsL a ++ intsL b := by simp [intsL]
theorem intsL_cons (x : Int) (b : List Int) : intsL (x :: b) = .int .i64 x :: intsL b := rfl
theorem intsL_len (a : List Int) : (intsL a).length = a.length := by simp [intsL]

set_option maxRecDepth 100000 in
set_option maxHeartbeats 4000000 in
theorem Sorted_any (A : Option Addr) (n c B : Nat) (xs : List Int) (w : World) (hx : Reads w B 1 A n (xs.map (Value.int .i64))) (hB : B ≤ w.heap.size) (hn : n ≤ 1000000) :
    Calls Try.prog 18 #[.slice A n c] w fun e w' => ∃ ys, ys.Perm xs ∧ srt ys ∧ RetOwn w 3 1 n (intsL ys) e w' := by
  obtain ⟨i0, hi, hz0, hz1, hz2⟩ := info_parts infoInt_dk
  have HL := hide hx.len1
  have hlit := own_lit w 3 1 0 #[] rfl (by unfold maxLen; omega) (Nat.le_refl w.heap.size)
  have hx1 := hx.alloc hB (.cells #[] 3)
  have hB0 : Below w.heap.size w (w.alloc (.cells #[] 3)) := (Below.refl _ _).alloc (Nat.le_refl _) _
  go_enter Try.func18, Try.ntmps18
  go_wp2_with (at_builtin; refine wpList_append_any _ rfl _ _ 22 rfl w.heap.size 3 i0 _ 1 8 Try.underlying22 hi hz0 hz1 hz2 rfl (by decide) (.slice (some ⟨w.heap.size, 0, none⟩) 0 0) 0 [] rfl hlit B A n c (xs.map (Value.int .i64)) rfl hx1 (fun u hu => by obtain ⟨x, _, rfl⟩ := List.mem_map.1 hu; rfl) (by unfold maxLen; omega) (by omega) (by simp) ?_; intro v' W1 hown hgrow _; rw [Nat.zero_add, List.nil_append] at hown)
  have hB1 : Below w.heap.size w W1 := below_append hB0 hlit (by simp) hgrow
  clear hlit hx1 hB0 hx hgrow
  by_cases hn0 : n = 0
  · subst hn0
    have hxs : xs = [] := List.eq_nil_of_length_eq_zero HL.out
    obtain ⟨A1, c1, rfl, hR⟩ := own_form hown
    have HE := hide (show RetOwn w 3 1 0 (intsL xs) (.returned (.slice A1 0 c1)) W1 from ⟨A1, c1, rfl, hown, hB1⟩)
    clear hown hR hB1
    go_wp2_with fail
    go_loopw [4, 5] (fun i _ wr => i = .int .i64 1 ∧ wr = W1) (fun _ _ _ => 0)
    case atStart => exact ⟨rfl, rfl⟩
    case round =>
      obtain ⟨rfl, hw⟩ := hrel
      have HW := hide hw
      clear hw
      go_wp2
      go_ret
      exact ⟨xs, List.Perm.refl _, by rw [hxs]; exact List.Pairwise.nil, by rw [HW.out]; exact HE.out⟩
  · obtain ⟨g, cap, rfl, _⟩ := hown.form (by omega)
    have hg := hown.lt g rfl
    go_wp2_with fail
    go_loopw [4, 5] (fun i _ wr => ∃ (k : Nat) (P R : List Int), 1 ≤ k ∧ k ≤ n ∧ i = .int .i64 k ∧ P.length = k ∧ (P ++ R).Perm xs ∧ srt P ∧ wr.ownsRow w.heap.size 3 1 (.slice (some ⟨g, 0, none⟩) n cap) n (intsL (P ++ R)) ∧ Below w.heap.size w wr) (fun i _ _ => n - (intOf i).toNat)
    case atStart =>
      have hlen := HL.out
      match xs, hlen with
      | [], h => simp at h; omega
      | x :: r, _ => exact ⟨1, [x], r, Nat.le_refl _, by omega, rfl, rfl, List.Perm.refl _, by simp [srt], hown, hB1⟩
    case round =>
      clear hown hB1 hg
      obtain ⟨k, P, R, hk1, hk, rfl, hPl, hperm, hsrt, hown, hB⟩ := hrel
      have HPERM := hide hperm
      have HSRT := hide hsrt
      have hlen : P.length + R.length = n := by
        have := hperm.length_eq
        rw [HL.out, List.length_append] at this; exact this
      clear hperm hsrt
      by_cases hlt : k < n
      · match R, HPERM, hlen, hown with
        | [], _, hlen, _ => simp at hlen; omega
        | x :: R, HPERM, hlen, hown =>
        go_wp2_with fail
        go_loopw [5] (fun j wr => ∃ P Q : List Int, j = .int .i64 P.length ∧ P.length + Q.length = k ∧ (P ++ x :: Q ++ R).Perm xs ∧ srt (P ++ Q) ∧ (∀ y ∈ Q, x ≤ y) ∧ wr.ownsRow w.heap.size 3 1 (.slice (some ⟨g, 0, none⟩) n cap) n (intsL (P ++ x :: Q ++ R)) ∧ Below w.heap.size w wr) (fun j _ => (intOf j).toNat)
        case atStart => exact ⟨P, [], by rw [hPl], by simp [hPl], by simpa using HPERM.out, by simpa using HSRT.out, by simp, by simpa using hown, hB⟩
        case round =>
          clear hown hB
          obtain ⟨P2, Q, rfl, hPQ, hperm, hsrt, hQ, hown, hB⟩ := hrel
          have HP := hide hperm
          have HS := hide hsrt
          have HQ := hide hQ
          have hgl := hown.lt g rfl
          clear hperm hsrt hQ
          have hlR : R.length + k + 1 = n := by simp at hlen; omega
          rcases List.eq_nil_or_concat P2 with rfl | ⟨P3, p, rfl⟩
          · have HEND := hide (srt_mid (P := []) (by simpa using HS.out) (by simp) HQ.out)
            go_wp2
            go_quiet (fail)
            go_wp2
            go_roundw
            case rel => exact ⟨k + 1, x :: Q, R, by omega, by omega, by go_num, by simp at hPQ; simp; omega, by simpa using HP.out, by simpa using HEND.out, by simpa using own_drewN hown _, below_drewN hB _⟩
            case measure => simp [intOf]; omega
          · obtain ⟨j, hj⟩ : ∃ j, P3.length = j := ⟨_, rfl⟩
            have hjl : (P3.concat p).length = j + 1 := by simp [hj]
            rw [hjl] at hPQ
            rw [hjl]
            have ej : (intsL (P3.concat p ++ x :: Q ++ R)) = intsL P3 ++ .int .i64 p :: .int .i64 x :: intsL (Q ++ R) := by simp [intsL]
            rw [ej] at hown
            have hlj : (intsL P3).length = j := by rw [intsL_len, hj]
            have c1 : wr.cell? ⟨g, j, none⟩ = some (.int .i64 p) := by
              rw [World.ownsRow.cellAt hown j (by omega), List.getElem?_append_right (by omega), hlj, Nat.sub_self]; rfl
            have c2 : wr.cell? ⟨g, j + 1, none⟩ = some (.int .i64 x) := by
              rw [World.ownsRow.cellAt hown (j + 1) (by omega), List.getElem?_append_right (by omega), hlj, show j + 1 - j = 1 by omega]; rfl
            have q1 : (0 : Int) ≤ (j : Int) := by omega
            have q2 : (j : Int) < (n : Int) := by omega
            have q3 : (j : Int) + 1 < (n : Int) := by omega
            have w1 : (j : Int) + 1 - 1 = (j : Int) := by omega
            have w2 : IntKind.i64.wrap ((j : Int) + 1 - 1) = (j : Int) := by rw [w1, IntKind.wrap_i64]; omega
            by_cases hpx : p ≤ x
            · have hd : decide (x < p) = false := by simp; omega
              have HEND := hide (srt_mid (x := x) HS.out (by rw [List.concat_eq_append] at HS ⊢; exact srt_last HS.out hpx) HQ.out)
              go_wp2_with fail
              go_quiet (fail)
              go_wp2
              go_roundw
              case rel => exact ⟨k + 1, P3.concat p ++ x :: Q, R, by omega, by omega, by go_num, by simp; omega, HP.out, HEND.out, by rw [ej]; exact own_drewN hown _, below_drewN hB _⟩
              case measure => simp [intOf]; omega
            · have hd : decide (x < p) = true := by simp; omega
              have hxp : x ≤ p := by omega
              have HQ2 := hide (show ∀ y ∈ p :: Q, x ≤ y from fun y hy => by
                rcases List.mem_cons.1 hy with rfl | hy
                · exact hxp
                · exact HQ.out y hy)
              have HS2 := hide (show srt (P3 ++ p :: Q) by have := HS.out; simpa [List.concat_eq_append] using this)
              have HP2 := hide (show (P3 ++ x :: (p :: Q) ++ R).Perm xs from List.Perm.trans (by
                simp only [List.concat_eq_append, List.append_assoc, List.cons_append, List.nil_append]
                exact List.Perm.append_left _ (List.Perm.swap _ _ _)) HP.out)
              clear HP HS HQ hxp
              go_wp2_with fail
              go_quiet (fail)
              obtain ⟨W5, hW5⟩ : ∃ W5, wr.drewN nq = W5 := ⟨_, rfl⟩
              have hown5 : W5.ownsRow w.heap.size 3 1 (.slice (some ⟨g, 0, none⟩) n cap) n (intsL P3 ++ .int .i64 p :: .int .i64 x :: intsL (Q ++ R)) := by rw [← hW5]; exact own_drewN hown nq
              have hB5 : Below w.heap.size w W5 := by rw [← hW5]; exact below_drewN hB nq
              have d1 : W5.cell? ⟨g, j, none⟩ = some (.int .i64 p) := by rw [← hW5]; exact c1
              have d2 : W5.cell? ⟨g, j + 1, none⟩ = some (.int .i64 x) := by rw [← hW5]; exact c2
              rw [hW5]
              clear hW5 hown hB c1 c2
              have f1 := hown5.frozenAt j
              have f2 := hown5.frozenAt (j + 1)
              obtain ⟨s1, _⟩ := hown5.stored j (.int .i64 x)
              have f3 := s1.frozenAt (j + 1)
              have hlj' := hlj
              rw [← hlj', set_two] at s1
              obtain ⟨s2, _⟩ := s1.stored ((intsL P3).length + 1) (.int .i64 p)
              rw [set_two', hlj'] at s2
              have es : intsL P3 ++ .int .i64 x :: .int .i64 p :: intsL (Q ++ R) = intsL (P3 ++ x :: (p :: Q) ++ R) := by simp [intsL]
              rw [es] at s2
              have hB6 := (hB5.setCell (p := ⟨g, j, none⟩) hgl.1 (.int .i64 x)).setCell (p := ⟨g, j + 1, none⟩) hgl.1 (.int .i64 p)
              have S2 := hide s2
              have B6 := hide hB6
              have HJ := hide hj
              clear s1 s2 hB6 es hlj hlj' hown5 hB5 hj ej hjl
              go_wp2_with fail
              go_region
              all_goals
                go_wp2
                go_roundw
                case rel => exact ⟨P3, p :: Q, by rw [HJ.out], by rw [HJ.out]; simp; omega, HP2.out, HS2.out, HQ2.out, S2.out.drew, B6.out.drew⟩
                case measure => simp [intOf] <;> omega
      · have hR0 : R = [] := List.eq_nil_of_length_eq_zero (by omega)
        have HPX := hide (show P.Perm xs by have := HPERM.out; rwa [hR0, List.append_nil] at this)
        rw [hR0, List.append_nil] at hown
        go_wp2
        go_ret
        exact ⟨P, HPX.out, HSRT.out, _, _, rfl, hown, hB⟩
end Go.Proofs.Ytblepaocekojbaa
