/-
  The walk of tidewrightref26.tasks, for every graph and lists.
-/
import Derived.Test.YtblepaocekojbaaDkBb
namespace Go.Proofs.Ytblepaocekojbaa
open Go.RowKit Go.Shelf
attribute [local go_sem] Oper.semAt_some

/-- A slice of ints, and what it holds. -/
structure SL where
  a : Option Addr
  m : Nat
  c : Nat
  xs : List Int
/-- k slices that lie in block b, and what they hold. -/
def Lists (w : World) (B b : Nat) (ls : List SL) : Prop := ∀ i s, ls[i]? = some s → w.cell? ⟨b, i, none⟩ = some (.slice s.a s.m s.c) ∧ Reads w B 1 s.a s.m (s.xs.map (Value.int .i64)) ∧ s.m ≤ 4611686018427387904
theorem Lists.below {w w' : World} {B b : Nat} {ls : List SL} (h : Lists w B b ls) (hb : Below B w w') (hbB : b < B) : Lists w' B b ls := fun i s hs =>
  ⟨(hb.cell (p := ⟨b, i, none⟩) hbB).trans (h i s hs).1, (h i s hs).2.1.below hb, (h i s hs).2.2⟩
theorem Lists.more {w : World} {B B' b : Nat} {ls : List SL} (h : Lists w B b ls) (hB : B ≤ B') : Lists w B' b ls := fun i s hs => ⟨(h i s hs).1, (h i s hs).2.1.more hB, (h i s hs).2.2⟩
/-- The error of a graph and lists of tasks. -/
def errT (g : Gr) (ls : List SL) : Int := if validB g && ls.all (fun s => ascB s.xs) then (if ls.any (fun s => s.xs.any (outT g.n1)) then 7 else 0) else 1

theorem all_take {α : Type} (f : α → Bool) (xs : List α) (k : Nat) (x : α) (h : xs[k]? = some x) (hf : f x = true) (h0 : (xs.take k).all f = true) : (xs.take (k + 1)).all f = true := by
  rw [take_snoc' h, List.all_append, h0]; simp [hf]
theorem all_miss {α : Type} (f : α → Bool) (xs : List α) (k : Nat) (x : α) (h : xs[k]? = some x) (hf : f x = false) : xs.all f = false := by
  cases e : xs.all f
  · rfl
  · rw [List.all_eq_true.1 e x (List.mem_of_getElem? h)] at hf; cases hf

set_option maxRecDepth 100000 in
set_option maxHeartbeats 4000000 in
theorem Rtasks_any (g : Gr) (bl n c : Nat) (ls : List SL) (w : World) (hg : g.Ok w w.heap.size) (hls : Lists w w.heap.size bl ls) (hbl : bl < w.heap.size) (hln : ls.length = n) (hn : n ≤ 1000) (hn1 : g.n1 ≤ 4611686018427387904) (hn2 : g.n2 ≤ 4611686018427387904) :
    Calls Try.prog 52 #[.agg #[g.v1, g.v2], .slice (some ⟨bl, 0, none⟩) n c] w (RetV w (.int .i64 (errT g ls))) := by
  have hB0 : Below w.heap.size w (w.alloc (.cells #[g.v1, g.v2] 25)) := (Below.refl _ _).alloc (Nat.le_refl _) _
  have b0 : Blk (w.alloc (.cells #[g.v1, g.v2] 25)) w.heap.size 25 #[g.v1, g.v2] := Blk.new w _ _
  have hs0 : (w.alloc (.cells #[g.v1, g.v2] 25)).heap.size = w.heap.size + 1 := World.size_alloc _ _
  go_enter Try.func52, Try.ntmps52
  go_wp2_with fail
  obtain ⟨W0, hW0⟩ : ∃ W0, w.alloc (.cells #[g.v1, g.v2] 25) = W0 := ⟨_, rfl⟩
  rw [hW0] at hB0 b0 hs0 ⊢
  clear hW0
  refine (RValid_any g W0 (hg.up hB0) hn1 hn2).mono ?_
  rintro e W1 ⟨rfl, hB1⟩
  have b1 := b0.below hB1 (by omega)
  have hB01 := bstep hB0 hB1
  have hls1 := (hls.below hB01 hbl).more hB01.size
  have hs1 := hB01.size
  have d0 := b1.cell 0
  simp at d0
  replace d0 : W1.cell? ⟨w.heap.size, 0, none⟩ = some (.slice g.a1 g.n1 g.c1) := d0
  have hx1 : w.heap.size < W1.heap.size := by have := hB1.size; omega
  clear hg hls b0 hB1 hB0 b1 hs0
  cases hv : validB g
  · have HE := hide (show RetV w (.int .i64 (errT g ls)) (.returned (.int .i64 1)) W1 from ⟨by simp [errT, hv], hB01⟩)
    clear hls1 hB01
    go_wp2
    go_ret
    exact HE.out
  · have HV := hide hv
    have HLN := hide hln
    clear hv hln
    go_wp2_with fail
    go_loopw [5, 6] (fun i _ wr => ∃ k : Nat, k ≤ n ∧ i = .int .i64 k ∧ (ls.take k).all (fun s => ascB s.xs) = true ∧ Below W1.heap.size W1 wr) (fun i _ _ => n - (intOf i).toNat)
    case atStart => exact ⟨0, Nat.zero_le _, rfl, rfl, Below.refl _ _⟩
    case round =>
      obtain ⟨k, hk, rfl, hall, hB⟩ := hrel
      have HALL := hide hall
      clear hall
      by_cases hlt : k < n
      · obtain ⟨s, hs⟩ : ∃ s, ls[k]? = some s := ⟨_, List.getElem?_eq_getElem (by rw [HLN.out]; exact hlt)⟩
        obtain ⟨A, m, c', xs⟩ := s
        obtain ⟨hc, hr, hm⟩ := hls1 k _ hs
        have HSK := hide hs
        dsimp only at hc hr hm
        have HL := hide hr.len1
        clear hs
        have hcw : wr.cell? ⟨bl, k, none⟩ = some (.slice A m c') := (hB.cell (p := ⟨bl, k, none⟩) (by show bl < _; omega)).trans hc
        have q1 : (0 : Int) ≤ (k : Int) := by omega
        have q2 : (k : Int) < (n : Int) := by omega
        go_wp2_with fail
        go_loopw [6] (fun i wr' => ∃ j : Nat, 1 ≤ j ∧ (j ≤ m ∨ j = 1) ∧ i = .int .i64 j ∧ Below W1.heap.size W1 wr' ∧ ∀ i, i + 1 < j → ∀ x y, xs[i]? = some x → xs[i + 1]? = some y → x < y) (fun i _ => m - (intOf i).toNat)
        case atStart => exact ⟨1, Nat.le_refl _, .inr rfl, rfl, hB, fun j hj => by omega⟩
        case round =>
          clear hB hcw
          obtain ⟨j, hj1, hj, rfl, hB, hasc⟩ := hrel
          have HASC := hide hasc
          clear hasc
          have hcw : wr.cell? ⟨bl, k, none⟩ = some (.slice A m c') := (hB.cell (p := ⟨bl, k, none⟩) (by show bl < _; omega)).trans hc
          have hx' := hr.below hB
          by_cases hlt2 : j < m
          · obtain ⟨j, rfl⟩ : ∃ i, j = i + 1 := ⟨j - 1, by omega⟩
            obtain ⟨b, off, x, ha, hb, hxk, hc1⟩ := hx'.at1 (show j < m by omega)
            obtain ⟨b', off', y, hbb, hb', hyk, hc2'⟩ := hx'.at1 hlt2
            rw [ha] at hbb
            injection hbb with hbb
            injection hbb with e1 e2
            subst e1 e2
            rw [ha] at hcw
            have HXK := hide hxk
            have HYK := hide hyk
            have HA0 := hide ha
            clear hxk hyk ha
            have hw1 : IntKind.i64.wrap (((j + 1 : Nat) : Int) - 1) = (j : Int) := by rw [IntKind.wrap_i64]; omega
            have hw2 : IntKind.i64.wrap ((j : Int) + 1 - 1) = (j : Int) := by rw [IntKind.wrap_i64]; omega
            have hw3 : (j : Int) + 1 - 1 = (j : Int) := by omega
            have hc2 : wr.cell? ⟨b, off + (j + 1), none⟩ = some (.int .i64 y) := hc2'
            have p1 : (0 : Int) ≤ (j : Int) := by omega
            have p2 : (j : Int) < (m : Int) := by omega
            have p3 : (j : Int) + 1 < (m : Int) := by omega
            by_cases hxy : x < y
            · have hd : decide (y ≤ x) = false := by simp; omega
              go_wp2
              go_quiet (fail)
              go_wp2
              go_roundw
              case rel => exact ⟨j + 2, by omega, by omega, by go_num, below_drewN hB _, fun i hi a b' ha hb' => by
                by_cases e : i = j
                · subst e
                  rw [HXK.out] at ha; rw [HYK.out] at hb'
                  injection ha with ha; injection hb' with hb'; subst ha hb'; exact hxy
                · exact HASC.out i (by omega) a b' ha hb'⟩
              case measure => simp [intOf]; omega
            · have hd : decide (y ≤ x) = true := by simp; omega
              have hnasc : ascB xs = false := by
                rw [← Bool.not_eq_true, asc_iff]
                intro h
                have := h j x y HXK.out HYK.out; omega
              have HE := hide (fun q : Nat => (show RetV w (.int .i64 (errT g ls)) (.returned (.int .i64 1)) (wr.drewN q) from ⟨by
                have := all_miss (fun s : SL => ascB s.xs) ls k _ HSK.out hnasc
                simp [errT, this], bstep hB01 (below_drewN hB q)⟩))
              go_wp2
              go_quiet (fail)
              go_wp2
              go_ret
              exact HE.out _
          · have hasc : ascB xs = true := by
              rw [asc_iff]
              intro j2 x y hx1 hy1
              have := (List.getElem?_eq_some_iff.1 hy1).1
              rw [HL.out] at this
              exact HASC.out j2 (by omega) x y hx1 hy1
            have HN := hide (all_take (fun s : SL => ascB s.xs) ls k _ HSK.out hasc HALL.out)
            clear hasc hx'
            go_wp2
            go_roundw
            case rel => exact ⟨k + 1, by omega, by go_num, HN.out, hB⟩
            case measure => simp [intOf]; omega
      · obtain rfl : k = n := by omega
        have hall := HALL.out
        rw [take_all HLN.out] at hall
        have HAL := hide hall
        clear hall HALL
        go_wp2_with fail
        go_loopw [7, 8] (fun i _ wr => ∃ j : Nat, j ≤ k ∧ i = .int .i64 j ∧ (ls.take j).any (fun s => s.xs.any (outT g.n1)) = false ∧ Below W1.heap.size W1 wr) (fun i _ _ => k - (intOf i).toNat)
        case atStart => exact ⟨0, Nat.zero_le _, rfl, rfl, hB⟩
        case round =>
          clear hB
          obtain ⟨j, hj, rfl, hany, hB⟩ := hrel
          have HANY := hide hany
          clear hany
          by_cases hlt : j < k
          · obtain ⟨s, hs⟩ : ∃ s, ls[j]? = some s := ⟨_, List.getElem?_eq_getElem (by rw [HLN.out]; exact hlt)⟩
            obtain ⟨A, m, c', xs⟩ := s
            obtain ⟨hc, hr, hm⟩ := hls1 j _ hs
            have HSK := hide hs
            dsimp only at hc hr hm
            have HL := hide hr.len1
            clear hs
            have q1 : (0 : Int) ≤ (j : Int) := by omega
            have q2 : (j : Int) < (k : Int) := by omega
            go_wp2_with fail
            go_loopw [8] (fun i wr' => ∃ i' : Nat, i' ≤ m ∧ i = .int .i64 i' ∧ Below W1.heap.size W1 wr' ∧ (xs.take i').any (outT g.n1) = false) (fun i _ => m - (intOf i).toNat)
            case atStart => exact ⟨0, Nat.zero_le _, rfl, hB, rfl⟩
            case round =>
              clear hB
              obtain ⟨i, hi, rfl, hB, hout⟩ := hrel
              have HOUT := hide hout
              clear hout
              have hcw : wr.cell? ⟨bl, j, none⟩ = some (.slice A m c') := (hB.cell (p := ⟨bl, j, none⟩) (by show bl < _; omega)).trans hc
              have dw : wr.cell? ⟨w.heap.size, 0, none⟩ = some (.slice g.a1 g.n1 g.c1) := (hB.cell (p := ⟨w.heap.size, 0, none⟩) (by show w.heap.size < _; omega)).trans d0
              have hx' := hr.below hB
              by_cases hlt2 : i < m
              · obtain ⟨b, off, x, ha, hb, hxk, hc1⟩ := hx'.at1 hlt2
                rw [ha] at hcw
                have HXK := hide hxk
                have HA0 := hide ha
                clear hxk ha hx'
                have p1 : (0 : Int) ≤ (i : Int) := by omega
                have p2 : (i : Int) < (m : Int) := by omega
                have HE := hide (fun (h : outT g.n1 x = true) (q : Nat) => (show RetV w (.int .i64 (errT g ls)) (.returned (.int .i64 7)) (wr.drewN q) from ⟨by
                  have h2 := any_hit (fun s : SL => s.xs.any (outT g.n1)) ls j _ HSK.out (any_hit (outT g.n1) xs i x HXK.out h)
                  simp only [errT, HV.out, HAL.out, h2, Bool.and_self, if_true], bstep hB01 (below_drewN hB q)⟩))
                by_cases hx0 : x < 0
                · have HE2 := hide (HE.out (by simp [outT, hx0]))
                  have h1 : decide (x < 0) = true := by simpa using hx0
                  go_wp2
                  go_quiet (fail)
                  go_wp2
                  go_ret
                  exact HE2.out _
                · have h1 : decide (x < 0) = false := by simpa using hx0
                  by_cases hx2 : (g.n1 : Int) ≤ x
                  · have HE2 := hide (HE.out (by simp [outT, hx2]))
                    have h2 : decide ((g.n1 : Int) ≤ x) = true := by simpa using hx2
                    go_wp2
                    go_quiet (fail)
                    go_wp2
                    go_ret
                    exact HE2.out _
                  · have h2 : decide ((g.n1 : Int) ≤ x) = false := by simpa using hx2
                    have HN := hide (any_take' (outT g.n1) xs i x HXK.out (by simp [outT]; omega) HOUT.out)
                    clear HE
                    go_wp2
                    go_quiet (fail)
                    go_wp2
                    go_roundw
                    case rel => exact ⟨i + 1, by omega, by go_num, below_drewN hB _, HN.out⟩
                    case measure => simp [intOf]; omega
              · obtain rfl : i = m := by omega
                have hout := HOUT.out
                rw [take_all HL.out] at hout
                have HN := hide (any_take' (fun s : SL => s.xs.any (outT g.n1)) ls j _ HSK.out hout HANY.out)
                clear hout hx'
                go_wp2
                go_roundw
                case rel => exact ⟨j + 1, by omega, by go_num, HN.out, hB⟩
                case measure => simp [intOf]; omega
          · obtain rfl : j = k := by omega
            have hany := HANY.out
            rw [take_all HLN.out] at hany
            have HE := hide (show RetV w (.int .i64 (errT g ls)) (.returned (.int .i64 0)) wr from ⟨by simp only [errT, HV.out, HAL.out, hany, Bool.and_self, if_true, Bool.false_eq_true, if_false], bstep hB01 hB⟩)
            clear hany
            go_wp2
            go_ret
            exact HE.out
end Go.Proofs.Ytblepaocekojbaa
