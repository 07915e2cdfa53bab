/-
  The walk of Few: whatever it answers, bags that are few have at most 60 items.
-/
import Derived.Test.YtiioiajcoiaalaaGreatDoorBgF
namespace Go.Proofs.YtiioiajcoiaalaaGreatDoor
open Go.RowKit
attribute [local go_sem] Oper.semAt_some

structure Bn where
  A : Option Addr
  n : Nat
  c : Nat
  l : List It
def RetFew (w : World) (bs : List Bn) (e : Ending) (w' : World) : Prop := ∃ b : Bool, e = .returned (.bool b) ∧ (b = true → ∀ x ∈ bs, x.n ≤ 60) ∧ Below w.heap.size w w'
set_option maxRecDepth 100000 in
set_option maxHeartbeats 4000000 in
theorem Few_any (bs : List Bn) (m a : Nat) (w : World) (hl : bs.length = m) (hm : m ≤ 100) (hb : ∀ i x, bs[i]? = some x → w.cell? ⟨a, i, none⟩ = some (.slice x.A x.n x.c) ∧ BagR w w.heap.size x.A x.n x.l) :
    Calls Tryz.prog 9 #[.slice (some ⟨a, 0, none⟩) m m] w (RetFew w bs) := by
  have HB := hide hb
  have HL := hide hl
  clear hb hl
  go_enter Tryz.func9, Tryz.ntmps9
  go_wp2_with fail
  go_loopw [3] (fun i wr => ∃ k : Nat, k ≤ m ∧ i = .int .i64 k ∧ (∀ x ∈ bs.take k, x.n ≤ 60) ∧ Below w.heap.size w wr) (fun i _ => m - (intOf i).toNat)
  case atStart => exact ⟨0, Nat.zero_le _, rfl, by simp, Below.refl _ _⟩
  case round =>
    obtain ⟨k, hk, rfl, hsm, hB⟩ := hrel
    have HS := hide hsm
    clear hsm
    by_cases hlt : k < m
    · obtain ⟨x, hx⟩ : ∃ x, bs[k]? = some x := ⟨_, List.getElem?_eq_getElem (by rw [HL.out]; exact hlt)⟩
      obtain ⟨hc, hbag⟩ := HB.out k x hx
      have HX := hide hx
      have hal := World.block_lt_of_cell? w _ hc
      simp only at hal
      have hle := hbag.le
      have q1 : (0 : Int) ≤ (k : Int) := by omega
      have q2 : (k : Int) < (m : Int) := by omega
      clear hx
      have c0 := (hB.cell (p := ⟨a, k, none⟩) hal).trans hc
      go_wp2_with fail
      clear c0
      go_loopw [4] (fun i wr' => ∃ j : Nat, j ≤ x.n ∧ i = .int .i64 j ∧ Below w.heap.size w wr') (fun i _ => x.n - (intOf i).toNat)
      case atStart => exact ⟨0, Nat.zero_le _, rfl, hB⟩
      case round =>
        clear hB
        obtain ⟨j, hj, rfl, hB⟩ := hrel
        have c0 := (hB.cell (p := ⟨a, k, none⟩) hal).trans hc
        by_cases hlt2 : j < x.n
        · obtain ⟨b, off, y, hA, hb', hyj, d0, d1, hrow⟩ := (hbag.below hB).at_ hlt2
          have q3 : (0 : Int) ≤ (j : Int) := by omega
          have q4 : (j : Int) < (x.n : Int) := by omega
          have hB1 := below_val (w := wr) #[.slice y.A y.n y.c] 43
          have hrow1 := hrow.below hB1
          have nb := (Blk.new wr 43 #[.slice y.A y.n y.c]).cell 0
          have hB2 := hB.trans (hB1.mono hB.size)
          rw [hA] at c0
          clear d1 hyj hrow
          go_wp2_with fail
          refine (Long_one y.A y.n y.c y.r wr.heap.size _ hrow1.rd hrow1.le nb).mono ?_
          rintro e W2 ⟨bb, rfl, hB3⟩
          have HE := hide (hB2.trans (hB3.mono hB2.size))
          clear hB3 hB2 hB1 nb hrow1 c0 d0 hB
          cases bb
          · go_wp2
            go_roundw
            case rel => exact ⟨j + 1, by omega, by go_num, HE.out⟩
            case measure => simp [intOf]; omega
          · go_wp2
            go_ret
            exact ⟨false, rfl, by simp, HE.out⟩
        · obtain rfl : j = x.n := by omega
          by_cases h60 : 60 < x.n
          · go_wp2
            go_ret
            exact ⟨false, rfl, by simp, hB⟩
          · have HS2 := hide (show ∀ y ∈ bs.take (k + 1), y.n ≤ 60 from fun y hy => by
              rw [take_snoc' HX.out] at hy
              rcases List.mem_append.1 hy with hy | hy
              · exact HS.out y hy
              · obtain rfl : y = x := by simpa using hy
                omega)
            go_wp2
            go_roundw
            case rel => exact ⟨k + 1, by omega, by go_num, HS2.out, hB⟩
            case measure => simp [intOf]; omega
    · obtain rfl : k = m := by omega
      have HS2 := hide (show ∀ y ∈ bs, y.n ≤ 60 from by have h := HS.out; rwa [take_all HL.out] at h)
      go_wp2
      go_ret
      exact ⟨true, rfl, fun _ => HS2.out, hB⟩
end Go.Proofs.YtiioiajcoiaalaaGreatDoor
