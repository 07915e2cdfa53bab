/-
  The walks of share.Load and share.Least.
-/
import Derived.Test.YthngjbhamgmcgaaDoorLdB
namespace Go.Proofs.YthngjbhamgmcgaaDoor
open Go.RowKit Go.Shelf Go.Deep
attribute [local go_sem] Oper.semAt_some
set_option linter.unusedVariables false
set_option linter.unusedSimpArgs false

/-- The first p cells of a block as a slice of numbers. -/
theorem rd_nums {w : World} {b p N : Nat} {cs : Array Value} {g : Nat → Nat} {t : TypeId} (hb : w.heap[b]? = some (.cells cs t (0, 0))) (hget : ∀ j, j < N → cs[j]? = some (.int .i64 ((g j : Nat) : Int))) (hp : p ≤ N) :
    Reads w w.heap.size 1 (some ⟨b, 0, none⟩) p ((numsL g p).map (Value.int .i64)) := by
  refine ⟨by simp [numsL], fun _ => ⟨b, 0, rfl, Blk.lt hb, fun j u hu => ?_⟩⟩
  rw [Nat.zero_add, Blk.cell hb]
  rw [List.getElem?_map] at hu
  cases hx : (numsL g p)[j]? with
  | none => rw [hx] at hu; cases hu
  | some x =>
    rw [hx] at hu
    injection hu with hu
    have h1 := numsL_at hx
    have h2 := (List.getElem?_eq_some_iff.1 hx).1
    rw [numsL_len] at h2
    rw [hget j (by omega), ← hu, h1]
theorem z16_size : (#[.int .i64 0, .int .i64 0, .int .i64 0, .int .i64 0, .int .i64 0, .int .i64 0, .int .i64 0, .int .i64 0, .int .i64 0, .int .i64 0, .int .i64 0, .int .i64 0, .int .i64 0, .int .i64 0, .int .i64 0, .int .i64 0] : Array Value).size = 16 := rfl
theorem lodL_vals (p G : Int) (xs : List ByteArray) (h : rightB p G = true) : (lodL p G xs).map (fun j => Value.int .i64 ((j : Nat) : Int)) = (numsL (ldN (ofN p G) xs) p.toNat).map (Value.int .i64) := by
  unfold lodL numsL
  rw [if_pos h, List.map_map, List.map_map]
  rfl
theorem len16 : Tryd.prog.arrayLen 49 = 16 := by kernel_rfl
theorem elem16 : Tryd.prog.elem 49 = 3 := by kernel_rfl
theorem und16 : Tryd.prog.underlying 49 = some (.array (Tryd.prog.arrayLen 49) (Tryd.prog.elem 49)) := by kernel_rfl
theorem slice16 (b P : Nat) (hP : P ≤ 16) (W : World) : (Instr.sliceAt 49 (.pointer (some ⟨b, 0, none⟩)) none (some (.int .i64 (P : Int))) none).run Tryd.prog W = .ok (.slice (some ⟨b, 0, none⟩) P 16) W := by
  rw [run_sliceAt_array_h W 49 ⟨b, 0, none⟩ und16 .i64 (P : Int) (by omega) (by rw [len16]; omega), elem16, len16]
  simp [Tryd.sizeOf3, slicedAt, Addr.add]
theorem slice16a (b : Nat) (W : World) : (Instr.sliceAt 49 (.pointer (some ⟨b, 0, none⟩)) none none none).run Tryd.prog W = .ok (.slice (some ⟨b, 0, none⟩) 16 16) W := by
  rw [run_sliceAt_array_all W 49 ⟨b, 0, none⟩ und16, elem16, len16]
  simp [Tryd.sizeOf3, slicedAt, Addr.add]
set_option maxRecDepth 100000 in
set_option maxHeartbeats 4000000 in
theorem Load_any (A : Option Addr) (n c : Nat) (xs : List ByteArray) (p G : Int) (w : World) (hx : Reads w w.heap.size 1 A n (xs.map Value.string)) (hk : Kok xs) :
    Calls Tryd.prog 8 #[.slice A n c, .int .i64 p, .int .i64 G] w (RetSlE w 1 (lodL p G xs).length ((lodL p G xs).map fun j => Value.int .i64 ((j : Nat) : Int)) (lodE p G)) := by
  have HK := hide (keyed_any A n c _ xs w hx hk)
  have HN := hide (right_any p G w)
  cases hr : rightB p G
  · have HE := hide (show lodE p G = 7 by unfold lodE; rw [hr]; rfl)
    have HR := hide (show lodL p G xs = [] by unfold lodL; rw [hr]; rfl)
    rw [hr] at HN
    clear hr hx
    go_enter Tryd.func8, Tryd.ntmps8
    go_wp2_with fail
    refine HK.out.mono ?_
    rintro e w' ⟨rfl, rfl⟩
    go_wp2_with fail
    refine HN.out.mono ?_
    rintro e w' ⟨rfl, rfl⟩
    go_wp2_with fail
    go_ret2
    rw [HE.out, HR.out]
    exact ⟨none, 0, rfl, Reads.none_, Below.refl _ _⟩
  · have HE := hide (show lodE p G = 0 by unfold lodE; rw [if_pos hr])
    have HV := hide (lodL_vals p G xs hr)
    have HLL := hide (show (lodL p G xs).length = p.toNat by unfold lodL; rw [if_pos hr]; simp)
    have HLD := hide (loads_any A n c xs p G w hx hk hr)
    have hp := (rightB_iff p G).1 hr
    rw [hr] at HN
    clear hr hx hk
    obtain ⟨P, rfl⟩ : ∃ P : Nat, p = (P : Int) := ⟨p.toNat, by omega⟩
    have hP1 : 1 ≤ P := by omega
    have hP16 : P ≤ 16 := by omega
    clear hp
    go_enter Tryd.func8, Tryd.ntmps8
    go_wp2_with fail
    refine HK.out.mono ?_
    rintro e w' ⟨rfl, rfl⟩
    go_wp2_with fail
    refine HN.out.mono ?_
    rintro e w' ⟨rfl, rfl⟩
    clear HK HN
    go_wp2_with fail
    refine HLD.out.mono ?_
    rintro e W1 ⟨cs, rfl, hsz, hget, hB1⟩
    clear HLD
    have hi : (Tryd.prog.info? 49).map (·.size) = some cs.size := by rw [hsz]; kernel_rfl
    have hone := one16 hsz hget
    have hrs := Blk.new W1 49 #[.int .i64 0, .int .i64 0, .int .i64 0, .int .i64 0, .int .i64 0, .int .i64 0, .int .i64 0, .int .i64 0, .int .i64 0, .int .i64 0, .int .i64 0, .int .i64 0, .int .i64 0, .int .i64 0, .int .i64 0, .int .i64 0]
    have hB2 := hB1.alloc hB1.size (.cells #[.int .i64 0, .int .i64 0, .int .i64 0, .int .i64 0, .int .i64 0, .int .i64 0, .int .i64 0, .int .i64 0, .int .i64 0, .int .i64 0, .int .i64 0, .int .i64 0, .int .i64 0, .int .i64 0, .int .i64 0, .int .i64 0] 49)
    have hst := run_storeVar_row (P := Tryd.prog) _ W1.heap.size 49 49 _ cs hrs hi (by rw [hsz]; rfl) hone
    have hrow := setRow_heap _ W1.heap.size _ cs _ _ hrs
    have hBe := below_setRow hB2 hB1.size cs
    have hrd := rd_nums (p := P) hrow hget hP16
    have hsl := fun W => slice16 W1.heap.size P hP16 W
    go_wp2_with (refine wpList_store_row rfl 49 _ _ rfl W1.heap.size cs rfl rfl 49 _ hrs hi (by rw [hsz]; rfl) hone ?_)
    refine (Clone_ints _ P 16 0 (numsL (ldN (ofN (P : Int) G) xs) P) _ hrd (by omega)).mono ?_
    rintro e W3 ⟨A3, c3, rfl, hR, hB3⟩
    have HB := hide (bstep hBe hB3)
    have HRR := hide hR
    clear hR hB3 hBe hrd hrow hst hrs hB1 hB2 hsl hget hone hi
    go_wp2_with fail
    go_ret2
    rw [HE.out, HV.out, HLL.out]
    exact ⟨A3, c3, rfl, HRR.out, HB.out⟩
end Go.Proofs.YthngjbhamgmcgaaDoor
