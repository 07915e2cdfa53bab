/-
  The walk of pair.of: the text of a row's key. No condition.
-/
import Derived.Test.YtoapjidpfghnlaaGreatDoorPrA
namespace Go.Proofs.YtoapjidpfghnlaaGreatDoor
open Go.RowKit
attribute [local go_sem] Oper.semAt_some wide_fn wide_depth
set_option linter.unusedVariables false
set_option linter.unusedSimpArgs false

/-- The text of a key. -/
def ofS (xs : List Int) (r : Rw) : ByteArray := if nonul (pick r xs) then ⟨(keyC (pick r xs)).toArray⟩ else ⟨#[]⟩
theorem pick_app (r : Rw) (a b : List Int) : pick r (a ++ b) = pick r a ++ pick r b := by unfold pick; rw [List.filterMap_append]
theorem nonul_part {r : Rw} {xs : List Int} {k : Nat} (h : nonul (pick r (xs.take k)) = false) : nonul (pick r xs) = false := by
  rw [← List.take_append_drop k xs, pick_app]
  unfold nonul at *
  rw [List.all_append, h]
  rfl
theorem rowT_one' {v : Val} (h : okV v = true) : rowT [v] = valT v := by
  unfold rowT
  rw [if_pos (by unfold okR; simp [h])]
  simp [Lib.join_one]
set_option maxRecDepth 100000 in
set_option maxHeartbeats 4000000 in
theorem of_any (A' : Option Addr) (n' c' : Nat) (xs : List Int) (A : Option Addr) (n c : Nat) (r : Rw) (w : World) (hx : Reads w w.heap.size 1 A' n' (xs.map (Value.int .i64))) (hn' : n' ≤ 1000) (hr : RowK w w.heap.size A n r) (hnc : n ≤ c) (ho : okR r = true) (hh : hasC r xs = true) (ht : Tab w) :
    Calls Tryz.prog 66 #[.slice A' n' c', .slice A n c] w (RetV w (.tuple #[.string (ofS xs r), .bool (nonul (pick r xs))])) := by
  have HL := hide hx.len1
  have HLR := hide hr.len
  have hle := hr.le
  have HOK := hide ho
  have HH := hide hh
  have HAV := hide (okR_all ho)
  obtain ⟨T, hT⟩ : ∃ T, ofS xs r = T := ⟨_, rfl⟩
  obtain ⟨q, hq⟩ : ∃ q, nonul (pick r xs) = q := ⟨_, rfl⟩
  rw [hT, hq]
  have HT := hide hT
  have HQ := hide hq
  clear hT hq ho hh
  go_enter Tryz.func66, Tryz.ntmps66
  go_wp2_with fail
  go_loopw [6, 11] (fun o i wr => ∃ (k : Nat) (O : ByteArray), k ≤ n' ∧ i = .int .i64 k ∧ o = .string O ∧ O.data.toList = keyC (pick r (xs.take k)) ∧ nonul (pick r (xs.take k)) = true ∧ Below w.heap.size w wr) (fun _ i _ => n' - (intOf i).toNat)
  case atStart => exact ⟨0, _, Nat.zero_le _, rfl, rfl, rfl, rfl, Below.refl _ _⟩
  case round =>
    obtain ⟨k, O, hk, rfl, rfl, hO, hnn, hB⟩ := hrel
    have hOs : O.size ≤ 1000000 := by
      rw [← ba_list, hO]
      have h1 := keyC_len (pickC_okV HAV.out (xs.take k))
      have h2 := pickC_len r (xs.take k)
      rw [List.length_take] at h2
      have : 803 * (pick r (xs.take k)).length ≤ 803 * 1000 := Nat.mul_le_mul_left _ (by omega)
      omega
    have HO := hide hO
    have HNN := hide hnn
    clear hO hnn
    by_cases hlt : k < n'
    · obtain ⟨b, off, x, rfl, hb, hxk, c0⟩ := (hx.below hB).at1 hlt
      have hx0 := hasC_at HH.out hxk
      rw [HLR.out] at hx0
      obtain ⟨t, rfl⟩ : ∃ t : Nat, x = (t : Int) := ⟨x.toNat, by omega⟩
      have ht2 : t < n := by omega
      obtain ⟨b2, off2, v, hA, hb2, hvk, hcv⟩ := (hr.below hB).rd.elem encV_len HLR.out ht2
      have hov := List.all_eq_true.1 HAV.out v (List.mem_of_getElem? hvk)
      have HPT := hide (pickC_take HH.out hxk (show r[((t : Int)).toNat]? = some v by simpa using hvk))
      have hrd1 : Reads wr wr.heap.size 3 (some ⟨b2, off2 + t * 3, none⟩) 1 ([v].flatMap encV) := ⟨rfl, fun _ => ⟨b2, off2 + t * 3, rfl, hb2, fun j u hu => by
        have hu' : (encV v)[j]? = some u := by simpa using hu
        have := hcv j u hu'
        rw [← Nat.add_assoc] at this
        exact this⟩⟩
      have hTX := fun cc => Text_any (some ⟨b2, off2 + t * 3, none⟩) 1 cc [v] wr hrd1 (by omega) (ht.below hB)
      rw [rowT_one' hov] at hTX
      have HTX := hide hTX
      have d0 : wr.cell? ⟨b2, off2 + t * 3, none⟩ = some (.int .i64 v.k) := by simpa using hcv 0 _ rfl
      rw [hA]
      have q1 : (0 : Int) ≤ (k : Int) := by omega
      have q2 : (k : Int) < (n' : Int) := by omega
      have q3 : (0 : Int) ≤ (t : Int) := by omega
      have q4 : (t : Int) < (n : Int) := by omega
      have hvl := valT_len hov
      clear hxk hvk hcv hrd1 hA hTX hx0 hov
      by_cases hv0 : v.k = 0
      · have z : (v.k == 0) = true := by simpa using hv0
        have HZ := hide (show nonul (pick r xs) = false by
          refine nonul_part (k := k + 1) ?_
          rw [HPT.out, nonul_snoc, HNN.out]
          simp [hv0])
        have HTE := hide (show T = ⟨#[]⟩ by rw [← HT.out]; unfold ofS; rw [HZ.out]; rfl)
        have HQE := hide (show q = false by rw [← HQ.out]; exact HZ.out)
        clear hv0 hvl
        go_wp2
        go_ret2
        exact ⟨by rw [HTE.out, HQE.out] <;> rfl, hB⟩
      · have z : (v.k == 0) = false := by simpa using hv0
        have HNN2 := hide (show nonul (pick r (xs.take (k + 1))) = true by
          rw [HPT.out, nonul_snoc, HNN.out]
          simp [hv0])
        obtain ⟨S, hS⟩ : ∃ S, (⟨(valT v).toArray⟩ : ByteArray) = S := ⟨_, rfl⟩
        rw [hS] at HTX
        have hSs : S.size ≤ 802 := by rw [← hS]; exact hvl
        have HS := hide (show S.data.toList = valT v by rw [← hS])
        have HN2 := hide (show (O ++ (S ++ ⟨#[44]⟩)).data.toList = keyC (pick r (xs.take (k + 1))) by
          rw [HPT.out, keyC_snoc, ba_app, ba_app, HO.out, HS.out])
        clear hS hvl hv0
        go_wp2_with fail
        refine (HTX.out _).mono ?_
        rintro e W4 ⟨rfl, hB4⟩
        have hB5 := bstep hB hB4
        clear hB hB4 HTX c0 d0
        go_wp2
        go_roundw
        case rel => exact ⟨k + 1, _, by omega, by go_num, rfl, HN2.out, HNN2.out, hB5⟩
        case measure => simp [intOf]; omega
    · obtain rfl : k = n' := by omega
      have HB := hide (show nonul (pick r xs) = true by have := HNN.out; rwa [take_all HL.out] at this)
      have HTE := hide (show T = O by
        rw [← HT.out]
        unfold ofS
        rw [HB.out, if_pos rfl]
        exact ba_ext (by rw [HO.out, take_all HL.out]))
      have HQE := hide (show q = true by rw [← HQ.out]; exact HB.out)
      go_wp2
      go_ret2
      exact ⟨by rw [HTE.out, HQE.out] <;> rfl, hB⟩
end Go.Proofs.YtoapjidpfghnlaaGreatDoor
