/-
  The closures of bag.Upserts; slices.ContainsFunc over ints, whatever predicate.
-/
import Derived.Test.YtiioiajcoiaalaaGreatDoorUpM
import Derived.Test.YtiioiajcoiaalaaGreatDoorGat
namespace Go.Proofs.YtiioiajcoiaalaaGreatDoor
open Go.RowKit
attribute [local go_sem] Oper.semAt_some
set_option linter.unusedVariables false
set_option linter.unusedSimpArgs false

set_option maxRecDepth 100000 in
set_option maxHeartbeats 2000000 in
theorem idx_ints (A' : Option Addr) (n' c' B : Nat) (xs : List Int) (w : World) (hx : Reads w B 1 A' n' (xs.map (Value.int .i64))) (hn : n' ≤ 9223372036854775807) (hB : B ≤ w.heap.size) (pf : Nat) (caps : Array Value) (p : Int → Bool)
    (eg : ∀ args w, (callFunc pf args).run Tryz.prog w = .ok (.enter pf args) w)
    (hp : ∀ x ∈ xs, ∀ W, Below w.heap.size w W → Calls Tryz.prog pf (#[.int .i64 x] ++ caps) W (RetV W (.bool (p x)))) :
    Calls Tryz.prog 116 #[.slice A' n' c', .func (Fn.func pf) #[] caps] w fun e w' => (∃ i : Int, e = .returned (.int .i64 i) ∧ decide (0 ≤ i) = xs.any p) ∧ Below w.heap.size w w' := by
  have HL := hide hx.len1
  have HP := hide hp
  clear hp
  go_enter Tryz.func116, Tryz.ntmps116
  go_wp2_with fail
  go_loopw [8] (fun i wr => ∃ k : Nat, k ≤ n' ∧ i = .int .i64 k ∧ (xs.take k).any p = false ∧ Below w.heap.size w wr) (fun i _ => n' - (intOf i).toNat)
  case atStart => exact ⟨0, Nat.zero_le _, rfl, rfl, Below.refl _ _⟩
  case round =>
    obtain ⟨k, hk, rfl, hany, hBw⟩ := hrel
    have HA := hide hany
    clear hany
    by_cases hlt : k < n'
    · obtain ⟨b, off, x, rfl, hb, hxk, c0⟩ := (hx.below (hBw.mono hB)).at1 hlt
      have HE := hide hxk
      have HC := hide (HP.out x (List.mem_of_getElem? hxk) wr hBw)
      clear hxk
      have q1 : (0 : Int) ≤ (k : Int) := by omega
      have q2 : (k : Int) < (n' : Int) := by omega
      obtain ⟨b, hb⟩ : ∃ b, p x = b := ⟨_, rfl⟩
      rw [hb] at HC
      have HPX := hide hb
      clear hb
      go_wp2_with fail
      refine HC.out.mono ?_
      rintro ee w1 ⟨rfl, hB1⟩
      have hB2 := bstep hBw hB1
      clear HC hB1 hBw c0
      cases b
      · have HX := hide (show (xs.take (k + 1)).any p = false by rw [take_snoc' HE.out, List.any_append, HA.out]; simp [HPX.out])
        go_wp2
        go_roundw
        case rel => exact ⟨k + 1, by omega, by go_num, HX.out, hB2⟩
        case measure => simp [intOf]; omega
      · have HX := hide (show xs.any p = true from List.any_eq_true.2 ⟨x, List.mem_of_getElem? HE.out, HPX.out⟩)
        go_wp2
        go_ret
        exact ⟨⟨_, rfl, by rw [HX.out]; simp⟩, hB2⟩
    · obtain rfl : k = n' := by omega
      go_wp2
      go_ret
      exact ⟨⟨_, rfl, by
        have := HA.out
        rw [take_all HL.out] at this
        rw [this]; rfl⟩, hBw⟩
theorem con_ints (A' : Option Addr) (n' c' B : Nat) (xs : List Int) (w : World) (hx : Reads w B 1 A' n' (xs.map (Value.int .i64))) (hn : n' ≤ 9223372036854775807) (hB : B ≤ w.heap.size) (pf : Nat) (caps : Array Value) (p : Int → Bool)
    (eg : ∀ args w, (callFunc pf args).run Tryz.prog w = .ok (.enter pf args) w)
    (hp : ∀ x ∈ xs, ∀ W, Below w.heap.size w W → Calls Tryz.prog pf (#[.int .i64 x] ++ caps) W (RetV W (.bool (p x)))) :
    Calls Tryz.prog 70 #[.slice A' n' c', .func (Fn.func pf) #[] caps] w (RetV w (.bool (xs.any p))) := by
  have HI := hide (idx_ints A' n' c' B xs w hx hn hB pf caps p eg hp)
  clear hp
  go_enter Tryz.func70, Tryz.ntmps70
  go_wp2_with (go_at_call 116; refine HI.out.mono ?_; rintro e w' ⟨⟨i, rfl, hi⟩, hB1⟩)
  go_ret
  exact ⟨rfl, hB1⟩
theorem up1_any (x : Int) (w : World) : Calls Tryz.prog 71 #[.int .i64 x] w (RetV w (.bool (!btw x 0 7))) := by
  obtain ⟨b, hb⟩ : ∃ b, btw x 0 7 = b := ⟨_, rfl⟩
  have HB := hide (hb ▸ bwithin_any x 0 7 w)
  rw [hb]
  clear hb
  go_enter Tryz.func71, Tryz.ntmps71
  go_wp2_with fail
  refine HB.out.mono ?_
  rintro e w' ⟨rfl, rfl⟩
  go_wp2
  go_ret
  exact ⟨rfl, Below.refl _ _⟩
/-- What the closure `of` tells of a row. -/
def ofT (key : List Int) (r : Rw) : ByteArray := if hasB r key then ⟨(keyT key r).toArray⟩ else ⟨#[]⟩
set_option maxRecDepth 100000 in
set_option maxHeartbeats 4000000 in
theorem up2_any (A : Option Addr) (n c : Nat) (r : Rw) (Bk : Nat) (A' : Option Addr) (n' c' : Nat) (key : List Int) (B : Nat) (w : World) (hr : RowK w B A n r) (hnc : n ≤ c) (ho : okR r = true) (hk : Boxed w Bk 38 (.slice A' n' c')) (hkr : Reads w w.heap.size 1 A' n' (key.map (Value.int .i64))) (hn' : n' ≤ 1000) (hpos : ∀ x ∈ key, 0 ≤ x) (ht : Tab w) :
    Calls Tryz.prog 72 #[.slice A n c, .pointer (some ⟨Bk, 0, none⟩)] w fun e w' => e = .returned (.tuple #[.string (ofT key r), .bool (hasB r key)]) ∧ Below w.heap.size w w' := by
  have HL := hide hkr.len1
  have HLR := hide hr.len
  have hle := hr.le
  have kk := hk.cell
  obtain ⟨T, hT⟩ : ∃ T, ofT key r = T := ⟨_, rfl⟩
  obtain ⟨h, hh⟩ : ∃ h, hasB r key = h := ⟨_, rfl⟩
  rw [hT, hh]
  have HT := hide hT
  have HH := hide hh
  have HPOS := hide hpos
  clear hT hh hpos
  go_enter Tryz.func72, Tryz.ntmps72
  go_wp2_with fail
  go_loopw [5, 10] (fun o i wr => ∃ (k : Nat) (O : ByteArray), k ≤ n' ∧ i = .int .i64 k ∧ o = .string O ∧ O.data.toList = keyT (key.take k) r ∧ hasB r (key.take k) = true ∧ Below w.heap.size w wr) (fun _ i _ => n' - (intOf i).toNat)
  case atStart => exact ⟨0, _, Nat.zero_le _, rfl, rfl, rfl, rfl, Below.refl _ _⟩
  case round =>
    clear kk
    obtain ⟨k, O, hk, rfl, rfl, hO, hhas, hB⟩ := hrel
    have hOs : O.size ≤ 1000000 := by
      rw [← ba_list, hO]
      have := keyT_len ho (key.take k)
      rw [List.length_take] at this
      omega
    have HO := hide hO
    have HHAS := hide hhas
    clear hO hhas
    by_cases hlt : k < n'
    · obtain ⟨b, off, x, rfl, hb, hxk, c0⟩ := (hkr.below hB).at1 hlt
      have hx0 := HPOS.out x (List.mem_of_getElem? hxk)
      obtain ⟨t, rfl⟩ : ∃ t : Nat, x = (t : Int) := ⟨x.toNat, by omega⟩
      have HXK := hide hxk
      have q1 : (0 : Int) ≤ (k : Int) := by omega
      have q2 : (k : Int) < (n' : Int) := by omega
      by_cases ht2 : t < n
      · have z : decide ((n : Int) ≤ (t : Int)) = false := by simp; omega
        obtain ⟨b2, off2, v, hA, hb2, hvk, hcv⟩ := (hr.below hB).rd.elem encV_len HLR.out ht2
        obtain ⟨v1, v2⟩ := okR_one ho (List.mem_of_getElem? hvk)
        have HN := hide (keyT_snoc (key.take k) (t : Int) r v (by simpa using hvk))
        have hvl := rowT_one_len v1 v2
        have HH2 := hide (show hasB r (key.take (k + 1)) = true by
          have h1 := HHAS.out
          unfold hasB at h1 ⊢
          rw [take_snoc' HXK.out, List.all_append, h1]
          simp only [List.all_cons, List.all_nil, Bool.and_true, Bool.true_and, decide_eq_true_eq]
          have := HLR.out
          omega)
        rw [hA]
        have hrd1 : Reads wr wr.heap.size 3 (some ⟨b2, off2 + t * 3, none⟩) 1 ([v].flatMap encV) := ⟨rfl, fun _ => ⟨b2, off2 + t * 3, rfl, hb2, fun j u hu => by
          have hu' : (encV v)[j]? = some u := by simpa using hu
          have := hcv j u hu'
          rw [← Nat.add_assoc] at this
          exact this⟩⟩
        have HTX := hide (fun cc => Text_any (some ⟨b2, off2 + t * 3, none⟩) 1 cc [v] wr hrd1 (by omega) (ht.below hB))
        have q3 : (0 : Int) ≤ (t : Int) := by omega
        have q4 : (t : Int) < (n : Int) := by omega
        obtain ⟨S, hS⟩ : ∃ S, (⟨(rowT [v]).toArray⟩ : ByteArray) = S := ⟨_, rfl⟩
        rw [hS] at HTX
        have hSs : S.size ≤ 802 := by rw [← hS]; exact hvl
        have HS := hide (show S.data.toList = rowT [v] by rw [← hS])
        have HA := hide hA
        clear hxk hvk hcv hrd1 hA hS hvl
        have HN2 := hide (show (O ++ (S ++ ⟨#[44]⟩)).data.toList = keyT (key.take (k + 1)) r by
          rw [take_snoc' HXK.out, HN.out, ba_app, ba_app, HO.out, HS.out, List.append_assoc])
        clear HN
        go_wp2_with fail
        refine (HTX.out _).mono ?_
        rintro e W4 ⟨rfl, hB4⟩
        have hB5 := bstep hB hB4
        clear hB hB4 HTX c0
        go_wp2
        go_roundw
        case rel => exact ⟨k + 1, _, by omega, by go_num, rfl, HN2.out, HH2.out, hB5⟩
        case measure => simp [intOf]; omega
      · have z : decide ((n : Int) ≤ (t : Int)) = true := by simp; omega
        have HB := hide (show hasB r key = false by
          unfold hasB
          rw [List.all_eq_false]
          exact ⟨(t : Int), List.mem_of_getElem? HXK.out, by simp only [decide_eq_true_eq]; have := HLR.out; omega⟩)
        have HTE := hide (show T = ⟨#[]⟩ by rw [← HT.out]; unfold ofT; rw [HB.out]; rfl)
        have HHE := hide (show h = false by rw [← HH.out]; exact HB.out)
        clear hxk
        go_wp2
        go_ret2
        exact ⟨by rw [HTE.out, HHE.out] <;> rfl, hB⟩
    · obtain rfl : k = n' := by omega
      have HB := hide (show hasB r key = true by have := HHAS.out; rwa [take_all HL.out] at this)
      have HTE := hide (show T = O by
        rw [← HT.out]
        unfold ofT
        rw [HB.out, if_pos rfl]
        exact ba_ext (by rw [HO.out, take_all HL.out]))
      have HHE := hide (show h = true by rw [← HH.out]; exact HB.out)
      go_wp2
      go_ret2
      exact ⟨by rw [HTE.out, HHE.out] <;> rfl, hB⟩
set_option maxRecDepth 100000 in
set_option maxHeartbeats 2000000 in
/-- The closure that Upserts hands to slices.DeleteFunc. -/
theorem up3_any (x : It) (Bo Bs Bk : Nat) (A' : Option Addr) (n' c' : Nat) (key : List Int) (T : ByteArray) (B : Nat) (w : World) (hr : RowK w B x.A x.n x.r) (hnc : x.n ≤ x.c) (ho : okR x.r = true) (hk : Boxed w Bk 38 (.slice A' n' c')) (hkr : Reads w w.heap.size 1 A' n' (key.map (Value.int .i64))) (hn' : n' ≤ 1000) (hpos : ∀ x ∈ key, 0 ≤ x)
    (hf : Boxed w Bo 91 (.func (Fn.func 72) #[] #[.pointer (some ⟨Bk, 0, none⟩)])) (hs : Boxed w Bs 9 (.string T)) (ht : Tab w) :
    Calls Tryz.prog 75 #[.agg #[.slice x.A x.n x.c, .int .i64 x.m], .pointer (some ⟨Bo, 0, none⟩), .pointer (some ⟨Bs, 0, none⟩)] w (RetV w (.bool (decide (ofT key x.r = T)))) := by
  have hB0 := below_val (w := w) #[.slice x.A x.n x.c, .int .i64 x.m] 62
  have b0 := Blk.new w 62 #[.slice x.A x.n x.c, .int .i64 x.m]
  have k0 := hk.alloc (.cells #[.slice x.A x.n x.c, .int .i64 x.m] 62)
  have f0 := (hf.alloc (.cells #[.slice x.A x.n x.c, .int .i64 x.m] 62)).cell
  have s0 := hs.alloc (.cells #[.slice x.A x.n x.c, .int .i64 x.m] 62)
  have HC := hide (up2_any x.A x.n x.c x.r Bk A' n' c' key B _ (hr.below hB0) hnc ho k0 (hkr.up hB0) hn' hpos (ht.below hB0))
  obtain ⟨D, hD⟩ : ∃ D, ofT key x.r = D := ⟨_, rfl⟩
  obtain ⟨h, hh⟩ : ∃ h, hasB x.r key = h := ⟨_, rfl⟩
  rw [hD, hh] at HC
  rw [hD]
  have e0 := b0.cell 0
  simp only [List.getElem?_toArray, List.getElem?_cons_zero] at e0
  clear hD hh hr hk hkr hf hs ht b0 k0
  go_enter Tryz.func75, Tryz.ntmps75
  go_wp2_with fail
  refine HC.out.mono ?_
  rintro e W1 ⟨rfl, hB1⟩
  have s1 : Boxed W1 Bs 9 (.string T) := (hB1.block _ s0.lt).trans s0
  have ks := s1.cell
  have hB := bstep hB0 hB1
  have heq := str_eq0 D T
  clear hB0 hB1 s0 s1 HC f0 e0
  go_wp2_with fail
  go_ret
  first
    | exact ⟨ret_bool heq, hB⟩
    | exact ⟨rfl, hB⟩
end Go.Proofs.YtiioiajcoiaalaaGreatDoor
