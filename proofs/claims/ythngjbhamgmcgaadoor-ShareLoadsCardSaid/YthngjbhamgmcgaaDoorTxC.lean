/-
  The walks of Text on both sides.
-/
import Derived.Test.YthngjbhamgmcgaaDoorTxB
import Derived.Test.YthngjbhamgmcgaaDoorApp
namespace Go.Proofs.YthngjbhamgmcgaaDoor
open Go.RowKit Go.Proofs
attribute [local go_sem] Oper.semAt_some
set_option linter.unusedVariables false
set_option linter.unusedSimpArgs false

theorem infoS : (Tryd.prog.info? 9).map (fun i => (i.zero, i.size, i.bytes)) = some (some (.string .empty), 1, 16) := by kernel_rfl
/-- A value's text as a string. -/
def valS (v : Val) : ByteArray := ⟨(valT v).toArray⟩
theorem valS_list (v : Val) : (valS v).data.toList = valT v := rfl
theorem valS_size (v : Val) : (valS v).size = (valT v).length := rfl
theorem rd_one (X : World) (a : Value) (t : TypeId) : Reads (X.alloc (.cells #[a] t)) (X.heap.size + 1) 1 (some ⟨X.heap.size, 0, none⟩) 1 [a] :=
  ⟨rfl, fun _ => ⟨X.heap.size, 0, rfl, by omega, fun j u hu => by rw [Nat.zero_add]; exact ((Blk.new X t #[a]).cell j).trans (by simpa using hu)⟩⟩
theorem own_cap {w : World} {base : Nat} {e : TypeId} {size n c : Nat} {A : Option Addr} {xs : List Value} (h : w.ownsRow base e size (.slice A n c) n xs) : n ≤ c := by
  rcases h.2 with ⟨h1, _⟩ | ⟨g, cap, cur, h1, _, _, h4, _⟩
  · injection h1 with _ h2 h3
    omega
  · injection h1 with _ _ h3
    subst h3
    exact h4
set_option maxRecDepth 100000 in
set_option maxHeartbeats 4000000 in
theorem Text_any (A : Option Addr) (n c : Nat) (r : Rw) (w : World) (hr : Reads w w.heap.size 3 A n (r.flatMap encV)) (hn : n ≤ 9223372036854775807) (ht : Tab w) :
    Calls Tryd.prog 16 #[.slice A n c] w (RetV w (.string ⟨(rowT r).toArray⟩)) := by
  have HL := hide (hr.len encV_len (by omega))
  have HV := hide (RowValid_any A n c _ r w hr (Nat.le_refl _) hn)
  obtain ⟨i0, hi, hz0, hz1, hz2⟩ := info_parts infoS
  cases hok : okR r
  · have HR := hide (show rowT r = [] by unfold rowT; rw [hok]; simp)
    rw [hok] at HV
    clear hok
    go_enter Tryd.func16, Tryd.ntmps16
    go_wp2_with fail
    refine HV.out.mono ?_
    rintro e W1 ⟨rfl, hB1⟩
    go_wp2_with fail
    go_ret
    exact ⟨by rw [HR.out]; rfl, hB1⟩
  · have HR := hide (show rowT r = Lib.join (r.map valT) [44] by unfold rowT; rw [if_pos hok])
    have HM := hide (fun v (hv : v ∈ r) => okR_mem hok hv)
    have HP := hide (part_len hok r.length)
    have hn8 : n ≤ 8 := by rw [← HL.out]; exact okR_len hok
    rw [hok] at HV
    clear hok
    go_enter Tryd.func16, Tryd.ntmps16
    go_wp2_with fail
    refine HV.out.mono ?_
    rintro e W1 ⟨rfl, hB1⟩
    clear HV
    go_wp2_with fail
    have ow0 : W1.ownsRow W1.heap.size 9 1 (.slice none 0 0) 0 [] := World.ownsRow_nil _ _ _ _
    go_loopw [3, 5, 11] (fun v _ i wr => ∃ k : Nat, k ≤ n ∧ i = .int .i64 k ∧ wr.ownsRow W1.heap.size 9 1 v k ((r.take k).map fun x => Value.string (valS x)) ∧ Below W1.heap.size W1 wr) (fun _ _ i _ => n - (intOf i).toNat)
    case atStart => exact ⟨0, Nat.zero_le _, rfl, ow0, Below.refl _ _⟩
    case round =>
      clear ow0
      obtain ⟨k, hk, rfl, hown, hBr⟩ := hrel
      have hB := bstep hB1 hBr
      by_cases hlt : k < n
      · obtain ⟨b, off, x, hA, hb, hxk, hcx⟩ := (hr.below hB).elem encV_len HL.out hlt
        have HS := hide (show (r.take (k + 1)).map (fun x => Value.string (valS x)) = (r.take k).map (fun x => Value.string (valS x)) ++ [.string (valS x)] by rw [take_snoc' hxk, List.map_append]; rfl)
        have hok := HM.out x (List.mem_of_getElem? hxk)
        have e0 : wr.cell? ⟨b, off + k * 3, none⟩ = some (.int .i64 x.k) := by simpa using hcx 0 _ rfl
        have e1 : wr.cell? ⟨b, off + k * 3 + 1, none⟩ = some (.int .i64 x.n) := by simpa [← Nat.add_assoc] using hcx 1 _ rfl
        have e2 : wr.cell? ⟨b, off + k * 3 + 2, none⟩ = some (.string x.s) := by simpa [← Nat.add_assoc] using hcx 2 _ rfl
        clear hcx hxk
        rw [hA]
        have HA := hide hA
        clear hA
        have q1 : (0 : Int) ≤ (k : Int) := by omega
        have q2 : (k : Int) < (n : Int) := by omega
        have kP := Blk.new wr 29 #[.int .i64 x.k, .int .i64 x.n, .string x.s]
        have hownA := hown.alloc (.cells #[.int .i64 x.k, .int .i64 x.n, .string x.s] 29)
        have hBA := hBr.alloc hBr.size (.cells #[.int .i64 x.k, .int .i64 x.n, .string x.s] 29)
        go_upto_region 7 with fail
        obtain ⟨W3, hW3⟩ : ∃ W3, wr.alloc (.cells #[.int .i64 x.k, .int .i64 x.n, .string x.s] 29) = W3 := ⟨_, rfl⟩
        obtain ⟨bP, hbP⟩ : ∃ bP, wr.heap.size = bP := ⟨_, rfl⟩
        rw [hW3] at kP hownA hBA ⊢
        rw [hbP] at kP ⊢
        clear hW3 hbP hown hBr e0 e1 e2
        have p0 := kP.cell 0
        have p1 := kP.cell 1
        have p2 := kP.cell 2
        simp at p0 p1 p2
        obtain ⟨PL, hPL⟩ : ∃ PL, (r.take k).map (fun x => Value.string (valS x)) = PL := ⟨_, rfl⟩
        have HPL := hide hPL
        rw [hPL] at hownA
        clear hPL
        have hB3 := bstep hB1 hBA
        have ht3 : Tab W3 := ht.below hB3
        by_cases h1 : x.k = 1
        · have z1 : (x.k == 1) = true := by simp [h1]
          have hT : valS x = ⟨(Lib.itoa x.n).toArray⟩ := by unfold valS valT; rw [if_pos h1]
          rcases okV_cases hok with ⟨h, _⟩ | ⟨_, _, hn1, hn2⟩ | ⟨h, _⟩
          · omega
          · have HC := hide (itoa_any x.n (by omega) (by omega) W3 ht3)
            rw [← hT] at HC
            clear hT h1
            go_wp2_with fail
            refine HC.out.mono ?_
            rintro e W4 ⟨rfl, hB4⟩
            have vA := own_below hownA hB4
            have bA := bstep hBA hB4
            clear hownA hBA hB4 HC p0 p1 p2 kP
            have vA2 := vA.alloc (.cells #[.string (valS x)] 9)
            have bA2 := bA.alloc bA.size (.cells #[.string (valS x)] 9)
            have xs : W1.heap.size ≤ (W4.alloc (.cells #[.string (valS x)] 9)).heap.size := bA2.size
            go_wp2_with (at_builtin; refine wpList_append_any _ rfl _ _ 25 rfl W1.heap.size 9 i0 _ 1 16 Tryd.underlying25 hi hz0 hz1 hz2 rfl (by decide) _ k PL rfl vA2 (W4.heap.size + 1) (some ⟨W4.heap.size, 0, none⟩) 1 1 [.string (valS x)] rfl (rd_one W4 _ _) (by simp [Value.oneCell']) (by unfold maxLen; omega) (by omega) xs ?_; intro v3 w3 hown3 hgrow hat)
            have hBe : Below W1.heap.size W1 w3 := below_append bA2 vA2 xs hgrow
            have HO := hide (show w3.ownsRow W1.heap.size 9 1 v3 (k + 1) ((r.take (k + 1)).map fun x => Value.string (valS x)) by rw [HS.out, HPL.out]; exact hown3)
            clear hown3 hgrow hat bA vA bA2 vA2
            go_wp2_with fail
            go_roundw
            case rel => exact ⟨k + 1, by omega, by go_num, HO.out, hBe⟩
            case measure => simp [intOf]; omega
          · omega
        · have z1 : (x.k == 1) = false := by simp [h1]
          by_cases h2 : x.k = 2
          · have z2 : (x.k == 2) = true := by simp [h2]
            have hT : valS x = ⟨(quoB x.s.data.toList).toArray⟩ := by unfold valS valT; rw [if_neg h1, if_pos h2]
            rcases okV_cases hok with ⟨h, _⟩ | ⟨h, _⟩ | ⟨_, _, hsz⟩
            · omega
            · omega
            · have HC := hide (quoted_any x.s W3 (by omega))
              rw [← hT] at HC
              clear hT h1 h2
              go_wp2_with fail
              refine HC.out.mono ?_
              rintro e W4 ⟨rfl, hB4⟩
              have vA := own_below hownA hB4
              have bA := bstep hBA hB4
              clear hownA hBA hB4 HC p0 p1 p2 kP
              have vA2 := vA.alloc (.cells #[.string (valS x)] 9)
              have bA2 := bA.alloc bA.size (.cells #[.string (valS x)] 9)
              have xs : W1.heap.size ≤ (W4.alloc (.cells #[.string (valS x)] 9)).heap.size := bA2.size
              go_wp2_with (at_builtin; refine wpList_append_any _ rfl _ _ 25 rfl W1.heap.size 9 i0 _ 1 16 Tryd.underlying25 hi hz0 hz1 hz2 rfl (by decide) _ k PL rfl vA2 (W4.heap.size + 1) (some ⟨W4.heap.size, 0, none⟩) 1 1 [.string (valS x)] rfl (rd_one W4 _ _) (by simp [Value.oneCell']) (by unfold maxLen; omega) (by omega) xs ?_; intro v3 w3 hown3 hgrow hat)
              have hBe : Below W1.heap.size W1 w3 := below_append bA2 vA2 xs hgrow
              have HO := hide (show w3.ownsRow W1.heap.size 9 1 v3 (k + 1) ((r.take (k + 1)).map fun x => Value.string (valS x)) by rw [HS.out, HPL.out]; exact hown3)
              clear hown3 hgrow hat bA vA bA2 vA2
              go_wp2_with fail
              go_roundw
              case rel => exact ⟨k + 1, by omega, by go_num, HO.out, hBe⟩
              case measure => simp [intOf]; omega
          · have z2 : (x.k == 2) = false := by simp [h2]
            have hT : valS x = ⟨#[126]⟩ := by unfold valS valT; rw [if_neg h1, if_neg h2]
            rw [hT] at HS
            clear hT h1 h2
            have vA2 := hownA.alloc (.cells #[.string ⟨#[126]⟩] 9)
            have bA2 := hBA.alloc hBA.size (.cells #[.string ⟨#[126]⟩] 9)
            have xs : W1.heap.size ≤ (W3.alloc (.cells #[.string ⟨#[126]⟩] 9)).heap.size := bA2.size
            go_wp2_with (at_builtin; refine wpList_append_any _ rfl _ _ 25 rfl W1.heap.size 9 i0 _ 1 16 Tryd.underlying25 hi hz0 hz1 hz2 rfl (by decide) _ k PL rfl vA2 (W3.heap.size + 1) (some ⟨W3.heap.size, 0, none⟩) 1 1 [.string ⟨#[126]⟩] rfl (rd_one W3 _ _) (by simp [Value.oneCell']) (by unfold maxLen; omega) (by omega) xs ?_; intro v3 w3 hown3 hgrow hat)
            have hBe : Below W1.heap.size W1 w3 := below_append bA2 vA2 xs hgrow
            have HO := hide (show w3.ownsRow W1.heap.size 9 1 v3 (k + 1) ((r.take (k + 1)).map fun x => Value.string (valS x)) by rw [HS.out, HPL.out]; exact hown3)
            clear hown3 hgrow hat bA2 vA2 hownA hBA p0 p1 p2 kP
            go_wp2_with fail
            go_roundw
            case rel => exact ⟨k + 1, by omega, by go_num, HO.out, hBe⟩
            case measure => simp [intOf]; omega
      · obtain rfl : n = k := by omega
        rw [take_all HL.out] at hown
        obtain ⟨A', c', rfl, hR⟩ := own_form hown
        have hcap := own_cap hown
        have hlist : (r.map valS).map (·.data.toList) = r.map valT := by rw [List.map_map]; rfl
        have hj : (Lib.join ((r.map valS).map (·.data.toList)) (ByteArray.mk #[44]).data.toList) = Lib.join (r.map valT) [44] := by rw [hlist]
        have HC := hide (join_any A' n c' (r.map valS) ⟨#[44]⟩ wr (by rw [List.map_map]; exact hR) (by omega) hcap (by
          rw [hj]
          have := HP.out
          rw [List.take_length] at this
          omega))
        rw [hj, ← HR.out] at HC
        clear hown hR hj hlist
        go_wp2_with fail
        refine HC.out.mono ?_
        rintro e W4 ⟨rfl, hB4⟩
        have HB := hide (bstep hB hB4)
        clear hB hB4 HC
        go_wp2_with fail
        go_ret
        exact ⟨rfl, HB.out⟩
theorem TextOf_any (v : Val) (w : World) (hok : okV v = true) (ht : Tab w) : Calls Tryd.prog 39 #[.agg #[.int .i64 v.k, .int .i64 v.n, .string v.s]] w (RetV w (.string (valS v))) := by
  have hB := below_val (w := w) #[.int .i64 v.k, .int .i64 v.n, .string v.s] 29
  have k0 := Blk.new w 29 #[.int .i64 v.k, .int .i64 v.n, .string v.s]
  have hc := okV_cases hok
  go_enter Tryd.func39, Tryd.ntmps39
  go_upto_region 1 with fail
  obtain ⟨W, hW⟩ : ∃ W, w.alloc (.cells #[.int .i64 v.k, .int .i64 v.n, .string v.s] 29) = W := ⟨_, rfl⟩
  rw [hW] at hB k0 ⊢
  clear hW
  have p0 := k0.cell 0
  have p1 := k0.cell 1
  have p2 := k0.cell 2
  simp at p0 p1 p2
  by_cases h1 : v.k = 1
  · have z1 : (v.k == 1) = true := by simp [h1]
    have hT : valS v = ⟨(Lib.itoa v.n).toArray⟩ := by unfold valS valT; rw [if_pos h1]
    have HC := hide (itoa_any v.n (by omega) (by omega) W (ht.below hB))
    rw [← hT] at HC
    clear hT h1 hc
    go_wp2_with fail
    refine HC.out.mono ?_
    rintro e W4 ⟨rfl, hB4⟩
    have HB := hide (bstep hB hB4)
    clear hB hB4 HC p0 p1 p2 k0
    go_wp2_with fail
    go_ret
    exact ⟨rfl, HB.out⟩
  · have z1 : (v.k == 1) = false := by simp [h1]
    by_cases h2 : v.k = 2
    · have z2 : (v.k == 2) = true := by simp [h2]
      have hT : valS v = ⟨(quoB v.s.data.toList).toArray⟩ := by unfold valS valT; rw [if_neg h1, if_pos h2]
      have HC := hide (RQuoted_any v.s W (by omega))
      rw [← hT] at HC
      clear hT h1 h2 hc
      go_wp2_with fail
      refine HC.out.mono ?_
      rintro e W4 ⟨rfl, hB4⟩
      have HB := hide (bstep hB hB4)
      clear hB hB4 HC p0 p1 p2 k0
      go_wp2_with fail
      go_ret
      exact ⟨rfl, HB.out⟩
    · have z2 : (v.k == 2) = false := by simp [h2]
      have HT := hide (show valS v = ⟨#[126]⟩ by unfold valS valT; rw [if_neg h1, if_neg h2])
      clear h1 h2 hc
      go_wp2_with fail
      go_ret
      exact ⟨by rw [HT.out]; rfl, hB⟩
set_option maxRecDepth 100000 in
set_option maxHeartbeats 4000000 in
theorem RText_any (A : Option Addr) (n c : Nat) (r : Rw) (w : World) (hr : Reads w w.heap.size 3 A n (r.flatMap encV)) (hn : n ≤ 9223372036854775807) (ht : Tab w) :
    Calls Tryd.prog 18 #[.slice A n c] w (RetV w (.string ⟨(rowT r).toArray⟩)) := by
  have HL := hide (hr.len encV_len (by omega))
  have HV := hide (R2Valid_any A n c _ r w hr (Nat.le_refl _) hn)
  cases hok : okR r
  · have HR := hide (show rowT r = [] by unfold rowT; rw [hok]; simp)
    rw [hok] at HV
    clear hok
    go_enter Tryd.func18, Tryd.ntmps18
    go_wp2_with fail
    refine HV.out.mono ?_
    rintro e W1 ⟨rfl, hB1⟩
    go_wp2_with fail
    go_ret
    exact ⟨by rw [HR.out]; rfl, hB1⟩
  · have HR := hide (show rowT r = Lib.join (r.map valT) [44] by unfold rowT; rw [if_pos hok])
    have HM := hide (fun v (hv : v ∈ r) => okR_mem hok hv)
    have HP := hide (fun k => part_len hok k)
    have hn8 : n ≤ 8 := by rw [← HL.out]; exact okR_len hok
    rw [hok] at HV
    clear hok
    go_enter Tryd.func18, Tryd.ntmps18
    go_wp2_with fail
    refine HV.out.mono ?_
    rintro e W1 ⟨rfl, hB1⟩
    clear HV
    go_wp2_with fail
    go_loopw [3, 4] (fun o i wr => ∃ (k : Nat) (O : ByteArray), k ≤ n ∧ i = .int .i64 k ∧ o = .string O ∧ O.data.toList = Lib.join ((r.take k).map valT) [44] ∧ Below w.heap.size w wr) (fun _ i _ => n - (intOf i).toNat)
    case atStart => exact ⟨0, _, Nat.zero_le _, rfl, rfl, rfl, hB1⟩
    case round =>
      clear hB1
      obtain ⟨k, O, hk, rfl, rfl, hO, hB⟩ := hrel
      have hOs : O.size ≤ 6424 := by rw [← ba_list, hO]; exact HP.out k
      have HO := hide hO
      clear hO
      by_cases hlt : k < n
      · obtain ⟨b, off, x, hA, hb, hxk, hcx⟩ := (hr.below hB).elem encV_len HL.out hlt
        have hok := HM.out x (List.mem_of_getElem? hxk)
        have hxs : (valS x).size ≤ 802 := valT_len hok
        have HS := hide (show (r.take (k + 1)).map valT = (r.take k).map valT ++ [valT x] by rw [take_snoc' hxk, List.map_append]; rfl)
        have e0 : wr.cell? ⟨b, off + k * 3, none⟩ = some (.int .i64 x.k) := by simpa using hcx 0 _ rfl
        have e1 : wr.cell? ⟨b, off + k * 3 + 1, none⟩ = some (.int .i64 x.n) := by simpa [← Nat.add_assoc] using hcx 1 _ rfl
        have e2 : wr.cell? ⟨b, off + k * 3 + 2, none⟩ = some (.string x.s) := by simpa [← Nat.add_assoc] using hcx 2 _ rfl
        have HC := hide (TextOf_any x wr hok (ht.below hB))
        clear hcx hxk
        rw [hA]
        have HA := hide hA
        clear hA
        have q1 : (0 : Int) ≤ (k : Int) := by omega
        have q2 : (k : Int) < (n : Int) := by omega
        by_cases h0 : k = 0
        · have z0 : decide (0 < k) = false := by simp; omega
          have HN := hide (show (O ++ valS x).data.toList = Lib.join ((r.take (k + 1)).map valT) [44] by
            rw [HS.out, join_snoc, ba_app, HO.out, h0]
            simp [Lib.join_nil, valS_list])
          clear h0
          go_wp2_with fail
          refine HC.out.mono ?_
          rintro e W4 ⟨rfl, hB4⟩
          have hB5 := bstep hB hB4
          clear hB hB4 HC e0 e1 e2
          go_wp2_with fail
          go_roundw
          case rel => exact ⟨k + 1, _, by omega, by go_num, rfl, HN.out, hB5⟩
          case measure => simp [intOf]; omega
        · have z0 : decide (0 < k) = true := by simp; omega
          have HN := hide (show (O ++ ⟨#[44]⟩ ++ valS x).data.toList = Lib.join ((r.take (k + 1)).map valT) [44] by
            rw [HS.out, join_snoc, if_neg (by
              intro e
              have := congrArg List.length e
              rw [List.length_map, List.length_take, HL.out] at this
              simp at this
              omega), ba_app, ba_app, HO.out]
            simp [valS_list])
          clear h0
          go_wp2_with fail
          refine HC.out.mono ?_
          rintro e W4 ⟨rfl, hB4⟩
          have hB5 := bstep hB hB4
          clear hB hB4 HC e0 e1 e2
          go_wp2_with fail
          go_roundw
          case rel => exact ⟨k + 1, _, by omega, by go_num, rfl, HN.out, hB5⟩
          case measure => simp [intOf]; omega
      · obtain rfl : n = k := by omega
        have HE := hide (show O = ⟨(rowT r).toArray⟩ from ba_ext (by rw [HO.out, take_all HL.out, HR.out]))
        go_wp2_with fail
        go_ret
        exact ⟨ret_str HE.out, hB⟩
end Go.Proofs.YthngjbhamgmcgaaDoor
