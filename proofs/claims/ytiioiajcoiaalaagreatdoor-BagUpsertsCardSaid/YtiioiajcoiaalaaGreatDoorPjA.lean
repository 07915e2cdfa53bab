/-
  The walks of Project on both sides.
-/
import Derived.Test.YtiioiajcoiaalaaGreatDoorGat
import Derived.Test.YtiioiajcoiaalaaGreatDoorGb
import Derived.Deep.CutRange
import Derived.Deep.CutBlock
namespace Go.Proofs.YtiioiajcoiaalaaGreatDoor
open Go.RowKit Go.Proofs
attribute [local go_sem] Oper.semAt_some
set_option linter.unusedVariables false
set_option linter.unusedSimpArgs false

/-- Whether columns are there; what Project answers. -/
def okC (n : Nat) (cols : List Int) : Bool := !cols.any (fun c => !btw c 0 ((n : Int) - 1))
def prE (r : Rw) (cols : List Int) : Int := if okR r then (if okC r.length cols then (if cols.length ≤ 8 then 0 else 4) else 7) else 1
def pick (r : Rw) (cols : List Int) : Rw := cols.filterMap fun c => r[c.toNat]?
def prL (r : Rw) (cols : List Int) : Rw := if prE r cols = 0 then pick r cols else []
theorem pick_snoc (r : Rw) (cols : List Int) (c : Int) (x : Val) (h : r[c.toNat]? = some x) : pick r (cols ++ [c]) = pick r cols ++ [x] := by
  unfold pick
  rw [List.filterMap_append]
  simp [h]
theorem infoV : (Tryz.prog.info? 64).map (fun i => (i.zero, i.size, i.bytes)) = some (some (.agg #[.int .i64 0, .int .i64 0, .string ByteArray.empty]), 3, 32) := by kernel_rfl
theorem one_encV {x : Val} : ∀ u ∈ encV x, u.oneCell' = true := by
  intro u hu
  unfold encV at hu
  simp only [List.mem_cons, List.not_mem_nil, or_false] at hu
  rcases hu with rfl | rfl | rfl <;> rfl
theorem rd_blk (X : World) (cs : List Value) (t : TypeId) : Reads (X.alloc (.cells cs.toArray t)) (X.heap.size + 1) cs.length (some ⟨X.heap.size, 0, none⟩) 1 cs :=
  ⟨by simp, fun _ => ⟨X.heap.size, 0, rfl, by omega, fun j u hu => by rw [Nat.zero_add]; exact ((Blk.new X t cs.toArray).cell j).trans (by simpa using hu)⟩⟩
theorem btw_iff {n lo hi : Int} : btw n lo hi = true ↔ lo ≤ n ∧ n ≤ hi := by simp [btw]
theorem Proj1_any (x : Int) (bx : Nat) (A : Option Addr) (n c : Nat) (w : World) (h : w.cell? ⟨bx, 0, none⟩ = some (.slice A n c)) (hn : n ≤ 9223372036854775807) :
    Calls Tryz.prog 126 #[.int .i64 x, .pointer (some ⟨bx, 0, none⟩)] w fun e w' => e = .returned (.bool (!btw x 0 ((n : Int) - 1))) ∧ w = w' := by
  go_enter Tryz.func126, Tryz.ntmps126
  go_wp2_with (go_at_call 127; refine (within_any _ _ _ _).mono ?_; rintro e w' ⟨rfl, rfl⟩)
  go_ret
  exact ⟨rfl, rfl⟩
set_option maxRecDepth 100000 in
set_option maxHeartbeats 2000000 in
theorem idx_cols (A' : Option Addr) (n' c' B : Nat) (xs : List Int) (bx : Nat) (A : Option Addr) (n c : Nat) (w : World) (hx : Reads w B 1 A' n' (xs.map (Value.int .i64))) (hn' : n' ≤ 9223372036854775807) (h : w.cell? ⟨bx, 0, none⟩ = some (.slice A n c)) (hn : n ≤ 9223372036854775807) :
    Calls Tryz.prog 116 #[.slice A' n' c', .func (Fn.func 126) #[] #[.pointer (some ⟨bx, 0, none⟩)]] w fun e w' => (∃ i : Int, e = .returned (.int .i64 i) ∧ decide (0 ≤ i) = !okC n xs) ∧ w = w' := by
  have HL := hide hx.len1
  have HC := hide h
  clear h
  go_enter Tryz.func116, Tryz.ntmps116
  go_wp2
  go_loop [8] (fun i => ∃ k : Nat, k ≤ n' ∧ i = .int .i64 k ∧ (xs.take k).any (fun c => !btw c 0 ((n : Int) - 1)) = false) (fun i => n' - (intOf i).toNat)
  case atStart => exact ⟨0, Nat.zero_le _, rfl, rfl⟩
  case round =>
    obtain ⟨k, hk, rfl, hany⟩ := hrel
    have HA := hide hany
    clear hany
    by_cases hlt : k < n'
    · obtain ⟨b, off, x, rfl, hb, hxk, hc⟩ := hx.at1 hlt
      have HX := hide hxk
      clear hxk
      have q1 : (0 : Int) ≤ (k : Int) := by omega
      have q2 : (k : Int) < (n' : Int) := by omega
      have HP := hide (Proj1_any x bx A n c w HC.out hn)
      cases hq : btw x 0 ((n : Int) - 1)
      · rw [hq] at HP
        have HY := hide (show okC n xs = false by unfold okC; rw [List.any_eq_true.2 ⟨x, List.mem_of_getElem? HX.out, by rw [hq]; rfl⟩]; rfl)
        clear hq
        go_wp2_with fail
        refine HP.out.mono ?_
        rintro e w' ⟨rfl, rfl⟩
        go_wp2_with fail
        go_ret
        exact ⟨⟨_, rfl, by rw [HY.out]; simp⟩, rfl⟩
      · rw [hq] at HP
        have HY := hide (any_take' (p := fun c => !btw c 0 ((n : Int) - 1)) HX.out (by rw [hq]; rfl) HA.out)
        clear hq
        go_wp2_with fail
        refine HP.out.mono ?_
        rintro e w' ⟨rfl, rfl⟩
        go_wp2_with fail
        go_round
        case rel => exact ⟨k + 1, by omega, by go_num, HY.out⟩
        case measure => simp [intOf]; omega
    · obtain rfl : k = n' := by omega
      go_wp2
      go_ret
      exact ⟨⟨_, rfl, by
        have := HA.out
        rw [take_all HL.out] at this
        unfold okC
        rw [this]; rfl⟩, rfl⟩
theorem con_cols (A' : Option Addr) (n' c' B : Nat) (xs : List Int) (bx : Nat) (A : Option Addr) (n c : Nat) (w : World) (hx : Reads w B 1 A' n' (xs.map (Value.int .i64))) (hn' : n' ≤ 9223372036854775807) (h : w.cell? ⟨bx, 0, none⟩ = some (.slice A n c)) (hn : n ≤ 9223372036854775807) :
    Calls Tryz.prog 70 #[.slice A' n' c', .func (Fn.func 126) #[] #[.pointer (some ⟨bx, 0, none⟩)]] w fun e w' => e = .returned (.bool (!okC n xs)) ∧ w = w' := by
  have HI := hide (idx_cols A' n' c' B xs bx A n c w hx hn' h hn)
  clear hx h
  go_enter Tryz.func70, Tryz.ntmps70
  go_wp2_with (go_at_call 116; refine HI.out.mono ?_; rintro e w' ⟨⟨i, rfl, hi⟩, rfl⟩)
  go_ret
  exact ⟨rfl, rfl⟩
theorem okC_at {n : Nat} {xs : List Int} (h : okC n xs = true) {k : Nat} {x : Int} (hx : xs[k]? = some x) : 0 ≤ x ∧ x ≤ (n : Int) - 1 := by
  unfold okC at h
  rw [Bool.not_eq_true'] at h
  have h1 := List.any_eq_false.1 h x (List.mem_of_getElem? hx)
  exact btw_iff.1 (by simpa using h1)
/-- .. in a row of the call's own, and an error beside it. -/
def RetOwnE (w : World) (t : TypeId) (size n : Nat) (cells : List Value) (err : Int) (e : Ending) (w' : World) : Prop :=
  ∃ A c, e = .returned (.tuple #[.slice A n c, .int .i64 err]) ∧ w'.ownsRow w.heap.size t size (.slice A n c) n cells ∧ Below w.heap.size w w'
set_option maxRecDepth 100000 in
set_option maxHeartbeats 4000000 in
theorem Project_own (A : Option Addr) (n c : Nat) (r : Rw) (A' : Option Addr) (n' c' : Nat) (xs : List Int) (w : World) (hr : Reads w w.heap.size 3 A n (r.flatMap encV)) (hn : n ≤ 9223372036854775807)
    (hx : Reads w w.heap.size 1 A' n' (xs.map (Value.int .i64))) (hn' : n' ≤ 9223372036854775807) :
    Calls Tryz.prog 88 #[.slice A n c, .slice A' n' c'] w (RetOwnE w 64 3 (prL r xs).length ((prL r xs).flatMap encV) (prE r xs)) := by
  obtain ⟨i0, hi, hz0, hz1, hz2⟩ := info_parts infoV
  have HL := hide (hr.len encV_len (by omega))
  have HLx := hide hx.len1
  have hB0 := below_val (w := w) #[.slice A n c] 43
  have k0 := Blk.new w 43 #[.slice A n c]
  have hr0 := hr.up hB0
  have hx0 := hx.up hB0
  go_enter Tryz.func88, Tryz.ntmps88
  go_upto_region 1 with fail
  obtain ⟨W, hW⟩ : ∃ W, w.alloc (.cells #[.slice A n c] 43) = W := ⟨_, rfl⟩
  obtain ⟨bx, hbx⟩ : ∃ bx, w.heap.size = bx := ⟨_, rfl⟩
  have hlx : bx < W.heap.size := by rw [← hW, ← hbx]; simp
  rw [hW] at hB0 k0 hr0 hx0 ⊢
  rw [hbx] at k0 ⊢
  clear hW
  have p0 : W.cell? ⟨bx, 0, none⟩ = some (.slice A n c) := by simpa using k0.cell 0
  have HV := hide (RowValid_any A n c _ r W hr0 (Nat.le_refl _) hn)
  cases hok : okR r
  · have HE := hide (show prE r xs = 1 by unfold prE; rw [hok]; rfl)
    have HR := hide (show prL r xs = [] by unfold prL; rw [HE.out]; rfl)
    rw [hok] at HV
    clear hok hr hx hr0 hx0 k0
    go_wp2_with fail
    refine HV.out.mono ?_
    rintro e W1 ⟨rfl, hB1⟩
    have HB := hide (bstep hB0 hB1)
    clear hB0 hB1 HV p0
    go_wp2_with fail
    go_ret2
    rw [HE.out, HR.out]
    exact ⟨none, 0, rfl, World.ownsRow_nil _ _ _ _, HB.out⟩
  · rw [hok] at HV
    go_wp2_with fail
    refine HV.out.mono ?_
    rintro e W1 ⟨rfl, hB1⟩
    have hB := bstep hB0 hB1
    have hlx1 : bx < W1.heap.size := Nat.lt_of_lt_of_le hlx hB1.size
    have p1 : W1.cell? ⟨bx, 0, none⟩ = some (.slice A n c) := by simpa using (k0.below hB1 hlx).cell 0
    have hr1 := hr0.up hB1
    have hx1 := hx0.up hB1
    have HC := hide (con_cols A' n' c' _ xs bx A n c W1 hx1 hn' p1 hn)
    clear hB0 hB1 hr hx hr0 hx0 k0 p0 HV
    cases hokc : okC n xs
    · have HE := hide (show prE r xs = 7 by unfold prE; rw [hok, HL.out, hokc]; rfl)
      have HR := hide (show prL r xs = [] by unfold prL; rw [HE.out]; rfl)
      rw [hokc] at HC
      have HB := hide hB
      clear hok hokc hr1 hx1 p1 hB
      go_wp2_with fail
      refine HC.out.mono ?_
      rintro e W2 ⟨rfl, rfl⟩
      go_wp2_with fail
      go_ret2
      rw [HE.out, HR.out]
      exact ⟨none, 0, rfl, World.ownsRow_nil _ _ _ _, HB.out⟩
    · rw [hokc] at HC
      by_cases h8 : n' ≤ 8
      · have HE := hide (show prE r xs = 0 by unfold prE; rw [hok, HL.out, hokc, HLx.out]; simp [h8])
        have HR := hide (show prL r xs = pick r xs by unfold prL; rw [HE.out]; rfl)
        have HK := hide (fun k x (h : xs[k]? = some x) => okC_at hokc h)
        clear hok hokc
        go_wp2_with fail
        refine HC.out.mono ?_
        rintro e W2 ⟨rfl, rfl⟩
        clear HC
        go_wp2_with fail
        have ow0 : W1.ownsRow W1.heap.size 64 3 (.slice none 0 0) 0 [] := World.ownsRow_nil _ _ _ _
        go_loopw [6, 8, 23] (fun v _ i wr => ∃ k : Nat, k ≤ n' ∧ i = .int .i64 k ∧ wr.ownsRow W1.heap.size 64 3 v k ((pick r (xs.take k)).flatMap encV) ∧ Below W1.heap.size W1 wr) (fun _ _ i _ => n' - (intOf i).toNat)
        case atStart => exact ⟨0, Nat.zero_le _, rfl, ow0, Below.refl _ _⟩
        case round =>
          clear ow0
          obtain ⟨k, hk, rfl, hown, hBr⟩ := hrel
          by_cases hlt : k < n'
          · obtain ⟨b', off', y, hA', hb', hyk, hcy⟩ := (hx1.below hBr).at1 hlt
            have hy := HK.out k y hyk
            obtain ⟨t, rfl⟩ : ∃ t : Nat, y = (t : Int) := ⟨y.toNat, by omega⟩
            obtain ⟨b, off, x, hA, hb, hxk, hcx⟩ := (hr1.below hBr).elem encV_len HL.out (show t < n by omega)
            have HS := hide (show (pick r (xs.take (k + 1))).flatMap encV = (pick r (xs.take k)).flatMap encV ++ encV x by rw [take_snoc' hyk, pick_snoc r _ _ x (by simpa using hxk), List.flatMap_append]; simp)
            have e0 : wr.cell? ⟨b, off + t * 3, none⟩ = some (.int .i64 x.k) := by simpa using hcx 0 _ rfl
            have e1 : wr.cell? ⟨b, off + t * 3 + 1, none⟩ = some (.int .i64 x.n) := by simpa [← Nat.add_assoc] using hcx 1 _ rfl
            have e2 : wr.cell? ⟨b, off + t * 3 + 2, none⟩ = some (.string x.s) := by simpa [← Nat.add_assoc] using hcx 2 _ rfl
            have p2 : wr.cell? ⟨bx, 0, none⟩ = some (.slice A n c) := (hBr.cell (p := ⟨bx, 0, none⟩) hlx1).trans p1
            clear hcx hxk hyk
            rw [hA']
            rw [hA] at p2
            have HA := hide hA
            have HA' := hide hA'
            clear hA hA'
            have q1 : (0 : Int) ≤ (k : Int) := by omega
            have q2 : (k : Int) < (n' : Int) := by omega
            have q3 : (0 : Int) ≤ (t : Int) := by omega
            have q4 : (t : Int) < (n : Int) := by omega
            obtain ⟨PL, hPL⟩ : ∃ PL, (pick r (xs.take k)).flatMap encV = PL := ⟨_, rfl⟩
            have HPL := hide hPL
            rw [hPL] at hown
            clear hPL
            have vA2 := hown.alloc (.cells #[.int .i64 x.k, .int .i64 x.n, .string x.s] 64)
            have bA2 := hBr.alloc hBr.size (.cells #[.int .i64 x.k, .int .i64 x.n, .string x.s] 64)
            have xs2 : W1.heap.size ≤ (wr.alloc (.cells #[.int .i64 x.k, .int .i64 x.n, .string x.s] 64)).heap.size := bA2.size
            go_wp2_with (at_builtin; refine wpList_append_any _ rfl _ _ 43 rfl W1.heap.size 64 i0 _ 3 32 Tryz.underlying43 hi hz0 hz1 hz2 rfl (by decide) _ k PL rfl vA2 (wr.heap.size + 1) (some ⟨wr.heap.size, 0, none⟩) 1 1 (encV x) rfl (rd_blk wr (encV x) _) one_encV (by unfold maxLen; omega) (by omega) xs2 ?_; intro v3 w3 hown3 hgrow hat)
            have hBe : Below W1.heap.size W1 w3 := below_append bA2 vA2 xs2 hgrow
            have HO := hide (show w3.ownsRow W1.heap.size 64 3 v3 (k + 1) ((pick r (xs.take (k + 1))).flatMap encV) by rw [HS.out, HPL.out]; exact hown3)
            clear hown3 hgrow hat bA2 vA2 hown hBr e0 e1 e2 p2
            go_wp2_with fail
            go_roundw
            case rel => exact ⟨k + 1, by omega, by go_num, HO.out, hBe⟩
            case measure => simp [intOf]; omega
          · obtain rfl : n' = k := by omega
            rw [take_all HLx.out] at hown
            obtain ⟨A3, c3, rfl, hR⟩ := own_form hown
            have HRR := hide (own_mono hown hB.size)
            have HB := hide (bstep hB hBr)
            have HN := hide (show (pick r xs).length = n' from hR.len encV_len (by omega))
            clear hR hown hBr hB hr1 hx1 p1
            go_wp2_with fail
            go_ret2
            rw [HR.out, HE.out, HN.out]
            exact ⟨A3, c3, rfl, HRR.out, HB.out⟩
      · have HE := hide (show prE r xs = 4 by unfold prE; rw [hok, HL.out, hokc, HLx.out]; simp [h8])
        have HR := hide (show prL r xs = [] by unfold prL; rw [HE.out]; rfl)
        have HB := hide hB
        have q8 : decide ((8 : Int) < (n' : Int)) = true := by simp; omega
        clear hok hokc hr1 hx1 p1 hB
        go_wp2_with fail
        refine HC.out.mono ?_
        rintro e W2 ⟨rfl, rfl⟩
        go_wp2_with fail
        go_ret2
        rw [HE.out, HR.out]
        exact ⟨none, 0, rfl, World.ownsRow_nil _ _ _ _, HB.out⟩
theorem Project_any (A : Option Addr) (n c : Nat) (r : Rw) (A' : Option Addr) (n' c' : Nat) (xs : List Int) (w : World) (hr : Reads w w.heap.size 3 A n (r.flatMap encV)) (hn : n ≤ 9223372036854775807)
    (hx : Reads w w.heap.size 1 A' n' (xs.map (Value.int .i64))) (hn' : n' ≤ 9223372036854775807) :
    Calls Tryz.prog 88 #[.slice A n c, .slice A' n' c'] w (RetSlE w 3 (prL r xs).length ((prL r xs).flatMap encV) (prE r xs)) :=
  (Project_own A n c r A' n' c' xs w hr hn hx hn').mono fun e w' ⟨A, c, he, ho, hb⟩ => ⟨A, c, he, Reads.of_own ho, hb⟩
end Go.Proofs.YtiioiajcoiaalaaGreatDoor
