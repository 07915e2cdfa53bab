/-
  slices.Concat over lists of numbers: slices.Grow at int laid (as the kit's own tool prints it), the walk.
  The reference's Picks (the row is the call's own), ahead, Fits, judged.
  rank.Less and the reference's Less: what they answer.
-/
import Derived.Shelf.Spec.SlicesGrow
import Derived.Test.YtljglceaibgknaaGreatDoorRkP
import Derived.Test.YtljglceaibgknaaGreatDoorRkL
import Derived.Test.YtljglceaibgknaaGreatDoorPjB
import Derived.Test.YtljglceaibgknaaGreatDoorRngH
import Derived.Test.YtljglceaibgknaaGreatDoorOrdU
namespace Go.Proofs.YtljglceaibgknaaGreatDoor

section
open Go.RowKit Go.Shelf Go.Proofs
attribute [local go_sem] Oper.semAt_some
set_option linter.unusedVariables false
set_option linter.unusedSimpArgs false

def growZ_ren : Go.Shelf.Ren := ⟨fun | 4 => 121 | n => n, fun | 22 => 22 | 25 => 3 | 3 => 3 | 4 => 4 | 9 => 9 | 20 => 20 | 0 => 0 | n => n, fun | n => n⟩
theorem growZ : Go.Proofs.Lays8.n4 Tryz.prog growZ_ren := {
  mixed := by kernel_rfl
  f4 := ⟨Tryz.f121.name, by decide, Tryz.func121.trans (congrArg some (by kernel_rfl))⟩
  t0 := Tryz.underlying0
  a0 := Tryz.isAgg0
  z0 := Tryz.sizeOf0
  v0 := Tryz.zeroValue0
  t3 := Tryz.underlying3
  a3 := Tryz.isAgg3
  z3 := Tryz.sizeOf3
  v3 := Tryz.zeroValue3
  t4 := Tryz.underlying4
  a4 := Tryz.isAgg4
  z4 := Tryz.sizeOf4
  v4 := Tryz.zeroValue4
  t9 := Tryz.underlying9
  a9 := Tryz.isAgg9
  z9 := Tryz.sizeOf9
  v9 := Tryz.zeroValue9
  t20 := Tryz.underlying20
  a20 := Tryz.isAgg20
  z20 := Tryz.sizeOf20
  v20 := Tryz.zeroValue20
  t22 := Tryz.underlying22
  a22 := Tryz.isAgg22
  z22 := Tryz.sizeOf22
  v22 := Tryz.zeroValue22 }
theorem infoZ : (Tryz.prog.info? 3).map (fun i => (i.zero, i.size, i.bytes)) = some (some (.int .i64 0), 1, 8) := by kernel_rfl
theorem one_ints (xs : List Int) : ∀ u ∈ xs.map (Value.int .i64), u.oneCell' = true := fun u hu => by
  obtain ⟨x, _, rfl⟩ := List.mem_map.1 hu
  rfl
/-- A list of numbers that reads. -/
structure Ri where
  a : Option Addr
  n : Nat
  c : Nat
  xs : List Int
def Ri.val (r : Ri) : Value := .slice r.a r.n r.c
def TabI (w : World) (B : Nat) (A : Option Addr) (n : Nat) (R : List Ri) : Prop := Reads w B 1 A n (R.map Ri.val) ∧ ∀ r ∈ R, Reads w B 1 r.a r.n (r.xs.map (Value.int .i64))
theorem TabI.up {w w' : World} {n : Nat} {A : Option Addr} {R : List Ri} (h : TabI w w.heap.size A n R) (hb : Below w.heap.size w w') : TabI w' w'.heap.size A n R := ⟨h.1.up hb, fun r hr => (h.2 r hr).up hb⟩
theorem TabI.below {w w' : World} {B n : Nat} {A : Option Addr} {R : List Ri} (h : TabI w B A n R) (hb : Below B w w') : TabI w' B A n R := ⟨h.1.below hb, fun r hr => (h.2 r hr).below hb⟩
/-- All of them, one behind the other. -/
def allZ (R : List Ri) : List Int := R.flatMap fun r => r.xs
def lenZ (R : List Ri) : Nat := (R.map fun r => r.n).sum
theorem allZ_next {R : List Ri} {k : Nat} {r : Ri} (h : R[k]? = some r) : allZ (R.take (k + 1)) = allZ (R.take k) ++ r.xs ∧ lenZ (R.take (k + 1)) = lenZ (R.take k) + r.n := by
  unfold allZ lenZ
  rw [take_snoc' h]
  simp
theorem lenZ_le {R : List Ri} (h : ∀ r ∈ R, r.n ≤ 60) : lenZ R ≤ 60 * R.length := by
  induction R with
  | nil => simp [lenZ]
  | cons r R ih =>
    have h1 := h r List.mem_cons_self
    have h2 := ih fun x hx => h x (List.mem_cons_of_mem _ hx)
    simp only [lenZ, List.map_cons, List.sum_cons, List.length_cons] at h2 ⊢
    omega
set_option maxRecDepth 100000 in
theorem GrowI_any (m : Nat) (w : World) (hm : m ≤ 40000) :
    Calls Tryz.prog 121 #[.slice none 0 0, .int .i64 (m : Int)] w fun e w' => ∃ v, e = .returned v ∧ w'.ownsRow w.heap.size 3 1 v 0 [] ∧ Below w.heap.size w w' := by
  obtain ⟨i0, hi0, hz0, hz1, hz2⟩ := info_parts3 infoZ
  rcases Nat.eq_zero_or_pos m with h0 | h0
  · subst h0
    exact (Go.Proofs.Any8.slices_Grow_room growZ none 0 0 0 w (by omega) (by omega) (by omega) (by omega)).mono fun e w' ⟨he, hw⟩ => by
      subst hw
      exact ⟨_, he, World.ownsRow_nil _ _ _ _, Below.refl _ _⟩
  · have hcon := Go.Proofs.Any8.slices_Grow_grow growZ i0 _ hi0 hz0 (by rw [hz1]; omega) none 0 0 m [] w (by omega) (by omega) (by rw [hz2]; omega) (by omega) (by simp) (fun _ => rfl) (fun a h => by cases h)
    change Calls Tryz.prog 121 _ _ _ at hcon
    refine hcon.mono ?_
    rintro e w' ⟨rfl, rfl⟩
    have hge : 0 + m ≤ grownCap w (0 + m) 0 3 := grownCap_ge w (0 + m) 0 3
    have hle := grownCap_le_maxLen w (0 + m) 0 3 (by unfold maxLen; omega)
    refine ⟨_, rfl, ⟨by simp, .inr ⟨w.heap.size, _, _, rfl, Nat.le_refl _, heap_alloc_new w.drew _, Nat.zero_le _, hle, ?_, by simp⟩⟩, ((Below.refl _ _).drew).alloc (Nat.le_refl _) _⟩
    rw [Array.size_append, Array.size_append, size_zeroCells, size_zeroCells]
    show (0 : Nat) + (0 + m - 0) * 1 + (grownCap w (0 + m) 0 3 - (0 + m)) * 1 = grownCap w (0 + m) 0 3 * 1
    omega
set_option maxRecDepth 100000 in
set_option maxHeartbeats 4000000 in
theorem ConcatI_any (A : Option Addr) (n c : Nat) (R : List Ri) (w : World) (hT : TabI w w.heap.size A n R) (hn : n ≤ 400) (hr : ∀ r ∈ R, r.n ≤ 60) :
    Calls Tryz.prog 65 #[.slice A n c] w (RetOwn w 3 1 (lenZ R) ((allZ R).map (Value.int .i64))) := by
  obtain ⟨i0, hi0, hz0, hz1, hz2⟩ := info_parts3 infoZ
  have HL := hide (show R.length = n from hT.1.len1)
  have hlt : lenZ R ≤ 24000 := by have := lenZ_le hr; rw [HL.out] at this; omega
  have hpre : ∀ k, lenZ (R.take k) ≤ 24000 := fun k => by
    have h1 := lenZ_le (R := R.take k) fun r hr' => hr r (List.mem_of_mem_take hr')
    have h2 : (R.take k).length ≤ n := by rw [List.length_take, HL.out]; omega
    omega
  have HPRE := hide hpre
  clear hpre
  go_enter Tryz.func65, Tryz.ntmps65
  go_wp2_with fail
  go_loopw [3, 11] (fun s i wr => ∃ k : Nat, k ≤ n ∧ i = .int .i64 k ∧ s = .int .i64 (lenZ (R.take k) : Nat) ∧ wr = w) (fun _ i _ => n - (intOf i).toNat)
  case atStart => exact ⟨0, Nat.zero_le _, rfl, rfl, rfl⟩
  case round =>
    obtain ⟨k, hk, rfl, rfl, hw⟩ := hrel
    subst hw
    by_cases hlt2 : k < n
    · obtain ⟨b, off, r, rfl, hb, hrk, hc⟩ := hT.1.at1 hlt2
      have hc' : wr.cell? ⟨b, off + k, none⟩ = some (.slice r.a r.n r.c) := hc
      have hrn := hr r (List.mem_of_getElem? hrk)
      have HN := hide (allZ_next hrk).2
      have hp := HPRE.out k
      obtain ⟨s, hs⟩ : ∃ s, lenZ (R.take k) = s := ⟨_, rfl⟩
      rw [hs] at hp HN ⊢
      clear hrk hc hs
      have q1 : (0 : Int) ≤ (k : Int) := by omega
      have q2 : (k : Int) < (n : Int) := by omega
      go_wp2
      go_roundw
      case rel => exact ⟨k + 1, by omega, by go_num, by rw [HN.out]; go_num, trivial⟩
      case measure => simp [intOf]; omega
    · obtain rfl : n = k := by omega
      obtain ⟨ws, hws⟩ : ∃ ws : World, ws = wr := ⟨_, rfl⟩
      subst hws
      rw [take_all HL.out]
      obtain ⟨m, hm⟩ : ∃ m, lenZ R = m := ⟨_, rfl⟩
      rw [hm] at hlt ⊢
      have HM := hide hm
      clear hm
      go_wp2_with fail
      refine (GrowI_any m ws (by omega)).mono ?_
      rintro e W2 ⟨v2, rfl, hown, hB2⟩
      have hT2 := hT.below hB2
      go_wp2_with fail
      go_loopw [6, 27] (fun v i wx => ∃ k m : Nat, k ≤ n ∧ i = .int .i64 k ∧ lenZ (R.take k) = m ∧ wx.ownsRow ws.heap.size 3 1 v m ((allZ (R.take k)).map (Value.int .i64)) ∧ Below ws.heap.size ws wx) (fun _ i _ => n - (intOf i).toNat)
      case atStart => exact ⟨0, 0, Nat.zero_le _, rfl, rfl, hown, hB2⟩
      case round =>
        clear hown hB2
        obtain ⟨k, m2, hk2, rfl, hm2, hown, hB⟩ := hrel
        have hp := HPRE.out k
        rw [hm2] at hp
        have hT3 := hT.below hB
        have hWs := hB.size
        by_cases hlt3 : k < n
        · obtain ⟨b, off, r, rfl, hb, hrk, hc⟩ := hT3.1.at1 hlt3
          have hc' : wr.cell? ⟨b, off + k, none⟩ = some (.slice r.a r.n r.c) := hc
          have hrn := hr r (List.mem_of_getElem? hrk)
          have hrd := hT3.2 r (List.mem_of_getElem? hrk)
          have one := one_ints r.xs
          have HN := hide (allZ_next hrk).2
          have HA := hide (allZ_next hrk).1
          have HM2 := hide hm2
          clear hrk hc hm2
          have q1 : (0 : Int) ≤ (k : Int) := by omega
          have q2 : (k : Int) < (n : Int) := by omega
          go_wp2_with (at_builtin; refine wpList_append_any _ rfl _ _ 22 rfl ws.heap.size 3 i0 _ 1 8 Tryz.underlying22 hi0 hz0 hz1 hz2 rfl (by decide) _ m2 _ rfl hown ws.heap.size r.a r.n r.c (r.xs.map (Value.int .i64)) rfl hrd one (by unfold maxLen; omega) (by omega) (by omega) ?_; intro v3 w3 hown3 hgrow _; have hB3 : Below ws.heap.size ws w3 := below_append hB hown (by omega) hgrow; clear hgrow)
          clear hown hB one hrd
          go_wp2
          go_roundw
          case rel => exact ⟨k + 1, m2 + r.n, by omega, by go_num, by rw [HN.out, HM2.out], by rw [HA.out, List.map_append]; exact hown3, hB3⟩
          case measure => simp [intOf]; omega
        · obtain rfl : k = n := by omega
          rw [take_all HL.out] at hm2 hown
          have e : m2 = m := by rw [← hm2, HM.out]
          subst e
          obtain ⟨A5, c5, rfl, _⟩ := own_form hown
          go_wp2
          go_ret
          rw [HM.out]
          exact ⟨A5, c5, rfl, hown, hB⟩
end

section
open Go.RowKit Go.Proofs
attribute [local go_sem] Oper.semAt_some
set_option linter.unusedVariables false
set_option linter.unusedSimpArgs false

set_option maxRecDepth 100000 in
set_option maxHeartbeats 4000000 in
theorem PicksO_any (A : Option Addr) (n c : Nat) (r : Rw) (A' : Option Addr) (n' c' : Nat) (xs : List Int) (w : World) (hr : Reads w w.heap.size 3 A n (r.flatMap encV)) (hn : n ≤ 9223372036854775807)
    (hx : Reads w w.heap.size 1 A' n' (xs.map (Value.int .i64))) (h8 : n' ≤ 1000) (hk : ∀ (k : Nat) (x : Int), xs[k]? = some x → 0 ≤ x ∧ x ≤ (n : Int) - 1) :
    Calls Tryz.prog 27 #[.slice A n c, .slice A' n' c'] w (RetOwn w 68 3 n' ((pick r xs).flatMap encV)) := by
  obtain ⟨i0, hi, hz0, hz1, hz2⟩ := info_parts infoV
  have HL := hide (hr.len encV_len (by omega))
  have HLx := hide hx.len1
  have HK := hide hk
  clear hk
  go_enter Tryz.func27, Tryz.ntmps27
  go_wp2_with fail
  have ow0 : w.ownsRow w.heap.size 68 3 (.slice none 0 0) 0 [] := World.ownsRow_nil _ _ _ _
  go_loopw [5, 6] (fun v i wr => ∃ k : Nat, k ≤ n' ∧ i = .int .i64 k ∧ wr.ownsRow w.heap.size 68 3 v k ((pick r (xs.take k)).flatMap encV) ∧ Below w.heap.size w wr) (fun _ i _ => n' - (intOf i).toNat)
  case atStart => exact ⟨0, Nat.zero_le _, rfl, ow0, Below.refl _ _⟩
  case round =>
    clear ow0
    obtain ⟨k, hk, rfl, hown, hBr⟩ := hrel
    by_cases hlt : k < n'
    · obtain ⟨b', off', y, hA', hb', hyk, hcy⟩ := (hx.below hBr).at1 hlt
      have hy := HK.out k y hyk
      obtain ⟨t, rfl⟩ : ∃ t : Nat, y = (t : Int) := ⟨y.toNat, by omega⟩
      obtain ⟨b, off, x, hA, hb, hxk, hcx⟩ := (hr.below hBr).elem encV_len HL.out (show t < n by omega)
      have HS := hide (show (pick r (xs.take (k + 1))).flatMap encV = (pick r (xs.take k)).flatMap encV ++ encV x by rw [take_snoc' hyk, pick_snoc r _ _ x (by simpa using hxk), List.flatMap_append]; simp)
      have e0 : wr.cell? ⟨b, off + t * 3, none⟩ = some (.int .i64 x.k) := by simpa using hcx 0 _ rfl
      have e1 : wr.cell? ⟨b, off + t * 3 + 1, none⟩ = some (.int .i64 x.n) := by simpa [← Nat.add_assoc] using hcx 1 _ rfl
      have e2 : wr.cell? ⟨b, off + t * 3 + 2, none⟩ = some (.string x.s) := by simpa [← Nat.add_assoc] using hcx 2 _ rfl
      clear hcx hxk hyk
      rw [hA, hA']
      have HA := hide hA
      have HA' := hide hA'
      clear hA hA'
      have q1 : (0 : Int) ≤ (k : Int) := by omega
      have q2 : (k : Int) < (n' : Int) := by omega
      have q3 : (0 : Int) ≤ (t : Int) := by omega
      have q4 : (t : Int) < (n : Int) := by omega
      obtain ⟨PL, hPL⟩ : ∃ PL, (pick r (xs.take k)).flatMap encV = PL := ⟨_, rfl⟩
      have HPL := hide hPL
      rw [hPL] at hown
      clear hPL
      have vA2 := hown.alloc (.cells #[.int .i64 x.k, .int .i64 x.n, .string x.s] 68)
      have bA2 := hBr.alloc hBr.size (.cells #[.int .i64 x.k, .int .i64 x.n, .string x.s] 68)
      have xs2 : w.heap.size ≤ (wr.alloc (.cells #[.int .i64 x.k, .int .i64 x.n, .string x.s] 68)).heap.size := bA2.size
      go_wp2_with (at_builtin; refine wpList_append_any _ rfl _ _ 42 rfl w.heap.size 68 i0 _ 3 32 Tryz.underlying42 hi hz0 hz1 hz2 rfl (by decide) _ k PL rfl vA2 (wr.heap.size + 1) (some ⟨wr.heap.size, 0, none⟩) 1 1 (encV x) rfl (rd_blk wr (encV x) _) one_encV (by unfold maxLen; omega) (by omega) xs2 ?_; intro v3 w3 hown3 hgrow hat)
      have hBe : Below w.heap.size w w3 := below_append bA2 vA2 xs2 hgrow
      have HO := hide (show w3.ownsRow w.heap.size 68 3 v3 (k + 1) ((pick r (xs.take (k + 1))).flatMap encV) by rw [HS.out, HPL.out]; exact hown3)
      clear hown3 hgrow hat bA2 vA2 hown hBr e0 e1 e2
      go_wp2_with fail
      go_roundw
      case rel => exact ⟨k + 1, by omega, by go_num, HO.out, hBe⟩
      case measure => simp [intOf]; omega
    · obtain rfl : n' = k := by omega
      rw [take_all HLx.out] at hown
      obtain ⟨A3, c3, rfl, hR⟩ := own_form hown
      have HRR := hide hown
      clear hR hown
      go_wp2_with fail
      go_ret
      exact ⟨A3, c3, rfl, HRR.out, hBr⟩
theorem cmpR_cases : ∀ x y : Rw, cmpR x y = -1 ∨ cmpR x y = 0 ∨ cmpR x y = 1
  | [], [] => .inr (.inl rfl)
  | [], _ :: _ => .inl rfl
  | _ :: _, [] => .inr (.inr rfl)
  | a :: x, b :: y => by
    have h1 := cmpV_cases a b
    have h2 := cmpR_cases x y
    show thenC (cmpV a b) (cmpR x y) = -1 ∨ thenC (cmpV a b) (cmpR x y) = 0 ∨ thenC (cmpV a b) (cmpR x y) = 1
    unfold thenC
    split
    · exact h2
    · exact h1
/-- What Picks leaves, as a row. -/
def RetRk (w : World) (n : Nat) (r : Rw) (e : Ending) (w' : World) : Prop := ∃ A c, e = .returned (.slice A n c) ∧ (∀ B, RowK w' B A n r) ∧ Below w.heap.size w w'
theorem PicksR_any (A : Option Addr) (n c : Nat) (r : Rw) (A' : Option Addr) (n' c' : Nat) (xs : List Int) (w : World) (hr : Reads w w.heap.size 3 A n (r.flatMap encV)) (hn : n ≤ 9223372036854775807)
    (hx : Reads w w.heap.size 1 A' n' (xs.map (Value.int .i64))) (h8 : n' ≤ 1000) (hk : has r xs = true) :
    Calls Tryz.prog 27 #[.slice A n c, .slice A' n' c'] w (RetRk w n' (pick r xs)) := by
  have hl := hr.len encV_len (by omega)
  refine (PicksO_any A n c r A' n' c' xs w hr hn hx h8 fun k x h => ?_).mono fun e w' => ?_
  · unfold has at hk
    rw [List.all_eq_true] at hk
    have := hk x (List.mem_of_getElem? h)
    rw [btw_iff] at this
    omega
  · rintro ⟨A1, c1, rfl, ho, hb⟩
    exact ⟨A1, c1, rfl, fun B => RowK.of_own ho (by omega), hb⟩
set_option maxRecDepth 100000 in
set_option maxHeartbeats 8000000 in
theorem ahead_any (k : Sk) (s : Stp) (A : Option Addr) (n c : Nat) (x : Rw) (A' : Option Addr) (n' c' : Nat) (y : Rw) (w : World) (hs : SetK w w.heap.size k s) (hx : Reads w w.heap.size 3 A n (x.flatMap encV)) (hy : Reads w w.heap.size 3 A' n' (y.flatMap encV)) (hn : n ≤ 9223372036854775807) (hn' : n' ≤ 9223372036854775807) (h1 : has x s.by_ = true) (h2 : has y s.by_ = true) :
    Calls Tryz.prog 69 #[k.v s, .slice A n c, .slice A' n' c'] w (RetV w (.bool (aheadB s x y))) := by
  obtain ⟨per, by_, dn, nn⟩ := s
  unfold Sk.v
  have hB := below_val (w := w) #[.slice k.A k.n k.c, .slice k.A' k.n' k.c', .bool dn, .int .i64 nn] 34
  have kb := Blk.new w 34 #[.slice k.A k.n k.c, .slice k.A' k.n' k.c', .bool dn, .int .i64 nn]
  have hs1 := hs.up hB
  have hx1 := hx.up hB
  have hy1 := hy.up hB
  have H1 := hide h1
  have H2 := hide h2
  obtain ⟨ans, hans⟩ : ∃ ans, aheadB ⟨per, by_, dn, nn⟩ x y = ans := ⟨_, rfl⟩
  rw [hans]
  have HA := hide (show (decide (sgn dn * cmpR (pick x by_) (pick y by_) < 0) || (decide (sgn dn * cmpR (pick x by_) (pick y by_) = 0) && decide (cmpR x y < 0))) = ans from hans)
  clear hans hs hx hy h1 h2
  go_enter Tryz.func69, Tryz.ntmps69
  go_upto_region 1 with fail
  obtain ⟨W, hW⟩ : ∃ W, w.alloc (.cells #[.slice k.A k.n k.c, .slice k.A' k.n' k.c', .bool dn, .int .i64 nn] 34) = W := ⟨_, rfl⟩
  rw [hW] at hB kb hs1 hx1 hy1 ⊢
  clear hW
  obtain ⟨bs, hbs⟩ : ∃ bs, w.heap.size = bs := ⟨_, rfl⟩
  rw [hbs] at kb ⊢
  have HBS := hide hbs
  clear hbs
  have c1 := kb.cell 1
  have c2 := kb.cell 2
  simp at c1 c2
  have HP1 := hide (fun (X : World) (hX : Below W.heap.size W X) => PicksR_any A n c x k.A' k.n' k.c' by_ X (hx1.up hX) hn (hs1.up hX).b hs1.nb H1.out)
  have HP2 := hide (fun (X : World) (hX : Below W.heap.size W X) => PicksR_any A' n' c' y k.A' k.n' k.c' by_ X (hy1.up hX) hn' (hs1.up hX).b hs1.nb H2.out)
  have HCM := hide (fun (X : World) (hX : Below W.heap.size W X) => R2Compare_any A n c x A' n' c' y X (hx1.up hX) (hy1.up hX) hn)
  have hnb := hs1.nb
  clear hs1 hx1 hy1 kb
  go_wp2_with fail
  refine Held.begin (fun z => z.cell? ⟨bs, 1, none⟩ = some (.slice k.A' k.n' k.c')) 100 (by kernel_rfl) ?_
  have hG : Below W.heap.size W W.drew := (Below.refl _ _).drew
  obtain ⟨X1, hX1⟩ : ∃ X1, W.drew = X1 := ⟨_, rfl⟩
  have hS : X1.cell? ⟨bs, 1, none⟩ = some (.slice k.A' k.n' k.c') := by rw [← hX1]; exact c1
  rw [hX1] at hG ⊢
  clear hX1 c1
  refine Held.take (i := 0) (.slice A n c) rfl hS (by kernel_rfl) (by kernel_rfl) (by kernel_rfl) (by kernel_rfl) (fun _ _ _ h => h) rfl (fun y hy => by have x1 := hy; go_simp) ?_
  try simp only [Act.put]
  refine Held.take (i := 1) (.pointer (some ⟨bs, 1, none⟩)) rfl hS (by kernel_rfl) (by kernel_rfl) (by kernel_rfl) (by kernel_rfl) (fun _ _ _ h => h) rfl (fun y hy => by have x1 := hy; go_simp) ?_
  try simp only [Act.put]
  refine Held.take (i := 2) (.slice k.A' k.n' k.c') rfl hS (by kernel_rfl) (by kernel_rfl) (by kernel_rfl) (by kernel_rfl) (fun _ _ _ h => h) rfl (fun y hy => by have x1 := hy; go_simp) ?_
  try simp only [Act.put]
  refine Held.take (i := 4) (.slice A' n' c') rfl hS (by kernel_rfl) (by kernel_rfl) (by kernel_rfl) (by kernel_rfl) (fun _ _ _ h => h) rfl (fun y hy => by have x1 := hy; go_simp) ?_
  try simp only [Act.put]
  refine Held.take (i := 5) (.pointer (some ⟨bs, 1, none⟩)) rfl hS (by kernel_rfl) (by kernel_rfl) (by kernel_rfl) (by kernel_rfl) (fun _ _ _ h => h) rfl (fun y hy => by have x1 := hy; go_simp) ?_
  try simp only [Act.put]
  refine Held.take (i := 6) (.slice k.A' k.n' k.c') rfl hS (by kernel_rfl) (by kernel_rfl) (by kernel_rfl) (by kernel_rfl) (fun _ _ _ h => h) rfl (fun y hy => by have x1 := hy; go_simp) ?_
  try simp only [Act.put]
  refine Held.one (i := 3) rfl (by kernel_rfl) rfl (fun K hK => ?_)
  unfold Oper.wp
  go_simp
  refine (HP1.out X1 hG).mono ?_
  rintro e X2 ⟨Ap, cp, rfl, hr1, hB2⟩
  have hr1 := hr1 0
  have hG2 := bstep hG hB2
  have hS2 := (hB2.cell (World.block_lt_of_cell? _ _ hS)).trans hS
  refine hK _ _ (fun _ => hS2) ?_
  try simp only [Act.put]
  clear hK K hS hB2 hG
  refine Held.one (i := 7) rfl (by kernel_rfl) rfl (fun K hK => ?_)
  unfold Oper.wp
  go_simp
  refine (HP2.out X2 hG2).mono ?_
  rintro e X3 ⟨Aq, cq, rfl, hr2, hB3⟩
  have hr2 := hr2 0
  have hG3 := bstep hG2 hB3
  have hr1 := hr1.below hB3
  have hS3 := (hB3.cell (World.block_lt_of_cell? _ _ hS2)).trans hS2
  refine hK _ _ (fun _ => hS3) ?_
  try simp only [Act.put]
  clear hK K hS2 hB3 hG2 HP1 HP2
  refine Held.one (i := 8) rfl (by kernel_rfl) rfl (fun K hK => ?_)
  unfold Oper.wp
  go_simp
  have HC0 := hide (R2Compare_any Ap k.n' cp (pick x by_) Aq k.n' cq (pick y by_) X3 hr1.rd hr2.rd (by omega))
  obtain ⟨cc, hcc⟩ : ∃ cc, cmpR (pick x by_) (pick y by_) = cc := ⟨_, rfl⟩
  have hcs := cmpR_cases (pick x by_) (pick y by_)
  rw [hcc] at HC0 HA hcs
  clear hcc hr1 hr2
  refine HC0.out.mono ?_
  rintro e X4 ⟨rfl, hB4⟩
  have hG4 := bstep hG3 hB4
  have hS4 := (hB4.cell (World.block_lt_of_cell? _ _ hS3)).trans hS3
  refine hK _ _ (fun _ => hS4) ?_
  try simp only [Act.put]
  clear hK K hS3 hB4 hG3 HC0
  refine Held.one (i := 9) rfl (by kernel_rfl) rfl (fun K hK => ?_)
  unfold Oper.wp
  go_simp
  refine hK _ _ (fun _ => hS4) ?_
  try simp only [Act.put]
  clear hK K hS4
  refine Held.done (by kernel_rfl) ?_
  have HB4 := hide (bstep hB hG4)
  have c2b := (hG4.cell (World.block_lt_of_cell? _ _ c2)).trans c2
  have HC2 := hide (HCM.out X4 hG4)
  clear c2 hB HCM hG4
  obtain ⟨u, hu⟩ : ∃ u, sgn dn * cc = u := ⟨_, rfl⟩
  rw [hu] at HA
  obtain ⟨z, hz⟩ : ∃ z, cmpR x y = z := ⟨_, rfl⟩
  rw [hz] at HA HC2
  have hneg : dn = true → IntKind.i64.wrap (-cc) = u := fun h => by
    subst h
    rw [IntKind.wrap_i64, ← hu]
    unfold sgn
    rcases hcs with rfl | rfl | rfl <;> decide
  have hpos : dn = false → cc = u := fun h => by
    subst h
    rw [← hu]
    unfold sgn
    simp
  clear hu hz hcs
  cases dn
  · have z0 := 0
    clear z0
    obtain rfl := hpos rfl
    clear hneg hpos
    by_cases a1 : cc < 0
    · have d1 : decide (cc < 0) = true := decide_eq_true a1
      have HX := hide (show true = ans by rw [← HA.out, d1]; rfl)
      clear a1
      go_wp2
      go_ret
      exact ⟨ret_bool HX.out, HB4.out⟩
    have d1 : decide (cc < 0) = false := decide_eq_false a1
    by_cases a2 : cc = 0
    · have d2 : (cc == 0) = true := by simpa using a2
      have HX := hide (show decide (z < 0) = ans by rw [← HA.out, d1, a2]; simp)
      clear a1 a2
      go_wp2_with fail
      refine HC2.out.mono ?_
      rintro e X5 ⟨rfl, hB5⟩
      have HB5 := hide (bstep HB4.out hB5)
      clear hB5
      go_wp2
      go_ret
      exact ⟨ret_bool HX.out, HB5.out⟩
    · have d2 : (cc == 0) = false := by simpa using a2
      have HX := hide (show false = ans by rw [← HA.out, d1]; simp [a2])
      clear a1 a2
      go_wp2
      go_ret
      exact ⟨ret_bool HX.out, HB4.out⟩
  · have z0 := 0
    clear z0
    have hn1 := hneg rfl
    clear hneg hpos
    by_cases a1 : u < 0
    · have d1 : decide (u < 0) = true := decide_eq_true a1
      have HX := hide (show true = ans by rw [← HA.out, d1]; rfl)
      clear a1
      go_wp2
      go_ret
      exact ⟨ret_bool HX.out, HB4.out⟩
    have d1 : decide (u < 0) = false := decide_eq_false a1
    by_cases a2 : u = 0
    · have d2 : (u == 0) = true := by simpa using a2
      have HX := hide (show decide (z < 0) = ans by rw [← HA.out, d1, a2]; simp)
      clear a1 a2
      go_wp2_with fail
      refine HC2.out.mono ?_
      rintro e X5 ⟨rfl, hB5⟩
      have HB5 := hide (bstep HB4.out hB5)
      clear hB5
      go_wp2
      go_ret
      exact ⟨ret_bool HX.out, HB5.out⟩
    · have d2 : (u == 0) = false := by simpa using a2
      have HX := hide (show false = ans by rw [← HA.out, d1]; simp [a2])
      clear a1 a2
      go_wp2
      go_ret
      exact ⟨ret_bool HX.out, HB4.out⟩
set_option maxRecDepth 100000 in
set_option maxHeartbeats 2000000 in
theorem Fits_any (A : Option Addr) (n c : Nat) (l : List It) (width : Int) (w : World) (hb : BagR w w.heap.size A n l) : Calls Tryz.prog 93 #[.slice A n c, .int .i64 width] w (RetV w (.bool (fitB (dat l) width))) := by
  have hn := hb.le
  have HL := hide hb.len
  obtain ⟨ans, hans⟩ : ∃ ans, fitB (dat l) width = ans := ⟨_, rfl⟩
  rw [hans]
  unfold fitB at hans
  rw [fit_any hb.rows] at hans
  have HA := hide hans
  clear hans
  go_enter Tryz.func93, Tryz.ntmps93
  go_wp2_with fail
  go_loopw [5] (fun i wr => ∃ q : Nat, q ≤ n ∧ i = .int .i64 q ∧ (l.take q).any (fun x => ((x.n : Int) != width)) = false ∧ wr = w) (fun i _ => n - (intOf i).toNat)
  case atStart => exact ⟨0, Nat.zero_le _, rfl, rfl, rfl⟩
  case round =>
    obtain ⟨q, hq, rfl, hany, hwr⟩ := hrel
    subst hwr
    have HN := hide hany
    clear hany
    by_cases hlt : q < n
    · obtain ⟨b, off, x, rfl, hbb, hxq, c0, c1, hrow⟩ := hb.at_ hlt
      have HE := hide hxq
      have q1 : (0 : Int) ≤ (q : Int) := by omega
      have q2 : (q : Int) < (n : Int) := by omega
      clear hxq hrow
      by_cases he : (x.n : Int) = width
      · have z : ((x.n : Int) != width) = false := by simpa using he
        have HX := hide (show (l.take (q + 1)).any (fun x => ((x.n : Int) != width)) = false by rw [take_snoc' HE.out, List.any_append, HN.out]; simpa using he)
        clear he
        go_wp2
        go_roundw
        case rel => exact ⟨q + 1, by omega, by go_num, HX.out, trivial⟩
        case measure => simp [intOf]; omega
      · have z : ((x.n : Int) != width) = true := by simpa using he
        have HX := hide (show false = ans by
          rw [← HA.out]
          have : l.any (fun x => ((x.n : Int) != width)) = true := List.any_eq_true.2 ⟨x, List.mem_of_getElem? HE.out, z⟩
          rw [this]; simp)
        clear he
        go_wp2
        go_ret
        exact ⟨ret_bool HX.out, Below.refl _ _⟩
    · obtain rfl : q = n := by omega
      have HX := hide (show okBag (dat l) = ans by
        have h := HN.out
        rw [take_all HL.out] at h
        rw [← HA.out, h]; simp)
      go_wp2_with fail
      refine (R3Valid_any A q c _ l wr hb).mono ?_
      rintro e W1 ⟨rfl, hB1⟩
      go_wp2
      go_ret
      exact ⟨ret_bool HX.out, hB1⟩
theorem judged_any (k : Sk) (s : Stp) (width : Int) (A : Option Addr) (n c : Nat) (l : List It) (w : World) (hs : SetK w w.heap.size k s) (hb : BagR w w.heap.size A n l) :
    Calls Tryz.prog 55 #[k.v s, .int .i64 width, .slice A n c] w (RetV w (.int .i64 (askE s width (dat l)))) := by
  obtain ⟨ans, hans⟩ : ∃ ans, askE s width (dat l) = ans := ⟨_, rfl⟩
  rw [hans]
  unfold askE at hans
  have HA := hide hans
  clear hans
  have hB := below_val (w := w) #[.slice k.A k.n k.c, .slice k.A' k.n' k.c', .bool s.dn, .int .i64 s.n] 34
  have kb := Blk.new w 34 #[.slice k.A k.n k.c, .slice k.A' k.n' k.c', .bool s.dn, .int .i64 s.n]
  have hs1 := hs.up hB
  have hb1 := (hb.below hB).mono hB.size
  clear hs hb
  unfold Sk.v
  go_enter Tryz.func55, Tryz.ntmps55
  go_upto_region 1 with fail
  obtain ⟨W, hW⟩ : ∃ W, w.alloc (.cells #[.slice k.A k.n k.c, .slice k.A' k.n' k.c', .bool s.dn, .int .i64 s.n] 34) = W := ⟨_, rfl⟩
  rw [hW] at hB kb hs1 hb1 ⊢
  clear hW
  have c0 := kb.cell 0
  have c1 := kb.cell 1
  have c2 := kb.cell 2
  have c3 := kb.cell 3
  simp at c0 c1 c2 c3
  have HV0 := RefValid_any k s width W hs1
  unfold Sk.v at HV0
  have HV := hide HV0
  clear HV0 kb
  cases h1 : okS s width
  · rw [h1] at HV
    have HX := hide (show 1 = ans by rw [← HA.out, h1]; rfl)
    clear h1
    go_wp2_with fail
    refine HV.out.mono ?_
    rintro e W1 ⟨rfl, hB1⟩
    go_wp2
    go_ret
    exact ⟨ret_int HX.out, bstep hB hB1⟩
  rw [h1] at HV
  go_wp2_with fail
  refine HV.out.mono ?_
  rintro e W1 ⟨rfl, hB1⟩
  have hB2 := bstep hB hB1
  have hb2 := (hb1.below hB1).mono hB1.size
  have HR := hide (Fits_any A n c l width W1 hb2)
  clear hB hB1 hb1 hs1 HV c0 c1 c2 c3
  cases h2 : fitB (dat l) width
  · rw [h2] at HR
    have HX := hide (show 1 = ans by rw [← HA.out, h1, h2]; rfl)
    clear h1 h2
    go_wp2_with fail
    refine HR.out.mono ?_
    rintro e W2 ⟨rfl, hB3⟩
    go_wp2
    go_ret
    exact ⟨ret_int HX.out, bstep hB2 hB3⟩
  rw [h2] at HR
  go_wp2_with fail
  refine HR.out.mono ?_
  rintro e W2 ⟨rfl, hB3⟩
  have hB4 := bstep hB2 hB3
  have hb3 := hb2.below hB3
  have HW := hide (RWhole_any A n c _ l W2 hb3)
  clear hB2 hB3 hb2 HR
  cases h3 : wholeB (dat l)
  · rw [h3] at HW
    have HX := hide (show 10 = ans by rw [← HA.out, h1, h2, h3]; rfl)
    clear h1 h2 h3
    go_wp2_with fail
    refine HW.out.mono ?_
    rintro e W3 ⟨rfl, hB5⟩
    go_wp2
    go_ret
    exact ⟨ret_int HX.out, bstep hB4 hB5⟩
  · rw [h3] at HW
    have HX := hide (show 0 = ans by rw [← HA.out, h1, h2, h3]; rfl)
    clear h1 h2 h3
    go_wp2_with fail
    refine HW.out.mono ?_
    rintro e W3 ⟨rfl, hB5⟩
    go_wp2
    go_ret
    exact ⟨ret_int HX.out, bstep hB4 hB5⟩
end

section
open Go.RowKit
attribute [local go_sem] Oper.semAt_some
set_option linter.unusedVariables false
set_option linter.unusedSimpArgs false

/-- What Less answers. -/
def lessB (s : Stp) (x y : Rw) : Bool := has x s.per && has x s.by_ && (has y s.per && has y s.by_) && decide (ordS s x y < 0)
/-- What a row lacks of the columns. -/
def lackB (s : Stp) (n : Nat) : Bool := (s.per ++ s.by_).any fun c => !btw c 0 ((n : Int) - 1)
theorem lack_has {s : Stp} {r : Rw} {n : Nat} (h : r.length = n) : lackB s n = !(has r s.per && has r s.by_) := by
  unfold lackB has
  rw [List.any_append, h]
  have gen : ∀ l : List Int, (l.any fun c => !btw c 0 ((n : Int) - 1)) = !(l.all fun c => btw c 0 ((n : Int) - 1)) := by
    intro l
    induction l with
    | nil => rfl
    | cons c l ih => rw [List.any_cons, List.all_cons, ih]; cases btw c 0 ((n : Int) - 1) <;> simp
  rw [gen, gen]
  cases s.per.all (fun c => btw c 0 ((n : Int) - 1)) <;> cases s.by_.all (fun c => btw c 0 ((n : Int) - 1)) <;> rfl
theorem less11_any (x : Int) (br : Nat) (A : Option Addr) (n c : Nat) (w : World) (h : w.cell? ⟨br, 0, none⟩ = some (.slice A n c)) (hn : n ≤ 9223372036854775807) : Calls Tryz.prog 66 #[.int .i64 x, .pointer (some ⟨br, 0, none⟩)] w (RetV w (.bool (!btw x 0 ((n : Int) - 1)))) := by
  obtain ⟨b, hb⟩ : ∃ b, btw x 0 ((n : Int) - 1) = b := ⟨_, rfl⟩
  have HB := hide (hb ▸ rwithin_any x 0 ((n : Int) - 1) w)
  rw [hb]
  clear hb
  have wr : IntKind.i64.wrap ((n : Int) - 1) = (n : Int) - 1 := by rw [IntKind.wrap_i64]; omega
  go_enter Tryz.func66, Tryz.ntmps66
  go_wp2_with fail
  refine HB.out.mono ?_
  rintro e w' ⟨rfl, rfl⟩
  go_wp2
  go_ret
  exact ⟨rfl, Below.refl _ _⟩
set_option maxRecDepth 100000 in
set_option maxHeartbeats 2000000 in
theorem less1_any (k : Sk) (s : Stp) (bs : Nat) (A : Option Addr) (n c : Nat) (w : World) (hs : SetK w w.heap.size k s) (hbs : BoxS w bs k s) (hn : n ≤ 9223372036854775807) (h60 : k.n ≤ 60) (h60' : k.n' ≤ 60) :
    Calls Tryz.prog 63 #[.slice A n c, .pointer (some ⟨bs, 0, none⟩)] w (RetV w (.bool (lackB s n))) := by
  have hB1 := below_val (w := w) #[.slice A n c] 42
  have k1 := (Blk.new w 42 #[.slice A n c]).alloc (.cells #[.slice k.A k.n k.c, .slice k.A' k.n' k.c'] 22)
  have k2 := Blk.new (w.alloc (.cells #[.slice A n c] 42)) 22 #[.slice k.A k.n k.c, .slice k.A' k.n' k.c']
  have hB2 := bstep hB1 (below_val (w := w.alloc (.cells #[.slice A n c] 42)) #[.slice k.A k.n k.c, .slice k.A' k.n' k.c'] 22)
  rw [World.size_alloc] at k2
  have hbx := hbs.below hB1
  have g0 := hbx.c0
  have g1 := hbx.c1
  have hs2 := hs.up hB2
  have hsz2 : ((w.alloc (.cells #[.slice A n c] 42)).alloc (.cells #[.slice k.A k.n k.c, .slice k.A' k.n' k.c'] 22)).heap.size = w.heap.size + 1 + 1 := by simp
  obtain ⟨ans, hans⟩ : ∃ ans, lackB s n = ans := ⟨_, rfl⟩
  rw [hans]
  have HA := hide (show ((s.per ++ s.by_).any fun c => !btw c 0 ((n : Int) - 1)) = ans from hans)
  clear hs hbs hB1 hans hbx
  go_enter Tryz.func63, Tryz.ntmps63
  go_wp2_with fail
  obtain ⟨W, hW⟩ : ∃ W, (w.alloc (.cells #[.slice A n c] 42)).alloc (.cells #[.slice k.A k.n k.c, .slice k.A' k.n' k.c'] 22) = W := ⟨_, rfl⟩
  rw [hW] at k1 k2 hB2 hs2 hsz2 ⊢
  clear hW g0 g1
  have hT : TabI W W.heap.size (some ⟨w.heap.size + 1, 0, none⟩) 2 [⟨k.A, k.n, k.c, s.per⟩, ⟨k.A', k.n', k.c', s.by_⟩] := ⟨⟨rfl, fun _ => ⟨w.heap.size + 1, 0, rfl, k2.lt, fun j u hu => by
    rw [Nat.zero_add, k2.cell]
    simpa [Ri.val] using hu⟩⟩, fun r hr => by
    rcases List.mem_cons.1 hr with rfl | hr
    · exact hs2.p
    · obtain rfl := List.mem_singleton.1 hr
      exact hs2.b⟩
  have HC := hide (ConcatI_any (some ⟨w.heap.size + 1, 0, none⟩) 2 2 _ W hT (by omega) (fun r hr => by
    rcases List.mem_cons.1 hr with rfl | hr
    · exact h60
    · obtain rfl := List.mem_singleton.1 hr
      exact h60'))
  have e1 : allZ [(⟨k.A, k.n, k.c, s.per⟩ : Ri), ⟨k.A', k.n', k.c', s.by_⟩] = s.per ++ s.by_ := by simp [allZ]
  have e2 : lenZ [(⟨k.A, k.n, k.c, s.per⟩ : Ri), ⟨k.A', k.n', k.c', s.by_⟩] = k.n + k.n' := by simp [lenZ]
  rw [e1, e2] at HC
  clear hT e1 e2 k2 hs2 hsz2
  refine HC.out.mono ?_
  rintro e W1 ⟨A1, c1, rfl, hown, hB3⟩
  have k3 := k1.below hB3 k1.lt
  have hB4 := bstep hB2 hB3
  have HI := hide (con_ints A1 (k.n + k.n') c1 W1.heap.size (s.per ++ s.by_) W1 (Reads.of_own hown) (by omega) (Nat.le_refl _) 66 #[.pointer (some ⟨w.heap.size, 0, none⟩)] (fun c => !btw c 0 ((n : Int) - 1)) (enters_of Tryz.func66 (by kernel_rfl) rfl) (fun x _ W hW => less11_any x w.heap.size A n c W (by
    have := (k3.below hW k3.lt).cell 0
    simpa using this) hn))
  rw [HA.out] at HI
  clear hown hB3 hB2 k1 k3 HC
  go_wp2_with fail
  refine HI.out.mono ?_
  rintro e W2 ⟨rfl, hB5⟩
  have HE := hide (bstep hB4 hB5)
  clear hB4 hB5
  go_wp2
  go_ret
  exact ⟨rfl, HE.out⟩
set_option maxRecDepth 100000 in
set_option maxHeartbeats 4000000 in
theorem Less_any (k : Sk) (s : Stp) (A : Option Addr) (n c : Nat) (x : Rw) (A' : Option Addr) (n' c' : Nat) (y : Rw) (w : World) (hs : SetK w w.heap.size k s) (h60 : k.n ≤ 60) (h60' : k.n' ≤ 60) (hx : Reads w w.heap.size 3 A n (x.flatMap encV)) (hy : Reads w w.heap.size 3 A' n' (y.flatMap encV)) (hn : n ≤ 9223372036854775807) (hn' : n' ≤ 9223372036854775807) :
    Calls Tryz.prog 21 #[k.v s, .slice A n c, .slice A' n' c'] w (RetV w (.bool (lessB s x y))) := by
  have hl := hx.len encV_len (by omega)
  have hl' := hy.len encV_len (by omega)
  obtain ⟨ans, hans⟩ : ∃ ans, lessB s x y = ans := ⟨_, rfl⟩
  rw [hans]
  have HA := hide hans
  unfold lessB at hans
  rw [← Bool.not_not (has x s.per && has x s.by_), ← lack_has hl, ← Bool.not_not (has y s.per && has y s.by_), ← lack_has hl'] at hans
  have HA := hide hans
  have hB := below_val (w := w) #[.slice k.A k.n k.c, .slice k.A' k.n' k.c', .bool s.dn, .int .i64 s.n] 24
  have kb := Blk.new w 24 #[.slice k.A k.n k.c, .slice k.A' k.n' k.c', .bool s.dn, .int .i64 s.n]
  have hs1 := hs.up hB
  have hx1 := hx.up hB
  have hy1 := hy.up hB
  have HL := hide hl
  have HL' := hide hl'
  clear hs hx hy hans hl hl'
  unfold Sk.v
  go_enter Tryz.func21, Tryz.ntmps21
  go_upto_region 2 with fail
  obtain ⟨W, hW⟩ : ∃ W, w.alloc (.cells #[.slice k.A k.n k.c, .slice k.A' k.n' k.c', .bool s.dn, .int .i64 s.n] 24) = W := ⟨_, rfl⟩
  obtain ⟨bs, hbs⟩ : ∃ bs, w.heap.size = bs := ⟨_, rfl⟩
  rw [hW] at hB kb hs1 hx1 hy1 ⊢
  rw [hbs] at kb ⊢
  have HBS := hide hbs
  clear hW hbs
  have hbx : BoxS W bs k s := ⟨by simpa using kb.cell 0, by simpa using kb.cell 1, by simpa using kb.cell 2, by simpa using kb.cell 3⟩
  have HC1 := hide (less1_any k s bs A n c W hs1 hbx hn h60 h60')
  clear kb
  cases h1 : lackB s n
  · rw [h1] at HC1
    go_wp2_with fail
    refine HC1.out.mono ?_
    rintro e W1 ⟨rfl, hB1⟩
    have hs2 := hs1.up hB1
    have hbx2 := hbx.below hB1
    have hx2 := hx1.up hB1
    have hy2 := hy1.up hB1
    have hB2 := bstep hB hB1
    have HC2 := hide (less1_any k s bs A' n' c' W1 hs2 hbx2 hn' h60 h60')
    clear hs1 hbx hx1 hy1 hB1 hB HC1
    cases h2 : lackB s n'
    · rw [h2] at HC2
      have hh1 : has x s.by_ = true := by
        have := lack_has (s := s) HL.out
        rw [h1] at this
        revert this
        cases has x s.per <;> cases has x s.by_ <;> simp
      have hh2 : has y s.by_ = true := by
        have := lack_has (s := s) HL'.out
        rw [h2] at this
        revert this
        cases has y s.per <;> cases has y s.by_ <;> simp
      have HX := hide (show decide (ordS s x y < 0) = ans by rw [← HA.out, h1, h2]; simp)
      have HH1 := hide hh1
      have HH2 := hide hh2
      clear h1 h2 hh1 hh2
      go_wp2_with fail
      refine HC2.out.mono ?_
      rintro e W2 ⟨rfl, hB3⟩
      have hs3 := hs2.up hB3
      have hbx3 := hbx2.below hB3
      have hx3 := hx2.up hB3
      have hy3 := hy2.up hB3
      have hB4 := bstep hB2 hB3
      have g0 := hbx3.c0
      have g1 := hbx3.c1
      have g2 := hbx3.c2
      have g3 := hbx3.c3
      have hO := order_any k s W2
      unfold Sk.v at hO
      have HO := hide hO
      clear hs2 hbx2 hx2 hy2 hB3 hB2 HC2 hO
      go_wp2_with fail
      refine HO.out.mono ?_
      rintro e W3 ⟨b1, b2, rfl, hb1, hb2, hof, hB5⟩
      have HF := hide (ord_g k s b1 b2 A n c x A' n' c' y W3 (hs3.up hB5) hof.box hof.sg (hx3.up hB5) (hy3.up hB5) hn hn' HH1.out HH2.out)
      have hB6 := bstep hB4 hB5
      obtain ⟨u, hu⟩ : ∃ u, ordS s x y = u := ⟨_, rfl⟩
      rw [hu] at HF HX
      clear g0 g1 g2 g3 HO hs3 hbx3 hx3 hy3 hof hB5 hB4 hu hb1 hb2
      unfold ordV
      go_wp2_with fail
      refine HF.out.mono ?_
      rintro e W4 ⟨rfl, hG⟩
      have HE := hide (bstep hB6 hG.b)
      clear hG hB6 HF
      go_wp2
      go_ret
      exact ⟨ret_bool HX.out, HE.out⟩
    · rw [h2] at HC2
      have HX := hide (show false = ans by rw [← HA.out, h2]; simp)
      clear h1 h2
      go_wp2_with fail
      refine HC2.out.mono ?_
      rintro e W2 ⟨rfl, hB3⟩
      have HE := hide (bstep hB2 hB3)
      clear hB3 hB2
      go_wp2
      go_ret
      exact ⟨ret_bool HX.out, HE.out⟩
  · rw [h1] at HC1
    have HX := hide (show false = ans by rw [← HA.out, h1]; simp)
    clear h1
    go_wp2_with fail
    refine HC1.out.mono ?_
    rintro e W1 ⟨rfl, hB1⟩
    have HE := hide (bstep hB hB1)
    clear hB1 hB
    go_wp2
    go_ret
    exact ⟨ret_bool HX.out, HE.out⟩
set_option maxRecDepth 100000 in
set_option maxHeartbeats 2000000 in
theorem rhas_any (A : Option Addr) (n c : Nat) (r : Rw) (A' : Option Addr) (n' c' : Nat) (key : List Int) (w : World) (hr : r.length = n) (hn : n ≤ 9223372036854775807) (hkr : Reads w w.heap.size 1 A' n' (key.map (Value.int .i64))) (hn' : n' ≤ 9223372036854775807) :
    Calls Tryz.prog 68 #[.slice A n c, .slice A' n' c'] w (RetV w (.bool (has r key))) := by
  have HL := hide hkr.len1
  have HR := hide hr
  obtain ⟨p, hp⟩ : ∃ p, has r key = p := ⟨_, rfl⟩
  rw [hp]
  have HP := hide hp
  clear hp hr
  have hw1 : IntKind.i64.wrap ((n : Int) - 1) = (n : Int) - 1 := by rw [IntKind.wrap_i64]; omega
  go_enter Tryz.func68, Tryz.ntmps68
  go_wp2_with fail
  go_loopw [5] (fun i wr => ∃ k : Nat, k ≤ n' ∧ i = .int .i64 k ∧ has r (key.take k) = true ∧ Below w.heap.size w wr) (fun i _ => n' - (intOf i).toNat)
  case atStart => exact ⟨0, Nat.zero_le _, rfl, rfl, Below.refl _ _⟩
  case round =>
    obtain ⟨k, hk, rfl, hal, hBw⟩ := hrel
    have HAL := hide hal
    clear hal
    by_cases hlt : k < n'
    · obtain ⟨b, off, x, rfl, hb, hxk, c0⟩ := (hkr.below hBw).at1 hlt
      have HXK := hide hxk
      obtain ⟨bt, hbt⟩ : ∃ bt, btw x 0 ((n : Int) - 1) = bt := ⟨_, rfl⟩
      have HW := hide (hbt ▸ fwithin_any x 0 ((n : Int) - 1) wr)
      have HBT := hide hbt
      have q1 : (0 : Int) ≤ (k : Int) := by omega
      have q2 : (k : Int) < (n' : Int) := by omega
      clear hxk hbt
      go_wp2_with fail
      refine HW.out.mono ?_
      rintro e wr' ⟨rfl, rfl⟩
      clear HW c0
      cases bt
      · have HX := hide (show p = false by
          rw [← HP.out]
          unfold has
          rw [List.all_eq_false]
          exact ⟨x, List.mem_of_getElem? HXK.out, by rw [HR.out, HBT.out]; decide⟩)
        go_wp2
        go_ret
        exact ⟨ret_bool HX.out.symm, hBw⟩
      · have HX := hide (show has r (key.take (k + 1)) = true by
          have h1 := HAL.out
          unfold has at h1 ⊢
          rw [take_snoc' HXK.out, List.all_append, h1]
          simp only [List.all_cons, List.all_nil, Bool.and_true, Bool.true_and]
          rw [HR.out]
          exact HBT.out)
        go_wp2
        go_roundw
        case rel => exact ⟨k + 1, by omega, by go_num, HX.out, hBw⟩
        case measure => simp [intOf] <;> omega
    · obtain rfl : k = n' := by omega
      have HX := hide (show p = true by have := HAL.out; rw [take_all HL.out] at this; rw [← HP.out]; exact this)
      go_wp2
      go_ret
      exact ⟨ret_bool HX.out.symm, hBw⟩
end

end Go.Proofs.YtljglceaibgknaaGreatDoor
