/-
  slices.Concat over rows: slices.Grow at values laid (as the kit's own tool prints it), the walk. (XRkX turned to rows.)
-/
import Derived.Shelf.Spec.SlicesGrow
import Derived.Test.YtoapjidpfghnlaaGreatDoorBgP2
import Derived.Test.YtoapjidpfghnlaaGreatDoorGb
import Derived.Test.YtoapjidpfghnlaaGreatDoorPjA
namespace Go.Proofs.YtoapjidpfghnlaaGreatDoor
open Go.RowKit Go.Shelf Go.Proofs
attribute [local go_sem] Oper.semAt_some
set_option linter.unusedVariables false
set_option linter.unusedSimpArgs false

def growV_ren : Go.Shelf.Ren := ⟨fun | 4 => 125 | n => n, fun | 22 => 34 | 25 => 102 | 3 => 3 | 4 => 4 | 9 => 9 | 20 => 20 | 0 => 0 | n => n, fun | n => n⟩
theorem growV : Go.Proofs.Lays8.n4 Tryz.prog growV_ren := {
  mixed := by kernel_rfl
  f4 := ⟨Tryz.f125.name, by decide, Tryz.func125.trans (congrArg some (by kernel_rfl))⟩
  t0 := Tryz.underlying0
  a0 := Tryz.isAgg0
  z0 := Tryz.sizeOf0
  v0 := Tryz.zeroValue0
  t3 := Tryz.underlying3
  a3 := Tryz.isAgg3
  z3 := Tryz.sizeOf3
  v3 := Tryz.zeroValue3
  t4 := Tryz.underlying4
  a4 := Tryz.isAgg4
  z4 := Tryz.sizeOf4
  v4 := Tryz.zeroValue4
  t9 := Tryz.underlying9
  a9 := Tryz.isAgg9
  z9 := Tryz.sizeOf9
  v9 := Tryz.zeroValue9
  t20 := Tryz.underlying20
  a20 := Tryz.isAgg20
  z20 := Tryz.sizeOf20
  v20 := Tryz.zeroValue20
  t22 := Tryz.underlying34
  a22 := Tryz.isAgg34
  z22 := Tryz.sizeOf34
  v22 := Tryz.zeroValue34 }
theorem one_vals (r : Rw) : ∀ u ∈ r.flatMap encV, u.oneCell' = true := fun u hu => by
  obtain ⟨y, _, hy⟩ := List.mem_flatMap.1 hu
  unfold encV at hy
  simp only [List.mem_cons, List.not_mem_nil, or_false] at hy
  rcases hy with rfl | rfl | rfl <;> rfl
/-- A row that reads. -/
structure RoV where
  a : Option Addr
  n : Nat
  c : Nat
  xs : Rw
def RoV.val (r : RoV) : Value := .slice r.a r.n r.c
def TabV (w : World) (B : Nat) (A : Option Addr) (n : Nat) (R : List RoV) : Prop := Reads w B 1 A n (R.map RoV.val) ∧ ∀ r ∈ R, Reads w B 3 r.a r.n (r.xs.flatMap encV)
theorem TabV.up {w w' : World} {n : Nat} {A : Option Addr} {R : List RoV} (h : TabV w w.heap.size A n R) (hb : Below w.heap.size w w') : TabV w' w'.heap.size A n R := ⟨h.1.up hb, fun r hr => (h.2 r hr).up hb⟩
theorem TabV.below {w w' : World} {B n : Nat} {A : Option Addr} {R : List RoV} (h : TabV w B A n R) (hb : Below B w w') : TabV w' B A n R := ⟨h.1.below hb, fun r hr => (h.2 r hr).below hb⟩
/-- All of them, one behind the other. -/
def allV (R : List RoV) : Rw := R.flatMap fun r => r.xs
def lenV (R : List RoV) : Nat := (R.map fun r => r.n).sum
theorem allV_next {R : List RoV} {k : Nat} {r : RoV} (h : R[k]? = some r) : allV (R.take (k + 1)) = allV (R.take k) ++ r.xs ∧ lenV (R.take (k + 1)) = lenV (R.take k) + r.n := by
  unfold allV lenV
  rw [take_snoc' h]
  simp
theorem lenV_le {R : List RoV} (h : ∀ r ∈ R, r.n ≤ 60) : lenV R ≤ 60 * R.length := by
  induction R with
  | nil => simp [lenV]
  | cons r R ih =>
    have h1 := h r List.mem_cons_self
    have h2 := ih fun x hx => h x (List.mem_cons_of_mem _ hx)
    simp only [lenV, List.map_cons, List.sum_cons, List.length_cons] at h2 ⊢
    omega
set_option maxRecDepth 100000 in
theorem GrowV_any (m : Nat) (w : World) (hm : m ≤ 40000) :
    Calls Tryz.prog 125 #[.slice none 0 0, .int .i64 (m : Int)] w fun e w' => ∃ v, e = .returned v ∧ w'.ownsRow w.heap.size 102 3 v 0 [] ∧ Below w.heap.size w w' := by
  obtain ⟨i0, hi0, hz0, hz1, hz2⟩ := info_parts infoV
  rcases Nat.eq_zero_or_pos m with h0 | h0
  · subst h0
    exact (Go.Proofs.Any8.slices_Grow_room growV none 0 0 0 w (by omega) (by omega) (by omega) (by omega)).mono fun e w' ⟨he, hw⟩ => by
      subst hw
      exact ⟨_, he, World.ownsRow_nil _ _ _ _, Below.refl _ _⟩
  · have hcon := Go.Proofs.Any8.slices_Grow_grow growV i0 _ hi0 hz0 (by rw [hz1]; omega) none 0 0 m [] w (by omega) (by omega) (by rw [hz2]; omega) (by omega) (by simp) (fun _ => rfl) (fun a h => by cases h)
    change Calls Tryz.prog 125 _ _ _ at hcon
    refine hcon.mono ?_
    rintro e w' ⟨rfl, rfl⟩
    have hge : 0 + m ≤ grownCap w (0 + m) 0 102 := grownCap_ge w (0 + m) 0 102
    have hle := grownCap_le_maxLen w (0 + m) 0 102 (by unfold maxLen; omega)
    refine ⟨_, rfl, ⟨by simp, .inr ⟨w.heap.size, _, _, rfl, Nat.le_refl _, heap_alloc_new w.drew _, Nat.zero_le _, hle, ?_, by simp⟩⟩, ((Below.refl _ _).drew).alloc (Nat.le_refl _) _⟩
    rw [Array.size_append, Array.size_append, size_zeroCells, size_zeroCells]
    show (0 : Nat) + (0 + m - 0) * 3 + (grownCap w (0 + m) 0 102 - (0 + m)) * 3 = grownCap w (0 + m) 0 102 * 3
    omega
set_option maxRecDepth 100000 in
set_option maxHeartbeats 4000000 in
theorem ConcatV_any (A : Option Addr) (n c : Nat) (R : List RoV) (w : World) (hT : TabV w w.heap.size A n R) (hn : n ≤ 400) (hr : ∀ r ∈ R, r.n ≤ 60) :
    Calls Tryz.prog 69 #[.slice A n c] w (RetOwn w 102 3 (lenV R) ((allV R).flatMap encV)) := by
  obtain ⟨i0, hi0, hz0, hz1, hz2⟩ := info_parts infoV
  have HL := hide (show R.length = n from hT.1.len1)
  have hlt : lenV R ≤ 24000 := by have := lenV_le hr; rw [HL.out] at this; omega
  have hpre : ∀ k, lenV (R.take k) ≤ 24000 := fun k => by
    have h1 := lenV_le (R := R.take k) fun r hr' => hr r (List.mem_of_mem_take hr')
    have h2 : (R.take k).length ≤ n := by rw [List.length_take, HL.out]; omega
    omega
  have HPRE := hide hpre
  clear hpre
  go_enter Tryz.func69, Tryz.ntmps69
  go_wp2_with fail
  go_loopw [3, 11] (fun s i wr => ∃ k : Nat, k ≤ n ∧ i = .int .i64 k ∧ s = .int .i64 (lenV (R.take k) : Nat) ∧ wr = w) (fun _ i _ => n - (intOf i).toNat)
  case atStart => exact ⟨0, Nat.zero_le _, rfl, rfl, rfl⟩
  case round =>
    obtain ⟨k, hk, rfl, rfl, hw⟩ := hrel
    subst hw
    by_cases hlt2 : k < n
    · obtain ⟨b, off, r, rfl, hb, hrk, hc⟩ := hT.1.at1 hlt2
      have hc' : wr.cell? ⟨b, off + k, none⟩ = some (.slice r.a r.n r.c) := hc
      have hrn := hr r (List.mem_of_getElem? hrk)
      have HN := hide (allV_next hrk).2
      have hp := HPRE.out k
      obtain ⟨s, hs⟩ : ∃ s, lenV (R.take k) = s := ⟨_, rfl⟩
      rw [hs] at hp HN ⊢
      clear hrk hc hs
      have q1 : (0 : Int) ≤ (k : Int) := by omega
      have q2 : (k : Int) < (n : Int) := by omega
      go_wp2
      go_roundw
      case rel => exact ⟨k + 1, by omega, by go_num, by rw [HN.out]; go_num, trivial⟩
      case measure => simp [intOf]; omega
    · obtain rfl : n = k := by omega
      obtain ⟨ws, hws⟩ : ∃ ws : World, ws = wr := ⟨_, rfl⟩
      subst hws
      rw [take_all HL.out]
      obtain ⟨m, hm⟩ : ∃ m, lenV R = m := ⟨_, rfl⟩
      rw [hm] at hlt ⊢
      have HM := hide hm
      clear hm
      go_wp2_with fail
      refine (GrowV_any m ws (by omega)).mono ?_
      rintro e W2 ⟨v2, rfl, hown, hB2⟩
      have hT2 := hT.below hB2
      go_wp2_with fail
      go_loopw [6, 27] (fun v i wx => ∃ k m : Nat, k ≤ n ∧ i = .int .i64 k ∧ lenV (R.take k) = m ∧ wx.ownsRow ws.heap.size 102 3 v m ((allV (R.take k)).flatMap encV) ∧ Below ws.heap.size ws wx) (fun _ i _ => n - (intOf i).toNat)
      case atStart => exact ⟨0, 0, Nat.zero_le _, rfl, rfl, hown, hB2⟩
      case round =>
        clear hown hB2
        obtain ⟨k, m2, hk2, rfl, hm2, hown, hB⟩ := hrel
        have hp := HPRE.out k
        rw [hm2] at hp
        have hT3 := hT.below hB
        have hWs := hB.size
        by_cases hlt3 : k < n
        · obtain ⟨b, off, r, rfl, hb, hrk, hc⟩ := hT3.1.at1 hlt3
          have hc' : wr.cell? ⟨b, off + k, none⟩ = some (.slice r.a r.n r.c) := hc
          have hrn := hr r (List.mem_of_getElem? hrk)
          have hrd := hT3.2 r (List.mem_of_getElem? hrk)
          have one := one_vals r.xs
          have HN := hide (allV_next hrk).2
          have HA := hide (allV_next hrk).1
          have HM2 := hide hm2
          clear hrk hc hm2
          have q1 : (0 : Int) ≤ (k : Int) := by omega
          have q2 : (k : Int) < (n : Int) := by omega
          go_wp2_with (at_builtin; refine wpList_append_any _ rfl _ _ 34 rfl ws.heap.size 102 i0 _ 3 32 Tryz.underlying34 hi0 hz0 hz1 hz2 rfl (by decide) _ m2 _ rfl hown ws.heap.size r.a r.n r.c (r.xs.flatMap encV) rfl hrd one (by unfold maxLen; omega) (by omega) (by omega) ?_; intro v3 w3 hown3 hgrow _; have hB3 : Below ws.heap.size ws w3 := below_append hB hown (by omega) hgrow; clear hgrow)
          clear hown hB one hrd
          go_wp2
          go_roundw
          case rel => exact ⟨k + 1, m2 + r.n, by omega, by go_num, by rw [HN.out, HM2.out], by rw [HA.out, List.flatMap_append]; exact hown3, hB3⟩
          case measure => simp [intOf]; omega
        · obtain rfl : k = n := by omega
          rw [take_all HL.out] at hm2 hown
          have e : m2 = m := by rw [← hm2, HM.out]
          subst e
          obtain ⟨A5, c5, rfl, _⟩ := own_form hown
          go_wp2
          go_ret
          rw [HM.out]
          exact ⟨A5, c5, rfl, hown, hB⟩
end Go.Proofs.YtoapjidpfghnlaaGreatDoor
