/-
  The walk of slices.Concat over lists of entries.
-/
import Derived.Test.YthngjbhamgmcgaaEnSo
import Derived.Test.YthngjbhamgmcgaaEnS
namespace Go.Proofs.Ythngjbhamgmcgaa
open Go.RowKit
attribute [local go_sem] Oper.semAt_some
set_option linter.unusedVariables false

/-- A list of entries that reads. -/
structure Er where
  a : Option Addr
  n : Nat
  c : Nat
  xs : List En
def Er.val (r : Er) : Value := .slice r.a r.n r.c
def TabE (w : World) (B : Nat) (A : Option Addr) (n : Nat) (R : List Er) : Prop := Reads w B 1 A n (R.map Er.val) ∧ ∀ r ∈ R, Reads w B 4 r.a r.n (flatE r.xs)
theorem TabE.up {w w' : World} {n : Nat} {A : Option Addr} {R : List Er} (h : TabE w w.heap.size A n R) (hb : Below w.heap.size w w') : TabE w' w'.heap.size A n R := ⟨h.1.up hb, fun r hr => (h.2 r hr).up hb⟩
theorem TabE.below {w w' : World} {B n : Nat} {A : Option Addr} {R : List Er} (h : TabE w B A n R) (hb : Below B w w') : TabE w' B A n R := ⟨h.1.below hb, fun r hr => (h.2 r hr).below hb⟩
/-- All of them, one behind the other. -/
def allL (R : List Er) : List En := R.flatMap fun r => r.xs
def lenL (R : List Er) : Nat := (R.map fun r => r.n).sum
theorem allL_next {R : List Er} {k : Nat} {r : Er} (h : R[k]? = some r) : allL (R.take (k + 1)) = allL (R.take k) ++ r.xs ∧ lenL (R.take (k + 1)) = lenL (R.take k) + r.n := by
  unfold allL lenL
  rw [take_snoc' h]
  simp
theorem lenL_le {R : List Er} (h : ∀ r ∈ R, r.n ≤ 60) : lenL R ≤ 60 * R.length := by
  induction R with
  | nil => simp [lenL]
  | cons r R ih =>
    have h1 := h r List.mem_cons_self
    have h2 := ih fun x hx => h x (List.mem_cons_of_mem _ hx)
    simp only [lenL, List.map_cons, List.sum_cons, List.length_cons] at h2 ⊢
    omega
set_option maxRecDepth 100000 in
theorem Grow_any (m : Nat) (w : World) (hm : m ≤ 40000) :
    Calls Try.prog 75 #[.slice none 0 0, .int .i64 (m : Int)] w fun e w' => ∃ v, e = .returned v ∧ w'.ownsRow w.heap.size 57 4 v 0 [] ∧ Below w.heap.size w w' := by
  obtain ⟨i0, hi0, hz0, hz1, hz2⟩ := info_parts4 infoE
  rcases Nat.eq_zero_or_pos m with h0 | h0
  · subst h0
    exact (Go.Proofs.Any8.slices_Grow_room growE none 0 0 0 w (by omega) (by omega) (by omega) (by omega)).mono fun e w' ⟨he, hw⟩ => by
      subst hw
      exact ⟨_, he, World.ownsRow_nil _ _ _ _, Below.refl _ _⟩
  · have hcon := Go.Proofs.Any8.slices_Grow_grow growE i0 _ hi0 hz0 (by rw [hz1]; omega) none 0 0 m [] w (by omega) (by omega) (by rw [hz2]; omega) (by omega) (by simp) (fun _ => rfl) (fun a h => by cases h)
    change Calls Try.prog 75 _ _ _ at hcon
    refine hcon.mono ?_
    rintro e w' ⟨rfl, rfl⟩
    have hge : 0 + m ≤ grownCap w (0 + m) 0 57 := grownCap_ge w (0 + m) 0 57
    have hle := grownCap_le_maxLen w (0 + m) 0 57 (by unfold maxLen; omega)
    refine ⟨_, rfl, ⟨by simp, .inr ⟨w.heap.size, _, _, rfl, Nat.le_refl _, heap_alloc_new w.drew _, Nat.zero_le _, hle, ?_, by simp⟩⟩, ((Below.refl _ _).drew).alloc (Nat.le_refl _) _⟩
    rw [Array.size_append, Array.size_append, size_zeroCells, size_zeroCells]
    show (0 : Nat) + (0 + m - 0) * 4 + (grownCap w (0 + m) 0 57 - (0 + m)) * 4 = grownCap w (0 + m) 0 57 * 4
    omega
set_option maxRecDepth 100000 in
set_option maxHeartbeats 4000000 in
theorem Concat_any (A : Option Addr) (n c : Nat) (R : List Er) (w : World) (hT : TabE w w.heap.size A n R) (hn : n ≤ 400) (hr : ∀ r ∈ R, r.n ≤ 60) :
    Calls Try.prog 54 #[.slice A n c] w (RetOwn w 57 4 (lenL R) (flatE (allL R))) := by
  obtain ⟨i0, hi0, hz0, hz1, hz2⟩ := info_parts4 infoE
  have HL := hide (show R.length = n from hT.1.len1)
  have hlt : lenL R ≤ 24000 := by have := lenL_le hr; rw [HL.out] at this; omega
  have hpre : ∀ k, lenL (R.take k) ≤ 24000 := fun k => by
    have h1 := lenL_le (R := R.take k) fun r hr' => hr r (List.mem_of_mem_take hr')
    have h2 : (R.take k).length ≤ n := by rw [List.length_take, HL.out]; omega
    omega
  have HPRE := hide hpre
  clear hpre
  go_enter Try.func54, Try.ntmps54
  go_wp2_with fail
  go_loopw [3, 11] (fun s i wr => ∃ k : Nat, k ≤ n ∧ i = .int .i64 k ∧ s = .int .i64 (lenL (R.take k) : Nat) ∧ wr = w) (fun _ i _ => n - (intOf i).toNat)
  case atStart => exact ⟨0, Nat.zero_le _, rfl, rfl, rfl⟩
  case round =>
    obtain ⟨k, hk, rfl, rfl, hw⟩ := hrel
    subst hw
    by_cases hlt2 : k < n
    · obtain ⟨b, off, r, rfl, hb, hrk, hc⟩ := hT.1.at1 hlt2
      have hc' : wr.cell? ⟨b, off + k, none⟩ = some (.slice r.a r.n r.c) := hc
      have hrn := hr r (List.mem_of_getElem? hrk)
      have HN := hide (allL_next hrk).2
      have hp := HPRE.out k
      obtain ⟨s, hs⟩ : ∃ s, lenL (R.take k) = s := ⟨_, rfl⟩
      rw [hs] at hp HN ⊢
      clear hrk hc hs
      have q1 : (0 : Int) ≤ (k : Int) := by omega
      have q2 : (k : Int) < (n : Int) := by omega
      go_wp2
      go_roundw
      case rel => exact ⟨k + 1, by omega, by go_num, by rw [HN.out]; go_num, trivial⟩
      case measure => simp [intOf]; omega
    · obtain rfl : n = k := by omega
      obtain ⟨ws, hws⟩ : ∃ ws : World, ws = wr := ⟨_, rfl⟩
      subst hws
      rw [take_all HL.out]
      obtain ⟨m, hm⟩ : ∃ m, lenL R = m := ⟨_, rfl⟩
      rw [hm] at hlt ⊢
      have HM := hide hm
      clear hm
      go_wp2_with fail
      refine (Grow_any m ws (by omega)).mono ?_
      rintro e W2 ⟨v2, rfl, hown, hB2⟩
      have hT2 := hT.below hB2
      go_wp2_with fail
      go_loopw [6, 27] (fun v i wx => ∃ k m : Nat, k ≤ n ∧ i = .int .i64 k ∧ lenL (R.take k) = m ∧ wx.ownsRow ws.heap.size 57 4 v m (flatE (allL (R.take k))) ∧ Below ws.heap.size ws wx) (fun _ i _ => n - (intOf i).toNat)
      case atStart => exact ⟨0, 0, Nat.zero_le _, rfl, rfl, hown, hB2⟩
      case round =>
        clear hown hB2
        obtain ⟨k, m2, hk2, rfl, hm2, hown, hB⟩ := hrel
        have hp := HPRE.out k
        rw [hm2] at hp
        have hT3 := hT.below hB
        have hWs := hB.size
        by_cases hlt3 : k < n
        · obtain ⟨b, off, r, rfl, hb, hrk, hc⟩ := hT3.1.at1 hlt3
          have hc' : wr.cell? ⟨b, off + k, none⟩ = some (.slice r.a r.n r.c) := hc
          have hrn := hr r (List.mem_of_getElem? hrk)
          have hrd := hT3.2 r (List.mem_of_getElem? hrk)
          have one := one_cellE r.xs
          have HN := hide (allL_next hrk).2
          have HA := hide (allL_next hrk).1
          have HM2 := hide hm2
          clear hrk hc hm2
          have q1 : (0 : Int) ≤ (k : Int) := by omega
          have q2 : (k : Int) < (n : Int) := by omega
          go_wp2_with (at_builtin; refine wpList_append_any _ rfl _ _ 50 rfl ws.heap.size 57 i0 _ 4 56 Try.underlying50 hi0 hz0 hz1 hz2 rfl (by decide) _ m2 _ rfl hown ws.heap.size r.a r.n r.c (flatE r.xs) rfl hrd one (by unfold maxLen; omega) (by omega) (by omega) ?_; intro v3 w3 hown3 hgrow _; have hB3 : Below ws.heap.size ws w3 := below_append hB hown (by omega) hgrow; clear hgrow)
          clear hown hB one hrd
          go_wp2
          go_roundw
          case rel => exact ⟨k + 1, m2 + r.n, by omega, by go_num, by rw [HN.out, HM2.out], by rw [HA.out, flatE_app]; exact hown3, hB3⟩
          case measure => simp [intOf]; omega
        · obtain rfl : k = n := by omega
          rw [take_all HL.out] at hm2 hown
          have e : m2 = m := by rw [← hm2, HM.out]
          subst e
          obtain ⟨A5, c5, rfl, _⟩ := own_form hown
          go_wp2
          go_ret
          rw [HM.out]
          exact ⟨A5, c5, rfl, hown, hB⟩
end Go.Proofs.Ythngjbhamgmcgaa
