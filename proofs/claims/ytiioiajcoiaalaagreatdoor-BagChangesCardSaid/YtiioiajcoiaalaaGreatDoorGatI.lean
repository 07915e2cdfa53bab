/-
  The iterators that are handed to bag.gathered: items$1, rows$1.
-/
import Derived.Test.YtiioiajcoiaalaaGreatDoorGat
import Derived.Test.YtiioiajcoiaalaaGreatDoorBgL
namespace Go.Proofs.YtiioiajcoiaalaaGreatDoor
open Go.RowKit
attribute [local go_sem] Oper.semAt_some wide_fn wide_depth
set_option linter.unusedVariables false
set_option linter.unusedSimpArgs false

theorem wrB_alloc {B S : Nat} (X : World) (o : Obj) : WrB B S [] X (X.alloc o) := .below ((Below.refl _ _).alloc (Nat.le_refl _) o)
theorem bar_nil {N : Nat} {X Y : World} (h : Bar N [] X Y) : Below N X Y := h.below (Nat.le_refl _) (by simp)
theorem take_pre {α : Type} {l : List α} {k : Nat} {x : α} (h : l[k]? = some x) : l.take k ++ [x] <+: l := by
  rw [← take_snoc' h]; exact List.take_prefix _ _
/-- The rows of changes, with how often. -/
def chD (l : List Ch) : Bg := l.map fun i => (i.r, i.m)
theorem chD_snoc (l : List Ch) (i : Ch) : chD (l ++ [i]) = chD l ++ [(i.r, i.m)] := by simp [chD]
theorem chD_at {l : List Ch} {k : Nat} {i : Ch} (h : l[k]? = some i) : (chD l)[k]? = some (i.r, i.m) := by unfold chD; rw [List.getElem?_map, h]; rfl
set_option maxRecDepth 100000 in
set_option maxHeartbeats 4000000 in
theorem items1_iter (m : Nat) (hm : 1 ≤ m) (Bx : Nat) (A : Option Addr) (n c : Nat) (l : List It) (W0 : World) (B S : Nat) (Kp : World → World → Prop) (Z : World → Prop) (hZ : ∀ W, Z W → Boxed W Bx 23 (.slice A n c) ∧ BagR W B A n l)
    (hZk : ∀ X Y, Z X → Kp X Y → Z Y) (hZw : ∀ X o, Z X → Z (X.alloc o)) (h00 : Z W0) :
    IterG Fence.wide m Tryz.prog 110 #[.pointer (some ⟨Bx, 0, none⟩)] (ArgR B) (dat l) (WrB B S []) Kp W0 := by
  intro l0 J Jx hJw hJxw hY h0
  have HZ := hide hZ
  have HZk := hide hZk
  have HZw := hide hZw
  obtain ⟨hbx, hb⟩ := hZ W0 h00
  clear hZ hZk hZw
  have HL := hide hb.len
  have HY := hide hY
  have HJ := hide hJw
  have hle := hb.le
  have hbl := hbx.lt
  clear hY hJw hJxw
  have kb := hbx.cell
  clear hbx hb
  refine callsIn_of_wp Tryz.func110 rfl trivial ?_ rfl
  simp only [Tryz.ntmps110, List.size_toArray, List.length_cons, List.length_nil, Nat.reduceAdd, Nat.reduceSub, Array.replicate_succ, Array.replicate_zero, List.push_toArray, List.append_toArray, List.nil_append, List.cons_append]
  gi_wp2_with fail
  gi_loopw [4, 7] (fun _ i wr => ∃ k : Nat, k ≤ n ∧ i = .int .i64 k ∧ J (dat (l.take k)) wr ∧ Z wr) (fun _ i _ => n - (intOf i).toNat)
  case atStart => exact ⟨0, Nat.zero_le _, rfl, h0, h00⟩
  case round =>
    clear h0 h00 kb
    obtain ⟨k, hk, rfl, hJ, hBw⟩ := hrel
    by_cases hlt : k < n
    · obtain ⟨b, off, x, hA, hbb, hxk, e0, e1, hrow⟩ := (HZ.out wr hBw).2.at_ hlt
      have HX := hide hxk
      have hdk := dat_at hxk
      have HDT := hide (show dat (l.take (k + 1)) = dat (l.take k) ++ [(x.r, x.m)] by rw [take_snoc' hxk, dat_snoc])
      have HPR := hide (show dat (l.take k) ++ [(x.r, x.m)] <+: dat l by
        have := take_pre hdk
        unfold dat at this ⊢
        rwa [← List.map_take] at this)
      have hJ1 := HJ.out _ _ _ hJ (wrB_alloc wr (.cells #[.slice x.A x.n x.c, .int .i64 x.m] 62))
      have hB1 : Z (wr.alloc (.cells #[.slice x.A x.n x.c, .int .i64 x.m] 62)) := HZw.out _ _ hBw
      have kx := Blk.new wr 62 #[.slice x.A x.n x.c, .int .i64 x.m]
      clear hxk hdk
      rw [hA]
      have HA := hide hA
      clear hA
      have q1 : (0 : Int) ≤ (k : Int) := by omega
      have q2 : (k : Int) < (n : Int) := by omega
      obtain ⟨fn', tmps', assign', body', hy, hR⟩ := HY.out _ (x.r, x.m) #[.slice x.A x.n x.c, .int .i64 x.m] _ HPR.out hJ1 ⟨x.A, x.n, x.c, rfl, hrow.below ((Below.refl _ _).alloc (Nat.le_refl _) _)⟩
      gi_wp2_with fail
      refine hR.mono ?_
      clear hy hR kx e0 e1 hJ1 hJ hBw
      rintro e W3 (⟨rfl, hJ4, hk4⟩ | ⟨rfl, hJx4, _⟩)
      · have hB4 := HZk.out _ _ hB1 hk4
        rw [← HDT.out] at hJ4
        clear hk4 hB1
        gi_wp2_with fail
        go_roundw
        case rel => exact ⟨k + 1, by omega, by go_num, hJ4, hB4⟩
        case measure => simp [intOf]; omega
      · have HJX := hide hJx4
        clear hJx4 hB1
        gi_wp2_with fail
        refine bodyPost_ret (results_none rfl _ _ _) rfl ?_
        exact ⟨⟨_, rfl⟩, .inr ⟨_, HPR.out, HJX.out⟩⟩
    · obtain rfl : k = n := by omega
      rw [take_all HL.out] at hJ
      have HJE := hide hJ
      clear hJ
      gi_wp2_with fail
      go_end0
      exact ⟨⟨_, rfl⟩, .inl HJE.out⟩
set_option maxRecDepth 100000 in
set_option maxHeartbeats 4000000 in
theorem rows1_iter (m : Nat) (hm : 1 ≤ m) (Bx : Nat) (A : Option Addr) (n c : Nat) (l : List Ch) (W0 : World) (B S : Nat) (Kp : World → World → Prop) (Z : World → Prop) (hZ : ∀ W, Z W → Boxed W Bx 24 (.slice A n c) ∧ ChgR W B A n l)
    (hZk : ∀ X Y, Z X → Kp X Y → Z Y) (hZw : ∀ X o, Z X → Z (X.alloc o)) (h00 : Z W0) :
    IterG Fence.wide m Tryz.prog 111 #[.pointer (some ⟨Bx, 0, none⟩)] (ArgR B) (chD l) (WrB B S []) Kp W0 := by
  intro l0 J Jx hJw hJxw hY h0
  have HZ := hide hZ
  have HZk := hide hZk
  have HZw := hide hZw
  obtain ⟨hbx, hb⟩ := hZ W0 h00
  clear hZ hZk hZw
  have HL := hide (hb.rd.len encCh_len (by omega))
  have HY := hide hY
  have HJ := hide hJw
  have hle := hb.le
  have hbl := hbx.lt
  clear hY hJw hJxw
  have kb := hbx.cell
  clear hbx hb
  refine callsIn_of_wp Tryz.func111 rfl trivial ?_ rfl
  simp only [Tryz.ntmps111, List.size_toArray, List.length_cons, List.length_nil, Nat.reduceAdd, Nat.reduceSub, Array.replicate_succ, Array.replicate_zero, List.push_toArray, List.append_toArray, List.nil_append, List.cons_append]
  gi_wp2_with fail
  gi_loopw [4, 7] (fun _ i wr => ∃ k : Nat, k ≤ n ∧ i = .int .i64 k ∧ J (chD (l.take k)) wr ∧ Z wr) (fun _ i _ => n - (intOf i).toNat)
  case atStart => exact ⟨0, Nat.zero_le _, rfl, h0, h00⟩
  case round =>
    clear h0 h00 kb
    obtain ⟨k, hk, rfl, hJ, hBw⟩ := hrel
    by_cases hlt : k < n
    · obtain ⟨b, off, x, hA, hbb, hxk, e0, e1, e2, hrow⟩ := (HZ.out wr hBw).2.at_ hlt
      have HX := hide hxk
      have hdk := chD_at hxk
      have HDT := hide (show chD (l.take (k + 1)) = chD (l.take k) ++ [(x.r, x.m)] by rw [take_snoc' hxk, chD_snoc])
      have HPR := hide (show chD (l.take k) ++ [(x.r, x.m)] <+: chD l by
        have := take_pre hdk
        unfold chD at this ⊢
        rwa [← List.map_take] at this)
      have hJ1 := HJ.out _ _ _ hJ (wrB_alloc wr (.cells #[.int .i64 x.t, .slice x.A x.n x.c, .int .i64 x.m] 45))
      have hB1 : Z (wr.alloc (.cells #[.int .i64 x.t, .slice x.A x.n x.c, .int .i64 x.m] 45)) := HZw.out _ _ hBw
      have kx := Blk.new wr 45 #[.int .i64 x.t, .slice x.A x.n x.c, .int .i64 x.m]
      clear hxk hdk
      rw [hA]
      have HA := hide hA
      clear hA
      have q1 : (0 : Int) ≤ (k : Int) := by omega
      have q2 : (k : Int) < (n : Int) := by omega
      obtain ⟨fn', tmps', assign', body', hy, hR⟩ := HY.out _ (x.r, x.m) #[.slice x.A x.n x.c, .int .i64 x.m] _ HPR.out hJ1 ⟨x.A, x.n, x.c, rfl, hrow.below ((Below.refl _ _).alloc (Nat.le_refl _) _)⟩
      gi_wp2_with fail
      refine hR.mono ?_
      clear hy hR kx e0 e1 e2 hJ1 hJ hBw
      rintro e W3 (⟨rfl, hJ4, hk4⟩ | ⟨rfl, hJx4, _⟩)
      · have hB4 := HZk.out _ _ hB1 hk4
        rw [← HDT.out] at hJ4
        clear hk4 hB1
        gi_wp2_with fail
        go_roundw
        case rel => exact ⟨k + 1, by omega, by go_num, hJ4, hB4⟩
        case measure => simp [intOf]; omega
      · have HJX := hide hJx4
        clear hJx4 hB1
        gi_wp2_with fail
        refine bodyPost_ret (results_none rfl _ _ _) rfl ?_
        exact ⟨⟨_, rfl⟩, .inr ⟨_, HPR.out, HJX.out⟩⟩
    · obtain rfl : k = n := by omega
      rw [take_all HL.out] at hJ
      have HJE := hide hJ
      clear hJ
      gi_wp2_with fail
      go_end0
      exact ⟨⟨_, rfl⟩, .inl HJE.out⟩
end Go.Proofs.YtiioiajcoiaalaaGreatDoor
