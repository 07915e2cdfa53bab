/-
  The iterator that bag.made hands out: each item of a list through a function; those with 0 are left out. Whatever the function.
-/
import Derived.Test.YtiioiajcoiaalaaGreatDoorApl
namespace Go.Proofs.YtiioiajcoiaalaaGreatDoor
open Go.RowKit
attribute [local go_sem] Oper.semAt_some wide_fn wide_depth
set_option linter.unusedVariables false
set_option linter.unusedSimpArgs false

/-- Items through a function; those with 0 are left out. -/
def mk (g : Rw × Int → Rw × Int) (d : Bg) : Bg := (d.map g).filter fun x => decide (x.2 ≠ 0)
theorem mk_snoc (g : Rw × Int → Rw × Int) (d : Bg) (x : Rw × Int) : mk g (d ++ [x]) = mk g d ++ if (g x).2 ≠ 0 then [g x] else [] := by
  unfold mk
  rw [List.map_append, List.filter_append]
  congr 1
  by_cases h : (g x).2 = 0 <;> simp [h]
theorem mk_take_pre (g : Rw × Int → Rw × Int) (d : Bg) (k : Nat) : mk g (d.take k) <+: mk g d := by
  unfold mk
  exact List.IsPrefix.filter _ (List.IsPrefix.map _ (List.take_prefix k d))
theorem made_any (A : Option Addr) (n c : Nat) (gf : Nat) (caps : Array Value) (w : World) : Calls Tryz.prog 61 #[.slice A n c, .func (Fn.func gf) #[] caps] w fun e w' => e = .returned (.func (Fn.func 115) #[] #[.pointer (some ⟨w.heap.size, 0, none⟩), .pointer (some ⟨w.heap.size + 1, 0, none⟩)]) ∧ w' = (w.alloc (.cells #[.slice A n c] 22)).alloc (.cells #[.func (Fn.func gf) #[] caps] 83) := by
  go_enter Tryz.func61, Tryz.ntmps61
  go_wp2
  go_ret
  exact ⟨by simp, rfl⟩
theorem WrB.with_ {B S : Nat} {Xs : List Nat} {X Y : World} (h : WrB B S [] X Y) (low : ∀ k ∈ Xs, B ≤ k ∧ ∀ c fz, X.heap[k]? ≠ some (.cells c 64 fz)) : WrB B S Xs X Y :=
  ⟨h.os, h.tape, h.output, h.size, fun k o hk _ ho => h.blk k o hk (by simp) ho, low⟩
set_option maxRecDepth 100000 in
set_option maxHeartbeats 4000000 in
theorem made1_iterF (m : Nat) (hm : 1 ≤ m) (Bx Bf : Nat) (A : Option Addr) (n c : Nat) (l : List It) (gf : Nat) (caps : Array Value) (g : Rw × Int → Rw × Int) (W0 : World) (B S : Nat) (Xs : List Nat) (Kp : World → World → Prop) (Z : Nat → World → Prop)
    (hZ : ∀ k W, Z k W → Boxed W Bx 22 (.slice A n c) ∧ Boxed W Bf 83 (.func (Fn.func gf) #[] caps) ∧ BagR W B A n l ∧ ∀ i ∈ Xs, B ≤ i ∧ ∀ c fz, W.heap[i]? ≠ some (.cells c 64 fz))
    (hZk : ∀ k X Y, Z k X → Kp X Y → Z k Y) (hZw : ∀ k X o, Z k X → Z k (X.alloc o)) (h00 : Z 0 W0)
    (eg : ∀ args w, (callFunc gf args).run Tryz.prog w = .ok (.enter gf args) w)
    (hf : ∀ k x W, l[k]? = some x → Z k W → RowK W B x.A x.n x.r → Calls Tryz.prog gf (#[.agg #[.slice x.A x.n x.c, .int .i64 x.m]] ++ caps) W fun e W' => (∃ A' n' c', e = .returned (.tuple #[.slice A' n' c', .int .i64 (g (x.r, x.m)).2]) ∧ RowK W' B A' n' (g (x.r, x.m)).1) ∧ Z (k + 1) W' ∧ WrB B S Xs W W') :
    IterGF Fence.wide m Tryz.prog 115 #[.pointer (some ⟨Bx, 0, none⟩), .pointer (some ⟨Bf, 0, none⟩)] (ArgR B) (mk g (dat l)) (WrB B S Xs) Kp (Z n) W0 := by
  intro l0 J Jx hJw hJxw hY h0
  have HZ := hide hZ
  have HZk := hide hZk
  have HZw := hide hZw
  have HF := hide hf
  obtain ⟨hbx, hbf, hb, _⟩ := hZ 0 W0 h00
  clear hZ hZk hZw hf
  have HL := hide hb.len
  have HY := hide hY
  have HJ := hide hJw
  have HJx := hide hJxw
  have hle := hb.le
  have hbl := hbx.lt
  clear hY hJw hJxw
  have kb := hbx.cell
  clear hbx hb hbf
  refine callsIn_of_wp Tryz.func115 rfl trivial ?_ rfl
  simp only [Tryz.ntmps115, List.size_toArray, List.length_cons, List.length_nil, Nat.reduceAdd, Nat.reduceSub, Array.replicate_succ, Array.replicate_zero, List.push_toArray, List.append_toArray, List.nil_append, List.cons_append]
  gi_wp2_with fail
  gi_loopw [5, 6, 7, 10] (fun _ _ _ i wr => ∃ k : Nat, k ≤ n ∧ i = .int .i64 k ∧ J (mk g (dat (l.take k))) wr ∧ Z k wr) (fun _ _ _ i _ => n - (intOf i).toNat)
  case atStart => exact ⟨0, Nat.zero_le _, rfl, h0, h00⟩
  case round =>
    clear h0 h00 kb
    obtain ⟨k, hk, rfl, hJ, hBw⟩ := hrel
    by_cases hlt : k < n
    · obtain ⟨_, _, hbag, hlow⟩ := HZ.out k wr hBw
      obtain ⟨b, off, x, hA, hbb, hxk, e0, e1, hrow⟩ := hbag.at_ hlt
      have HX := hide hxk
      have HDT := hide (show mk g (dat (l.take (k + 1))) = mk g (dat (l.take k)) ++ if (g (x.r, x.m)).2 ≠ 0 then [g (x.r, x.m)] else [] by rw [take_snoc' hxk, dat_snoc, mk_snoc])
      have HPR := hide (show mk g (dat (l.take (k + 1))) <+: mk g (dat l) by
        have := mk_take_pre g (dat l) (k + 1)
        unfold dat at this ⊢
        rwa [← List.map_take] at this)
      have hJ1 := HJ.out _ _ _ hJ (WrB.with_ (wrB_alloc wr (.cells #[.slice x.A x.n x.c, .int .i64 x.m] 62)) hlow)
      have hB1 : Z k (wr.alloc (.cells #[.slice x.A x.n x.c, .int .i64 x.m] 62)) := HZw.out _ _ _ hBw
      have kx := Blk.new wr 62 #[.slice x.A x.n x.c, .int .i64 x.m]
      have hrow1 := hrow.below ((Below.refl _ _).alloc (Nat.le_refl _) (.cells #[.slice x.A x.n x.c, .int .i64 x.m] 62))
      have hbf1 := (HZ.out k _ hB1).2.1.cell
      have k0 := kx.cell 0
      have k1 := kx.cell 1
      simp only [List.getElem?_toArray, List.getElem?_cons_zero, List.getElem?_cons_succ] at k0 k1
      clear hxk hbag hlow hrow hJ hBw
      rw [hA]
      have HA := hide hA
      clear hA
      have q1 : (0 : Int) ≤ (k : Int) := by omega
      have q2 : (k : Int) < (n : Int) := by omega
      gi_wp2_with fail
      obtain ⟨W1, hW1⟩ : ∃ W1, wr.alloc (.cells #[.slice x.A x.n x.c, .int .i64 x.m] 62) = W1 := ⟨_, rfl⟩
      rw [hW1] at hJ1 hB1 kx hrow1 hbf1 k0 k1 ⊢
      refine (callsIn_wide.2 (HF.out k x W1 HX.out hB1 hrow1)).mono ?_
      rintro e W2 ⟨⟨A', n', c', rfl, hr2⟩, hZ2, hwr⟩
      have hJ2 := HJ.out _ _ _ hJ1 hwr
      clear hJ1 hB1 kx hrow1 hbf1 k0 k1 hwr e0 e1 hW1
      obtain ⟨⟨yr, ym⟩, hy⟩ : ∃ y, g (x.r, x.m) = y := ⟨_, rfl⟩
      rw [hy] at hr2 HDT ⊢
      clear hy
      by_cases h0 : ym = 0
      · subst h0
        have HE := hide (show mk g (dat (l.take (k + 1))) = mk g (dat (l.take k)) by rw [HDT.out]; simp)
        rw [← HE.out] at hJ2
        gi_wp2_with fail
        go_roundw
        case rel => exact ⟨k + 1, by omega, by go_num, hJ2, hZ2⟩
        case measure => simp [intOf]; omega
      · have HE := hide (show mk g (dat (l.take (k + 1))) = mk g (dat (l.take k)) ++ [(yr, ym)] by rw [HDT.out, if_pos h0])
        have z : (ym != 0) = true := by simpa using h0
        have HPR2 := hide (show mk g (dat (l.take k)) ++ [(yr, ym)] <+: mk g (dat l) by rw [← HE.out]; exact HPR.out)
        obtain ⟨fn', tmps', assign', body', hy, hR⟩ := HY.out _ (yr, ym) #[.slice A' n' c', .int .i64 ym] _ HPR2.out hJ2 ⟨A', n', c', rfl, hr2⟩
        clear h0 hr2 HDT hJ2
        gi_wp2_with fail
        refine hR.mono ?_
        clear hy hR
        rintro e W3 (⟨rfl, hJ4, hk4⟩ | ⟨rfl, hJx4, _⟩)
        · have hZ4 := HZk.out _ _ _ hZ2 hk4
          rw [← HE.out] at hJ4
          clear hk4 hZ2
          gi_wp2_with fail
          go_roundw
          case rel => exact ⟨k + 1, by omega, by go_num, hJ4, hZ4⟩
          case measure => simp [intOf]; omega
        · have HJX := hide hJx4
          clear hJx4 hZ2
          gi_wp2_with fail
          refine bodyPost_ret (results_none rfl _ _ _) rfl ?_
          exact ⟨⟨_, rfl⟩, .inr ⟨_, HPR2.out, HJX.out⟩⟩
    · obtain rfl : k = n := by omega
      rw [take_all HL.out] at hJ
      have HJE := hide hJ
      have HZE := hide hBw
      clear hJ hBw
      gi_wp2_with fail
      go_end0
      exact ⟨⟨_, rfl⟩, .inl ⟨HJE.out, HZE.out⟩⟩
theorem IterGF.g {F : Fence} {n : Nat} {P : Program} {α : Type} {g : Nat} {lb : Array Value} {Arg : α → Array Value → World → Prop} {xs : List α} {Wr Kp : World → World → Prop} {Fin : World → Prop} {W : World} (h : IterGF F n P g lb Arg xs Wr Kp Fin W) : IterG F n P g lb Arg xs Wr Kp W :=
  fun l J Jx h1 h2 h3 h4 => (h l J Jx h1 h2 h3 h4).mono fun _ _ h => ⟨h.1, h.2.imp (fun h => h.1) id⟩
theorem made1_iter (m : Nat) (hm : 1 ≤ m) (Bx Bf : Nat) (A : Option Addr) (n c : Nat) (l : List It) (gf : Nat) (caps : Array Value) (g : Rw × Int → Rw × Int) (W0 : World) (B S : Nat) (Xs : List Nat) (Kp : World → World → Prop) (Z : Nat → World → Prop)
    (hZ : ∀ k W, Z k W → Boxed W Bx 22 (.slice A n c) ∧ Boxed W Bf 83 (.func (Fn.func gf) #[] caps) ∧ BagR W B A n l ∧ ∀ i ∈ Xs, B ≤ i ∧ ∀ c fz, W.heap[i]? ≠ some (.cells c 64 fz))
    (hZk : ∀ k X Y, Z k X → Kp X Y → Z k Y) (hZw : ∀ k X o, Z k X → Z k (X.alloc o)) (h00 : Z 0 W0)
    (eg : ∀ args w, (callFunc gf args).run Tryz.prog w = .ok (.enter gf args) w)
    (hf : ∀ k x W, l[k]? = some x → Z k W → RowK W B x.A x.n x.r → Calls Tryz.prog gf (#[.agg #[.slice x.A x.n x.c, .int .i64 x.m]] ++ caps) W fun e W' => (∃ A' n' c', e = .returned (.tuple #[.slice A' n' c', .int .i64 (g (x.r, x.m)).2]) ∧ RowK W' B A' n' (g (x.r, x.m)).1) ∧ Z (k + 1) W' ∧ WrB B S Xs W W') :
    IterG Fence.wide m Tryz.prog 115 #[.pointer (some ⟨Bx, 0, none⟩), .pointer (some ⟨Bf, 0, none⟩)] (ArgR B) (mk g (dat l)) (WrB B S Xs) Kp W0 :=
  (made1_iterF m hm Bx Bf A n c l gf caps g W0 B S Xs Kp Z hZ hZk hZw h00 eg hf).g
end Go.Proofs.YtiioiajcoiaalaaGreatDoor
