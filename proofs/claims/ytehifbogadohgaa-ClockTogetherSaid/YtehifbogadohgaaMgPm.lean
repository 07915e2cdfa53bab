/-
  The walk of the program's merged, for every list of windows that are not empty.
-/
import Derived.Test.YtehifbogadohgaaMgSrn
import Derived.Test.YtehifbogadohgaaMgClo
import Derived.Test.YtehifbogadohgaaOrdT
namespace Go.Proofs.Ytehifbogadohgaa
open Go.RowKit
attribute [local go_sem] Oper.semAt_some

/-- What the sort leaves, of a row of the call's own or of nothing. -/
def RetSortS (A : Option Addr) (n : Nat) (l : List Wd) (e : Ending) (w' : World) : Prop := e = .returned (.tuple #[]) ∧ ∃ l' : List Wd, l'.Perm l ∧ l'.Pairwise (fun x y => x.1 ≤ y.1) ∧ Reads w' w'.heap.size 2 A n (flatW l')
theorem SortS_any (w0 w : World) (A : Option Addr) (n c : Nat) (l : List Wd) (h : w.ownsRow w0.heap.size 35 2 (.slice A n c) n (flatW l)) (hn : n ≤ 100000) (hB : Below w0.heap.size w0 w) :
    Calls Try.prog 65 #[.slice A n c, .func (Fn.func 19) #[] #[]] w fun e w' => RetSortS A n l e w' ∧ Below w0.heap.size w0 w' := by
  rcases h.2 with ⟨he, hn0⟩ | ⟨g', cap, cur, he, hb, hg, h1, h2, h3, h4⟩
  · injection he with e1 e2 e3
    subst e1 e2 e3
    have hl0 : l = [] := by
      have := h.1
      rw [flatW_len] at this
      exact List.length_eq_zero_iff.1 (by omega)
    subst hl0
    exact (Sort_none 0 w).mono fun e w' ⟨he, hw⟩ => by subst hw; exact ⟨⟨he, [], List.Perm.refl _, List.Pairwise.nil, Reads.none_⟩, hB⟩
  · injection he with e1 e2 e3
    subst e1 e3
    exact (Sort_any _ g' n c l w h hn).mono fun e w' ⟨he, l', hp, hs, hr, hbl⟩ => ⟨⟨he, l', hp, hs, hr⟩, hB.trans (hbl.mono hb)⟩
/-- Merged windows, handed back. -/
def RetMg (w : World) (l : List Wd) (e : Ending) (w' : World) : Prop := ∃ out A n c, Mg l out ∧ e = .returned (.slice A n c) ∧ n ≤ l.length ∧ n ≤ c ∧ Reads w' w'.heap.size 2 A n (flatW out) ∧ Below w.heap.size w w'
set_option maxRecDepth 100000 in
set_option maxHeartbeats 8000000 in
theorem merged_any (A : Option Addr) (n c : Nat) (l : List Wd) (w : World) (hl : Reads w w.heap.size 2 A n (flatW l)) (hn : n ≤ 100000) (hd : ∀ x ∈ l, x.1 < x.2) :
    Calls Try.prog 55 #[.slice A n c, .func (Fn.func 51) #[] #[]] w (RetMg w l) := by
  obtain ⟨i0, hi, hz0, hz1, hz2⟩ := info_parts Try.infoWin
  have HD := hide hd
  clear hd
  go_enter Try.func55, Try.ntmps55
  go_wp2_with fail
  refine (CloneW_any A n c _ l w hl (Nat.le_refl _) hn).mono ?_
  rintro e W1 ⟨A1, c1, rfl, hown1, hB1⟩
  have hlen : l.length = n := hl.len (enc := encW) encW_len (by omega)
  have HS := hide (SortS_any w W1 A1 n c1 l hown1 hn hB1)
  clear hown1 hB1 hl
  go_wp2_with fail
  refine HS.out.mono ?_
  rintro e W2 ⟨⟨rfl, ls, hp, hs, hr⟩, hB2⟩
  have hls : ls.length = n := by rw [hp.length_eq, hlen]
  have HLS := hide hls
  have HPM := hide hp
  have HSR := hide hs
  clear HS hp hs hls
  go_wp2_with fail
  go_loopw [5, 15] (fun v i wr => ∃ (k m : Nat) (out : List Wd), k ≤ n ∧ i = .int .i64 k ∧ m ≤ k ∧ Mg (ls.take k) out ∧ wr.ownsRow W2.heap.size 35 2 v m (flatW out) ∧ Below W2.heap.size W2 wr) (fun _ i _ => n - (intOf i).toNat)
  case atStart => exact ⟨0, 0, [], Nat.zero_le _, rfl, Nat.le_refl _, Mg.nil, World.ownsRow_nil _ _ _ _, Below.refl _ _⟩
  case round =>
    obtain ⟨k, m, out, hk, rfl, hmk, hmg, hown, hB⟩ := hrel
    have HMG := hide hmg
    clear hmg
    by_cases hlt : k < n
    · obtain ⟨bb, off, x, rfl, hb, hxk, hc⟩ := hr.elem (enc := encW) encW_len HLS.out hlt
      have hx0 : x.1 < x.2 := HD.out x (HPM.out.mem_iff.1 (List.mem_of_getElem? hxk))
      have hle : ∀ y ∈ ls.take k, y.1 ≤ x.1 := fun y hy => by
        obtain ⟨i, hi⟩ := List.mem_iff_getElem?.1 hy
        rw [List.getElem?_take] at hi
        split at hi
        · obtain ⟨h1, rfl⟩ := List.getElem?_eq_some_iff.1 hi
          obtain ⟨h2, rfl⟩ := List.getElem?_eq_some_iff.1 hxk
          exact List.pairwise_iff_getElem.1 HSR.out i k h1 h2 (by omega)
        · cases hi
      have htk := take_snoc' hxk
      have d0 : W2.cell? ⟨bb, off + k * 2, none⟩ = some (.int .i64 x.1) := by simpa using hc 0 _ rfl
      have d1 : W2.cell? ⟨bb, off + k * 2 + 1, none⟩ = some (.int .i64 x.2) := by simpa [← Nat.add_assoc] using hc 1 _ rfl
      have c0 := (hB.cell (p := ⟨bb, off + k * 2, none⟩) hb).trans d0
      have c1 := (hB.cell (p := ⟨bb, off + k * 2 + 1, none⟩) hb).trans d1
      clear hc d0 d1 hxk
      have q1 : (0 : Int) ≤ (k : Int) := by omega
      have q2 : (k : Int) < (n : Int) := by omega
      have hBa := below_val (w := wr) #[.int .i64 x.1, .int .i64 x.2] 35
      have xb := Blk.new wr 35 #[.int .i64 x.1, .int .i64 x.2]
      have hWs := hB.size
      have hBw : Below W2.heap.size W2 (wr.alloc (.cells #[.int .i64 x.1, .int .i64 x.2] 35)) := hB.trans (hBa.mono hWs)
      have hownw := hown.alloc (.cells #[.int .i64 x.1, .int .i64 x.2] 35)
      obtain ⟨A5, c5, rfl, hR5⟩ := own_form hown
      clear hB
      rcases Nat.eq_zero_or_pos m with hm0 | hm0
      · have ho0 : out = [] := by
          have := hown.1
          rw [flatW_len] at this
          exact List.length_eq_zero_iff.1 (by omega)
        subst hm0 ho0
        have hk0 : ls.take k = [] := by
          cases hc : ls.take k with
          | nil => rfl
          | cons y t =>
            exfalso
            have hy0 : y.1 < y.2 := HD.out y (HPM.out.mem_iff.1 (List.mem_of_mem_take (i := k) (by rw [hc]; exact List.mem_cons_self)))
            exact Cov.nil _ ((HMG.out.cov (2 * y.1 + 1)).2 (by rw [hc]; exact ⟨y, List.mem_cons_self, by unfold InW; omega⟩))
        have HA := hide (show Mg (ls.take (k + 1)) [x] from by rw [htk]; exact HMG.out.first hk0 hx0)
        clear hR5 hown htk hle hk0
        go_wp2_with fail
        obtain ⟨W0, hW0⟩ : ∃ W0, wr.alloc (.cells #[.int .i64 x.1, .int .i64 x.2] 35) = W0 := ⟨_, rfl⟩
        rw [hW0] at hBw hownw xb hBa ⊢
        clear hW0 c0 c1 hBa
        go_quiet (fail)
        obtain ⟨X, hX⟩ : ∃ X, W0.drewN nq = X := ⟨_, rfl⟩
        have hBX := below_drewN hBw nq
        have hownX : (W0.drewN nq).ownsRow _ _ _ _ _ _ := hownw
        have xX : Blk (W0.drewN nq) _ _ _ := xb
        rw [hX] at hBX hownX xX ⊢
        clear hX hBw hownw xb
        have hsX := hBX.size
        have e0 := xX.cell 0
        have e1 := xX.cell 1
        simp at e0 e1
        go_wp2_with (at_builtin; refine wpList_append_own _ rfl _ _ 22 rfl W2.heap.size 35 i0 _ 2 16 Try.underlying22 hi hz0 hz1 hz2 rfl (by decide) _ _ _ rfl (hownX.alloc _) ⟨X.heap.size, 0, none⟩ 1 1 [.int .i64 x.1, .int .i64 x.2] rfl rfl (cells_new _ _ _) (by simp [Value.oneCell']) (by unfold maxLen; omega) (by omega) (by simp; omega) ?_; intro v3 w3 hown3 hgrow _; have hB3 : Below W2.heap.size W2 w3 := below_append (hBX.alloc hsX _) (hownX.alloc _) (by simp; omega) hgrow; clear hgrow)
        have hown4 : w3.ownsRow W2.heap.size 35 2 v3 1 (flatW [x]) := by
          have h : w3.ownsRow W2.heap.size 35 2 v3 1 (flatW [] ++ [.int .i64 x.1, .int .i64 x.2]) := hown3
          rw [← flatW_snoc] at h; exact h
        clear hown3 hownX hBX xX e0 e1
        go_wp2
        go_roundw
        case rel => exact ⟨k + 1, 1, [x], by omega, by go_num, by omega, HA.out, hown4, hB3⟩
        case measure => simp [intOf]; omega
      · obtain ⟨g5, cap5, hv5, _⟩ := hown.form hm0
        injection hv5 with hv5 _ hv6
        subst hv5 hv6
        have hol : out.length = m := by have := hown.1; rw [flatW_len] at this; omega
        obtain ⟨p, q, rfl⟩ : ∃ p q, out = p ++ [q] := by
          rcases List.eq_nil_or_concat out with h | ⟨p, q, h⟩
          · subst h; simp at hol; omega
          · exact ⟨p, q, by simpa using h⟩
        obtain ⟨j, hj⟩ : ∃ j, p.length = j := ⟨_, rfl⟩
        have HJ := hide hj
        obtain rfl : m = j + 1 := by rw [← hol, List.length_append, hj]; rfl
        clear hol hm0 hR5 hown hj
        obtain ⟨b', o', y, e, hb', hy, hcq⟩ := (Reads.of_own hownw).elem (enc := encW) encW_len (by simp [HJ.out]) (show j < j + 1 by omega)
        injection e with e
        injection e with e1 e2
        subst e1 e2
        obtain rfl : q = y := by
          rw [List.getElem?_append_right (by rw [HJ.out]; omega), HJ.out, Nat.sub_self] at hy
          simpa using hy
        have k0 := hcq 0 _ rfl
        have k1 := hcq 1 _ rfl
        rw [Nat.zero_add] at k0 k1
        clear hcq hy
        have k0 : World.cell? _ ⟨g5, j * 2, none⟩ = some (.int .i64 q.1) := k0
        have k1 : World.cell? _ ⟨g5, j * 2 + 1, none⟩ = some (.int .i64 q.2) := k1
        have w1 : ((j + 1 : Nat) : Int) - 1 = (j : Int) := by omega
        have w2 : IntKind.i64.wrap (((j + 1 : Nat) : Int) - 1) = (j : Int) := by rw [w1, IntKind.wrap_i64]; omega
        have q3 : (0 : Int) ≤ (j : Int) := by omega
        have q4 : (j : Int) < ((j + 1 : Nat) : Int) := by omega
        have q5 : (0 : Int) < ((j + 1 : Nat) : Int) := by omega
        go_wp2_with fail
        obtain ⟨W0, hW0⟩ : ∃ W0, wr.alloc (.cells #[.int .i64 x.1, .int .i64 x.2] 35) = W0 := ⟨_, rfl⟩
        rw [hW0] at hBw hownw xb hBa hb' k0 k1 ⊢
        clear hW0 c0 c1 hBa
        obtain ⟨tt, htt⟩ : ∃ tt, meetB q.1 q.2 x.1 x.2 = tt := ⟨_, rfl⟩
        have C1 := hide (fun (p : BW W0) => calls_bw (p := p) (v := .bool tt) (by rw [← htt]; exact touch_any q.1 q.2 x.1 x.2 p.x))
        obtain ⟨p0, p1⟩ := bw2 xb
        have r0 := fun (p : BW W0) => BW.cell (a := ⟨g5, j * 2, none⟩) hb' k0 p
        have r1 := fun (p : BW W0) => BW.cell (a := ⟨g5, j * 2 + 1, none⟩) hb' k1 p
        (refine wp_region_quiet_bw (by kernel_rfl) (by kernel_rfl) ?_
         repeat (first | go_big_quiet_step (((go_at_call 51; with_reducible exact C1.out _))) | quiet_step (((go_at_call 51; with_reducible exact C1.out _))))
         refine wpQuiet_nil ?_
         intro wq hw'
         obtain ⟨⟨_, hbq⟩, hw''⟩ := hw'
         subst hw'')
        obtain ⟨X, hX⟩ : ∃ X, wq = X := ⟨_, rfl⟩
        rw [hX] at hbq ⊢
        clear hX p0 p1 r0 r1 C1
        have hBX := hBw.trans (hbq.mono hBw.size)
        have hownX := own_below hownw hbq
        have xX := xb.below hbq xb.lt
        have d0 := (hbq.cell (p := ⟨g5, j * 2, none⟩) hb').trans k0
        have d1 := (hbq.cell (p := ⟨g5, j * 2 + 1, none⟩) hb').trans k1
        clear k0 k1 hBw hownw xb hbq
        have hsX := hBX.size
        have e0 := xX.cell 0
        have e1 := xX.cell 1
        simp at e0 e1
        cases tt
        · have HA := hide (show Mg (ls.take (k + 1)) (p ++ [q] ++ [x]) from by rw [htk]; exact HMG.out.apart hx0 hle htt)
          clear htt htk hle d0 d1
          go_wp2_with (at_builtin; refine wpList_append_own _ rfl _ _ 22 rfl W2.heap.size 35 i0 _ 2 16 Try.underlying22 hi hz0 hz1 hz2 rfl (by decide) (.slice (some ⟨g5, 0, none⟩) (j + 1) c5) (j + 1) (flatW (p ++ [q])) rfl (hownX.alloc _) ⟨X.heap.size, 0, none⟩ 1 1 [.int .i64 x.1, .int .i64 x.2] rfl rfl (cells_new _ _ _) (by simp [Value.oneCell']) (by unfold maxLen; omega) (by omega) (by simp; omega) ?_; intro v3 w3 hown3 hgrow _; have hB3 : Below W2.heap.size W2 w3 := below_append (hBX.alloc hsX _) (hownX.alloc _) (by simp; omega) hgrow; clear hgrow)
          clear hownX hBX xX e0 e1
          go_wp2
          go_roundw
          case rel => exact ⟨k + 1, j + 1 + 1, _, by omega, by go_num, by omega, HA.out, by rw [flatW_snoc]; exact hown3, hB3⟩
          case measure => simp [intOf]; omega
        · have HA := hide (show Mg (ls.take (k + 1)) (p ++ [(q.1, max q.2 x.2)]) from by rw [htk]; exact HMG.out.touch hx0 hle htt)
          have f1 := hownX.frozenAt (j * 2 + 1)
          have s1 := own_store (j := j * 2 + 1) hownX (by omega) (.int .i64 (max q.2 x.2))
          rw [show (flatW (p ++ [q])).set (j * 2 + 1) (.int .i64 (max q.2 x.2)) = flatW (p ++ [(q.1, max q.2 x.2)]) from by rw [← HJ.out]; exact flatW_set p q _] at s1
          have hg5 : W2.heap.size ≤ g5 := (hownX.lt g5 rfl).1
          have B8 := hBX.setCell (p := ⟨g5, j * 2 + 1, none⟩) hg5 (.int .i64 (max q.2 x.2))
          have S1 := hide s1
          have HB8 := hide B8
          clear htt htk hle s1 B8 hownX hBX xX
          go_wp2_with fail
          go_region
          all_goals
            clear e0 e1 f1 d0 d1
            go_wp2
            go_roundw
            case rel => exact ⟨k + 1, j + 1, _, by omega, by go_num, by omega, HA.out, S1.out.drew, HB8.out.drew⟩
            case measure => simp [intOf]; omega
    · obtain rfl : k = n := by omega
      have HMG2 := hide (show Mg l out from by
        have := HMG.out
        rw [take_all HLS.out] at this
        exact this.perm HPM.out)
      obtain ⟨A5, c5, rfl, hR5⟩ := own_form hown
      have hc5 : m ≤ c5 := by
        rcases hown.2 with ⟨he, h0⟩ | ⟨g', cap, cur, he, _, _, h1, _⟩
        · omega
        · injection he with _ _ e3
          omega
      go_wp2
      go_ret
      exact ⟨out, A5, m, c5, HMG2.out, rfl, by omega, hc5, hR5, hB2.trans (hB.mono hB2.size)⟩
end Go.Proofs.Ytehifbogadohgaa
