/-
  The walk of deck.reads, for every valid graph.
-/
import Derived.Test.YtblepaocekojbaaDkRd
import Derived.Test.YtblepaocekojbaaDkLm
namespace Go.Proofs.Ytblepaocekojbaa
open Go.RowKit Go.Shelf Go.Deep
attribute [local go_sem] Oper.semAt_some

theorem infoInts_dk : (Try.prog.info? 22).map (fun i => (i.zero, i.size, i.bytes)) = some (some (.slice none 0 0), 1, 24) := by kernel_rfl
/-- The lists hold what each region reads, of the edges l. -/
def IsRead (num : Nat → Nat) (l : List Ed) (Ls : Nat → List Int) : Prop := ∀ p x, x ∈ Ls p ↔ ∃ a : Nat, x = (a : Int) ∧ Pr num l a p
theorem IsRead.skip {num : Nat → Nat} {l : List Ed} {Ls : Nat → List Int} (h : IsRead num l Ls) {e : Ed} (he : num e.f.toNat = num e.t.toNat ∨ ((num e.f.toNat : Nat) : Int) ∈ Ls (num e.t.toNat)) : IsRead num (l ++ [e]) Ls := fun p x => by
  rw [h p x]
  constructor
  · rintro ⟨a, hx, e', he', h1, h2, h3⟩
    exact ⟨a, hx, e', List.mem_append_left _ he', h1, h2, h3⟩
  · rintro ⟨a, hx, e', he', h1, h2, h3⟩
    rcases List.mem_append.1 he' with he' | he'
    · exact ⟨a, hx, e', he', h1, h2, h3⟩
    · obtain rfl : e' = e := by simpa using he'
      rcases he with he | he
      · exact absurd (h1.symm.trans (he.trans h2)) h3
      · rw [h1, h2] at he
        obtain ⟨a2, h4, h5⟩ := (h p _).1 he
        obtain rfl : a = a2 := by omega
        exact ⟨a, hx, h5⟩
theorem IsRead.step {num : Nat → Nat} {l : List Ed} {Ls : Nat → List Int} (h : IsRead num l Ls) {e : Ed} (hne : num e.f.toNat ≠ num e.t.toNat) : IsRead num (l ++ [e]) (fun j => if j = num e.t.toNat then Ls j ++ [((num e.f.toNat : Nat) : Int)] else Ls j) := fun p x => by
  show x ∈ (if p = num e.t.toNat then Ls p ++ [((num e.f.toNat : Nat) : Int)] else Ls p) ↔ _
  by_cases hp : p = num e.t.toNat
  · subst hp
    rw [if_pos rfl, List.mem_append, h _ x, List.mem_singleton]
    constructor
    · rintro (⟨a, hx, e', he', h1, h2, h3⟩ | hx)
      · exact ⟨a, hx, e', List.mem_append_left _ he', h1, h2, h3⟩
      · exact ⟨_, hx, e, by simp, rfl, rfl, hne⟩
    · rintro ⟨a, hx, e', he', h1, h2, h3⟩
      rcases List.mem_append.1 he' with he' | he'
      · exact .inl ⟨a, hx, e', he', h1, h2, h3⟩
      · obtain rfl : e' = e := by simpa using he'
        exact .inr (by rw [hx, h1])
  · rw [if_neg hp, h p x]
    constructor
    · rintro ⟨a, hx, e', he', h1, h2, h3⟩
      exact ⟨a, hx, e', List.mem_append_left _ he', h1, h2, h3⟩
    · rintro ⟨a, hx, e', he', h1, h2, h3⟩
      rcases List.mem_append.1 he' with he' | he'
      · exact ⟨a, hx, e', he', h1, h2, h3⟩
      · obtain rfl : e' = e := by simpa using he'
        exact absurd h2.symm hp
theorem IsRead.nil (num : Nat → Nat) : IsRead num [] (fun _ => []) := fun p x => by simp [Pr]

/-- What reads hands back. -/
def RetRd (g : Gr) (w : World) (e : Ending) (w' : World) : Prop :=
  ∃ (gr : Nat) (V : Nat → Value) (Ls : Nat → List Int), e = .returned (.slice (some ⟨gr, 0, none⟩) (wvK g) (wvK g)) ∧ Grid w' w.heap.size gr 22 3 1 (wvK g) V (fun p => (Ls p).length) (fun p => intsL (Ls p)) ∧
    IsRead (wvNum g) g.es Ls ∧ (∀ p, (Ls p).length ≤ 400) ∧ Below w.heap.size w w'

set_option maxRecDepth 100000 in
set_option maxHeartbeats 4000000 in
theorem reads_any (g : Gr) (w : World) (hg : g.Ok w w.heap.size) (hv : validB g = true) : Calls Try.prog 57 #[.agg #[g.v1, g.v2]] w (RetRd g w) := by
  obtain ⟨i0, hi, hz0, hz1, hz2⟩ := info_parts infoInt_dk
  have hb := ok_ops hv
  have hbn : g.n2 ≤ 400 := by
    unfold validB at hv
    simp only [Bool.and_eq_true, decide_eq_true_eq] at hv
    exact hv.1.1.2
  have HV := hide hv
  have HL2 := hide (hg.r2.len encEd_len (by omega))
  have HNK := hide (fun i (h : i < g.n1) => numOf_num (Lab.labs g.es) h)
  have hK : numb (labs g.es) g.n1 ≤ g.n1 := numb_le _ _
  have hB0 : Below w.heap.size w (w.alloc (.cells #[g.v1, g.v2] 30)) := (Below.refl _ _).alloc (Nat.le_refl _) _
  have b0 : Blk (w.alloc (.cells #[g.v1, g.v2] 30)) w.heap.size 30 #[g.v1, g.v2] := Blk.new w _ _
  have hs0 : (w.alloc (.cells #[g.v1, g.v2] 30)).heap.size = w.heap.size + 1 := World.size_alloc _ _
  clear hv
  go_enter Try.func57, Try.ntmps57
  go_wp2_with fail
  obtain ⟨W0, hW0⟩ : ∃ W0, w.alloc (.cells #[g.v1, g.v2] 30) = W0 := ⟨_, rfl⟩
  rw [hW0] at hB0 b0 hs0 ⊢
  clear hW0
  refine (regions_any g W0 (hg.up hB0) HV.out).mono ?_
  rintro e W1 ⟨Ar, cr, rfl, hr, hB1⟩
  rw [nums_row] at hr
  obtain ⟨ar, offr, rfl, har, hrc⟩ := reads_row hr (by omega)
  have b1 := b0.below hB1 (by omega)
  have hB01 := bstep hB0 hB1
  have hs1 : w.heap.size < W1.heap.size := by have := hB1.size; omega
  have HRC := hide hrc
  clear hr hrc b0 hB0 hB1 hs0
  go_wp2_with fail
  refine (Max_any (labs g.es) (Lab.labs _) g.n1 cr ar offr W1 (by omega) (by omega) HRC.out).mono ?_
  rintro e W2 ⟨rfl, rfl⟩
  have HKK := hide (show numb (labs g.es) g.n1 = wvK g from rfl)
  have hK1 := numb_pos (Lab.labs g.es) hb.1
  obtain ⟨K, hKe⟩ : ∃ K, numb (labs g.es) g.n1 = K := ⟨_, rfl⟩
  rw [hKe] at HKK hK HNK hK1 ⊢
  clear hKe
  have hk3 : (K : Int) - 1 + 1 = (K : Int) := by omega
  have hmk := fun W => run_make_row' (P := Try.prog) 83 22 (.slice none 0 0) 24 Try.underlying83 infoInts_dk rfl .i64 .i64 K (by omega) (by omega) W
  have hGm := Grid.made (base := W1.heap.size) W1 22 3 1 K (Nat.le_refl _)
  have hB3 : Below W1.heap.size W1 (W1.alloc (.cells (madeCells #[.slice none 0 0] K) 22)) := (Below.refl _ _).alloc (Nat.le_refl _) _
  have hs3 : (W1.alloc (.cells (madeCells #[.slice none 0 0] K) 22)).heap.size = W1.heap.size + 1 := World.size_alloc _ _
  go_upto_region 3 with fail
  obtain ⟨W3, hW3⟩ : ∃ W3, W1.alloc (.cells (madeCells #[.slice none 0 0] K) 22) = W3 := ⟨_, rfl⟩
  rw [hW3] at hGm hB3 hs3 ⊢
  clear hW3 hmk
  obtain ⟨gr, hgr⟩ : ∃ gr, W1.heap.size = gr := ⟨_, rfl⟩
  rw [hgr] at hGm hB3 hs3 hs1 har ⊢
  have hgm : g.Ok W3 gr := by rw [← hgr]; exact (hg.up hB01).below (by rw [hgr]; exact hB3)
  have HOM := hide (fun i (h : i < g.n1) => (hB3.cell (p := ⟨ar, offr + i, none⟩) har).trans (HRC.out i h))
  have d1 : W3.cell? ⟨w.heap.size, 1, none⟩ = some (.slice g.a2 g.n2 g.c2) := (hB3.cell (p := ⟨w.heap.size, 1, none⟩) hs1).trans (b1.cell 1)
  have hBw : Below w.heap.size w W3 := hB01.trans (hB3.mono (by omega))
  clear HRC hgr b1 hB01 hB3
  go_wp2_with fail
  go_loopw [6, 7, 8, 18] (fun _ _ _ i wr => ∃ (k : Nat) (V : Nat → Value) (Ls : Nat → List Int), k ≤ g.n2 ∧ i = .int .i64 k ∧ Grid wr gr gr 22 3 1 K V (fun p => (Ls p).length) (fun p => intsL (Ls p)) ∧ IsRead (wvNum g) (g.es.take k) Ls ∧ (∀ p, (Ls p).length ≤ k) ∧ Below gr W3 wr) (fun _ _ _ i _ => g.n2 - (intOf i).toNat)
  case atStart => exact ⟨0, _, fun _ => [], Nat.zero_le _, rfl, hGm, IsRead.nil _, fun _ => Nat.le_refl _, Below.refl _ _⟩
  case round =>
    clear hGm d1
    obtain ⟨k, V, Ls, hk, rfl, hG, hrd, hlen, hB⟩ := hrel
    have HRD := hide hrd
    have HLN := hide hlen
    clear hrd hlen
    by_cases hlt2 : k < g.n2
    · obtain ⟨b1, off, e, ha, hb1, hek, hce⟩ := (hgm.below hB).r2.elem encEd_len HL2.out hlt2
      obtain ⟨v1, v2, v3, v4, v5⟩ := ok_edge HV.out hek
      have HEM := hide (mem_at hek)
      have HTK := hide (take_snoc' hek)
      clear hek
      have e0 : wr.cell? ⟨b1, off + k * 3, none⟩ = some (.int .i64 e.f) := by simpa using hce 0 _ rfl
      have e1 : wr.cell? ⟨b1, off + k * 3 + 1, none⟩ = some (.int .i64 e.t) := by simpa [← Nat.add_assoc] using hce 1 _ rfl
      have e2 : wr.cell? ⟨b1, off + k * 3 + 2, none⟩ = some (.bool e.s) := by simpa [← Nat.add_assoc] using hce 2 _ rfl
      clear hce
      have hWs := hB.size
      have hgl := hG.lt
      have hbw : b1 < wr.heap.size := by omega
      rw [ha]
      clear ha
      obtain ⟨f, hf⟩ := Int.eq_ofNat_of_zero_le v1
      obtain ⟨t, ht⟩ := Int.eq_ofNat_of_zero_le (show 0 ≤ e.t by omega)
      have HSKIP := hide (fun (h : wvNum g f = wvNum g t ∨ ((wvNum g f : Nat) : Int) ∈ Ls (wvNum g t)) => show IsRead (wvNum g) (g.es.take (k + 1)) Ls from by rw [HTK.out]; exact HRD.out.skip (by rw [hf, ht]; exact h))
      have HSTEP := hide (fun (h : wvNum g f ≠ wvNum g t) => show IsRead (wvNum g) (g.es.take (k + 1)) (fun j => if j = wvNum g t then Ls j ++ [((wvNum g f : Nat) : Int)] else Ls j) from by
        have := HRD.out.step (e := e) (by rw [hf, ht]; exact h)
        rw [hf, ht] at this
        rw [HTK.out]; exact this)
      have HPIPE := hide (show e.s = false → wvNum g f = wvNum g t from fun hs => by
        have := labs_closed HEM.out hs
        rw [hf, ht] at this
        exact (numOf_eq (Lab.labs g.es)).2 this)
      rw [hf] at e0 v2
      rw [ht] at e1 v2 v3
      have hfn : f < g.n1 := by omega
      have htn : t < g.n1 := by omega
      have hG2 := hG.alloc (.cells #[.int .i64 (f : Int), .int .i64 (t : Int), .bool e.s] 71)
      have hB2 := hB.alloc (by omega) (.cells #[.int .i64 (f : Int), .int .i64 (t : Int), .bool e.s] 71)
      go_upto_region 6 with fail
      obtain ⟨W5, hW5⟩ : ∃ W5, wr.alloc (.cells #[.int .i64 (f : Int), .int .i64 (t : Int), .bool e.s] 71) = W5 := ⟨_, rfl⟩
      have f0 : W5.cell? ⟨wr.heap.size, 0, none⟩ = some (.int .i64 (f : Int)) := by rw [← hW5]; simp
      have f1 : W5.cell? ⟨wr.heap.size, 1, none⟩ = some (.int .i64 (t : Int)) := by rw [← hW5]; simp
      have f2 : W5.cell? ⟨wr.heap.size, 2, none⟩ = some (.bool e.s) := by rw [← hW5]; simp
      rw [hW5] at hG2 hB2 ⊢
      clear hW5 hG hB e0 e1 e2 hbw hgl hWs
      obtain ⟨be, hbe⟩ : ∃ be, wr.heap.size = be := ⟨_, rfl⟩
      rw [hbe] at f0 f1 f2 ⊢
      clear hbe
      have kf := (hB2.cell (p := ⟨ar, offr + f, none⟩) har).trans (HOM.out f hfn)
      have kt := (hB2.cell (p := ⟨ar, offr + t, none⟩) har).trans (HOM.out t htn)
      have hxn := HNK.out f hfn
      have hyn := HNK.out t htn
      change W5.cell? ⟨ar, offr + f, none⟩ = some (.int .i64 ((wvNum g f : Nat) : Int)) at kf
      change W5.cell? ⟨ar, offr + t, none⟩ = some (.int .i64 ((wvNum g t : Nat) : Int)) at kt
      change wvNum g f < K at hxn
      change wvNum g t < K at hyn
      obtain ⟨x, hx⟩ : ∃ x, wvNum g f = x := ⟨_, rfl⟩
      obtain ⟨y, hy⟩ : ∃ y, wvNum g t = y := ⟨_, rfl⟩
      rw [hx] at kf hxn HSKIP HSTEP HPIPE
      rw [hy] at kt hyn HSKIP HSTEP HPIPE
      clear hx hy
      have q3 : (0 : Int) ≤ (f : Int) := by omega
      have q4 : (f : Int) < (g.n1 : Int) := by omega
      have q5 : (0 : Int) ≤ (t : Int) := by omega
      have q6 : (t : Int) < (g.n1 : Int) := by omega
      go_wp2_with fail
      go_quiet (fail)
      obtain ⟨W6, hW6⟩ : ∃ W6, W5.drewN nq = W6 := ⟨_, rfl⟩
      have g2 : W6.cell? ⟨be, 2, none⟩ = some (.bool e.s) := by rw [← hW6]; exact f2
      have hG3 : Grid W6 gr gr 22 3 1 K V (fun p => (Ls p).length) (fun p => intsL (Ls p)) := by rw [← hW6]; exact hG2.drewN nq
      have hB3 : Below gr W3 W6 := by rw [← hW6]; exact below_drewN hB2 nq
      rw [hW6]
      clear hW6 hG2 hB2 f0 f1 f2 kf kt
      have hlenY := HLN.out y
      cases hs : e.s
      · rw [hs] at g2
        have HEND := hide (HSKIP.out (.inl (HPIPE.out hs)))
        go_wp2
        go_roundw
        case rel => exact ⟨k + 1, V, Ls, by omega, by go_num, hG3, HEND.out, fun p => Nat.le_trans (HLN.out p) (by omega), hB3⟩
        case measure => simp [intOf]; omega
      · rw [hs] at g2
        by_cases hxy : x = y
        · have n1 : ((x : Int) != (y : Int)) = false := by simp; omega
          have HEND := hide (HSKIP.out (.inl hxy))
          clear hxy
          go_wp2
          go_roundw
          case rel => exact ⟨k + 1, V, Ls, by omega, by go_num, hG3, HEND.out, fun p => Nat.le_trans (HLN.out p) (by omega), hB3⟩
          case measure => simp [intOf]; omega
        · have n1 : ((x : Int) != (y : Int)) = true := by simp; omega
          have hrow := hG3.row y hyn
          have hcell := hG3.cell hyn
          obtain ⟨v, hvv⟩ : ∃ v, V y = v := ⟨_, rfl⟩
          rw [hvv] at hrow hcell
          obtain ⟨ql, hql⟩ : ∃ ql, (Ls y).length = ql := ⟨_, rfl⟩
          simp only [hql] at hrow
          rw [hql] at hlenY
          have HQL := hide hql
          obtain ⟨A7, c7, rfl, hR7⟩ := own_form hrow
          have q9 : (0 : Int) ≤ (y : Int) := by omega
          have q10 : (y : Int) < (K : Int) := by omega
          cases hh : hasB (Ls y) (x : Int)
          · have HH := hide hh
            have HEND := hide (HSTEP.out hxy)
            have ag := hG3.away y hyn
            rw [hvv] at ag
            have frz := fun o => (Grid.alloc hG3 o).frozen y
            have crz : ∀ o, (W6.alloc o).cell? ⟨gr, y, none⟩ = some (.slice A7 ql c7) := fun o => ((Grid.alloc hG3 o).cell hyn).trans (by rw [hvv])
            have hW6s := hB3.size
            have hgl := hG3.lt
            clear hxy hh hql
            go_wp2_with (first | (go_at_call 48; refine (Contains_any A7 ql c7 W6.heap.size (Ls y) _ _ hR7 (by omega)).mono ?_; rintro ee w' ⟨rfl, rfl⟩; rw [HH.out]) | (at_builtin; refine wpList_append_own_at _ rfl _ _ 22 rfl gr 3 i0 _ 1 8 Try.underlying22 hi hz0 hz1 hz2 rfl (by decide) (.slice A7 ql c7) ql _ rfl (hrow.alloc _) ⟨W6.heap.size, 0, none⟩ 1 1 [.int .i64 (x : Int)] rfl rfl (cells_new _ _ _) (by simp [Value.oneCell']) (by unfold maxLen; omega) (by omega) (by simp; omega) ?_; intro v' w1 hown1 hgrow _ hat; have hf1 := (hgrow.frozen_far ⟨gr, y, none⟩ (by simp; omega) (Ne.symm ag)).trans (frz _); have hc1 := (hgrow.cell_far ⟨gr, y, none⟩ (by simp; omega) (Ne.symm ag)).trans (crz _); obtain ⟨g7, cap7, rfl⟩ := ownsRow_succ hown1))
            have hgrow' : (W6.alloc (.cells #[.int .i64 (x : Int)] 3)).grownBy w1 (V y).ownBlock := by rw [hvv]; exact hgrow
            have hat' : (Value.slice (some ⟨g7, 0, none⟩) (ql + 1) cap7).ownBlock = (V y).ownBlock ∨ (Value.slice (some ⟨g7, 0, none⟩) (ql + 1) cap7).ownBlock = some (W6.alloc (.cells #[.int .i64 (x : Int)] 3)).heap.size := by rw [hvv]; exact hat
            have hG7 := Grid.step (m := 1) (news := [.int .i64 (x : Int)]) (Grid.alloc hG3 (.cells #[.int .i64 (x : Int)] 3)) hyn (by show w1.ownsRow gr _ 1 _ ((Ls y).length + 1) _; rw [HQL.out]; exact hown1) hgrow' hat'
            have hG8 := hG7.congr (L' := fun p => ((if p = y then Ls p ++ [(x : Int)] else Ls p) : List Int).length) (G' := fun p => intsL (if p = y then Ls p ++ [(x : Int)] else Ls p)) (fun p _ => by
              by_cases e : p = y
              · simp [e]
              · simp [e]) (fun p _ => by
              by_cases e : p = y
              · simp [e, intsL]
              · simp [e])
            have hB7 := Grid.step_below (v' := .slice (some ⟨g7, 0, none⟩) (ql + 1) cap7) (Grid.alloc hG3 (.cells #[.int .i64 (x : Int)] 3)) hyn hgrow' (hB3.alloc (by omega) _) (Nat.le_refl _)
            clear hgrow hgrow' hat hat' hown1 hf1 hc1 hG3 hB3 hG7 hrow hcell frz crz
            go_roundw
            case rel => exact ⟨k + 1, _, _, by omega, by go_num, hG8, HEND.out, fun p => by
              have := HLN.out p
              by_cases e : p = y
              · rw [if_pos e, List.length_append]; simp; omega
              · rw [if_neg e]; omega, hB7⟩
            case measure => simp [intOf]; omega
          · have HH := hide hh
            have HEND := hide (HSKIP.out (.inr (hasB_mem.1 hh)))
            clear hxy hh hql
            go_wp2_with (go_at_call 48; refine (Contains_any A7 ql c7 W6.heap.size (Ls y) _ _ hR7 (by omega)).mono ?_; rintro ee w' ⟨rfl, rfl⟩; rw [HH.out])
            go_roundw
            case rel => exact ⟨k + 1, V, Ls, by omega, by go_num, hG3, HEND.out, fun p => Nat.le_trans (HLN.out p) (by omega), hB3⟩
            case measure => simp [intOf]; omega
    · obtain rfl : k = g.n2 := by omega
      have hrd := HRD.out
      rw [take_all HL2.out] at hrd
      have HR := hide (show RetRd g w (.returned (.slice (some ⟨gr, 0, none⟩) K K)) wr from by
        refine ⟨gr, V, Ls, by rw [← HKK.out], ?_, hrd, fun p => Nat.le_trans (HLN.out p) hbn, hBw.trans (hB.mono (by omega))⟩
        rw [← HKK.out]
        exact ⟨by omega, hG.top, fun p hp => own_mono (hG.row p hp) (by omega), hG.away, hG.apart⟩)
      clear hG hB hrd
      go_wp2
      go_ret
      exact HR.out
end Go.Proofs.Ytblepaocekojbaa
