/-
  The walks of Together on both sides.
-/
import Derived.Test.YthngjbhamgmcgaaEnCc
import Derived.Test.YthngjbhamgmcgaaQbw
namespace Go.Proofs.Ythngjbhamgmcgaa
open Go.RowKit
attribute [local go_sem] Oper.semAt_some
set_option linter.unusedVariables false

/-- What the sort leaves, of a row of the call's own or of nothing. -/
def RetSortSE (A : Option Addr) (n : Nat) (l : List En) (e : Ending) (w' : World) : Prop := e = .returned (.tuple #[]) ∧ ∃ l' : List En, l'.Perm l ∧ SrtE l' ∧ Reads w' w'.heap.size 4 A n (flatE l')
theorem SortSE_any (w0 w : World) (A : Option Addr) (n c : Nat) (l : List En) (h : w.ownsRow w0.heap.size 57 4 (.slice A n c) n (flatE l)) (hn : n ≤ 100000) (hB : Below w0.heap.size w0 w) :
    Calls Try.prog 56 #[.slice A n c, .func (Fn.func 34) #[] #[]] w fun e w' => RetSortSE A n l e w' ∧ Below w0.heap.size w0 w' := by
  rcases h.2 with ⟨he, hn0⟩ | ⟨g', cap, cur, he, hb, hg, h1, h2, h3, h4⟩
  · injection he with e1 e2 e3
    subst e1 e2 e3
    have hl0 : l = [] := by
      have := h.1
      rw [flatE_len] at this
      exact List.length_eq_zero_iff.1 (by omega)
    subst hl0
    exact (Sort_none 0 w).mono fun e w' ⟨he, hw⟩ => by subst hw; exact ⟨⟨he, [], List.Perm.refl _, List.Pairwise.nil, Reads.none_⟩, hB⟩
  · injection he with e1 e2 e3
    subst e1 e3
    exact (Sort_any _ g' n c l w h hn).mono fun e w' ⟨he, l', hp, hs, hr, hbl⟩ => ⟨⟨he, l', hp, hs, hr⟩, hB.trans (hbl.mono hb)⟩
/-- What Together tells. -/
def ToE (R : List Er) (out : List En) (E : Int) : Prop := (allE (allL R) = false ∧ E = 1 ∧ out = []) ∨ (allE (allL R) = true ∧ ∃ s, s.Perm (allL R) ∧ SrtE s ∧ ((twB s = true ∧ E = 6 ∧ out = []) ∨ (twB s = false ∧ E = 0 ∧ out = s)))
theorem ToE.one {R : List Er} {a b : List En} {E F : Int} (h : ToE R a E) (k : ToE R b F) : a = b ∧ E = F := by
  rcases h with ⟨h1, h2, h3⟩ | ⟨h1, s, h2, h3, h4⟩ <;> rcases k with ⟨k1, k2, k3⟩ | ⟨k1, t, k2, k3, k4⟩
  · exact ⟨h3.trans k3.symm, h2.trans k2.symm⟩
  · rw [h1] at k1; cases k1
  · rw [k1] at h1; cases h1
  · have e := sorted_one (h2.trans k2.symm) h3 k3
    subst e
    rcases h4 with ⟨x1, x2, x3⟩ | ⟨x1, x2, x3⟩ <;> rcases k4 with ⟨y1, y2, y3⟩ | ⟨y1, y2, y3⟩
    · exact ⟨x3.trans y3.symm, x2.trans y2.symm⟩
    · rw [x1] at y1; cases y1
    · rw [y1] at x1; cases x1
    · exact ⟨x3.trans y3.symm, x2.trans y2.symm⟩
def RetTo (w : World) (R : List Er) (e : Ending) (w' : World) : Prop := ∃ out A n c E, ToE R out E ∧ e = .returned (.tuple #[.slice A n c, .int .i64 E]) ∧ n ≤ 24000 ∧ Reads w' w'.heap.size 4 A n (flatE out) ∧ Below w.heap.size w w'
theorem allL_len {w : World} {B n : Nat} {A : Option Addr} {R : List Er} (h : TabE w B A n R) : (allL R).length = lenL R := by
  have : ∀ L : List Er, (∀ r ∈ L, r.xs.length = r.n) → (allL L).length = lenL L := by
    intro L
    induction L with
    | nil => intro _; rfl
    | cons r L ih =>
      intro hL
      have h1 := hL r List.mem_cons_self
      have h2 := ih fun x hx => hL x (List.mem_cons_of_mem _ hx)
      simp only [allL, lenL, List.flatMap_cons, List.length_append, List.map_cons, List.sum_cons] at h2 ⊢
      omega
  exact this R fun r hr => (h.2 r hr).len (enc := encE) encE_len (by omega)
theorem allSz_all {R : List Er} (h : ∀ r ∈ R, AllSz r.xs) : AllSz (allL R) := fun x hx => by
  obtain ⟨r, hr, hx⟩ := List.mem_flatMap.1 hx
  exact h r hr x hx
theorem allE_perm {a b : List En} (h : a.Perm b) : allE a = allE b := by
  unfold allE
  exact h.all_eq
set_option maxRecDepth 100000 in
set_option maxHeartbeats 8000000 in
theorem Together_any (A : Option Addr) (n c : Nat) (R : List Er) (w : World) (hT : TabE w w.heap.size A n R) (hn : n ≤ 400) (hr : ∀ r ∈ R, r.n ≤ 60) (hs : ∀ r ∈ R, AllSz r.xs) :
    Calls Try.prog 29 #[.slice A n c] w (RetTo w R) := by
  have HL := hide (show R.length = n from hT.1.len1)
  have hlt : lenL R ≤ 24000 := by have := lenL_le hr; rw [HL.out] at this; omega
  have hal := allL_len hT
  obtain ⟨m, hm⟩ : ∃ m, lenL R = m := ⟨_, rfl⟩
  have HCC := hide (Concat_any A n c R w hT hn hr)
  have hsz := allSz_all hs
  obtain ⟨L, hL⟩ : ∃ L, allL R = L := ⟨_, rfl⟩
  have HLL := hide hL
  rw [hm] at hlt hal HCC
  rw [hL] at hal HCC hsz
  clear hm hL
  go_enter Try.func29, Try.ntmps29
  go_wp2_with fail
  refine HCC.out.mono ?_
  rintro e W1 ⟨A1, c1, rfl, hown1, hB1⟩
  go_wp2_with fail
  refine (valid_any A1 m c1 L W1 (Reads.of_own hown1) (by omega) hsz).mono ?_
  rintro e W2 ⟨rfl, hB2⟩
  have hown2 := own_below hown1 hB2
  have hB02 := bstep hB1 hB2
  clear hown1 hB1 hB2
  cases ho : allE L
  · have HX := hide (show ToE R [] 1 from .inl ⟨by rw [HLL.out]; exact ho, rfl, rfl⟩)
    clear ho hown2
    go_wp2
    go_ret2
    exact ⟨[], none, 0, 0, 1, HX.out, rfl, by omega, Reads.none_, hB02⟩
  · have HS := hide (SortSE_any w W2 A1 m c1 L hown2 (by omega) hB02)
    have HO := hide ho
    clear hown2 hB02 ho
    go_wp2_with fail
    refine HS.out.mono ?_
    rintro e W3 ⟨⟨rfl, s, hp, hst, hrd⟩, hB3⟩
    have hls : s.length = m := by rw [hp.length_eq, hal]
    have HP := hide hp
    have HST := hide hst
    have HLS := hide hls
    clear HS hp hst hls
    go_wp2_with fail
    go_loopw [5] (fun i wr => ∃ k : Nat, k ≤ m ∧ i = .int .i64 ((k + 1 : Nat) : Int) ∧ (∀ (q : Nat) (x y : En), q < k → s[q]? = some x → s[q + 1]? = some y → plE x y ≠ 0) ∧ Below W3.heap.size W3 wr) (fun i _ => m + 1 - (intOf i).toNat)
    case atStart => exact ⟨0, Nat.zero_le _, rfl, fun q x y h => absurd h (by omega), Below.refl _ _⟩
    case round =>
      obtain ⟨k, hk, rfl, hno, hB⟩ := hrel
      have HN := hide hno
      clear hno
      by_cases hlt2 : k + 1 < m
      · obtain ⟨b, off, x, rfl, hb, hxk, hc⟩ := (hrd.up hB).elem (enc := encE) encE_len HLS.out (show k < m by omega)
        obtain ⟨b', off', y, e, _, hyk, hc'⟩ := (hrd.up hB).elem (enc := encE) encE_len HLS.out hlt2
        injection e with e
        injection e with e1 e2
        subst e1 e2
        have c0 : wr.cell? ⟨b, off + k * 4, none⟩ = some (.int .i64 x.g) := by simpa using hc 0 _ rfl
        have c1 : wr.cell? ⟨b, off + k * 4 + 1, none⟩ = some (.string x.nm) := by simpa [← Nat.add_assoc] using hc 1 _ rfl
        have c2 : wr.cell? ⟨b, off + k * 4 + 2, none⟩ = some (.string x.ky) := by simpa [← Nat.add_assoc] using hc 2 _ rfl
        have c3 : wr.cell? ⟨b, off + k * 4 + 3, none⟩ = some (.string x.vl) := by simpa [← Nat.add_assoc] using hc 3 _ rfl
        have d0 : wr.cell? ⟨b, off + (k + 1) * 4, none⟩ = some (.int .i64 y.g) := by simpa using hc' 0 _ rfl
        have d1 : wr.cell? ⟨b, off + (k + 1) * 4 + 1, none⟩ = some (.string y.nm) := by simpa [← Nat.add_assoc] using hc' 1 _ rfl
        have d2 : wr.cell? ⟨b, off + (k + 1) * 4 + 2, none⟩ = some (.string y.ky) := by simpa [← Nat.add_assoc] using hc' 2 _ rfl
        have d3 : wr.cell? ⟨b, off + (k + 1) * 4 + 3, none⟩ = some (.string y.vl) := by simpa [← Nat.add_assoc] using hc' 3 _ rfl
        have HXK := hide hxk
        have HYK := hide hyk
        clear hc hc' hxk hyk
        have w1 : ((k + 1 : Nat) : Int) - 1 = (k : Int) := by omega
        have w2 : IntKind.i64.wrap (((k + 1 : Nat) : Int) - 1) = (k : Int) := by rw [w1, IntKind.wrap_i64]; omega
        have q1 : (0 : Int) ≤ (k : Int) := by omega
        have q2 : (k : Int) < (m : Int) := by omega
        have q3 : (0 : Int) ≤ ((k + 1 : Nat) : Int) := by omega
        have q4 : ((k + 1 : Nat) : Int) < (m : Int) := by omega
        obtain ⟨cc, hcc⟩ : ∃ cc, plE x y = cc := ⟨_, rfl⟩
        have HCM := hide hcc
        have C1 := hide (fun (p : BW wr) => calls_bw (p := p) (v := .int .i64 cc) (by rw [← hcc]; exact (place_any x y p.x).mono fun _ _ h => ⟨h.1, h.2.below⟩))
        have r0 := fun (p : BW wr) => BW.cell (a := ⟨b, off + k * 4, none⟩) hb c0 p
        have r1 := fun (p : BW wr) => BW.cell (a := ⟨b, off + k * 4 + 1, none⟩) hb c1 p
        have r2 := fun (p : BW wr) => BW.cell (a := ⟨b, off + k * 4 + 2, none⟩) hb c2 p
        have r3 := fun (p : BW wr) => BW.cell (a := ⟨b, off + k * 4 + 3, none⟩) hb c3 p
        have s0 := fun (p : BW wr) => BW.cell (a := ⟨b, off + (k + 1) * 4, none⟩) hb d0 p
        have s1 := fun (p : BW wr) => BW.cell (a := ⟨b, off + (k + 1) * 4 + 1, none⟩) hb d1 p
        have s2 := fun (p : BW wr) => BW.cell (a := ⟨b, off + (k + 1) * 4 + 2, none⟩) hb d2 p
        have s3 := fun (p : BW wr) => BW.cell (a := ⟨b, off + (k + 1) * 4 + 3, none⟩) hb d3 p
        clear c0 c1 c2 c3 d0 d1 d2 d3 hcc
        by_cases hc0 : cc = 0
        · have z : (cc == 0) = true := by simpa using hc0
          have HX := hide (show ToE R [] 6 from .inr ⟨by rw [HLL.out]; exact HO.out, s, by rw [HLL.out]; exact HP.out, HST.out, .inl ⟨twB_yes HXK.out HYK.out (by rw [HCM.out]; exact hc0), rfl, rfl⟩⟩)
          clear hc0
          go_wp2_with fail
          (refine wp_region_quiet_bw (by kernel_rfl) (by kernel_rfl) ?_
           repeat (first | go_big_quiet_step (((go_at_call 57; with_reducible exact C1.out _))) | quiet_step (((go_at_call 57; with_reducible exact C1.out _))))
           refine wpQuiet_nil ?_
           intro wq hw'
           obtain ⟨⟨_, hbq⟩, hw''⟩ := hw'
           subst hw'')
          have HB := hide (hB3.trans ((hB.trans (hbq.mono hB.size)).mono hB3.size))
          clear hbq hB r0 r1 r2 r3 s0 s1 s2 s3 C1
          go_wp2
          go_ret2
          exact ⟨[], none, 0, 0, 6, HX.out, rfl, by omega, Reads.none_, HB.out⟩
        · have z : (cc == 0) = false := by simpa using hc0
          have HX := hide (show ∀ (q : Nat) (u v : En), q < k + 1 → s[q]? = some u → s[q + 1]? = some v → plE u v ≠ 0 from fun q u v hq hu hv => by
            by_cases e : q = k
            · subst e
              rw [HXK.out] at hu
              rw [HYK.out] at hv
              injection hu with hu
              injection hv with hv
              rw [← hu, ← hv, HCM.out]; exact hc0
            · exact HN.out q u v (by omega) hu hv)
          clear hc0
          go_wp2_with fail
          (refine wp_region_quiet_bw (by kernel_rfl) (by kernel_rfl) ?_
           repeat (first | go_big_quiet_step (((go_at_call 57; with_reducible exact C1.out _))) | quiet_step (((go_at_call 57; with_reducible exact C1.out _))))
           refine wpQuiet_nil ?_
           intro wq hw'
           obtain ⟨⟨_, hbq⟩, hw''⟩ := hw'
           subst hw'')
          have HB := hide (hB.trans (hbq.mono hB.size))
          clear hbq hB r0 r1 r2 r3 s0 s1 s2 s3 C1
          go_wp2
          go_roundw
          case rel => exact ⟨k + 1, by omega, by go_num, HX.out, HB.out⟩
          case measure => simp [intOf] <;> omega
      · have htw : twB s = false := twB_no fun q x y hx hy => HN.out q x y (by have := (List.getElem?_eq_some_iff.1 hy).1; rw [HLS.out] at this; omega) hx hy
        have HX := hide (show ToE R s 0 from .inr ⟨by rw [HLL.out]; exact HO.out, s, by rw [HLL.out]; exact HP.out, HST.out, .inr ⟨htw, rfl, rfl⟩⟩)
        have HRD := hide (hrd.up hB)
        have HB := hide (hB3.trans (hB.mono hB3.size))
        clear hB htw
        go_wp2
        go_ret2
        exact ⟨s, A1, m, c1, 0, HX.out, rfl, hlt, HRD.out, HB.out⟩
end Go.Proofs.Ythngjbhamgmcgaa
