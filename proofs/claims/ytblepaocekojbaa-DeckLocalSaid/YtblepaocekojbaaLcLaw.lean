/-
  The law DeckLocal: a placement made local with itself stays; the walk, for every input; the argument of type []Place opened.
-/
import Derived.Test.YtblepaocekojbaaLcD
import Derived.Test.YtblepaocekojbaaLcR
import Derived.Test.YtblepaocekojbaaPlZ
import Derived.Test.YtblepaocekojbaaDkAw
import Derived.Test.YtblepaocekojbaaDkP
import Derived.Test.YtblepaocekojbaaOpenRecP
namespace Go.Proofs.Ytblepaocekojbaa
section
open Go.RowKit Go.Shelf Go.Maps Go.Deep
attribute [local go_sem] Oper.semAt_some
set_option linter.unusedVariables false

theorem had_self_eq {f : Nat → Pl} {k : Nat} {p o : Pl} (h : hadF f f k p = some o) : o = p := by
  induction k with
  | zero => cases h
  | succ k ih =>
    rw [hadF_succ] at h
    cases hh : hadF f f k p with
    | some o' => rw [hh] at h; exact ih (hh.trans h)
    | none =>
      rw [hh] at h
      simp only [] at h
      split at h
      · rename_i h1
        injection h with h
        rw [← h, h1.1]
      · cases h
theorem had_self {f : Nat → Pl} {k : Nat} {p : Pl} (hp : 0 ≤ p.m ∧ 0 ≤ p.s) (h : ∃ u, u < k ∧ f u = p) : hadF f f k p = some p := by
  induction k with
  | zero => obtain ⟨u, h1, _⟩ := h; omega
  | succ k ih =>
    rw [hadF_succ]
    cases hh : hadF f f k p with
    | some o => rw [had_self_eq hh]
    | none =>
      simp only []
      by_cases e : f k = p
      · rw [if_pos ⟨e, by rw [e]; exact hp⟩, e]
      · obtain ⟨u, h1, h2⟩ := h
        have := ih ⟨u, by
          have : u ≠ k := fun e2 => e (by rw [← e2]; exact h2)
          omega, h2⟩
        rw [hh] at this
        cases this
theorem tk_self {sl : List Pl} {W : Pl → Bool} {had : Pl → Option Pl} : ∀ (us tk : List Pl), (tk ++ us).Nodup → (∀ p ∈ us, had p = some p) → tkOf sl W had us tk = tk ++ us
  | [], tk, _, _ => by simp [tkOf]
  | p :: us, tk, hn, hh => by
    have hp : p ∉ tk := fun h => by
      have := List.nodup_append.1 hn
      exact this.2.2 p h p List.mem_cons_self rfl
    have hw : wantF W had tk p = p := by
      unfold wantF
      rw [hh p List.mem_cons_self]
      simp
    have ht : toF sl W had tk p = p := by
      unfold toF
      rw [hw, if_neg hp]
    rw [tkOf, ht, tk_self us (tk ++ [p]) (by simpa using hn) fun q hq => hh q (List.mem_cons_of_mem _ hq)]
    simp
theorem used_nodup (S : Nat → Nat) (n : Nat) (ln : List Pl) : (usedL S n ln).Nodup := asc_nodup ((slotsL_asc S n).sublist List.filter_sublist)
/-- Made local with itself a placement stays. -/
theorem loc_self {n q : Nat} {ss : List Int} {ln : List Pl} (hq : ln.length = q) (hw : ∀ p ∈ ln, winB n ss p = true) : locL n ss ln ln q q = ln := by
  have hu : ∀ p, p ∈ usedL (natA ss) n ln ↔ p ∈ ln := fun p => by
    unfold usedL
    rw [List.mem_filter, decide_eq_true_eq]
    exact ⟨fun h => h.2, fun h => ⟨slots_of_win (hw p h), h⟩⟩
  have htk : tkL (natA ss) n ss ln ln q = usedL (natA ss) n ln := by
    unfold tkL
    rw [tk_self _ [] (by simpa using used_nodup _ _ _) fun p hp => ?_]
    · simp
    · have h1 := (hu p).1 hp
      have h2 := hw p h1
      unfold winB at h2
      simp only [Bool.and_eq_true, decide_eq_true_eq] at h2
      refine had_self ⟨h2.1, h2.2.2.1⟩ ?_
      obtain ⟨t, ht, rfl⟩ := List.getElem_of_mem h1
      exact ⟨t, by omega, by unfold plA; rw [List.getElem?_eq_getElem ht]; rfl⟩
  unfold locL
  refine List.ext_getElem (by simp [hq]) fun t h1 h2 => ?_
  rw [List.getElem_map, List.getElem_range]
  unfold locF
  rw [htk]
  have h3 : plA ln t ∈ usedL (natA ss) n ln := (hu _).2 (plA_mem h2)
  have h4 := List.idxOf_lt_length_of_mem h3
  show plA (usedL (natA ss) n ln) _ = _
  rw [show plA (usedL (natA ss) n ln) ((usedL (natA ss) n ln).idxOf (plA ln t)) = plA ln t by
    have h5 : (usedL (natA ss) n ln)[(usedL (natA ss) n ln).idxOf (plA ln t)] = plA ln t := List.getElem_idxOf h4
    unfold plA at h5 h4 ⊢
    rw [List.getElem?_eq_getElem h4]
    exact h5]
  unfold plA
  rw [List.getElem?_eq_getElem h2]
  rfl
theorem locE_zero {q0 q n : Nat} {ss : List Int} {ln : List Pl} (h : locE q0 q n ss ln = 0) : slotB n ss = true ∧ q ≤ 200 ∧ (∀ p ∈ ln, winB n ss p = true) ∧ q0 = q := by
  unfold locE at h
  split at h
  · rename_i h1
    simp only [Bool.and_eq_true, decide_eq_true_eq, Bool.not_eq_true'] at h1
    obtain ⟨h2, h3, h4⟩ := h1
    refine ⟨h2, h3, fun p hp => ?_, ?_⟩
    · have := (List.any_eq_false.1 h4) p hp
      simpa using this
    · by_cases e : q0 = q
      · exact e
      · rw [if_neg e] at h; cases h
  · cases h
theorem locE_self {q0 q n : Nat} {ss : List Int} {ln : List Pl} (h : locE q0 q n ss ln = 0) : locE q q n ss ln = 0 := by
  obtain ⟨_, _, _, rfl⟩ := locE_zero h
  exact h
theorem samePlaces_v (A A' : Option Addr) (n c c' B B' : Nat) (l : List Pl) (w : World) (hx : Reads w B 2 A n (l.flatMap encPl)) (hy : Reads w B' 2 A' n (l.flatMap encPl)) (hn : n ≤ 1000000) :
    Calls Try.prog 38 #[.slice A n c, .slice A' n c'] w (RetV w (.bool true)) :=
  (samePlaces_one A A' n c c' B B' l w hx hy hn).mono fun e w' h => by
    obtain ⟨h1, k, rfl⟩ := h
    exact ⟨h1, below_drewN (Below.refl _ _) k⟩
set_option maxRecDepth 100000 in
set_option maxHeartbeats 8000000 in
theorem deckLocal_near (A : Option Addr) (q0 c : Nat) (lo : List Pl) (A1 : Option Addr) (q c1 : Nat) (ln : List Pl) (A2 : Option Addr) (n c2 : Nat) (ss : List Int) (w : World) (hlo : Reads w w.heap.size 2 A q0 (lo.flatMap encPl)) (hln : Reads w w.heap.size 2 A1 q (ln.flatMap encPl)) (hs : Reads w w.heap.size 1 A2 n (ss.map (Value.int .i64))) (hpo : ∀ u, u < q0 → PlW (plA lo u)) (hpn : ∀ u, u < q → PlW (plA ln u)) (hq0 : q0 ≤ 60) (hq : q ≤ 60) (hn : n ≤ 40) :
    Calls Try.prog 8 #[.slice A q0 c, .slice A1 q c1, .slice A2 n c2] w (RetV w (.bool true)) := by
  have HLN := hide (hln.len encPl_len (by omega))
  have y0 : decide ((60 : Int) < (q0 : Int)) = false := by simp; omega
  have y1 : decide ((60 : Int) < (q : Int)) = false := by simp; omega
  have y2 : decide ((40 : Int) < (n : Int)) = false := by simp; omega
  go_enter Try.func8, Try.ntmps8
  go_wp2_with fail
  refine (awake_any w).mono ?_
  rintro e W1 ⟨rfl, hB1⟩
  have h1 := hide (placed_any A q0 c lo W1 (hlo.up hB1) (by omega))
  go_wp2_with fail
  clear y0 y1 y2
  refine h1.out.mono ?_
  rintro e W2 ⟨A3, c3, rfl, hr3, hB2⟩
  have hB02 := bstep hB1 hB2
  have h2 := hide (placed_any A1 q c1 ln W2 (hln.up hB02) (by omega))
  clear hB1 hB2 h1
  go_wp2_with fail
  refine h2.out.mono ?_
  rintro e W3 ⟨A4, c4, rfl, hr4, hB3⟩
  have hB03 := bstep hB02 hB3
  have hr3 := hr3.up hB3
  have h3 := hide (Local_any A3 q0 c3 lo A4 q c4 ln A2 n c2 ss W3 hr3 hr4 (hs.up hB03) (by omega) (by omega) (by omega) hpo)
  clear hB02 hB3 h2
  go_wp2_with fail
  refine h3.out.mono ?_
  rintro e W4 ⟨A5, c5, rfl, hr5, hB4⟩
  have hB04 := bstep hB03 hB4
  have hr3 := hr3.up hB4
  have hr4 := hr4.up hB4
  have h4 := hide (RLocal_any A q0 c lo A1 q c1 ln A2 n c2 ss W4 (hlo.up hB04) (hln.up hB04) (hs.up hB04) (by omega) (by omega) (by omega))
  clear hB03 hB4 h3
  have hll : (locR q0 q n ss lo ln).length ≤ 60 := by
    unfold locR
    split
    · rw [locL_len]; exact hq
    · simp
  obtain ⟨PR, hPR⟩ : ∃ PR, locR q0 q n ss lo ln = PR := ⟨_, rfl⟩
  obtain ⟨PE, hPE⟩ : ∃ PE, locE q0 q n ss ln = PE := ⟨_, rfl⟩
  rw [hPR, hPE] at h4
  rw [hPR] at hr5 hll
  rw [hPR, hPE]
  have HPE := hide hPE
  clear hPR hPE
  go_wp2_with fail
  refine h4.out.mono ?_
  rintro e W5 ⟨A6, c6, rfl, hr6, hB5⟩
  have hB05 := bstep hB04 hB5
  have hr5 := hr5.up hB5
  have h5 := hide (places_any A5 PR.length c5 PR W5 hr5 (by omega))
  clear hB04 hB5 h4 hr3 hr4
  go_wp2_with fail
  refine h5.out.mono ?_
  rintro e W6 ⟨A7, c7, rfl, hr7, hB6⟩
  have hB06 := bstep hB05 hB6
  have h6 := hide (samePlaces_v A7 A6 PR.length c7 c6 _ _ PR W6 hr7 (hr6.up hB6) (by omega))
  clear hB05 hB6 h5 hr5
  go_wp2_with fail
  refine h6.out.mono ?_
  rintro e W7 ⟨rfl, hB7⟩
  have hB07 := bstep hB06 hB7
  clear hB06 hB7 h6 hr6 hr7
  have n1 : (PE != PE) = false := by simp
  by_cases h0 : PE = 0
  · subst h0
    clear n1
    have hz := HPE.out
    obtain ⟨_, _, hw, _⟩ := locE_zero hz
    have hz2 := locE_self hz
    have hself : locR q q n ss ln ln = ln := by
      unfold locR
      rw [if_pos hz2]
      exact loc_self HLN.out hw
    have HS := hide hself
    have HZ := hide hz2
    clear hz hw hz2 hself
    have h7 := hide (placed_any A1 q c1 ln W7 (hln.up hB07) (by omega))
    go_wp2_with fail
    refine h7.out.mono ?_
    rintro e W8 ⟨A8, c8, rfl, hr8, hB8⟩
    have hB08 := bstep hB07 hB8
    have h8 := hide (placed_any A1 q c1 ln W8 (hln.up hB08) (by omega))
    clear hB07 hB8 h7
    go_wp2_with fail
    refine h8.out.mono ?_
    rintro e W9 ⟨A9, c9, rfl, hr9, hB9⟩
    have hB09 := bstep hB08 hB9
    have hr8 := hr8.up hB9
    have h9 := hide (Local_any A8 q c8 ln A9 q c9 ln A2 n c2 ss W9 hr8 hr9 (hs.up hB09) (by omega) (by omega) (by omega) hpn)
    rw [HS.out, HZ.out, HLN.out] at h9
    clear hB08 hB9 h8
    go_wp2_with fail
    refine h9.out.mono ?_
    rintro e W10 ⟨A10, c10, rfl, hr10, hB10⟩
    have hB010 := bstep hB09 hB10
    have h10 := hide (places_any A10 q c10 ln W10 hr10 (by omega))
    clear hB09 hB10 h9 hr8 hr9
    go_wp2_with fail
    refine h10.out.mono ?_
    rintro e W11 ⟨A11, c11, rfl, hr11, hB11⟩
    have hB011 := bstep hB010 hB11
    have h11 := hide (samePlaces_v A11 A1 q c11 c1 _ _ ln W11 hr11 (hln.up hB011) (by omega))
    clear hB010 hB11 h10 hr10
    go_wp2_with fail
    refine h11.out.mono ?_
    rintro e W12 ⟨rfl, hB12⟩
    have HB := hide (bstep hB011 hB12)
    clear hB011 hB12 h11 hr11
    go_wp2_with fail
    go_ret
    exact ⟨rfl, HB.out⟩
  · have z0 : (PE != 0) = true := by simpa using h0
    clear h0
    go_wp2_with fail
    go_ret
    exact ⟨rfl, hB07⟩
set_option maxRecDepth 100000 in
set_option maxHeartbeats 4000000 in
theorem deckLocal_far (A : Option Addr) (q0 c : Nat) (A1 : Option Addr) (q c1 : Nat) (A2 : Option Addr) (n c2 : Nat) (w : World) (h : 60 < q0 ∨ 60 < q ∨ 40 < n) :
    Calls Try.prog 8 #[.slice A q0 c, .slice A1 q c1, .slice A2 n c2] w (RetV w (.bool true)) := by
  go_enter Try.func8, Try.ntmps8
  go_wp2_with fail
  refine (awake_any w).mono ?_
  rintro e W1 ⟨rfl, hB1⟩
  by_cases h1 : 60 < q0
  · have y0 : decide ((60 : Int) < (q0 : Int)) = true := by simp; omega
    clear h
    go_wp2_with fail
    go_ret
    exact ⟨rfl, hB1⟩
  · have y0 : decide ((60 : Int) < (q0 : Int)) = false := by simp; omega
    by_cases h2 : 60 < q
    · have y1 : decide ((60 : Int) < (q : Int)) = true := by simp; omega
      clear h
      go_wp2_with fail
      go_ret
      exact ⟨rfl, hB1⟩
    · have y1 : decide ((60 : Int) < (q : Int)) = false := by simp; omega
      have y2 : decide ((40 : Int) < (n : Int)) = true := by simp; omega
      clear h
      go_wp2_with fail
      go_ret
      exact ⟨rfl, hB1⟩
theorem deckLocal_all (A : Option Addr) (q0 c : Nat) (lo : List Pl) (A1 : Option Addr) (q c1 : Nat) (ln : List Pl) (A2 : Option Addr) (n c2 : Nat) (ss : List Int) (w : World) (hlo : Reads w w.heap.size 2 A q0 (lo.flatMap encPl)) (hln : Reads w w.heap.size 2 A1 q (ln.flatMap encPl)) (hs : Reads w w.heap.size 1 A2 n (ss.map (Value.int .i64))) (hpo : ∀ z ∈ lo, PlW z) (hpn : ∀ z ∈ ln, PlW z) :
    Calls Try.prog 8 #[.slice A q0 c, .slice A1 q c1, .slice A2 n c2] w (RetV w (.bool true)) := by
  by_cases h : 60 < q0 ∨ 60 < q ∨ 40 < n
  · exact deckLocal_far A q0 c A1 q c1 A2 n c2 w h
  · have h1 := hlo.len encPl_len (by omega)
    have h2 := hln.len encPl_len (by omega)
    exact deckLocal_near A q0 c lo A1 q c1 ln A2 n c2 ss w hlo hln hs (fun u hu => hpo _ (plA_mem (by omega))) (fun u hu => hpn _ (plA_mem (by omega))) (by omega) (by omega) (by omega)
end

section
open Go.RowKit Go.Shelf Go.Deep
set_option linter.unusedVariables false
variable {H : Type} {enc : TypeId × Value → H} {w : World} {base : Nat} {held : Bool}
set_option maxRecDepth 100000 in
theorem dec_placeW (n : Nat) (cs : List Value) (y : DataW H × List MemPlace) (h : DataW.trod enc Try.prog w base (fun _ => true) held n 67 cs = some y) : ∃ z : Pl, cs = encPl z ∧ PlW z := by
  obtain ⟨y0, y1, k, _, hl, h0, h1⟩ := Go.ChangeShapes.trod_struct2 Try.underlying67 h
  rw [show Try.prog.cellsOf 67 = 2 by kernel_rfl] at hl
  match cs, hl with
  | [v0, v1], _ =>
    change DataW.trod enc Try.prog w base (fun _ => true) held k 3 (([v0, v1].drop 0).take (Try.prog.cellsOf 3)) = some y0 at h0
    change DataW.trod enc Try.prog w base (fun _ => true) held k 3 (([v0, v1].drop 1).take (Try.prog.cellsOf 3)) = some y1 at h1
    rw [show Try.prog.cellsOf 3 = 1 by kernel_rfl] at h0 h1
    have g0 : DataW.trod enc Try.prog w base (fun _ => true) held k 3 [v0] = some y0 := h0
    have g1 : DataW.trod enc Try.prog w base (fun _ => true) held k 3 [v1] = some y1 := h1
    obtain ⟨a, ea, _, wa⟩ := DataW.trod_int Try.underlying3 g0
    obtain ⟨b, eb, _, wb⟩ := DataW.trod_int Try.underlying3 g1
    simp at ea eb
    subst ea eb
    exact ⟨⟨a, b⟩, rfl, wa, wb⟩
set_option maxRecDepth 100000 in
theorem open_placesW {r : Reach} {b0 : Nat} {v : Value} {d : DataW H} {ps : List MemPlace} (hval : Value.okWide Try.prog w r b0 43 v) (hd : DataW.Trod enc Try.prog w base (fun _ => true) held 43 v d ps) :
    ∃ A n c, ∃ l : List Pl, v = .slice A n c ∧ Reads w w.heap.size 2 A n (l.flatMap encPl) ∧ n ≤ 9223372036854775807 ∧ ∀ z ∈ l, PlW z := by
  obtain ⟨a0, l0, c0, rfl⟩ := Go.WideShapes.okWide_slice Try.underlying43 hval
  obtain ⟨fuel, hf⟩ := hd
  obtain ⟨A2, n2, c2, es, h1, r2, l2, _, z2⟩ := open_recsP (α := Pl) (encα := encPl) (k := 2) PlW encPl_len (by omega) Try.underlying43 (by kernel_rfl) (fun n cs' y hy => dec_placeW n cs' y hy) (by simpa only [Value.cells] using hf)
  exact ⟨A2, n2, c2, es, h1, r2, l2, z2⟩
end
end Go.Proofs.Ytblepaocekojbaa
