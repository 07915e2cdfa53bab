/-
  The law DeckLocal: a placement made local with itself stays; the walk, for every input; the argument of type []Place opened.
  The law DeckStays: made local with any other a placement that Placed tells is right; the walk, for every input.
-/
import Derived.Test.YtblepaocekojbaaLcD
import Derived.Test.YtblepaocekojbaaLcR
import Derived.Test.YtblepaocekojbaaPlZ
import Derived.Test.YtblepaocekojbaaDkAw
import Derived.Test.YtblepaocekojbaaDkP
import Derived.Test.YtblepaocekojbaaOpenRecP
import Derived.Test.YtblepaocekojbaaDkOpen
namespace Go.Proofs.Ytblepaocekojbaa

section
section
open Go.RowKit Go.Shelf Go.Maps Go.Deep
attribute [local go_sem] Oper.semAt_some
set_option linter.unusedVariables false

theorem had_self_eq {f : Nat → Pl} {k : Nat} {p o : Pl} (h : hadF f f k p = some o) : o = p := by
  induction k with
  | zero => cases h
  | succ k ih =>
    rw [hadF_succ] at h
    cases hh : hadF f f k p with
    | some o' => rw [hh] at h; exact ih (hh.trans h)
    | none =>
      rw [hh] at h
      simp only [] at h
      split at h
      · rename_i h1
        injection h with h
        rw [← h, h1.1]
      · cases h
theorem had_self {f : Nat → Pl} {k : Nat} {p : Pl} (hp : 0 ≤ p.m ∧ 0 ≤ p.s) (h : ∃ u, u < k ∧ f u = p) : hadF f f k p = some p := by
  induction k with
  | zero => obtain ⟨u, h1, _⟩ := h; omega
  | succ k ih =>
    rw [hadF_succ]
    cases hh : hadF f f k p with
    | some o => rw [had_self_eq hh]
    | none =>
      simp only []
      by_cases e : f k = p
      · rw [if_pos ⟨e, by rw [e]; exact hp⟩, e]
      · obtain ⟨u, h1, h2⟩ := h
        have := ih ⟨u, by
          have : u ≠ k := fun e2 => e (by rw [← e2]; exact h2)
          omega, h2⟩
        rw [hh] at this
        cases this
theorem tk_self {sl : List Pl} {W : Pl → Bool} {had : Pl → Option Pl} : ∀ (us tk : List Pl), (tk ++ us).Nodup → (∀ p ∈ us, had p = some p) → tkOf sl W had us tk = tk ++ us
  | [], tk, _, _ => by simp [tkOf]
  | p :: us, tk, hn, hh => by
    have hp : p ∉ tk := fun h => by
      have := List.nodup_append.1 hn
      exact this.2.2 p h p List.mem_cons_self rfl
    have hw : wantF W had tk p = p := by
      unfold wantF
      rw [hh p List.mem_cons_self]
      simp
    have ht : toF sl W had tk p = p := by
      unfold toF
      rw [hw, if_neg hp]
    rw [tkOf, ht, tk_self us (tk ++ [p]) (by simpa using hn) fun q hq => hh q (List.mem_cons_of_mem _ hq)]
    simp
theorem used_nodup (S : Nat → Nat) (n : Nat) (ln : List Pl) : (usedL S n ln).Nodup := asc_nodup ((slotsL_asc S n).sublist List.filter_sublist)
/-- Made local with itself a placement stays. -/
theorem loc_self {n q : Nat} {ss : List Int} {ln : List Pl} (hq : ln.length = q) (hw : ∀ p ∈ ln, winB n ss p = true) : locL n ss ln ln q q = ln := by
  have hu : ∀ p, p ∈ usedL (natA ss) n ln ↔ p ∈ ln := fun p => by
    unfold usedL
    rw [List.mem_filter, decide_eq_true_eq]
    exact ⟨fun h => h.2, fun h => ⟨slots_of_win (hw p h), h⟩⟩
  have htk : tkL (natA ss) n ss ln ln q = usedL (natA ss) n ln := by
    unfold tkL
    rw [tk_self _ [] (by simpa using used_nodup _ _ _) fun p hp => ?_]
    · simp
    · have h1 := (hu p).1 hp
      have h2 := hw p h1
      unfold winB at h2
      simp only [Bool.and_eq_true, decide_eq_true_eq] at h2
      refine had_self ⟨h2.1, h2.2.2.1⟩ ?_
      obtain ⟨t, ht, rfl⟩ := List.getElem_of_mem h1
      exact ⟨t, by omega, by unfold plA; rw [List.getElem?_eq_getElem ht]; rfl⟩
  unfold locL
  refine List.ext_getElem (by simp [hq]) fun t h1 h2 => ?_
  rw [List.getElem_map, List.getElem_range]
  unfold locF
  rw [htk]
  have h3 : plA ln t ∈ usedL (natA ss) n ln := (hu _).2 (plA_mem h2)
  have h4 := List.idxOf_lt_length_of_mem h3
  show plA (usedL (natA ss) n ln) _ = _
  rw [show plA (usedL (natA ss) n ln) ((usedL (natA ss) n ln).idxOf (plA ln t)) = plA ln t by
    have h5 : (usedL (natA ss) n ln)[(usedL (natA ss) n ln).idxOf (plA ln t)] = plA ln t := List.getElem_idxOf h4
    unfold plA at h5 h4 ⊢
    rw [List.getElem?_eq_getElem h4]
    exact h5]
  unfold plA
  rw [List.getElem?_eq_getElem h2]
  rfl
theorem locE_zero {q0 q n : Nat} {ss : List Int} {ln : List Pl} (h : locE q0 q n ss ln = 0) : slotB n ss = true ∧ q ≤ 200 ∧ (∀ p ∈ ln, winB n ss p = true) ∧ q0 = q := by
  unfold locE at h
  split at h
  · rename_i h1
    simp only [Bool.and_eq_true, decide_eq_true_eq, Bool.not_eq_true'] at h1
    obtain ⟨h2, h3, h4⟩ := h1
    refine ⟨h2, h3, fun p hp => ?_, ?_⟩
    · have := (List.any_eq_false.1 h4) p hp
      simpa using this
    · by_cases e : q0 = q
      · exact e
      · rw [if_neg e] at h; cases h
  · cases h
theorem locE_self {q0 q n : Nat} {ss : List Int} {ln : List Pl} (h : locE q0 q n ss ln = 0) : locE q q n ss ln = 0 := by
  obtain ⟨_, _, _, rfl⟩ := locE_zero h
  exact h
theorem samePlaces_v (A A' : Option Addr) (n c c' B B' : Nat) (l : List Pl) (w : World) (hx : Reads w B 2 A n (l.flatMap encPl)) (hy : Reads w B' 2 A' n (l.flatMap encPl)) (hn : n ≤ 1000000) :
    Calls Try.prog 38 #[.slice A n c, .slice A' n c'] w (RetV w (.bool true)) :=
  (samePlaces_one A A' n c c' B B' l w hx hy hn).mono fun e w' h => by
    obtain ⟨h1, k, rfl⟩ := h
    exact ⟨h1, below_drewN (Below.refl _ _) k⟩
set_option maxRecDepth 100000 in
set_option maxHeartbeats 8000000 in
theorem deckLocal_near (A : Option Addr) (q0 c : Nat) (lo : List Pl) (A1 : Option Addr) (q c1 : Nat) (ln : List Pl) (A2 : Option Addr) (n c2 : Nat) (ss : List Int) (w : World) (hlo : Reads w w.heap.size 2 A q0 (lo.flatMap encPl)) (hln : Reads w w.heap.size 2 A1 q (ln.flatMap encPl)) (hs : Reads w w.heap.size 1 A2 n (ss.map (Value.int .i64))) (hpo : ∀ u, u < q0 → PlW (plA lo u)) (hpn : ∀ u, u < q → PlW (plA ln u)) (hq0 : q0 ≤ 60) (hq : q ≤ 60) (hn : n ≤ 40) :
    Calls Try.prog 8 #[.slice A q0 c, .slice A1 q c1, .slice A2 n c2] w (RetV w (.bool true)) := by
  have HLN := hide (hln.len encPl_len (by omega))
  have y0 : decide ((60 : Int) < (q0 : Int)) = false := by simp; omega
  have y1 : decide ((60 : Int) < (q : Int)) = false := by simp; omega
  have y2 : decide ((40 : Int) < (n : Int)) = false := by simp; omega
  go_enter Try.func8, Try.ntmps8
  go_wp2_with fail
  refine (awake_any w).mono ?_
  rintro e W1 ⟨rfl, hB1⟩
  have h1 := hide (placed_any A q0 c lo W1 (hlo.up hB1) (by omega))
  go_wp2_with fail
  clear y0 y1 y2
  refine h1.out.mono ?_
  rintro e W2 ⟨A3, c3, rfl, hr3, hB2⟩
  have hB02 := bstep hB1 hB2
  have h2 := hide (placed_any A1 q c1 ln W2 (hln.up hB02) (by omega))
  clear hB1 hB2 h1
  go_wp2_with fail
  refine h2.out.mono ?_
  rintro e W3 ⟨A4, c4, rfl, hr4, hB3⟩
  have hB03 := bstep hB02 hB3
  have hr3 := hr3.up hB3
  have h3 := hide (Local_any A3 q0 c3 lo A4 q c4 ln A2 n c2 ss W3 hr3 hr4 (hs.up hB03) (by omega) (by omega) (by omega) hpo)
  clear hB02 hB3 h2
  go_wp2_with fail
  refine h3.out.mono ?_
  rintro e W4 ⟨A5, c5, rfl, hr5, hB4⟩
  have hB04 := bstep hB03 hB4
  have hr3 := hr3.up hB4
  have hr4 := hr4.up hB4
  have h4 := hide (RLocal_any A q0 c lo A1 q c1 ln A2 n c2 ss W4 (hlo.up hB04) (hln.up hB04) (hs.up hB04) (by omega) (by omega) (by omega))
  clear hB03 hB4 h3
  have hll : (locR q0 q n ss lo ln).length ≤ 60 := by
    unfold locR
    split
    · rw [locL_len]; exact hq
    · simp
  obtain ⟨PR, hPR⟩ : ∃ PR, locR q0 q n ss lo ln = PR := ⟨_, rfl⟩
  obtain ⟨PE, hPE⟩ : ∃ PE, locE q0 q n ss ln = PE := ⟨_, rfl⟩
  rw [hPR, hPE] at h4
  rw [hPR] at hr5 hll
  rw [hPR, hPE]
  have HPE := hide hPE
  clear hPR hPE
  go_wp2_with fail
  refine h4.out.mono ?_
  rintro e W5 ⟨A6, c6, rfl, hr6, hB5⟩
  have hB05 := bstep hB04 hB5
  have hr5 := hr5.up hB5
  have h5 := hide (places_any A5 PR.length c5 PR W5 hr5 (by omega))
  clear hB04 hB5 h4 hr3 hr4
  go_wp2_with fail
  refine h5.out.mono ?_
  rintro e W6 ⟨A7, c7, rfl, hr7, hB6⟩
  have hB06 := bstep hB05 hB6
  have h6 := hide (samePlaces_v A7 A6 PR.length c7 c6 _ _ PR W6 hr7 (hr6.up hB6) (by omega))
  clear hB05 hB6 h5 hr5
  go_wp2_with fail
  refine h6.out.mono ?_
  rintro e W7 ⟨rfl, hB7⟩
  have hB07 := bstep hB06 hB7
  clear hB06 hB7 h6 hr6 hr7
  have n1 : (PE != PE) = false := by simp
  by_cases h0 : PE = 0
  · subst h0
    clear n1
    have hz := HPE.out
    obtain ⟨_, _, hw, _⟩ := locE_zero hz
    have hz2 := locE_self hz
    have hself : locR q q n ss ln ln = ln := by
      unfold locR
      rw [if_pos hz2]
      exact loc_self HLN.out hw
    have HS := hide hself
    have HZ := hide hz2
    clear hz hw hz2 hself
    have h7 := hide (placed_any A1 q c1 ln W7 (hln.up hB07) (by omega))
    go_wp2_with fail
    refine h7.out.mono ?_
    rintro e W8 ⟨A8, c8, rfl, hr8, hB8⟩
    have hB08 := bstep hB07 hB8
    have h8 := hide (placed_any A1 q c1 ln W8 (hln.up hB08) (by omega))
    clear hB07 hB8 h7
    go_wp2_with fail
    refine h8.out.mono ?_
    rintro e W9 ⟨A9, c9, rfl, hr9, hB9⟩
    have hB09 := bstep hB08 hB9
    have hr8 := hr8.up hB9
    have h9 := hide (Local_any A8 q c8 ln A9 q c9 ln A2 n c2 ss W9 hr8 hr9 (hs.up hB09) (by omega) (by omega) (by omega) hpn)
    rw [HS.out, HZ.out, HLN.out] at h9
    clear hB08 hB9 h8
    go_wp2_with fail
    refine h9.out.mono ?_
    rintro e W10 ⟨A10, c10, rfl, hr10, hB10⟩
    have hB010 := bstep hB09 hB10
    have h10 := hide (places_any A10 q c10 ln W10 hr10 (by omega))
    clear hB09 hB10 h9 hr8 hr9
    go_wp2_with fail
    refine h10.out.mono ?_
    rintro e W11 ⟨A11, c11, rfl, hr11, hB11⟩
    have hB011 := bstep hB010 hB11
    have h11 := hide (samePlaces_v A11 A1 q c11 c1 _ _ ln W11 hr11 (hln.up hB011) (by omega))
    clear hB010 hB11 h10 hr10
    go_wp2_with fail
    refine h11.out.mono ?_
    rintro e W12 ⟨rfl, hB12⟩
    have HB := hide (bstep hB011 hB12)
    clear hB011 hB12 h11 hr11
    go_wp2_with fail
    go_ret
    exact ⟨rfl, HB.out⟩
  · have z0 : (PE != 0) = true := by simpa using h0
    clear h0
    go_wp2_with fail
    go_ret
    exact ⟨rfl, hB07⟩
set_option maxRecDepth 100000 in
set_option maxHeartbeats 4000000 in
theorem deckLocal_far (A : Option Addr) (q0 c : Nat) (A1 : Option Addr) (q c1 : Nat) (A2 : Option Addr) (n c2 : Nat) (w : World) (h : 60 < q0 ∨ 60 < q ∨ 40 < n) :
    Calls Try.prog 8 #[.slice A q0 c, .slice A1 q c1, .slice A2 n c2] w (RetV w (.bool true)) := by
  go_enter Try.func8, Try.ntmps8
  go_wp2_with fail
  refine (awake_any w).mono ?_
  rintro e W1 ⟨rfl, hB1⟩
  by_cases h1 : 60 < q0
  · have y0 : decide ((60 : Int) < (q0 : Int)) = true := by simp; omega
    clear h
    go_wp2_with fail
    go_ret
    exact ⟨rfl, hB1⟩
  · have y0 : decide ((60 : Int) < (q0 : Int)) = false := by simp; omega
    by_cases h2 : 60 < q
    · have y1 : decide ((60 : Int) < (q : Int)) = true := by simp; omega
      clear h
      go_wp2_with fail
      go_ret
      exact ⟨rfl, hB1⟩
    · have y1 : decide ((60 : Int) < (q : Int)) = false := by simp; omega
      have y2 : decide ((40 : Int) < (n : Int)) = true := by simp; omega
      clear h
      go_wp2_with fail
      go_ret
      exact ⟨rfl, hB1⟩
theorem deckLocal_all (A : Option Addr) (q0 c : Nat) (lo : List Pl) (A1 : Option Addr) (q c1 : Nat) (ln : List Pl) (A2 : Option Addr) (n c2 : Nat) (ss : List Int) (w : World) (hlo : Reads w w.heap.size 2 A q0 (lo.flatMap encPl)) (hln : Reads w w.heap.size 2 A1 q (ln.flatMap encPl)) (hs : Reads w w.heap.size 1 A2 n (ss.map (Value.int .i64))) (hpo : ∀ z ∈ lo, PlW z) (hpn : ∀ z ∈ ln, PlW z) :
    Calls Try.prog 8 #[.slice A q0 c, .slice A1 q c1, .slice A2 n c2] w (RetV w (.bool true)) := by
  by_cases h : 60 < q0 ∨ 60 < q ∨ 40 < n
  · exact deckLocal_far A q0 c A1 q c1 A2 n c2 w h
  · have h1 := hlo.len encPl_len (by omega)
    have h2 := hln.len encPl_len (by omega)
    exact deckLocal_near A q0 c lo A1 q c1 ln A2 n c2 ss w hlo hln hs (fun u hu => hpo _ (plA_mem (by omega))) (fun u hu => hpn _ (plA_mem (by omega))) (by omega) (by omega) (by omega)
end

section
open Go.RowKit Go.Shelf Go.Deep
set_option linter.unusedVariables false
variable {H : Type} {enc : TypeId × Value → H} {w : World} {base : Nat} {held : Bool}
set_option maxRecDepth 100000 in
theorem dec_placeW (n : Nat) (cs : List Value) (y : DataW H × List MemPlace) (h : DataW.trod enc Try.prog w base (fun _ => true) held n 67 cs = some y) : ∃ z : Pl, cs = encPl z ∧ PlW z := by
  obtain ⟨y0, y1, k, _, hl, h0, h1⟩ := Go.ChangeShapes.trod_struct2 Try.underlying67 h
  rw [show Try.prog.cellsOf 67 = 2 by kernel_rfl] at hl
  match cs, hl with
  | [v0, v1], _ =>
    change DataW.trod enc Try.prog w base (fun _ => true) held k 3 (([v0, v1].drop 0).take (Try.prog.cellsOf 3)) = some y0 at h0
    change DataW.trod enc Try.prog w base (fun _ => true) held k 3 (([v0, v1].drop 1).take (Try.prog.cellsOf 3)) = some y1 at h1
    rw [show Try.prog.cellsOf 3 = 1 by kernel_rfl] at h0 h1
    have g0 : DataW.trod enc Try.prog w base (fun _ => true) held k 3 [v0] = some y0 := h0
    have g1 : DataW.trod enc Try.prog w base (fun _ => true) held k 3 [v1] = some y1 := h1
    obtain ⟨a, ea, _, wa⟩ := DataW.trod_int Try.underlying3 g0
    obtain ⟨b, eb, _, wb⟩ := DataW.trod_int Try.underlying3 g1
    simp at ea eb
    subst ea eb
    exact ⟨⟨a, b⟩, rfl, wa, wb⟩
set_option maxRecDepth 100000 in
theorem open_placesW {r : Reach} {b0 : Nat} {v : Value} {d : DataW H} {ps : List MemPlace} (hval : Value.okWide Try.prog w r b0 43 v) (hd : DataW.Trod enc Try.prog w base (fun _ => true) held 43 v d ps) :
    ∃ A n c, ∃ l : List Pl, v = .slice A n c ∧ Reads w w.heap.size 2 A n (l.flatMap encPl) ∧ n ≤ 9223372036854775807 ∧ ∀ z ∈ l, PlW z := by
  obtain ⟨a0, l0, c0, rfl⟩ := Go.WideShapes.okWide_slice Try.underlying43 hval
  obtain ⟨fuel, hf⟩ := hd
  obtain ⟨A2, n2, c2, es, h1, r2, l2, _, z2⟩ := open_recsP (α := Pl) (encα := encPl) (k := 2) PlW encPl_len (by omega) Try.underlying43 (by kernel_rfl) (fun n cs' y hy => dec_placeW n cs' y hy) (by simpa only [Value.cells] using hf)
  exact ⟨A2, n2, c2, es, h1, r2, l2, z2⟩
end
end

section
open Go.RowKit Go.Shelf Go.Maps Go.Deep
attribute [local go_sem] Oper.semAt_some
set_option linter.unusedVariables false

/-- Where the places go: apart, and within the slots. -/
theorem tk_law {sl : List Pl} {W : Pl → Bool} {had : Pl → Option Pl} (hsl : sl.Nodup) (hsw : ∀ x ∈ sl, W x = true) : ∀ (us tk : List Pl), tk.Nodup → tk.length + us.length ≤ sl.length → (∀ p ∈ us, W p = true) → (∀ x ∈ tk, W x = true) → (tkOf sl W had us tk).Nodup ∧ ∀ x ∈ tkOf sl W had us tk, W x = true
  | [], tk, h1, _, _, h4 => ⟨h1, h4⟩
  | p :: us, tk, h1, h2, h3, h4 => by
    simp only [List.length_cons] at h2
    have hnew := toF_new (W := W) (had := had) hsl (show tk.length < sl.length by omega) p
    have hww : W (wantF W had tk p) = true := by
      unfold wantF
      cases had p with
      | none => exact h3 p List.mem_cons_self
      | some o =>
        simp only []
        split
        · rename_i h; exact h.1
        · exact h3 p List.mem_cons_self
    have hw : W (toF sl W had tk p) = true := by
      unfold toF
      split
      · obtain ⟨x, hx⟩ := free_there hsl (show tk.length < sl.length by omega)
        obtain ⟨e1, _, e3⟩ := freeL_some hx
        rw [e1]; exact hsw x e3
      · exact hww
    refine tk_law hsl hsw us (tk ++ [toF sl W had tk p]) ?_ (by simp; omega) (fun q hq => h3 q (List.mem_cons_of_mem _ hq)) fun x hx => ?_
    · refine List.nodup_append.2 ⟨h1, by simp, fun a ha b hb e => ?_⟩
      rw [List.mem_singleton] at hb
      rw [e, hb] at ha
      exact hnew ha
    · rw [List.mem_append, List.mem_singleton] at hx
      rcases hx with hx | hx
      · exact h4 x hx
      · rw [hx]; exact hw
theorem win_of_slots {n : Nat} {ss : List Int} (hs : ∀ k, k < n → ss[k]? = some ((natA ss k : Nat) : Int) ∧ natA ss k ≤ 16) {p : Pl} (h : p ∈ slotsL (natA ss) n) : winB n ss p = true := by
  obtain ⟨a, i, h1, h2, rfl⟩ := slotsL_mem.1 h
  unfold winB
  simp only [Bool.and_eq_true, decide_eq_true_eq]
  refine ⟨by omega, by omega, by omega, ?_⟩
  rw [Int.toNat_natCast, (hs a h1).1]
  simp only [Option.getD]
  omega
/-- What Local answers is right, where the new placement is. -/
theorem loc_right {g : Gr} {m : Nat} {gs : List Int} {n : Nat} {ss : List Int} {lo ln : List Pl} (hso : ∀ k, k < n → ss[k]? = some ((natA ss k : Nat) : Int) ∧ natA ss k ≤ 16) (hlen : ln.length = g.n1) (h : rgtB g m gs n ss g.n1 (plA ln) = true) :
    (∀ p ∈ ln, winB n ss p = true) ∧ rgtB g m gs n ss g.n1 (plA (locL n ss lo ln g.n1 g.n1)) = true ∧ ∀ p ∈ locL n ss lo ln g.n1 g.n1, winB n ss p = true := by
  unfold rgtB at h ⊢
  simp only [Bool.and_eq_true, decide_eq_true_eq, List.all_eq_true, List.mem_range] at h ⊢
  obtain ⟨h1, h2, h3, h4⟩ := h
  have hwin : ∀ p ∈ ln, winB n ss p = true := fun p hp => by
    obtain ⟨t, ht, rfl⟩ := List.getElem_of_mem hp
    have := h4 t (by omega)
    unfold okR at this
    simp only [Bool.and_eq_true] at this
    have h5 := this.1
    unfold plA at h5
    rw [List.getElem?_eq_getElem ht] at h5
    exact h5
  have hund := used_nodup (natA ss) n ln
  have hu : ∀ p, p ∈ usedL (natA ss) n ln ↔ p ∈ ln := fun p => by
    unfold usedL
    rw [List.mem_filter, decide_eq_true_eq]
    exact ⟨fun h => h.2, fun h => ⟨slots_of_win (hwin p h), h⟩⟩
  obtain ⟨hnd, hall⟩ := tk_law (had := hadL lo ln g.n1) (asc_nodup (slotsL_asc (natA ss) n)) (fun x hx => win_of_slots hso hx) (usedL (natA ss) n ln) [] List.nodup_nil (by simp; unfold usedL; exact List.length_filter_le _ _) (fun p hp => hwin p ((hu p).1 hp)) (fun x hx => by cases hx)
  have hlt : ∀ t, t < g.n1 → (usedL (natA ss) n ln).idxOf (plA ln t) < (tkL (natA ss) n ss lo ln g.n1).length := fun t ht => by
    unfold tkL
    rw [tkOf_len]
    simp only [List.length_nil, Nat.zero_add]
    exact List.idxOf_lt_length_of_mem ((hu _).2 (plA_mem (by omega)))
  have hat : ∀ t, t < g.n1 → plA (locL n ss lo ln g.n1 g.n1) t = locF n ss lo ln g.n1 t := fun t ht => by
    unfold plA locL
    rw [List.getElem?_map, List.getElem?_range ht]; rfl
  have hwl : ∀ t, t < g.n1 → winB n ss (locF n ss lo ln g.n1 t) = true := fun t ht => hall _ (plA_mem (hlt t ht))
  have hinj : ∀ t k, t < g.n1 → k < g.n1 → locF n ss lo ln g.n1 k = locF n ss lo ln g.n1 t → plA ln k = plA ln t := fun t k ht hk e => by
    have e2 := plA_inj hnd (hlt k hk) (hlt t ht) e
    have h5 := (hu _).2 (plA_mem (l := ln) (j := k) (by omega))
    have h6 := (hu _).2 (plA_mem (l := ln) (j := t) (by omega))
    have h7 := List.getElem_idxOf (List.idxOf_lt_length_of_mem h5)
    have h8 := List.getElem_idxOf (List.idxOf_lt_length_of_mem h6)
    rw [← h7, ← h8]
    simp only [e2]
  refine ⟨hwin, ⟨h1, h2, trivial, fun t ht => ?_⟩, fun p hp => ?_⟩
  · have h5 := h4 t ht
    unfold okR at h5 ⊢
    simp only [Bool.and_eq_true, List.all_eq_true, List.mem_range] at h5 ⊢
    refine ⟨by rw [hat t ht]; exact hwl t ht, fun k hk => ?_⟩
    have h6 := h5.2 k hk
    unfold badR at h6 ⊢
    rw [hat t ht, hat k (by omega)]
    by_cases e : locF n ss lo ln g.n1 k = locF n ss lo ln g.n1 t
    · have e2 := hinj t k ht (by omega) e
      simp [e2] at h6
      simp [e, h6]
    · simp [e]
  · unfold locL at hp
    rw [List.mem_map] at hp
    obtain ⟨t, ht, rfl⟩ := hp
    exact hwl t (List.mem_range.1 ht)
set_option maxRecDepth 100000 in
set_option maxHeartbeats 8000000 in
theorem deckStays_near (g : Gr) (A : Option Addr) (m c : Nat) (gs : List Int) (A2 : Option Addr) (n c2 : Nat) (ss : List Int) (A3 : Option Addr) (q c3 : Nat) (l : List Pl) (w : World) (hg : g.Ok w w.heap.size) (hx : Reads w w.heap.size 1 A m (gs.map (Value.int .i64))) (hs : Reads w w.heap.size 1 A2 n (ss.map (Value.int .i64))) (hl : Reads w w.heap.size 2 A3 q (l.flatMap encPl)) (hpw : ∀ u, u < q → PlW (plA l u))
    (hh : heavyB g = false) (hm : m ≤ 250) (hn : n ≤ 40) (hq : q ≤ 60) :
    Calls Try.prog 9 #[.agg #[g.v1, g.v2], .slice A m c, .slice A2 n c2, .slice A3 q c3] w (RetV w (.bool true)) := by
  have hn' : g.n1 ≤ 300 ∧ g.n2 ≤ 60 := by
    unfold heavyB at hh
    simp only [Bool.or_eq_false_iff, decide_eq_false_iff_not] at hh
    omega
  obtain ⟨hn1, hn2⟩ := hn'
  have hB0 : Below w.heap.size w (w.alloc (.cells #[g.v1, g.v2] 25)) := (Below.refl _ _).alloc (Nat.le_refl _) _
  have b0 : Blk (w.alloc (.cells #[g.v1, g.v2] 25)) w.heap.size 25 #[g.v1, g.v2] := Blk.new w _ _
  have hs0 : (w.alloc (.cells #[g.v1, g.v2] 25)).heap.size = w.heap.size + 1 := World.size_alloc _ _
  have HH := hide hh
  have y1 : decide ((250 : Int) < (m : Int)) = false := by simp; omega
  have y2 : decide ((40 : Int) < (n : Int)) = false := by simp; omega
  have y3 : decide ((60 : Int) < (q : Int)) = false := by simp; omega
  clear hh
  go_enter Try.func9, Try.ntmps9
  go_wp2_with fail
  obtain ⟨W0, hW0⟩ : ∃ W0, w.alloc (.cells #[g.v1, g.v2] 25) = W0 := ⟨_, rfl⟩
  rw [hW0] at hB0 b0 hs0 ⊢
  clear hW0
  refine (awake_any W0).mono ?_
  rintro e W1 ⟨rfl, hB1⟩
  have b1 := b0.below hB1 (by omega)
  have hB01 := bstep hB0 hB1
  have hs1 : w.heap.size < W1.heap.size := by have := hB1.size; omega
  clear b0 hB0 hs0 hB1
  have d0 := b1.cell 0
  have d1 := b1.cell 1
  simp at d0 d1
  go_wp2_with fail
  refine (heavy_any g W1).mono ?_
  rintro e W2 ⟨rfl, hB2⟩
  rw [HH.out]
  have b2 := b1.below hB2 hs1
  have hB02 := bstep hB01 hB2
  have hs2 := Nat.lt_of_lt_of_le hs1 hB2.size
  clear hB01 hB2 b1 d0 d1 hs1
  have d0 := b2.cell 0
  have d1 := b2.cell 1
  simp at d0 d1
  go_wp2_with fail
  clear y1 y2 y3
  refine (made_any g W2 (hg.up hB02) (by omega) (by omega)).mono ?_
  rintro e W3 ⟨g', hlike, rfl, hg3, hB3⟩
  rw [show g'.v1 = .slice g'.a1 g'.n1 g'.c1 from rfl, show g'.v2 = .slice g'.a2 g'.n2 g'.c2 from rfl]
  have HLK := hide hlike
  have hgn1 : g'.n1 ≤ 300 := by have := hlike.n1; omega
  have hgn2 : g'.n2 ≤ 60 := by have := hlike.n2; omega
  have hB03 := bstep hB02 hB3
  have hs3 := Nat.lt_of_lt_of_le hs2 hB3.size
  clear hB02 hB3 b2 d0 d1 hs2 hlike
  have x4 := Blk.new W3 30 #[.slice g'.a1 g'.n1 g'.c1, .slice g'.a2 g'.n2 g'.c2]
  have hB4 : Below W3.heap.size W3 (W3.alloc (.cells #[.slice g'.a1 g'.n1 g'.c1, .slice g'.a2 g'.n2 g'.c2] 30)) := (Below.refl _ _).alloc (Nat.le_refl _) _
  have hs4 : (W3.alloc (.cells #[.slice g'.a1 g'.n1 g'.c1, .slice g'.a2 g'.n2 g'.c2] 30)).heap.size = W3.heap.size + 1 := World.size_alloc _ _
  go_upto_region 6 with fail
  obtain ⟨W4, hW4⟩ : ∃ W4, W3.alloc (.cells #[.slice g'.a1 g'.n1 g'.c1, .slice g'.a2 g'.n2 g'.c2] 30) = W4 := ⟨_, rfl⟩
  rw [hW4] at x4 hB4 hs4 ⊢
  clear hW4
  obtain ⟨bx, hbx⟩ : ∃ bx, W3.heap.size = bx := ⟨_, rfl⟩
  rw [hbx] at x4 hs4 ⊢
  have hB04 := bstep hB03 hB4
  have hg4 := hg3.up hB4
  have hs4' : bx < W4.heap.size := by omega
  clear hB03 hB4 hs3 hg3 hbx hs4
  have d0 := x4.cell 0
  have d1 := x4.cell 1
  simp at d0 d1
  go_wp2_with fail
  refine (Placed_any g' A m c gs A2 n c2 ss W4 hg4 (hx.up hB04) (hs.up hB04) (by omega) (by omega) (by omega) (by omega)).mono ?_
  rintro e W7 ⟨Aa, ca, rfl, ha, hB7⟩
  rw [HLK.out.plcR] at ha
  rw [HLK.out.plcR, HLK.out.plcE]
  have x7 := x4.below hB7 hs4'
  have hB07 := bstep hB04 hB7
  have hg7 := hg4.up hB7
  have hs7 := Nat.lt_of_lt_of_le hs4' hB7.size
  clear hB04 hB7 x4 d0 d1 hs4' hg4
  by_cases hpe : plcE g m gs n ss = 0
  · obtain ⟨p1, p2, p3⟩ := plcE_zero hpe
    have hk := GrpOk.mk' hg hx p1
    have hPR : plcR g m gs n ss = plcL g gs n ss g.n1 := by unfold plcR; rw [if_pos hpe]
    have hso := slot_ok p2 hs
    have hlen : (plcL g gs n ss g.n1).length = g.n1 := plcL_len _ _ _ _ _
    have hrt := placed_right hpe hk hso.1 hso.2.2
    have hnn := (valid_ops (errG_zero p1).1).2.1
    rw [hPR] at ha ⊢
    rw [hlen] at ha ⊢
    rw [hpe]
    by_cases hqn : q = g.n1
    · have z1 : ((q : Int) != (g.n1 : Int)) = false := by simp; omega
      obtain ⟨r1, r2, r3⟩ := loc_right (lo := l) hso.2.2 hlen hrt
      obtain ⟨LN, hLN⟩ : ∃ LN, plcL g gs n ss g.n1 = LN := ⟨_, rfl⟩
      rw [hLN] at ha r1 r2 r3
      have hle : locE q g.n1 n ss LN = 0 := by
        unfold locE
        have h5 : (LN.any fun p => !winB n ss p) = false := by
          rw [List.any_eq_false]
          intro p hp
          simp [r1 p hp]
        rw [h5, p2]
        simp [hqn, hnn]
      have hlr : locR q g.n1 n ss l LN = locL n ss l LN g.n1 g.n1 := by unfold locR; rw [if_pos hle]
      have HLE := hide hle
      have HLR := hide hlr
      have HPD := hide (placed_any A3 q c3 l W7 (hl.up hB07) (by omega))
      have HRR := hide r2
      have HWF := hide (fun u (hu : u < g.n1) => (win_wf (r3 (plA (locL n ss l LN g.n1 g.n1) u) (plA_mem (by rw [locL_len]; exact hu))) hso.2.1 hso.2.2).1)
      have HSO := hide hso
      clear r1 r2 r3 hle hlr hLN hPR hlen hrt hk p1 p2 p3 hpe hqn hso hnn
      go_wp2_with fail
      refine HPD.out.mono ?_
      rintro e W8 ⟨A8, c8, rfl, hr8, hB8⟩
      have x8 := x7.below hB8 hs7
      have hB08 := bstep hB07 hB8
      have hg8 := hg7.up hB8
      have ha8 := ha.up hB8
      have hs8 := Nat.lt_of_lt_of_le hs7 hB8.size
      have HLO := hide (Local_any A8 q c8 l Aa g.n1 ca LN A2 n c2 ss W8 hr8 ha8 (hs.up hB08) (by omega) (by omega) (by omega) hpw)
      rw [HLE.out, HLR.out, locL_len] at HLO
      clear hB07 hB8 x7 hg7 ha hs7 HPD
      go_wp2_with fail
      refine HLO.out.mono ?_
      rintro e W9 ⟨A9, c9, rfl, hr9, hB9⟩
      have x9 := x8.below hB9 hs8
      have hB09 := bstep hB08 hB9
      have hg9 := hg8.up hB9
      have HRI := hide (Right_any g' A m c gs A2 n c2 ss A9 g.n1 c9 (locL n ss l LN g.n1 g.n1) W9 hg9 (hx.up hB09) (hs.up hB09) hr9 (by omega) (by omega) (by omega) (by omega) (by omega) HWF.out)
      rw [HLK.out.rgtB, HRR.out] at HRI
      rw [show g'.v1 = .slice g'.a1 g'.n1 g'.c1 from rfl, show g'.v2 = .slice g'.a2 g'.n2 g'.c2 from rfl] at HRI
      clear hB08 hB9 x8 hg8 ha8 hs8 HLO hr8 hr9
      have d0 := x9.cell 0
      have d1 := x9.cell 1
      simp at d0 d1
      go_wp2_with fail
      refine HRI.out.mono ?_
      rintro e W10 ⟨rfl, hB10⟩
      have HB := hide (bstep hB09 hB10)
      clear hB09 hB10 x9 d0 d1 HRI
      go_wp2_with fail
      go_ret
      exact ⟨rfl, HB.out⟩
    · have z1 : ((q : Int) != (g.n1 : Int)) = true := by simp; omega
      clear hpe hqn hPR hlen hrt hk p1 p2 p3 hso hnn
      go_wp2_with fail
      go_ret
      exact ⟨rfl, hB07⟩
  · obtain ⟨PE, hPE⟩ : ∃ PE, plcE g m gs n ss = PE := ⟨_, rfl⟩
    rw [hPE] at hpe ⊢
    have z0 : (PE != 0) = true := by simpa using hpe
    clear hpe
    go_wp2_with fail
    go_ret
    exact ⟨rfl, hB07⟩
set_option maxRecDepth 100000 in
set_option maxHeartbeats 4000000 in
theorem deckStays_far (g : Gr) (A : Option Addr) (m c : Nat) (A2 : Option Addr) (n c2 : Nat) (A3 : Option Addr) (q c3 : Nat) (w : World) (hh : heavyB g = true ∨ 250 < m ∨ 40 < n ∨ 60 < q) :
    Calls Try.prog 9 #[.agg #[g.v1, g.v2], .slice A m c, .slice A2 n c2, .slice A3 q c3] w (RetV w (.bool true)) := by
  have hB0 : Below w.heap.size w (w.alloc (.cells #[g.v1, g.v2] 25)) := (Below.refl _ _).alloc (Nat.le_refl _) _
  have b0 : Blk (w.alloc (.cells #[g.v1, g.v2] 25)) w.heap.size 25 #[g.v1, g.v2] := Blk.new w _ _
  have hs0 : (w.alloc (.cells #[g.v1, g.v2] 25)).heap.size = w.heap.size + 1 := World.size_alloc _ _
  obtain ⟨hv, hhv⟩ : ∃ hv, heavyB g = hv := ⟨_, rfl⟩
  have HH := hide hhv
  rw [hhv] at hh
  clear hhv
  go_enter Try.func9, Try.ntmps9
  go_wp2_with fail
  obtain ⟨W0, hW0⟩ : ∃ W0, w.alloc (.cells #[g.v1, g.v2] 25) = W0 := ⟨_, rfl⟩
  rw [hW0] at hB0 b0 hs0 ⊢
  clear hW0
  refine (awake_any W0).mono ?_
  rintro e W1 ⟨rfl, hB1⟩
  have b1 := b0.below hB1 (by omega)
  have hB01 := bstep hB0 hB1
  clear b0 hB0 hs0 hB1
  have d0 := b1.cell 0
  have d1 := b1.cell 1
  simp at d0 d1
  go_wp2_with fail
  refine (heavy_any g W1).mono ?_
  rintro e W2 ⟨rfl, hB2⟩
  rw [HH.out]
  have HE := hide (bstep hB01 hB2)
  clear hB01 hB2 b1 d0 d1
  cases hv
  · by_cases h1 : 250 < m
    · have z1 : decide ((250 : Int) < (m : Int)) = true := by simp; omega
      clear hh
      go_wp2
      go_ret
      exact ⟨rfl, HE.out⟩
    · have z1 : decide ((250 : Int) < (m : Int)) = false := by simp; omega
      by_cases h2 : 40 < n
      · have z2 : decide ((40 : Int) < (n : Int)) = true := by simp; omega
        clear hh
        go_wp2
        go_ret
        exact ⟨rfl, HE.out⟩
      · have z2 : decide ((40 : Int) < (n : Int)) = false := by simp; omega
        have h3 : 60 < q := by
          rcases hh with h | h | h | h
          · cases h
          · omega
          · omega
          · exact h
        have z3 : decide ((60 : Int) < (q : Int)) = true := by simp; omega
        clear hh
        go_wp2
        go_ret
        exact ⟨rfl, HE.out⟩
  · clear hh
    go_wp2
    go_ret
    exact ⟨rfl, HE.out⟩
theorem deckStays_all (g : Gr) (A : Option Addr) (m c : Nat) (gs : List Int) (A2 : Option Addr) (n c2 : Nat) (ss : List Int) (A3 : Option Addr) (q c3 : Nat) (l : List Pl) (w : World) (hg : g.Ok w w.heap.size) (hx : Reads w w.heap.size 1 A m (gs.map (Value.int .i64))) (hs : Reads w w.heap.size 1 A2 n (ss.map (Value.int .i64))) (hl : Reads w w.heap.size 2 A3 q (l.flatMap encPl)) (hpw : ∀ z ∈ l, PlW z) :
    Calls Try.prog 9 #[.agg #[g.v1, g.v2], .slice A m c, .slice A2 n c2, .slice A3 q c3] w (RetV w (.bool true)) := by
  by_cases h : heavyB g = true ∨ 250 < m ∨ 40 < n ∨ 60 < q
  · exact deckStays_far g A m c A2 n c2 A3 q c3 w h
  · have hlen := hl.len encPl_len (by omega)
    exact deckStays_near g A m c gs A2 n c2 ss A3 q c3 l w hg hx hs hl (fun u hu => hpw _ (plA_mem (by omega))) (by
      cases hh : heavyB g
      · rfl
      · exact absurd (.inl hh) h) (by omega) (by omega) (by omega)
end

end Go.Proofs.Ytblepaocekojbaa
