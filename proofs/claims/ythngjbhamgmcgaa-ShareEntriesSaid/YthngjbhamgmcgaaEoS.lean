/-
  slices.SortFunc over entries: it writes no other block than the row's.
-/
import Derived.Test.YthngjbhamgmcgaaEoD
namespace Go.Proofs.Ythngjbhamgmcgaa
open Go.Shelf Go.RowKit Go.Lib Go.Sort
attribute [local go_sem] Oper.semAt_some
set_option linter.unusedVariables false

theorem only_sort {w : World} {g m : Nat} {d : Array En} {os : Array Obj} (k : Nat) (hk : k < w.heap.size) (hne : k ≠ g) : (sortWorldK encE 4 w g 0 m d os).heap[k]? = w.heap[k]? := by
  show ((w.heap.modify g _) ++ os)[k]? = _
  rw [Array.getElem?_append]
  split
  · rw [Array.getElem?_modify, if_neg (by omega)]
  · rename_i hn
    rw [Array.size_modify] at hn
    omega
theorem SortO_any (base g n c : Nat) (l : List En) (w : World) (h : w.ownsRow base 57 4 (.slice (some ⟨g, 0, none⟩) n c) n (flatE l)) (hn : n ≤ 100000) :
    Calls Try.prog 56 #[.slice (some ⟨g, 0, none⟩) n c, .func (Fn.func 34) #[] #[]] w fun e w' => RetSort w g n l e w' ∧ ∀ k, k < w.heap.size → k ≠ g → w'.heap[k]? = w.heap[k]? := by
  obtain ⟨hH, hg, hb⟩ := holds_own h
  have hlen : l.length = n := by
    have := h.1
    rw [flatE_len] at this
    omega
  have hsz : l.toArray.size = n := by simpa using hlen
  have eg : ∀ args w, (callFunc 34 args).run Try.prog w = .ok (.enter 34 args) w := enters_of Try.func34 (by kernel_rfl) rfl
  have hcon := AnyQ.slices_SortFunc sortE 4 Try.isAgg57 Try.sizeOf57 encE (fun _ => rfl) (fun x v hv => by simp [encE] at hv; rcases hv with rfl | rfl | rfl | rfl <;> rfl) cmE swoE 34 #[] g 0 c l.toArray w eg
    (fun _ _ _ _ x y => CompareE_any x y _) hH hg (by rw [hsz]; omega)
  change Calls Try.prog 56 _ _ _ at hcon
  rw [hsz] at hcon
  refine hcon.mono ?_
  rintro e w' ⟨rfl, d', m, os, hp, hs, rfl⟩
  have hd : d'.size = n := by rw [hp.1, hsz]
  refine ⟨⟨rfl, d'.toList, ?_, ?_, ?_, below_sort hg⟩, fun k hk hne => only_sort k hk hne⟩
  · have := hp.2.2
    rw [← hsz] at this
    simp only [Array.extract_size] at this
    rwa [hsz, ← hd, Array.extract_size] at this
  · unfold SrtE
    rw [List.pairwise_iff_getElem]
    intro i j hi hj hij
    have hi' : i < d'.size := by simpa using hi
    have hj' : j < d'.size := by simpa using hj
    have := hs i j (Nat.zero_le _) hij (by omega)
    rw [ltOf_ce, decide_eq_false_iff_not, getElem!_pos d' i hi', getElem!_pos d' j hj'] at this
    simp only [Array.getElem_toList]
    have a1 := Tot.en.anti d'[j] d'[i]
    omega
  · have hH' := holdsK_sortWorldK_c encE 4 w g 0 l.toArray d' m os hH hg (by rw [hd, hsz])
    have := reads_holds hH' (Nat.lt_of_lt_of_le hg (below_sort hg).size)
    rwa [hd] at this
theorem SortSO_any (w0 w : World) (A : Option Addr) (n c : Nat) (l : List En) (h : w.ownsRow w0.heap.size 57 4 (.slice A n c) n (flatE l)) (hn : n ≤ 100000) (hB : Below w0.heap.size w0 w) :
    Calls Try.prog 56 #[.slice A n c, .func (Fn.func 34) #[] #[]] w fun e w' => RetSortSE A n l e w' ∧ Below w0.heap.size w0 w' ∧ w.heap.size ≤ w'.heap.size ∧ ∀ k, k < w.heap.size → (Value.slice A n c).ownBlock ≠ some k → w'.heap[k]? = w.heap[k]? := by
  rcases h.2 with ⟨he, hn0⟩ | ⟨g', cap, cur, he, hb, hg, h1, h2, h3, h4⟩
  · injection he with e1 e2 e3
    subst e1 e2 e3
    have hl0 : l = [] := by
      have := h.1
      rw [flatE_len] at this
      exact List.length_eq_zero_iff.1 (by omega)
    subst hl0
    exact (Sort_none 0 w).mono fun e w' ⟨he, hw⟩ => by subst hw; exact ⟨⟨he, [], List.Perm.refl _, List.Pairwise.nil, Reads.none_⟩, hB, Nat.le_refl _, fun _ _ _ => rfl⟩
  · injection he with e1 e2 e3
    subst e1 e3
    exact (SortO_any _ g' n c l w h hn).mono fun e w' ⟨⟨he, l', hp, hs, hr, hbl⟩, ho⟩ => ⟨⟨he, l', hp, hs, hr⟩, hB.trans (hbl.mono hb), hbl.size, fun k hk hne => ho k hk fun e => hne (by rw [e]; rfl)⟩
theorem cell_block {w w' : World} {g i : Nat} {v : Value} (h : w.cell? ⟨g, i, none⟩ = some v) (hk : w'.heap[g]? = w.heap[g]?) : w'.cell? ⟨g, i, none⟩ = some v := by
  rw [← h]
  unfold World.cell?
  simp [hk]
/-- What Dealt gives. -/
def RetDl (w : World) (l : List En) (P G : Int) (e : Ending) (w' : World) : Prop := ∃ A n c R E, DlE l P G (xsL R) E ∧ e = .returned (.tuple #[.slice A n c, .int .i64 E]) ∧ n ≤ 16 ∧ TabE w' w'.heap.size A n R ∧ (∀ r ∈ R, r.n ≤ l.length) ∧ Below w.heap.size w w'
theorem RetDl.bad {w w' : World} {l : List En} {P G : Int} {E : Int} (hE : errE l P G = E) (h0 : E ≠ 0) (hB : Below w.heap.size w w') : RetDl w l P G (.returned (.tuple #[.slice none 0 0, .int .i64 E])) w' :=
  ⟨none, 0, 0, [], E, ⟨hE.symm, .inl ⟨h0, rfl⟩⟩, rfl, by omega, ⟨Reads.none_, fun r hr => by cases hr⟩, (fun r hr => by cases hr), hB⟩
set_option maxRecDepth 100000 in
set_option maxHeartbeats 4000000 in
theorem Dealt_any (A : Option Addr) (n c : Nat) (l : List En) (P G : Int) (w : World) (hl : Reads w w.heap.size 4 A n (flatE l)) (hn : n ≤ 40000) (hs : AllSz l) :
    Calls Try.prog 38 #[.slice A n c, .int .i64 P, .int .i64 G] w (RetDl w l P G) := by
  have HLL := hide (show l.length = n from hl.len (enc := encE) encE_len (by omega))
  have hB2 : Below w.heap.size w ((w.alloc (.cells #[.int .i64 P] 3)).alloc (.cells #[.int .i64 G] 3)) := bstep (below_val (w := w) #[.int .i64 P] 3) (below_val #[.int .i64 G] 3)
  have kP := (Blk.new w 3 #[.int .i64 P]).alloc (.cells #[.int .i64 G] 3)
  have kG : Blk ((w.alloc (.cells #[.int .i64 P] 3)).alloc (.cells #[.int .i64 G] 3)) (w.heap.size + 1) 3 #[.int .i64 G] := by
    have := Blk.new (w.alloc (.cells #[.int .i64 P] 3)) 3 #[.int .i64 G]
    rw [World.size_alloc] at this; exact this
  have hV := fun W (hB : Below w.heap.size w W) => valid_any A n c l W (hl.up hB) hn hs
  have hY := fun W (hB : Below w.heap.size w W) => beyond_any A n c l G W (hl.up hB) (by omega)
  have hC := fun W (hB : Below w.heap.size w W) => CloneE_any A n c l W (hl.up hB) (by omega)
  cases ha : allE l
  · have HE := hide (show errE l P G = 1 from by unfold errE; rw [ha]; rfl)
    simp only [ha] at hV
    clear ha hY hC
    go_enter Try.func38, Try.ntmps38
    go_wp2_with fail
    refine (hV _ hB2).mono ?_
    rintro e W1 ⟨rfl, hB1⟩
    have HB := hide (bstep hB2 hB1)
    clear hB1 hB2 hV kP kG
    go_wp2
    go_ret2
    exact RetDl.bad HE.out (by omega) HB.out
  · simp only [ha] at hV
    have HV := hide (hV _ hB2)
    have HYY := hide hY
    have HCC := hide hC
    have HA := hide ha
    clear hV hY hC ha
    cases hr : rightB P G
    · have HE := hide (show errE l P G = 7 from by simp [errE, HA.out, hr])
      go_enter Try.func38, Try.ntmps38
      go_wp2_with fail
      refine HV.out.mono ?_
      rintro e W1 ⟨rfl, hB1⟩
      have cP := (kP.below hB1 (by simp; omega)).cell 0
      have cG := (kG.below hB1 (by simp)).cell 0
      simp at cP cG
      have HB := hide (bstep hB2 hB1)
      clear hB1 hB2 kP kG
      go_wp2_with (go_at_call 41; refine (right_any _ _ _).mono ?_; rintro e w' ⟨rfl, rfl⟩)
      go_ret2
      exact RetDl.bad HE.out (by omega) HB.out
    · have hrr := hr
      unfold rightB at hrr
      rw [decide_eq_true_eq] at hrr
      obtain ⟨p, rfl⟩ : ∃ p : Nat, P = p := ⟨P.toNat, by omega⟩
      obtain ⟨g, rfl⟩ : ∃ g : Nat, G = g := ⟨G.toNat, by omega⟩
      have hp1 : 1 ≤ p := by omega
      have hp2 : p ≤ 16 := by omega
      have hg2 : g ≤ 128 := by omega
      clear hrr
      cases hg : inG (g : Int) l
      · have HE := hide (show errE l p g = 7 from by simp [errE, HA.out, hr, hg])
        go_enter Try.func38, Try.ntmps38
        go_wp2_with fail
        refine HV.out.mono ?_
        rintro e W1 ⟨rfl, hB1⟩
        have cP := (kP.below hB1 (by simp; omega)).cell 0
        have cG := (kG.below hB1 (by simp)).cell 0
        simp at cP cG
        have hB3 := bstep hB2 hB1
        have HY2 := hide (HYY.out _ hB3)
        rw [hg] at HY2
        clear hB1 hB2 kP kG
        go_wp2_with (go_at_call 41; refine (right_any _ _ _).mono ?_; rintro e w' ⟨rfl, rfl⟩)
        refine HY2.out.mono ?_
        rintro e W2 ⟨rfl, hB4⟩
        have HB := hide (bstep hB3 hB4)
        clear hB3 hB4 HY2
        go_wp2
        go_ret2
        exact RetDl.bad HE.out (by omega) HB.out
      · have HE := hide (show errE l p g = 0 from by simp [errE, HA.out, hr, hg])
        have HG := hide hg
        have HL0 := hide (fun x (hx : x ∈ l) => (allE_g HA.out x hx).1)
        have HL1 := hide (fun x (hx : x ∈ l) => inG_of HG.out x hx)
        go_enter Try.func38, Try.ntmps38
        go_wp2_with fail
        refine HV.out.mono ?_
        rintro e W1 ⟨rfl, hB1⟩
        have cP := (kP.below hB1 (by simp; omega)).cell 0
        have cG := (kG.below hB1 (by simp)).cell 0
        simp at cP cG
        have hB3 := bstep hB2 hB1
        have hbs : w.heap.size + 1 < W1.heap.size := by have := hB1.size; simp at this; omega
        have HY2 := hide (HYY.out _ hB3)
        rw [hg] at HY2
        clear hB1 hB2 kP kG hg
        go_wp2_with (go_at_call 41; refine (right_any _ _ _).mono ?_; rintro e w' ⟨rfl, rfl⟩)
        refine HY2.out.mono ?_
        rintro e W2 ⟨rfl, hB4⟩
        have hB5 := bstep hB3 hB4
        have cP2 := (hB4.cell (p := ⟨w.heap.size, 0, none⟩) (show w.heap.size < W1.heap.size by omega)).trans cP
        have cG2 := (hB4.cell (p := ⟨w.heap.size + 1, 0, none⟩) hbs).trans cG
        have hbs2 : w.heap.size + 1 < W2.heap.size := Nat.lt_of_lt_of_le hbs hB4.size
        have HC2 := hide (HCC.out _ hB5)
        clear hB3 hB4 HY2 cP cG hbs
        go_wp2_with fail
        refine HC2.out.mono ?_
        rintro e W3 ⟨A3, c3, rfl, hown, hB6⟩
        have hown4 := hown.alloc (.cells #[.slice A3 n c3] 50)
        have hB7 : Below W2.heap.size W2 (W3.alloc (.cells #[.slice A3 n c3] 50)) := hB6.alloc hB6.size _
        have HS2 := hide (SortSO_any W2 _ A3 n c3 l hown4 (by omega) hB7)
        have hk8 : (W3.alloc (.cells #[.slice A3 n c3] 50)).cell? ⟨W3.heap.size, 0, none⟩ = some (.slice A3 n c3) := by simp
        have hne : (Value.slice A3 n c3).ownBlock ≠ some W3.heap.size := fun e => by have := (hown.lt _ e).2; omega
        have hw3 : W2.heap.size ≤ W3.heap.size := hB6.size
        clear hown hB6 hown4 hB7 HC2
        go_wp2_with fail
        refine HS2.out.mono ?_
        rintro e W5 ⟨⟨rfl, s, hpm, hst, hrd⟩, hB8, hsz5, honly⟩
        have c8 := cell_block hk8 (honly W3.heap.size (by simp) hne)
        have cP3 := (hB8.cell (p := ⟨w.heap.size, 0, none⟩) (show w.heap.size < W2.heap.size by omega)).trans cP2
        have cG3 := (hB8.cell (p := ⟨w.heap.size + 1, 0, none⟩) hbs2).trans cG2
        rw [World.size_alloc] at hsz5
        have hB9 := bstep hB5 hB8
        clear HS2 hk8 hne honly cP2 cG2 hB8 hB5
        have hB10 : Below W5.heap.size W5 (W5.alloc (.cells #[.slice A3 n c3] 50)) := below_val (w := W5) #[.slice A3 n c3] 50
        have c8' := (hB10.cell (p := ⟨W3.heap.size, 0, none⟩) (show W3.heap.size < W5.heap.size by omega)).trans c8
        have cP4 := (hB10.cell (p := ⟨w.heap.size, 0, none⟩) (show w.heap.size < W5.heap.size by omega)).trans cP3
        have cG4 := (hB10.cell (p := ⟨w.heap.size + 1, 0, none⟩) (show w.heap.size + 1 < W5.heap.size by omega)).trans cG3
        have hlsn : s.length = n := by rw [hpm.length_eq, HLL.out]
        have HD := hide (dealtE_any A3 W5.heap.size 1 n c3 W3.heap.size w.heap.size (w.heap.size + 1) s p g (W5.alloc (.cells #[.slice A3 n c3] 50)) (by simp) (by simp) (hrd.up hB10) hlsn hn hp1 hp2 hg2 (fun x hx => HL0.out x (hpm.mem_iff.1 hx)) (fun x hx => HL1.out x (hpm.mem_iff.1 hx)) (by simp; omega) (by simp; omega) (by simp; omega) c8' cP4 cG4)
        have HP := hide hpm
        have HST := hide hst
        have HLS := hide hlsn
        clear hrd hpm hst hlsn
        go_wp2_with fail
        refine HD.out.mono ?_
        rintro e W7 ⟨b, V, rfl, hGr, hB11⟩
        have HB := hide (bstep (bstep hB9 hB10) hB11)
        obtain ⟨R, hR1, hR2, hR3⟩ := hGr.tab (m := l.length) (fun q _ => Nat.le_trans (dealE_le p g s q) (Nat.le_of_eq HP.out.length_eq))
        have HR1 := hide hR1
        have HR2 := hide hR2
        have HR3 := hide hR3
        clear hB9 hB10 hB11 hGr hR1 hR2 hR3 HD
        go_wp2
        go_ret2
        exact ⟨_, p, p, R, 0, ⟨HE.out.symm, .inr ⟨rfl, s, HP.out, HST.out, HR2.out⟩⟩, rfl, hp2, HR1.out, HR3.out, HB.out⟩
end Go.Proofs.Ythngjbhamgmcgaa
