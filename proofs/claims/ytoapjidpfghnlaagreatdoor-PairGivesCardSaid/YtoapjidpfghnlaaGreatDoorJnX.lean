/-
  Sums of what is joined: their bounds, step by step. No program in sight but what lists of changes tell; no condition.
  Stores into the reference's joiner; the walks of its Held, and of Left at no joiner. No condition.
-/
import Derived.Test.YtoapjidpfghnlaaGreatDoorJnU
import Derived.Test.YtoapjidpfghnlaaGreatDoorPrR5
namespace Go.Proofs.YtoapjidpfghnlaaGreatDoor

section
open Go.RowKit
set_option linter.unusedVariables false
set_option linter.unusedSimpArgs false

theorem sumT_snoc (xs : List Th) (y : Th) : sumT (xs ++ [y]) = putC (sumT xs) y := by
  unfold sumT
  rw [List.foldl_append]
  rfl
theorem nd_at : ∀ {l : List Th}, Nd l → ∀ {x}, x ∈ l → smT x l = x.m
  | [], _, x, h => by cases h
  | y :: l, hn, x, h => by
    obtain ⟨h1, h2⟩ := List.pairwise_cons.1 hn
    rw [smT]
    rcases List.mem_cons.1 h with rfl | h
    · rw [sameT_refl, if_pos rfl, smT_none fun z hz => by have := h1 z hz; rw [sameT_symm] at this; exact this]
      omega
    · rw [h1 x h, nd_at h2 h]
      simp
theorem AscT.nd {l : List Th} (h : AscT l) : Nd l := h.up.imp fun {x y} hxy => by
  cases e : sameT x y
  · rfl
  · have := cmpT_same e
    omega
theorem insT_len (c : Th) (l : List Th) : (insT c l).length = l.length + 1 := (insT_perm c l).length_eq
theorem sumT_len (xs : List Th) : (sumT xs).length ≤ xs.length := by
  have key : ∀ (xs a : List Th), (xs.foldl putC a).length ≤ a.length + xs.length := by
    intro xs
    induction xs with
    | nil => intro a; exact Nat.le_refl _
    | cons x xs ih =>
      intro a
      rw [List.foldl_cons]
      have h1 := ih (putC a x)
      have h2 : (putC a x).length ≤ a.length + 1 := by
        unfold putC
        refine Nat.le_trans (List.length_filter_le _ _) ?_
        rw [insT_len]
        have := List.length_filter_le (fun h => !sameT h x) a
        omega
      rw [List.length_cons]
      omega
  have := key xs []
  unfold sumT
  simpa using this
/-- What a sum of few small numbers holds. -/
theorem sumT_small {xs : List Th} {M : Int} (hM : 0 ≤ M) (hk : ∀ x ∈ xs, okR x.r = true) (hm : ∀ x ∈ xs, -M ≤ x.m ∧ x.m ≤ M) : ∀ y ∈ sumT xs, okR y.r = true ∧ -(M * (xs.length : Int)) ≤ y.m ∧ y.m ≤ M * (xs.length : Int) := by
  obtain ⟨h1, h2⟩ := AscT.sum hk
  intro y hy
  have h3 := nd_at h1.nd hy
  rw [h2 y] at h3
  have h4 := sm_bound hM y hm
  exact ⟨h1.ok y hy, by omega, by omega⟩
theorem jnL_next {left : Bool} {own oth : List Int} {lo hi : Int} {c : Th} {l : List Ch} {j : Nat} {y : Ch} (h : l[j]? = some y) :
    jnL left own oth lo hi c ((l.take (j + 1)).map thC) = jnL left own oth lo hi c ((l.take j).map thC) ++ if btw (dtT left c (thC y)) lo hi && eqJ left own oth c (thC y) then [jnT left c (thC y)] else [] := by
  unfold jnL
  rw [take_map h, List.filter_append, List.map_append]
  congr 1
  cases e : (btw (dtT left c (thC y)) lo hi && eqJ left own oth c (thC y))
  · rw [List.filter_cons_of_neg (by simp [e])]; rfl
  · rw [List.filter_cons_of_pos (by simp [e])]; rfl
theorem jnL_bad {left : Bool} {own oth : List Int} {lo hi : Int} {c y : Th} {l : List Th} (hy : y ∈ l) (hm : (btw (dtT left c y) lo hi && eqJ left own oth c y) = true) (hb : badJ (jnT left c y) = true) : (jnL left own oth lo hi c l).any badJ = true := by
  rw [List.any_eq_true]
  exact ⟨_, List.mem_map.2 ⟨y, List.mem_filter.2 ⟨hy, hm⟩, rfl⟩, hb⟩
theorem jnL_len (left : Bool) (own oth : List Int) (lo hi : Int) (c : Th) (l : List Th) : (jnL left own oth lo hi c l).length ≤ l.length := by
  unfold jnL
  rw [List.length_map]
  exact List.length_filter_le _ _
/-- What is joined is small. -/
theorem jnL_small {left : Bool} {own oth : List Int} {lo hi : Int} {c : Th} {l : List Th} (hc : okR c.r = true) (hm : -100 ≤ c.m ∧ c.m ≤ 100) (hl : ∀ y ∈ l, okR y.r = true ∧ -4000 ≤ y.m ∧ y.m ≤ 4000) (hb : (jnL left own oth lo hi c l).any badJ = false) :
    ∀ x ∈ jnL left own oth lo hi c l, okR x.r = true ∧ -400000 ≤ x.m ∧ x.m ≤ 400000 := by
  intro x hx
  have h5 := List.any_eq_false.1 hb x hx
  unfold jnL at hx
  obtain ⟨y, hy, rfl⟩ := List.mem_map.1 hx
  obtain ⟨k1, k2, k3⟩ := hl y (List.mem_filter.1 hy).1
  have h6 : (jnT left c y).r.length ≤ 8 := by unfold badJ at h5; simpa using h5
  refine ⟨?_, ?_⟩
  · unfold jnT at h6 ⊢
    cases left
    · exact okR_join k1 hc h6
    · exact okR_join hc k1 h6
  · obtain ⟨ma, mb⟩ := hm
    have s1 : (y.m * c.m).natAbs ≤ 4000 * 100 := by
      rw [Int.natAbs_mul]
      exact Nat.mul_le_mul (by omega) (by omega)
    show -400000 ≤ y.m * c.m ∧ y.m * c.m ≤ 400000
    omega
end

section
open Go.RowKit
attribute [local go_sem] Oper.semAt_some wide_fn wide_depth
set_option linter.unusedVariables false
set_option linter.unusedSimpArgs false

theorem frp_setY {w : World} {b o : Nat} {u v : Value} (h : w.cell? ⟨b, o, none⟩ = some u) : FrP (fun k => k = b) w (w.setCell ⟨b, o, none⟩ v) :=
  ⟨rfl, rfl, rfl, by simp [World.setCell], fun k _ hk => Below.heap_setCell _ _ _ k hk⟩
theorem JR.setL {w : World} {base b : Nat} {s : JoS} {mk : Int} {vL v vR : Value} {L L' R : List Ch} (h : JR w base b s mk vL L vR R) (hL : OC w base v L') : JR (w.setCell ⟨b, 4, none⟩ v) base b s mk v L' vR R ∧ FrP (fun k => k = b) w (w.setCell ⟨b, 4, none⟩ v) := by
  have c4 := h.blk.cell 4
  simp [JoS.rcells] at c4
  have hf := frp_setY (v := v) c4
  exact ⟨⟨by simpa [JoS.rcells] using h.blk.set_ 4 v, h.on.frp hf h.quiet, h.ot.frp hf h.quiet, hL.frp hf h.quiet, h.r.frp hf h.quiet, h.low⟩, hf⟩
theorem JR.setR {w : World} {base b : Nat} {s : JoS} {mk : Int} {vL v vR : Value} {L R' R : List Ch} (h : JR w base b s mk vL L vR R) (hR : OC w base v R') : JR (w.setCell ⟨b, 5, none⟩ v) base b s mk vL L v R' ∧ FrP (fun k => k = b) w (w.setCell ⟨b, 5, none⟩ v) := by
  have c5 := h.blk.cell 5
  simp [JoS.rcells] at c5
  have hf := frp_setY (v := v) c5
  exact ⟨⟨by simpa [JoS.rcells] using h.blk.set_ 5 v, h.on.frp hf h.quiet, h.ot.frp hf h.quiet, h.l.frp hf h.quiet, hR.frp hf h.quiet, h.low⟩, hf⟩
theorem RHeld_nilJ (w : World) : Calls Tryz.prog 49 #[.pointer none] w (RetV w (.tuple #[.int .i64 0, .int .i64 0])) := by
  go_enter Tryz.func49, Tryz.ntmps49
  go_wp2
  refine bodyPost_ret (results_tmp2 rfl _ _ _) rfl ?_
  exact ⟨rfl, Below.refl _ _⟩
set_option maxRecDepth 100000 in
set_option maxHeartbeats 2000000 in
theorem RHeldJ_any {base b : Nat} {s : JoS} {mk : Int} {vL vR : Value} {Ll Rl : List Ch} (w : World) (h : JR w base b s mk vL Ll vR Rl) :
    Calls Tryz.prog 49 #[.pointer (some ⟨b, 0, none⟩)] w (RetV w (.tuple #[.int .i64 (Ll.length : Nat), .int .i64 (Rl.length : Nat)])) := by
  obtain ⟨AL, cL, hvL, _⟩ := own_form h.l.own
  obtain ⟨AR, cR, hvR, _⟩ := own_form h.r.own
  subst hvL hvR
  have hbl := h.blk.lt
  have j4 := h.blk.cell 4
  have j5 := h.blk.cell 5
  simp [JoS.rcells] at j4 j5
  have p4 := fun (p : BW w) => BW.cell (a := ⟨b, 4, none⟩) hbl j4 p
  have p5 := fun (p : BW w) => BW.cell (a := ⟨b, 5, none⟩) hbl j5 p
  clear h j4 j5
  go_enter Tryz.func49, Tryz.ntmps49
  go_wp2_with fail
  (refine wp_region_quiet_bw (by kernel_rfl) (by kernel_rfl) ?_
   repeat (first | go_big_quiet_step ((fail)) | quiet_step ((fail)))
   refine wpQuiet_nil ?_
   intro wq hw'
   obtain ⟨⟨_, hbq⟩, hw''⟩ := hw'
   subst hw'')
  have HB := hide hbq
  clear hbq p4 p5
  go_wp2
  refine bodyPost_ret (results_tmp2 rfl _ _ _) rfl ?_
  exact ⟨rfl, HB.out⟩
set_option maxRecDepth 100000 in
set_option maxHeartbeats 2000000 in
theorem RLeftJ_nil (t : Int) (Ar : Option Addr) (nr cr : Nat) (m : Int) (w : World) : Calls Tryz.prog 44 #[.pointer none, .agg #[.int .i64 t, .slice Ar nr cr, .int .i64 m]] w (fun e w' => e = .returned (.tuple #[.slice none 0 0, .int .i64 1]) ∧ Below w.heap.size w w') := by
  have hB := below_val (w := w) #[.int .i64 t, .slice Ar nr cr, .int .i64 m] 57
  have kb := Blk.new w 57 #[.int .i64 t, .slice Ar nr cr, .int .i64 m]
  have b0 := kb.cell 0
  have b1 := kb.cell 1
  have b2 := kb.cell 2
  simp at b0 b1 b2
  have HC : ∀ X : World, Calls Tryz.prog 112 #[.pointer none, .agg #[.int .i64 t, .slice Ar nr cr, .int .i64 m], .bool true] X (fun e w' => e = .returned (.tuple #[.slice none 0 0, .int .i64 1]) ∧ Below X.heap.size X w') := fun X => by
    have hB2 := hide (below_val (w := X) #[.int .i64 t, .slice Ar nr cr, .int .i64 m] 57)
    clear hB kb b0 b1 b2
    go_enter Tryz.func112, Tryz.ntmps112
    go_wp2
    refine bodyPost_ret (results_tmp2 rfl _ _ _) rfl ?_
    exact ⟨rfl, hB2.out⟩
  have HHC := hide HC
  have HB := hide hB
  clear HC hB kb
  go_enter Tryz.func44, Tryz.ntmps44
  go_wp2_with fail
  refine (HHC.out _).mono ?_
  rintro e W2 ⟨rfl, hb⟩
  have HB2 := hide (bstep HB.out hb)
  clear hb b0 b1 b2
  go_wp2
  refine bodyPost_ret (results_tmp2 rfl _ _ _) rfl ?_
  exact ⟨rfl, HB2.out⟩
end

end Go.Proofs.YtoapjidpfghnlaaGreatDoor
