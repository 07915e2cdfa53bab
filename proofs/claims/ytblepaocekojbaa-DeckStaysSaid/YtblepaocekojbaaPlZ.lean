/-
  The law's helpers for places; what Placed answers is right, in plain words.
-/
import Derived.Test.YtblepaocekojbaaPlX
import Derived.Test.YtblepaocekojbaaPlY
namespace Go.Proofs.Ytblepaocekojbaa
open Go.RowKit Go.Shelf Go.Maps Go.Deep
attribute [local go_sem] Oper.semAt_some
set_option linter.unusedVariables false

theorem Like.errG {g g' : Gr} (h : Like g g') (m : Nat) (gs : List Int) : errG g' m gs = errG g m gs := by simp [Go.Proofs.Ytblepaocekojbaa.errG, h.valid, h.n1, h.ops]
theorem Like.needG {g g' : Gr} (h : Like g g') (gs : List Int) : needG g' gs = needG g gs := by simp [Go.Proofs.Ytblepaocekojbaa.needG, h.n1, h.ops]
theorem Like.leastV {g g' : Gr} (h : Like g g') (m : Nat) (gs : List Int) : leastV g' m gs = leastV g m gs := by simp [Go.Proofs.Ytblepaocekojbaa.leastV, h.errG, h.needG]
theorem Like.plcE {g g' : Gr} (h : Like g g') (m : Nat) (gs : List Int) (n : Nat) (ss : List Int) : plcE g' m gs n ss = plcE g m gs n ss := by simp [Go.Proofs.Ytblepaocekojbaa.plcE, h.errG, h.needG, h.valid]
theorem Like.plcF {g g' : Gr} (h : Like g g') (gs : List Int) (n : Nat) (ss : List Int) (t : Nat) : plcF g' gs n ss t = plcF g gs n ss t := by simp [Go.Proofs.Ytblepaocekojbaa.plcF, h.ops, h.n1]
theorem Like.plcL {g g' : Gr} (h : Like g g') (gs : List Int) (n : Nat) (ss : List Int) (k : Nat) : plcL g' gs n ss k = plcL g gs n ss k := by
  unfold Go.Proofs.Ytblepaocekojbaa.plcL
  exact List.map_congr_left fun t _ => h.plcF gs n ss t
theorem Like.plcR {g g' : Gr} (h : Like g g') (m : Nat) (gs : List Int) (n : Nat) (ss : List Int) : plcR g' m gs n ss = plcR g m gs n ss := by simp [Go.Proofs.Ytblepaocekojbaa.plcR, h.plcE, h.plcL, h.n1]
theorem Like.rgtB {g g' : Gr} (h : Like g g') (m : Nat) (gs : List Int) (n : Nat) (ss : List Int) (q : Nat) (f : Nat → Pl) : rgtB g' m gs n ss q f = rgtB g m gs n ss q f := by simp [Go.Proofs.Ytblepaocekojbaa.rgtB, h.errG, h.n1, h.ops]
theorem plcE_zero {g : Gr} {m : Nat} {gs : List Int} {n : Nat} {ss : List Int} (h : plcE g m gs n ss = 0) : errG g m gs = 0 ∧ slotB n ss = true ∧ needG g gs ≤ offW (natA ss) n := by
  unfold plcE at h
  split at h
  · rename_i h1
    simp only [Bool.and_eq_true] at h1
    split at h
    · rename_i h2
      split at h
      · omega
      · exact ⟨h2, h1.2, by omega⟩
    · rename_i h2; exact absurd h h2
  · omega
theorem plA_plcL {g : Gr} {gs : List Int} {n : Nat} {ss : List Int} {k t : Nat} (h : t < k) : plA (plcL g gs n ss k) t = plcF g gs n ss t := by
  unfold plA plcL
  rw [List.getElem?_map, List.getElem?_range h]; rfl
/-- What Placed answers is right. -/
theorem placed_right {g : Gr} {m : Nat} {gs : List Int} {n : Nat} {ss : List Int} (hE : plcE g m gs n ss = 0) (hk : GrpOk g m gs) (hs : 1 ≤ n) (hso : ∀ k, k < n → ss[k]? = some ((natA ss k : Nat) : Int) ∧ natA ss k ≤ 16) :
    rgtB g m gs n ss g.n1 (plA (plcL g gs n ss g.n1)) = true := by
  obtain ⟨h1, h2, h3⟩ := plcE_zero hE
  have hidx : ∀ t, t < g.n1 → idxT (natA g.ops) (natA gs) (widO (natA g.ops) (natA gs) g.n1) t < offW (natA ss) n := fun t ht =>
    Nat.lt_of_lt_of_le (idxT_lt (natA g.ops) (natA gs) ht (hk.grm _ (hk.opm t ht))) h3
  have hall : (List.range g.n1).all (okR (natA g.ops) (natA gs) n ss (plA (plcL g gs n ss g.n1))) = true := by
    rw [List.all_eq_true]
    intro t ht
    rw [List.mem_range] at ht
    unfold okR
    rw [plA_plcL ht, Bool.and_eq_true]
    refine ⟨?_, ?_⟩
    · have h4 := pick_free (natA ss) (show 0 < n by omega) (hidx t ht)
      have h5 : pickS (natA ss) n (idxT (natA g.ops) (natA gs) (widO (natA g.ops) (natA gs) g.n1) t) < n := bestM_lt _ _ (by omega)
      unfold winB plcF plP
      simp only [Bool.and_eq_true, decide_eq_true_eq]
      refine ⟨by omega, by omega, by omega, ?_⟩
      rw [Int.toNat_natCast, (hso _ h5).1]
      simp only [Option.getD]
      omega
    · rw [List.all_eq_true]
      intro k hkt
      rw [List.mem_range] at hkt
      unfold badR
      rw [plA_plcL ht, plA_plcL (Nat.lt_trans hkt ht)]
      by_cases e : plcF g gs n ss k = plcF g gs n ss t
      · have e2 := plP_inj _ _ e
        obtain ⟨e3, e4⟩ := idxT_apart (natA g.ops) (natA gs) ht hkt e2.symm
        simp [e, e3, e4]
      · simp [e]
  unfold rgtB
  rw [hall]
  simp [h1, h2]
theorem placed_wf {g : Gr} {m : Nat} {gs : List Int} {n : Nat} {ss : List Int} (hk : GrpOk g m gs) (hs : slotB n ss = true) (hn : 1 ≤ n ∧ n ≤ 20) {t : Nat} (ht : t < g.n1) : PlW (plA (plcL g gs n ss g.n1) t) := by
  rw [plA_plcL ht]
  have h5 : pickS (natA ss) n (idxT (natA g.ops) (natA gs) (widO (natA g.ops) (natA gs) g.n1) t) < n := bestM_lt _ _ (by omega)
  have h6 := usedS_le (natA ss) n (idxT (natA g.ops) (natA gs) (widO (natA g.ops) (natA gs) g.n1) t) (pickS (natA ss) n (idxT (natA g.ops) (natA gs) (widO (natA g.ops) (natA gs) g.n1) t))
  have h7 := idxT_lt (natA g.ops) (natA gs) ht (hk.grm _ (hk.opm t ht))
  have h8 := needG_le g gs hk.n2
  unfold needG at h8
  exact ⟨wf_nat (by omega), wf_nat (by omega)⟩
/-- As many different places as Least tells. -/
theorem placed_count {g : Gr} {m : Nat} {gs : List Int} {n : Nat} {ss : List Int} (hk : GrpOk g m gs) : (ddP (plcF g gs n ss) g.n1).length = needG g gs :=
  dd_count (natA ss) (natA g.ops) (natA gs) n g.n1 200 fun t ht => hk.grm _ (hk.opm t ht)
theorem neqRP (p : Pl) (w : World) : (binOp .neq 67 (.agg #[.int .i64 p.m, .int .i64 p.s]) (.agg #[.int .i64 p.m, .int .i64 p.s])).run Try.prog w = .ok (.bool false) w := by
  have u3 := Try.underlying3
  have a3 := Try.isAgg3
  have z3 := Try.sizeOf3
  have hS : Try.prog.underlying 67 = some (.struct (Try.prog.fieldsOf 67)) := by kernel_rfl
  have hp : Try.prog.stoodInHeld 67 = false := by kernel_rfl
  rw [run_neq_struct, show (10000 : Nat) = 9999 + 1 from rfl, run_equalIn_agg w 9999 67 _ _ hS hp]
  simp only [Program.fieldsOf, Try.underlying67]
  go_simp
set_option maxHeartbeats 1000000 in
theorem samePlaces_one (A A' : Option Addr) (n c c' B B' : Nat) (l : List Pl) (w : World) (hx : Reads w B 2 A n (l.flatMap encPl)) (hy : Reads w B' 2 A' n (l.flatMap encPl)) (hn : n ≤ 1000000) :
    Calls Try.prog 38 #[.slice A n c, .slice A' n c'] w (RetQ w (.bool true)) := by
  have HX := hide (hx.len encPl_len (by omega))
  have hnn : ((n : Int) != (n : Int)) = false := by simp
  go_enter Try.func38, Try.ntmps38
  go_wp2
  go_loopw [5] (fun i wr => ∃ k q : Nat, k ≤ n ∧ i = .int .i64 k ∧ wr = w.drewN q) (fun i _ => n - (intOf i).toNat)
  case atStart => exact ⟨0, 0, Nat.zero_le _, rfl, rfl⟩
  case round =>
    obtain ⟨k, q, hk, rfl, rfl⟩ := hrel
    by_cases hlt : k < n
    · obtain ⟨b, off, x, rfl, hb, hxk, hc⟩ := hx.elem encPl_len HX.out hlt
      obtain ⟨b', off', y, rfl, hb', hyk, hc'⟩ := hy.elem encPl_len HX.out hlt
      rw [hxk] at hyk
      injection hyk with hyk
      subst hyk
      have d0 : w.cell? ⟨b, off + k * 2, none⟩ = some (.int .i64 x.m) := by simpa using hc 0 _ rfl
      have d1 : w.cell? ⟨b, off + k * 2 + 1, none⟩ = some (.int .i64 x.s) := by simpa [← Nat.add_assoc] using hc 1 _ rfl
      have e0 : w.cell? ⟨b', off' + k * 2, none⟩ = some (.int .i64 x.m) := by simpa using hc' 0 _ rfl
      have e1 : w.cell? ⟨b', off' + k * 2 + 1, none⟩ = some (.int .i64 x.s) := by simpa [← Nat.add_assoc] using hc' 1 _ rfl
      clear hxk hc hc'
      have hn1 := neqRP x
      have hg : Try.prog.eqGuardType Try.prog.depth 67 = false := by kernel_rfl
      have q1 : (0 : Int) ≤ (k : Int) := by omega
      have q2 : (k : Int) < (n : Int) := by omega
      go_wp2
      go_quiet (fail)
      go_wp2
      go_roundw
      case rel => exact ⟨k + 1, _, by omega, by go_num, by first | rfl | exact World.drewN_drewN _ _ _⟩
      case measure => simp [intOf]; omega
    · obtain rfl : k = n := by omega
      go_wp2
      go_ret
      exact ⟨rfl, _, rfl⟩
set_option maxRecDepth 100000 in
set_option maxHeartbeats 2000000 in
theorem places_any (A : Option Addr) (n c : Nat) (l : List Pl) (w : World) (hl : Reads w w.heap.size 2 A n (l.flatMap encPl)) (hn : n ≤ 1000) :
    Calls Try.prog 39 #[.slice A n c] w (RetSl w 2 n (l.flatMap encPl)) := by
  obtain ⟨i0, hi, hz0, hz1, hz2⟩ := info_parts infoRPlace_dk
  have HL := hide (hl.len encPl_len (by omega))
  go_enter Try.func39, Try.ntmps39
  go_wp2_with fail
  go_loopw [3, 4] (fun v i wr => ∃ k : Nat, k ≤ n ∧ i = .int .i64 k ∧ wr.ownsRow w.heap.size 67 2 v k ((l.take k).flatMap encPl) ∧ Below w.heap.size w wr) (fun _ i _ => n - (intOf i).toNat)
  case atStart => exact ⟨0, Nat.zero_le _, rfl, World.ownsRow_nil _ _ _ _, Below.refl _ _⟩
  case round =>
    obtain ⟨k, hk, rfl, hown, hB⟩ := hrel
    have hWs := hB.size
    by_cases hlt : k < n
    · obtain ⟨b, off, e, ha, hb, hek, hce⟩ := (hl.below hB).elem encPl_len HL.out hlt
      have HSN := hide (show (l.take (k + 1)).flatMap encPl = (l.take k).flatMap encPl ++ [.int .i64 e.m, .int .i64 e.s] by rw [take_snoc' hek, flatP_snoc])
      clear hek
      have e0 : wr.cell? ⟨b, off + k * 2, none⟩ = some (.int .i64 e.m) := by simpa using hce 0 _ rfl
      have e1 : wr.cell? ⟨b, off + k * 2 + 1, none⟩ = some (.int .i64 e.s) := by simpa [← Nat.add_assoc] using hce 1 _ rfl
      clear hce
      rw [ha]
      clear ha
      have q1 : (0 : Int) ≤ (k : Int) := by omega
      have q2 : (k : Int) < (n : Int) := by omega
      go_wp2_with fail
      refine Held.begin (fun x => x.cell? ⟨b, off + k * 2, none⟩ = some (.int .i64 e.m) ∧ x.cell? ⟨b, off + k * 2 + 1, none⟩ = some (.int .i64 e.s)) 14 (by kernel_rfl) ?_
      have hown3 : wr.drew.ownsRow w.heap.size 67 2 u3 k ((l.take k).flatMap encPl) := hown.drew
      have hB3 : Below w.heap.size w wr.drew := hB.drew
      have hS : wr.drew.cell? ⟨b, off + k * 2, none⟩ = some (.int .i64 e.m) ∧ wr.drew.cell? ⟨b, off + k * 2 + 1, none⟩ = some (.int .i64 e.s) := ⟨e0, e1⟩
      obtain ⟨X, hX⟩ : ∃ X, wr.drew = X := ⟨_, rfl⟩
      rw [hX] at hown3 hB3 hS ⊢
      clear hX hown hB e0 e1
      have hs3 := hB3.size
      refine Held.take (i := 0) (u3) rfl hS (by kernel_rfl) (by kernel_rfl) (by kernel_rfl) (by kernel_rfl) (fun _ _ _ h => h) rfl (fun x hx => by obtain ⟨x1, x2⟩ := hx; go_simp) ?_
      try simp only [Act.put]
      refine Held.take (i := 1) (.slice (some ⟨b, off, none⟩) n c) rfl hS (by kernel_rfl) (by kernel_rfl) (by kernel_rfl) (by kernel_rfl) (fun _ _ _ h => h) rfl (fun x hx => by obtain ⟨x1, x2⟩ := hx; go_simp) ?_
      try simp only [Act.put]
      refine Held.take (i := 2) (.int .i64 (k : Int)) rfl hS (by kernel_rfl) (by kernel_rfl) (by kernel_rfl) (by kernel_rfl) (fun _ _ _ h => h) rfl (fun x hx => by obtain ⟨x1, x2⟩ := hx; go_simp) ?_
      try simp only [Act.put]
      refine Held.take (i := 3) (.pointer (some ⟨b, off + k * 2, none⟩)) rfl hS (by kernel_rfl) (by kernel_rfl) (by kernel_rfl) (by kernel_rfl) (fun _ _ _ h => h) rfl (fun x hx => by obtain ⟨x1, x2⟩ := hx; go_simp) ?_
      try simp only [Act.put]
      refine Held.take (i := 4) (.pointer (some ⟨b, off + k * 2, none⟩)) rfl hS (by kernel_rfl) (by kernel_rfl) (by kernel_rfl) (by kernel_rfl) (fun _ _ _ h => h) rfl (fun x hx => by obtain ⟨x1, x2⟩ := hx; go_simp) ?_
      try simp only [Act.put]
      refine Held.take (i := 5) (.int .i64 e.m) rfl hS (by kernel_rfl) (by kernel_rfl) (by kernel_rfl) (by kernel_rfl) (fun _ _ _ h => h) rfl (fun x hx => by obtain ⟨x1, x2⟩ := hx; go_simp) ?_
      try simp only [Act.put]
      refine Held.take (i := 6) (.slice (some ⟨b, off, none⟩) n c) rfl hS (by kernel_rfl) (by kernel_rfl) (by kernel_rfl) (by kernel_rfl) (fun _ _ _ h => h) rfl (fun x hx => by obtain ⟨x1, x2⟩ := hx; go_simp) ?_
      try simp only [Act.put]
      refine Held.take (i := 7) (.int .i64 (k : Int)) rfl hS (by kernel_rfl) (by kernel_rfl) (by kernel_rfl) (by kernel_rfl) (fun _ _ _ h => h) rfl (fun x hx => by obtain ⟨x1, x2⟩ := hx; go_simp) ?_
      try simp only [Act.put]
      refine Held.take (i := 8) (.pointer (some ⟨b, off + k * 2, none⟩)) rfl hS (by kernel_rfl) (by kernel_rfl) (by kernel_rfl) (by kernel_rfl) (fun _ _ _ h => h) rfl (fun x hx => by obtain ⟨x1, x2⟩ := hx; go_simp) ?_
      try simp only [Act.put]
      refine Held.take (i := 9) (.pointer (some ⟨b, off + k * 2 + 1, none⟩)) rfl hS (by kernel_rfl) (by kernel_rfl) (by kernel_rfl) (by kernel_rfl) (fun _ _ _ h => h) rfl (fun x hx => by obtain ⟨x1, x2⟩ := hx; go_simp) ?_
      try simp only [Act.put]
      refine Held.take (i := 10) (.int .i64 e.s) rfl hS (by kernel_rfl) (by kernel_rfl) (by kernel_rfl) (by kernel_rfl) (fun _ _ _ h => h) rfl (fun x hx => by obtain ⟨x1, x2⟩ := hx; go_simp) ?_
      try simp only [Act.put]
      refine Held.take (i := 11) (.agg #[.int .i64 e.m, .int .i64 e.s]) rfl hS (by kernel_rfl) (by kernel_rfl) (by kernel_rfl) (by kernel_rfl) (fun _ _ _ h => h) rfl (fun x hx => by obtain ⟨x1, x2⟩ := hx; go_simp) ?_
      try simp only [Act.put]
      refine Held.one (i := 12) rfl (by kernel_rfl) rfl (fun K hK => ?_)
      have hS4 : (X.alloc (.cells #[.int .i64 e.m, .int .i64 e.s] 67)).cell? ⟨b, off + k * 2, none⟩ = some (.int .i64 e.m) ∧ (X.alloc (.cells #[.int .i64 e.m, .int .i64 e.s] 67)).cell? ⟨b, off + k * 2 + 1, none⟩ = some (.int .i64 e.s) :=
        ⟨(World.cell?_alloc_lt X _ ⟨b, off + k * 2, none⟩ (by show b < _; omega)).trans hS.1, (World.cell?_alloc_lt X _ ⟨b, off + k * 2 + 1, none⟩ (by show b < _; omega)).trans hS.2⟩
      have HS4 := hide hS4
      clear hS4
      unfold Oper.wp
      go_simp
      refine hK _ _ (fun _ => HS4.out) ?_
      try simp only [Act.put]
      clear hK K
      refine Held.one (i := 13) rfl (by kernel_rfl) rfl (fun K hK => ?_)
      have hrd : Reads (X.alloc (.cells #[.int .i64 e.m, .int .i64 e.s] 67)) (X.heap.size + 1) 2 (some ⟨X.heap.size, 0, none⟩) 1 [.int .i64 e.m, .int .i64 e.s] :=
        ⟨rfl, fun _ => ⟨X.heap.size, 0, rfl, by omega, fun j u hu => by
          have := (Blk.new X 67 #[.int .i64 e.m, .int .i64 e.s]).cell j
          rw [Nat.zero_add, this]; simpa using hu⟩⟩
      refine wp_append_any _ _ _ 43 rfl w.heap.size 67 i0 _ 2 16 Try.underlying43 hi hz0 hz1 hz2 rfl (by decide) u3 k _ rfl (hown3.alloc _) (X.heap.size + 1) (some ⟨X.heap.size, 0, none⟩) 1 1 [.int .i64 e.m, .int .i64 e.s] rfl hrd (by simp [Value.oneCell']) (by unfold maxLen; omega) (by omega) (by simp; omega) ?_
      intro v' w1 hown1 hgrow _
      have nb2 : some b ≠ u3.ownBlock := fun e => by have := (hown3.lt _ e.symm).1; omega
      have hS5 : w1.cell? ⟨b, off + k * 2, none⟩ = some (.int .i64 e.m) ∧ w1.cell? ⟨b, off + k * 2 + 1, none⟩ = some (.int .i64 e.s) :=
        ⟨(hgrow.cell_far ⟨b, off + k * 2, none⟩ (by simp; omega) nb2).trans HS4.out.1, (hgrow.cell_far ⟨b, off + k * 2 + 1, none⟩ (by simp; omega) nb2).trans HS4.out.2⟩
      have hB5 : Below w.heap.size w w1 := below_append (hB3.alloc (by omega) _) (hown3.alloc _) (by simp; omega) hgrow
      refine hK _ _ (fun _ => hS5) ?_
      try simp only [Act.put]
      clear hK K hS HS4 hrd hgrow hown3 hB3
      refine Held.one (i := 14) rfl (by kernel_rfl) rfl (fun K hK => ?_)
      unfold Oper.wp
      go_simp
      refine hK _ _ (fun h => absurd rfl h) ?_
      try simp only [Act.put]
      clear hK K
      refine Held.done (by kernel_rfl) ?_
      go_wp2
      go_roundw
      case rel => exact ⟨k + 1, by omega, by go_num, by rw [HSN.out]; exact hown1, hB5⟩
      case measure => simp [intOf]; omega
    · obtain rfl : k = n := by omega
      rw [take_all HL.out] at hown
      obtain ⟨A', c', rfl, hR⟩ := own_form hown
      go_wp2
      go_ret
      exact ⟨A', c', rfl, hR, hB⟩
end Go.Proofs.Ytblepaocekojbaa
