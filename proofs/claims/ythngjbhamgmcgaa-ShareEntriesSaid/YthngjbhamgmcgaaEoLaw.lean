/-
  The walk of the law ShareEntries.
-/
import Derived.Test.YthngjbhamgmcgaaEoF
import Derived.Test.YthngjbhamgmcgaaEnRT
import Derived.Test.YthngjbhamgmcgaaShE
namespace Go.Proofs.Ythngjbhamgmcgaa
open Go.RowKit
attribute [local go_sem] Oper.semAt_some
set_option linter.unusedVariables false

theorem ToE.zero {R : List Er} {x : List En} (h : ToE R x 0) : x.Perm (allL R) := by
  rcases h with ⟨_, h, _⟩ | ⟨_, s, h1, _, h2⟩
  · omega
  · rcases h2 with ⟨_, h, _⟩ | ⟨_, _, rfl⟩
    · omega
    · exact h1
theorem DlE.zero {l : List En} {P G : Int} {X : List (List En)} (h : DlE l P G X 0) : X.flatten.Perm l ∧ ∀ xs ∈ X, ∀ y ∈ xs, y ∈ l := by
  obtain ⟨ha, hr, hg⟩ := errE_zero h.1.symm
  unfold rightB at hr
  rw [decide_eq_true_eq] at hr
  rcases h.2 with ⟨h1, _⟩ | ⟨_, s, h2, h3, rfl⟩
  · exact absurd rfl h1
  · have e : ((G.toNat : Nat) : Int) = G := by omega
    refine ⟨(dealE_whole (by omega) (by rw [allE_perm h2]; exact ha) (by rw [inG_perm h2, e]; exact hg)).trans h2, ?_⟩
    intro xs hxs y hy
    obtain ⟨p, _, rfl⟩ := List.mem_map.1 hxs
    exact h2.mem_iff.1 (dealE_mem hy)
theorem DlE.sz {l : List En} {P G : Int} {R : List Er} {E : Int} (h : DlE l P G (xsL R) E) (hs : AllSz l) : ∀ r ∈ R, AllSz r.xs := by
  intro r hr y hy
  have hm : r.xs ∈ xsL R := List.mem_map.2 ⟨r, hr, rfl⟩
  rcases h.2 with ⟨_, h2⟩ | ⟨h1, _⟩
  · rw [h2] at hm; cases hm
  · subst h1
    exact hs y (h.zero.2 _ hm y hy)
set_option maxRecDepth 100000 in
set_option maxHeartbeats 16000000 in
theorem entries_law (A : Option Addr) (n c : Nat) (l : List En) (q P G P2 : Int) (w : World) (hl : Reads w w.heap.size 4 A n (flatE l)) (hn : n ≤ 9223372036854775807) (hs : AllSz l) :
    Calls Try.prog 7 #[.slice A n c, .int .i64 q, .int .i64 P, .int .i64 G, .int .i64 P2] w (RetV w (.bool true)) := by
  have HLL := hide (show l.length = n from hl.len (enc := encE) encE_len (by omega))
  have HSZ := hide hs
  clear hs
  go_enter Try.func7, Try.ntmps7
  go_wp2_with fail
  refine (awake_any _).mono ?_
  rintro e w0 ⟨rfl, hB0⟩
  have hl0 := hl.up hB0
  have HV := hide (heavy_any A n c l w0 hl0 hn)
  clear hl
  go_wp2_with fail
  refine HV.out.mono ?_
  rintro e w1 ⟨bb, rfl, hb60, hB1⟩
  have hB2 := bstep hB0 hB1
  have hl1 := hl0.up hB1
  have H60 := hide hb60
  clear hB0 hB1 HV hl0 hb60
  cases bb
  case true =>
    go_wp2
    go_ret
    exact ⟨rfl, hB2⟩
  have hn60 : n ≤ 60 := H60.out rfl
  clear H60
  go_wp2_with fail
  go_loopw [11] (fun i wr => ∃ k : Nat, k ≤ n ∧ i = .int .i64 k ∧ Below w1.heap.size w1 wr) (fun i _ => n - (intOf i).toNat)
  case atStart => exact ⟨0, Nat.zero_le _, rfl, Below.refl _ _⟩
  case round =>
    obtain ⟨k, hk, rfl, hB⟩ := hrel
    by_cases hlt : k < n
    · obtain ⟨b, off, x, rfl, hb, hxk, hc⟩ := (hl1.up hB).elem (enc := encE) encE_len HLL.out hlt
      obtain ⟨b', off', y, e, _, hyk, hc'⟩ := (hl1.up hB).elem (enc := encE) encE_len HLL.out (show 0 < n by omega)
      injection e with e
      injection e with e1 e2
      subst e1 e2
      have c0 : wr.cell? ⟨b, off + k * 4, none⟩ = some (.int .i64 x.g) := by simpa using hc 0 _ rfl
      have c1 : wr.cell? ⟨b, off + k * 4 + 1, none⟩ = some (.string x.nm) := by simpa [← Nat.add_assoc] using hc 1 _ rfl
      have c2 : wr.cell? ⟨b, off + k * 4 + 2, none⟩ = some (.string x.ky) := by simpa [← Nat.add_assoc] using hc 2 _ rfl
      have c3 : wr.cell? ⟨b, off + k * 4 + 3, none⟩ = some (.string x.vl) := by simpa [← Nat.add_assoc] using hc 3 _ rfl
      have d0 : wr.cell? ⟨b, off, none⟩ = some (.int .i64 y.g) := by simpa using hc' 0 _ rfl
      have d1 : wr.cell? ⟨b, off + 1, none⟩ = some (.string y.nm) := by simpa [← Nat.add_assoc] using hc' 1 _ rfl
      have d2 : wr.cell? ⟨b, off + 2, none⟩ = some (.string y.ky) := by simpa [← Nat.add_assoc] using hc' 2 _ rfl
      have d3 : wr.cell? ⟨b, off + 3, none⟩ = some (.string y.vl) := by simpa [← Nat.add_assoc] using hc' 3 _ rfl
      have hsz := HSZ.out x (List.mem_of_getElem? hxk)
      obtain ⟨v, hv⟩ : ∃ v, okE x = v := ⟨_, rfl⟩
      obtain ⟨cc, hcc⟩ : ∃ cc, cmE y x = cc := ⟨_, rfl⟩
      have C1 := hide (fun (p : BW wr) => calls_bw (p := p) (v := .bool v) (by rw [← hv]; exact (ValidE_any x p.x hsz).mono fun _ _ h => ⟨h.1, h.2.below⟩))
      have C2 := hide (fun (p : BW wr) => calls_bw (p := p) (v := .bool v) (by rw [← hv]; exact (RValidE_any x p.x hsz).mono fun _ _ h => ⟨h.1, h.2.below⟩))
      have C3 := hide (fun (p : BW wr) => calls_bw (p := p) (v := .int .i64 cc) (by rw [← hcc]; exact (CompareE_any y x p.x).mono fun _ _ h => ⟨h.1, h.2.below⟩))
      have C4 := hide (fun (p : BW wr) => calls_bw (p := p) (v := .int .i64 cc) (by rw [← hcc]; exact RCompareE_any y x p.x))
      have r0 := fun (p : BW wr) => BW.cell (a := ⟨b, off + k * 4, none⟩) hb c0 p
      have r1 := fun (p : BW wr) => BW.cell (a := ⟨b, off + k * 4 + 1, none⟩) hb c1 p
      have r2 := fun (p : BW wr) => BW.cell (a := ⟨b, off + k * 4 + 2, none⟩) hb c2 p
      have r3 := fun (p : BW wr) => BW.cell (a := ⟨b, off + k * 4 + 3, none⟩) hb c3 p
      have s0 := fun (p : BW wr) => BW.cell (a := ⟨b, off, none⟩) hb d0 p
      have s1 := fun (p : BW wr) => BW.cell (a := ⟨b, off + 1, none⟩) hb d1 p
      have s2 := fun (p : BW wr) => BW.cell (a := ⟨b, off + 2, none⟩) hb d2 p
      have s3 := fun (p : BW wr) => BW.cell (a := ⟨b, off + 3, none⟩) hb d3 p
      have q1 : (0 : Int) ≤ (k : Int) := by omega
      have q2 : (k : Int) < (n : Int) := by omega
      have q3 : (0 : Int) < (n : Int) := by omega
      have z1 : (v != v) = false := by simp
      have z2 : (cc != cc) = false := by simp
      clear hc hc' hxk hyk c0 c1 c2 c3 d0 d1 d2 d3 hv hcc hsz
      go_wp2_with fail
      (refine wp_region_quiet_bw (by kernel_rfl) (by kernel_rfl) ?_
       repeat (first | go_big_quiet_step ((first | (go_at_call 32; with_reducible exact C1.out _) | (go_at_call 33; with_reducible exact C2.out _) | (go_at_call 34; with_reducible exact C3.out _) | (go_at_call 35; with_reducible exact C4.out _))) | quiet_step ((first | (go_at_call 32; with_reducible exact C1.out _) | (go_at_call 33; with_reducible exact C2.out _) | (go_at_call 34; with_reducible exact C3.out _) | (go_at_call 35; with_reducible exact C4.out _))))
       refine wpQuiet_nil ?_
       intro wq hw'
       obtain ⟨⟨_, hbq⟩, hw''⟩ := hw'
       subst hw'')
      have HB := hide (hB.trans (hbq.mono hB.size))
      clear hbq hB r0 r1 r2 r3 s0 s1 s2 s3 C1 C2 C3 C4
      go_wp2
      go_roundw
      case rel => exact ⟨k + 1, by omega, by go_num, HB.out⟩
      case measure => simp [intOf]; omega
    · have hB3 := hB2.trans (hB.mono hB2.size)
      have hl2 := hl1.up hB
      have H1 := hide (Entries_any A n c l q P G wr hl2 (by omega) HSZ.out)
      clear hB2 hB hl1
      go_wp2_with fail
      refine H1.out.mono ?_
      rintro e W2 ⟨A2, n2, c2, x, E, hx1, rfl, hn2, hrd2, hB4⟩
      have hB5 := bstep hB3 hB4
      have hl3 := hl2.up hB4
      have H2 := hide (REntries_any A n c l q P G W2 hl3 (by omega) HSZ.out)
      have HX1 := hide hx1
      clear hB3 hl2 hB4 H1 hx1
      go_wp2_with fail
      refine H2.out.mono ?_
      rintro e W3 ⟨A3, n3, c3, y, F, hx2, rfl, hn3, hrd3, hB6⟩
      obtain ⟨e1, e2⟩ := HX1.out.one hx2
      subst e1 e2
      have hrd4 := hrd2.up hB6
      have l1 := hrd4.len (enc := encE) encE_len (by omega)
      have l2 := hrd3.len (enc := encE) encE_len (by omega)
      obtain rfl : n2 = n3 := by rw [← l1, l2]
      have hll := HLL.out
      have H3 := hide (SameE_one A2 n2 c2 A3 c3 x W3 hrd4 hrd3 (by omega))
      have hB7 := bstep hB5 hB6
      have hl4 := hl3.up hB6
      clear hrd2 hrd3 hrd4 hB5 hB6 H2 hx2 l1 l2 hl3 HX1
      go_wp2_with fail
      refine H3.out.mono ?_
      rintro e W4 ⟨rfl, hB8⟩
      have hB9 := bstep hB7 hB8
      have hl5 := hl4.up hB8
      have H4 := hide (Dealt_any A n c l P G W4 hl5 (by omega) HSZ.out)
      have z0 : (E != E) = false := by simp
      clear hB7 hB8 hl4 H3
      go_wp2_with fail
      refine H4.out.mono ?_
      rintro e W5 ⟨A5, n5, c5, R, K, hR, rfl, hn5, hT5, hr5, hB10⟩
      have hB11 := bstep hB9 hB10
      have hl6 := hl5.up hB10
      have H5 := hide (RDealt_any A n c l P G W5 hl6 (by omega) HSZ.out)
      have HR := hide hR
      clear hB9 hB10 hl5 H4 hR
      go_wp2_with fail
      refine H5.out.mono ?_
      rintro e W6 ⟨A6, n6, c6, S, K2, hS, rfl, hn6, hT6, hr6, hB12⟩
      obtain ⟨e1, e2⟩ := HR.out.one (List.Perm.refl _) hS
      subst e2
      have hT7 := hT5.up hB12
      have hlen : n5 = n6 := by
        have h1 := hT7.1.len1
        have h2 := hT6.1.len1
        have h3 := congrArg List.length e1
        unfold xsL at h3
        simp only [List.length_map] at h3
        omega
      subst hlen
      have H6 := hide (sameDealt_one A5 A6 n5 c5 c6 R S W6 hT7 hT6 hn5 e1 (fun r hr => by have := hr5 r hr; omega))
      have HEQ := hide e1
      have HS := hide hS
      have hB13 := bstep hB11 hB12
      have hl7 := hl6.up hB12
      have z1 : (K != K) = false := by simp
      clear hB11 hB12 hl6 H5 hT5 e1 hS
      go_wp2_with fail
      refine H6.out.mono ?_
      rintro e W7 ⟨rfl, hB14⟩
      have hB15 := bstep hB13 hB14
      have hl8 := hl7.up hB14
      have hT8 := hT7.up hB14
      have hT9 := hT6.up hB14
      clear hB13 hB14 hl7 hT7 hT6 H6
      by_cases hK : K = 0
      · subst hK
        have H7 := hide (Together_any A5 n5 c5 R W7 hT8 (by omega) (fun r hr => by have := hr5 r hr; omega) (HR.out.sz HSZ.out))
        have HSR := hide (fun r hr => HS.out.sz HSZ.out r hr)
        have HS60 := hide (show ∀ r ∈ S, r.n ≤ 60 from fun r hr => by have := hr6 r hr; omega)
        clear hT8 hr5 hr6
        go_wp2_with fail
        refine H7.out.mono ?_
        rintro e W8 ⟨u, A8, n8, c8, I, hu, rfl, hn8, hrd8, hB16⟩
        have hB17 := bstep hB15 hB16
        have hl9 := hl8.up hB16
        have H8 := hide (RTogether_any A6 n5 c6 S W8 (hT9.up hB16) (by omega) HS60.out HSR.out)
        have HU := hide hu
        clear hB15 hB16 hl8 hT9 H7 hu
        go_wp2_with fail
        refine H8.out.mono ?_
        rintro e W9 ⟨v, A9, n9, c9, J, hv, rfl, hn9, hrd9, hB18⟩
        obtain ⟨e1, e2⟩ := (HU.out.congr HEQ.out).one hv
        subst e1 e2
        have hrd10 := hrd8.up hB18
        have l1 := hrd10.len (enc := encE) encE_len (by omega)
        have l2 := hrd9.len (enc := encE) encE_len (by omega)
        obtain rfl : n8 = n9 := by rw [← l1, l2]
        have H9 := hide (SameE_one A8 n8 c8 A9 c9 u W9 hrd10 hrd9 (by omega))
        have HLU := hide l1
        have hB19 := bstep hB17 hB18
        have hl10 := hl9.up hB18
        have z2 : (I != I) = false := by simp
        clear hrd8 hrd9 hB17 hB18 H8 hv l1 l2 hl9
        go_wp2_with fail
        refine H9.out.mono ?_
        rintro e W10 ⟨rfl, hB20⟩
        have hB21 := bstep hB19 hB20
        have hl11 := hl10.up hB20
        have hu11 := hrd10.up hB20
        clear hB19 hB20 hl10 hrd10 H9
        by_cases hI : I = 0
        · subst hI
          have hpu : u.Perm l := by
            have h1 := HU.out.zero
            rw [allL_xs] at h1
            exact h1.trans HR.out.zero.1
          have hnn : n8 = n := by rw [← HLU.out, hpu.length_eq]; exact HLL.out
          subst hnn
          have HPU := hide hpu
          have H10 := hide (Dealt_any A8 n8 c8 u P2 G W10 hu11 (by omega) (fun y hy => HSZ.out y (hpu.mem_iff.1 hy)))
          clear hpu hu11
          go_wp2_with fail
          refine H10.out.mono ?_
          rintro e W11 ⟨A11, n11, c11, X, M, hX, rfl, hn11, hT11, hr11, hB22⟩
          have hB23 := bstep hB21 hB22
          have H11 := hide (Dealt_any A n8 c l P2 G W11 (hl11.up hB22) (by omega) HSZ.out)
          have HX := hide hX
          clear hB21 hB22 hl11 H10 hX
          go_wp2_with fail
          refine H11.out.mono ?_
          rintro e W12 ⟨A12, n12, c12, Y, N, hY, rfl, hn12, hT12, hr12, hB24⟩
          obtain ⟨e1, e2⟩ := HX.out.one HPU.out hY
          subst e2
          have hT13 := hT11.up hB24
          have hlen : n11 = n12 := by
            have h1 := hT13.1.len1
            have h2 := hT12.1.len1
            have h3 := congrArg List.length e1
            unfold xsL at h3
            simp only [List.length_map] at h3
            omega
          subst hlen
          have H12 := hide (sameDealt_one A11 A12 n11 c11 c12 X Y W12 hT13 hT12 hn11 e1 (fun r hr => by have := hr11 r hr; have := HLU.out; omega))
          have HB := hide (bstep hB23 hB24)
          clear hB23 hB24 H11 hT11 hT13 hT12 e1 hY
          go_wp2_with fail
          refine H12.out.mono ?_
          rintro e W13 ⟨rfl, hB25⟩
          have HB2 := hide (bstep HB.out hB25)
          have z4 : ((n8 : Int) == (n8 : Int)) = true := by simp
          have z5 : (M == M) = true := by simp
          clear hB25 H12
          go_wp2
          go_ret
          exact ⟨rfl, HB2.out⟩
        · have z3 : (I != 0) = true := by simpa using hI
          clear hl11 hu11
          go_wp2
          go_ret
          exact ⟨rfl, hB21⟩
      · have z3 : (K != 0) = true := by simpa using hK
        clear hl8 hT8 hT9
        go_wp2
        go_ret
        exact ⟨rfl, hB15⟩
end Go.Proofs.Ythngjbhamgmcgaa
