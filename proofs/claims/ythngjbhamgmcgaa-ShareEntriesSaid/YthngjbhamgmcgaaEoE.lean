/-
  The walks of Entries on both sides, of the reference's Dealt, and of sameDealt.
-/
import Derived.Test.YthngjbhamgmcgaaEoS
import Derived.Test.YthngjbhamgmcgaaShC
namespace Go.Proofs.Ythngjbhamgmcgaa
open Go.RowKit
attribute [local go_sem] Oper.semAt_some
set_option linter.unusedVariables false

/-- What Entries gives. -/
def RetEn (w : World) (l : List En) (q P G : Int) (e : Ending) (w' : World) : Prop := ∃ A n c x E, EnE l q P G x E ∧ e = .returned (.tuple #[.slice A n c, .int .i64 E]) ∧ n ≤ l.length ∧ Reads w' w'.heap.size 4 A n (flatE x) ∧ Below w.heap.size w w'
theorem RetEn.bad {w w' : World} {l : List En} {q P G : Int} {E : Int} (hE : errN l q P G = E) (h0 : E ≠ 0) (hB : Below w.heap.size w w') : RetEn w l q P G (.returned (.tuple #[.slice none 0 0, .int .i64 E])) w' :=
  ⟨none, 0, 0, [], E, ⟨hE.symm, .inl ⟨h0, rfl⟩⟩, rfl, by omega, Reads.none_, hB⟩
theorem xsL_get {R : List Er} {P : Nat} {f : Nat → List En} (h : xsL R = (List.range P).map f) {q : Nat} {r : Er} (hr : R[q]? = some r) (hq : q < P) : r.xs = f q := by
  have h1 : (xsL R)[q]? = some r.xs := by unfold xsL; rw [List.getElem?_map, hr]; rfl
  rw [h, List.getElem?_map, List.getElem?_range hq] at h1
  injection h1 with h1
  exact h1.symm
set_option maxRecDepth 100000 in
set_option maxHeartbeats 4000000 in
theorem Entries_any (A : Option Addr) (n c : Nat) (l : List En) (q P G : Int) (w : World) (hl : Reads w w.heap.size 4 A n (flatE l)) (hn : n ≤ 40000) (hs : AllSz l) :
    Calls Try.prog 36 #[.slice A n c, .int .i64 q, .int .i64 P, .int .i64 G] w (RetEn w l q P G) := by
  have hV := hide (valid_any A n c l w hl hn hs)
  have hY := fun W (hB : Below w.heap.size w W) => beyond_any A n c l G W (hl.up hB) (by omega)
  have hD := hide (fun W (hB : Below w.heap.size w W) => Dealt_any A n c l P G W (hl.up hB) hn hs)
  cases ha : allE l
  · have HE := hide (show errN l q P G = 1 from by simp [errN, ha])
    rw [ha] at hV
    clear ha hY hD
    go_enter Try.func36, Try.ntmps36
    go_wp2_with fail
    refine hV.out.mono ?_
    rintro e W1 ⟨rfl, hB1⟩
    have HB := hide hB1
    clear hB1 hV
    go_wp2
    go_ret2
    exact RetEn.bad HE.out (by omega) HB.out
  · rw [ha] at hV
    have HYY := hide hY
    have HA := hide ha
    clear hY ha
    cases hr : rightB P G
    · have HE := hide (show errN l q P G = 7 from by simp [errN, HA.out, hr])
      go_enter Try.func36, Try.ntmps36
      go_wp2_with fail
      refine hV.out.mono ?_
      rintro e W1 ⟨rfl, hB1⟩
      have HB := hide hB1
      clear hB1 hV
      go_wp2_with (go_at_call 41; refine (right_any _ _ _).mono ?_; rintro e w' ⟨rfl, rfl⟩)
      go_ret2
      exact RetEn.bad HE.out (by omega) HB.out
    · by_cases hq0 : q < 0
      · have z0 : decide (q < 0) = true := by simpa using hq0
        have HE := hide (show errN l q P G = 7 from by simp [errN, HA.out, hr]; omega)
        go_enter Try.func36, Try.ntmps36
        go_wp2_with fail
        refine hV.out.mono ?_
        rintro e W1 ⟨rfl, hB1⟩
        have HB := hide hB1
        clear hB1 hV
        go_wp2_with (go_at_call 41; refine (right_any _ _ _).mono ?_; rintro e w' ⟨rfl, rfl⟩)
        go_ret2
        exact RetEn.bad HE.out (by omega) HB.out
      · have z0 : decide (q < 0) = false := by simpa using hq0
        by_cases hq1 : P ≤ q
        · have z1 : decide (P ≤ q) = true := by simpa using hq1
          have HE := hide (show errN l q P G = 7 from by simp [errN, HA.out, hr]; omega)
          go_enter Try.func36, Try.ntmps36
          go_wp2_with fail
          refine hV.out.mono ?_
          rintro e W1 ⟨rfl, hB1⟩
          have HB := hide hB1
          clear hB1 hV
          go_wp2_with (go_at_call 41; refine (right_any _ _ _).mono ?_; rintro e w' ⟨rfl, rfl⟩)
          go_ret2
          exact RetEn.bad HE.out (by omega) HB.out
        · have z1 : decide (P ≤ q) = false := by simpa using hq1
          cases hg : inG G l
          · have HE := hide (show errN l q P G = 7 from by simp [errN, HA.out, hr, hg])
            go_enter Try.func36, Try.ntmps36
            go_wp2_with fail
            refine hV.out.mono ?_
            rintro e W1 ⟨rfl, hB1⟩
            have HY2 := hide (HYY.out _ hB1)
            rw [hg] at HY2
            clear hV
            go_wp2_with (go_at_call 41; refine (right_any _ _ _).mono ?_; rintro e w' ⟨rfl, rfl⟩)
            refine HY2.out.mono ?_
            rintro e W2 ⟨rfl, hB2⟩
            have HB := hide (bstep hB1 hB2)
            clear hB1 hB2 HY2
            go_wp2
            go_ret2
            exact RetEn.bad HE.out (by omega) HB.out
          · have HE := hide (show errN l q P G = 0 from by simp [errN, HA.out, hr, hg]; omega)
            have HE2 := hide (show errE l P G = 0 from by simp [errE, HA.out, hr, hg])
            go_enter Try.func36, Try.ntmps36
            go_wp2_with fail
            refine hV.out.mono ?_
            rintro e W1 ⟨rfl, hB1⟩
            have HY2 := hide (HYY.out _ hB1)
            rw [hg] at HY2
            clear hV hg
            go_wp2_with (go_at_call 41; refine (right_any _ _ _).mono ?_; rintro e w' ⟨rfl, rfl⟩)
            refine HY2.out.mono ?_
            rintro e W2 ⟨rfl, hB2⟩
            have hB3 := bstep hB1 hB2
            clear hB1 hB2 HY2
            go_wp2_with fail
            refine (hD.out _ hB3).mono ?_
            rintro e W3 ⟨A3, n3, c3, R, E, hE, rfl, hn3, hT, hR3, hB4⟩
            obtain ⟨hE1, hE4⟩ := hE
            rw [HE2.out] at hE1
            subst hE1
            obtain ⟨s, hpm, hst, hxs⟩ : ∃ s, s.Perm l ∧ SrtE s ∧ xsL R = (List.range P.toNat).map (dealE P.toNat G.toNat s) := by
              rcases hE4 with ⟨h1, _⟩ | ⟨_, h⟩
              · exact absurd rfl h1
              · exact h
            have hlR : R.length = P.toNat := by
              have := congrArg List.length hxs
              unfold xsL at this
              simpa using this
            have hn4 : n3 = P.toNat := by rw [← hlR]; exact hT.1.len1.symm
            have hqn : q.toNat < n3 := by omega
            obtain ⟨b, off, r, rfl, hb, hrk, hc⟩ := hT.1.at1 hqn
            have hc' : W3.cell? ⟨b, off + q.toNat, none⟩ = some (.slice r.a r.n r.c) := hc
            have hrm := List.mem_of_getElem? hrk
            have hrx := xsL_get hxs hrk (by omega)
            have HX := hide (show EnE l q P G r.xs 0 from ⟨HE.out.symm, .inr ⟨rfl, by rw [hrx]; exact dealE_perm hpm _, by rw [hrx]; exact dealE_srt hst _⟩⟩)
            have HRN := hide (hR3 r hrm)
            have HRD := hide (hT.2 r hrm)
            have HB := hide (bstep hB3 hB4)
            have q1 : (0 : Int) ≤ q := by omega
            have q2 : q < (n3 : Int) := by omega
            have q3 : ((q.toNat : Nat) : Int) = q := by omega
            clear hE4 hpm hst hxs hlR hrk hc hrx hR3 hT hB3 hB4 hrm
            go_wp2
            go_ret2
            exact ⟨r.a, r.n, r.c, r.xs, 0, HX.out, rfl, HRN.out, HRD.out, HB.out⟩
end Go.Proofs.Ythngjbhamgmcgaa
