/-
  The walks of Sessions on both sides, for every gap and times.
-/
import Derived.Test.YtehifbogadohgaaMgLawM
namespace Go.Proofs.Ytehifbogadohgaa
open Go.RowKit
attribute [local go_sem] Oper.semAt_some

/-- The windows of times. -/
def sesL (g : Int) (ts : List Int) : List Wd := ts.map fun t => (t, t + g)
def okTs (ts : List Int) : Bool := ts.all vtime
theorem okTs_next {ts : List Int} {k : Nat} {t : Int} (h : ts[k]? = some t) (ha : okTs (ts.take k) = true) (hv : vtime t = true) : okTs (ts.take (k + 1)) = true := by
  unfold okTs at *
  rw [take_snoc' h, List.all_append, ha]
  simpa using hv
theorem okTs_bad {ts : List Int} {k : Nat} {t : Int} (h : ts[k]? = some t) (hv : vtime t = false) : okTs ts = false := by
  unfold okTs
  rw [Bool.eq_false_iff]
  intro ha
  have := List.all_eq_true.1 ha t (List.mem_of_getElem? h)
  rw [hv] at this
  cases this
theorem sesL_next {g : Int} {ts : List Int} {k : Nat} {t : Int} (h : ts[k]? = some t) : sesL g (ts.take (k + 1)) = sesL g (ts.take k) ++ [(t, t + g)] := by
  unfold sesL
  rw [take_snoc' h, List.map_append]
  rfl
theorem sesL_len (g : Int) (ts : List Int) : (sesL g ts).length = ts.length := by simp [sesL]
theorem vtime_bd {t : Int} (h : vtime t = true) : -1000000000000 ≤ t ∧ t ≤ 1000000000000 := by unfold vtime at h; simpa using h
theorem sesL_allV {g : Int} {ts : List Int} (h : okTs ts = true) (h1 : 1 ≤ g) (h2 : g ≤ 1000000000) : AllV (sesL g ts) := fun x hx => by
  unfold sesL at hx
  obtain ⟨t, ht, rfl⟩ := List.mem_map.1 hx
  have := vtime_bd (List.all_eq_true.1 h t ht)
  unfold vwin
  rw [decide_eq_true_iff]
  simp only
  omega
/-- What Sessions tells. -/
def SeE (g : Int) (ts : List Int) (out : List Wd) (E : Int) : Prop := match decide (ts.length ≤ 400), inB g 1 1000000000 && okTs ts with
  | false, _ => E = 1 ∧ out = []
  | true, false => E = 7 ∧ out = []
  | true, true => E = 0 ∧ Mg (sesL g ts) out
theorem SeE.one {g : Int} {ts : List Int} {a b : List Wd} {E F : Int} (h : SeE g ts a E) (k : SeE g ts b F) : a = b ∧ E = F := by
  unfold SeE at *
  cases h1 : decide (ts.length ≤ 400) <;> rw [h1] at h k
  · exact ⟨h.2.trans k.2.symm, h.1.trans k.1.symm⟩
  · cases h2 : inB g 1 1000000000 && okTs ts <;> rw [h2] at h k
    · exact ⟨h.2.trans k.2.symm, h.1.trans k.1.symm⟩
    · exact ⟨h.2.one k.2, h.1.trans k.1.symm⟩
theorem SeE.long {g : Int} {ts : List Int} {E : Int} (h : ¬ ts.length ≤ 400) (hE : E = 1) : SeE g ts [] E := by unfold SeE; rw [decide_eq_false h]; exact ⟨hE, rfl⟩
theorem SeE.bad {g : Int} {ts : List Int} {E : Int} (h : ts.length ≤ 400) (h2 : (inB g 1 1000000000 && okTs ts) = false) (hE : E = 7) : SeE g ts [] E := by unfold SeE; rw [decide_eq_true h, h2]; exact ⟨hE, rfl⟩
theorem SeE.ok {g : Int} {ts : List Int} {out : List Wd} {E : Int} (h : ts.length ≤ 400) (h2 : (inB g 1 1000000000 && okTs ts) = true) (hm : Mg (sesL g ts) out) (hE : E = 0) : SeE g ts out E := by unfold SeE; rw [decide_eq_true h, h2]; exact ⟨hE, hm⟩
/-- Windows and an error, handed back. -/
def RetSe (w : World) (g : Int) (ts : List Int) (e : Ending) (w' : World) : Prop := ∃ out A n c E, SeE g ts out E ∧ e = .returned (.tuple #[.slice A n c, .int .i64 E]) ∧ n ≤ ts.length ∧ Reads w' w'.heap.size 2 A n (flatW out) ∧ Below w.heap.size w w'
theorem ses1_any (t : Int) (w : World) : Calls Try.prog 58 #[.int .i64 t] w fun e w' => e = .returned (.bool (!vtime t)) ∧ w = w' := by
  go_enter Try.func58, Try.ntmps58
  go_wp2_with fail
  refine (Valid_any t w).mono ?_
  rintro e w' ⟨rfl, rfl⟩
  go_wp2
  go_ret
  exact ⟨rfl, rfl⟩
set_option maxRecDepth 100000 in
set_option maxHeartbeats 2000000 in
theorem idx_ts (A : Option Addr) (n c B : Nat) (ts : List Int) (w : World) (hl : Reads w B 1 A n (ts.map (.int .i64))) (hn : n ≤ 9223372036854775807) :
    Calls Try.prog 67 #[.slice A n c, .func (Fn.func 58) #[] #[]] w fun e w' => (∃ i : Int, e = .returned (.int .i64 i) ∧ decide (0 ≤ i) = !okTs ts) ∧ w' = w := by
  have HL := hide hl.len1
  go_enter Try.func67, Try.ntmps67
  go_wp2_with fail
  go_loopw [8] (fun i wr => ∃ k : Nat, k ≤ n ∧ i = .int .i64 k ∧ okTs (ts.take k) = true ∧ wr = w) (fun i _ => n - (intOf i).toNat)
  case atStart => exact ⟨0, Nat.zero_le _, rfl, rfl, rfl⟩
  case round =>
    obtain ⟨k, hk, rfl, hany, hw⟩ := hrel
    subst hw
    have HA := hide hany
    clear hany
    by_cases hlt : k < n
    · obtain ⟨b, off, x, rfl, hb, hxk, hc⟩ := hl.at1 hlt
      have HE := hide hxk
      clear hxk
      have q1 : (0 : Int) ≤ (k : Int) := by omega
      have q2 : (k : Int) < (n : Int) := by omega
      go_wp2_with fail
      refine (ses1_any x wr).mono ?_
      rintro ee w1 ⟨rfl, rfl⟩
      cases hq : vtime x
      · have HX := hide (okTs_bad HE.out hq)
        clear hq
        go_wp2
        go_ret
        exact ⟨⟨_, rfl, by rw [HX.out]; simp⟩, rfl⟩
      · have HX := hide (okTs_next HE.out HA.out hq)
        clear hq
        go_wp2
        go_roundw
        case rel => exact ⟨k + 1, by omega, by go_num, HX.out, trivial⟩
        case measure => simp [intOf]; omega
    · obtain rfl : k = n := by omega
      go_wp2
      go_ret
      exact ⟨⟨_, rfl, by
        have := HA.out
        rw [take_all HL.out] at this
        rw [this]; rfl⟩, rfl⟩
theorem con_ts (A : Option Addr) (n c B : Nat) (ts : List Int) (w : World) (hl : Reads w B 1 A n (ts.map (.int .i64))) (hn : n ≤ 9223372036854775807) :
    Calls Try.prog 57 #[.slice A n c, .func (Fn.func 58) #[] #[]] w fun e w' => e = .returned (.bool (!okTs ts)) ∧ w' = w := by
  go_enter Try.func57, Try.ntmps57
  go_wp2_with (go_at_call 67; refine (idx_ts A n c B ts w hl hn).mono ?_; rintro e w' ⟨⟨i, rfl, hi⟩, rfl⟩)
  go_ret
  exact ⟨rfl, rfl⟩
set_option maxRecDepth 100000 in
set_option maxHeartbeats 4000000 in
theorem Sessions_any (g : Int) (A : Option Addr) (n c : Nat) (ts : List Int) (w : World) (hl : Reads w w.heap.size 1 A n (ts.map (.int .i64))) (hn : n ≤ 9223372036854775807) :
    Calls Try.prog 35 #[.int .i64 g, .slice A n c] w (RetSe w g ts) := by
  obtain ⟨i0, hi0, hz0, hz1, hz2⟩ := info_parts Try.infoWin
  have HL := hide hl.len1
  by_cases h4 : n ≤ 400
  · have z : decide ((400 : Int) < (n : Int)) = false := by simp; omega
    have h4' : ts.length ≤ 400 := by rw [HL.out]; exact h4
    cases hg : inB g 1 1000000000
    · have HX := hide (SeE.bad (E := 7) h4' (show (inB g 1 1000000000 && okTs ts) = false by rw [hg]; rfl) rfl)
      go_enter Try.func35, Try.ntmps35
      go_wp2_with fail
      refine (within_any g _ _ w).mono ?_
      rintro e w' ⟨rfl, rfl⟩
      rw [hg]
      go_wp2
      go_ret2
      exact ⟨[], none, 0, 0, 7, HX.out, rfl, Nat.zero_le _, Reads.none_, Below.refl _ _⟩
    · go_enter Try.func35, Try.ntmps35
      go_wp2_with fail
      refine (within_any g _ _ w).mono ?_
      rintro e w' ⟨rfl, rfl⟩
      rw [hg]
      have hgb := (inB_iff _ _ _).1 hg
      go_wp2_with fail
      refine (con_ts A n c _ ts w hl hn).mono ?_
      rintro e w' ⟨rfl, rfl⟩
      cases ho : okTs ts
      · have HX := hide (SeE.bad (E := 7) h4' (show (inB g 1 1000000000 && okTs ts) = false by rw [ho]; simp) rfl)
        clear ho hg
        go_wp2
        go_ret2
        exact ⟨[], none, 0, 0, 7, HX.out, rfl, Nat.zero_le _, Reads.none_, Below.refl _ _⟩
      · have HX := hide (fun out hm => SeE.ok (out := out) (E := 0) h4' (show (inB g 1 1000000000 && okTs ts) = true by rw [ho, hg]; rfl) hm rfl)
        have HV := hide (sesL_allV ho hgb.1 hgb.2)
        have HO := hide ho
        obtain ⟨hg1, hg2⟩ := hgb
        clear ho hg
        go_wp2_with fail
        go_loopw [6, 23] (fun v i wr => ∃ k : Nat, k ≤ n ∧ i = .int .i64 k ∧ wr.ownsRow w'.heap.size 35 2 v k (flatW (sesL g (ts.take k))) ∧ Below w'.heap.size w' wr) (fun _ i _ => n - (intOf i).toNat)
        case atStart => exact ⟨0, Nat.zero_le _, rfl, World.ownsRow_nil _ _ _ _, Below.refl _ _⟩
        case round =>
          obtain ⟨k, hk, rfl, hown, hB⟩ := hrel
          have hWs := hB.size
          by_cases hlt : k < n
          · obtain ⟨b, off, x, rfl, hb, hxk, hc⟩ := (hl.below hB).at1 hlt
            have hx := vtime_bd (List.all_eq_true.1 HO.out x (List.mem_of_getElem? hxk))
            obtain ⟨hx1, hx2⟩ := hx
            have HN := hide (sesL_next (g := g) hxk)
            clear hxk
            have q1 : (0 : Int) ≤ (k : Int) := by omega
            have q2 : (k : Int) < (n : Int) := by omega
            go_wp2_with (at_builtin; refine wpList_append_own _ rfl _ _ 22 rfl w'.heap.size 35 i0 _ 2 16 Try.underlying22 hi0 hz0 hz1 hz2 rfl (by decide) _ _ _ rfl (hown.alloc _) ⟨wr.heap.size, 0, none⟩ 1 1 [.int .i64 x, .int .i64 (x + g)] rfl rfl (cells_new _ _ _) (by simp [Value.oneCell']) (by unfold maxLen; omega) (by omega) (by simp; omega) ?_; intro v3 w3 hown3 hgrow _; have hB3 : Below w'.heap.size w' w3 := below_append (hB.alloc hWs _) (hown.alloc _) (by simp; omega) hgrow; clear hgrow)
            clear hown hB hc
            go_wp2
            go_roundw
            case rel => exact ⟨k + 1, by omega, by go_num, by rw [HN.out, flatW_snoc]; exact hown3, hB3⟩
            case measure => simp [intOf]; omega
          · obtain rfl : n = k := by omega
            rw [take_all HL.out] at hown
            obtain ⟨A5, c5, rfl, hR5⟩ := own_form hown
            go_wp2_with fail
            refine (merged_any A5 n c5 (sesL g ts) wr hR5 (by omega) (fun x hx => vwin_pos (HV.out x hx))).mono ?_
            rintro e W2 ⟨out, A2, n2, c2, hmg, rfl, hn2, hc2, hR, hB2⟩
            have HM := hide (HX.out out hmg)
            have HB := hide (bstep hB hB2)
            rw [sesL_len] at hn2
            clear hmg hB hB2 hown hR5
            go_wp2
            go_ret2
            exact ⟨out, A2, n2, c2, 0, HM.out, rfl, hn2, hR, HB.out⟩
  · have z : decide ((400 : Int) < (n : Int)) = true := by simp; omega
    have HX := hide (SeE.long (g := g) (ts := ts) (E := 1) (by rw [HL.out]; exact h4) rfl)
    go_enter Try.func35, Try.ntmps35
    go_wp2
    go_ret2
    exact ⟨[], none, 0, 0, 1, HX.out, rfl, Nat.zero_le _, Reads.none_, Below.refl _ _⟩
end Go.Proofs.Ytehifbogadohgaa
