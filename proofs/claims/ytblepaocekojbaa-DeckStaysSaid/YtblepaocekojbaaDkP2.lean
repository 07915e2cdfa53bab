/-
  The walks of deck.placement, tidewrightref26.placed, and of Lost on both sides.
-/
import Derived.Test.YtblepaocekojbaaDkP
namespace Go.Proofs.Ytblepaocekojbaa
open Go.RowKit Go.Shelf
attribute [local go_sem] Oper.semAt_some

def RetI (p : Bool) (w : World) (e : Ending) (w' : World) : Prop := (∃ i : Int, e = .returned (.int .i64 i) ∧ decide (0 ≤ i) = p) ∧ Below w.heap.size w w'
set_option maxHeartbeats 1000000 in
theorem idxP_any (A : Option Addr) (n c B : Nat) (l : List Pl) (lim : Int) (bx : Nat) (w : World) (hl : Reads w B 2 A n (l.flatMap encPl)) (hB : B ≤ w.heap.size) (hn : n ≤ 4611686018427387904) (hc : w.cell? ⟨bx, 0, none⟩ = some (.int .i64 lim)) :
    Calls Try.prog 92 #[.slice A n c, .func (Fn.func 85) #[] #[.pointer (some ⟨bx, 0, none⟩)]] w (RetI (l.any (badP lim)) w) := by
  have HL := hide (hl.len encPl_len (by omega))
  have hbx := World.block_lt_of_cell? w _ hc
  simp only at hbx
  go_enter Try.func92, Try.ntmps92
  go_wp2_with fail
  go_loopw [5, 8] (fun _ i wr => ∃ k : Nat, k ≤ n ∧ i = .int .i64 k ∧ (l.take k).any (badP lim) = false ∧ Below w.heap.size w wr) (fun _ i _ => n - (intOf i).toNat)
  case atStart => exact ⟨0, Nat.zero_le _, rfl, rfl, Below.refl _ _⟩
  case round =>
    obtain ⟨k, hk, rfl, hany, hBr⟩ := hrel
    have HA := hide hany
    clear hany
    by_cases hlt : k < n
    · obtain ⟨b, off, e, ha, hb, hek, hce⟩ := (hl.below (hBr.mono hB)).elem encPl_len HL.out hlt
      have e0 : wr.cell? ⟨b, off + k * 2, none⟩ = some (.int .i64 e.m) := by simpa using hce 0 _ rfl
      have e1 : wr.cell? ⟨b, off + k * 2 + 1, none⟩ = some (.int .i64 e.s) := by simpa [← Nat.add_assoc] using hce 1 _ rfl
      have HEK := hide hek
      have hcw := (hBr.cell (p := ⟨bx, 0, none⟩) hbx).trans hc
      clear hce hek
      rw [ha]
      clear ha
      go_wp2_with fail
      refine (placement1_any e lim bx wr hcw).mono ?_
      rintro ee w' ⟨rfl, hB2⟩
      have hBn := bstep hBr hB2
      cases hbad : badP lim e
      · have HN := hide (any_take' (badP lim) l k e HEK.out hbad HA.out)
        clear hcw e0 e1 hB2 hBr
        go_wp2
        go_roundw
        case rel => exact ⟨k + 1, by omega, by go_num, HN.out, hBn⟩
        case measure => simp [intOf]; omega
      · have HN := hide (any_hit (badP lim) l k e HEK.out hbad)
        clear hcw e0 e1 hB2 hBr
        go_wp2
        go_ret
        exact ⟨⟨k, rfl, by rw [HN.out]; simp⟩, hBn⟩
    · obtain rfl : k = n := by omega
      have h2 := HA.out
      rw [take_all HL.out] at h2
      have H2 := hide h2
      clear h2 HA
      go_wp2
      go_ret
      exact ⟨⟨-1, rfl, by rw [H2.out]; rfl⟩, hBr⟩

theorem conP_any (A : Option Addr) (n c B : Nat) (l : List Pl) (lim : Int) (bx : Nat) (w : World) (hl : Reads w B 2 A n (l.flatMap encPl)) (hB : B ≤ w.heap.size) (hn : n ≤ 4611686018427387904) (hc : w.cell? ⟨bx, 0, none⟩ = some (.int .i64 lim)) :
    Calls Try.prog 73 #[.slice A n c, .func (Fn.func 85) #[] #[.pointer (some ⟨bx, 0, none⟩)]] w (RetV w (.bool (l.any (badP lim)))) := by
  go_enter Try.func73, Try.ntmps73
  go_wp2_with fail
  refine (idxP_any A n c B l lim bx w hl hB hn hc).mono ?_
  rintro e w' ⟨⟨i, rfl, hi⟩, hb⟩
  have HI := hide hi
  clear hi
  go_wp2
  go_ret
  exact ⟨ret_bool HI.out, hb⟩

/-- Is it a placement on machines below lim? -/
def plcB (lim : Int) (n : Nat) (l : List Pl) : Bool := decide (n ≤ 200) && !l.any (badP lim)
set_option maxHeartbeats 1000000 in
theorem placement_any (A : Option Addr) (n c : Nat) (l : List Pl) (lim : Int) (w : World) (hl : Reads w w.heap.size 2 A n (l.flatMap encPl)) (hn : n ≤ 4611686018427387904) :
    Calls Try.prog 54 #[.slice A n c, .int .i64 lim] w (RetV w (.bool (plcB lim n l))) := by
  have hB : Below w.heap.size w (w.alloc (.cells #[.int .i64 lim] 3)) := (Below.refl _ _).alloc (Nat.le_refl _) _
  have hc : (w.alloc (.cells #[.int .i64 lim] 3)).cell? ⟨w.heap.size, 0, none⟩ = some (.int .i64 lim) := by simp
  by_cases h : n ≤ 200
  · go_enter Try.func54, Try.ntmps54
    go_wp2_with fail
    refine (conP_any A n c _ l lim w.heap.size _ (hl.up hB) (Nat.le_refl _) hn hc).mono ?_
    rintro e w' ⟨rfl, hB2⟩
    have HE := hide (bstep hB hB2)
    have HR := hide (show (!l.any (badP lim)) = plcB lim n l by simp [plcB, h])
    clear hB hB2 hc
    go_wp2
    go_ret
    exact ⟨ret_bool (by rw [← HR.out]), HE.out⟩
  · have HR := hide (show plcB lim n l = false by simp [plcB]; omega)
    go_enter Try.func54, Try.ntmps54
    go_wp2
    go_ret
    exact ⟨ret_bool HR.out.symm, hB⟩

set_option maxRecDepth 100000 in
set_option maxHeartbeats 1000000 in
theorem Rplaced_any (A : Option Addr) (n c B : Nat) (l : List Pl) (w : World) (hl : Reads w B 2 A n (l.flatMap encPl)) (hn : n ≤ 4611686018427387904) :
    Calls Try.prog 55 #[.slice A n c] w fun e w' => e = .returned (.bool (plcB 20 n l)) ∧ w = w' := by
  have HL := hide (hl.len encPl_len (by omega))
  go_enter Try.func55, Try.ntmps55
  go_wp2_with fail
  go_loop [3] (fun i => ∃ k : Nat, k ≤ n ∧ i = .int .i64 k ∧ (l.take k).any (badP 20) = false) (fun i => n - (intOf i).toNat)
  case atStart => exact ⟨0, Nat.zero_le _, rfl, rfl⟩
  case round =>
    obtain ⟨k, hk, rfl, hany⟩ := hrel
    have HA := hide hany
    clear hany
    by_cases hlt : k < n
    · obtain ⟨b, off, e, ha, hb, hek, hce⟩ := hl.elem encPl_len HL.out hlt
      have e0 : w.cell? ⟨b, off + k * 2, none⟩ = some (.int .i64 e.m) := by simpa using hce 0 _ rfl
      have e1 : w.cell? ⟨b, off + k * 2 + 1, none⟩ = some (.int .i64 e.s) := by simpa [← Nat.add_assoc] using hce 1 _ rfl
      have HEK := hide hek
      clear hce hek
      rw [ha]
      clear ha
      have HBAD := hide (fun (h : badP 20 e = true) => show plcB 20 n l = false by
        have := any_hit (badP 20) l k e HEK.out h
        simp [plcB, this])
      by_cases h1 : e.m < 0
      · have HR := hide (HBAD.out (by simp [badP, h1]))
        go_wp2
        go_ret
        exact ⟨ret_bool HR.out.symm, rfl⟩
      · by_cases h2 : 20 ≤ e.m
        · have HR := hide (HBAD.out (by simp [badP, h2]))
          go_wp2
          go_ret
          exact ⟨ret_bool HR.out.symm, rfl⟩
        · by_cases h3 : e.s < 0
          · have HR := hide (HBAD.out (by simp [badP, h3]))
            go_wp2
            go_ret
            exact ⟨ret_bool HR.out.symm, rfl⟩
          · by_cases h4 : 16 ≤ e.s
            · have HR := hide (HBAD.out (by simp [badP, h4]))
              go_wp2
              go_ret
              exact ⟨ret_bool HR.out.symm, rfl⟩
            · have HN := hide (any_take' (badP 20) l k e HEK.out (by simp [badP]; omega) HA.out)
              go_wp2
              go_round
              case rel => exact ⟨k + 1, by omega, by go_num, HN.out⟩
              case measure => simp [intOf]; omega
    · obtain rfl : k = n := by omega
      have h2 := HA.out
      rw [take_all HL.out] at h2
      have H2 := hide (show decide (k ≤ 200) = plcB 20 k l by simp [plcB, h2])
      clear h2 HA
      go_wp2
      go_ret
      exact ⟨ret_bool (by rw [← H2.out]; simp; omega), rfl⟩

/-- The tasks on machine x. -/
def onM (l : List Pl) (x : Int) (i : Nat) : Bool := match l[i]? with
  | some p => decide (p.m = x)
  | none => false
def lostE (n : Nat) (l : List Pl) (x : Int) : Int := if plcB 20 n l then (if 0 ≤ x ∧ x < 20 then 0 else 7) else 1
def lostL (n : Nat) (l : List Pl) (x : Int) : List Int := if lostE n l x = 0 then tkn (onM l x) n else []
theorem lostL_no {n : Nat} {l : List Pl} {x E : Int} (h : lostE n l x = E) (hE : E ≠ 0) : lostL n l x = [] := by unfold lostL; rw [if_neg (by rw [h]; exact hE)]
theorem lostL_ok {n : Nat} {l : List Pl} {x : Int} (h : lostE n l x = 0) : lostL n l x = tkn (onM l x) n := by unfold lostL; rw [if_pos h]
theorem plc_le {n : Nat} {l : List Pl} {x : Int} (h : plcB x n l = true) : n ≤ 200 := by
  unfold plcB at h
  simp only [Bool.and_eq_true, decide_eq_true_eq] at h
  exact h.1

set_option maxRecDepth 100000 in
set_option maxHeartbeats 2000000 in
theorem Lost_any (A : Option Addr) (n c : Nat) (l : List Pl) (x : Int) (w : World) (hl : Reads w w.heap.size 2 A n (l.flatMap encPl)) (hn : n ≤ 4611686018427387904) :
    Calls Try.prog 20 #[.slice A n c, .int .i64 x] w (RetSlE w 1 (lostL n l x).length (intsL (lostL n l x)) (lostE n l x)) := by
  obtain ⟨i0, hi, hz0, hz1, hz2⟩ := info_parts infoInt_dk
  have HL := hide (hl.len encPl_len (by omega))
  go_enter Try.func20, Try.ntmps20
  go_wp2_with fail
  refine (placement_any A n c l 20 w hl hn).mono ?_
  rintro e W ⟨rfl, hB0⟩
  cases hp : plcB 20 n l
  · have hE : lostE n l x = 1 := by simp [lostE, hp]
    have HE := hide (show RetSlE w 1 (lostL n l x).length (intsL (lostL n l x)) (lostE n l x) (.returned (.tuple #[.slice none 0 0, .int .i64 1])) W from by rw [lostL_no hE (by omega), hE]; exact ⟨none, 0, rfl, Reads.none_, hB0⟩)
    clear hE hB0 hp
    go_wp2
    go_ret2
    exact HE.out
  · have hn2 := plc_le hp
    by_cases h1 : x < 0
    · have hE : lostE n l x = 7 := by simp only [lostE, hp, if_true]; rw [if_neg (by omega)]
      have HE := hide (show RetSlE w 1 (lostL n l x).length (intsL (lostL n l x)) (lostE n l x) (.returned (.tuple #[.slice none 0 0, .int .i64 7])) W from by rw [lostL_no hE (by omega), hE]; exact ⟨none, 0, rfl, Reads.none_, hB0⟩)
      clear hE hB0 hp
      go_wp2
      go_ret2
      exact HE.out
    · by_cases h2 : 20 ≤ x
      · have hE : lostE n l x = 7 := by simp only [lostE, hp, if_true]; rw [if_neg (by omega)]
        have HE := hide (show RetSlE w 1 (lostL n l x).length (intsL (lostL n l x)) (lostE n l x) (.returned (.tuple #[.slice none 0 0, .int .i64 7])) W from by rw [lostL_no hE (by omega), hE]; exact ⟨none, 0, rfl, Reads.none_, hB0⟩)
        clear hE hB0 hp
        go_wp2
        go_ret2
        exact HE.out
      · have hE : lostE n l x = 0 := by simp only [lostE, hp, if_true]; rw [if_pos (by omega)]
        have HEE := hide hE
        clear hE hp
        have hlW := hl.up hB0
        go_wp2_with fail
        go_loopw [6, 7, 8, 22] (fun v _ _ i wr => ∃ k : Nat, k ≤ n ∧ i = .int .i64 k ∧ wr.ownsRow W.heap.size 3 1 v (tkn (onM l x) k).length (intsL (tkn (onM l x) k)) ∧ Below W.heap.size W wr) (fun _ _ _ i _ => n - (intOf i).toNat)
        case atStart => exact ⟨0, Nat.zero_le _, rfl, World.ownsRow_nil _ _ _ _, Below.refl _ _⟩
        case round =>
          obtain ⟨k, hk, rfl, hown, hB⟩ := hrel
          by_cases hlt : k < n
          · obtain ⟨b, off, e, ha, hb, hek, hce⟩ := (hlW.below hB).elem encPl_len HL.out hlt
            have e0 : wr.cell? ⟨b, off + k * 2, none⟩ = some (.int .i64 e.m) := by simpa using hce 0 _ rfl
            have e1 : wr.cell? ⟨b, off + k * 2 + 1, none⟩ = some (.int .i64 e.s) := by simpa [← Nat.add_assoc] using hce 1 _ rfl
            have hTS := tkn_succ (onM l x) k
            have hom : onM l x k = decide (e.m = x) := by unfold onM; rw [hek]
            have hlen := tkn_len (onM l x) k
            have hbw : b < wr.heap.size := by have := hB.size; omega
            clear hce hek
            rw [ha]
            clear ha
            have hB2 := hB.alloc hB.size (.cells #[.int .i64 e.m, .int .i64 e.s] 85)
            have hown2 := hown.alloc (.cells #[.int .i64 e.m, .int .i64 e.s] 85)
            obtain ⟨q, hq⟩ : ∃ q, (tkn (onM l x) k).length = q := ⟨_, rfl⟩
            rw [hq] at hlen hown2
            have HQ := hide hq
            clear hq hown hB
            have hs2 : W.heap.size ≤ wr.heap.size + 1 := by have := hB2.size; rwa [World.size_alloc] at this
            by_cases hmx : e.m = x
            · have HT := hide (show tkn (onM l x) (k + 1) = tkn (onM l x) k ++ [(k : Int)] by rw [hTS, if_pos (by rw [hom]; simpa using hmx)])
              subst hmx
              clear hTS hom
              go_wp2_with (at_builtin; refine wpList_append_own _ rfl _ _ 22 rfl W.heap.size 3 i0 _ 1 8 Try.underlying22 hi hz0 hz1 hz2 rfl (by decide) _ _ _ rfl (hown2.alloc _) ⟨wr.heap.size + 1, 0, none⟩ 1 1 [.int .i64 (k : Int)] rfl rfl (by have := cells_new (wr.alloc (.cells #[.int .i64 e.m, .int .i64 e.s] 85)) #[.int .i64 (k : Int)] 3; rwa [World.size_alloc] at this) (by simp [Value.oneCell']) (by unfold maxLen; omega) (by omega) (by simp; omega) ?_; intro v' w1 hown' hgrow _)
              go_roundw
              case rel => exact ⟨k + 1, by omega, by go_num, by rw [HT.out, intsL_snoc, List.length_append, HQ.out]; exact hown', below_append (hB2.alloc hB2.size _) (hown2.alloc _) (by simp; omega) hgrow⟩
              case measure => simp [intOf]; omega
            · have HT := hide (show tkn (onM l x) (k + 1) = tkn (onM l x) k by rw [hTS, if_neg (by rw [hom]; simpa using hmx)])
              have n1 : (e.m == x) = false := by simpa using hmx
              clear hTS hom hmx
              go_wp2
              go_roundw
              case rel => exact ⟨k + 1, by omega, by go_num, by rw [HT.out, HQ.out]; exact hown2, hB2⟩
              case measure => simp [intOf]; omega
          · obtain rfl : k = n := by omega
            obtain ⟨A', c', rfl, hR⟩ := own_form hown
            have HE := hide (show RetSlE w 1 (lostL k l x).length (intsL (lostL k l x)) (lostE k l x) (.returned (.tuple #[.slice A' (tkn (onM l x) k).length c', .int .i64 0])) wr from by rw [lostL_ok HEE.out, HEE.out]; exact ⟨A', c', rfl, hR, bstep hB0 hB⟩)
            clear hown hB hB0 hlW hR
            go_wp2
            go_ret2
            exact HE.out

set_option maxRecDepth 100000 in
set_option maxHeartbeats 2000000 in
theorem RLost_any (A : Option Addr) (n c : Nat) (l : List Pl) (x : Int) (w : World) (hl : Reads w w.heap.size 2 A n (l.flatMap encPl)) (hn : n ≤ 4611686018427387904) :
    Calls Try.prog 21 #[.slice A n c, .int .i64 x] w (RetSlE w 1 (lostL n l x).length (intsL (lostL n l x)) (lostE n l x)) := by
  obtain ⟨i0, hi, hz0, hz1, hz2⟩ := info_parts infoInt_dk
  have HL := hide (hl.len encPl_len (by omega))
  go_enter Try.func21, Try.ntmps21
  go_wp2_with fail
  refine (Rplaced_any A n c _ l w hl hn).mono ?_
  rintro e W ⟨rfl, rfl⟩
  cases hp : plcB 20 n l
  · have hE : lostE n l x = 1 := by simp [lostE, hp]
    have HE := hide (show RetSlE w 1 (lostL n l x).length (intsL (lostL n l x)) (lostE n l x) (.returned (.tuple #[.slice none 0 0, .int .i64 1])) w from by rw [lostL_no hE (by omega), hE]; exact ⟨none, 0, rfl, Reads.none_, Below.refl _ _⟩)
    clear hE hp
    go_wp2
    go_ret2
    exact HE.out
  · have hn2 := plc_le hp
    by_cases h1 : x < 0
    · have hE : lostE n l x = 7 := by simp only [lostE, hp, if_true]; rw [if_neg (by omega)]
      have HE := hide (show RetSlE w 1 (lostL n l x).length (intsL (lostL n l x)) (lostE n l x) (.returned (.tuple #[.slice none 0 0, .int .i64 7])) w from by rw [lostL_no hE (by omega), hE]; exact ⟨none, 0, rfl, Reads.none_, Below.refl _ _⟩)
      clear hE hp
      go_wp2
      go_ret2
      exact HE.out
    · by_cases h2 : 20 ≤ x
      · have hE : lostE n l x = 7 := by simp only [lostE, hp, if_true]; rw [if_neg (by omega)]
        have HE := hide (show RetSlE w 1 (lostL n l x).length (intsL (lostL n l x)) (lostE n l x) (.returned (.tuple #[.slice none 0 0, .int .i64 7])) w from by rw [lostL_no hE (by omega), hE]; exact ⟨none, 0, rfl, Reads.none_, Below.refl _ _⟩)
        clear hE hp
        go_wp2
        go_ret2
        exact HE.out
      · have hE : lostE n l x = 0 := by simp only [lostE, hp, if_true]; rw [if_pos (by omega)]
        have HEE := hide hE
        clear hE hp
        go_wp2_with fail
        go_loopw [6, 7] (fun v i wr => ∃ k : Nat, k ≤ n ∧ i = .int .i64 k ∧ wr.ownsRow w.heap.size 3 1 v (tkn (onM l x) k).length (intsL (tkn (onM l x) k)) ∧ Below w.heap.size w wr) (fun _ i _ => n - (intOf i).toNat)
        case atStart => exact ⟨0, Nat.zero_le _, rfl, World.ownsRow_nil _ _ _ _, Below.refl _ _⟩
        case round =>
          obtain ⟨k, hk, rfl, hown, hB⟩ := hrel
          by_cases hlt : k < n
          · obtain ⟨b, off, e, ha, hb, hek, hce⟩ := (hl.below hB).elem encPl_len HL.out hlt
            have e0 : wr.cell? ⟨b, off + k * 2, none⟩ = some (.int .i64 e.m) := by simpa using hce 0 _ rfl
            have hTS := tkn_succ (onM l x) k
            have hom : onM l x k = decide (e.m = x) := by unfold onM; rw [hek]
            have hlen := tkn_len (onM l x) k
            clear hce hek
            rw [ha]
            clear ha
            obtain ⟨q, hq⟩ : ∃ q, (tkn (onM l x) k).length = q := ⟨_, rfl⟩
            rw [hq] at hlen hown
            have HQ := hide hq
            clear hq
            have hs2 := hB.size
            by_cases hmx : e.m = x
            · have HT := hide (show tkn (onM l x) (k + 1) = tkn (onM l x) k ++ [(k : Int)] by rw [hTS, if_pos (by rw [hom]; simpa using hmx)])
              subst hmx
              clear hTS hom
              go_wp2_with (at_builtin; refine wpList_append_own _ rfl _ _ 22 rfl w.heap.size 3 i0 _ 1 8 Try.underlying22 hi hz0 hz1 hz2 rfl (by decide) _ _ _ rfl (hown.alloc _) ⟨wr.heap.size, 0, none⟩ 1 1 [.int .i64 (k : Int)] rfl rfl (cells_new _ _ _) (by simp [Value.oneCell']) (by unfold maxLen; omega) (by omega) (by simp; omega) ?_; intro v' w1 hown' hgrow _)
              go_roundw
              case rel => exact ⟨k + 1, by omega, by go_num, by rw [HT.out, intsL_snoc, List.length_append, HQ.out]; exact hown', below_append (hB.alloc hB.size _) (hown.alloc _) (by simp; omega) hgrow⟩
              case measure => simp [intOf]; omega
            · have HT := hide (show tkn (onM l x) (k + 1) = tkn (onM l x) k by rw [hTS, if_neg (by rw [hom]; simpa using hmx)])
              have n1 : (e.m == x) = false := by simpa using hmx
              clear hTS hom hmx
              go_wp2
              go_roundw
              case rel => exact ⟨k + 1, by omega, by go_num, by rw [HT.out, HQ.out]; exact hown, hB⟩
              case measure => simp [intOf]; omega
          · obtain rfl : k = n := by omega
            obtain ⟨A', c', rfl, hR⟩ := own_form hown
            have HE := hide (show RetSlE w 1 (lostL k l x).length (intsL (lostL k l x)) (lostE k l x) (.returned (.tuple #[.slice A' (tkn (onM l x) k).length c', .int .i64 0])) wr from by rw [lostL_ok HEE.out, HEE.out]; exact ⟨A', c', rfl, hR, hB⟩)
            clear hown hB hR
            go_wp2
            go_ret2
            exact HE.out
end Go.Proofs.Ytblepaocekojbaa
