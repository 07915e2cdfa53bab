/-
  The walk of tidewrightref12.Union.
-/
import Derived.Test.YthngjbhamgmcgaaDealQ
import Derived.Test.YthngjbhamgmcgaaApp
namespace Go.Proofs.Ythngjbhamgmcgaa
open Go.RowKit Go.Shelf Go.Deep
attribute [local go_sem] Oper.semAt_some

/-- Row p of the grid is set anew. -/
theorem GridS.put {wr w1 : World} {base b N : Nat} {V : Nat → Value} {X : Nat → List ByteArray} {p : Nat} {ys : List ByteArray} {m : Nat} {v' : Value} (hG : GridS wr base b N V X) (hp : p < N) (hm : ys.length = m)
    (hown : w1.ownsRow base 9 1 v' ((X p).length + m) ((X p).map Value.string ++ ys.map Value.string)) (hg : wr.grownBy w1 (V p).ownBlock)
    (hat : v'.ownBlock = (V p).ownBlock ∨ v'.ownBlock = some wr.heap.size) {X' : Nat → List ByteArray} (hX : ∀ q, q < N → X' q = if q = p then X p ++ ys else X q) :
    GridS (w1.setCell ⟨b, p, none⟩ v') base b N (fun j => if j = p then v' else V j) X' := by
  refine (Grid.step hG hp hown hg hat).congr (fun q hq => ?_) (fun q hq => ?_)
  · rw [hX q hq]
    by_cases e : q = p
    · subst e; rw [if_pos rfl, if_pos rfl, List.length_append, hm]
    · rw [if_neg e, if_neg e]
  · rw [hX q hq]
    by_cases e : q = p
    · subst e; rw [if_pos rfl, if_pos rfl, List.map_append]
    · rw [if_neg e, if_neg e]

/-- What part q has when part p is being filled. -/
def unS (all pre : List ByteArray) (p q : Nat) : List ByteArray := if q < p then all else if q = p then pre else []
theorem unS_at (all pre : List ByteArray) (p : Nat) : unS all pre p p = pre := by simp [unS]
theorem unS_step (all pre ys : List ByteArray) (p q : Nat) : unS all (pre ++ ys) p q = if q = p then unS all pre p p ++ ys else unS all pre p q := by
  by_cases e : q = p
  · subst e; simp [unS]
  · simp [unS, e]
theorem unS_next (all : List ByteArray) (p q : Nat) : unS all [] (p + 1) q = unS all all p q := by
  unfold unS
  by_cases h1 : q < p
  · rw [if_pos h1, if_pos (by omega)]
  · rw [if_neg h1]
    by_cases h2 : q = p
    · subst h2; rw [if_pos rfl, if_pos (by omega)]
    · rw [if_neg h2, if_neg (by omega)]; simp

set_option maxRecDepth 100000 in
set_option maxHeartbeats 4000000 in
theorem RUnion_yes (A : Option Addr) (n c : Nat) (R : List RowT) (P : Nat) (w : World) (hx : Tab w w.heap.size A n R) (hn1 : 1 ≤ n) (hn : n ≤ 16) (hss : Short R) (hP1 : 1 ≤ P) (hP : P ≤ 16) (ht : allN R ≤ 400) :
    Calls Try.prog 26 #[.slice A n c, .int .i64 (P : Int)] w fun e w' => ∃ b V, e = .returned (.tuple #[.slice (some ⟨b, 0, none⟩) P P, .int .i64 0]) ∧
      GridS w' w.heap.size b P V (fun _ => flat R) ∧ Below w.heap.size w w' := by
  have hE : listsE n P (allN R) = 0 := by unfold listsE; rw [if_pos (by simp; omega), if_pos (by simp; omega), if_neg (by simp; omega)]
  have CL := hide (fun W h => (hE ▸ Rlists_short A n c w.heap.size R P W h (by omega) hss : Calls Try.prog 51 #[.slice A n c, .int .i64 (P : Int)] W fun e w' => e = .returned (.int .i64 0) ∧ W = w'))
  clear hE
  have hlen := hx.len
  have HF := hide (fun k => flat_len R w _ n A hx k)
  have HT := hide (fun k => Nat.le_trans (allN_take R k) ht)
  have HL := hide hlen
  clear hss ht hlen
  have hmk := fun W => run_make_row' (P := Try.prog) 41 43 (.slice none 0 0) 24 Try.underlying41 Try.infoStrs rfl .i64 .i64 P (by omega) (by omega) W
  obtain ⟨i0, hi, hz0, hz1, hz2⟩ := info_parts Try.infoStr
  obtain ⟨all, hall⟩ : ∃ all, flat R = all := ⟨_, rfl⟩
  have HAl := hide hall
  rw [hall]
  clear hall
  go_enter Try.func26, Try.ntmps26
  go_wp2_with fail
  refine (CL.out _ hx).mono ?_
  rintro e w' ⟨rfl, rfl⟩
  have hG0 : GridS _ w.heap.size w.heap.size P _ (unS all [] 0) := (GridS.made w P (Nat.le_refl w.heap.size)).congr (fun q _ => by simp [unS]) (fun q _ => by simp [unS])
  have hB0 : Below w.heap.size w (w.alloc (.cells (madeCells #[.slice none 0 0] P) 43)) := (Below.refl _ _).alloc (Nat.le_refl _) _
  go_wp2_with fail
  go_loopw [8, 9] (fun i _ wr => ∃ (p : Nat) (V : Nat → Value), p ≤ P ∧ i = .int .i64 p ∧ GridS wr w.heap.size w.heap.size P V (unS all [] p) ∧ Below w.heap.size w wr) (fun i _ _ => P - (intOf i).toNat)
  case atStart => exact ⟨0, _, Nat.zero_le _, rfl, hG0, hB0⟩
  case round =>
    obtain ⟨p, V, hp, rfl, hG, hB⟩ := hrel
    by_cases hlt : p < P
    · go_wp2
      go_loopw [9] (fun i wr => ∃ (k : Nat) (V : Nat → Value), k ≤ n ∧ i = .int .i64 k ∧ GridS wr w.heap.size w.heap.size P V (unS all (flat (R.take k)) p) ∧ Below w.heap.size w wr) (fun i _ => n - (intOf i).toNat)
      case atStart => exact ⟨0, V, Nat.zero_le _, rfl, hG, hB⟩
      case round =>
        clear hG hB V
        obtain ⟨k, V, hk, rfl, hG, hB⟩ := hrel
        by_cases hlt2 : k < n
        · obtain ⟨bl, ol, r, rfl, hbl, hrk, hcr, hr⟩ := (hx.below hB).row hlt2
          have HSn := hide (show flat (R.take (k + 1)) = flat (R.take k) ++ r.xs by rw [take_snoc' hrk, flat_snoc])
          have hlm : (flat (R.take k)).length + r.n ≤ 400 := by
            have h3 := HT.out (k + 1)
            rw [← HF.out, HSn.out, List.length_append, hr.len1] at h3; exact h3
          obtain ⟨F, hF⟩ : ∃ F, flat (R.take k) = F := ⟨_, rfl⟩
          rw [hF] at hG hlm HSn
          clear hF hrk
          have hrl := hr.len1
          have hone : ∀ u ∈ r.xs.map Value.string, u.oneCell' = true := by simp [Value.oneCell']
          have hc0 := hG.cell hlt
          have hrow := hG.row p hlt
          have hfz := hG.frozen p
          have ag := hG.away p hlt
          have hXp := hide (unS_at all F p)
          rw [hXp.out] at hrow
          obtain ⟨v, hv⟩ : ∃ v, V p = v := ⟨_, rfl⟩
          rw [hv] at hc0 hrow ag
          have hsz := hB.size
          have hgl := hG.lt
          have q0 : (0 : Int) ≤ (p : Int) := by omega
          have q1 : (p : Int) < (P : Int) := by omega
          have q2 : (0 : Int) ≤ (k : Int) := by omega
          have q3 : (k : Int) < (n : Int) := by omega
          go_wp2_with fail
          go_region_law ((refine step_append_any _ (by rfl) _ _ _ (by rfl) w.heap.size 9 i0 _ 1 16 Try.underlying43 hi hz0 hz1 hz2 rfl (by omega) v F.length _ (by rfl) hrow w.heap.size r.a r.n r.c (r.xs.map Value.string) (by rfl) hr hone (by unfold maxLen; omega) (by omega) hsz ?_; intro v' w1 hown1 hgrow hat; have hf1 := (hgrow.frozen_far ⟨w.heap.size, p, none⟩ (by simp; omega) (Ne.symm ag)).trans hfz; have hc1 := (hgrow.cell_far ⟨w.heap.size, p, none⟩ (by simp; omega) (Ne.symm ag)).trans hc0; obtain ⟨A', c', rfl, _⟩ := own_form hown1))
          all_goals
            have hat' : (Value.slice A' (F.length + r.n) c').ownBlock = (V p).ownBlock ∨ (Value.slice A' (F.length + r.n) c').ownBlock = some wr.drew.heap.size := by
              rw [hv]; exact hat
            rw [← hv] at hgrow
            have hGq : GridS wr.drew w.heap.size w.heap.size P V (unS all F p) := Grid.drew hG
            have hG2 := GridS.put (X' := unS all (F ++ r.xs) p) hGq hlt hrl (by rw [hXp.out]; exact hown1) hgrow hat' (fun q _ => unS_step all F r.xs p q)
            have hB2 := Grid.step_below hGq (v' := .slice A' (F.length + r.n) c') hlt hgrow hB.drew (Nat.le_refl _)
            clear hown1 hgrow hf1 hc1 hat' hat
            go_wp2
            go_roundw
            case rel => exact ⟨k + 1, _, by omega, by go_num, by rw [HSn.out]; exact hG2, hB2⟩
            case measure => simp [intOf]; omega
        · obtain rfl : k = n := by omega
          rw [List.take_of_length_le (Nat.le_of_eq HL.out), HAl.out] at hG
          go_wp2
          go_roundw
          case rel => exact ⟨p + 1, V, by omega, by go_num, hG.congr (fun q _ => by rw [unS_next]) (fun q _ => by rw [unS_next]), hB⟩
          case measure => simp [intOf]; omega
    · obtain rfl : p = P := by omega
      go_wp2
      go_ret2
      exact ⟨_, V, rfl, hG.congr (fun q hq => by simp [unS, hq]) (fun q hq => by simp [unS, hq]), hB⟩
end Go.Proofs.Ythngjbhamgmcgaa
