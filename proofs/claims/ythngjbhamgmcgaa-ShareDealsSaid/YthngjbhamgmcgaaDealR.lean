/-
  The walk of tidewrightref12.Deal.
-/
import Derived.Test.YthngjbhamgmcgaaDealM
import Derived.Deep.RegionLaw
import Derived.Deep.AppendLies
namespace Go.Proofs.Ythngjbhamgmcgaa
open Go.RowKit Go.Shelf Go.Deep
attribute [local go_sem] Oper.semAt_some

theorem Try.infoStr : (Try.prog.info? 9).map (fun i => (i.zero, i.size, i.bytes)) = some (some (.string ByteArray.empty), 1, 16) := by kernel_rfl
theorem Try.infoStrs : (Try.prog.info? 43).map (fun i => (i.zero, i.size, i.bytes)) = some (some (.slice none 0 0), 1, 24) := by kernel_rfl

/-- The grid of N parts, part p with the texts 'X p'. -/
def GridS (w : World) (base b N : Nat) (V : Nat → Value) (X : Nat → List ByteArray) : Prop :=
  Grid w base b 43 9 1 N V (fun p => (X p).length) (fun p => (X p).map Value.string)

theorem GridS.made (w : World) (N : Nat) {base : Nat} (hb : base ≤ w.heap.size) : GridS (w.alloc (.cells (madeCells #[.slice none 0 0] N) 43)) base w.heap.size N (fun _ => .slice none 0 0) (fun _ => []) :=
  Grid.made w _ _ 1 N hb

/-- One more text is dealt. -/
theorem GridS.deal {wr w1 : World} {base b P : Nat} {V : Nat → Value} {M : List ByteArray} {p : Nat} {x : ByteArray} {v' : Value} (hG : GridS wr base b P V (dealS P M)) (hm : M.length % P = p) (hp : p < P)
    (hown : w1.ownsRow base 9 1 v' ((dealS P M p).length + 1) ((dealS P M p).map Value.string ++ [.string x])) (hg : wr.grownBy w1 (V p).ownBlock)
    (hat : v'.ownBlock = (V p).ownBlock ∨ v'.ownBlock = some wr.heap.size) :
    GridS (w1.setCell ⟨b, p, none⟩ v') base b P (fun j => if j = p then v' else V j) (dealS P (M ++ [x])) := by
  refine (Grid.step hG hp hown hg hat).congr (fun q _ => ?_) (fun q _ => ?_)
  · rw [dealS_snoc, hm]
    by_cases e : q = p
    · rw [if_pos e, if_pos e, List.length_append]; rfl
    · rw [if_neg e, if_neg e]
  · rw [dealS_snoc, hm]
    by_cases e : q = p
    · rw [if_pos e, if_pos e, List.map_append]; rfl
    · rw [if_neg e, if_neg e]

theorem dealS_le (P : Nat) (xs : List ByteArray) (p : Nat) : (dealS P xs p).length ≤ xs.length := by
  unfold dealS
  exact Nat.le_trans (List.length_filterMap_le _ _) (by simp)
theorem flat_len (R : List RowT) (w : World) (B n : Nat) (A : Option Addr) (h : Tab w B A n R) (k : Nat) : (flat (R.take k)).length = allN (R.take k) := by
  have h2 : ∀ r ∈ R.take k, r.xs.length = r.n := fun r hr => (h.2 r (List.mem_of_mem_take hr)).len1
  generalize R.take k = S at h2
  induction S with
  | nil => rfl
  | cons r S ih =>
    have h1 := h2 r (List.mem_cons_self ..)
    have h3 := ih fun s hs => h2 s (List.mem_cons_of_mem _ hs)
    unfold flat allN at h3 ⊢
    simp only [List.map_cons, List.flatten_cons, List.length_append, List.sum_cons, h1, h3]
theorem allN_take (R : List RowT) (k : Nat) : allN (R.take k) ≤ allN R := by
  unfold allN
  rw [List.map_take]
  have h := congrArg List.sum (List.take_append_drop k (R.map RowT.n))
  rw [List.sum_append] at h
  omega

set_option maxRecDepth 100000 in
set_option maxHeartbeats 4000000 in
theorem RDeal_yes (A : Option Addr) (n c : Nat) (R : List RowT) (P : Nat) (w : World) (hx : Tab w w.heap.size A n R) (hn1 : 1 ≤ n) (hn : n ≤ 16) (hss : Short R) (hP1 : 1 ≤ P) (hP : P ≤ 16) (ht : allN R ≤ 400) :
    Calls Try.prog 24 #[.slice A n c, .int .i64 (P : Int)] w fun e w' => ∃ b V, e = .returned (.tuple #[.slice (some ⟨b, 0, none⟩) P P, .int .i64 0]) ∧
      GridS w' w.heap.size b P V (dealS P (flat R)) ∧ Below w.heap.size w w' := by
  have hE : listsE n P (allN R) = 0 := by unfold listsE; rw [if_pos (by simp; omega), if_pos (by simp; omega), if_neg (by simp; omega)]
  have CL := hide (fun W h => (hE ▸ Rlists_short A n c w.heap.size R P W h (by omega) hss : Calls Try.prog 51 #[.slice A n c, .int .i64 (P : Int)] W fun e w' => e = .returned (.int .i64 0) ∧ W = w'))
  clear hE
  have hlen := hx.len
  have HF := hide (fun k => flat_len R w _ n A hx k)
  have HT := hide (fun k => Nat.le_trans (allN_take R k) ht)
  have HS := hide hss
  have HL := hide hlen
  clear hss ht hlen
  have hmk := fun W => run_make_row' (P := Try.prog) 41 43 (.slice none 0 0) 24 Try.underlying41 Try.infoStrs rfl .i64 .i64 P (by omega) (by omega) W
  obtain ⟨i0, hi, hz0, hz1, hz2⟩ := info_parts Try.infoStr
  go_enter Try.func24, Try.ntmps24
  go_wp2_with fail
  refine (CL.out _ hx).mono ?_
  rintro e w' ⟨rfl, rfl⟩
  have hG0 := GridS.made w P (Nat.le_refl w.heap.size)
  have hB0 : Below w.heap.size w (w.alloc (.cells (madeCells #[.slice none 0 0] P) 43)) := (Below.refl _ _).alloc (Nat.le_refl _) _
  go_wp2_with fail
  go_loopw [8, 9, 10] (fun m i _ wr => ∃ (k : Nat) (V : Nat → Value), k ≤ n ∧ i = .int .i64 k ∧ m = .int .i64 ((flat (R.take k)).length : Nat) ∧ GridS wr w.heap.size w.heap.size P V (dealS P (flat (R.take k))) ∧ Below w.heap.size w wr) (fun _ i _ _ => n - (intOf i).toNat)
  case atStart => exact ⟨0, _, Nat.zero_le _, rfl, rfl, hG0, hB0⟩
  case round =>
    obtain ⟨k, V, hk, rfl, rfl, hG, hB⟩ := hrel
    by_cases hlt : k < n
    · obtain ⟨bl, ol, r, rfl, hbl, hrk, hcr, hr⟩ := (hx.below hB).row hlt
      obtain ⟨h1, h2⟩ := HS.out r (List.mem_of_getElem? hrk)
      clear h2
      have HSn := hide (show flat (R.take (k + 1)) = flat (R.take k) ++ r.xs by rw [take_snoc' hrk, flat_snoc])
      have HF' := hide (show (flat (R.take k)).length + r.n ≤ 400 by
        have h3 := HT.out (k + 1)
        rw [← HF.out, HSn.out, List.length_append, hr.len1] at h3; exact h3)
      obtain ⟨F, hF⟩ : ∃ F, flat (R.take k) = F := ⟨_, rfl⟩
      rw [hF] at hG ⊢
      rw [hF] at HF' HSn
      clear hF
      have HX := hide hr.len1
      have hcr0 : w.cell? ⟨bl, ol + k, none⟩ = some (.slice r.a r.n r.c) := (hB.cell (p := ⟨bl, ol + k, none⟩) hbl).symm.trans hcr
      have hr0 : Reads w w.heap.size 1 r.a r.n (r.xs.map Value.string) := hx.2 r (List.mem_of_getElem? hrk)
      clear hrk
      go_wp2
      go_loopw [8, 10] (fun m i wr => ∃ (j : Nat) (V : Nat → Value), j ≤ r.n ∧ i = .int .i64 j ∧ m = .int .i64 ((F ++ r.xs.take j).length : Nat) ∧ GridS wr w.heap.size w.heap.size P V (dealS P (F ++ r.xs.take j)) ∧ Below w.heap.size w wr) (fun _ i _ => r.n - (intOf i).toNat)
      case atStart => exact ⟨0, V, Nat.zero_le _, rfl, by simp, by simpa using hG, hB⟩
      case round =>
        clear hG hB V hcr hr
        obtain ⟨j, V, hj, rfl, rfl, hG, hB⟩ := hrel
        have hcr : wr.cell? ⟨bl, ol + k, none⟩ = some (.slice r.a r.n r.c) := (hB.cell (p := ⟨bl, ol + k, none⟩) hbl).trans hcr0
        have hr : Reads wr w.heap.size 1 r.a r.n (r.xs.map Value.string) := hr0.below hB
        by_cases hlt2 : j < r.n
        · obtain ⟨br, oR, x, hra, hbr, hxj, hcx⟩ := hr.at1 hlt2
          rw [hra] at hcr
          have HTK := hide (take_snoc' hxj)
          have hlm : (F ++ r.xs.take j).length ≤ 400 := by
            have := List.length_take_le j r.xs
            have := HF'.out
            rw [List.length_append]; omega
          obtain ⟨M, hM⟩ : ∃ M, F ++ r.xs.take j = M := ⟨_, rfl⟩
          rw [hM] at hG hlm ⊢
          have HM := hide hM
          clear hM hxj
          obtain ⟨m, hm⟩ : ∃ m, M.length = m := ⟨_, rfl⟩
          rw [hm] at hlm ⊢
          have HMl := hide hm
          clear hm
          have hp : m % P < P := Nat.mod_lt _ hP1
          have hc0 := hG.cell hp
          have hrow := hG.row (m % P) hp
          obtain ⟨p, hpe⟩ : ∃ p, m % P = p := ⟨_, rfl⟩
          have hw1 : IntKind.i64.wrap ((m : Int).tmod (P : Int)) = (p : Int) := by
            rw [← hpe, Int.tmod_eq_emod_of_nonneg (by omega), IntKind.wrap_i64]; omega
          rw [hpe] at hp hc0 hrow
          have HP := hide hpe
          clear hpe
          have hw2 : (m : Int).tmod (P : Int) = (p : Int) := by
            have := HP.out
            rw [Int.tmod_eq_emod_of_nonneg (by omega)]; omega
          have hP0 : ((P : Int) = 0) = False := eq_false (by omega)
          have hP0' : P ≠ 0 := by omega
          have q0 : (0 : Int) ≤ (p : Int) := by omega
          have q1 : (p : Int) < (P : Int) := by omega
          have q2 : (0 : Int) ≤ (k : Int) := by omega
          have q3 : (k : Int) < (n : Int) := by omega
          have q4 : (0 : Int) ≤ (j : Int) := by omega
          have q5 : (j : Int) < (r.n : Int) := by omega
          have hlen := dealS_le P M p
          rw [HMl.out] at hlen
          have hfz := hG.frozen p
          have frz := fun o => (Grid.alloc hG o).frozen p
          obtain ⟨v, hv⟩ : ∃ v, V p = v := ⟨_, rfl⟩
          have ag := hG.away p hp
          have crz := fun o => (Grid.alloc hG o).cell hp
          rw [hv] at hc0 hrow ag crz
          have ak : v.ownBlock ≠ some bl := fun e => by have := (hrow.lt _ e).1; omega
          have av : v.ownBlock ≠ some br := fun e => by have := (hrow.lt _ e).1; omega
          have hsz := hB.size
          have hgl := hG.lt
          go_wp2_with fail
          go_region_law ((refine step_append_lies _ (by rfl) _ _ _ (by rfl) w.heap.size 9 i0 _ 1 16 Try.underlying43 hi hz0 hz1 hz2 rfl (by omega) v (dealS P M p).length _ (by rfl) ((hrow.alloc _).drew) ⟨wr.heap.size, 0, none⟩ 1 1 [.string x] (by rfl) (by rfl) (World.news_of_block (cs := #[.string x]) (t := 9) (fr := (0, 0)) (heap_alloc_new wr _)) (by simp [Value.oneCell']) (by omega) (by unfold maxLen; omega) (by omega) (by simp; omega) (wr.heap.size + 1) (by simp) ?_; intro gg cap w1 hown1 hgrow hat hlt3; have hf1 := (hgrow.frozen_far ⟨w.heap.size, p, none⟩ (by simp; omega) (Ne.symm ag)).trans (frz _); have hc1 := (hgrow.cell_far ⟨w.heap.size, p, none⟩ (by simp; omega) (Ne.symm ag)).trans (crz _)))
          all_goals
            have hat' : (Value.slice (some ⟨gg, 0, none⟩) ((dealS P M p).length + 1) cap).ownBlock = (V p).ownBlock ∨ (Value.slice (some ⟨gg, 0, none⟩) ((dealS P M p).length + 1) cap).ownBlock = some (wr.alloc (.cells #[.string x] 9)).heap.size := by
              rcases hat with e | e
              · left; rw [hv, e]; rfl
              · right; rw [e, World.size_alloc]; rfl
            rw [← hv] at hgrow
            have hGq : GridS (wr.alloc (.cells #[.string x] 9)).drew w.heap.size w.heap.size P V (dealS P M) := (Grid.alloc hG _).drew
            have hBq : Below w.heap.size w (wr.alloc (.cells #[.string x] 9)).drew := (hB.alloc hB.size _).drew
            have hG2 := GridS.deal hGq (by rw [HMl.out]; exact HP.out) hp hown1 hgrow hat'
            have hB2 := Grid.step_below hGq (v' := .slice (some ⟨gg, 0, none⟩) ((dealS P M p).length + 1) cap) hp hgrow hBq (Nat.le_refl _)
            clear hown1 hgrow hf1 hc1 hat'
            go_wp2
            go_roundw
            case rel => exact ⟨j + 1, _, by omega, by go_num, by rw [HTK.out, ← List.append_assoc, HM.out, List.length_append, HMl.out]; go_num, by rw [HTK.out, ← List.append_assoc, HM.out]; exact hG2, hB2⟩
            case measure => simp [intOf]; omega
        · obtain rfl : j = r.n := by omega
          rw [List.take_of_length_le (Nat.le_of_eq HX.out), ← HSn.out] at hG ⊢
          go_wp2
          go_roundw
          case rel => exact ⟨k + 1, V, by omega, by go_num, rfl, hG, hB⟩
          case measure => simp [intOf]; omega
    · obtain rfl : k = n := by omega
      rw [List.take_of_length_le (Nat.le_of_eq HL.out)] at hG
      go_wp2
      go_ret2
      exact ⟨_, V, rfl, hG, hB⟩
end Go.Proofs.Ythngjbhamgmcgaa
