/-
  The walk of tidewrightref26.regions.
-/
import Derived.Test.YtblepaocekojbaaDkRg
import Derived.Test.YtblepaocekojbaaDkRows
namespace Go.Proofs.Ytblepaocekojbaa
open Go.RowKit Go.Shelf Go.Deep Go.Maps
attribute [local go_sem] Oper.semAt_some

theorem mem_at {es : List Ed} {k : Nat} {e : Ed} (h : es[k]? = some e) : e ∈ es := List.mem_of_getElem? h
theorem fold_snoc {es : List Ed} {k : Nat} {e : Ed} (L0 : Nat → Nat) (h : es[k]? = some e) : (es.take (k + 1)).foldl relab L0 = relab ((es.take k).foldl relab L0) e := by
  rw [take_snoc' h, List.foldl_append]; rfl
theorem Lab.fold {L : Nat → Nat} (h : Lab L) (es : List Ed) : Lab (es.foldl Go.Proofs.Ytblepaocekojbaa.relab L) := by
  induction es generalizing L with
  | nil => exact h
  | cons e es ih => exact ih (h.relab e)

set_option maxRecDepth 100000 in
set_option maxHeartbeats 4000000 in
theorem Rregions_any (g : Gr) (w : World) (hg : g.Ok w w.heap.size) (hv : validB g = true) :
    Calls Try.prog 53 #[.agg #[g.v1, g.v2]] w (RetOwn w 3 1 g.n1 (rowL g.n1 fun i => .int .i64 ((labs g.es i : Nat) : Int))) := by
  obtain ⟨i0, hi, hz0, hz1, hz2⟩ := info_parts infoInt_dk
  have hB0 : Below w.heap.size w (w.alloc (.cells #[g.v1, g.v2] 25)) := (Below.refl _ _).alloc (Nat.le_refl _) _
  have hc1 : (w.alloc (.cells #[g.v1, g.v2] 25)).cell? ⟨w.heap.size, 0, none⟩ = some (.slice g.a1 g.n1 g.c1) := by simp [Gr.v1]
  have hc2 : (w.alloc (.cells #[g.v1, g.v2] 25)).cell? ⟨w.heap.size, 1, none⟩ = some (.slice g.a2 g.n2 g.c2) := by simp [Gr.v2]
  have hg0 := hg.up hB0
  have hsz0 : (w.alloc (.cells #[g.v1, g.v2] 25)).heap.size = w.heap.size + 1 := World.size_alloc _ _
  have hbd := ok_ops hv
  have HV := hide hv
  have HL2 := hide (hg.r2.len encEd_len (by omega))
  clear hv
  go_enter Try.func53, Try.ntmps53
  go_wp2_with fail
  obtain ⟨W, hW⟩ : ∃ W, w.alloc (.cells #[g.v1, g.v2] 25) = W := ⟨_, rfl⟩
  rw [hW] at hB0 hc1 hc2 hg0 hsz0 ⊢
  clear hW
  go_loopw [3, 4] (fun v i wr => ∃ k : Nat, k ≤ g.n1 ∧ i = .int .i64 k ∧ wr.ownsRow W.heap.size 3 1 v k (rowL k fun j => .int .i64 (j : Int)) ∧ Below W.heap.size W wr) (fun _ i _ => g.n1 - (intOf i).toNat)
  case atStart => exact ⟨0, Nat.zero_le _, rfl, World.ownsRow_nil _ _ _ _, Below.refl _ _⟩
  case round =>
    obtain ⟨k, hk, rfl, hrow, hB⟩ := hrel
    have hd1 : wr.cell? ⟨w.heap.size, 0, none⟩ = some (.slice g.a1 g.n1 g.c1) := (hB.cell (p := ⟨w.heap.size, 0, none⟩) (by show w.heap.size < _; omega)).trans hc1
    have hWs := hB.size
    by_cases hlt : k < g.n1
    · go_wp2_with (at_builtin; refine wpList_append_own _ rfl _ _ 22 rfl W.heap.size 3 i0 _ 1 8 Try.underlying22 hi hz0 hz1 hz2 rfl (by decide) _ _ _ rfl (hrow.alloc _) ⟨wr.heap.size, 0, none⟩ 1 1 [.int .i64 (k : Int)] rfl rfl (cells_new _ _ _) (by simp [Value.oneCell']) (by unfold maxLen; omega) (by omega) (by simp; omega) ?_; intro v' w1 hown' hgrow _)
      go_roundw
      case rel => exact ⟨k + 1, by omega, by go_num, by rw [rowL_snoc]; exact hown', below_append (hB.alloc hB.size _) (hrow.alloc _) (by simp; omega) hgrow⟩
      case measure => simp [intOf]; omega
    · obtain rfl : k = g.n1 := by omega
      obtain ⟨G, cap, rfl, hO⟩ := own_R hrow (by omega)
      clear hrow
      have hG := hO.lt
      go_wp2_with fail
      clear hd1
      go_loopw [5, 6, 7, 8, 9] (fun ag i _ _ _ wr => ∃ ph b : Bool, ag = .bool b ∧ (ph = true → ∃ m : Nat, i = .int .i64 (m : Int)) ∧ (ph = false → i = undef ∧ b = true) ∧ OwnR wr W.heap.size 3 G cap g.n1 (fun j => .int .i64 ((if ph then labs g.es j else j : Nat) : Int)) ∧ Below W.heap.size W wr)
        (fun ag i _ _ _ _ => match i with | .int _ _ => (match ag with | .bool true => 1 | _ => 0) | _ => 2)
      case atStart => exact ⟨false, true, rfl, by simp, fun _ => ⟨rfl, rfl⟩, hO.congr (fun i _ => rfl), hB⟩
      case round =>
        clear hO hB hWs hG
        obtain ⟨ph, b, rfl, hp1, hp2, hO, hB⟩ := hrel
        have HP1 := hide hp1
        have HP2 := hide hp2
        clear hp1 hp2
        cases b
        · obtain rfl : ph = true := by
            cases ph
            · exact absurd (HP2.out rfl).2 (by simp)
            · rfl
          have hO2 := hO.congr (f' := fun j => .int .i64 ((labs g.es j : Nat) : Int)) (fun i _ => rfl)
          clear hO
          have HR := hide ((hO2.mono (show w.heap.size ≤ W.heap.size by omega)).retOwn (bstep hB0 hB))
          go_wp2
          go_ret
          exact HR.out
        · obtain ⟨L0, hL0⟩ : ∃ L0 : Nat → Nat, L0 = (fun j => if ph then labs g.es j else j) := ⟨_, rfl⟩
          have hst : ph = true → ∀ k, (g.es.take k).foldl relab L0 = labs g.es := by
            intro e k; rw [hL0, e]; exact fold_still k
          have hen : g.es.foldl relab L0 = labs g.es := by
            cases ph
            · rw [hL0]; rfl
            · have := hst rfl g.es.length; rwa [List.take_length] at this
          have hLb : Lab L0 := by
            cases ph
            · rw [hL0]; exact Lab.id
            · rw [hL0]; exact Lab.labs _
          have hO2 := hO.congr (f' := fun j => .int .i64 ((L0 j : Nat) : Int)) (fun i _ => by rw [hL0])
          have HST := hide hst
          have HEN := hide hen
          have HLB := hide hLb
          clear hO hst hen hLb hL0
          go_wp2_with fail
          go_loopw [5, 6, 7, 8, 9] (fun ag i _ _ _ wr => ∃ (k : Nat) (b : Bool), k ≤ g.n2 ∧ ag = .bool b ∧ i = .int .i64 (k : Int) ∧ (ph = true → b = false) ∧ OwnR wr W.heap.size 3 G cap g.n1 (fun j => .int .i64 (((g.es.take k).foldl relab L0 j : Nat) : Int)) ∧ Below W.heap.size W wr)
            (fun _ i _ _ _ _ => g.n2 - (intOf i).toNat)
          case atStart => exact ⟨0, false, Nat.zero_le _, rfl, rfl, fun _ => rfl, hO2, hB⟩
          case round =>
            clear hO2 hB
            obtain ⟨k, b, hk, rfl, rfl, hpb, hO, hB⟩ := hrel
            have HPB := hide hpb
            clear hpb
            have hd2 : wr.cell? ⟨w.heap.size, 1, none⟩ = some (.slice g.a2 g.n2 g.c2) := (hB.cell (p := ⟨w.heap.size, 1, none⟩) (by show w.heap.size < _; omega)).trans hc2
            have hgr := hg0.below hB
            have hG := hO.lt
            by_cases hlt2 : k < g.n2
            · obtain ⟨b1, off, e, ha, hb1, hek, hce⟩ := hgr.r2.elem encEd_len HL2.out hlt2
              obtain ⟨v1, v2, v3, v4, v5⟩ := ok_edge HV.out hek
              have HEM := hide (mem_at hek)
              have HSN := hide (fold_snoc L0 hek)
              clear hek
              have e0 : wr.cell? ⟨b1, off + k * 3, none⟩ = some (.int .i64 e.f) := by simpa using hce 0 _ rfl
              have e1 : wr.cell? ⟨b1, off + k * 3 + 1, none⟩ = some (.int .i64 e.t) := by simpa [← Nat.add_assoc] using hce 1 _ rfl
              have e2 : wr.cell? ⟨b1, off + k * 3 + 2, none⟩ = some (.bool e.s) := by simpa [← Nat.add_assoc] using hce 2 _ rfl
              clear hce
              rw [ha] at hd2
              have HA0 := hide ha
              clear ha hgr
              obtain ⟨Lc, hLc⟩ : ∃ Lc, (g.es.take k).foldl relab L0 = Lc := ⟨_, rfl⟩
              rw [hLc] at hO HSN
              have hphs : ph = true → e.s = true ∨ Lc e.f.toNat = Lc e.t.toNat := fun h => by
                rw [← hLc, HST.out h k]
                cases hs : e.s
                · exact .inr (labs_closed HEM.out hs)
                · exact .inl rfl
              have hstl := relab_still (L := Lc) (e := e)
              have HRE := hide (show e.s = false → relab Lc e = fun j => if Lc j = max (Lc e.f.toNat) (Lc e.t.toNat) then min (Lc e.f.toNat) (Lc e.t.toNat) else Lc j from fun hs => by unfold relab; rw [if_neg (by simp [hs])])
              obtain ⟨f, hf⟩ := Int.eq_ofNat_of_zero_le v1
              obtain ⟨t, ht⟩ := Int.eq_ofNat_of_zero_le (show 0 ≤ e.t by omega)
              rw [hf] at e0 v2 hphs hstl HRE
              rw [ht] at e1 v2 v3 hphs hstl HRE
              simp only [Int.toNat_natCast] at hphs hstl HRE
              have ca := hO.cell (show f < g.n1 by omega)
              have cb := hO.cell (show t < g.n1 by omega)
              have hLc1 : Lab Lc := by rw [← hLc]; exact HLB.out.fold _
              have hfl := hLc1.le f
              have htl := hLc1.le t
              obtain ⟨a, hla⟩ : ∃ a, Lc f = a := ⟨_, rfl⟩
              obtain ⟨c, hlc⟩ : ∃ c, Lc t = c := ⟨_, rfl⟩
              rw [hla] at ca hfl hphs hstl HRE
              rw [hlc] at cb htl hphs hstl HRE
              have HPS := hide hphs
              have HTL := hide hstl
              have HLC1 := hide hLc1
              clear hla hlc hLc hphs hstl hLc1
              have q1 : (0 : Int) ≤ (k : Int) := by omega
              have q2 : (k : Int) < (g.n2 : Int) := by omega
              go_wp2_with fail
              go_quiet (fail)
              obtain ⟨W1, hW1⟩ : ∃ W1, wr.drewN nq = W1 := ⟨_, rfl⟩
              have hd2' : W1.cell? ⟨w.heap.size, 1, none⟩ = some (.slice (some ⟨b1, off, none⟩) g.n2 g.c2) := by rw [← hW1]; exact hd2
              have e2' : W1.cell? ⟨b1, off + k * 3 + 2, none⟩ = some (.bool e.s) := by rw [← hW1]; exact e2
              have hO' : OwnR W1 W.heap.size 3 G cap g.n1 (fun j => .int .i64 ((Lc j : Nat) : Int)) := by rw [← hW1]; exact hO.drewN nq
              have hB' : Below W.heap.size W W1 := by rw [← hW1]; exact below_drewN hB nq
              rw [hW1]
              clear hW1 hd2 e0 e1 e2 ca cb hO hB
              cases hs : e.s
              · rw [hs] at e2'
                by_cases hac : a = c
                · have HN := hide (HTL.out (.inr hac))
                  subst hac
                  go_wp2
                  go_roundw
                  case rel => exact ⟨k + 1, b, by omega, rfl, by go_num, HPB.out, by rw [HSN.out, HN.out]; exact hO', hB'⟩
                  case measure => simp [intOf]; omega
                · have hph : ph = false := by
                    cases hp : ph
                    · rfl
                    · rcases HPS.out hp with h | h
                      · rw [hs] at h; cases h
                      · exact absurd h hac
                  have HPH := hide hph
                  have HRF := hide (HRE.out hs)
                  clear hph
                  go_wp2_with fail
                  go_loopw [9] (fun i wr => ∃ j : Nat, j ≤ g.n1 ∧ i = .int .i64 (j : Int) ∧ OwnR wr W.heap.size 3 G cap g.n1 (fun x => .int .i64 ((if x < j ∧ (Lc x = a ∨ Lc x = c) then min a c else Lc x : Nat) : Int)) ∧ Below W.heap.size W wr) (fun i _ => g.n1 - (intOf i).toNat)
                  case atStart => exact ⟨0, Nat.zero_le _, rfl, hO'.congr (fun i _ => by rw [if_neg (by omega)]), hB'⟩
                  case round =>
                    clear hO' hB' hd2' e2'
                    obtain ⟨j, hj, rfl, hO, hB⟩ := hrel
                    have hG := hO.lt
                    by_cases hlt3 : j < g.n1
                    · have cj := hO.cell hlt3
                      rw [if_neg (by omega)] at cj
                      have fj := hO.frozen j
                      have sj := fun u : Int => hO.set j (.int .i64 u)
                      have q3 : (0 : Int) ≤ (j : Int) := by omega
                      have q4 : (j : Int) < (g.n1 : Int) := by omega
                      obtain ⟨x, hx⟩ : ∃ x, Lc j = x := ⟨_, rfl⟩
                      rw [hx] at cj
                      have hkeep : ¬ (x = a ∨ x = c) → OwnR wr W.heap.size 3 G cap g.n1 (fun x => .int .i64 ((if x < j + 1 ∧ (Lc x = a ∨ Lc x = c) then min a c else Lc x : Nat) : Int)) := fun hn => hO.congr (fun i _ => by
                        by_cases e1 : i = j
                        · subst e1; rw [if_neg (by omega), if_neg (by rw [hx]; exact fun h => hn h.2)]
                        · by_cases e2 : i < j
                          · simp [e2, show i < j + 1 by omega]
                          · simp [e2, show ¬ i < j + 1 by omega])
                      have hset : ∀ u : Int, u = ((min a c : Nat) : Int) → (x = a ∨ x = c) → OwnR (wr.setCell ⟨G, j, none⟩ (.int .i64 u)) W.heap.size 3 G cap g.n1 (fun x => .int .i64 ((if x < j + 1 ∧ (Lc x = a ∨ Lc x = c) then min a c else Lc x : Nat) : Int)) := fun u hu hn => (sj u).congr (fun i _ => by
                        by_cases e1 : i = j
                        · subst e1; rw [if_pos rfl, if_pos ⟨by omega, by rw [hx]; exact hn⟩, hu]
                        · rw [if_neg e1]
                          by_cases e2 : i < j
                          · simp [e2, show i < j + 1 by omega]
                          · simp [e2, show ¬ i < j + 1 by omega])
                      have HK := hide hkeep
                      have HS := hide hset
                      clear hkeep hset sj hx
                      by_cases hca : c < a
                      · by_cases hxa : x = a
                        · subst hxa
                          go_wp2
                          go_roundw
                          case rel => exact ⟨j + 1, by omega, by go_num, HS.out _ (by omega) (.inl rfl), hB.setCell hG.1 _⟩
                          case measure => simp [intOf]; omega
                        · have n1 : ((x : Int) == (a : Int)) = false := by simp; omega
                          by_cases hxc : x = c
                          · subst hxc
                            go_wp2
                            go_roundw
                            case rel => exact ⟨j + 1, by omega, by go_num, HS.out _ (by omega) (.inr rfl), hB.setCell hG.1 _⟩
                            case measure => simp [intOf]; omega
                          · have n2 : ((x : Int) == (c : Int)) = false := by simp; omega
                            go_wp2
                            go_roundw
                            case rel => exact ⟨j + 1, by omega, by go_num, HK.out (by omega), hB⟩
                            case measure => simp [intOf]; omega
                      · by_cases hxa : x = a
                        · subst hxa
                          go_wp2
                          go_roundw
                          case rel => exact ⟨j + 1, by omega, by go_num, HS.out _ (by omega) (.inl rfl), hB.setCell hG.1 _⟩
                          case measure => simp [intOf]; omega
                        · have n1 : ((x : Int) == (a : Int)) = false := by simp; omega
                          by_cases hxc : x = c
                          · subst hxc
                            go_wp2
                            go_roundw
                            case rel => exact ⟨j + 1, by omega, by go_num, HS.out _ (by omega) (.inr rfl), hB.setCell hG.1 _⟩
                            case measure => simp [intOf]; omega
                          · have n2 : ((x : Int) == (c : Int)) = false := by simp; omega
                            go_wp2
                            go_roundw
                            case rel => exact ⟨j + 1, by omega, by go_num, HK.out (by omega), hB⟩
                            case measure => simp [intOf]; omega
                    · obtain rfl : j = g.n1 := by omega
                      go_wp2
                      go_roundw
                      case rel => exact ⟨k + 1, true, by omega, rfl, by go_num, fun h => absurd (HPH.out.symm.trans h) (by simp), by
                        rw [HSN.out, HRF.out]
                        refine hO.congr (fun i hi => ?_)
                        show _ = Value.int .i64 ((if Lc i = max a c then min a c else Lc i : Nat) : Int)
                        have e3 : (Lc i = a ∨ Lc i = c) ↔ (Lc i = max a c ∨ Lc i = min a c) := by omega
                        by_cases e1 : Lc i = max a c
                        · rw [if_pos ⟨hi, e3.2 (.inl e1)⟩, if_pos e1]
                        · rw [if_neg e1]
                          by_cases e2 : Lc i = min a c
                          · rw [if_pos ⟨hi, e3.2 (.inr e2)⟩, e2]
                          · rw [if_neg (fun h => by rcases e3.1 h.2 with h | h <;> contradiction)]
                       , hB⟩
                      case measure => simp [intOf]; omega
              · rw [hs] at e2'
                have HN := hide (HTL.out (.inl hs))
                go_wp2
                go_roundw
                case rel => exact ⟨k + 1, b, by omega, rfl, by go_num, HPB.out, by rw [HSN.out, HN.out]; exact hO', hB'⟩
                case measure => simp [intOf]; omega
            · obtain rfl : k = g.n2 := by omega
              rw [List.take_of_length_le (Nat.le_of_eq HL2.out), HEN.out] at hO
              go_wp2
              go_roundw
              case rel => exact ⟨true, b, rfl, fun _ => ⟨_, rfl⟩, by simp, hO, hB⟩
              case measure =>
                cases ph
                · rw [(HP2.out rfl).1]
                  cases b
                  · show (0 : Nat) < 2; decide
                  · show (1 : Nat) < 2; decide
                · obtain ⟨m, hm⟩ := HP1.out rfl
                  rw [hm, HPB.out rfl]
                  simp
end Go.Proofs.Ytblepaocekojbaa
