/-
  The walk of tidewrightref26.Back, for every graph and tasks.
-/
import Derived.Test.YtblepaocekojbaaDkTk
namespace Go.Proofs.Ytblepaocekojbaa
open Go.RowKit Go.Shelf Go.Deep
attribute [local go_sem] Oper.semAt_some

/-- How many of n cells of block b hold 'false'. -/
def cntW (w : World) (b n : Nat) : Nat := (List.range n).countP fun i => match w.cell? ⟨b, i, none⟩ with
  | some (.bool false) => true
  | _ => false
theorem cntW_row {w : World} {b n : Nat} {t : TypeId} {T : Nat → Bool} (h : w.rowIs b t n (fun j => .bool (T j))) : cntW w b n = cnt n T := by
  unfold cntW cnt
  apply List.countP_congr
  intro i hi
  rw [h.cell (List.mem_range.1 hi)]
  cases T i <;> simp

/-- A set between the seeds and what goes back. -/
structure Upto (L : Nat → Nat) (es : List Ed) (fallen gone : List Int) (T : Nat → Bool) : Prop where
  has : ∀ t ∈ fallen, T (L t.toNat) = true
  least : ∀ P : Nat → Prop, Cls (Nx L es gone) P → (∀ r, seedOf L fallen r → P r) → ∀ x, T x = true → P x
theorem Upto.put {L : Nat → Nat} {es : List Ed} {fallen gone : List Int} {T : Nat → Bool} (h : Upto L es fallen gone T) {x y : Nat} (hx : T x = true) (hn : Nx L es gone x y) : Upto L es fallen gone (put T y) :=
  ⟨fun t ht => put_true.2 (.inr (h.has t ht)), fun P hc hs z hz => by
    rcases put_true.1 hz with rfl | hz
    · exact hc x _ (h.least P hc hs x hx) hn
    · exact h.least P hc hs z hz⟩
/-- Shut for one edge. -/
def Shut (L : Nat → Nat) (gone : List Int) (T : Nat → Bool) (e : Ed) : Prop := e.s = true → (T (L e.f.toNat) = true → T (L e.t.toNat) = true) ∧ (T (L e.t.toNat) = true → hasB gone e.f = true → T (L e.f.toNat) = true)
theorem Upto.back {L : Nat → Nat} {es : List Ed} {fallen gone : List Int} {T : Nat → Bool} (h : Upto L es fallen gone T) (hs : ∀ e ∈ es, Shut L gone T e) : IsBack L es fallen gone T := fun r =>
  ⟨fun hr P hc hs' => h.least P hc hs' r hr, fun hr => hr (fun x => T x = true) (fun x y hx ⟨e, he, h1, h2⟩ => by
    rcases h2 with ⟨rfl, rfl⟩ | ⟨rfl, rfl, h3⟩
    · exact (hs e he h1).1 hx
    · exact (hs e he h1).2 hx h3) (fun r ⟨u, hu, e⟩ => by rw [e]; exact h.has u hu)⟩
theorem back_uniq {L : Nat → Nat} {es : List Ed} {fallen gone : List Int} {S T : Nat → Bool} (hS : IsBack L es fallen gone S) (hT : IsBack L es fallen gone T) : S = T := by
  funext r
  have : S r = true ↔ T r = true := by rw [hS, hT]
  cases h1 : S r <;> cases h2 : T r <;> simp_all
/-- In a round, behind some edges 'l': what it began with is T. -/
structure Pass (L : Nat → Nat) (gone : List Int) (n : Nat) (T : Nat → Bool) (l : List Ed) (b : Bool) (T' : Nat → Bool) : Prop where
  still : b = false → T' = T ∧ ∀ e ∈ l, Shut L gone T e
  turned : b = true → cnt n T' + 1 ≤ cnt n T
theorem Pass.snoc {L : Nat → Nat} {gone : List Int} {n : Nat} {T T' : Nat → Bool} {l : List Ed} {b : Bool} (h : Pass L gone n T l b T') {e : Ed} (he : Shut L gone T' e) : Pass L gone n T (l ++ [e]) b T' :=
  ⟨fun hb => ⟨(h.still hb).1, fun e' h' => by
    rcases List.mem_append.1 h' with h' | h'
    · exact (h.still hb).2 e' h'
    · obtain rfl : e' = e := by simpa using h'
      rwa [(h.still hb).1] at he⟩, h.turned⟩
theorem Pass.turn {L : Nat → Nat} {gone : List Int} {n : Nat} {T T' : Nat → Bool} {l l' : List Ed} {b : Bool} (h : Pass L gone n T l b T') {x : Nat} (hx : x < n) (hf : T' x = false) : Pass L gone n T l' true (put T' x) :=
  ⟨fun hb => absurd hb (by simp), fun _ => by
    have h1 := cnt_put hx hf
    cases b
    · rw [(h.still rfl).1] at h1 hf ⊢; omega
    · have := h.turned rfl; omega⟩

/-- The seeds as a set. -/
def seedB (L : Nat → Nat) (fs : List Int) (r : Nat) : Bool := fs.any fun t => decide (r = L t.toNat)
theorem seedB_snoc (L : Nat → Nat) (fs : List Int) (t : Int) : seedB L (fs ++ [t]) = put (seedB L fs) (L t.toNat) := by
  funext r
  unfold seedB put
  rw [List.any_append]
  by_cases h : r = L t.toNat
  · simp [h]
  · simp [h]
theorem seedB_upto (L : Nat → Nat) (es : List Ed) (fs gone : List Int) : Upto L es fs gone (seedB L fs) :=
  ⟨fun t ht => List.any_eq_true.2 ⟨t, ht, by simp⟩, fun P _ hs x hx => by
    obtain ⟨t, ht, e⟩ := List.any_eq_true.1 hx
    exact hs x ⟨t, ht, by simpa using e⟩⟩

set_option maxRecDepth 100000 in
set_option maxHeartbeats 4000000 in
theorem RBack_ok (g : Gr) (A1 : Option Addr) (m1 c1 : Nat) (fallen : List Int) (A2 : Option Addr) (m2 c2 : Nat) (gone : List Int) (w : World) (hg : g.Ok w w.heap.size) (hf : Reads w w.heap.size 1 A1 m1 (fallen.map (Value.int .i64))) (hgo : Reads w w.heap.size 1 A2 m2 (gone.map (Value.int .i64)))
    (hm1 : m1 ≤ 4611686018427387904) (hm2 : m2 ≤ 4611686018427387904) (hv : validB g = true) (he0 : errT g [⟨A1, m1, c1, fallen⟩, ⟨A2, m2, c2, gone⟩] = 0) (ho1 : fallen.any (outT g.n1) = false) :
    Calls Try.prog 14 #[.agg #[g.v1, g.v2], .slice A1 m1 c1, .slice A2 m2 c2] w fun e w' => ∃ S, IsBack (labs g.es) g.es fallen gone S ∧ RetSlE w 1 (tkn (fun t => S (labs g.es t)) g.n1).length (intsL (tkn (fun t => S (labs g.es t)) g.n1)) 0 e w' := by
  obtain ⟨i0, hi, hz0, hz1, hz2⟩ := info_parts infoInt_dk
  have hb := ok_ops hv
  have hbn : g.n2 ≤ 400 := by
    unfold validB at hv
    simp only [Bool.and_eq_true, decide_eq_true_eq] at hv
    exact hv.1.1.2
  have hl1 := hf.len1
  have HV := hide hv
  have HE0 := hide he0
  have HO1 := hide ho1
  have HF1 := hide hl1
  have HL2 := hide (hg.r2.len encEd_len (by omega))
  have hmk := fun W => run_make_row' (P := Try.prog) 75 4 (.bool false) 1 Try.underlying75 infoBool_dk rfl .i64 .i64 g.n1 (by omega) (by omega) W
  clear hv he0 ho1 hl1
  have hB0 : Below w.heap.size w ((w.alloc (.cells #[g.v1, g.v2] 25)).alloc (.cells #[.slice A1 m1 c1, .slice A2 m2 c2] 22)) := ((Below.refl _ _).alloc (Nat.le_refl _) _).alloc (by simp) _
  have b0 : Blk ((w.alloc (.cells #[g.v1, g.v2] 25)).alloc (.cells #[.slice A1 m1 c1, .slice A2 m2 c2] 22)) w.heap.size 25 #[g.v1, g.v2] := (Blk.new w _ _).alloc _
  have b1 : Blk ((w.alloc (.cells #[g.v1, g.v2] 25)).alloc (.cells #[.slice A1 m1 c1, .slice A2 m2 c2] 22)) (w.heap.size + 1) 22 #[.slice A1 m1 c1, .slice A2 m2 c2] := by
    have := Blk.new (w.alloc (.cells #[g.v1, g.v2] 25)) 22 #[.slice A1 m1 c1, .slice A2 m2 c2]
    rwa [World.size_alloc] at this
  have hs0 : ((w.alloc (.cells #[g.v1, g.v2] 25)).alloc (.cells #[.slice A1 m1 c1, .slice A2 m2 c2] 22)).heap.size = w.heap.size + 2 := by simp
  go_enter Try.func14, Try.ntmps14
  go_wp2_with fail
  obtain ⟨W0, hW0⟩ : ∃ W0, (w.alloc (.cells #[g.v1, g.v2] 25)).alloc (.cells #[.slice A1 m1 c1, .slice A2 m2 c2] 22) = W0 := ⟨_, rfl⟩
  rw [hW0] at hB0 b0 b1 hs0 ⊢
  clear hW0
  have hls : Lists W0 W0.heap.size (w.heap.size + 1) [⟨A1, m1, c1, fallen⟩, ⟨A2, m2, c2, gone⟩] := fun i s hs => by
    match i, hs with
    | 0, hs => cases hs; exact ⟨b1.cell 0, hf.up hB0, hm1⟩
    | 1, hs => cases hs; exact ⟨b1.cell 1, hgo.up hB0, hm2⟩
  refine (Rtasks_any g (w.heap.size + 1) 2 2 _ W0 (hg.up hB0) hls (by omega) rfl (by omega) (by omega) (by omega)).mono ?_
  rintro e W1 ⟨rfl, hB1⟩
  rw [HE0.out]
  have b01 := b0.below hB1 (by omega)
  have hB01 := bstep hB0 hB1
  have hs1 : w.heap.size + 2 ≤ W1.heap.size := by have := hB1.size; omega
  clear hls b1 b0 hB0 hs0 hB1
  have d0 := b01.cell 0
  have d1 := b01.cell 1
  simp at d0 d1
  go_wp2_with fail
  refine (Rregions_any g W1 (hg.up hB01) HV.out).mono ?_
  rintro e W2 hret
  obtain ⟨g8, c8, rfl, hO8, hB2⟩ := OwnR.of_ret hret (by omega)
  have b02 := b01.below hB2 (by omega)
  have hB02 := bstep hB01 hB2
  have hs2 : w.heap.size + 2 ≤ W2.heap.size := Nat.le_trans hs1 hB2.size
  have hg8 := hO8.lt
  clear hret b01 hB01 hB2 d0 d1
  have d1 := b02.cell 1
  simp at d1
  replace d1 : W2.cell? ⟨w.heap.size, 1, none⟩ = some (.slice g.a2 g.n2 g.c2) := d1
  have m7 := World.rowIs_made W2 (.bool false) g.n1 4
  go_upto_region 6 with fail
  obtain ⟨W3, hW3⟩ : ∃ W3, W2.alloc (.cells (madeCells #[.bool false] g.n1) 4) = W3 := ⟨_, rfl⟩
  have hB23 : Below W2.heap.size W2 W3 := by rw [← hW3]; exact (Below.refl _ _).alloc (Nat.le_refl _) _
  have s3 : W3.heap.size = W2.heap.size + 1 := by rw [← hW3]; simp
  rw [hW3] at m7 ⊢
  clear hW3 hmk
  obtain ⟨gb, hgb⟩ : ∃ gb, W2.heap.size = gb := ⟨_, rfl⟩
  rw [hgb] at m7 s3 hB23 hs2 hg8 ⊢
  have hgm : g.Ok W3 gb := by rw [← hgb]; exact (hg.up hB02).below (by rw [hgb]; exact hB23)
  have hfm : Reads W3 gb 1 A1 m1 (fallen.map (Value.int .i64)) := by rw [← hgb]; exact (hf.up hB02).below (by rw [hgb]; exact hB23)
  have hgom : Reads W3 gb 1 A2 m2 (gone.map (Value.int .i64)) := by rw [← hgb]; exact (hgo.up hB02).below (by rw [hgb]; exact hB23)
  have hom : ∀ i, i < g.n1 → W3.cell? ⟨g8, i, none⟩ = some (.int .i64 ((labs g.es i : Nat) : Int)) := fun i hi => (hB23.cell (p := ⟨g8, i, none⟩) hg8.2).trans (hO8.cell hi)
  have d1m : W3.cell? ⟨w.heap.size, 1, none⟩ = some (.slice g.a2 g.n2 g.c2) := (hB23.cell (p := ⟨w.heap.size, 1, none⟩) (by show w.heap.size < gb; omega)).trans d1
  have hB03 : Below w.heap.size w W3 := hB02.trans (hB23.mono (by omega))
  have hLab : Lab (labs g.es) := Lab.labs _
  obtain ⟨L, hL⟩ : ∃ L, labs g.es = L := ⟨_, rfl⟩
  rw [hL] at hom hLab
  have HLL := hide hL
  have HLAB := hide hLab
  have HOF := hide (fun i (h : i < g.n1) => Nat.lt_of_le_of_lt (hLab.le i) h)
  have HOM := hide hom
  clear hL hLab hB02 hB23 d1 b02 hO8 hg hf hgo hgb W2 W0 hs1 hom
  have hwb : w.heap.size < gb := by omega
  go_wp2_with fail
  go_loopw [11] (fun i wr => ∃ k : Nat, k ≤ m1 ∧ i = .int .i64 k ∧ wr.rowIs gb 4 g.n1 (fun j => .bool (seedB L (fallen.take k) j)) ∧ Below gb W3 wr) (fun i _ => m1 - (intOf i).toNat)
  case atStart => exact ⟨0, Nat.zero_le _, rfl, m7.congr (fun i _ => rfl), Below.refl _ _⟩
  case round =>
    clear m7
    obtain ⟨k, hk, rfl, hrow, hB⟩ := hrel
    by_cases hlt : k < m1
    · obtain ⟨b, off, x, ha, hb1, hxk, hc⟩ := (hfm.below hB).at1 hlt
      have hxo := out_no HO1.out hxk
      have HSN := hide (show seedB L (fallen.take (k + 1)) = put (seedB L (fallen.take k)) (L x.toNat) by rw [take_snoc' hxk, seedB_snoc])
      obtain ⟨t, ht⟩ := Int.eq_ofNat_of_zero_le hxo.1
      rw [ht] at hc hxo HSN
      simp only [Int.toNat_natCast] at HSN
      clear hxk ht
      have htn : t < g.n1 := by omega
      have kt := (hB.cell (p := ⟨g8, t, none⟩) hg8.2).trans (HOM.out t htn)
      have hzn := HOF.out t htn
      obtain ⟨z, hz⟩ : ∃ z, L t = z := ⟨_, rfl⟩
      rw [hz] at kt hzn HSN
      have fz := hrow.frozen z
      have cz := hrow.cell hzn
      have sz := hrow.set z (.bool true)
      rw [ha]
      clear ha hz
      go_wp2
      go_roundw
      case rel => exact ⟨k + 1, by omega, by go_num, sz.congr (fun i _ => by
        rw [HSN.out]; unfold put
        by_cases e : i = z
        · rw [if_pos e, if_pos e]
        · rw [if_neg e, if_neg e]), hB.setCell (Nat.le_refl _) _⟩
      case measure => simp [intOf]; omega
    · obtain rfl : k = m1 := by omega
      rw [take_all HF1.out] at hrow
      have hup := seedB_upto L g.es fallen gone
      obtain ⟨T0, hT0⟩ : ∃ T0, seedB L fallen = T0 := ⟨_, rfl⟩
      rw [hT0] at hrow hup
      clear hT0
      go_wp2_with fail
      go_loopw [12, 13, 14, 15, 16] (fun ag _ _ _ _ wr => ∃ (b : Bool) (T : Nat → Bool), ag = .bool b ∧ Upto L g.es fallen gone T ∧ (b = false → ∀ e ∈ g.es, Shut L gone T e) ∧ wr.rowIs gb 4 g.n1 (fun j => .bool (T j)) ∧ Below gb W3 wr)
        (fun ag _ _ _ _ wr => 2 * cntW wr gb g.n1 + (match ag with | .bool true => 1 | _ => 0))
      case atStart => exact ⟨true, T0, rfl, hup, fun h => absurd h (by simp), hrow, hB⟩
      case round =>
        clear hrow hup hB
        obtain ⟨b, T, rfl, hup, hsh, hrow, hB⟩ := hrel
        have HUP := hide hup
        have HSH := hide hsh
        clear hup hsh
        cases b
        · have HBK := hide (HUP.out.back (HSH.out rfl))
          clear HSH HUP
          go_wp2_with fail
          go_loopw [17, 18] (fun v i wr => ∃ k : Nat, k ≤ g.n1 ∧ i = .int .i64 k ∧ wr.ownsRow (gb + 1) 3 1 v (tkn (fun t => T (L t)) k).length (intsL (tkn (fun t => T (L t)) k)) ∧ wr.rowIs gb 4 g.n1 (fun j => .bool (T j)) ∧ Below gb W3 wr) (fun _ i _ => g.n1 - (intOf i).toNat)
          case atStart => exact ⟨0, Nat.zero_le _, rfl, World.ownsRow_nil _ _ _ _, hrow, hB⟩
          case round =>
            clear hrow hB
            obtain ⟨k, hk, rfl, hown, hrow, hB⟩ := hrel
            have hWs := hB.size
            by_cases hlt : k < g.n1
            · have kt := (hB.cell (p := ⟨g8, k, none⟩) hg8.2).trans (HOM.out k hlt)
              have hzn := HOF.out k hlt
              have HTS := hide (tkn_succ (fun t => T (L t)) k)
              have hlen := tkn_len (fun t => T (L t)) k
              obtain ⟨z, hz⟩ : ∃ z, L k = z := ⟨_, rfl⟩
              rw [hz] at kt hzn
              have cz := hrow.cell hzn
              cases hTz : T z
              · rw [hTz] at cz
                have HT2 := HTS.out
                rw [hz, hTz, if_neg (by simp)] at HT2
                have HT3 := hide HT2
                clear HT2 HTS hz hTz
                go_wp2
                go_roundw
                case rel => exact ⟨k + 1, by omega, by go_num, by rw [HT3.out]; exact hown, hrow, hB⟩
                case measure => simp [intOf]; omega
              · rw [hTz] at cz
                have HT2 := HTS.out
                rw [hz, hTz, if_pos rfl] at HT2
                have HT3 := hide HT2
                clear HT2 HTS hz hTz
                have hne2 : some gb ≠ u17.ownBlock := fun e => by have := (hown.lt _ e.symm).1; omega
                obtain ⟨l, hl⟩ : ∃ l, (tkn (fun t => T (L t)) k).length = l := ⟨_, rfl⟩
                rw [hl] at hlen hown
                have HLL' := hide hl
                clear hl
                go_wp2_with (at_builtin; refine wpList_append_own _ rfl _ _ 22 rfl (gb + 1) 3 i0 _ 1 8 Try.underlying22 hi hz0 hz1 hz2 rfl (by decide) _ _ _ rfl (hown.alloc _) ⟨wr.heap.size, 0, none⟩ 1 1 [.int .i64 (k : Int)] rfl rfl (cells_new _ _ _) (by simp [Value.oneCell']) (by unfold maxLen; omega) (by omega) (by simp; omega) ?_; intro v' w1 hown' hgrow _)
                go_roundw
                case rel => exact ⟨k + 1, by omega, by go_num, by rw [HT3.out, intsL_snoc, List.length_append, HLL'.out]; exact hown', rowIs_kept (hrow.alloc _) hgrow hne2, below_append (hB.alloc (by omega) _) (own_mono (hown.alloc _) (by omega)) (by simp; omega) hgrow⟩
                case measure => simp [intOf]; omega
            · obtain rfl : k = g.n1 := by omega
              obtain ⟨A, c, rfl, hR⟩ := own_form hown
              have HE := hide (show RetSlE w 1 (tkn (fun t => T (L t)) g.n1).length (intsL (tkn (fun t => T (L t)) g.n1)) 0 (.returned (.tuple #[.slice A (tkn (fun t => T (L t)) g.n1).length c, .int .i64 0])) wr from ⟨A, c, rfl, hR, hB03.trans (hB.mono (show w.heap.size ≤ gb by omega))⟩)
              clear hrow hB hown hR
              go_wp2
              go_ret2
              exact ⟨T, by rw [HLL.out]; exact HBK.out, by rw [HLL.out]; exact HE.out⟩
        · have hcw := cntW_row hrow
          have HCW := hide hcw
          clear hcw
          go_wp2_with fail
          go_loopw [12, 13, 14, 15, 16] (fun ag i _ _ _ wr => ∃ (k : Nat) (b : Bool) (T' : Nat → Bool), k ≤ g.n2 ∧ ag = .bool b ∧ i = .int .i64 k ∧ Upto L g.es fallen gone T' ∧ Pass L gone g.n1 T (g.es.take k) b T' ∧ wr.rowIs gb 4 g.n1 (fun j => .bool (T' j)) ∧ Below gb W3 wr)
            (fun _ i _ _ _ _ => g.n2 - (intOf i).toNat)
          case atStart => exact ⟨0, false, T, Nat.zero_le _, rfl, rfl, HUP.out, ⟨fun _ => ⟨rfl, by simp⟩, fun h => absurd h (by simp)⟩, hrow, hB⟩
          case round =>
            clear hrow hB
            obtain ⟨k, b, T', hk, rfl, rfl, hup, hpass, hrow, hB⟩ := hrel
            have HUP' := hide hup
            have HPASS := hide hpass
            clear hup hpass
            have hd1 := (hB.cell (p := ⟨w.heap.size, 1, none⟩) hwb).trans d1m
            have hWs := hB.size
            by_cases hlt2 : k < g.n2
            · obtain ⟨b1, off, e, ha, hb1, hek, hce⟩ := (hgm.below hB).r2.elem encEd_len HL2.out hlt2
              obtain ⟨v1, v2, v3, v4, v5⟩ := ok_edge HV.out hek
              have HEM := hide (mem_at hek)
              have HTK := hide (take_snoc' hek)
              clear hek
              have e0 : wr.cell? ⟨b1, off + k * 3, none⟩ = some (.int .i64 e.f) := by simpa using hce 0 _ rfl
              have e1 : wr.cell? ⟨b1, off + k * 3 + 1, none⟩ = some (.int .i64 e.t) := by simpa [← Nat.add_assoc] using hce 1 _ rfl
              have e2 : wr.cell? ⟨b1, off + k * 3 + 2, none⟩ = some (.bool e.s) := by simpa [← Nat.add_assoc] using hce 2 _ rfl
              clear hce
              rw [ha] at hd1
              have HA0 := hide ha
              clear ha
              have hB2 := hB.alloc (by omega) (.cells #[.int .i64 e.f, .int .i64 e.t, .bool e.s] 40)
              have hrow2 := hrow.alloc (.cells #[.int .i64 e.f, .int .i64 e.t, .bool e.s] 40)
              obtain ⟨f, hf⟩ := Int.eq_ofNat_of_zero_le v1
              obtain ⟨t, ht⟩ := Int.eq_ofNat_of_zero_le (show 0 ≤ e.t by omega)
              have HNX1 := hide (show e.s = true → Nx L g.es gone (L f) (L t) from fun hs => ⟨e, HEM.out, hs, .inl ⟨by rw [hf]; rfl, by rw [ht]; rfl⟩⟩)
              have HNX2 := hide (show e.s = true → hasB gone e.f = true → Nx L g.es gone (L t) (L f) from fun hs h => ⟨e, HEM.out, hs, .inr ⟨by rw [ht]; rfl, by rw [hf]; rfl, h⟩⟩)
              have HSNC := hide (show (e.s = true → (T' (L f) = true → T' (L t) = true) ∧ (T' (L t) = true → hasB gone (f : Int) = true → T' (L f) = true)) → Pass L gone g.n1 T (g.es.take (k + 1)) b T' from fun h => by rw [HTK.out]; exact HPASS.out.snoc (by unfold Shut; rw [hf, ht]; exact h))
              rw [hf] at e0 hB2 hrow2 v2 HNX2
              rw [ht] at e1 hB2 hrow2 v2 v3
              have hfn : f < g.n1 := by omega
              have htn : t < g.n1 := by omega
              have q1 : (0 : Int) ≤ (k : Int) := by omega
              have q2 : (k : Int) < (g.n2 : Int) := by omega
              go_upto_region 17 with fail
              obtain ⟨W5, hW5⟩ : ∃ W5, wr.alloc (.cells #[.int .i64 (f : Int), .int .i64 (t : Int), .bool e.s] 40) = W5 := ⟨_, rfl⟩
              have f0 : W5.cell? ⟨wr.heap.size, 0, none⟩ = some (.int .i64 (f : Int)) := by rw [← hW5]; simp
              have f1 : W5.cell? ⟨wr.heap.size, 1, none⟩ = some (.int .i64 (t : Int)) := by rw [← hW5]; simp
              have f2 : W5.cell? ⟨wr.heap.size, 2, none⟩ = some (.bool e.s) := by rw [← hW5]; simp
              have s1 : wr.heap.size < W5.heap.size := by rw [← hW5, World.size_alloc]; omega
              rw [hW5]
              rw [hW5] at hrow2 hB2
              clear hW5 hrow e0 e1 e2 hB hd1
              obtain ⟨be, hbe⟩ : ∃ be, wr.heap.size = be := ⟨_, rfl⟩
              rw [hbe] at f0 f1 f2 s1 hWs ⊢
              clear hbe
              have kf := (hB2.cell (p := ⟨g8, f, none⟩) hg8.2).trans (HOM.out f hfn)
              have kt := (hB2.cell (p := ⟨g8, t, none⟩) hg8.2).trans (HOM.out t htn)
              obtain ⟨x, hx⟩ : ∃ x, L f = x := ⟨_, rfl⟩
              obtain ⟨y, hy⟩ : ∃ y, L t = y := ⟨_, rfl⟩
              rw [hx] at kf
              rw [hy] at kt
              rw [hx, hy] at HNX1 HNX2 HSNC
              have hxn : x < g.n1 := by rw [← hx]; exact HOF.out f hfn
              have hyn : y < g.n1 := by rw [← hy]; exact HOF.out t htn
              clear hx hy
              have q3 : (0 : Int) ≤ (f : Int) := by omega
              have q4 : (f : Int) < (g.n1 : Int) := by omega
              have q5 : (0 : Int) ≤ (t : Int) := by omega
              have q6 : (t : Int) < (g.n1 : Int) := by omega
              go_wp2_with fail
              go_quiet (fail)
              obtain ⟨W6, hW6⟩ : ∃ W6, W5.drewN nq = W6 := ⟨_, rfl⟩
              have f0' : W6.cell? ⟨be, 0, none⟩ = some (.int .i64 (f : Int)) := by rw [← hW6]; exact f0
              have f2' : W6.cell? ⟨be, 2, none⟩ = some (.bool e.s) := by rw [← hW6]; exact f2
              have hrow3 : W6.rowIs gb 4 g.n1 (fun j => .bool (T' j)) := by rw [← hW6]; exact hrow2
              have hB3 : Below gb W3 W6 := by rw [← hW6]; exact below_drewN hB2 nq
              rw [hW6]
              have hbes : be < W6.heap.size := by rw [← hW6]; exact s1
              clear hW6 f0 f1 f2 hrow2 hB2 kf kt s1
              have cx := hrow3.cell hxn
              have cy := hrow3.cell hyn
              cases hs : e.s
              · rw [hs] at f2'
                have HEND := hide (HSNC.out (fun h => by rw [hs] at h; cases h))
                go_wp2
                go_roundw
                case rel => exact ⟨k + 1, b, T', by omega, rfl, by go_num, HUP'.out, HEND.out, hrow3, hB3⟩
                case measure => simp [intOf]; omega
              · rw [hs] at f2'
                have HN1 := hide (HNX1.out hs)
                have HN2 := hide (HNX2.out hs)
                have HHS := hide hs
                clear hs
                cases hTx : T' x
                · rw [hTx] at cx
                  have HTX := hide hTx
                  cases hTy : T' y
                  · rw [hTy] at cy
                    have HTY := hide hTy
                    clear hTx hTy
                    have HEND := hide (HSNC.out (fun _ => ⟨fun h => absurd (HTX.out.symm.trans h) (by simp), fun h => absurd (HTY.out.symm.trans h) (by simp)⟩))
                    go_wp2
                    go_roundw
                    case rel => exact ⟨k + 1, b, T', by omega, rfl, by go_num, HUP'.out, HEND.out, hrow3, hB3⟩
                    case measure => simp [intOf]; omega
                  · rw [hTy] at cy
                    have HTY := hide hTy
                    clear hTx hTy
                    have hgr := hgom.below hB3
                    cases hgn : hasB gone (f : Int)
                    · have HGN := hide hgn
                      have HEND := hide (HSNC.out (fun _ => ⟨fun h => absurd (HTX.out.symm.trans h) (by simp), fun _ h => absurd (HGN.out.symm.trans h) (by simp)⟩))
                      go_wp2_with (go_at_call 17; refine (Has_any A2 m2 c2 gb gone _ _ hgr (by omega)).mono ?_; rintro ee w' ⟨rfl, rfl⟩; rw [HGN.out])
                      go_roundw
                      case rel => exact ⟨k + 1, b, T', by omega, rfl, by go_num, HUP'.out, HEND.out, hrow3, hB3⟩
                      case measure => simp [intOf]; omega
                    · have HGN := hide hgn
                      have fz := hrow3.frozen x
                      have sz := hrow3.set x (.bool true)
                      have HU2 := hide (HUP'.out.put HTY.out (HN2.out hgn))
                      have HP2 := hide (HPASS.out.turn (l' := g.es.take (k + 1)) hxn HTX.out)
                      go_wp2_with (go_at_call 17; refine (Has_any A2 m2 c2 gb gone _ _ hgr (by omega)).mono ?_; rintro ee w' ⟨rfl, rfl⟩; rw [HGN.out])
                      go_roundw
                      case rel => exact ⟨k + 1, true, _, by omega, rfl, by go_num, HU2.out, HP2.out, sz.congr (fun i _ => by
                        unfold put
                        by_cases e : i = x
                        · rw [if_pos e, if_pos e]
                        · rw [if_neg e, if_neg e]), hB3.setCell (Nat.le_refl _) _⟩
                      case measure => simp [intOf]; omega
                · rw [hTx] at cx
                  have HTX := hide hTx
                  cases hTy : T' y
                  · rw [hTy] at cy
                    have HTY := hide hTy
                    have hxy : x ≠ y := fun h => by rw [h, hTy] at hTx; cases hTx
                    clear hTx hTy
                    have fz := hrow3.frozen y
                    have sz := hrow3.set y (.bool true)
                    have HU2 := hide (HUP'.out.put HTX.out HN1.out)
                    have HP2 := hide (HPASS.out.turn (l' := g.es.take (k + 1)) hyn HTY.out)
                    have cx2 : (W6.setCell ⟨gb, y, none⟩ (.bool true)).cell? ⟨gb, x, none⟩ = some (.bool true) := by have := sz.cell hxn; rwa [if_neg hxy, HTX.out] at this
                    have cy2 : (W6.setCell ⟨gb, y, none⟩ (.bool true)).cell? ⟨gb, y, none⟩ = some (.bool true) := by have := sz.cell hyn; rwa [if_pos rfl] at this
                    have g0 : (W6.setCell ⟨gb, y, none⟩ (.bool true)).cell? ⟨be, 0, none⟩ = some (.int .i64 (f : Int)) := (World.cell?_setCell_other _ _ _ _ (by intro h; injection h with h; omega)).trans f0'
                    have g2 : (W6.setCell ⟨gb, y, none⟩ (.bool true)).cell? ⟨be, 2, none⟩ = some (.bool true) := (World.cell?_setCell_other _ _ _ _ (by intro h; injection h with h; omega)).trans f2'
                    go_wp2
                    go_roundw
                    case rel => exact ⟨k + 1, true, _, by omega, rfl, by go_num, HU2.out, HP2.out, sz.congr (fun i _ => by
                      unfold put
                      by_cases e : i = y
                      · rw [if_pos e, if_pos e]
                      · rw [if_neg e, if_neg e]), hB3.setCell (Nat.le_refl _) _⟩
                    case measure => simp [intOf]; omega
                  · rw [hTy] at cy
                    have HTY := hide hTy
                    clear hTx hTy
                    have HEND := hide (HSNC.out (fun _ => ⟨fun _ => HTY.out, fun _ _ => HTX.out⟩))
                    go_wp2
                    go_roundw
                    case rel => exact ⟨k + 1, b, T', by omega, rfl, by go_num, HUP'.out, HEND.out, hrow3, hB3⟩
                    case measure => simp [intOf]; omega
            · obtain rfl : k = g.n2 := by omega
              rw [List.take_of_length_le (Nat.le_of_eq HL2.out)] at HPASS
              have HCR := hide (cntW_row hrow)
              go_wp2
              go_roundw
              case rel => exact ⟨b, T', rfl, HUP'.out, fun hb => by
                have h := HPASS.out.still hb
                intro e he
                rw [h.1]
                exact h.2 e he, hrow, hB⟩
              case measure =>
                rw [HCR.out, HCW.out]
                cases b
                · have h := (HPASS.out.still rfl).1
                  rw [h]
                  show 2 * cnt g.n1 T + 0 < 2 * cnt g.n1 T + 1
                  omega
                · have h := HPASS.out.turned rfl
                  show 2 * cnt g.n1 T' + 1 < 2 * cnt g.n1 T + 1
                  omega
end Go.Proofs.Ytblepaocekojbaa
