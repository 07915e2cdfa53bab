/-
  The walk of the program's Format. No condition but the table of powers of ten.
-/
import Derived.Test.YtehifbogadohgaaDoorTcI
namespace Go.Proofs.YtehifbogadohgaaDoor
open Go.RowKit
set_option linter.unusedVariables false
set_option linter.unusedSimpArgs false

theorem join_L : ∀ ws : List (List UInt8), Lib.join ws [32] = joinL ws
  | [] => rfl
  | [w] => Lib.join_one w [32]
  | w :: v :: ws => by
    have ih := join_L (v :: ws)
    rw [Lib.join_cons] at ih ⊢
    show w ++ Lib.joinTail [32] (v :: ws) = w ++ 32 :: joinL (v :: ws)
    rw [← ih]
    simp [Lib.joinTail]
theorem joinL_len : ∀ ws : List (List UInt8), (∀ v ∈ ws, v.length ≤ 30) → (joinL ws).length ≤ 31 * ws.length
  | [], _ => Nat.zero_le _
  | [w], h => by have := h w (by simp); show w.length ≤ 31 * 1; omega
  | w :: v :: ws, h => by
    have ih := joinL_len (v :: ws) fun x hx => h x (List.mem_cons_of_mem _ hx)
    have := h w (by simp)
    show (w ++ 32 :: joinL (v :: ws)).length ≤ _
    rw [List.length_append, List.length_cons, List.length_cons]
    omega
theorem own_capW {w : World} {base n c : Nat} {e : TypeId} {A : Option Addr} {xs : List Value} (h : w.ownsRow base e 1 (.slice A n c) n xs) (hn : 0 < n) : n ≤ c := by
  rcases h.2 with ⟨he, h0⟩ | ⟨g', cap, cur, he, _, _, h1, _⟩
  · omega
  · injection he with _ _ h3
    omega
theorem own_ne {w : World} {base : Nat} {e t : TypeId} {size n bn : Nat} {v : Value} {xs : List Value} {cs : Array Value} (h : w.ownsRow base e size v n xs) (hk : Blk w bn t cs) (hne : e ≠ t) : v.ownBlock ≠ some bn := fun e2 => by
  rcases h.2 with ⟨rfl, _⟩ | ⟨g, cap, cur, rfl, _, hg, _⟩
  · cases e2
  · have e3 : g = bn := by injection e2
    subst e3
    unfold Blk at hk
    rw [hg] at hk
    injection hk with hk
    injection hk with _ hk
    exact hne hk
/-- Behind the switch: the first word, and the numbers. -/
def FmtS (w : World) (W : List (List UInt8)) (s3 s4 : Value) (wx : World) : Prop :=
  ∃ (kw : List UInt8) (ns : List Int) (A : Option Addr) (c : Nat) (B : Option Addr) (d : Nat), s3 = .slice A 1 c ∧ s4 = .slice B ns.length d ∧ W = kw :: ns.map Lib.itoa ∧ ns.length ≤ 3 ∧ (∀ n ∈ ns, 0 ≤ n ∧ n ≤ 1000000000) ∧ kw.length ≤ 20 ∧
    wx.ownsRow w.heap.size 9 1 (.slice A 1 c) 1 ([kw].map strV) ∧ (0 < ns.length → ∃ bn, B = some ⟨bn, 0, none⟩ ∧ Blk wx bn 3 (ns.map (Value.int .i64)).toArray) ∧ Below w.heap.size w wx
set_option maxRecDepth 100000 in
set_option maxHeartbeats 8000000 in
theorem Format_any (k z p g h : Int) (w : World) (ht : Tab w) : Calls Tryd.prog 5 #[.agg #[.int .i64 k, .int .i64 z, .int .i64 p, .int .i64 g, .int .i64 h]] w (RetV w (.string ⟨(fmtC ⟨k, z, p, g, h⟩).toArray⟩)) := by
  have hB0 : Below w.heap.size w (w.alloc (.cells #[.int .i64 k, .int .i64 z, .int .i64 p, .int .i64 g, .int .i64 h] 23)) := (Below.refl _ _).alloc (Nat.le_refl _) _
  have kb := Blk.new w 23 #[.int .i64 k, .int .i64 z, .int .i64 p, .int .i64 g, .int .i64 h]
  obtain ⟨b, hb⟩ : ∃ b, vspec k z p g h = b := ⟨_, rfl⟩
  have HVS := hide hb
  have ht0 := ht.below hB0
  go_enter Tryd.func5, Tryd.ntmps5
  go_upto_region 1 with fail
  obtain ⟨W0, hW0⟩ : ∃ W0, w.alloc (.cells #[.int .i64 k, .int .i64 z, .int .i64 p, .int .i64 g, .int .i64 h] 23) = W0 := ⟨_, rfl⟩
  obtain ⟨cb, hcb⟩ : ∃ cb, w.heap.size = cb := ⟨_, rfl⟩
  rw [hW0] at hB0 kb ht0 ⊢
  try rw [hcb]
  rw [hcb] at kb
  clear hW0 hcb
  have c0 : W0.cell? ⟨cb, 0, none⟩ = some (.int .i64 k) := by simpa using kb.cell 0
  have c1 : W0.cell? ⟨cb, 1, none⟩ = some (.int .i64 z) := by simpa using kb.cell 1
  have c2 : W0.cell? ⟨cb, 2, none⟩ = some (.int .i64 p) := by simpa using kb.cell 2
  have c3 : W0.cell? ⟨cb, 3, none⟩ = some (.int .i64 g) := by simpa using kb.cell 3
  have c4 : W0.cell? ⟨cb, 4, none⟩ = some (.int .i64 h) := by simpa using kb.cell 4
  have HVC := hide (ValidSpec_any k z p g h W0)
  rw [hb] at HVC
  clear hb
  go_wp2_with fail
  refine HVC.out.mono ?_
  rintro e W1 ⟨rfl, hb1⟩
  have hB1 : Below w.heap.size w W1 := hB0.trans (hb1.mono hB0.size)
  have kb1 := kb.below hb1 kb.lt
  have ht1 := ht0.below hb1
  clear c0 c1 c2 c3 c4 hb1 HVC
  cases b
  case false =>
    have HR := hide (show fmtC ⟨k, z, p, g, h⟩ = [] from by unfold fmtC; rw [if_neg]; show ¬ vspec k z p g h = true; rw [HVS.out]; decide)
    have HB := hide hB1
    clear hB0 hB1 kb kb1 ht0 ht1
    go_wp2
    go_ret
    exact ⟨by rw [HR.out]; rfl, HB.out⟩
  case true =>
  have HR := hide (show fmtC ⟨k, z, p, g, h⟩ = joinL (wdsC ⟨k, z, p, g, h⟩) from by unfold fmtC; rw [if_pos]; exact HVS.out)
  have HV := hide (of_decide_eq_true HVS.out)
  have hbg : Below W1.heap.size W1 (W1.alloc (.cells #[.string ⟨#[103, 108, 111, 98, 97, 108]⟩] 9)) := (Below.refl _ _).alloc (Nat.le_refl _) _
  have hog : (W1.alloc (.cells #[.string ⟨#[103, 108, 111, 98, 97, 108]⟩] 9)).ownsRow w.heap.size 9 1 (.slice (some ⟨W1.heap.size, 0, none⟩) 1 1) 1 ([gloW].map strV) := own_lit W1 9 1 1 #[.string ⟨#[103, 108, 111, 98, 97, 108]⟩] rfl (by unfold maxLen; omega) hB1.size
  have kb2 := kb1.below hbg kb1.lt
  have ht2 := ht1.below hbg
  have hB2 : Below w.heap.size w _ := hB1.trans (hbg.mono hB1.size)
  go_upto_region 5 with fail
  obtain ⟨g0, hg0⟩ : ∃ g0, W1.heap.size = g0 := ⟨_, rfl⟩
  obtain ⟨W2, hW2⟩ : ∃ W2, W1.alloc (.cells #[.string ⟨#[103, 108, 111, 98, 97, 108]⟩] 9) = W2 := ⟨_, rfl⟩
  rw [hW2] at hog kb2 ht2 hB2 ⊢
  try rw [hg0]
  rw [hg0] at hog
  have HB2 := hide hB2
  have HT2 := hide ht2
  clear hB0 hB1 kb kb1 ht0 ht1 hbg hW2 hg0 hB2 ht2
  have c0 : W2.cell? ⟨cb, 0, none⟩ = some (.int .i64 k) := by simpa using kb2.cell 0
  have c1 : W2.cell? ⟨cb, 1, none⟩ = some (.int .i64 z) := by simpa using kb2.cell 1
  have c2 : W2.cell? ⟨cb, 2, none⟩ = some (.int .i64 p) := by simpa using kb2.cell 2
  have c3 : W2.cell? ⟨cb, 3, none⟩ = some (.int .i64 g) := by simpa using kb2.cell 3
  have c4 : W2.cell? ⟨cb, 4, none⟩ = some (.int .i64 h) := by simpa using kb2.cell 4
  have hbl := kb2.lt
  first
  | (iterate 3 (first | go_values | go_skip | go_guarded | go_step | go_upon | go_back)); go_cut [3, 4] from 7 to 51 (fun s3 s4 wx => FmtS w (wdsC ⟨k, z, p, g, h⟩) s3 s4 wx)
  | (iterate 4 (first | go_values | go_skip | go_guarded | go_step | go_upon | go_back)); go_cut [3, 4] from 7 to 51 (fun s3 s4 wx => FmtS w (wdsC ⟨k, z, p, g, h⟩) s3 s4 wx)
  | (iterate 5 (first | go_values | go_skip | go_guarded | go_step | go_upon | go_back)); go_cut [3, 4] from 7 to 51 (fun s3 s4 wx => FmtS w (wdsC ⟨k, z, p, g, h⟩) s3 s4 wx)
  | (iterate 6 (first | go_values | go_skip | go_guarded | go_step | go_upon | go_back)); go_cut [3, 4] from 7 to 51 (fun s3 s4 wx => FmtS w (wdsC ⟨k, z, p, g, h⟩) s3 s4 wx)
  | (iterate 7 (first | go_values | go_skip | go_guarded | go_step | go_upon | go_back)); go_cut [3, 4] from 7 to 51 (fun s3 s4 wx => FmtS w (wdsC ⟨k, z, p, g, h⟩) s3 s4 wx)
  | (iterate 8 (first | go_values | go_skip | go_guarded | go_step | go_upon | go_back)); go_cut [3, 4] from 7 to 51 (fun s3 s4 wx => FmtS w (wdsC ⟨k, z, p, g, h⟩) s3 s4 wx)
  | (iterate 9 (first | go_values | go_skip | go_guarded | go_step | go_upon | go_back)); go_cut [3, 4] from 7 to 51 (fun s3 s4 wx => FmtS w (wdsC ⟨k, z, p, g, h⟩) s3 s4 wx)
  | (iterate 10 (first | go_values | go_skip | go_guarded | go_step | go_upon | go_back)); go_cut [3, 4] from 7 to 51 (fun s3 s4 wx => FmtS w (wdsC ⟨k, z, p, g, h⟩) s3 s4 wx)
  | (iterate 11 (first | go_values | go_skip | go_guarded | go_step | go_upon | go_back)); go_cut [3, 4] from 7 to 51 (fun s3 s4 wx => FmtS w (wdsC ⟨k, z, p, g, h⟩) s3 s4 wx)
  | (iterate 12 (first | go_values | go_skip | go_guarded | go_step | go_upon | go_back)); go_cut [3, 4] from 7 to 51 (fun s3 s4 wx => FmtS w (wdsC ⟨k, z, p, g, h⟩) s3 s4 wx)
  | (iterate 13 (first | go_values | go_skip | go_guarded | go_step | go_upon | go_back)); go_cut [3, 4] from 7 to 51 (fun s3 s4 wx => FmtS w (wdsC ⟨k, z, p, g, h⟩) s3 s4 wx)
  | (iterate 14 (first | go_values | go_skip | go_guarded | go_step | go_upon | go_back)); go_cut [3, 4] from 7 to 51 (fun s3 s4 wx => FmtS w (wdsC ⟨k, z, p, g, h⟩) s3 s4 wx)
  | (iterate 15 (first | go_values | go_skip | go_guarded | go_step | go_upon | go_back)); go_cut [3, 4] from 7 to 51 (fun s3 s4 wx => FmtS w (wdsC ⟨k, z, p, g, h⟩) s3 s4 wx)
  | (iterate 16 (first | go_values | go_skip | go_guarded | go_step | go_upon | go_back)); go_cut [3, 4] from 7 to 51 (fun s3 s4 wx => FmtS w (wdsC ⟨k, z, p, g, h⟩) s3 s4 wx)
  | (iterate 17 (first | go_values | go_skip | go_guarded | go_step | go_upon | go_back)); go_cut [3, 4] from 7 to 51 (fun s3 s4 wx => FmtS w (wdsC ⟨k, z, p, g, h⟩) s3 s4 wx)
  | (iterate 18 (first | go_values | go_skip | go_guarded | go_step | go_upon | go_back)); go_cut [3, 4] from 7 to 51 (fun s3 s4 wx => FmtS w (wdsC ⟨k, z, p, g, h⟩) s3 s4 wx)
  | (iterate 19 (first | go_values | go_skip | go_guarded | go_step | go_upon | go_back)); go_cut [3, 4] from 7 to 51 (fun s3 s4 wx => FmtS w (wdsC ⟨k, z, p, g, h⟩) s3 s4 wx)
  | (iterate 20 (first | go_values | go_skip | go_guarded | go_step | go_upon | go_back)); go_cut [3, 4] from 7 to 51 (fun s3 s4 wx => FmtS w (wdsC ⟨k, z, p, g, h⟩) s3 s4 wx)
  | (iterate 21 (first | go_values | go_skip | go_guarded | go_step | go_upon | go_back)); go_cut [3, 4] from 7 to 51 (fun s3 s4 wx => FmtS w (wdsC ⟨k, z, p, g, h⟩) s3 s4 wx)
  | (iterate 22 (first | go_values | go_skip | go_guarded | go_step | go_upon | go_back)); go_cut [3, 4] from 7 to 51 (fun s3 s4 wx => FmtS w (wdsC ⟨k, z, p, g, h⟩) s3 s4 wx)
  | (iterate 23 (first | go_values | go_skip | go_guarded | go_step | go_upon | go_back)); go_cut [3, 4] from 7 to 51 (fun s3 s4 wx => FmtS w (wdsC ⟨k, z, p, g, h⟩) s3 s4 wx)
  | (iterate 24 (first | go_values | go_skip | go_guarded | go_step | go_upon | go_back)); go_cut [3, 4] from 7 to 51 (fun s3 s4 wx => FmtS w (wdsC ⟨k, z, p, g, h⟩) s3 s4 wx)
  | (iterate 25 (first | go_values | go_skip | go_guarded | go_step | go_upon | go_back)); go_cut [3, 4] from 7 to 51 (fun s3 s4 wx => FmtS w (wdsC ⟨k, z, p, g, h⟩) s3 s4 wx)
  | (iterate 26 (first | go_values | go_skip | go_guarded | go_step | go_upon | go_back)); go_cut [3, 4] from 7 to 51 (fun s3 s4 wx => FmtS w (wdsC ⟨k, z, p, g, h⟩) s3 s4 wx)
  | (iterate 27 (first | go_values | go_skip | go_guarded | go_step | go_upon | go_back)); go_cut [3, 4] from 7 to 51 (fun s3 s4 wx => FmtS w (wdsC ⟨k, z, p, g, h⟩) s3 s4 wx)
  | (iterate 28 (first | go_values | go_skip | go_guarded | go_step | go_upon | go_back)); go_cut [3, 4] from 7 to 51 (fun s3 s4 wx => FmtS w (wdsC ⟨k, z, p, g, h⟩) s3 s4 wx)
  | (iterate 29 (first | go_values | go_skip | go_guarded | go_step | go_upon | go_back)); go_cut [3, 4] from 7 to 51 (fun s3 s4 wx => FmtS w (wdsC ⟨k, z, p, g, h⟩) s3 s4 wx)
  case first =>
    have hv := HV.out
    have HBX := hide (show ∀ O O' : Obj, Below w.heap.size w ((W2.alloc O).alloc O').drew from fun O O' => ((HB2.out.alloc HB2.out.size O).alloc (by rw [World.size_alloc]; have := HB2.out.size; omega) O').drew)
    rcases hv with ⟨rfl, hz1, hz2, hh1, hh2, rfl, rfl⟩ | ⟨rfl, hz1, hz2, hp1, hp2, _, hh1, hh2, rfl⟩ | ⟨rfl, hg1, hg2, rfl, rfl, rfl⟩ | ⟨rfl, rfl, rfl, rfl, rfl⟩
    · have HL := hide (two_lit W2 tumW [z, h] (by simp))
      clear hog kb2 c2 c3
      go_wp2_with fail
      go_region
      all_goals
        go_wp2_with fail
        go_meet
        case rel =>
          first
          | exact ⟨tumW, [z, h], _, _, _, _, rfl, rfl, rfl, by simp, (by intro n hn; simp only [List.mem_cons, List.not_mem_nil, or_false] at hn; omega), by decide, own_mono HL.out.1.1 HB2.out.size, (fun _ => ⟨_, rfl, HL.out.1.2⟩), HBX.out _ _⟩
          | exact ⟨tumW, [z, h], _, _, _, _, rfl, rfl, rfl, by simp, (by intro n hn; simp only [List.mem_cons, List.not_mem_nil, or_false] at hn; omega), by decide, own_mono HL.out.2.1 HB2.out.size, (fun _ => ⟨_, rfl, HL.out.2.2⟩), HBX.out _ _⟩
    · have HL := hide (two_lit W2 sliW [z, p, h] (by simp))
      clear hog kb2 c3
      go_wp2_with fail
      go_region
      all_goals
        go_wp2_with fail
        go_meet
        case rel =>
          first
          | exact ⟨sliW, [z, p, h], _, _, _, _, rfl, rfl, rfl, by simp, (by intro n hn; simp only [List.mem_cons, List.not_mem_nil, or_false] at hn; omega), by decide, own_mono HL.out.1.1 HB2.out.size, (fun _ => ⟨_, rfl, HL.out.1.2⟩), HBX.out _ _⟩
          | exact ⟨sliW, [z, p, h], _, _, _, _, rfl, rfl, rfl, by simp, (by intro n hn; simp only [List.mem_cons, List.not_mem_nil, or_false] at hn; omega), by decide, own_mono HL.out.2.1 HB2.out.size, (fun _ => ⟨_, rfl, HL.out.2.2⟩), HBX.out _ _⟩
    · have HL := hide (two_lit W2 sesW [g] (by simp))
      clear hog kb2 c1 c2 c4
      go_wp2_with fail
      go_region
      all_goals
        go_wp2_with fail
        go_meet
        case rel =>
          first
          | exact ⟨sesW, [g], _, _, _, _, rfl, rfl, rfl, by simp, (by intro n hn; simp only [List.mem_cons, List.not_mem_nil, or_false] at hn; omega), by decide, own_mono HL.out.1.1 HB2.out.size, (fun _ => ⟨_, rfl, HL.out.1.2⟩), HBX.out _ _⟩
          | exact ⟨sesW, [g], _, _, _, _, rfl, rfl, rfl, by simp, (by intro n hn; simp only [List.mem_cons, List.not_mem_nil, or_false] at hn; omega), by decide, own_mono HL.out.2.1 HB2.out.size, (fun _ => ⟨_, rfl, HL.out.2.2⟩), HBX.out _ _⟩
    · have HO := hide hog
      clear hog kb2 c1 c2 c3 c4
      go_wp2_with fail
      go_meet
      case rel => exact ⟨gloW, [], _, _, _, _, rfl, rfl, rfl, by simp, nofun, by decide, HO.out, (fun h => absurd h (by simp)), HB2.out⟩
  case rest =>
  obtain ⟨kw, ns, A, c, B, d, rfl, rfl, hW, hn3, hnb, hkl, hown, hints, hB⟩ := hcut
  obtain ⟨V, hV⟩ : ∃ V : World, V = wc := ⟨_, rfl⟩
  subst hV
  have HNB := hide hnb
  have HWW := hide hW
  have hown0 : V.ownsRow w.heap.size 9 1 (.slice A (0 + 1) c) (0 + 1) ((kw :: (ns.take 0).map Lib.itoa).map strV) := hown
  have HO0 := hide hown0
  have HI0 := hide hints
  have HBV := hide hB
  clear hog kb2 c0 c1 c2 c3 c4 hbl hnb hW hown hown0 hints hB HB2
  go_wp2_with fail
  have hown0 := HO0.out
  have hints0 := HI0.out
  have hBV := HBV.out
  go_loopw [3, 39] (fun vo i wr => ∃ (j : Nat) (A : Option Addr) (c : Nat), j ≤ ns.length ∧ i = .int .i64 (j : Int) ∧ vo = .slice A (j + 1) c ∧ wr.ownsRow w.heap.size 9 1 (.slice A (j + 1) c) (j + 1) ((kw :: (ns.take j).map Lib.itoa).map strV) ∧
    (0 < ns.length → ∃ bn, B = some ⟨bn, 0, none⟩ ∧ Blk wr bn 3 (ns.map (Value.int .i64)).toArray) ∧ Below w.heap.size w wr) (fun _ i _ => ns.length - (intOf i).toNat)
  case atStart => exact ⟨0, A, c, Nat.zero_le _, rfl, rfl, hown0, hints0, hBV⟩
  case round =>
    clear hown0 hints0 hBV HO0 HI0 HBV
    obtain ⟨j, A, c, hj, rfl, rfl, hown, hints, hB⟩ := hrel
    by_cases hlt : j < ns.length
    · obtain ⟨bn, rfl, hk⟩ := hints (by omega)
      obtain ⟨x, hx⟩ : ∃ x, ns[j]? = some x := ⟨_, List.getElem?_eq_getElem hlt⟩
      have e0 : wr.cell? ⟨bn, j, none⟩ = some (.int .i64 x) := by rw [hk.cell j]; simp [hx]
      have hxb := HNB.out x (List.mem_of_getElem? hx)
      have hkl2 := hk.lt
      have HTK := hide (show (ns.take (j + 1)).map Lib.itoa = (ns.take j).map Lib.itoa ++ [Lib.itoa x] from by rw [List.take_add_one, hx, List.map_append]; rfl)
      have q1 : (0 : Int) ≤ (j : Int) := by omega
      have q2 : (j : Int) < (ns.length : Int) := by omega
      have HC := hide (itoa_any x (by omega) (by omega) wr (ht.below hB))
      have HK := hide hk
      have HO := hide hown
      have HB := hide hB
      clear hx hk hown hB hints hxb
      go_wp2_with fail
      refine HC.out.mono ?_
      rintro e W5 ⟨rfl, hb5⟩
      have hB5 := HB.out.trans (hb5.mono HB.out.size)
      obtain ⟨A', c', X', hrun, hown', hblk, hb'⟩ := wd_app1 (Lib.itoa x) (own_below HO.out hb5) hB5.size (by omega)
      have hk5 := HK.out.below hb5 HK.out.lt
      have HKX := hide (show Blk X' bn 3 (ns.map (Value.int .i64)).toArray from (hblk bn hk5.lt (own_ne (own_below HO.out hb5) hk5 (by decide))).trans hk5)
      have HOX := hide hown'
      have HBX := hide (hB5.trans hb')
      clear hb5 hB5 hown' hblk hb' hk5 HC e0 hkl2
      go_wp2_with (at_builtin; refine wpList_append_isW rfl _ _ 37 rfl rfl rfl rfl hrun ?_)
      go_roundw
      case rel => exact ⟨j + 1, A', c', by omega, by go_num, rfl, by rw [HTK.out]; exact HOX.out, (fun _ => ⟨bn, rfl, HKX.out⟩), HBX.out⟩
      case measure => simp [intOf]; omega
    · obtain rfl : j = ns.length := by omega
      have htk : ns.take ns.length = ns := List.take_length
      rw [htk] at hown
      have hl30 : ∀ v ∈ kw :: ns.map Lib.itoa, v.length ≤ 30 := fun v hv => by
        rcases List.mem_cons.1 hv with rfl | hv
        · omega
        · obtain ⟨n, hn, rfl⟩ := List.mem_map.1 hv
          have := HNB.out n hn
          exact Nat.le_trans (Lib.itoa_length_le n (by omega) (by omega)) (by omega)
      have hjl := joinL_len _ hl30
      have hmm : ((kw :: ns.map Lib.itoa).map fun l => (⟨l.toArray⟩ : ByteArray)).map (·.data.toList) = kw :: ns.map Lib.itoa := by rw [List.map_map]; exact List.map_id'' (fun l => by simp) _
      have hJ := joinJ_any A (ns.length + 1) c ((kw :: ns.map Lib.itoa).map fun l => (⟨l.toArray⟩ : ByteArray)) ⟨#[32]⟩ wr (by rw [List.map_map]; exact Reads.of_own hown) (by omega) (own_capW hown (by omega)) (by
        rw [hmm]
        show (Lib.join (kw :: ns.map Lib.itoa) [32]).length ≤ 1000000
        rw [join_L]
        rw [List.length_cons, List.length_map] at hjl
        omega)
      rw [hmm] at hJ
      have e32 : (⟨#[32]⟩ : ByteArray).data.toList = [32] := rfl
      rw [e32, join_L] at hJ
      have HJ := hide hJ
      have HB := hide hB
      have HE := hide (show fmtC ⟨k, z, p, g, h⟩ = joinL (kw :: ns.map Lib.itoa) from HR.out.trans (congrArg joinL HWW.out))
      clear hJ hown hints hB hjl hmm hl30 htk e32
      go_wp2_with fail
      refine HJ.out.mono ?_
      rintro e W9 ⟨rfl, hb9⟩
      have HB9 := hide (HB.out.trans (hb9.mono HB.out.size))
      clear hb9
      go_wp2
      go_ret
      exact ⟨by rw [HE.out]; rfl, HB9.out⟩
end Go.Proofs.YtehifbogadohgaaDoor
