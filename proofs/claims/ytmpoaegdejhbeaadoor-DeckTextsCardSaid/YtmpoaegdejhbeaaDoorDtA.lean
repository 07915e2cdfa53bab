/-
  The walks of deck.numbers and of the reference's Number. No condition but the library's tables and errors.
-/
import Derived.Test.YtmpoaegdejhbeaaDoorLib3
import Derived.Test.YtmpoaegdejhbeaaDoorDtP
import Derived.Test.YtmpoaegdejhbeaaDoorTcI
namespace Go.Proofs.YtmpoaegdejhbeaaDoor
open Go.RowKit
set_option linter.unusedVariables false
set_option linter.unusedSimpArgs false

theorem var_below {w w' : World} {n : String} {cs : Array Value} (h : w.var? Tryd.prog n = some cs) (hb : Below w.heap.size w w') : w'.var? Tryd.prog n = some cs := by
  unfold World.var? at *
  cases hg : Tryd.prog.globalNamed n with
  | none => simp [hg] at h
  | some g =>
    simp only [hg, Option.bind_some] at h ⊢
    have hlt : g < w.heap.size := by
      rcases Nat.lt_or_ge g w.heap.size with h' | h'
      · exact h'
      · rw [Array.getElem?_eq_none h'] at h; simp at h
    rw [hb.block g hlt]
    exact h
theorem Errs.below {w w' : World} (h : Errs w) (hb : Below w.heap.size w w') : Errs w' := by
  obtain ⟨⟨t1, p1, h1⟩, t2, p2, h2⟩ := h
  exact ⟨⟨t1, p1, var_below h1 hb⟩, t2, p2, var_below h2 hb⟩
theorem MaxL.below {w w' : World} (h : MaxL w) (hb : Below w.heap.size w w') : MaxL w' := by
  obtain ⟨m, hm⟩ := h
  have hlt : laysM146_ren.g 1 < w.heap.size := by
    rcases Nat.lt_or_ge (laysM146_ren.g 1) w.heap.size with h' | h'
    · exact h'
    · simp [World.cell?, Array.getElem?_eq_none h'] at hm
  exact ⟨m, (hb.cell (p := ⟨laysM146_ren.g 1, 0, none⟩) hlt).trans hm⟩
theorem seqT (x y : ByteArray) : (x.toList == y.toList) = decide (x.data.toList = y.data.toList) := by
  rw [ByteArray.toList_eq, ByteArray.toList_eq, Bool.eq_iff_iff]; simp
theorem infoIntN : (Tryd.prog.info? 3).map (fun i => (i.zero, i.size, i.bytes)) = some (some (.int .i64 0), 1, 8) := by kernel_rfl
/-- A list of numbers grows by one. -/
theorem in_app (x : Int) {X : World} {N : Nat} {A : Option Addr} {n c : Nat} {l : List Int} (hown : X.ownsRow N 3 1 (.slice A n c) n (l.map (Value.int .i64))) (hN : N ≤ X.heap.size) (hl : n ≤ 1000000) :
    ∃ A' c' X', (Builtin.append_ #[22, 22] 22 #[.slice A n c, .slice (some ⟨X.heap.size, 0, none⟩) 1 1]).run Tryd.prog (X.alloc (.cells #[.int .i64 x] 3)) = .ok (.slice A' (n + 1) c') X' ∧
      X'.ownsRow N 3 1 (.slice A' (n + 1) c') (n + 1) ((l ++ [x]).map (Value.int .i64)) ∧ Below N X X' := by
  obtain ⟨i0, hi, hz0, hz1, hz2⟩ := info_partsW infoIntN
  obtain ⟨o, ho⟩ : ∃ o : Obj, (.cells #[.int .i64 x] 3 : Obj) = o := ⟨_, rfl⟩
  have hs : (X.alloc o).heap.size = X.heap.size + 1 := World.size_alloc _ _
  have kq := Blk.new X 3 #[.int .i64 x]
  have hba : Below X.heap.size X (X.alloc (.cells #[.int .i64 x] 3)) := (Below.refl _ _).alloc (Nat.le_refl _) _
  rw [ho] at kq hba ⊢
  have hown1 := own_below hown hba
  have hrd : Reads (X.alloc o) (X.alloc o).heap.size 1 (some ⟨X.heap.size, 0, none⟩) 1 [.int .i64 x] := ⟨rfl, fun _ => ⟨X.heap.size, 0, rfl, by omega, fun j u hu => by rw [Nat.zero_add, kq.cell j]; simpa using hu⟩⟩
  obtain ⟨v', X', hrun, h2, h3, h4⟩ := run_append_any (P := Tryd.prog) (X.alloc o) N 22 22 3 i0 _ 1 8 Tryd.underlying22 hi hz0 hz1 hz2 rfl (by decide) (.slice A n c) n (l.map (Value.int .i64)) hown1 (X.alloc o).heap.size (some ⟨X.heap.size, 0, none⟩) 1 1 [.int .i64 x] hrd (by
    intro u hu
    obtain rfl : u = .int .i64 x := by simpa using hu
    rfl) (by unfold maxLen; omega) (by omega) (by omega)
  obtain ⟨A', c', rfl, _⟩ := own_form h2
  exact ⟨A', c', X', hrun, by rw [List.map_append]; exact h2, below_append (hba.mono hN) hown1 (by omega) h3⟩
/-- Numbers of words, handed back. -/
def RetNs (w : World) (o : Option (List Int)) (e : Ending) (w' : World) : Prop := ∃ A n c, e = .returned (.tuple #[.slice A n c, .bool o.isSome]) ∧ Below w.heap.size w w' ∧ ∀ l, o = some l → n = l.length ∧ w'.ownsRow w.heap.size 3 1 (.slice A n c) n (l.map (Value.int .i64))
theorem RetNs.bad {w w' : World} {o : Option (List Int)} {A : Option Addr} {n c : Nat} (h : o = none) (hb : Below w.heap.size w w') : RetNs w o (.returned (.tuple #[.slice A n c, .bool false])) w' := by
  subst h
  exact ⟨A, n, c, rfl, hb, fun l hl => by cases hl⟩
set_option maxRecDepth 100000 in
set_option maxHeartbeats 8000000 in
theorem numbers_any (A : Option Addr) (n c : Nat) (L : List (List UInt8)) (w : World) (hr : Reads w w.heap.size 1 A n (L.map strV)) (hn : n ≤ 1000000) (hL : ∀ v ∈ L, v.length ≤ 1000000) (ht : Tab w) (he : Errs w) :
    Calls Tryd.prog 38 #[.slice A n c] w (RetNs w (numsO numT L)) := by
  have HLN := hide hr.len1
  have hown0 : w.ownsRow w.heap.size 3 1 (.slice none 0 0) 0 (([] : List Int).map (Value.int .i64)) := ⟨rfl, .inl ⟨rfl, rfl⟩⟩
  have hB0 := Below.refl w.heap.size w
  go_enter Tryd.func38, Tryd.ntmps38
  go_wp2_with fail
  go_loopw [4, 11] (fun vo i wr => ∃ (j : Nat) (A2 : Option Addr) (k c2 : Nat) (l : List Int), j ≤ n ∧ i = .int .i64 (j : Int) ∧ vo = .slice A2 k c2 ∧ k = j ∧ l.length = k ∧ numsO numT (L.take j) = some l ∧ wr.ownsRow w.heap.size 3 1 (.slice A2 k c2) k (l.map (Value.int .i64)) ∧ Below w.heap.size w wr) (fun _ i _ => n - (intOf i).toNat)
  case atStart => exact ⟨0, none, 0, 0, [], Nat.zero_le _, rfl, rfl, rfl, rfl, rfl, hown0, hB0⟩
  case round =>
    clear hown0 hB0
    obtain ⟨j, A2, k, c2, l, hj, rfl, rfl, hkj, hlk, hnum, hown, hB⟩ := hrel
    by_cases hlt : j < n
    case pos =>
      obtain ⟨b, off, x, rfl, hb, hx, hc⟩ := (hr.below hB).at1 hlt
      have hxs := hL x (List.mem_of_getElem? hx)
      have HSN := hide (take_snoc' hx)
      have HPRE := hide (show numsO numT (L.take (j + 1)) = none → numsO numT L = none from fun h => by
        have := numsO_none numT (L.take (j + 1)) (L.drop (j + 1)) h
        rwa [List.take_append_drop] at this)
      have HNUM := hide hnum
      have HOWN := hide hown
      have HB := hide hB
      have HKJ := hide hkj
      have HLK := hide hlk
      have q1 : (0 : Int) ≤ (j : Int) := by omega
      have q2 : (j : Int) < (n : Int) := by omega
      have hk6 : k ≤ 1000000 := by omega
      have hsz := hB.size
      unfold strV at hc
      obtain ⟨xb, hxb⟩ : ∃ xb : ByteArray, (⟨x.toArray⟩ : ByteArray) = xb := ⟨_, rfl⟩
      have hxl : xb.data.toList = x := by rw [← hxb]
      have hxz : xb.size ≤ 1000000 := by rw [← hxb]; show x.toArray.size ≤ _; rw [List.size_toArray]; exact hxs
      rw [hxb] at hc
      have HC := hide (atoi_told xb wr hxz (he.below hB))
      rw [hxl] at HC
      have HXL := hide hxl
      clear hx hnum hown hB hkj hlk hxb hxl hxs
      go_wp2_with fail
      refine HC.out.mono ?_
      rintro e W5 ⟨v, er, rfl, hb5, hcase⟩
      have hB5 : Below w.heap.size w W5 := HB.out.trans (hb5.mono hsz)
      have hown5 := own_below HOWN.out hb5
      clear HC HOWN HB hc
      rcases hcase with ⟨rfl, hok, hv1, hv2⟩ | ⟨⟨tp, p, rfl⟩, hno⟩
      · obtain ⟨T, hT⟩ : ∃ T : ByteArray, (⟨(Lib.itoa v).toArray⟩ : ByteArray) = T := ⟨_, rfl⟩
        have HI := hide (itoa_any v hv1 hv2 W5 (ht.below hB5))
        rw [hT] at HI
        have hTl : T.data.toList = Lib.itoa v := by rw [← hT]
        clear hT
        by_cases hE : T.data.toList = xb.data.toList
        · have y1 : (T.toList == xb.toList) = true := by rw [seqT, decide_eq_true_iff]; exact hE
          have y2 : (T.toList != xb.toList) = false := by rw [bne, y1]; rfl
          have HV := hide (show numT x = some v from by unfold numT; rw [hok]; simp only; rw [if_pos]; rw [← hTl, hE]; exact HXL.out)
          have HNX := hide (show numsO numT (L.take (j + 1)) = some (l ++ [v]) from by rw [HSN.out, numsO_snoc, HNUM.out, HV.out])
          have hsz5 := hB5.size
          have HO5 := hide hown5
          have HB5 := hide hB5
          clear hE hTl hok hown5 hB5
          go_wp2_with fail
          refine HI.out.mono ?_
          rintro e W6 ⟨rfl, hb6⟩
          have hB6 : Below w.heap.size w W6 := HB5.out.trans (hb6.mono hsz5)
          have hown6 := own_below HO5.out hb6
          obtain ⟨A', c', X', hrun, hown', hb'⟩ := in_app v hown6 hB6.size hk6
          have HO := hide hown'
          have HB6 := hide (hB6.trans hb')
          clear hb6 hB6 hown6 hown' hb' HO5 HB5 HI
          go_wp2_with (at_builtin; refine wpList_append_isW rfl _ _ 22 rfl rfl rfl rfl hrun ?_)
          go_roundw
          case rel => exact ⟨j + 1, A', k + 1, c', l ++ [v], by omega, by go_num, rfl, by rw [HKJ.out], by rw [List.length_append, HLK.out]; rfl, HNX.out, HO.out, HB6.out⟩
          case measure => simp [intOf]; omega
        · have y1 : (T.toList == xb.toList) = false := by rw [seqT, decide_eq_false_iff_not]; exact hE
          have y2 : (T.toList != xb.toList) = true := by rw [bne, y1]; rfl
          have HR := hide (HPRE.out (by
            rw [HSN.out, numsO_snoc, HNUM.out]
            have : numT x = none := by
              unfold numT; rw [hok]; simp only
              rw [if_neg]
              intro h
              exact hE (by rw [hTl, h]; exact HXL.out.symm)
            rw [this]))
          have hsz5 := hB5.size
          have HB5 := hide hB5
          clear hE hTl hok hown5 hB5
          go_wp2_with fail
          refine HI.out.mono ?_
          rintro e W6 ⟨rfl, hb6⟩
          have HB6 := hide (HB5.out.trans (hb6.mono hsz5))
          clear hb6 HB5 HI
          go_wp2
          refine bodyPost_ret (results_tmp2 rfl _ _ _) rfl ?_
          exact RetNs.bad HR.out HB6.out
      · have HR := hide (HPRE.out (by rw [HSN.out, numsO_snoc, HNUM.out, hno]))
        have HB5 := hide hB5
        clear hno hB5 hown5
        go_wp2
        refine bodyPost_ret (results_tmp2 rfl _ _ _) rfl ?_
        exact RetNs.bad HR.out HB5.out
    case neg =>
      have he2 : j = n := by omega
      have htk : L.take j = L := by rw [he2]; exact take_all HLN.out
      rw [htk] at hnum
      have HR := hide (show RetNs w (numsO numT L) (.returned (.tuple #[.slice A2 k c2, .bool true])) wr from by
        rw [hnum]
        exact ⟨A2, k, c2, rfl, hB, fun l' hl' => by injection hl' with hl'; subst hl'; exact ⟨hlk.symm, hown⟩⟩)
      clear hnum hown hB hkj hlk he2 htk
      go_wp2
      refine bodyPost_ret (results_tmp2 rfl _ _ _) rfl ?_
      exact HR.out
end Go.Proofs.YtmpoaegdejhbeaaDoor
