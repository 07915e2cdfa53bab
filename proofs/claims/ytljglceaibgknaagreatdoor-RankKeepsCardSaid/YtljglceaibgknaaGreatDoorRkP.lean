/-
  Setups: slices.Contains at ints; rank.columns and the reference's once; Valid on both sides.
  The comparison of two rows of a group (rank.order's closure), rank.key, with the draws counted; append with the draws counted.
  rank.Valid, rank.right, rank.asked and the reference's Valid, Fits, judged: what they answer. (Printed by gen_rkp.)
-/
import Derived.Test.YtljglceaibgknaaGreatDoorRkL
import Derived.Test.YtljglceaibgknaaGreatDoorUpA
import Derived.Test.YtljglceaibgknaaGreatDoorRngH
import Derived.Test.YtljglceaibgknaaGreatDoorGb
import Derived.Test.YtljglceaibgknaaGreatDoorPjA
import Derived.Test.YtljglceaibgknaaGreatDoorBgT4
namespace Go.Proofs.YtljglceaibgknaaGreatDoor

section
open Go.RowKit Go.Shelf
attribute [local go_sem] Oper.semAt_some
set_option linter.unusedVariables false
set_option linter.unusedSimpArgs false

theorem rwithin_any (n lo hi : Int) (w : World) : Calls Tryz.prog 59 #[.int .i64 n, .int .i64 lo, .int .i64 hi] w fun e w' => e = .returned (.bool (btw n lo hi)) ∧ w = w' := by
  by_cases h1 : n < lo
  · rw [btw_lo h1]
    go_enter Tryz.func59, Tryz.ntmps59
    go_wp2
    go_ret
    exact ⟨rfl, rfl⟩
  · rw [show btw n lo hi = decide (n ≤ hi) from by simp [btw, show lo ≤ n by omega]]
    go_enter Tryz.func59, Tryz.ntmps59
    go_wp2
    go_ret
    exact ⟨rfl, rfl⟩
theorem fwithin_any (n lo hi : Int) (w : World) : Calls Tryz.prog 61 #[.int .i64 n, .int .i64 lo, .int .i64 hi] w fun e w' => e = .returned (.bool (btw n lo hi)) ∧ w = w' := by
  by_cases h1 : n < lo
  · rw [btw_lo h1]
    go_enter Tryz.func61, Tryz.ntmps61
    go_wp2
    go_ret
    exact ⟨rfl, rfl⟩
  · rw [show btw n lo hi = decide (n ≤ hi) from by simp [btw, show lo ≤ n by omega]]
    go_enter Tryz.func61, Tryz.ntmps61
    go_wp2
    go_ret
    exact ⟨rfl, rfl⟩
/-- Where y stands first; -1 if nowhere. -/
def RetIx (xs : List Int) (y : Int) (w : World) (e : Ending) (w' : World) : Prop := (∃ i : Int, e = .returned (.int .i64 i) ∧ (decide (0 ≤ i) = decide (y ∈ xs)) ∧ i < 9223372036854775807) ∧ w = w'
theorem in_snoc {xs : List Int} {k : Nat} {x y : Int} (hx : xs[k]? = some x) (h : y ∉ xs.take k) (hne : y ≠ x) : y ∉ xs.take (k + 1) := by
  rw [take_snoc' hx, List.mem_append]
  rintro (h1 | h1)
  · exact h h1
  · exact hne (by simpa using h1)
set_option maxHeartbeats 1000000 in
theorem Index_any (A : Option Addr) (n c B : Nat) (xs : List Int) (y : Int) (w : World) (hx : Reads w B 1 A n (xs.map (Value.int .i64))) (hn : n ≤ 4611686018427387904) :
    Calls Tryz.prog 160 #[.slice A n c, .int .i64 y] w (RetIx xs y w) := by
  have HL := hide hx.len1
  go_enter Tryz.func160, Tryz.ntmps160
  go_wp2_with fail
  go_loop [5, 8] (fun _ i => ∃ k : Nat, k ≤ n ∧ i = .int .i64 k ∧ y ∉ xs.take k) (fun _ i => n - (intOf i).toNat)
  case atStart => exact ⟨0, Nat.zero_le _, rfl, by simp⟩
  case round =>
    obtain ⟨k, hk, rfl, hany⟩ := hrel
    have HA := hide hany
    clear hany
    by_cases hlt : k < n
    · obtain ⟨b, off, x, ha, hb, hxk, hc⟩ := hx.at1 hlt
      rw [ha]
      clear ha
      have HXK := hide hxk
      clear hxk
      by_cases hxy : y = x
      · subst hxy
        go_wp2
        go_ret
        exact ⟨⟨k, rfl, by simp [List.mem_of_getElem? HXK.out], by omega⟩, rfl⟩
      · have hne : (y == x) = false := by simpa using hxy
        have HS := hide (in_snoc HXK.out HA.out hxy)
        go_wp2
        go_round
        case rel => exact ⟨k + 1, by omega, by go_num, HS.out⟩
        case measure => simp [intOf]; omega
    · obtain rfl : k = n := by omega
      have h2 := HA.out
      rw [take_all HL.out] at h2
      have H2 := hide h2
      clear h2 HA
      go_wp2
      go_ret
      exact ⟨⟨-1, rfl, by simp [H2.out], by omega⟩, rfl⟩
theorem Contains_any (A : Option Addr) (n c B : Nat) (xs : List Int) (y : Int) (w : World) (hx : Reads w B 1 A n (xs.map (Value.int .i64))) (hn : n ≤ 4611686018427387904) :
    Calls Tryz.prog 119 #[.slice A n c, .int .i64 y] w fun e w' => e = .returned (.bool (decide (y ∈ xs))) ∧ w = w' := by
  go_enter Tryz.func119, Tryz.ntmps119
  go_wp2_with fail
  refine (Index_any A n c B xs y w hx hn).mono ?_
  rintro e w' ⟨⟨i, rfl, hi, h2⟩, rfl⟩
  have HI := hide hi
  clear hi
  go_wp2
  go_ret
  exact ⟨ret_bool HI.out, rfl⟩
theorem Reads.pre {w : World} {B n k : Nat} {A : Option Addr} {xs : List Int} (h : Reads w B 1 A n (xs.map (Value.int .i64))) (hk : k ≤ n) : Reads w B 1 A k ((xs.take k).map (Value.int .i64)) := by
  have hl := h.len1
  refine ⟨by simp; omega, fun h0 => ?_⟩
  obtain ⟨b, off, e, hb, hc⟩ := h.2 (by omega)
  refine ⟨b, off, e, hb, fun j u hu => hc j u ?_⟩
  rw [List.map_take, List.getElem?_take] at hu
  split at hu
  · exact hu
  · cases hu
theorem cols_next {xs : List Int} {k : Nat} {x width : Int} (hx : xs[k]? = some x) (h : colsB (xs.take k) width = true) (h1 : btw x 0 (width - 1) = true) (h2 : x ∉ xs.take k) : colsB (xs.take (k + 1)) width = true := by
  unfold colsB at h ⊢
  rw [Bool.and_eq_true, decide_eq_true_eq] at h ⊢
  rw [take_snoc' hx, List.all_append, h.1, List.nodup_append]
  refine ⟨by simpa using h1, h.2, by simp, fun a ha b hb e => ?_⟩
  obtain rfl := List.mem_singleton.1 hb
  exact h2 (e ▸ ha)
theorem cols_range {xs : List Int} {k : Nat} {x width : Int} (hx : xs[k]? = some x) (h1 : btw x 0 (width - 1) = false) : colsB xs width = false := by
  unfold colsB
  rw [Bool.and_eq_false_iff]
  left
  rw [List.all_eq_false]
  exact ⟨x, List.mem_of_getElem? hx, by simpa using h1⟩
theorem cols_twice {xs : List Int} {k : Nat} {x width : Int} (hx : xs[k]? = some x) (h1 : x ∈ xs.take k) : colsB xs width = false := by
  unfold colsB
  rw [Bool.and_eq_false_iff]
  right
  rw [decide_eq_false_iff_not]
  intro hn
  obtain ⟨hk, e⟩ := List.getElem?_eq_some_iff.1 hx
  obtain ⟨j, hj, e2⟩ := List.mem_take_iff_getElem.1 h1
  have hjk : j ≠ k := by omega
  have := (List.getElem_inj (i := j) (j := k) (h₀ := by omega) (h₁ := hk) hn).1 (by rw [e2, e])
  omega
set_option maxHeartbeats 2000000 in
theorem columns_any (A : Option Addr) (n c B : Nat) (xs : List Int) (width : Int) (w : World) (hx : Reads w B 1 A n (xs.map (Value.int .i64))) (hn : n ≤ 4611686018427387904) (hc : n ≤ c) (h0 : -1000 ≤ width) (h8 : width ≤ 1000) :
    Calls Tryz.prog 60 #[.slice A n c, .int .i64 width] w fun e w' => e = .returned (.bool (colsB xs width)) ∧ w = w' := by
  have HL := hide hx.len1
  have wr : IntKind.i64.wrap (width - 1) = width - 1 := by rw [IntKind.wrap_i64]; omega
  go_enter Tryz.func60, Tryz.ntmps60
  go_wp2_with fail
  go_loopw [9] (fun i wr => ∃ k : Nat, k ≤ n ∧ i = .int .i64 k ∧ colsB (xs.take k) width = true ∧ w = wr) (fun i _ => n - (intOf i).toNat)
  case atStart => exact ⟨0, Nat.zero_le _, rfl, rfl, rfl⟩
  case round =>
    obtain ⟨k, hk, rfl, hany, rfl⟩ := hrel
    have HA := hide hany
    clear hany
    by_cases hlt : k < n
    · obtain ⟨b, off, x, ha, hb, hxk, hcx⟩ := hx.at1 hlt
      have HP := hide (hx.pre hk)
      have HXK := hide hxk
      rw [ha] at HP ⊢
      clear ha hxk
      have HW := hide (rwithin_any x 0 (width - 1) w)
      have HC := hide (Contains_any (some ⟨b, off, none⟩) k c B (xs.take k) x w HP.out (by omega))
      have q1 : (0 : Int) ≤ (k : Int) := by omega
      have q2 : (k : Int) < (n : Int) := by omega
      have q3 : (k : Int) ≤ (c : Int) := by omega
      cases hb1 : btw x 0 (width - 1)
      · rw [hb1] at HW
        have HX := hide (cols_range HXK.out hb1)
        go_wp2_with fail
        refine HW.out.mono ?_
        rintro e w' ⟨rfl, rfl⟩
        go_wp2
        go_ret
        exact ⟨ret_bool HX.out.symm, rfl⟩
      · rw [hb1] at HW
        by_cases hin : x ∈ xs.take k
        · have hd : decide (x ∈ xs.take k) = true := by simpa using hin
          rw [hd] at HC
          have HX := hide (cols_twice (width := width) HXK.out hin)
          clear hd hin
          go_wp2_with fail
          refine HW.out.mono ?_
          rintro e w' ⟨rfl, rfl⟩
          go_wp2_with fail
          refine HC.out.mono ?_
          rintro e w' ⟨rfl, rfl⟩
          go_wp2
          go_ret
          exact ⟨ret_bool HX.out.symm, rfl⟩
        · have hd : decide (x ∈ xs.take k) = false := by simpa using hin
          rw [hd] at HC
          have HX := hide (cols_next HXK.out HA.out hb1 hin)
          clear hd hin
          go_wp2_with fail
          refine HW.out.mono ?_
          rintro e w' ⟨rfl, rfl⟩
          go_wp2_with fail
          refine HC.out.mono ?_
          rintro e w' ⟨rfl, rfl⟩
          go_wp2
          go_roundw
          case rel => exact ⟨k + 1, by omega, by go_num, HX.out, by first | rfl | trivial⟩
          case measure => simp [intOf]; omega
    · obtain rfl : k = n := by omega
      have h2 := HA.out
      rw [take_all HL.out] at h2
      have H2 := hide h2
      clear h2 HA
      go_wp2
      go_ret
      exact ⟨ret_bool H2.out.symm, rfl⟩
set_option maxHeartbeats 2000000 in
theorem once_any (A : Option Addr) (n c : Nat) (xs : List Int) (width : Int) (w : World) (hx : Reads w w.heap.size 1 A n (xs.map (Value.int .i64))) (hn : n ≤ 4611686018427387904) (h0 : -1000 ≤ width) (h8 : width ≤ 1000) :
    Calls Tryz.prog 62 #[.slice A n c, .int .i64 width] w fun e w' => e = .returned (.bool (colsB xs width)) ∧ Below w.heap.size w w' := by
  have HL := hide hx.len1
  have wr : IntKind.i64.wrap (width - 1) = width - 1 := by rw [IntKind.wrap_i64]; omega
  go_enter Tryz.func62, Tryz.ntmps62
  go_wp2_with fail
  go_loopw [5] (fun i wr => ∃ k : Nat, k ≤ n ∧ i = .int .i64 k ∧ colsB (xs.take k) width = true ∧ Below w.heap.size w wr) (fun i _ => n - (intOf i).toNat)
  case atStart => exact ⟨0, Nat.zero_le _, rfl, rfl, Below.refl _ _⟩
  case round =>
    obtain ⟨k, hk, rfl, hany, hB⟩ := hrel
    have HA := hide hany
    clear hany
    by_cases hlt : k < n
    · have hxr := hx.up hB
      obtain ⟨b, off, x, rfl, hb, hxk, hcx⟩ := hxr.at1 hlt
      have HXK := hide hxk
      clear hxk
      have HW := hide (fwithin_any x 0 (width - 1) wr)
      have q1 : (0 : Int) ≤ (k : Int) := by omega
      have q2 : (k : Int) < (n : Int) := by omega
      cases hb1 : btw x 0 (width - 1)
      · rw [hb1] at HW
        have HX := hide (cols_range HXK.out hb1)
        go_wp2_with fail
        refine HW.out.mono ?_
        rintro e w' ⟨rfl, rfl⟩
        go_wp2
        go_ret
        exact ⟨ret_bool HX.out.symm, hB⟩
      · rw [hb1] at HW
        go_wp2_with fail
        refine HW.out.mono ?_
        rintro e w' ⟨rfl, rfl⟩
        clear HW
        go_wp2_with fail
        go_loopw [6] (fun j wj => ∃ m : Nat, m ≤ k ∧ j = .int .i64 m ∧ x ∉ xs.take m ∧ Below w.heap.size w wj) (fun j _ => k - (intOf j).toNat)
        case atStart => exact ⟨0, Nat.zero_le _, rfl, by simp, hB⟩
        case round =>
          obtain ⟨m, hm, rfl, hno, hBj⟩ := hrel
          have HN := hide hno
          clear hno
          have r1 : (0 : Int) ≤ (m : Int) := by omega
          by_cases hmk : m < k
          · have hxj := hx.up hBj
            obtain ⟨b', off', y, hbb, hb', hyk, hcy⟩ := hxj.at1 (show m < n by omega)
            obtain ⟨b2, off2, x2, hbb2, hb2, hxk2, hcx2⟩ := hxj.at1 hlt
            injection hbb with hbb
            injection hbb with e1 e2
            subst e1 e2
            injection hbb2 with hbb2
            injection hbb2 with e1 e2
            subst e1 e2
            rw [HXK.out] at hxk2
            injection hxk2 with e1
            subst e1
            have HYK := hide hyk
            clear hyk
            have r2 : (m : Int) < (k : Int) := by omega
            have r3 : (m : Int) < (n : Int) := by omega
            by_cases hxy : x = y
            · subst hxy
              have HX := hide (cols_twice (width := width) HXK.out (List.mem_take_iff_getElem.2 ⟨m, by have := (List.getElem?_eq_some_iff.1 HYK.out).1; omega, (List.getElem?_eq_some_iff.1 HYK.out).2⟩))
              have hd : (x == x) = true := by simp
              go_wp2
              go_quiet (fail)
              go_wp2
              go_ret
              exact ⟨ret_bool HX.out.symm, by first | exact hBj | exact below_drewN hBj _⟩
            · have HX := hide (in_snoc HYK.out HN.out hxy)
              have hd : (x == y) = false := by simpa using hxy
              go_wp2
              go_quiet (fail)
              go_wp2
              go_roundw
              case rel => exact ⟨m + 1, by omega, by go_num, HX.out, by first | exact hBj | exact below_drewN hBj _⟩
              case measure => simp [intOf]; omega
          · obtain rfl : m = k := by omega
            have HX := hide (cols_next HXK.out HA.out hb1 HN.out)
            go_wp2
            go_roundw
            case rel => exact ⟨m + 1, by omega, by go_num, HX.out, hBj⟩
            case measure => simp [intOf]; omega
    · obtain rfl : k = n := by omega
      have h2 := HA.out
      rw [take_all HL.out] at h2
      have H2 := hide h2
      clear h2 HA
      go_wp2
      go_ret
      exact ⟨ret_bool H2.out.symm, hB⟩
end

section
open Go.RowKit
attribute [local go_sem] Oper.semAt_some
set_option linter.unusedVariables false
set_option linter.unusedSimpArgs false

section
variable {P : Program} (w : World)
theorem run_append_g (base : Nat) (t ty e : TypeId) (i : TypeInfo) (z : Value) (size bytes : Nat) (ht : P.underlying t = some (.slice e)) (hi : P.info? e = some i) (hz : i.zero = some z)
    (hsize : i.size = size) (hby : i.bytes = bytes) (hzs : z.cells.size = size) (hsz : 0 < size)
    (v : Value) (n : Nat) (xs : List Value) (hown : w.ownsRow base e size v n xs)
    (ad : Addr) (m c : Nat) (news : List Value) (hl : news.length = m * size) (hnews : ∀ j u, news[j]? = some u → w.cell? (ad.add j) = some u) (h1 : ∀ u ∈ news, u.oneCell' = true)
    (h63 : n + m ≤ maxLen) (hbytes : (n + m) * bytes ≤ 140737488355328) (hbase : base ≤ w.heap.size) :
    ∃ v' w', (Builtin.append_ #[t, t] ty #[v, .slice (some ad) m c]).run P w = .ok v' w' ∧ w'.ownsRow base e size v' (n + m) (xs ++ news) ∧ w.grownBy w' v.ownBlock ∧
      (v'.ownBlock = v.ownBlock ∨ v'.ownBlock = some w.heap.size) ∧ w.drawn ≤ w'.drawn := by
  obtain ⟨v', w', hrun, h2, h3, _, h5⟩ := run_append_own_at (P := P) w base t ty e i z size bytes ht hi hz hsize hby hzs hsz v n xs hown ad m c news hl hnews h1 h63 hbytes hbase
  refine ⟨v', w', hrun, h2, h3, h5, ?_⟩
  have hsmall : n + m ≤ 9223372036854775807 := by simp only [maxLen] at h63; omega
  subst hsize
  subst hby
  rcases hown.2 with ⟨rfl, rfl⟩ | ⟨g, cap, cur, rfl, hbg, hg, hnc, hcm, hcs, htake⟩
  · by_cases hm : m = 0
    · subst hm
      simp [Builtin.append_, run_underlying ht, sizeOf, typeInfo, hi, Builtin.lenOf, Builtin.firstCells, loadCells, loadCellsFrom] at hrun
      rw [hrun.2]
      exact Nat.le_refl _
    · rw [run_append_nil (P := P) w t ty e i z ht hi hz ad m c news hl hnews (by omega) (by omega) (by have hb := hbytes; simp only [Nat.zero_add] at hb; omega)] at hrun
      injection hrun with _ hw
      rw [← hw]
      exact Nat.le_succ _
  · by_cases hroom : n + m ≤ cap
    · have hfit : n * i.size + news.length ≤ cur.size := by rw [hl, hcs, ← Nat.add_mul]; exact Nat.mul_le_mul_right _ hroom
      rw [run_append_room (P := P) w t ty e i ht hi g n cap cur hg ad m c news hl hnews h1 hroom hfit] at hrun
      injection hrun with _ hw
      rw [← hw]
      exact Nat.le_refl _
    · have holds : ∀ j u, xs[j]? = some u → w.cell? ((⟨g, 0, none⟩ : Addr).add j) = some u := hown.cells (g := g) rfl
      rw [run_append_grow (P := P) w t ty e i z ht hi hz ⟨g, 0, none⟩ n cap xs hown.1 holds ad m c news hl hnews (by omega) (by omega) (growslice_fits (by omega) hbytes)] at hrun
      injection hrun with _ hw
      rw [← hw]
      exact Nat.le_succ _
theorem wpList_append_g {ops : Array Oper} {rest : List Oper} {o : Oper} {a : Act} {Q : Exit → Act → World → Prop} (hgd : o.guard = none) (s x : Operand) (t : TypeId)
    (ho : o.op = .call { callee := .builtin .append, args := #[s, x], argTypes := #[t, t] })
    (base : Nat) (e : TypeId) (i : TypeInfo) (z : Value) (size bytes : Nat) (ht : P.underlying t = some (.slice e)) (hi : P.info? e = some i) (hz : i.zero = some z)
    (hsize : i.size = size) (hby : i.bytes = bytes) (hzs : z.cells.size = size) (hsz : 0 < size)
    (v : Value) (n : Nat) (xs : List Value) (hs : a.eval s = v) (hown : w.ownsRow base e size v n xs)
    (ad : Addr) (m c : Nat) (news : List Value) (hx : a.eval x = .slice (some ad) m c) (hl : news.length = m * size) (hnews : ∀ j u, news[j]? = some u → w.cell? (ad.add j) = some u) (h1 : ∀ u ∈ news, u.oneCell' = true)
    (h63 : n + m ≤ maxLen) (hbytes : (n + m) * bytes ≤ 140737488355328) (hbase : base ≤ w.heap.size)
    (h : ∀ v' w', w'.ownsRow base e size v' (n + m) (xs ++ news) → w.grownBy w' v.ownBlock → w.drawn ≤ w'.drawn → wpList P ops Q rest (a.put o.dst v') w') : wpList P ops Q (o :: rest) a w := by
  refine wpList_plain hgd fun _ hK => ?_
  obtain ⟨v', w', hrun, h2, h3, _, h5⟩ := run_append_g (P := P) w base t o.type e i z size bytes ht hi hz hsize hby hzs hsz v n xs hown ad m c news hl hnews h1 h63 hbytes hbase
  unfold Oper.wp execOp
  simp only [ho, resolve, invoke, builtin, Sem.run_bind, Sem.run_pure, Result.andThen_ok, List.map_toArray, List.map_cons, List.map_nil, hs, hx, hrun]
  exact hK _ _ (h v' w' h2 h3 h5)
end
theorem gb_append {B : Nat} {a w w1 : World} {e : TypeId} {size n : Nat} {v : Value} {xs : List Value} (h : GB B a w) (hown : w.ownsRow B e size v n xs) (hB : B ≤ w.heap.size) (hg : w.grownBy w1 v.ownBlock) (hd : w.drawn ≤ w1.drawn) : GB B a w1 :=
  ⟨below_append h.b hown hB hg, Nat.le_trans h.d hd⟩
/-- The call hands back a slice that reads, and only lays blocks and draws. -/
def RetGS (w : World) (size n : Nat) (cells : List Value) (e : Ending) (w' : World) : Prop :=
  ∃ A c, e = .returned (.slice A n c) ∧ Reads w' w'.heap.size size A n cells ∧ GB w.heap.size w w'
theorem has_at {r : Rw} {cols : List Int} (h : has r cols = true) {k : Nat} {x : Int} (hx : cols[k]? = some x) : 0 ≤ x ∧ x ≤ (r.length : Int) - 1 := btw_iff.1 (List.all_eq_true.1 h x (List.mem_of_getElem? hx))
set_option maxRecDepth 100000 in
set_option maxHeartbeats 4000000 in
theorem key_any (A : Option Addr) (n c : Nat) (r : Rw) (A' : Option Addr) (n' c' : Nat) (xs : List Int) (w : World) (hr : Reads w w.heap.size 3 A n (r.flatMap encV)) (hn : n ≤ 9223372036854775807)
    (hx : Reads w w.heap.size 1 A' n' (xs.map (Value.int .i64))) (h8 : n' ≤ 1000) (hk : has r xs = true) :
    Calls Tryz.prog 80 #[.slice A' n' c', .slice A n c] w (RetGS w 3 n' ((pick r xs).flatMap encV)) := by
  obtain ⟨i0, hi, hz0, hz1, hz2⟩ := info_parts infoV
  have HL := hide (hr.len encV_len (by omega))
  have HLx := hide hx.len1
  have HK := hide hk
  clear hk
  go_enter Tryz.func80, Tryz.ntmps80
  go_wp2_with fail
  have ow0 : (w.alloc (.cells #[] 68)).ownsRow w.heap.size 68 3 (.slice (some ⟨w.heap.size, 0, none⟩) 0 0) 0 [] := by
    first
      | exact own_lit w 68 3 0 #[] rfl (by decide)
      | exact ⟨rfl, .inr ⟨w.heap.size, 0, #[], rfl, Nat.le_refl _, heap_alloc_new _ _, Nat.le_refl _, by decide, rfl, rfl⟩⟩
  go_loopw [5, 11] (fun v i wr => ∃ k : Nat, k ≤ n' ∧ i = .int .i64 k ∧ wr.ownsRow w.heap.size 68 3 v k ((pick r (xs.take k)).flatMap encV) ∧ GB w.heap.size w wr) (fun _ i _ => n' - (intOf i).toNat)
  case atStart => exact ⟨0, Nat.zero_le _, rfl, ow0, gb_val _ _⟩
  case round =>
    clear ow0
    obtain ⟨k, hk, rfl, hown, hBr⟩ := hrel
    by_cases hlt : k < n'
    · obtain ⟨b', off', y, hA', hb', hyk, hcy⟩ := (hx.below hBr.b).at1 hlt
      have hy := has_at HK.out hyk
      rw [HL.out] at hy
      obtain ⟨t, rfl⟩ : ∃ t : Nat, y = (t : Int) := ⟨y.toNat, by omega⟩
      obtain ⟨b, off, x, hA, hb, hxk, hcx⟩ := (hr.below hBr.b).elem encV_len HL.out (show t < n by omega)
      have HS := hide (show (pick r (xs.take (k + 1))).flatMap encV = (pick r (xs.take k)).flatMap encV ++ encV x by rw [take_snoc' hyk, pick_snoc r _ _ x (by simpa using hxk), List.flatMap_append]; simp)
      have e0 : wr.cell? ⟨b, off + t * 3, none⟩ = some (.int .i64 x.k) := by simpa using hcx 0 _ rfl
      have e1 : wr.cell? ⟨b, off + t * 3 + 1, none⟩ = some (.int .i64 x.n) := by simpa [← Nat.add_assoc] using hcx 1 _ rfl
      have e2 : wr.cell? ⟨b, off + t * 3 + 2, none⟩ = some (.string x.s) := by simpa [← Nat.add_assoc] using hcx 2 _ rfl
      clear hcx hxk hyk
      rw [hA, hA']
      have HA := hide hA
      have HA' := hide hA'
      clear hA hA'
      have q1 : (0 : Int) ≤ (k : Int) := by omega
      have q2 : (k : Int) < (n' : Int) := by omega
      have q3 : (0 : Int) ≤ (t : Int) := by omega
      have q4 : (t : Int) < (n : Int) := by omega
      obtain ⟨PL, hPL⟩ : ∃ PL, (pick r (xs.take k)).flatMap encV = PL := ⟨_, rfl⟩
      have HPL := hide hPL
      rw [hPL] at hown
      clear hPL
      have vA2 := hown.alloc (.cells #[.int .i64 x.k, .int .i64 x.n, .string x.s] 68)
      have bA2 := hBr.alloc hBr.size (.cells #[.int .i64 x.k, .int .i64 x.n, .string x.s] 68)
      have xs2 : w.heap.size ≤ (wr.alloc (.cells #[.int .i64 x.k, .int .i64 x.n, .string x.s] 68)).heap.size := bA2.size
      go_wp2_with (at_builtin; refine wpList_append_g _ rfl _ _ 42 rfl w.heap.size 68 i0 _ 3 32 Tryz.underlying42 hi hz0 hz1 hz2 rfl (by decide) _ k PL rfl vA2 ⟨wr.heap.size, 0, none⟩ 1 1 (encV x) rfl rfl (cells_new _ _ _) one_encV (by unfold maxLen; omega) (by omega) xs2 ?_; intro v3 w3 hown3 hgrow hdr)
      have hBe : GB w.heap.size w w3 := gb_append bA2 vA2 xs2 hgrow hdr
      have HO := hide (show w3.ownsRow w.heap.size 68 3 v3 (k + 1) ((pick r (xs.take (k + 1))).flatMap encV) by rw [HS.out, HPL.out]; exact hown3)
      clear hown3 hgrow hdr bA2 vA2 hown hBr e0 e1 e2
      go_wp2_with fail
      go_roundw
      case rel => exact ⟨k + 1, by omega, by go_num, HO.out, hBe⟩
      case measure => simp [intOf]; omega
    · obtain rfl : n' = k := by omega
      rw [take_all HLx.out] at hown
      obtain ⟨A3, c3, rfl, hR⟩ := own_form hown
      have HRR := hide hR
      clear hR hown
      go_wp2_with fail
      go_ret
      exact ⟨A3, c3, rfl, HRR.out, hBr⟩

/-- A setup in memory. -/
structure Sk where
  A : Option Addr
  n : Nat
  c : Nat
  A' : Option Addr
  n' : Nat
  c' : Nat
def Sk.v (k : Sk) (s : Stp) : Value := .agg #[.slice k.A k.n k.c, .slice k.A' k.n' k.c', .bool s.dn, .int .i64 s.n]
structure SetK (w : World) (B : Nat) (k : Sk) (s : Stp) : Prop where
  p : Reads w B 1 k.A k.n (s.per.map (Value.int .i64))
  b : Reads w B 1 k.A' k.n' (s.by_.map (Value.int .i64))
  np : k.n ≤ 1000
  nb : k.n' ≤ 1000
theorem SetK.keep {w w' : World} {B : Nat} {k : Sk} {s : Stp} (h : SetK w B k s) (hk : ∀ p : Addr, p.block < B → w'.cell? p = w.cell? p) : SetK w' B k s := ⟨h.p.keep hk, h.b.keep hk, h.np, h.nb⟩
theorem SetK.more {w : World} {B B' : Nat} {k : Sk} {s : Stp} (h : SetK w B k s) (hB : B ≤ B') : SetK w B' k s := ⟨h.p.more hB, h.b.more hB, h.np, h.nb⟩
theorem SetK.up {w w' : World} {k : Sk} {s : Stp} (h : SetK w w.heap.size k s) (hb : Below w.heap.size w w') : SetK w' w'.heap.size k s := (h.keep fun _ hp => hb.cell hp).more hb.size
/-- A setup that lies in a block. -/
structure BoxS (w : World) (b : Nat) (k : Sk) (s : Stp) : Prop where
  c0 : w.cell? ⟨b, 0, none⟩ = some (.slice k.A k.n k.c)
  c1 : w.cell? ⟨b, 1, none⟩ = some (.slice k.A' k.n' k.c')
  c2 : w.cell? ⟨b, 2, none⟩ = some (.bool s.dn)
  c3 : w.cell? ⟨b, 3, none⟩ = some (.int .i64 s.n)
theorem BoxS.keep {w w' : World} {b : Nat} {k : Sk} {s : Stp} (h : BoxS w b k s) (hk : ∀ o, w'.cell? ⟨b, o, none⟩ = w.cell? ⟨b, o, none⟩) : BoxS w' b k s := ⟨(hk 0).trans h.c0, (hk 1).trans h.c1, (hk 2).trans h.c2, (hk 3).trans h.c3⟩
theorem BoxS.lt {w : World} {b : Nat} {k : Sk} {s : Stp} (h : BoxS w b k s) : b < w.heap.size := World.block_lt_of_cell? _ _ h.c0
theorem BoxS.below {w w' : World} {b : Nat} {k : Sk} {s : Stp} (h : BoxS w b k s) (hb : Below w.heap.size w w') : BoxS w' b k s := h.keep fun o => hb.cell (p := ⟨b, o, none⟩) h.lt
theorem cmpI_cases (x y : Int) : cmpI x y = -1 ∨ cmpI x y = 0 ∨ cmpI x y = 1 := by
  unfold cmpI
  split
  · simp
  · split <;> simp
theorem cmpS_cases (x y : ByteArray) : cmpS x y = -1 ∨ cmpS x y = 0 ∨ cmpS x y = 1 := by
  unfold cmpS
  split
  · simp
  · split <;> simp
theorem cmpV_cases (a b : Val) : cmpV a b = -1 ∨ cmpV a b = 0 ∨ cmpV a b = 1 := by
  have h1 := cmpI_cases (cls a) (cls b)
  have h2 := cmpI_cases (nnV a) (nnV b)
  have h3 := cmpS_cases (ssV a) (ssV b)
  unfold cmpV thenC
  split
  · split
    · exact h3
    · exact h2
  · exact h1
theorem vat_at {r : Rw} {t : Nat} {x : Val} (h : r[t]? = some x) : vat r (t : Int) = x := by unfold vat; rw [show ((t : Int)).toNat = t by omega, h]; rfl
set_option maxRecDepth 100000 in
set_option maxHeartbeats 4000000 in
/-- The comparison that rank.order makes. -/
theorem ord_g (k : Sk) (s : Stp) (bs bg : Nat) (A : Option Addr) (n c : Nat) (x : Rw) (A' : Option Addr) (n' c' : Nat) (y : Rw) (w : World) (hs : SetK w w.heap.size k s) (hbs : BoxS w bs k s) (hbg : w.cell? ⟨bg, 0, none⟩ = some (.int .i64 (sgn s.dn)))
    (hx : Reads w w.heap.size 3 A n (x.flatMap encV)) (hy : Reads w w.heap.size 3 A' n' (y.flatMap encV)) (hn : n ≤ 9223372036854775807) (hn' : n' ≤ 9223372036854775807) (h1 : has x s.by_ = true) (h2 : has y s.by_ = true) :
    Calls Tryz.prog 122 #[.slice A n c, .slice A' n' c', .pointer (some ⟨bs, 0, none⟩), .pointer (some ⟨bg, 0, none⟩)] w (RetG w (.int .i64 (ordS s x y))) := by
  have HL := hide (hx.len encV_len (by omega))
  have HL' := hide (hy.len encV_len (by omega))
  have HLb := hide hs.b.len1
  have H1 := hide h1
  have H2 := hide h2
  clear h1 h2
  have hnb := hs.nb
  have g1 := hbs.c1
  have lbs := hbs.lt
  have lbg : bg < w.heap.size := World.block_lt_of_cell? _ _ hbg
  obtain ⟨ans, hans⟩ : ∃ ans, ordS s x y = ans := ⟨_, rfl⟩
  rw [hans]
  have HA := hide hans
  clear hans
  go_enter Tryz.func122, Tryz.ntmps122
  go_wp2_with fail
  go_loopw [13] (fun i wr => ∃ j : Nat, j ≤ k.n' ∧ i = .int .i64 j ∧ ans = ordL s.dn x y (s.by_.drop j) ∧ GB w.heap.size w wr) (fun i _ => k.n' - (intOf i).toNat)
  case atStart => exact ⟨0, Nat.zero_le _, rfl, HA.out.symm, GB.refl _ _⟩
  case round =>
    obtain ⟨j, hj, rfl, hrest, hB⟩ := hrel
    have HR := hide hrest
    clear hrest
    by_cases hlt : j < k.n'
    · obtain ⟨b, off, cc, hA2, hb, hck, hcc⟩ := (hs.b.below hB.b).at1 hlt
      have hc1 := has_at H1.out hck
      have hc2 := has_at H2.out hck
      rw [HL.out] at hc1
      rw [HL'.out] at hc2
      obtain ⟨t, rfl⟩ : ∃ t : Nat, cc = (t : Int) := ⟨cc.toNat, by omega⟩
      obtain ⟨bx, ox, xv, hxA, hbx, hxk, hcx⟩ := (hx.below hB.b).elem encV_len HL.out (show t < n by omega)
      obtain ⟨by', oy, yv, hyA, hby', hyk, hcy⟩ := (hy.below hB.b).elem encV_len HL'.out (show t < n' by omega)
      have HD := hide (show s.by_.drop j = (t : Int) :: s.by_.drop (j + 1) by
        obtain ⟨q1, q2⟩ := List.getElem?_eq_some_iff.1 hck
        rw [List.drop_eq_getElem_cons q1, q2])
      have HV := hide (show ans = thenC (sgn s.dn * cmpV xv yv) (ordL s.dn x y (s.by_.drop (j + 1))) by
        rw [HR.out, HD.out, ordL, vat_at hxk, vat_at hyk])
      obtain ⟨z, hz⟩ : ∃ z, cmpV xv yv = z := ⟨_, rfl⟩
      rw [hz] at HV
      have hzc := cmpV_cases xv yv
      rw [hz] at hzc
      have hws := hB.size
      have e0 : wr.cell? ⟨bx, ox + t * 3, none⟩ = some (.int .i64 xv.k) := by simpa using hcx 0 _ rfl
      have e1 : wr.cell? ⟨bx, ox + t * 3 + 1, none⟩ = some (.int .i64 xv.n) := by simpa [← Nat.add_assoc] using hcx 1 _ rfl
      have e2 : wr.cell? ⟨bx, ox + t * 3 + 2, none⟩ = some (.string xv.s) := by simpa [← Nat.add_assoc] using hcx 2 _ rfl
      have f0 : wr.cell? ⟨by', oy + t * 3, none⟩ = some (.int .i64 yv.k) := by simpa using hcy 0 _ rfl
      have f1 : wr.cell? ⟨by', oy + t * 3 + 1, none⟩ = some (.int .i64 yv.n) := by simpa [← Nat.add_assoc] using hcy 1 _ rfl
      have f2 : wr.cell? ⟨by', oy + t * 3 + 2, none⟩ = some (.string yv.s) := by simpa [← Nat.add_assoc] using hcy 2 _ rfl
      have p0 := fun (p : GBW wr) => GBW.cell (a := ⟨bx, ox + t * 3, none⟩) (by show bx < _; omega) e0 p
      have p1 := fun (p : GBW wr) => GBW.cell (a := ⟨bx, ox + t * 3 + 1, none⟩) (by show bx < _; omega) e1 p
      have p2 := fun (p : GBW wr) => GBW.cell (a := ⟨bx, ox + t * 3 + 2, none⟩) (by show bx < _; omega) e2 p
      have r0 := fun (p : GBW wr) => GBW.cell (a := ⟨by', oy + t * 3, none⟩) (by show by' < _; omega) f0 p
      have r1 := fun (p : GBW wr) => GBW.cell (a := ⟨by', oy + t * 3 + 1, none⟩) (by show by' < _; omega) f1 p
      have r2 := fun (p : GBW wr) => GBW.cell (a := ⟨by', oy + t * 3 + 2, none⟩) (by show by' < _; omega) f2 p
      have C1 := hide (fun (p : GBW wr) => calls_gbw (p := p) (v := .int .i64 z) (by rw [← hz]; exact CompareValues_g xv yv p.x))
      have q1 : (0 : Int) ≤ (j : Int) := by omega
      have q2 : (j : Int) < (k.n' : Int) := by omega
      have q3 : (0 : Int) ≤ (t : Int) := by omega
      have q4 : (t : Int) < (n : Int) := by omega
      have q5 : (t : Int) < (n' : Int) := by omega
      rw [hA2, hxA, hyA]
      have HK1 := hide hA2
      have HK2 := hide hxA
      have HK3 := hide hyA
      clear hz hcx hcy hxk hyk hck hA2 hxA hyA e0 e1 e2 f0 f1 f2 hc1 hc2
      have hgs : wr.cell? ⟨bg, 0, none⟩ = some (.int .i64 (sgn s.dn)) := (hB.b.cell (p := ⟨bg, 0, none⟩) lbg).trans hbg
      by_cases hz0 : z = 0
      · subst hz0
        have HX := hide (show ans = ordL s.dn x y (s.by_.drop (j + 1)) by
          have := HV.out
          unfold thenC at this
          rwa [if_pos (by omega)] at this)
        go_wp2_with fail
        (refine wp_region_quiet_gbw (by kernel_rfl) (by kernel_rfl) ?_
         repeat (first | go_big_quiet_step (((go_at_call 123; exact C1.out _))) | quiet_step (((go_at_call 123; exact C1.out _))))
         refine wpQuiet_nil ?_
         intro wq hw'
         obtain ⟨⟨_, hbq⟩, hw''⟩ := hw'
         subst hw'')
        have hB2 := gstep hB hbq
        clear hbq p0 p1 p2 r0 r1 r2 hgs C1 hB
        go_wp2
        go_roundw
        case rel => exact ⟨j + 1, by omega, by go_num, HX.out, hB2⟩
        case measure => simp [intOf]; omega
      · have HX := hide (show ans = sgn s.dn * z by
          have := HV.out
          unfold thenC at this
          rwa [if_neg (by unfold sgn; split <;> omega)] at this)
        have hnz : (z != 0) = true := by simpa using hz0
        have hgw := fun (p : GBW wr) => GBW.cell (a := ⟨bg, 0, none⟩) (by show bg < _; omega) hgs p
        have wm : IntKind.i64.wrap (sgn s.dn * z) = sgn s.dn * z := by
          rw [IntKind.wrap_i64]
          unfold sgn
          split <;> rcases hzc with rfl | rfl | rfl <;> decide
        go_wp2_with fail
        (refine wp_region_quiet_gbw (by kernel_rfl) (by kernel_rfl) ?_
         repeat (first | go_big_quiet_step (((go_at_call 123; exact C1.out _))) | quiet_step (((go_at_call 123; exact C1.out _))))
         refine wpQuiet_nil ?_
         intro wq hw'
         obtain ⟨⟨_, hbq⟩, hw''⟩ := hw'
         subst hw'')
        have hB2 := gstep hB hbq
        have hg2 : wq.cell? ⟨bg, 0, none⟩ = some (.int .i64 (sgn s.dn)) := (hbq.b.cell (p := ⟨bg, 0, none⟩) (by show bg < _; omega)).trans hgs
        clear hbq p0 p1 p2 r0 r1 r2 hgs C1 hB hgw
        go_wp2
        go_ret
        exact ⟨ret_int HX.out.symm, hB2⟩
    · obtain rfl : j = k.n' := by omega
      have HX := hide (show ans = cmpR x y by
        have := HR.out
        rw [List.drop_eq_nil_of_le (by rw [HLb.out]; exact Nat.le_refl _)] at this
        exact this)
      have HC := hide (Compare_g A n c x A' n' c' y wr (hx.up hB.b) (hy.up hB.b) hn)
      go_wp2_with fail
      refine HC.out.mono ?_
      rintro e w1 ⟨rfl, hB1⟩
      have hB2 := gstep hB hB1
      clear hB1 hB HC
      go_wp2
      go_ret
      exact ⟨ret_int HX.out.symm, hB2⟩
end

section
open Go.RowKit
attribute [local go_sem] Oper.semAt_some
set_option linter.unusedVariables false
set_option linter.unusedSimpArgs false

/-- A valid bag of rows of a width. -/
def fitB (b : Bg) (width : Int) : Bool := okBag b && !b.any (fun x => ((x.1.length : Int) != width))
def askE (s : Stp) (width : Int) (b : Bg) : Int := if okS s width && fitB b width then (if wholeB b then 0 else 10) else 1
/-- What a setup and a bag that are not refused are. -/
structure Askd (s : Stp) (width : Int) (b : Bg) : Prop where
  s0 : 0 < s.n
  n8 : s.per.length ≤ 8
  w0 : 0 ≤ width
  w8 : width ≤ 8
  sn : s.n ≤ 400
  bag : okBag b = true
  len : ∀ x ∈ b, (x.1.length : Int) = width
  pos : ∀ x ∈ b, 0 < x.2
  p : ∀ x ∈ b, has x.1 s.per = true
  b : ∀ x ∈ b, has x.1 s.by_ = true
theorem cols_len {l : List Int} {width : Int} (h : colsB l width = true) (h8 : width ≤ 8) : l.length ≤ 8 := by
  unfold colsB at h
  rw [Bool.and_eq_true, decide_eq_true_eq, List.all_eq_true] at h
  obtain ⟨h1, h2⟩ := h
  have hs : l ⊆ ((List.range 8).map fun i : Nat => (i : Int)) := fun c hc => by
    have := h1 c hc
    rw [btw_iff] at this
    exact List.mem_map.2 ⟨c.toNat, List.mem_range.2 (by omega), by omega⟩
  have := List.Nodup.length_le_of_subset h2 hs
  simpa using this
theorem cols_has {l : List Int} {width : Int} {r : Rw} (h : colsB l width = true) (hr : (r.length : Int) = width) : has r l = true := by
  unfold colsB at h
  rw [Bool.and_eq_true] at h
  unfold has
  rw [hr]
  exact h.1
theorem ask_ok {s : Stp} {width : Int} {b : Bg} (h : askE s width b = 0) : Askd s width b := by
  unfold askE at h
  split at h
  · rename_i h1
    split at h
    · rename_i h2
      rw [Bool.and_eq_true] at h1
      obtain ⟨h3, h4⟩ := h1
      unfold okS at h3
      simp only [Bool.and_eq_true, btw_iff] at h3
      obtain ⟨⟨⟨⟨a1, a2⟩, a3⟩, a4⟩, a5⟩ := h3
      unfold fitB at h4
      rw [Bool.and_eq_true, Bool.not_eq_true', List.any_eq_false] at h4
      have hl : ∀ x ∈ b, (x.1.length : Int) = width := fun x hx => by
        have := h4.2 x hx
        simpa using this
      unfold wholeB posB at h2
      rw [Bool.and_eq_true, List.all_eq_true] at h2
      have hz := fun x hx => (numB_ne ((okBag_asc h4.1).2.1 x hx)).1
      exact ⟨by omega, cols_len a2 (by omega), by omega, by omega, by omega, h4.1, hl, fun x hx => by
        have h5 := h2.2 x hx
        have h6 := hz x hx
        simp at h5
        omega, fun x hx => cols_has a2 (hl x hx), fun x hx => cols_has a4 (hl x hx)⟩
    · cases h
  · cases h
set_option maxHeartbeats 1000000 in
theorem RkValid_any (k : Sk) (s : Stp) (width : Int) (w : World) (hs : SetK w w.heap.size k s) (hc : k.n ≤ k.c) (hc' : k.n' ≤ k.c') : Calls Tryz.prog 19 #[k.v s, .int .i64 width] w (RetV w (.bool (okS s width))) := by
  obtain ⟨per, by_, dn, n⟩ := s
  unfold Sk.v
  have hB := below_val (w := w) #[.slice k.A k.n k.c, .slice k.A' k.n' k.c', .bool dn, .int .i64 n] 24
  have kb := Blk.new w 24 #[.slice k.A k.n k.c, .slice k.A' k.n' k.c', .bool dn, .int .i64 n]
  have hs1 := hs.up hB
  obtain ⟨ans, hans⟩ : ∃ ans, okS ⟨per, by_, dn, n⟩ width = ans := ⟨_, rfl⟩
  rw [hans]
  have HA := hide (show (btw width 0 8 && colsB per width && decide (0 < by_.length) && colsB by_ width && btw n 1 400) = ans from hans)
  clear hans
  have HL := hide hs.b.len1
  have hnp := hs.np
  have hnb := hs.nb
  go_enter Tryz.func19, Tryz.ntmps19
  go_wp2_with fail
  obtain ⟨W, hW⟩ : ∃ W, w.alloc (.cells #[.slice k.A k.n k.c, .slice k.A' k.n' k.c', .bool dn, .int .i64 n] 24) = W := ⟨_, rfl⟩
  rw [hW] at hB kb hs1 ⊢
  clear hW
  have c0 := kb.cell 0
  have c1 := kb.cell 1
  have c3 := kb.cell 3
  simp at c0 c1 c3
  clear kb hs
  have HC1 := hide (rwithin_any width 0 8 W)
  cases b1 : btw width 0 8
  · rw [b1] at HC1
    have HX := hide (show false = ans by rw [← HA.out]; simp [b1])
    clear b1
    (try go_wp2_with fail)
    refine HC1.out.mono ?_
    rintro e w' ⟨rfl, rfl⟩
    go_wp2
    go_ret
    exact ⟨ret_bool HX.out, hB⟩
  rw [b1] at HC1
  (try go_wp2_with fail)
  refine HC1.out.mono ?_
  rintro e w' ⟨rfl, rfl⟩
  clear HC1
  have HC2 := hide (columns_any k.A k.n k.c W.heap.size per width W hs1.p (by omega) hc (by rw [btw_iff] at b1; omega) (by rw [btw_iff] at b1; omega))
  cases b2 : colsB per width
  · rw [b2] at HC2
    have HX := hide (show false = ans by rw [← HA.out]; simp [b1, b2])
    clear b1 b2
    (try go_wp2_with fail)
    refine HC2.out.mono ?_
    rintro e w' ⟨rfl, rfl⟩
    go_wp2
    go_ret
    exact ⟨ret_bool HX.out, hB⟩
  rw [b2] at HC2
  (try go_wp2_with fail)
  refine HC2.out.mono ?_
  rintro e w' ⟨rfl, rfl⟩
  clear HC2
  by_cases g3 : k.n' = 0
  · have z : decide ((0 : Int) < (k.n' : Int)) = false := by simp; omega
    have hz : decide (0 < by_.length) = false := by rw [HL.out]; simp; omega
    have HX := hide (show false = ans by rw [← HA.out]; simp [b1, b2, hz])
    clear hz b1 b2
    go_wp2
    go_ret
    exact ⟨ret_bool HX.out, hB⟩
  have b3 : decide (0 < by_.length) = true := by rw [HL.out]; simp; omega
  have z3 : (0 : Int) < (k.n' : Int) := by omega
  have HC4 := hide (columns_any k.A' k.n' k.c' W.heap.size by_ width W hs1.b (by omega) hc' (by rw [btw_iff] at b1; omega) (by rw [btw_iff] at b1; omega))
  cases b4 : colsB by_ width
  · rw [b4] at HC4
    have HX := hide (show false = ans by rw [← HA.out]; simp [b1, b2, b3, b4])
    clear b1 b2 b3 b4
    (try go_wp2_with fail)
    refine HC4.out.mono ?_
    rintro e w' ⟨rfl, rfl⟩
    go_wp2
    go_ret
    exact ⟨ret_bool HX.out, hB⟩
  rw [b4] at HC4
  (try go_wp2_with fail)
  refine HC4.out.mono ?_
  rintro e w' ⟨rfl, rfl⟩
  clear HC4
  have HC5 := hide (rwithin_any n 1 400 W)
  cases b5 : btw n 1 400
  · rw [b5] at HC5
    have HX := hide (show false = ans by rw [← HA.out]; simp [b1, b2, b3, b4, b5])
    clear b1 b2 b3 b4 b5
    (try go_wp2_with fail)
    refine HC5.out.mono ?_
    rintro e w' ⟨rfl, rfl⟩
    go_wp2
    go_ret
    exact ⟨ret_bool HX.out, hB⟩
  rw [b5] at HC5
  have HX := hide (show true = ans by rw [← HA.out]; simp [b1, b2, b3, b4, b5])
  clear b1 b2 b3 b4 b5
  (try go_wp2_with fail)
  refine HC5.out.mono ?_
  rintro e w' ⟨rfl, rfl⟩
  clear HC5
  go_wp2
  go_ret
  exact ⟨ret_bool HX.out, hB⟩
set_option maxHeartbeats 1000000 in
theorem RefValid_any (k : Sk) (s : Stp) (width : Int) (w : World) (hs : SetK w w.heap.size k s) : Calls Tryz.prog 20 #[k.v s, .int .i64 width] w (RetV w (.bool (okS s width))) := by
  obtain ⟨per, by_, dn, n⟩ := s
  unfold Sk.v
  have hB := below_val (w := w) #[.slice k.A k.n k.c, .slice k.A' k.n' k.c', .bool dn, .int .i64 n] 34
  have kb := Blk.new w 34 #[.slice k.A k.n k.c, .slice k.A' k.n' k.c', .bool dn, .int .i64 n]
  have hs1 := hs.up hB
  obtain ⟨ans, hans⟩ : ∃ ans, okS ⟨per, by_, dn, n⟩ width = ans := ⟨_, rfl⟩
  rw [hans]
  have HA := hide (show (btw width 0 8 && colsB per width && decide (0 < by_.length) && colsB by_ width && btw n 1 400) = ans from hans)
  clear hans
  have HL := hide hs.b.len1
  have hnp := hs.np
  have hnb := hs.nb
  go_enter Tryz.func20, Tryz.ntmps20
  go_wp2_with fail
  obtain ⟨W, hW⟩ : ∃ W, w.alloc (.cells #[.slice k.A k.n k.c, .slice k.A' k.n' k.c', .bool dn, .int .i64 n] 34) = W := ⟨_, rfl⟩
  rw [hW] at hB kb hs1 ⊢
  clear hW
  have c0 := kb.cell 0
  have c1 := kb.cell 1
  have c3 := kb.cell 3
  simp at c0 c1 c3
  clear kb hs
  have HC1 := hide (fwithin_any width 0 8 W)
  cases b1 : btw width 0 8
  · rw [b1] at HC1
    have HX := hide (show false = ans by rw [← HA.out]; simp [b1])
    clear b1
    (try go_wp2_with fail)
    refine HC1.out.mono ?_
    rintro e w' ⟨rfl, rfl⟩
    go_wp2
    go_ret
    exact ⟨ret_bool HX.out, hB⟩
  rw [b1] at HC1
  (try go_wp2_with fail)
  refine HC1.out.mono ?_
  rintro e w' ⟨rfl, rfl⟩
  clear HC1
  have HC2 := hide (once_any k.A k.n k.c per width W hs1.p (by omega) (by rw [btw_iff] at b1; omega) (by rw [btw_iff] at b1; omega))
  cases b2 : colsB per width
  · rw [b2] at HC2
    have HX := hide (show false = ans by rw [← HA.out]; simp [b1, b2])
    clear b1 b2
    (try go_wp2_with fail)
    refine HC2.out.mono ?_
    rintro e W2 ⟨rfl, hB2⟩
    go_wp2
    go_ret
    exact ⟨ret_bool HX.out, (bstep hB hB2)⟩
  rw [b2] at HC2
  (try go_wp2_with fail)
  refine HC2.out.mono ?_
  rintro e W2 ⟨rfl, hB2⟩
  clear HC2
  have hB := bstep hB hB2
  have hs1 := hs1.up hB2
  have c0 := (hB2.cell (World.block_lt_of_cell? _ _ c0)).trans c0
  have c1 := (hB2.cell (World.block_lt_of_cell? _ _ c1)).trans c1
  have c3 := (hB2.cell (World.block_lt_of_cell? _ _ c3)).trans c3
  clear hB2
  have HC3 := hide (once_any k.A' k.n' k.c' by_ width W2 hs1.b (by omega) (by rw [btw_iff] at b1; omega) (by rw [btw_iff] at b1; omega))
  cases b3 : colsB by_ width
  · rw [b3] at HC3
    have HX := hide (show false = ans by rw [← HA.out]; simp [b1, b2, b3])
    clear b1 b2 b3
    (try go_wp2_with fail)
    refine HC3.out.mono ?_
    rintro e W3 ⟨rfl, hB3⟩
    go_wp2
    go_ret
    exact ⟨ret_bool HX.out, (bstep hB hB3)⟩
  rw [b3] at HC3
  (try go_wp2_with fail)
  refine HC3.out.mono ?_
  rintro e W3 ⟨rfl, hB3⟩
  clear HC3
  have hB := bstep hB hB3
  have hs1 := hs1.up hB3
  have c0 := (hB3.cell (World.block_lt_of_cell? _ _ c0)).trans c0
  have c1 := (hB3.cell (World.block_lt_of_cell? _ _ c1)).trans c1
  have c3 := (hB3.cell (World.block_lt_of_cell? _ _ c3)).trans c3
  clear hB3
  by_cases g4 : k.n' = 0
  · have z : decide ((0 : Int) < (k.n' : Int)) = false := by simp; omega
    have hz : decide (0 < by_.length) = false := by rw [HL.out]; simp; omega
    have HX := hide (show false = ans by rw [← HA.out]; simp [b1, b2, b3, hz])
    clear hz b1 b2 b3
    go_wp2
    go_ret
    exact ⟨ret_bool HX.out, hB⟩
  have b4 : decide (0 < by_.length) = true := by rw [HL.out]; simp; omega
  have z4 : (0 : Int) < (k.n' : Int) := by omega
  have HC5 := hide (fwithin_any n 1 400 W3)
  cases b5 : btw n 1 400
  · rw [b5] at HC5
    have HX := hide (show false = ans by rw [← HA.out]; simp [b1, b2, b3, b4, b5])
    clear b1 b2 b3 b4 b5
    (try go_wp2_with fail)
    refine HC5.out.mono ?_
    rintro e w' ⟨rfl, rfl⟩
    go_wp2
    go_ret
    exact ⟨ret_bool HX.out, hB⟩
  rw [b5] at HC5
  have HX := hide (show true = ans by rw [← HA.out]; simp [b1, b2, b3, b4, b5])
  clear b1 b2 b3 b4 b5
  (try go_wp2_with fail)
  refine HC5.out.mono ?_
  rintro e w' ⟨rfl, rfl⟩
  clear HC5
  go_wp2
  go_ret
  exact ⟨ret_bool HX.out, hB⟩
/-! slices.ContainsFunc over items, whatever predicate. -/
theorem con_items (A : Option Addr) (n c : Nat) (l : List It) (w : World) (hr : Reads w w.heap.size 2 A n (l.flatMap encIt)) (hn : n ≤ 100000) (pf : Nat) (caps : Array Value) (p : It → Bool) (eg : ∀ args w, (callFunc pf args).run Tryz.prog w = .ok (.enter pf args) w)
    (hp : ∀ x ∈ l, ∀ W, Below w.heap.size w W → Calls Tryz.prog pf (#[.agg #[.slice x.A x.n x.c, .int .i64 x.m]] ++ caps) W (RetV W (.bool (p x)))) :
    Calls Tryz.prog 139 #[.slice A n c, .func (Fn.func pf) #[] caps] w (RetV w (.bool (l.any p))) := by
  have HI := hide (idxI_any A n c l w hr hn pf caps p eg hp)
  clear hp hr
  go_enter Tryz.func139, Tryz.ntmps139
  go_wp2_with fail
  refine HI.out.mono ?_
  rintro e W1 ⟨⟨i, rfl, hfi⟩, hB1⟩
  have HX := hide (show decide (0 ≤ i) = l.any p by
    rcases hfi with ⟨h, rfl⟩ | ⟨k, rfl, _, x, hx, h⟩
    · have : l.any p = false := List.any_eq_false.2 fun x hx => by rw [h x hx]; simp
      rw [this]; rfl
    · have : l.any p = true := List.any_eq_true.2 ⟨x, List.mem_of_getElem? hx, h⟩
      rw [this]; simp)
  clear hfi
  go_wp2_with fail
  go_ret
  exact ⟨ret_bool HX.out, hB1⟩
theorem right1_any (x : It) (bw : Nat) (width : Int) (w : World) (h : w.cell? ⟨bw, 0, none⟩ = some (.int .i64 width)) : Calls Tryz.prog 140 #[.agg #[.slice x.A x.n x.c, .int .i64 x.m], .pointer (some ⟨bw, 0, none⟩)] w (RetV w (.bool ((x.n : Int) != width))) := by
  have hB := below_val (w := w) #[.slice x.A x.n x.c, .int .i64 x.m] 52
  have h1 := (hB.cell (p := ⟨bw, 0, none⟩) (World.block_lt_of_cell? _ _ h)).trans h
  clear h
  go_enter Tryz.func140, Tryz.ntmps140
  go_wp2_with fail
  go_ret
  exact ⟨rfl, hB⟩
theorem any_congr2 {α : Type} {p q : α → Bool} : ∀ {l : List α}, (∀ x ∈ l, p x = q x) → l.any p = l.any q
  | [], _ => rfl
  | x :: l, h => by rw [List.any_cons, List.any_cons, h x List.mem_cons_self, any_congr2 fun y hy => h y (List.mem_cons_of_mem _ hy)]
theorem fit_any {l : List It} {width : Int} {W : World} {B : Nat} (h : Rows_ W B l) : (dat l).any (fun x => ((x.1.length : Int) != width)) = l.any fun x => ((x.n : Int) != width) := by
  unfold dat
  rw [List.any_map]
  refine any_congr2 ?_
  intro x hx
  show ((x.r.length : Int) != width) = _
  rw [(h x hx).len]
theorem right_any (A : Option Addr) (n c : Nat) (l : List It) (width : Int) (w : World) (hb : BagR w w.heap.size A n l) (hn : n ≤ 100000) : Calls Tryz.prog 89 #[.slice A n c, .int .i64 width] w (RetV w (.bool (fitB (dat l) width))) := by
  have hB := below_val (w := w) #[.int .i64 width] 3
  have kb := Blk.new w 3 #[.int .i64 width]
  have hb1 := hb.below hB
  obtain ⟨ans, hans⟩ : ∃ ans, fitB (dat l) width = ans := ⟨_, rfl⟩
  rw [hans]
  have HA := hide hans
  unfold fitB at hans
  rw [fit_any hb.rows] at hans
  have HA := hide hans
  clear hans hb
  go_enter Tryz.func89, Tryz.ntmps89
  go_wp2_with fail
  obtain ⟨W, hW⟩ : ∃ W, w.alloc (.cells #[.int .i64 width] 3) = W := ⟨_, rfl⟩
  rw [hW] at hB kb hb1 ⊢
  clear hW
  have HV := hide (BagValid_any A n c _ l W hb1)
  cases ho : okBag (dat l)
  · rw [ho] at HV
    have HX := hide (show false = ans by rw [← HA.out, ho]; rfl)
    clear ho
    refine HV.out.mono ?_
    rintro e W1 ⟨rfl, hB1⟩
    go_wp2
    go_ret
    exact ⟨ret_bool HX.out, bstep hB hB1⟩
  · rw [ho] at HV
    refine HV.out.mono ?_
    rintro e W1 ⟨rfl, hB1⟩
    have hb2 := hb1.below hB1
    have kb2 := kb.below hB1 kb.lt
    have hB2 := bstep hB hB1
    have HC := hide (con_items A n c l W1 hb2.rd hn 140 #[.pointer (some ⟨w.heap.size, 0, none⟩)] (fun x => ((x.n : Int) != width)) (enters_of Tryz.func140 (by kernel_rfl) rfl) (fun x _ W hW => right1_any x w.heap.size width W (by
      have k3 := kb2.below hW kb2.lt
      simpa using k3.cell 0)))
    obtain ⟨b, hb⟩ : ∃ b, (l.any fun x => ((x.n : Int) != width)) = b := ⟨_, rfl⟩
    rw [hb] at HC
    have HX := hide (show (!b) = ans by rw [← HA.out, ho, hb]; rfl)
    clear hb ho HV hb1 hB1 hB kb kb2 hb2
    go_wp2_with fail
    refine HC.out.mono ?_
    rintro e W2 ⟨rfl, hB3⟩
    have hB4 := bstep hB2 hB3
    clear HC hB2 hB3
    cases b
    · go_wp2
      go_ret
      exact ⟨ret_bool HX.out, hB4⟩
    · go_wp2
      go_ret
      exact ⟨ret_bool HX.out, hB4⟩
theorem asked_any (k : Sk) (s : Stp) (width : Int) (A : Option Addr) (n c : Nat) (l : List It) (w : World) (hs : SetK w w.heap.size k s) (hc : k.n ≤ k.c) (hc' : k.n' ≤ k.c') (hb : BagR w w.heap.size A n l) (hn : n ≤ 100000) :
    Calls Tryz.prog 51 #[k.v s, .int .i64 width, .slice A n c] w (RetV w (.int .i64 (askE s width (dat l)))) := by
  obtain ⟨ans, hans⟩ : ∃ ans, askE s width (dat l) = ans := ⟨_, rfl⟩
  rw [hans]
  unfold askE at hans
  have HA := hide hans
  clear hans
  have hB := below_val (w := w) #[.slice k.A k.n k.c, .slice k.A' k.n' k.c', .bool s.dn, .int .i64 s.n] 24
  have kb := Blk.new w 24 #[.slice k.A k.n k.c, .slice k.A' k.n' k.c', .bool s.dn, .int .i64 s.n]
  have hs1 := hs.up hB
  have hb1 := (hb.below hB).mono hB.size
  clear hs hb
  unfold Sk.v
  go_enter Tryz.func51, Tryz.ntmps51
  go_upto_region 1 with fail
  obtain ⟨W, hW⟩ : ∃ W, w.alloc (.cells #[.slice k.A k.n k.c, .slice k.A' k.n' k.c', .bool s.dn, .int .i64 s.n] 24) = W := ⟨_, rfl⟩
  rw [hW] at hB kb hs1 hb1 ⊢
  clear hW
  have c0 := kb.cell 0
  have c1 := kb.cell 1
  have c2 := kb.cell 2
  have c3 := kb.cell 3
  simp at c0 c1 c2 c3
  have HV0 := RkValid_any k s width W hs1 hc hc'
  unfold Sk.v at HV0
  have HV := hide HV0
  clear HV0 kb
  cases h1 : okS s width
  · rw [h1] at HV
    have HX := hide (show 1 = ans by rw [← HA.out, h1]; rfl)
    clear h1
    go_wp2_with fail
    refine HV.out.mono ?_
    rintro e W1 ⟨rfl, hB1⟩
    go_wp2
    go_ret
    exact ⟨ret_int HX.out, bstep hB hB1⟩
  rw [h1] at HV
  go_wp2_with fail
  refine HV.out.mono ?_
  rintro e W1 ⟨rfl, hB1⟩
  have hB2 := bstep hB hB1
  have hb2 := (hb1.below hB1).mono hB1.size
  have HR := hide (right_any A n c l width W1 hb2 hn)
  clear hB hB1 hb1 hs1 HV c0 c1 c2 c3
  cases h2 : fitB (dat l) width
  · rw [h2] at HR
    have HX := hide (show 1 = ans by rw [← HA.out, h1, h2]; rfl)
    clear h1 h2
    go_wp2_with fail
    refine HR.out.mono ?_
    rintro e W2 ⟨rfl, hB3⟩
    go_wp2
    go_ret
    exact ⟨ret_int HX.out, bstep hB2 hB3⟩
  rw [h2] at HR
  go_wp2_with fail
  refine HR.out.mono ?_
  rintro e W2 ⟨rfl, hB3⟩
  have hB4 := bstep hB2 hB3
  have hb3 := hb2.below hB3
  have HW := hide (Whole_any A n c _ l W2 hb3)
  clear hB2 hB3 hb2 HR
  cases h3 : wholeB (dat l)
  · rw [h3] at HW
    have HX := hide (show 10 = ans by rw [← HA.out, h1, h2, h3]; rfl)
    clear h1 h2 h3
    go_wp2_with fail
    refine HW.out.mono ?_
    rintro e W3 ⟨rfl, hB5⟩
    go_wp2
    go_ret
    exact ⟨ret_int HX.out, bstep hB4 hB5⟩
  · rw [h3] at HW
    have HX := hide (show 0 = ans by rw [← HA.out, h1, h2, h3]; rfl)
    clear h1 h2 h3
    go_wp2_with fail
    refine HW.out.mono ?_
    rintro e W3 ⟨rfl, hB5⟩
    go_wp2
    go_ret
    exact ⟨ret_int HX.out, bstep hB4 hB5⟩
end

end Go.Proofs.YtljglceaibgknaaGreatDoor
