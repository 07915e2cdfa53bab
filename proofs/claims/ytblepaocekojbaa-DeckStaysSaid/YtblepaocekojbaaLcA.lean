/-
  The walks of index on the reference's side, of slices.Index, slices.Contains and slices.ContainsFunc (places within the slots) on the program's.
-/
import Derived.Test.YtblepaocekojbaaPlZ
import Derived.Test.YtblepaocekojbaaDkP2
namespace Go.Proofs.Ytblepaocekojbaa
open Go.RowKit Go.Shelf Go.Maps Go.Deep
attribute [local go_sem] Oper.semAt_some
set_option linter.unusedVariables false

/-- The first index of a place in a list, or -1. -/
def idxP (l : List Pl) (p : Pl) : Int := if p ∈ l then (l.idxOf p : Int) else -1
theorem idxP_no {l : List Pl} {p : Pl} (h : p ∉ l) : idxP l p = -1 := by unfold idxP; rw [if_neg h]
theorem idxOf_hit {l : List Pl} {p : Pl} {k : Nat} (hk : l[k]? = some p) (h : p ∉ l.take k) : l.idxOf p = k := by
  obtain ⟨hlt, hp⟩ := List.getElem?_eq_some_iff.1 hk
  have h2 : (l.take k ++ l.drop k).idxOf p = k := by
    rw [List.idxOf_append, if_neg h, List.drop_eq_getElem_cons hlt, hp, List.idxOf_cons_self]
    simp
    omega
  rwa [List.take_append_drop] at h2
theorem idxP_hit {l : List Pl} {p : Pl} {k : Nat} (hk : l[k]? = some p) (h : p ∉ l.take k) : idxP l p = k := by
  unfold idxP
  rw [if_pos (List.mem_of_getElem? hk), idxOf_hit hk h]
theorem idxP_ge {l : List Pl} {p : Pl} : decide (0 ≤ idxP l p) = decide (p ∈ l) := by
  unfold idxP
  by_cases h : p ∈ l
  · rw [if_pos h]; simp [h]
  · rw [if_neg h]; simp [h]
theorem idxP_lt {l : List Pl} {p : Pl} : decide (idxP l p < 0) = !decide (p ∈ l) := by
  unfold idxP
  by_cases h : p ∈ l
  · rw [if_pos h]; simp [h]
  · rw [if_neg h]; simp [h]
theorem no_more {l : List Pl} {p x : Pl} {k : Nat} (hx : l[k]? = some x) (h : p ∉ l.take k) (hne : ¬ x = p) : p ∉ l.take (k + 1) := by
  rw [take_snoc' hx, List.mem_append, List.mem_singleton]
  rintro (h1 | h1)
  · exact h h1
  · exact hne h1.symm
theorem eqDP (p q : Pl) (w : World) : (binOp .eql 85 (.agg #[.int .i64 p.m, .int .i64 p.s]) (.agg #[.int .i64 q.m, .int .i64 q.s])).run Try.prog w = .ok (.bool (decide (p = q))) w := by
  have u3 := Try.underlying3
  have a3 := Try.isAgg3
  have z3 := Try.sizeOf3
  have hS : Try.prog.underlying 85 = some (.struct (Try.prog.fieldsOf 85)) := by kernel_rfl
  have hp : Try.prog.stoodInHeld 85 = false := by kernel_rfl
  rw [run_eql_struct, show (10000 : Nat) = 9999 + 1 from rfl, run_equalIn_agg w 9999 85 _ _ hS hp]
  simp only [Program.fieldsOf, Try.underlying85]
  go_simp
  obtain ⟨a, b⟩ := p
  obtain ⟨c, d⟩ := q
  by_cases h1 : a = c <;> by_cases h2 : b = d <;> simp [h1, h2]
theorem neqDP (p q : Pl) (w : World) : (binOp .neq 85 (.agg #[.int .i64 p.m, .int .i64 p.s]) (.agg #[.int .i64 q.m, .int .i64 q.s])).run Try.prog w = .ok (.bool (!decide (p = q))) w := by
  have u3 := Try.underlying3
  have a3 := Try.isAgg3
  have z3 := Try.sizeOf3
  have hS : Try.prog.underlying 85 = some (.struct (Try.prog.fieldsOf 85)) := by kernel_rfl
  have hp : Try.prog.stoodInHeld 85 = false := by kernel_rfl
  rw [run_neq_struct, show (10000 : Nat) = 9999 + 1 from rfl, run_equalIn_agg w 9999 85 _ _ hS hp]
  simp only [Program.fieldsOf, Try.underlying85]
  go_simp
  obtain ⟨a, b⟩ := p
  obtain ⟨c, d⟩ := q
  by_cases h1 : a = c <;> by_cases h2 : b = d <;> simp [h1, h2]
set_option maxHeartbeats 2000000 in
theorem index_any (A : Option Addr) (n c : Nat) (l : List Pl) (p : Pl) (w : World) (hl : Reads w w.heap.size 2 A n (l.flatMap encPl)) (hn : n ≤ 1000000) :
    Calls Try.prog 78 #[.slice A n c, .agg #[.int .i64 p.m, .int .i64 p.s]] w (RetV w (.int .i64 (idxP l p))) := by
  have HL := hide (hl.len encPl_len (by omega))
  have hB0 : Below w.heap.size w (w.alloc (.cells #[.int .i64 p.m, .int .i64 p.s] 67)) := (Below.refl _ _).alloc (Nat.le_refl _) _
  have hl0 := hl.below hB0
  have c0 : (w.alloc (.cells #[.int .i64 p.m, .int .i64 p.s] 67)).cell? ⟨w.heap.size, 0, none⟩ = some (.int .i64 p.m) := by simp
  have c1 : (w.alloc (.cells #[.int .i64 p.m, .int .i64 p.s] 67)).cell? ⟨w.heap.size, 1, none⟩ = some (.int .i64 p.s) := by simp
  obtain ⟨W, hW⟩ : ∃ W, w.alloc (.cells #[.int .i64 p.m, .int .i64 p.s] 67) = W := ⟨_, rfl⟩
  rw [hW] at hB0 hl0 c0 c1
  go_enter Try.func78, Try.ntmps78
  go_wp2_with fail
  clear hW
  go_loopw [5] (fun i wr => ∃ k q : Nat, k ≤ n ∧ i = .int .i64 k ∧ p ∉ l.take k ∧ wr = W.drewN q) (fun i _ => n - (intOf i).toNat)
  case atStart => exact ⟨0, 0, Nat.zero_le _, rfl, by simp, rfl⟩
  case round =>
    obtain ⟨k, q, hk, rfl, hno, rfl⟩ := hrel
    have HNO := hide hno
    clear hno
    by_cases hlt : k < n
    · obtain ⟨b, off, x, rfl, hb, hxk, hc⟩ := hl0.elem encPl_len HL.out hlt
      have HXK := hide hxk
      have d0 : W.cell? ⟨b, off + k * 2, none⟩ = some (.int .i64 x.m) := by simpa using hc 0 _ rfl
      have d1 : W.cell? ⟨b, off + k * 2 + 1, none⟩ = some (.int .i64 x.s) := by simpa [← Nat.add_assoc] using hc 1 _ rfl
      clear hxk hc
      have HEQ := eqRP x p
      have hgt : Try.prog.eqGuardType Try.prog.depth 67 = false := by kernel_rfl
      have q1 : (0 : Int) ≤ (k : Int) := by omega
      have q2 : (k : Int) < (n : Int) := by omega
      by_cases he : x = p
      · have z1 : decide (x = p) = true := by simpa using he
        simp only [z1] at HEQ
        have HR := hide (show idxP l p = (k : Int) from idxP_hit (by rw [← he]; exact HXK.out) HNO.out)
        clear he
        go_wp2
        go_quiet (fail)
        go_wp2
        go_ret
        exact ⟨by rw [HR.out]; rfl, by rw [World.drewN_drewN]; exact below_drewN hB0 _⟩
      · have z1 : decide (x = p) = false := by simpa using he
        simp only [z1] at HEQ
        have HR := hide (no_more HXK.out HNO.out he)
        clear he
        go_wp2
        go_quiet (fail)
        go_wp2
        go_roundw
        case rel => exact ⟨k + 1, _, by omega, by go_num, HR.out, by first | rfl | exact World.drewN_drewN _ _ _⟩
        case measure => simp [intOf]; omega
    · obtain rfl : k = n := by omega
      have HR := hide (show idxP l p = -1 from idxP_no (by have := HNO.out; rwa [take_all HL.out] at this))
      go_wp2
      go_ret
      exact ⟨by rw [HR.out]; rfl, below_drewN hB0 _⟩
set_option maxHeartbeats 2000000 in
theorem IndexD_any (A : Option Addr) (n c : Nat) (l : List Pl) (p : Pl) (w : World) (hl : Reads w w.heap.size 2 A n (l.flatMap encPl)) (hn : n ≤ 1000000) :
    Calls Try.prog 93 #[.slice A n c, .agg #[.int .i64 p.m, .int .i64 p.s]] w (RetV w (.int .i64 (idxP l p))) := by
  have HL := hide (hl.len encPl_len (by omega))
  have hB0 : Below w.heap.size w (w.alloc (.cells #[.int .i64 p.m, .int .i64 p.s] 85)) := (Below.refl _ _).alloc (Nat.le_refl _) _
  have hl0 := hl.below hB0
  have c0 : (w.alloc (.cells #[.int .i64 p.m, .int .i64 p.s] 85)).cell? ⟨w.heap.size, 0, none⟩ = some (.int .i64 p.m) := by simp
  have c1 : (w.alloc (.cells #[.int .i64 p.m, .int .i64 p.s] 85)).cell? ⟨w.heap.size, 1, none⟩ = some (.int .i64 p.s) := by simp
  obtain ⟨W, hW⟩ : ∃ W, w.alloc (.cells #[.int .i64 p.m, .int .i64 p.s] 85) = W := ⟨_, rfl⟩
  rw [hW] at hB0 hl0 c0 c1
  go_enter Try.func93, Try.ntmps93
  go_wp2_with fail
  clear hW
  go_loopw [5, 8] (fun _ i wr => ∃ k q : Nat, k ≤ n ∧ i = .int .i64 k ∧ p ∉ l.take k ∧ wr = W.drewN q) (fun _ i _ => n - (intOf i).toNat)
  case atStart => exact ⟨0, 0, Nat.zero_le _, rfl, by simp, rfl⟩
  case round =>
    obtain ⟨k, q, hk, rfl, hno, rfl⟩ := hrel
    have HNO := hide hno
    clear hno
    by_cases hlt : k < n
    · obtain ⟨b, off, x, rfl, hb, hxk, hc⟩ := hl0.elem encPl_len HL.out hlt
      have HXK := hide hxk
      have d0 : W.cell? ⟨b, off + k * 2, none⟩ = some (.int .i64 x.m) := by simpa using hc 0 _ rfl
      have d1 : W.cell? ⟨b, off + k * 2 + 1, none⟩ = some (.int .i64 x.s) := by simpa [← Nat.add_assoc] using hc 1 _ rfl
      clear hxk hc
      have HEQ := eqDP p x
      have hgt : Try.prog.eqGuardType Try.prog.depth 85 = false := by kernel_rfl
      have q1 : (0 : Int) ≤ (k : Int) := by omega
      have q2 : (k : Int) < (n : Int) := by omega
      by_cases he : x = p
      · have z1 : decide (p = x) = true := by simpa using he.symm
        simp only [z1] at HEQ
        have HR := hide (show idxP l p = (k : Int) from idxP_hit (by rw [← he]; exact HXK.out) HNO.out)
        clear he
        go_wp2
        go_quiet (fail)
        go_wp2
        go_ret
        exact ⟨by rw [HR.out]; rfl, by rw [World.drewN_drewN]; exact below_drewN hB0 _⟩
      · have z1 : decide (p = x) = false := by simpa using fun h => he h.symm
        simp only [z1] at HEQ
        have HR := hide (no_more HXK.out HNO.out he)
        clear he
        go_wp2
        go_quiet (fail)
        go_wp2
        go_roundw
        case rel => exact ⟨k + 1, _, by omega, by go_num, HR.out, by first | rfl | exact World.drewN_drewN _ _ _⟩
        case measure => simp [intOf]; omega
    · obtain rfl : k = n := by omega
      have HR := hide (show idxP l p = -1 from idxP_no (by have := HNO.out; rwa [take_all HL.out] at this))
      go_wp2
      go_ret
      exact ⟨by rw [HR.out]; rfl, below_drewN hB0 _⟩
theorem ContainsD_any (A : Option Addr) (n c : Nat) (l : List Pl) (p : Pl) (w : World) (hl : Reads w w.heap.size 2 A n (l.flatMap encPl)) (hn : n ≤ 1000000) :
    Calls Try.prog 75 #[.slice A n c, .agg #[.int .i64 p.m, .int .i64 p.s]] w (RetV w (.bool (decide (p ∈ l)))) := by
  have hB0 : Below w.heap.size w (w.alloc (.cells #[.int .i64 p.m, .int .i64 p.s] 85)) := (Below.refl _ _).alloc (Nat.le_refl _) _
  have hl0 := hl.up hB0
  have c0 : (w.alloc (.cells #[.int .i64 p.m, .int .i64 p.s] 85)).cell? ⟨w.heap.size, 0, none⟩ = some (.int .i64 p.m) := by simp
  have c1 : (w.alloc (.cells #[.int .i64 p.m, .int .i64 p.s] 85)).cell? ⟨w.heap.size, 1, none⟩ = some (.int .i64 p.s) := by simp
  obtain ⟨W, hW⟩ : ∃ W, w.alloc (.cells #[.int .i64 p.m, .int .i64 p.s] 85) = W := ⟨_, rfl⟩
  rw [hW] at hB0 hl0 c0 c1
  have HI := hide (IndexD_any A n c l p W hl0 hn)
  have HG := hide (idxP_ge (l := l) (p := p))
  obtain ⟨v, hv⟩ : ∃ v, idxP l p = v := ⟨_, rfl⟩
  rw [hv] at HI HG
  clear hv
  go_enter Try.func75, Try.ntmps75
  go_wp2_with fail
  refine HI.out.mono ?_
  rintro e W1 ⟨rfl, hB1⟩
  have HB := hide (bstep hB0 hB1)
  clear hB0 hB1 c0 c1 HI
  go_wp2
  go_ret
  exact ⟨ret_bool HG.out, HB.out⟩
set_option maxHeartbeats 1000000 in
theorem Local1_any (p : Pl) (A : Option Addr) (n c bx : Nat) (ss : List Int) (w : World) (hs : Reads w w.heap.size 1 A n (ss.map (Value.int .i64))) (hn : n ≤ 1000000) (hc : w.cell? ⟨bx, 0, none⟩ = some (.slice A n c)) :
    Calls Try.prog 74 #[.agg #[.int .i64 p.m, .int .i64 p.s], .pointer (some ⟨bx, 0, none⟩)] w (RetV w (.bool (!winB n ss p))) := by
  have hB0 : Below w.heap.size w (w.alloc (.cells #[.int .i64 p.m, .int .i64 p.s] 85)) := (Below.refl _ _).alloc (Nat.le_refl _) _
  have hbx := World.block_lt_of_cell? w _ hc
  simp only at hbx
  have c0 : (w.alloc (.cells #[.int .i64 p.m, .int .i64 p.s] 85)).cell? ⟨w.heap.size, 0, none⟩ = some (.int .i64 p.m) := by simp
  have c1 : (w.alloc (.cells #[.int .i64 p.m, .int .i64 p.s] 85)).cell? ⟨w.heap.size, 1, none⟩ = some (.int .i64 p.s) := by simp
  have c2 := (hB0.cell (p := ⟨bx, 0, none⟩) hbx).trans hc
  have hs0 := hs.up hB0
  obtain ⟨W, hW⟩ : ∃ W, w.alloc (.cells #[.int .i64 p.m, .int .i64 p.s] 85) = W := ⟨_, rfl⟩
  rw [hW] at hB0 c0 c1 c2 hs0
  have HI := hide (within_any p A n c ss W hs0 (by omega))
  go_enter Try.func74, Try.ntmps74
  go_wp2_with fail
  refine HI.out.mono ?_
  rintro e W1 ⟨rfl, hB1⟩
  have HB := hide (bstep hB0 hB1)
  clear hB0 hB1 c0 c1 c2 HI
  go_wp2
  go_ret
  exact ⟨rfl, HB.out⟩
set_option maxHeartbeats 1000000 in
theorem idxL_any (A : Option Addr) (n c : Nat) (l : List Pl) (A2 : Option Addr) (m c2 bx : Nat) (ss : List Int) (w : World) (hl : Reads w w.heap.size 2 A n (l.flatMap encPl)) (hs : Reads w w.heap.size 1 A2 m (ss.map (Value.int .i64))) (hn : n ≤ 1000000) (hm : m ≤ 1000000) (hc : w.cell? ⟨bx, 0, none⟩ = some (.slice A2 m c2)) :
    Calls Try.prog 92 #[.slice A n c, .func (Fn.func 74) #[] #[.pointer (some ⟨bx, 0, none⟩)]] w (RetI (l.any fun p => !winB m ss p) w) := by
  have HL := hide (hl.len encPl_len (by omega))
  have hbx := World.block_lt_of_cell? w _ hc
  simp only at hbx
  go_enter Try.func92, Try.ntmps92
  go_wp2_with fail
  go_loopw [5, 8] (fun _ i wr => ∃ k : Nat, k ≤ n ∧ i = .int .i64 k ∧ (l.take k).any (fun p => !winB m ss p) = false ∧ Below w.heap.size w wr) (fun _ i _ => n - (intOf i).toNat)
  case atStart => exact ⟨0, Nat.zero_le _, rfl, rfl, Below.refl _ _⟩
  case round =>
    obtain ⟨k, hk, rfl, hany, hBr⟩ := hrel
    have HA := hide hany
    clear hany
    by_cases hlt : k < n
    · obtain ⟨b, off, e, ha, hb, hek, hce⟩ := (hl.below hBr).elem encPl_len HL.out hlt
      have e0 : wr.cell? ⟨b, off + k * 2, none⟩ = some (.int .i64 e.m) := by simpa using hce 0 _ rfl
      have e1 : wr.cell? ⟨b, off + k * 2 + 1, none⟩ = some (.int .i64 e.s) := by simpa [← Nat.add_assoc] using hce 1 _ rfl
      have HEK := hide hek
      have hcw := (hBr.cell (p := ⟨bx, 0, none⟩) hbx).trans hc
      have HC := hide (Local1_any e A2 m c2 bx ss wr (hs.up hBr) hm hcw)
      clear hce hek
      rw [ha]
      clear ha
      go_wp2_with fail
      refine HC.out.mono ?_
      rintro ee w' ⟨rfl, hB2⟩
      have hBn := bstep hBr hB2
      cases hbad : !winB m ss e
      · have HN := hide (any_take' (fun p => !winB m ss p) l k e HEK.out hbad HA.out)
        clear hcw e0 e1 hB2 hBr HC
        go_wp2
        go_roundw
        case rel => exact ⟨k + 1, by omega, by go_num, HN.out, hBn⟩
        case measure => simp [intOf]; omega
      · have HN := hide (any_hit (fun p => !winB m ss p) l k e HEK.out hbad)
        clear hcw e0 e1 hB2 hBr HC
        go_wp2
        go_ret
        exact ⟨⟨k, rfl, by rw [HN.out]; simp⟩, hBn⟩
    · obtain rfl : k = n := by omega
      have h2 := HA.out
      rw [take_all HL.out] at h2
      have H2 := hide h2
      clear h2 HA
      go_wp2
      go_ret
      exact ⟨⟨-1, rfl, by rw [H2.out]; rfl⟩, hBr⟩
theorem conL_any (A : Option Addr) (n c : Nat) (l : List Pl) (A2 : Option Addr) (m c2 bx : Nat) (ss : List Int) (w : World) (hl : Reads w w.heap.size 2 A n (l.flatMap encPl)) (hs : Reads w w.heap.size 1 A2 m (ss.map (Value.int .i64))) (hn : n ≤ 1000000) (hm : m ≤ 1000000) (hc : w.cell? ⟨bx, 0, none⟩ = some (.slice A2 m c2)) :
    Calls Try.prog 73 #[.slice A n c, .func (Fn.func 74) #[] #[.pointer (some ⟨bx, 0, none⟩)]] w (RetV w (.bool (l.any fun p => !winB m ss p))) := by
  go_enter Try.func73, Try.ntmps73
  go_wp2_with fail
  refine (idxL_any A n c l A2 m c2 bx ss w hl hs hn hm hc).mono ?_
  rintro e w' ⟨⟨i, rfl, hi⟩, hb⟩
  have HI := hide hi
  clear hi
  go_wp2
  go_ret
  exact ⟨ret_bool HI.out, hb⟩
end Go.Proofs.Ytblepaocekojbaa
