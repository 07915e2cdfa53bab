/-
  Placements as plain data; the walks of tidewrightlaw26.placed, of deck.placement with its closure, and of tidewrightref26.placed.
-/
import Derived.Test.YtblepaocekojbaaDkMd
namespace Go.Proofs.Ytblepaocekojbaa
open Go.RowKit Go.Shelf
attribute [local go_sem] Oper.semAt_some

structure Pl where
  m : Int
  s : Int
  deriving DecidableEq
def encPl (p : Pl) : List Value := [.int .i64 p.m, .int .i64 p.s]
theorem encPl_len (p : Pl) : (encPl p).length = 2 := rfl
theorem flatP_snoc (l : List Pl) (p : Pl) : (l ++ [p]).flatMap encPl = l.flatMap encPl ++ [.int .i64 p.m, .int .i64 p.s] := by simp [encPl]
def badP (lim : Int) (p : Pl) : Bool := decide (p.m < 0) || decide (lim ≤ p.m) || decide (p.s < 0) || decide (16 ≤ p.s)
theorem infoPlace_dk : (Try.prog.info? 85).map (fun i => (i.zero, i.size, i.bytes)) = some (some (.agg #[.int .i64 0, .int .i64 0]), 2, 16) := by kernel_rfl

set_option maxRecDepth 100000 in
set_option maxHeartbeats 2000000 in
theorem placed_any (A : Option Addr) (n c : Nat) (l : List Pl) (w : World) (hl : Reads w w.heap.size 2 A n (l.flatMap encPl)) (hn : n ≤ 1000) :
    Calls Try.prog 19 #[.slice A n c] w (RetSl w 2 n (l.flatMap encPl)) := by
  obtain ⟨i0, hi, hz0, hz1, hz2⟩ := info_parts infoPlace_dk
  have HL := hide (hl.len encPl_len (by omega))
  go_enter Try.func19, Try.ntmps19
  go_wp2_with fail
  go_loopw [3, 4] (fun v i wr => ∃ k : Nat, k ≤ n ∧ i = .int .i64 k ∧ wr.ownsRow w.heap.size 85 2 v k ((l.take k).flatMap encPl) ∧ Below w.heap.size w wr) (fun _ i _ => n - (intOf i).toNat)
  case atStart => exact ⟨0, Nat.zero_le _, rfl, World.ownsRow_nil _ _ _ _, Below.refl _ _⟩
  case round =>
    obtain ⟨k, hk, rfl, hown, hB⟩ := hrel
    have hWs := hB.size
    by_cases hlt : k < n
    · obtain ⟨b, off, e, ha, hb, hek, hce⟩ := (hl.below hB).elem encPl_len HL.out hlt
      have HSN := hide (show (l.take (k + 1)).flatMap encPl = (l.take k).flatMap encPl ++ [.int .i64 e.m, .int .i64 e.s] by rw [take_snoc' hek, flatP_snoc])
      clear hek
      have e0 : wr.cell? ⟨b, off + k * 2, none⟩ = some (.int .i64 e.m) := by simpa using hce 0 _ rfl
      have e1 : wr.cell? ⟨b, off + k * 2 + 1, none⟩ = some (.int .i64 e.s) := by simpa [← Nat.add_assoc] using hce 1 _ rfl
      clear hce
      rw [ha]
      clear ha
      have q1 : (0 : Int) ≤ (k : Int) := by omega
      have q2 : (k : Int) < (n : Int) := by omega
      go_wp2_with fail
      refine Held.begin (fun x => x.cell? ⟨b, off + k * 2, none⟩ = some (.int .i64 e.m) ∧ x.cell? ⟨b, off + k * 2 + 1, none⟩ = some (.int .i64 e.s)) 14 (by kernel_rfl) ?_
      have hown3 : wr.drew.ownsRow w.heap.size 85 2 u3 k ((l.take k).flatMap encPl) := hown.drew
      have hB3 : Below w.heap.size w wr.drew := hB.drew
      have hS : wr.drew.cell? ⟨b, off + k * 2, none⟩ = some (.int .i64 e.m) ∧ wr.drew.cell? ⟨b, off + k * 2 + 1, none⟩ = some (.int .i64 e.s) := ⟨e0, e1⟩
      obtain ⟨X, hX⟩ : ∃ X, wr.drew = X := ⟨_, rfl⟩
      rw [hX] at hown3 hB3 hS ⊢
      clear hX hown hB e0 e1
      have hs3 := hB3.size
      refine Held.take (i := 0) (u3) rfl hS (by kernel_rfl) (by kernel_rfl) (by kernel_rfl) (by kernel_rfl) (fun _ _ _ h => h) rfl (fun x hx => by obtain ⟨x1, x2⟩ := hx; go_simp) ?_
      try simp only [Act.put]
      refine Held.take (i := 1) (.slice (some ⟨b, off, none⟩) n c) rfl hS (by kernel_rfl) (by kernel_rfl) (by kernel_rfl) (by kernel_rfl) (fun _ _ _ h => h) rfl (fun x hx => by obtain ⟨x1, x2⟩ := hx; go_simp) ?_
      try simp only [Act.put]
      refine Held.take (i := 2) (.int .i64 (k : Int)) rfl hS (by kernel_rfl) (by kernel_rfl) (by kernel_rfl) (by kernel_rfl) (fun _ _ _ h => h) rfl (fun x hx => by obtain ⟨x1, x2⟩ := hx; go_simp) ?_
      try simp only [Act.put]
      refine Held.take (i := 3) (.pointer (some ⟨b, off + k * 2, none⟩)) rfl hS (by kernel_rfl) (by kernel_rfl) (by kernel_rfl) (by kernel_rfl) (fun _ _ _ h => h) rfl (fun x hx => by obtain ⟨x1, x2⟩ := hx; go_simp) ?_
      try simp only [Act.put]
      refine Held.take (i := 4) (.pointer (some ⟨b, off + k * 2, none⟩)) rfl hS (by kernel_rfl) (by kernel_rfl) (by kernel_rfl) (by kernel_rfl) (fun _ _ _ h => h) rfl (fun x hx => by obtain ⟨x1, x2⟩ := hx; go_simp) ?_
      try simp only [Act.put]
      refine Held.take (i := 5) (.int .i64 e.m) rfl hS (by kernel_rfl) (by kernel_rfl) (by kernel_rfl) (by kernel_rfl) (fun _ _ _ h => h) rfl (fun x hx => by obtain ⟨x1, x2⟩ := hx; go_simp) ?_
      try simp only [Act.put]
      refine Held.take (i := 6) (.slice (some ⟨b, off, none⟩) n c) rfl hS (by kernel_rfl) (by kernel_rfl) (by kernel_rfl) (by kernel_rfl) (fun _ _ _ h => h) rfl (fun x hx => by obtain ⟨x1, x2⟩ := hx; go_simp) ?_
      try simp only [Act.put]
      refine Held.take (i := 7) (.int .i64 (k : Int)) rfl hS (by kernel_rfl) (by kernel_rfl) (by kernel_rfl) (by kernel_rfl) (fun _ _ _ h => h) rfl (fun x hx => by obtain ⟨x1, x2⟩ := hx; go_simp) ?_
      try simp only [Act.put]
      refine Held.take (i := 8) (.pointer (some ⟨b, off + k * 2, none⟩)) rfl hS (by kernel_rfl) (by kernel_rfl) (by kernel_rfl) (by kernel_rfl) (fun _ _ _ h => h) rfl (fun x hx => by obtain ⟨x1, x2⟩ := hx; go_simp) ?_
      try simp only [Act.put]
      refine Held.take (i := 9) (.pointer (some ⟨b, off + k * 2 + 1, none⟩)) rfl hS (by kernel_rfl) (by kernel_rfl) (by kernel_rfl) (by kernel_rfl) (fun _ _ _ h => h) rfl (fun x hx => by obtain ⟨x1, x2⟩ := hx; go_simp) ?_
      try simp only [Act.put]
      refine Held.take (i := 10) (.int .i64 e.s) rfl hS (by kernel_rfl) (by kernel_rfl) (by kernel_rfl) (by kernel_rfl) (fun _ _ _ h => h) rfl (fun x hx => by obtain ⟨x1, x2⟩ := hx; go_simp) ?_
      try simp only [Act.put]
      refine Held.take (i := 11) (.agg #[.int .i64 e.m, .int .i64 e.s]) rfl hS (by kernel_rfl) (by kernel_rfl) (by kernel_rfl) (by kernel_rfl) (fun _ _ _ h => h) rfl (fun x hx => by obtain ⟨x1, x2⟩ := hx; go_simp) ?_
      try simp only [Act.put]
      refine Held.one (i := 12) rfl (by kernel_rfl) rfl (fun K hK => ?_)
      have hS4 : (X.alloc (.cells #[.int .i64 e.m, .int .i64 e.s] 85)).cell? ⟨b, off + k * 2, none⟩ = some (.int .i64 e.m) ∧ (X.alloc (.cells #[.int .i64 e.m, .int .i64 e.s] 85)).cell? ⟨b, off + k * 2 + 1, none⟩ = some (.int .i64 e.s) :=
        ⟨(World.cell?_alloc_lt X _ ⟨b, off + k * 2, none⟩ (by show b < _; omega)).trans hS.1, (World.cell?_alloc_lt X _ ⟨b, off + k * 2 + 1, none⟩ (by show b < _; omega)).trans hS.2⟩
      have HS4 := hide hS4
      clear hS4
      unfold Oper.wp
      go_simp
      refine hK _ _ (fun _ => HS4.out) ?_
      try simp only [Act.put]
      clear hK K
      refine Held.one (i := 13) rfl (by kernel_rfl) rfl (fun K hK => ?_)
      have hrd : Reads (X.alloc (.cells #[.int .i64 e.m, .int .i64 e.s] 85)) (X.heap.size + 1) 2 (some ⟨X.heap.size, 0, none⟩) 1 [.int .i64 e.m, .int .i64 e.s] :=
        ⟨rfl, fun _ => ⟨X.heap.size, 0, rfl, by omega, fun j u hu => by
          have := (Blk.new X 85 #[.int .i64 e.m, .int .i64 e.s]).cell j
          rw [Nat.zero_add, this]; simpa using hu⟩⟩
      refine wp_append_any _ _ _ 44 rfl w.heap.size 85 i0 _ 2 16 Try.underlying44 hi hz0 hz1 hz2 rfl (by decide) u3 k _ rfl (hown3.alloc _) (X.heap.size + 1) (some ⟨X.heap.size, 0, none⟩) 1 1 [.int .i64 e.m, .int .i64 e.s] rfl hrd (by simp [Value.oneCell']) (by unfold maxLen; omega) (by omega) (by simp; omega) ?_
      intro v' w1 hown1 hgrow _
      have nb2 : some b ≠ u3.ownBlock := fun e => by have := (hown3.lt _ e.symm).1; omega
      have hS5 : w1.cell? ⟨b, off + k * 2, none⟩ = some (.int .i64 e.m) ∧ w1.cell? ⟨b, off + k * 2 + 1, none⟩ = some (.int .i64 e.s) :=
        ⟨(hgrow.cell_far ⟨b, off + k * 2, none⟩ (by simp; omega) nb2).trans HS4.out.1, (hgrow.cell_far ⟨b, off + k * 2 + 1, none⟩ (by simp; omega) nb2).trans HS4.out.2⟩
      have hB5 : Below w.heap.size w w1 := below_append (hB3.alloc (by omega) _) (hown3.alloc _) (by simp; omega) hgrow
      refine hK _ _ (fun _ => hS5) ?_
      try simp only [Act.put]
      clear hK K hS HS4 hrd hgrow hown3 hB3
      refine Held.one (i := 14) rfl (by kernel_rfl) rfl (fun K hK => ?_)
      unfold Oper.wp
      go_simp
      refine hK _ _ (fun h => absurd rfl h) ?_
      try simp only [Act.put]
      clear hK K
      refine Held.done (by kernel_rfl) ?_
      go_wp2
      go_roundw
      case rel => exact ⟨k + 1, by omega, by go_num, by rw [HSN.out]; exact hown1, hB5⟩
      case measure => simp [intOf]; omega
    · obtain rfl : k = n := by omega
      rw [take_all HL.out] at hown
      obtain ⟨A', c', rfl, hR⟩ := own_form hown
      go_wp2
      go_ret
      exact ⟨A', c', rfl, hR, hB⟩

set_option maxHeartbeats 1000000 in
theorem placement1_any (p : Pl) (lim : Int) (bx : Nat) (w : World) (hc : w.cell? ⟨bx, 0, none⟩ = some (.int .i64 lim)) :
    Calls Try.prog 85 #[.agg #[.int .i64 p.m, .int .i64 p.s], .pointer (some ⟨bx, 0, none⟩)] w (RetV w (.bool (badP lim p))) := by
  have hB : Below w.heap.size w (w.alloc (.cells #[.int .i64 p.m, .int .i64 p.s] 85)) := (Below.refl _ _).alloc (Nat.le_refl _) _
  have hbx := World.block_lt_of_cell? w _ hc
  simp only at hbx
  by_cases h1 : p.m < 0
  · rw [show badP lim p = true by simp [badP, h1]]
    go_enter Try.func85, Try.ntmps85
    go_wp2
    go_ret
    exact ⟨rfl, hB⟩
  · by_cases h2 : lim ≤ p.m
    · rw [show badP lim p = true by simp [badP, h2]]
      go_enter Try.func85, Try.ntmps85
      go_wp2
      go_ret
      exact ⟨rfl, hB⟩
    · by_cases h3 : p.s < 0
      · rw [show badP lim p = true by simp [badP, h3]]
        go_enter Try.func85, Try.ntmps85
        go_wp2
        go_ret
        exact ⟨rfl, hB⟩
      · by_cases h4 : 16 ≤ p.s
        · rw [show badP lim p = true by simp [badP, h4]]
          go_enter Try.func85, Try.ntmps85
          go_wp2
          go_ret
          exact ⟨rfl, hB⟩
        · rw [show badP lim p = false by simp [badP]; omega]
          go_enter Try.func85, Try.ntmps85
          go_wp2
          go_ret
          exact ⟨rfl, hB⟩
end Go.Proofs.Ytblepaocekojbaa
