/-
  The walk of the reference's Put, for every bag, row and number in range. (Printed by gen_bgs5.)
-/
import Derived.Test.YtoapjidpfghnlaaGreatDoorApl
import Derived.Test.YtoapjidpfghnlaaGreatDoorRngH
import Derived.Test.YtoapjidpfghnlaaGreatDoorBgS1
namespace Go.Proofs.YtoapjidpfghnlaaGreatDoor
open Go.RowKit
attribute [local go_sem] Oper.semAt_some

/-- What is written so far: a list in blocks of the call's own. -/
structure PutI (w : World) (d : Bg) (v : Value) (W : World) : Prop where
  bel : Below w.heap.size w W
  ow : ∃ l : List It, W.ownsRow w.heap.size 119 2 v l.length (l.flatMap encIt) ∧ dat l = d ∧ Rows_ W w.heap.size l
  fin : True
theorem PutI.below {w W W' : World} {d : Bg} {v : Value} (h : PutI w d v W) (hb : Below W.heap.size W W') : PutI w d v W' := by
  obtain ⟨h1, ⟨l, h2, h3, h4⟩, _⟩ := h
  exact ⟨bstep h1 hb, ⟨l, own_below h2 hb, h3, h4.below hb⟩, trivial⟩
theorem puti_app {w X2 X3 : World} {d : Bg} {v v' : Value} {l : List It} {Ac : Option Addr} {n cc : Nat} {r : Rw} {m : Int} (hB : Below w.heap.size w X2) (h1 : X2.ownsRow w.heap.size 119 2 v l.length (l.flatMap encIt)) (h2 : dat l = d) (h3 : Rows_ X2 w.heap.size l)
    (hrow : RowK X2 w.heap.size Ac n r) (hown : X3.ownsRow w.heap.size 119 2 v' (l.length + 1) (l.flatMap encIt ++ [.slice Ac n cc, .int .i64 m])) (hgrow : (X2.alloc (.cells #[.slice Ac n cc, .int .i64 m] 119)).grownBy X3 v.ownBlock) : PutI w (d ++ [(r, m)]) v' X3 := by
  have hs := hB.size
  refine ⟨below_append (hB.alloc hs _) (h1.alloc _) (by simp; omega) hgrow, ⟨l ++ [⟨Ac, n, cc, r, m⟩], ?_, by rw [dat_snoc, h2], fun i hi => ?_⟩, trivial⟩
  · rw [List.length_append, List.flatMap_append]
    simpa [encIt] using hown
  · have key : RowK X2 w.heap.size i.A i.n i.r := by
      rcases List.mem_append.1 hi with h | h
      · exact h3 i h
      · obtain rfl : i = ⟨Ac, n, cc, r, m⟩ := by simpa using h
        exact hrow
    exact (key.alloc _).grown (h1.alloc _) (by decide) (Nat.le_refl _) hgrow
theorem puts_len (r : Rw) (n : Int) (st : Bg × Bool) (y : Rw × Int) : (putS r n st y).1.length ≤ st.1.length + 2 := by
  unfold putS
  split <;> (try split) <;> (try split) <;> simp
theorem fold_next {α β : Type} (f : β → α → β) {d : List α} {k : Nat} {x : α} (h : d[k]? = some x) (s : β) : (d.take (k + 1)).foldl f s = f ((d.take k).foldl f s) x := by rw [take_snoc' h, List.foldl_append]; rfl
/-- A bag, handed back. -/
def RetB (w : World) (d : Bg) (e : Ending) (w' : World) : Prop := ∃ A n c l, e = .returned (.slice A n c) ∧ dat l = d ∧ BagR w' w'.heap.size A n l ∧ n ≤ c ∧ Below w.heap.size w w'
theorem puti_bag {w W : World} {d : Bg} {v : Value} (h : PutI w d v W) (hd : d.length ≤ 100000) : ∃ A n c l, v = .slice A n c ∧ dat l = d ∧ BagR W W.heap.size A n l ∧ n ≤ c ∧ Below w.heap.size w W := by
  obtain ⟨hB, ⟨l, h1, h2, h3⟩, _⟩ := h
  have hl : l.length = d.length := by rw [← h2, dat_len]
  obtain ⟨A, c, rfl, hR⟩ := own_form h1
  exact ⟨A, l.length, c, l, rfl, h2, ⟨(Reads.of_own h1), h3.mono hB.size, by omega⟩, own_cap h1, hB⟩

set_option maxRecDepth 100000 in
set_option maxHeartbeats 1000000 in
theorem RPut_any (A0 : Option Addr) (nb c : Nat) (lb : List It) (A : Option Addr) (n cr : Nat) (r : Rw) (m : Int) (w : World) (hb : BagR w w.heap.size A0 nb lb) (hnb : nb ≤ 2000) (hr : RowK w w.heap.size A n r) (hn : n ≤ 1000)
    (hrow : ∀ x ∈ dat lb, x.1.length ≤ 1000) (hnum : ∀ x ∈ dat lb, -4000000000000 ≤ x.2 ∧ x.2 ≤ 4000000000000) (hm : -4000000000000 ≤ m ∧ m ≤ 4000000000000) :
    Calls Tryz.prog 57 #[.slice A0 nb c, .slice A n cr, .int .i64 m] w (RetB w (putB (dat lb) r m)) := by
  obtain ⟨i0, hi, hz0, hz1, hz2⟩ := info_parts3 infoItem
  have HL := hide hb.len
  have hP : PutI w [] (.slice none 0 0) w := ⟨Below.refl _ _, ⟨[], World.ownsRow_nil _ _ _ _, rfl, by intro i hi; cases hi⟩, trivial⟩
  go_enter Tryz.func57, Tryz.ntmps57
  go_wp2_with fail
  go_loopw [7, 8, 9] (fun v dn i wr => ∃ (k : Nat) (d : Bg) (b : Bool) (v0 : Value), k ≤ nb ∧ i = .int .i64 k ∧ dn = .bool b ∧ v0 = v ∧ PutI w d v0 wr ∧ ((dat lb).take k).foldl (putS r m) ([], false) = (d, b) ∧ d.length ≤ 2 * k) (fun _ _ i _ => nb - (intOf i).toNat)
  case atStart => exact ⟨0, [], false, _, Nat.zero_le _, rfl, rfl, rfl, hP, rfl, by simp⟩
  case round =>
    clear hP
    obtain ⟨k, d, dn, v, hk, rfl, rfl, rfl, hI, hst, hdl⟩ := hrel
    have HST := hide hst
    clear hst
    by_cases hlt : k < nb
    · obtain ⟨b, off, y0, rfl, hbl, hyk, c0', c1', hy⟩ := hb.at_ hlt
      have hyd := dat_at hyk
      have hmem := List.mem_of_getElem? hyd
      have hyn : y0.n ≤ 1000 := by have h1 := hrow _ hmem; have h2 := hy.len; simp only at h1; omega
      have hym := hnum _ hmem
      simp only at hym
      have HF := hide (fold_next (putS r m) hyd ([], false))
      rw [HST.out] at HF
      have HPL := hide (puts_len r m (d, dn) (y0.r, y0.m))
      have C0 := hide c0'
      have C1 := hide c1'
      have c0 := (hI.bel.cell (p := ⟨b, off + k * 2, none⟩) hbl).trans c0'
      have c1 := (hI.bel.cell (p := ⟨b, off + k * 2 + 1, none⟩) hbl).trans c1'
      clear c0' c1' hyk hyd hmem
      have q1 : (0 : Int) ≤ (k : Int) := by omega
      have q2 : (k : Int) < (nb : Int) := by omega
      have hw1 : IntKind.i64.wrap (y0.m + m) = y0.m + m := by rw [IntKind.wrap_i64]; omega
      have hps : putS r m (d, dn) (y0.r, y0.m) = (if cmpR r y0.r = 0 then (if y0.m + m ≠ 0 then d ++ [(r, y0.m + m)] else d, true) else if cmpR r y0.r < 0 ∧ dn = false then ((if m ≠ 0 then d ++ [(r, m)] else d) ++ [(y0.r, y0.m)], true) else (d ++ [(y0.r, y0.m)], dn)) := rfl
      rw [hps] at HF HPL
      clear hps
      go_wp2_with fail
      refine (R2Compare_any A n cr r y0.A y0.n y0.c y0.r wr (hr.below hI.bel).rd (hy.below hI.bel).rd hr.le).mono ?_
      rintro e wr ⟨rfl, hB1⟩
      have c0 := (hB1.cell (World.block_lt_of_cell? _ _ c0)).trans c0
      have c1 := (hB1.cell (World.block_lt_of_cell? _ _ c1)).trans c1
      have hI := hI.below hB1
      clear hB1
      obtain ⟨cc', hcc⟩ : ∃ cc', cmpR r y0.r = cc' := ⟨_, rfl⟩
      rw [hcc] at HF HPL ⊢
      clear hcc
      by_cases h0 : cc' = 0
      · have n1 : (cc' == 0) = true := by simpa using h0
        rw [if_pos h0] at HF HPL
        clear h0
        by_cases hs : y0.m + m = 0
        · have n2 : (y0.m + m != 0) = false := by simpa using hs
          rw [if_neg (by simpa using hs)] at HF HPL
          have HX := HF
          clear HF hs
          go_wp2
          go_roundw
          case rel => exact ⟨k + 1, d, true, _, by omega, by go_num, rfl, rfl, hI, HX.out, by omega⟩
          case measure => simp [intOf]; omega
        · have n2 : (y0.m + m != 0) = true := by simpa using hs
          rw [if_pos hs] at HF HPL
          have HX := HF
          clear HF hs
          go_wp2_with fail
          refine Held.begin (fun y => y.cell? ⟨b, off + k * 2, none⟩ = some (.slice y0.A y0.n y0.c) ∧ y.cell? ⟨b, off + k * 2 + 1, none⟩ = some (.int .i64 y0.m)) 100 (by kernel_rfl) ?_
          have hI := hI.below (Below.refl wr.heap.size wr).drew
          obtain ⟨X1, hX1⟩ : ∃ X1, wr.drew = X1 := ⟨_, rfl⟩
          have hS : X1.cell? ⟨b, off + k * 2, none⟩ = some (.slice y0.A y0.n y0.c) ∧ X1.cell? ⟨b, off + k * 2 + 1, none⟩ = some (.int .i64 y0.m) := by rw [← hX1]; exact ⟨c0, c1⟩
          rw [hX1] at hI ⊢
          clear hX1 c0 c1
          refine Held.take (i := 0) (v) rfl hS (by kernel_rfl) (by kernel_rfl) (by kernel_rfl) (by kernel_rfl) (fun _ _ _ h => h) rfl (fun y hy => by obtain ⟨x1, x2⟩ := hy; go_simp) ?_
          try simp only [Act.put]
          refine Held.take (i := 1) (.slice A n cr) rfl hS (by kernel_rfl) (by kernel_rfl) (by kernel_rfl) (by kernel_rfl) (fun _ _ _ h => h) rfl (fun y hy => by obtain ⟨x1, x2⟩ := hy; go_simp) ?_
          try simp only [Act.put]
          refine Held.take (i := 3) (.slice (some ⟨b, off, none⟩) nb c) rfl hS (by kernel_rfl) (by kernel_rfl) (by kernel_rfl) (by kernel_rfl) (fun _ _ _ h => h) rfl (fun y hy => by obtain ⟨x1, x2⟩ := hy; go_simp) ?_
          try simp only [Act.put]
          refine Held.take (i := 4) (.int .i64 (k : Int)) rfl hS (by kernel_rfl) (by kernel_rfl) (by kernel_rfl) (by kernel_rfl) (fun _ _ _ h => h) rfl (fun y hy => by obtain ⟨x1, x2⟩ := hy; go_simp) ?_
          try simp only [Act.put]
          refine Held.take (i := 5) (.pointer (some ⟨b, off + k * 2, none⟩)) rfl hS (by kernel_rfl) (by kernel_rfl) (by kernel_rfl) (by kernel_rfl) (fun _ _ _ h => h) rfl (fun y hy => by obtain ⟨x1, x2⟩ := hy; go_simp) ?_
          try simp only [Act.put]
          refine Held.take (i := 6) (.pointer (some ⟨b, off + k * 2 + 1, none⟩)) rfl hS (by kernel_rfl) (by kernel_rfl) (by kernel_rfl) (by kernel_rfl) (fun _ _ _ h => h) rfl (fun y hy => by obtain ⟨x1, x2⟩ := hy; go_simp) ?_
          try simp only [Act.put]
          refine Held.take (i := 7) (.int .i64 y0.m) rfl hS (by kernel_rfl) (by kernel_rfl) (by kernel_rfl) (by kernel_rfl) (fun _ _ _ h => h) rfl (fun y hy => by obtain ⟨x1, x2⟩ := hy; go_simp) ?_
          try simp only [Act.put]
          refine Held.take (i := 8) (.int .i64 m) rfl hS (by kernel_rfl) (by kernel_rfl) (by kernel_rfl) (by kernel_rfl) (fun _ _ _ h => h) rfl (fun y hy => by obtain ⟨x1, x2⟩ := hy; go_simp) ?_
          try simp only [Act.put]
          refine Held.take (i := 9) (.int .i64 (y0.m + m)) rfl hS (by kernel_rfl) (by kernel_rfl) (by kernel_rfl) (by kernel_rfl) (fun _ _ _ h => h) rfl (fun y hy => by obtain ⟨x1, x2⟩ := hy; go_simp) ?_
          try simp only [Act.put]
          refine Held.one (i := 2) rfl (by kernel_rfl) rfl (fun K hK => ?_)
          unfold Oper.wp
          go_simp
          refine (Own_any A n cr _ w.heap.size r X1 (hr.below hI.bel) (by omega)).mono ?_
          rintro e X2 ⟨Ac, cc, rfl, hrow, hB2⟩
          have hI2 := hI.below hB2
          clear hI
          have hS2 : X2.cell? ⟨b, off + k * 2, none⟩ = some (.slice y0.A y0.n y0.c) ∧ X2.cell? ⟨b, off + k * 2 + 1, none⟩ = some (.int .i64 y0.m) := ⟨(hB2.cell (World.block_lt_of_cell? _ _ hS.1)).trans hS.1, (hB2.cell (World.block_lt_of_cell? _ _ hS.2)).trans hS.2⟩
          refine hK _ _ (fun _ => hS2) ?_
          try simp only [Act.put]
          clear hK K hS hB2
          have hS := hS2
          clear hS2
          refine Held.take (i := 10) (.agg #[.slice Ac n cc, .int .i64 (y0.m + m)]) rfl hS (by kernel_rfl) (by kernel_rfl) (by kernel_rfl) (by kernel_rfl) (fun _ _ _ h => h) rfl (fun y hy => by obtain ⟨x1, x2⟩ := hy; go_simp) ?_
          try simp only [Act.put]
          refine Held.one (i := 11) rfl (by kernel_rfl) rfl (fun K hK => ?_)
          have HS4 := hide (show (X2.alloc (.cells #[.slice Ac n cc, .int .i64 (y0.m + m)] 119)).cell? ⟨b, off + k * 2, none⟩ = some (.slice y0.A y0.n y0.c) ∧ (X2.alloc (.cells #[.slice Ac n cc, .int .i64 (y0.m + m)] 119)).cell? ⟨b, off + k * 2 + 1, none⟩ = some (.int .i64 y0.m) from
            ⟨(World.cell?_alloc_lt X2 _ ⟨b, off + k * 2, none⟩ (World.block_lt_of_cell? _ _ hS.1)).trans hS.1, (World.cell?_alloc_lt X2 _ ⟨b, off + k * 2 + 1, none⟩ (World.block_lt_of_cell? _ _ hS.2)).trans hS.2⟩)
          unfold Oper.wp
          go_simp
          refine hK _ _ (fun _ => HS4.out) ?_
          try simp only [Act.put]
          clear hK K hS
          refine Held.one (i := 12) rfl (by kernel_rfl) rfl (fun K hK => ?_)
          have hle := hI2.bel.size
          obtain ⟨hbel, ⟨l', h1, h2, h3⟩, hcap⟩ := hI2
          have hll : l'.length = d.length := by rw [← h2, dat_len]
          have hrd : Reads (X2.alloc (.cells #[.slice Ac n cc, .int .i64 (y0.m + m)] 119)) (X2.heap.size + 1) 2 (some ⟨X2.heap.size, 0, none⟩) 1 [.slice Ac n cc, .int .i64 (y0.m + m)] :=
            ⟨rfl, fun _ => ⟨X2.heap.size, 0, rfl, by omega, fun j u hu => by
              have := (Blk.new X2 119 #[.slice Ac n cc, .int .i64 (y0.m + m)]).cell j
              rw [Nat.zero_add, this]; simpa using hu⟩⟩
          refine wp_append_any _ _ _ 40 rfl w.heap.size 119 i0 _ 2 32 Tryz.underlying40 hi hz0 hz1 hz2 rfl (by decide) v l'.length _ rfl (h1.alloc _) (X2.heap.size + 1) (some ⟨X2.heap.size, 0, none⟩) 1 1 [.slice Ac n cc, .int .i64 (y0.m + m)] rfl hrd (by simp [Value.oneCell']) (by unfold maxLen; omega) (by omega) (by simp; omega) ?_
          intro v' X3 hown1 hgrow _
          have hI := puti_app hbel h1 h2 h3 hrow hown1 hgrow
          have hS5 : X3.cell? ⟨b, off + k * 2, none⟩ = some (.slice y0.A y0.n y0.c) ∧ X3.cell? ⟨b, off + k * 2 + 1, none⟩ = some (.int .i64 y0.m) := ⟨(hI.bel.cell (p := ⟨b, off + k * 2, none⟩) hbl).trans C0.out, (hI.bel.cell (p := ⟨b, off + k * 2 + 1, none⟩) hbl).trans C1.out⟩
          refine hK _ _ (fun _ => hS5) ?_
          try simp only [Act.put]
          clear hK K HS4 hrd hown1 hgrow hbel h1 h2 h3 hrow
          refine Held.one (i := 13) rfl (by kernel_rfl) rfl (fun K hK => ?_)
          unfold Oper.wp
          go_simp
          refine hK _ _ (fun _ => hS5) ?_
          try simp only [Act.put]
          clear hK K hS5
          refine Held.done (by kernel_rfl) ?_
          go_wp2
          go_roundw
          case rel => exact ⟨k + 1, _, true, _, by omega, by go_num, rfl, rfl, hI, HX.out, by have := HPL.out; (try simp only at this); omega⟩
          case measure => simp [intOf]; omega
      · have n1 : (cc' == 0) = false := by simpa using h0
        rw [if_neg h0] at HF HPL
        clear h0
        by_cases hlt0 : cc' < 0 ∧ dn = false
        · obtain ⟨hl0, rfl⟩ := hlt0
          rw [if_pos ⟨hl0, rfl⟩] at HF HPL
          by_cases hm0 : m = 0
          · have n2 : (m != 0) = false := by simpa using hm0
            rw [if_neg (by simpa using hm0)] at HF HPL
            have HX := HF
            clear HF hm0
            go_wp2_with fail
            refine Held.begin (fun y => y.cell? ⟨b, off + k * 2, none⟩ = some (.slice y0.A y0.n y0.c) ∧ y.cell? ⟨b, off + k * 2 + 1, none⟩ = some (.int .i64 y0.m)) 100 (by kernel_rfl) ?_
            have hI := hI.below (Below.refl wr.heap.size wr).drew
            obtain ⟨X1, hX1⟩ : ∃ X1, wr.drew = X1 := ⟨_, rfl⟩
            have hS : X1.cell? ⟨b, off + k * 2, none⟩ = some (.slice y0.A y0.n y0.c) ∧ X1.cell? ⟨b, off + k * 2 + 1, none⟩ = some (.int .i64 y0.m) := by rw [← hX1]; exact ⟨c0, c1⟩
            rw [hX1] at hI ⊢
            clear hX1 c0 c1
            refine Held.take (i := 0) (v) rfl hS (by kernel_rfl) (by kernel_rfl) (by kernel_rfl) (by kernel_rfl) (fun _ _ _ h => h) rfl (fun y hy => by obtain ⟨x1, x2⟩ := hy; go_simp) ?_
            try simp only [Act.put]
            refine Held.take (i := 1) (.slice (some ⟨b, off, none⟩) nb c) rfl hS (by kernel_rfl) (by kernel_rfl) (by kernel_rfl) (by kernel_rfl) (fun _ _ _ h => h) rfl (fun y hy => by obtain ⟨x1, x2⟩ := hy; go_simp) ?_
            try simp only [Act.put]
            refine Held.take (i := 2) (.int .i64 (k : Int)) rfl hS (by kernel_rfl) (by kernel_rfl) (by kernel_rfl) (by kernel_rfl) (fun _ _ _ h => h) rfl (fun y hy => by obtain ⟨x1, x2⟩ := hy; go_simp) ?_
            try simp only [Act.put]
            refine Held.take (i := 3) (.pointer (some ⟨b, off + k * 2, none⟩)) rfl hS (by kernel_rfl) (by kernel_rfl) (by kernel_rfl) (by kernel_rfl) (fun _ _ _ h => h) rfl (fun y hy => by obtain ⟨x1, x2⟩ := hy; go_simp) ?_
            try simp only [Act.put]
            refine Held.take (i := 4) (.pointer (some ⟨b, off + k * 2, none⟩)) rfl hS (by kernel_rfl) (by kernel_rfl) (by kernel_rfl) (by kernel_rfl) (fun _ _ _ h => h) rfl (fun y hy => by obtain ⟨x1, x2⟩ := hy; go_simp) ?_
            try simp only [Act.put]
            refine Held.take (i := 5) (.slice y0.A y0.n y0.c) rfl hS (by kernel_rfl) (by kernel_rfl) (by kernel_rfl) (by kernel_rfl) (fun _ _ _ h => h) rfl (fun y hy => by obtain ⟨x1, x2⟩ := hy; go_simp) ?_
            try simp only [Act.put]
            refine Held.take (i := 7) (.slice (some ⟨b, off, none⟩) nb c) rfl hS (by kernel_rfl) (by kernel_rfl) (by kernel_rfl) (by kernel_rfl) (fun _ _ _ h => h) rfl (fun y hy => by obtain ⟨x1, x2⟩ := hy; go_simp) ?_
            try simp only [Act.put]
            refine Held.take (i := 8) (.int .i64 (k : Int)) rfl hS (by kernel_rfl) (by kernel_rfl) (by kernel_rfl) (by kernel_rfl) (fun _ _ _ h => h) rfl (fun y hy => by obtain ⟨x1, x2⟩ := hy; go_simp) ?_
            try simp only [Act.put]
            refine Held.take (i := 9) (.pointer (some ⟨b, off + k * 2, none⟩)) rfl hS (by kernel_rfl) (by kernel_rfl) (by kernel_rfl) (by kernel_rfl) (fun _ _ _ h => h) rfl (fun y hy => by obtain ⟨x1, x2⟩ := hy; go_simp) ?_
            try simp only [Act.put]
            refine Held.take (i := 10) (.pointer (some ⟨b, off + k * 2 + 1, none⟩)) rfl hS (by kernel_rfl) (by kernel_rfl) (by kernel_rfl) (by kernel_rfl) (fun _ _ _ h => h) rfl (fun y hy => by obtain ⟨x1, x2⟩ := hy; go_simp) ?_
            try simp only [Act.put]
            refine Held.take (i := 11) (.int .i64 y0.m) rfl hS (by kernel_rfl) (by kernel_rfl) (by kernel_rfl) (by kernel_rfl) (fun _ _ _ h => h) rfl (fun y hy => by obtain ⟨x1, x2⟩ := hy; go_simp) ?_
            try simp only [Act.put]
            refine Held.one (i := 6) rfl (by kernel_rfl) rfl (fun K hK => ?_)
            unfold Oper.wp
            go_simp
            refine (Own_any y0.A y0.n y0.c _ w.heap.size y0.r X1 (hy.below hI.bel) (by omega)).mono ?_
            rintro e X2 ⟨Ac, cc, rfl, hrow, hB2⟩
            have hI2 := hI.below hB2
            clear hI
            have hS2 : X2.cell? ⟨b, off + k * 2, none⟩ = some (.slice y0.A y0.n y0.c) ∧ X2.cell? ⟨b, off + k * 2 + 1, none⟩ = some (.int .i64 y0.m) := ⟨(hB2.cell (World.block_lt_of_cell? _ _ hS.1)).trans hS.1, (hB2.cell (World.block_lt_of_cell? _ _ hS.2)).trans hS.2⟩
            refine hK _ _ (fun _ => hS2) ?_
            try simp only [Act.put]
            clear hK K hS hB2
            have hS := hS2
            clear hS2
            refine Held.take (i := 12) (.agg #[.slice Ac y0.n cc, .int .i64 (y0.m)]) rfl hS (by kernel_rfl) (by kernel_rfl) (by kernel_rfl) (by kernel_rfl) (fun _ _ _ h => h) rfl (fun y hy => by obtain ⟨x1, x2⟩ := hy; go_simp) ?_
            try simp only [Act.put]
            refine Held.one (i := 13) rfl (by kernel_rfl) rfl (fun K hK => ?_)
            have HS4 := hide (show (X2.alloc (.cells #[.slice Ac y0.n cc, .int .i64 (y0.m)] 119)).cell? ⟨b, off + k * 2, none⟩ = some (.slice y0.A y0.n y0.c) ∧ (X2.alloc (.cells #[.slice Ac y0.n cc, .int .i64 (y0.m)] 119)).cell? ⟨b, off + k * 2 + 1, none⟩ = some (.int .i64 y0.m) from
              ⟨(World.cell?_alloc_lt X2 _ ⟨b, off + k * 2, none⟩ (World.block_lt_of_cell? _ _ hS.1)).trans hS.1, (World.cell?_alloc_lt X2 _ ⟨b, off + k * 2 + 1, none⟩ (World.block_lt_of_cell? _ _ hS.2)).trans hS.2⟩)
            unfold Oper.wp
            go_simp
            refine hK _ _ (fun _ => HS4.out) ?_
            try simp only [Act.put]
            clear hK K hS
            refine Held.one (i := 14) rfl (by kernel_rfl) rfl (fun K hK => ?_)
            have hle := hI2.bel.size
            obtain ⟨hbel, ⟨l', h1, h2, h3⟩, hcap⟩ := hI2
            have hll : l'.length = d.length := by rw [← h2, dat_len]
            have hrd : Reads (X2.alloc (.cells #[.slice Ac y0.n cc, .int .i64 (y0.m)] 119)) (X2.heap.size + 1) 2 (some ⟨X2.heap.size, 0, none⟩) 1 [.slice Ac y0.n cc, .int .i64 (y0.m)] :=
              ⟨rfl, fun _ => ⟨X2.heap.size, 0, rfl, by omega, fun j u hu => by
                have := (Blk.new X2 119 #[.slice Ac y0.n cc, .int .i64 (y0.m)]).cell j
                rw [Nat.zero_add, this]; simpa using hu⟩⟩
            refine wp_append_any _ _ _ 40 rfl w.heap.size 119 i0 _ 2 32 Tryz.underlying40 hi hz0 hz1 hz2 rfl (by decide) v l'.length _ rfl (h1.alloc _) (X2.heap.size + 1) (some ⟨X2.heap.size, 0, none⟩) 1 1 [.slice Ac y0.n cc, .int .i64 (y0.m)] rfl hrd (by simp [Value.oneCell']) (by unfold maxLen; omega) (by omega) (by simp; omega) ?_
            intro v' X3 hown1 hgrow _
            have hI := puti_app hbel h1 h2 h3 hrow hown1 hgrow
            have hS5 : X3.cell? ⟨b, off + k * 2, none⟩ = some (.slice y0.A y0.n y0.c) ∧ X3.cell? ⟨b, off + k * 2 + 1, none⟩ = some (.int .i64 y0.m) := ⟨(hI.bel.cell (p := ⟨b, off + k * 2, none⟩) hbl).trans C0.out, (hI.bel.cell (p := ⟨b, off + k * 2 + 1, none⟩) hbl).trans C1.out⟩
            refine hK _ _ (fun _ => hS5) ?_
            try simp only [Act.put]
            clear hK K HS4 hrd hown1 hgrow hbel h1 h2 h3 hrow
            refine Held.one (i := 15) rfl (by kernel_rfl) rfl (fun K hK => ?_)
            unfold Oper.wp
            go_simp
            refine hK _ _ (fun _ => hS5) ?_
            try simp only [Act.put]
            clear hK K hS5
            refine Held.done (by kernel_rfl) ?_
            go_wp2
            go_roundw
            case rel => exact ⟨k + 1, _, true, _, by omega, by go_num, rfl, rfl, hI, HX.out, by have := HPL.out; (try simp only at this); omega⟩
            case measure => simp [intOf]; omega
          · have n2 : (m != 0) = true := by simpa using hm0
            rw [if_pos hm0] at HF HPL
            have HX := HF
            clear HF hm0
            go_wp2_with fail
            refine (Own_any A n cr _ w.heap.size r wr (hr.below hI.bel) (by omega)).mono ?_
            rintro e X2 ⟨Ac, cc, rfl, hrow, hB2⟩
            have hI2 := hI.below hB2
            clear hI
            clear hB2
            have hle := hI2.bel.size
            obtain ⟨hbel, ⟨l', h1, h2, h3⟩, hcap⟩ := hI2
            have hll : l'.length = d.length := by rw [← h2, dat_len]
            have hrd : Reads (X2.alloc (.cells #[.slice Ac n cc, .int .i64 (m)] 119)) (X2.heap.size + 1) 2 (some ⟨X2.heap.size, 0, none⟩) 1 [.slice Ac n cc, .int .i64 (m)] :=
              ⟨rfl, fun _ => ⟨X2.heap.size, 0, rfl, by omega, fun j u hu => by
                have := (Blk.new X2 119 #[.slice Ac n cc, .int .i64 (m)]).cell j
                rw [Nat.zero_add, this]; simpa using hu⟩⟩
            go_wp2_with (at_builtin; refine wpList_append_any _ rfl _ _ 40 rfl w.heap.size 119 i0 _ 2 32 Tryz.underlying40 hi hz0 hz1 hz2 rfl (by decide) v l'.length _ rfl (h1.alloc _) (X2.heap.size + 1) (some ⟨X2.heap.size, 0, none⟩) 1 1 [.slice Ac n cc, .int .i64 (m)] rfl hrd (by simp [Value.oneCell']) (by unfold maxLen; omega) (by omega) (by simp; omega) ?_; intro v' X3 hown1 hgrow _; have hI := puti_app hbel h1 h2 h3 hrow hown1 hgrow; clear hrd hown1 hgrow hbel h1 h2 h3 hrow)
            have c0 := (hI.bel.cell (p := ⟨b, off + k * 2, none⟩) hbl).trans C0.out
            have c1 := (hI.bel.cell (p := ⟨b, off + k * 2 + 1, none⟩) hbl).trans C1.out
            refine Held.begin (fun y => y.cell? ⟨b, off + k * 2, none⟩ = some (.slice y0.A y0.n y0.c) ∧ y.cell? ⟨b, off + k * 2 + 1, none⟩ = some (.int .i64 y0.m)) 100 (by kernel_rfl) ?_
            have hI := hI.below (Below.refl X3.heap.size X3).drew
            obtain ⟨X1, hX1⟩ : ∃ X1, X3.drew = X1 := ⟨_, rfl⟩
            have hS : X1.cell? ⟨b, off + k * 2, none⟩ = some (.slice y0.A y0.n y0.c) ∧ X1.cell? ⟨b, off + k * 2 + 1, none⟩ = some (.int .i64 y0.m) := by rw [← hX1]; exact ⟨c0, c1⟩
            rw [hX1] at hI ⊢
            clear hX1 c0 c1
            refine Held.take (i := 0) (v') rfl hS (by kernel_rfl) (by kernel_rfl) (by kernel_rfl) (by kernel_rfl) (fun _ _ _ h => h) rfl (fun y hy => by obtain ⟨x1, x2⟩ := hy; go_simp) ?_
            try simp only [Act.put]
            refine Held.take (i := 1) (.slice (some ⟨b, off, none⟩) nb c) rfl hS (by kernel_rfl) (by kernel_rfl) (by kernel_rfl) (by kernel_rfl) (fun _ _ _ h => h) rfl (fun y hy => by obtain ⟨x1, x2⟩ := hy; go_simp) ?_
            try simp only [Act.put]
            refine Held.take (i := 2) (.int .i64 (k : Int)) rfl hS (by kernel_rfl) (by kernel_rfl) (by kernel_rfl) (by kernel_rfl) (fun _ _ _ h => h) rfl (fun y hy => by obtain ⟨x1, x2⟩ := hy; go_simp) ?_
            try simp only [Act.put]
            refine Held.take (i := 3) (.pointer (some ⟨b, off + k * 2, none⟩)) rfl hS (by kernel_rfl) (by kernel_rfl) (by kernel_rfl) (by kernel_rfl) (fun _ _ _ h => h) rfl (fun y hy => by obtain ⟨x1, x2⟩ := hy; go_simp) ?_
            try simp only [Act.put]
            refine Held.take (i := 4) (.pointer (some ⟨b, off + k * 2, none⟩)) rfl hS (by kernel_rfl) (by kernel_rfl) (by kernel_rfl) (by kernel_rfl) (fun _ _ _ h => h) rfl (fun y hy => by obtain ⟨x1, x2⟩ := hy; go_simp) ?_
            try simp only [Act.put]
            refine Held.take (i := 5) (.slice y0.A y0.n y0.c) rfl hS (by kernel_rfl) (by kernel_rfl) (by kernel_rfl) (by kernel_rfl) (fun _ _ _ h => h) rfl (fun y hy => by obtain ⟨x1, x2⟩ := hy; go_simp) ?_
            try simp only [Act.put]
            refine Held.take (i := 7) (.slice (some ⟨b, off, none⟩) nb c) rfl hS (by kernel_rfl) (by kernel_rfl) (by kernel_rfl) (by kernel_rfl) (fun _ _ _ h => h) rfl (fun y hy => by obtain ⟨x1, x2⟩ := hy; go_simp) ?_
            try simp only [Act.put]
            refine Held.take (i := 8) (.int .i64 (k : Int)) rfl hS (by kernel_rfl) (by kernel_rfl) (by kernel_rfl) (by kernel_rfl) (fun _ _ _ h => h) rfl (fun y hy => by obtain ⟨x1, x2⟩ := hy; go_simp) ?_
            try simp only [Act.put]
            refine Held.take (i := 9) (.pointer (some ⟨b, off + k * 2, none⟩)) rfl hS (by kernel_rfl) (by kernel_rfl) (by kernel_rfl) (by kernel_rfl) (fun _ _ _ h => h) rfl (fun y hy => by obtain ⟨x1, x2⟩ := hy; go_simp) ?_
            try simp only [Act.put]
            refine Held.take (i := 10) (.pointer (some ⟨b, off + k * 2 + 1, none⟩)) rfl hS (by kernel_rfl) (by kernel_rfl) (by kernel_rfl) (by kernel_rfl) (fun _ _ _ h => h) rfl (fun y hy => by obtain ⟨x1, x2⟩ := hy; go_simp) ?_
            try simp only [Act.put]
            refine Held.take (i := 11) (.int .i64 y0.m) rfl hS (by kernel_rfl) (by kernel_rfl) (by kernel_rfl) (by kernel_rfl) (fun _ _ _ h => h) rfl (fun y hy => by obtain ⟨x1, x2⟩ := hy; go_simp) ?_
            try simp only [Act.put]
            refine Held.one (i := 6) rfl (by kernel_rfl) rfl (fun K hK => ?_)
            unfold Oper.wp
            go_simp
            refine (Own_any y0.A y0.n y0.c _ w.heap.size y0.r X1 (hy.below hI.bel) (by omega)).mono ?_
            rintro e X2 ⟨Ac, cc, rfl, hrow, hB2⟩
            have hI2 := hI.below hB2
            clear hI
            have hS2 : X2.cell? ⟨b, off + k * 2, none⟩ = some (.slice y0.A y0.n y0.c) ∧ X2.cell? ⟨b, off + k * 2 + 1, none⟩ = some (.int .i64 y0.m) := ⟨(hB2.cell (World.block_lt_of_cell? _ _ hS.1)).trans hS.1, (hB2.cell (World.block_lt_of_cell? _ _ hS.2)).trans hS.2⟩
            refine hK _ _ (fun _ => hS2) ?_
            try simp only [Act.put]
            clear hK K hS hB2
            have hS := hS2
            clear hS2
            refine Held.take (i := 12) (.agg #[.slice Ac y0.n cc, .int .i64 (y0.m)]) rfl hS (by kernel_rfl) (by kernel_rfl) (by kernel_rfl) (by kernel_rfl) (fun _ _ _ h => h) rfl (fun y hy => by obtain ⟨x1, x2⟩ := hy; go_simp) ?_
            try simp only [Act.put]
            refine Held.one (i := 13) rfl (by kernel_rfl) rfl (fun K hK => ?_)
            have HS4 := hide (show (X2.alloc (.cells #[.slice Ac y0.n cc, .int .i64 (y0.m)] 119)).cell? ⟨b, off + k * 2, none⟩ = some (.slice y0.A y0.n y0.c) ∧ (X2.alloc (.cells #[.slice Ac y0.n cc, .int .i64 (y0.m)] 119)).cell? ⟨b, off + k * 2 + 1, none⟩ = some (.int .i64 y0.m) from
              ⟨(World.cell?_alloc_lt X2 _ ⟨b, off + k * 2, none⟩ (World.block_lt_of_cell? _ _ hS.1)).trans hS.1, (World.cell?_alloc_lt X2 _ ⟨b, off + k * 2 + 1, none⟩ (World.block_lt_of_cell? _ _ hS.2)).trans hS.2⟩)
            unfold Oper.wp
            go_simp
            refine hK _ _ (fun _ => HS4.out) ?_
            try simp only [Act.put]
            clear hK K hS
            refine Held.one (i := 14) rfl (by kernel_rfl) rfl (fun K hK => ?_)
            have hle := hI2.bel.size
            obtain ⟨hbel, ⟨l', h1, h2, h3⟩, hcap⟩ := hI2
            have hll : l'.length = (d ++ [(r, m)]).length := by rw [← h2, dat_len]
            rw [List.length_append] at hll
            simp only [List.length_cons, List.length_nil] at hll
            have hrd : Reads (X2.alloc (.cells #[.slice Ac y0.n cc, .int .i64 (y0.m)] 119)) (X2.heap.size + 1) 2 (some ⟨X2.heap.size, 0, none⟩) 1 [.slice Ac y0.n cc, .int .i64 (y0.m)] :=
              ⟨rfl, fun _ => ⟨X2.heap.size, 0, rfl, by omega, fun j u hu => by
                have := (Blk.new X2 119 #[.slice Ac y0.n cc, .int .i64 (y0.m)]).cell j
                rw [Nat.zero_add, this]; simpa using hu⟩⟩
            refine wp_append_any _ _ _ 40 rfl w.heap.size 119 i0 _ 2 32 Tryz.underlying40 hi hz0 hz1 hz2 rfl (by decide) v' l'.length _ rfl (h1.alloc _) (X2.heap.size + 1) (some ⟨X2.heap.size, 0, none⟩) 1 1 [.slice Ac y0.n cc, .int .i64 (y0.m)] rfl hrd (by simp [Value.oneCell']) (by unfold maxLen; omega) (by omega) (by simp; omega) ?_
            intro v'' X4 hown1 hgrow _
            have hI := puti_app hbel h1 h2 h3 hrow hown1 hgrow
            have hS5 : X4.cell? ⟨b, off + k * 2, none⟩ = some (.slice y0.A y0.n y0.c) ∧ X4.cell? ⟨b, off + k * 2 + 1, none⟩ = some (.int .i64 y0.m) := ⟨(hI.bel.cell (p := ⟨b, off + k * 2, none⟩) hbl).trans C0.out, (hI.bel.cell (p := ⟨b, off + k * 2 + 1, none⟩) hbl).trans C1.out⟩
            refine hK _ _ (fun _ => hS5) ?_
            try simp only [Act.put]
            clear hK K HS4 hrd hown1 hgrow hbel h1 h2 h3 hrow
            refine Held.one (i := 15) rfl (by kernel_rfl) rfl (fun K hK => ?_)
            unfold Oper.wp
            go_simp
            refine hK _ _ (fun _ => hS5) ?_
            try simp only [Act.put]
            clear hK K hS5
            refine Held.done (by kernel_rfl) ?_
            go_wp2
            go_roundw
            case rel => exact ⟨k + 1, _, true, _, by omega, by go_num, rfl, rfl, hI, HX.out, by have := HPL.out; (try simp only at this); omega⟩
            case measure => simp [intOf]; omega
        · rw [if_neg hlt0] at HF HPL
          have HX := HF
          clear HF
          by_cases hl0 : cc' < 0
          · obtain rfl : dn = true := by
              cases dn
              · exact absurd ⟨hl0, rfl⟩ hlt0
              · rfl
            clear hlt0
            go_wp2_with fail
            refine Held.begin (fun y => y.cell? ⟨b, off + k * 2, none⟩ = some (.slice y0.A y0.n y0.c) ∧ y.cell? ⟨b, off + k * 2 + 1, none⟩ = some (.int .i64 y0.m)) 100 (by kernel_rfl) ?_
            have hI := hI.below (Below.refl wr.heap.size wr).drew
            obtain ⟨X1, hX1⟩ : ∃ X1, wr.drew = X1 := ⟨_, rfl⟩
            have hS : X1.cell? ⟨b, off + k * 2, none⟩ = some (.slice y0.A y0.n y0.c) ∧ X1.cell? ⟨b, off + k * 2 + 1, none⟩ = some (.int .i64 y0.m) := by rw [← hX1]; exact ⟨c0, c1⟩
            rw [hX1] at hI ⊢
            clear hX1 c0 c1
            refine Held.take (i := 0) (v) rfl hS (by kernel_rfl) (by kernel_rfl) (by kernel_rfl) (by kernel_rfl) (fun _ _ _ h => h) rfl (fun y hy => by obtain ⟨x1, x2⟩ := hy; go_simp) ?_
            try simp only [Act.put]
            refine Held.take (i := 1) (.slice (some ⟨b, off, none⟩) nb c) rfl hS (by kernel_rfl) (by kernel_rfl) (by kernel_rfl) (by kernel_rfl) (fun _ _ _ h => h) rfl (fun y hy => by obtain ⟨x1, x2⟩ := hy; go_simp) ?_
            try simp only [Act.put]
            refine Held.take (i := 2) (.int .i64 (k : Int)) rfl hS (by kernel_rfl) (by kernel_rfl) (by kernel_rfl) (by kernel_rfl) (fun _ _ _ h => h) rfl (fun y hy => by obtain ⟨x1, x2⟩ := hy; go_simp) ?_
            try simp only [Act.put]
            refine Held.take (i := 3) (.pointer (some ⟨b, off + k * 2, none⟩)) rfl hS (by kernel_rfl) (by kernel_rfl) (by kernel_rfl) (by kernel_rfl) (fun _ _ _ h => h) rfl (fun y hy => by obtain ⟨x1, x2⟩ := hy; go_simp) ?_
            try simp only [Act.put]
            refine Held.take (i := 4) (.pointer (some ⟨b, off + k * 2, none⟩)) rfl hS (by kernel_rfl) (by kernel_rfl) (by kernel_rfl) (by kernel_rfl) (fun _ _ _ h => h) rfl (fun y hy => by obtain ⟨x1, x2⟩ := hy; go_simp) ?_
            try simp only [Act.put]
            refine Held.take (i := 5) (.slice y0.A y0.n y0.c) rfl hS (by kernel_rfl) (by kernel_rfl) (by kernel_rfl) (by kernel_rfl) (fun _ _ _ h => h) rfl (fun y hy => by obtain ⟨x1, x2⟩ := hy; go_simp) ?_
            try simp only [Act.put]
            refine Held.take (i := 7) (.slice (some ⟨b, off, none⟩) nb c) rfl hS (by kernel_rfl) (by kernel_rfl) (by kernel_rfl) (by kernel_rfl) (fun _ _ _ h => h) rfl (fun y hy => by obtain ⟨x1, x2⟩ := hy; go_simp) ?_
            try simp only [Act.put]
            refine Held.take (i := 8) (.int .i64 (k : Int)) rfl hS (by kernel_rfl) (by kernel_rfl) (by kernel_rfl) (by kernel_rfl) (fun _ _ _ h => h) rfl (fun y hy => by obtain ⟨x1, x2⟩ := hy; go_simp) ?_
            try simp only [Act.put]
            refine Held.take (i := 9) (.pointer (some ⟨b, off + k * 2, none⟩)) rfl hS (by kernel_rfl) (by kernel_rfl) (by kernel_rfl) (by kernel_rfl) (fun _ _ _ h => h) rfl (fun y hy => by obtain ⟨x1, x2⟩ := hy; go_simp) ?_
            try simp only [Act.put]
            refine Held.take (i := 10) (.pointer (some ⟨b, off + k * 2 + 1, none⟩)) rfl hS (by kernel_rfl) (by kernel_rfl) (by kernel_rfl) (by kernel_rfl) (fun _ _ _ h => h) rfl (fun y hy => by obtain ⟨x1, x2⟩ := hy; go_simp) ?_
            try simp only [Act.put]
            refine Held.take (i := 11) (.int .i64 y0.m) rfl hS (by kernel_rfl) (by kernel_rfl) (by kernel_rfl) (by kernel_rfl) (fun _ _ _ h => h) rfl (fun y hy => by obtain ⟨x1, x2⟩ := hy; go_simp) ?_
            try simp only [Act.put]
            refine Held.one (i := 6) rfl (by kernel_rfl) rfl (fun K hK => ?_)
            unfold Oper.wp
            go_simp
            refine (Own_any y0.A y0.n y0.c _ w.heap.size y0.r X1 (hy.below hI.bel) (by omega)).mono ?_
            rintro e X2 ⟨Ac, cc, rfl, hrow, hB2⟩
            have hI2 := hI.below hB2
            clear hI
            have hS2 : X2.cell? ⟨b, off + k * 2, none⟩ = some (.slice y0.A y0.n y0.c) ∧ X2.cell? ⟨b, off + k * 2 + 1, none⟩ = some (.int .i64 y0.m) := ⟨(hB2.cell (World.block_lt_of_cell? _ _ hS.1)).trans hS.1, (hB2.cell (World.block_lt_of_cell? _ _ hS.2)).trans hS.2⟩
            refine hK _ _ (fun _ => hS2) ?_
            try simp only [Act.put]
            clear hK K hS hB2
            have hS := hS2
            clear hS2
            refine Held.take (i := 12) (.agg #[.slice Ac y0.n cc, .int .i64 (y0.m)]) rfl hS (by kernel_rfl) (by kernel_rfl) (by kernel_rfl) (by kernel_rfl) (fun _ _ _ h => h) rfl (fun y hy => by obtain ⟨x1, x2⟩ := hy; go_simp) ?_
            try simp only [Act.put]
            refine Held.one (i := 13) rfl (by kernel_rfl) rfl (fun K hK => ?_)
            have HS4 := hide (show (X2.alloc (.cells #[.slice Ac y0.n cc, .int .i64 (y0.m)] 119)).cell? ⟨b, off + k * 2, none⟩ = some (.slice y0.A y0.n y0.c) ∧ (X2.alloc (.cells #[.slice Ac y0.n cc, .int .i64 (y0.m)] 119)).cell? ⟨b, off + k * 2 + 1, none⟩ = some (.int .i64 y0.m) from
              ⟨(World.cell?_alloc_lt X2 _ ⟨b, off + k * 2, none⟩ (World.block_lt_of_cell? _ _ hS.1)).trans hS.1, (World.cell?_alloc_lt X2 _ ⟨b, off + k * 2 + 1, none⟩ (World.block_lt_of_cell? _ _ hS.2)).trans hS.2⟩)
            unfold Oper.wp
            go_simp
            refine hK _ _ (fun _ => HS4.out) ?_
            try simp only [Act.put]
            clear hK K hS
            refine Held.one (i := 14) rfl (by kernel_rfl) rfl (fun K hK => ?_)
            have hle := hI2.bel.size
            obtain ⟨hbel, ⟨l', h1, h2, h3⟩, hcap⟩ := hI2
            have hll : l'.length = d.length := by rw [← h2, dat_len]
            have hrd : Reads (X2.alloc (.cells #[.slice Ac y0.n cc, .int .i64 (y0.m)] 119)) (X2.heap.size + 1) 2 (some ⟨X2.heap.size, 0, none⟩) 1 [.slice Ac y0.n cc, .int .i64 (y0.m)] :=
              ⟨rfl, fun _ => ⟨X2.heap.size, 0, rfl, by omega, fun j u hu => by
                have := (Blk.new X2 119 #[.slice Ac y0.n cc, .int .i64 (y0.m)]).cell j
                rw [Nat.zero_add, this]; simpa using hu⟩⟩
            refine wp_append_any _ _ _ 40 rfl w.heap.size 119 i0 _ 2 32 Tryz.underlying40 hi hz0 hz1 hz2 rfl (by decide) v l'.length _ rfl (h1.alloc _) (X2.heap.size + 1) (some ⟨X2.heap.size, 0, none⟩) 1 1 [.slice Ac y0.n cc, .int .i64 (y0.m)] rfl hrd (by simp [Value.oneCell']) (by unfold maxLen; omega) (by omega) (by simp; omega) ?_
            intro v' X3 hown1 hgrow _
            have hI := puti_app hbel h1 h2 h3 hrow hown1 hgrow
            have hS5 : X3.cell? ⟨b, off + k * 2, none⟩ = some (.slice y0.A y0.n y0.c) ∧ X3.cell? ⟨b, off + k * 2 + 1, none⟩ = some (.int .i64 y0.m) := ⟨(hI.bel.cell (p := ⟨b, off + k * 2, none⟩) hbl).trans C0.out, (hI.bel.cell (p := ⟨b, off + k * 2 + 1, none⟩) hbl).trans C1.out⟩
            refine hK _ _ (fun _ => hS5) ?_
            try simp only [Act.put]
            clear hK K HS4 hrd hown1 hgrow hbel h1 h2 h3 hrow
            refine Held.one (i := 15) rfl (by kernel_rfl) rfl (fun K hK => ?_)
            unfold Oper.wp
            go_simp
            refine hK _ _ (fun _ => hS5) ?_
            try simp only [Act.put]
            clear hK K hS5
            refine Held.done (by kernel_rfl) ?_
            go_wp2
            go_roundw
            case rel => exact ⟨k + 1, _, true, _, by omega, by go_num, rfl, rfl, hI, HX.out, by have := HPL.out; (try simp only at this); omega⟩
            case measure => simp [intOf]; omega
          · have n2 : decide (cc' < 0) = false := decide_eq_false hl0
            clear hlt0
            go_wp2_with fail
            refine Held.begin (fun y => y.cell? ⟨b, off + k * 2, none⟩ = some (.slice y0.A y0.n y0.c) ∧ y.cell? ⟨b, off + k * 2 + 1, none⟩ = some (.int .i64 y0.m)) 100 (by kernel_rfl) ?_
            have hI := hI.below (Below.refl wr.heap.size wr).drew
            obtain ⟨X1, hX1⟩ : ∃ X1, wr.drew = X1 := ⟨_, rfl⟩
            have hS : X1.cell? ⟨b, off + k * 2, none⟩ = some (.slice y0.A y0.n y0.c) ∧ X1.cell? ⟨b, off + k * 2 + 1, none⟩ = some (.int .i64 y0.m) := by rw [← hX1]; exact ⟨c0, c1⟩
            rw [hX1] at hI ⊢
            clear hX1 c0 c1
            refine Held.take (i := 0) (v) rfl hS (by kernel_rfl) (by kernel_rfl) (by kernel_rfl) (by kernel_rfl) (fun _ _ _ h => h) rfl (fun y hy => by obtain ⟨x1, x2⟩ := hy; go_simp) ?_
            try simp only [Act.put]
            refine Held.take (i := 1) (.slice (some ⟨b, off, none⟩) nb c) rfl hS (by kernel_rfl) (by kernel_rfl) (by kernel_rfl) (by kernel_rfl) (fun _ _ _ h => h) rfl (fun y hy => by obtain ⟨x1, x2⟩ := hy; go_simp) ?_
            try simp only [Act.put]
            refine Held.take (i := 2) (.int .i64 (k : Int)) rfl hS (by kernel_rfl) (by kernel_rfl) (by kernel_rfl) (by kernel_rfl) (fun _ _ _ h => h) rfl (fun y hy => by obtain ⟨x1, x2⟩ := hy; go_simp) ?_
            try simp only [Act.put]
            refine Held.take (i := 3) (.pointer (some ⟨b, off + k * 2, none⟩)) rfl hS (by kernel_rfl) (by kernel_rfl) (by kernel_rfl) (by kernel_rfl) (fun _ _ _ h => h) rfl (fun y hy => by obtain ⟨x1, x2⟩ := hy; go_simp) ?_
            try simp only [Act.put]
            refine Held.take (i := 4) (.pointer (some ⟨b, off + k * 2, none⟩)) rfl hS (by kernel_rfl) (by kernel_rfl) (by kernel_rfl) (by kernel_rfl) (fun _ _ _ h => h) rfl (fun y hy => by obtain ⟨x1, x2⟩ := hy; go_simp) ?_
            try simp only [Act.put]
            refine Held.take (i := 5) (.slice y0.A y0.n y0.c) rfl hS (by kernel_rfl) (by kernel_rfl) (by kernel_rfl) (by kernel_rfl) (fun _ _ _ h => h) rfl (fun y hy => by obtain ⟨x1, x2⟩ := hy; go_simp) ?_
            try simp only [Act.put]
            refine Held.take (i := 7) (.slice (some ⟨b, off, none⟩) nb c) rfl hS (by kernel_rfl) (by kernel_rfl) (by kernel_rfl) (by kernel_rfl) (fun _ _ _ h => h) rfl (fun y hy => by obtain ⟨x1, x2⟩ := hy; go_simp) ?_
            try simp only [Act.put]
            refine Held.take (i := 8) (.int .i64 (k : Int)) rfl hS (by kernel_rfl) (by kernel_rfl) (by kernel_rfl) (by kernel_rfl) (fun _ _ _ h => h) rfl (fun y hy => by obtain ⟨x1, x2⟩ := hy; go_simp) ?_
            try simp only [Act.put]
            refine Held.take (i := 9) (.pointer (some ⟨b, off + k * 2, none⟩)) rfl hS (by kernel_rfl) (by kernel_rfl) (by kernel_rfl) (by kernel_rfl) (fun _ _ _ h => h) rfl (fun y hy => by obtain ⟨x1, x2⟩ := hy; go_simp) ?_
            try simp only [Act.put]
            refine Held.take (i := 10) (.pointer (some ⟨b, off + k * 2 + 1, none⟩)) rfl hS (by kernel_rfl) (by kernel_rfl) (by kernel_rfl) (by kernel_rfl) (fun _ _ _ h => h) rfl (fun y hy => by obtain ⟨x1, x2⟩ := hy; go_simp) ?_
            try simp only [Act.put]
            refine Held.take (i := 11) (.int .i64 y0.m) rfl hS (by kernel_rfl) (by kernel_rfl) (by kernel_rfl) (by kernel_rfl) (fun _ _ _ h => h) rfl (fun y hy => by obtain ⟨x1, x2⟩ := hy; go_simp) ?_
            try simp only [Act.put]
            refine Held.one (i := 6) rfl (by kernel_rfl) rfl (fun K hK => ?_)
            unfold Oper.wp
            go_simp
            refine (Own_any y0.A y0.n y0.c _ w.heap.size y0.r X1 (hy.below hI.bel) (by omega)).mono ?_
            rintro e X2 ⟨Ac, cc, rfl, hrow, hB2⟩
            have hI2 := hI.below hB2
            clear hI
            have hS2 : X2.cell? ⟨b, off + k * 2, none⟩ = some (.slice y0.A y0.n y0.c) ∧ X2.cell? ⟨b, off + k * 2 + 1, none⟩ = some (.int .i64 y0.m) := ⟨(hB2.cell (World.block_lt_of_cell? _ _ hS.1)).trans hS.1, (hB2.cell (World.block_lt_of_cell? _ _ hS.2)).trans hS.2⟩
            refine hK _ _ (fun _ => hS2) ?_
            try simp only [Act.put]
            clear hK K hS hB2
            have hS := hS2
            clear hS2
            refine Held.take (i := 12) (.agg #[.slice Ac y0.n cc, .int .i64 (y0.m)]) rfl hS (by kernel_rfl) (by kernel_rfl) (by kernel_rfl) (by kernel_rfl) (fun _ _ _ h => h) rfl (fun y hy => by obtain ⟨x1, x2⟩ := hy; go_simp) ?_
            try simp only [Act.put]
            refine Held.one (i := 13) rfl (by kernel_rfl) rfl (fun K hK => ?_)
            have HS4 := hide (show (X2.alloc (.cells #[.slice Ac y0.n cc, .int .i64 (y0.m)] 119)).cell? ⟨b, off + k * 2, none⟩ = some (.slice y0.A y0.n y0.c) ∧ (X2.alloc (.cells #[.slice Ac y0.n cc, .int .i64 (y0.m)] 119)).cell? ⟨b, off + k * 2 + 1, none⟩ = some (.int .i64 y0.m) from
              ⟨(World.cell?_alloc_lt X2 _ ⟨b, off + k * 2, none⟩ (World.block_lt_of_cell? _ _ hS.1)).trans hS.1, (World.cell?_alloc_lt X2 _ ⟨b, off + k * 2 + 1, none⟩ (World.block_lt_of_cell? _ _ hS.2)).trans hS.2⟩)
            unfold Oper.wp
            go_simp
            refine hK _ _ (fun _ => HS4.out) ?_
            try simp only [Act.put]
            clear hK K hS
            refine Held.one (i := 14) rfl (by kernel_rfl) rfl (fun K hK => ?_)
            have hle := hI2.bel.size
            obtain ⟨hbel, ⟨l', h1, h2, h3⟩, hcap⟩ := hI2
            have hll : l'.length = d.length := by rw [← h2, dat_len]
            have hrd : Reads (X2.alloc (.cells #[.slice Ac y0.n cc, .int .i64 (y0.m)] 119)) (X2.heap.size + 1) 2 (some ⟨X2.heap.size, 0, none⟩) 1 [.slice Ac y0.n cc, .int .i64 (y0.m)] :=
              ⟨rfl, fun _ => ⟨X2.heap.size, 0, rfl, by omega, fun j u hu => by
                have := (Blk.new X2 119 #[.slice Ac y0.n cc, .int .i64 (y0.m)]).cell j
                rw [Nat.zero_add, this]; simpa using hu⟩⟩
            refine wp_append_any _ _ _ 40 rfl w.heap.size 119 i0 _ 2 32 Tryz.underlying40 hi hz0 hz1 hz2 rfl (by decide) v l'.length _ rfl (h1.alloc _) (X2.heap.size + 1) (some ⟨X2.heap.size, 0, none⟩) 1 1 [.slice Ac y0.n cc, .int .i64 (y0.m)] rfl hrd (by simp [Value.oneCell']) (by unfold maxLen; omega) (by omega) (by simp; omega) ?_
            intro v' X3 hown1 hgrow _
            have hI := puti_app hbel h1 h2 h3 hrow hown1 hgrow
            have hS5 : X3.cell? ⟨b, off + k * 2, none⟩ = some (.slice y0.A y0.n y0.c) ∧ X3.cell? ⟨b, off + k * 2 + 1, none⟩ = some (.int .i64 y0.m) := ⟨(hI.bel.cell (p := ⟨b, off + k * 2, none⟩) hbl).trans C0.out, (hI.bel.cell (p := ⟨b, off + k * 2 + 1, none⟩) hbl).trans C1.out⟩
            refine hK _ _ (fun _ => hS5) ?_
            try simp only [Act.put]
            clear hK K HS4 hrd hown1 hgrow hbel h1 h2 h3 hrow
            refine Held.one (i := 15) rfl (by kernel_rfl) rfl (fun K hK => ?_)
            unfold Oper.wp
            go_simp
            refine hK _ _ (fun _ => hS5) ?_
            try simp only [Act.put]
            clear hK K hS5
            refine Held.done (by kernel_rfl) ?_
            go_wp2
            go_roundw
            case rel => exact ⟨k + 1, _, dn, _, by omega, by go_num, rfl, rfl, hI, HX.out, by have := HPL.out; (try simp only at this); omega⟩
            case measure => simp [intOf]; omega
    · obtain rfl : k = nb := by omega
      have hfin : ((dat lb).foldl (putS r m) ([], false)) = (d, dn) := by
        have := HST.out
        rwa [take_all (by rw [dat_len, HL.out])] at this
      have HP := show putB (dat lb) r m = putE r m (d, dn) from by unfold putB; rw [hfin]
      have hput : putE r m (d, dn) = if dn = false ∧ m ≠ 0 then d ++ [(r, m)] else d := rfl
      rw [hput] at HP
      clear hput hfin HST
      cases dn
      · by_cases hm0 : m = 0
        · have n2 : (m != 0) = false := by simpa using hm0
          rw [if_neg (by simp [hm0])] at HP
          have HPB := hide HP
          clear HP hm0
          go_wp2
          go_ret
          obtain ⟨A', n', c', l, hv, hd, hbag, hcap, hB⟩ := puti_bag hI (by omega)
          exact ⟨A', n', c', l, by subst hv; rfl, by rw [HPB.out]; exact hd, hbag, hcap, hB⟩
        · have n2 : (m != 0) = true := by simpa using hm0
          rw [if_pos ⟨rfl, hm0⟩] at HP
          have HPB := hide HP
          clear HP hm0
          go_wp2_with fail
          refine (Own_any A n cr _ w.heap.size r wr (hr.below hI.bel) (by omega)).mono ?_
          rintro e X2 ⟨Ac, cc, rfl, hrow, hB2⟩
          have hI2 := hI.below hB2
          clear hI
          clear hB2
          have hle := hI2.bel.size
          obtain ⟨hbel, ⟨l', h1, h2, h3⟩, hcap⟩ := hI2
          have hll : l'.length = d.length := by rw [← h2, dat_len]
          have hrd : Reads (X2.alloc (.cells #[.slice Ac n cc, .int .i64 (m)] 119)) (X2.heap.size + 1) 2 (some ⟨X2.heap.size, 0, none⟩) 1 [.slice Ac n cc, .int .i64 (m)] :=
            ⟨rfl, fun _ => ⟨X2.heap.size, 0, rfl, by omega, fun j u hu => by
              have := (Blk.new X2 119 #[.slice Ac n cc, .int .i64 (m)]).cell j
              rw [Nat.zero_add, this]; simpa using hu⟩⟩
          go_wp2_with (at_builtin; refine wpList_append_any _ rfl _ _ 40 rfl w.heap.size 119 i0 _ 2 32 Tryz.underlying40 hi hz0 hz1 hz2 rfl (by decide) v l'.length _ rfl (h1.alloc _) (X2.heap.size + 1) (some ⟨X2.heap.size, 0, none⟩) 1 1 [.slice Ac n cc, .int .i64 (m)] rfl hrd (by simp [Value.oneCell']) (by unfold maxLen; omega) (by omega) (by simp; omega) ?_; intro v' X3 hown1 hgrow _; have hI := puti_app hbel h1 h2 h3 hrow hown1 hgrow; clear hrd hown1 hgrow hbel h1 h2 h3 hrow)
          go_ret
          obtain ⟨A', n', c', l, hv, hd, hbag, hcap, hB⟩ := puti_bag hI (by simp; omega)
          exact ⟨A', n', c', l, by subst hv; rfl, by rw [HPB.out]; exact hd, hbag, hcap, hB⟩
      · rw [if_neg (by simp)] at HP
        have HPB := hide HP
        clear HP
        go_wp2
        go_ret
        obtain ⟨A', n', c', l, hv, hd, hbag, hcap, hB⟩ := puti_bag hI (by omega)
        exact ⟨A', n', c', l, by subst hv; rfl, by rw [HPB.out]; exact hd, hbag, hcap, hB⟩
end Go.Proofs.YtoapjidpfghnlaaGreatDoor
