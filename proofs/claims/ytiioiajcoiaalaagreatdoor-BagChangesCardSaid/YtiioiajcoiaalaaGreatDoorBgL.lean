/-
  The walks of the reference's SameChanges at changes that are one, and of the law's awake.
-/
import Derived.Test.YtiioiajcoiaalaaGreatDoorBgK
import Derived.Test.YtiioiajcoiaalaaGreatDoorBgG
namespace Go.Proofs.YtiioiajcoiaalaaGreatDoor
open Go.RowKit
attribute [local go_sem] Oper.semAt_some

theorem ChgR.at_ {w : World} {B n : Nat} {A : Option Addr} {l : List Ch} (h : ChgR w B A n l) {k : Nat} (hk : k < n) : ∃ b off i, A = some ⟨b, off, none⟩ ∧ b < w.heap.size ∧ l[k]? = some i ∧ w.cell? ⟨b, off + k * 3, none⟩ = some (.int .i64 i.t) ∧
    w.cell? ⟨b, off + k * 3 + 1, none⟩ = some (.slice i.A i.n i.c) ∧ w.cell? ⟨b, off + k * 3 + 2, none⟩ = some (.int .i64 i.m) ∧ RowK w B i.A i.n i.r := by
  obtain ⟨b, off, i, e, hb, hi, hc⟩ := h.rd.elem encCh_len (h.rd.len encCh_len (by omega)) hk
  exact ⟨b, off, i, e, hb, hi, by simpa using hc 0 _ rfl, by simpa [← Nat.add_assoc] using hc 1 _ rfl, by simpa [← Nat.add_assoc] using hc 2 _ rfl, h.rows i (List.mem_of_getElem? hi)⟩
theorem ChgR.below {w w' : World} {B n : Nat} {A : Option Addr} {l : List Ch} (h : ChgR w B A n l) (hb : Below w.heap.size w w') : ChgR w' B A n l := ⟨h.rd.up hb, fun i hi => (h.rows i hi).below hb, h.le⟩
def datC (l : List Ch) : List (Rw × Int × Int) := l.map fun i => (i.r, i.t, i.m)
set_option maxRecDepth 100000 in
set_option maxHeartbeats 8000000 in
theorem ChgSame_one (A : Option Addr) (n c : Nat) (A' : Option Addr) (c' B B' : Nat) (l l' : List Ch) (w : World) (hx : ChgR w B A n l) (hy : ChgR w B' A' n l') (hd : datC l = datC l') :
    Calls Tryz.prog 17 #[.slice A n c, .slice A' n c'] w (RetV w (.bool true)) := by
  have hn := hx.le
  have n1 : ((n : Int) != (n : Int)) = false := by simp
  go_enter Tryz.func17, Tryz.ntmps17
  go_wp2_with fail
  go_loopw [5] (fun i wr => ∃ k : Nat, k ≤ n ∧ i = .int .i64 k ∧ Below w.heap.size w wr) (fun i _ => n - (intOf i).toNat)
  case atStart => exact ⟨0, Nat.zero_le _, rfl, Below.refl _ _⟩
  case round =>
    obtain ⟨k, hk, rfl, hB⟩ := hrel
    by_cases hlt : k < n
    · obtain ⟨b, off, x, rfl, hb, hxk, c0, c1, c2, hrow⟩ := (hx.below hB).at_ hlt
      obtain ⟨b', off', x', rfl, hb', hxk', c0', c1', c2', hrow'⟩ := (hy.below hB).at_ hlt
      have he : (x.r, x.t, x.m) = (x'.r, x'.t, x'.m) := by
        have h1 : (datC l)[k]? = some (x.r, x.t, x.m) := by unfold datC; rw [List.getElem?_map, hxk]; rfl
        have h2 : (datC l')[k]? = some (x'.r, x'.t, x'.m) := by unfold datC; rw [List.getElem?_map, hxk']; rfl
        rw [hd, h2] at h1
        injection h1 with h1
        exact h1.symm
      injection he with he1 he2
      injection he2 with he2 he3
      have hl : x.n = x'.n := by rw [← hrow.len, ← hrow'.len, he1]
      rw [← he2] at c0'
      rw [← hl] at c1'
      rw [← he3] at c2'
      have n2 : (x.m != x.m) = false := by simp
      have n3 : (x.t != x.t) = false := by simp
      have C1 := hide (fun (p : BW wr) => calls_bw (p := p) (RowSame_one x.A x.n x.c x'.A x'.c x.r p.x (hrow.below p.h).rd (by have h := (hrow'.below p.h).rd; rw [← he1, ← hl] at h; exact h) hrow.le))
      have p0 := fun (p : BW wr) => BW.cell (a := ⟨b, off + k * 3, none⟩) hb c0 p
      have p1 := fun (p : BW wr) => BW.cell (a := ⟨b, off + k * 3 + 1, none⟩) hb c1 p
      have p2 := fun (p : BW wr) => BW.cell (a := ⟨b, off + k * 3 + 2, none⟩) hb c2 p
      have r0 := fun (p : BW wr) => BW.cell (a := ⟨b', off' + k * 3, none⟩) hb' c0' p
      have r1 := fun (p : BW wr) => BW.cell (a := ⟨b', off' + k * 3 + 1, none⟩) hb' c1' p
      have r2 := fun (p : BW wr) => BW.cell (a := ⟨b', off' + k * 3 + 2, none⟩) hb' c2' p
      clear c0 c1 c2 c0' c1' c2' hxk hxk' he1 he2 he3 hl hrow hrow'
      have q1 : (0 : Int) ≤ (k : Int) := by omega
      have q2 : (k : Int) < (n : Int) := by omega
      go_wp2_with fail
      (refine wp_region_quiet_bw (by kernel_rfl) (by kernel_rfl) ?_
       repeat (first | go_big_quiet_step (((go_at_call 53; exact C1.out _))) | quiet_step (((go_at_call 53; exact C1.out _))))
       refine wpQuiet_nil ?_
       intro wq hw'
       obtain ⟨⟨_, hbq⟩, hw''⟩ := hw'
       subst hw'')
      have hB2 := bstep hB hbq
      clear hbq hB p0 p1 p2 r0 r1 r2 C1
      go_wp2
      go_roundw
      case rel => exact ⟨k + 1, by omega, by go_num, hB2⟩
      case measure => simp [intOf]; omega
    · obtain rfl : k = n := by omega
      go_wp2
      go_ret
      exact ⟨rfl, hB⟩

/-! The example. -/
def oneR : Rw := [⟨1, 1, ByteArray.empty⟩]
theorem oneR_ok : okR oneR = true := by decide
theorem one_bag {k : Int} (hk : numB k = true) : okBag [(oneR, k)] = true := by
  unfold okBag
  rw [ascI, ascI, hk, oneR_ok]; rfl
theorem one_prs (a b : Int) : prs [(oneR, a)] [(oneR, b)] = [(oneR, a, b)] := by
  have h := Tot.row.self oneR
  rw [prs, if_neg (by show ¬ cmpR oneR oneR < 0; omega), if_neg (by show ¬ 0 < cmpR oneR oneR; omega), prs]
  rfl
theorem row_one {w : World} {b : Nat} (h : Blk w b 64 #[.int .i64 1, .int .i64 1, .string ByteArray.empty]) (B : Nat) : RowK w B (some ⟨b, 0, none⟩) 1 oneR :=
  ⟨⟨rfl, fun _ => ⟨b, 0, rfl, h.lt, fun j u hu => by rw [Nat.zero_add, h.cell]; simpa [oneR, encV] using hu⟩⟩, fun _ b' off m e => by
    injection e with e
    injection e with e1
    subst e1
    exact .inr ⟨_, _, h⟩, by omega⟩
theorem bag_one {w : World} {b g : Nat} {k : Int} (h : Blk w g 62 #[.slice (some ⟨b, 0, none⟩) 1 1, .int .i64 k]) (hr : RowK w w.heap.size (some ⟨b, 0, none⟩) 1 oneR) : BagR w w.heap.size (some ⟨g, 0, none⟩) 1 [⟨some ⟨b, 0, none⟩, 1, 1, oneR, k⟩] :=
  ⟨⟨rfl, fun _ => ⟨g, 0, rfl, h.lt, fun j u hu => by rw [Nat.zero_add, h.cell]; simpa [encIt] using hu⟩⟩, fun i hi => by
    obtain rfl : i = ⟨some ⟨b, 0, none⟩, 1, 1, oneR, k⟩ := by simpa using hi
    exact hr, by omega⟩
set_option maxRecDepth 100000 in
set_option maxHeartbeats 4000000 in
theorem awake_any (w : World) : Calls Tryz.prog 11 #[] w (RetV w (.bool true)) := by
  have b1 := ((Blk.new w 64 #[.int .i64 1, .int .i64 1, .string ⟨#[]⟩]).alloc (.cells #[.slice (some ⟨w.heap.size, 0, none⟩) 1 1, .int .i64 2] 62)).alloc (.cells #[.slice (some ⟨w.heap.size, 0, none⟩) 1 1, .int .i64 1] 62)
  have b2 := (Blk.new (w.alloc (.cells #[.int .i64 1, .int .i64 1, .string ⟨#[]⟩] 64)) 62 #[.slice (some ⟨w.heap.size, 0, none⟩) 1 1, .int .i64 2]).alloc (.cells #[.slice (some ⟨w.heap.size, 0, none⟩) 1 1, .int .i64 1] 62)
  have b3 := Blk.new ((w.alloc (.cells #[.int .i64 1, .int .i64 1, .string ⟨#[]⟩] 64)).alloc (.cells #[.slice (some ⟨w.heap.size, 0, none⟩) 1 1, .int .i64 2] 62)) 62 #[.slice (some ⟨w.heap.size, 0, none⟩) 1 1, .int .i64 1]
  have hB0 : Below w.heap.size w (((w.alloc (.cells #[.int .i64 1, .int .i64 1, .string ⟨#[]⟩] 64)).alloc (.cells #[.slice (some ⟨w.heap.size, 0, none⟩) 1 1, .int .i64 2] 62)).alloc (.cells #[.slice (some ⟨w.heap.size, 0, none⟩) 1 1, .int .i64 1] 62)) :=
    (((Below.refl _ _).alloc (Nat.le_refl _) _).alloc (by simp) _).alloc (by simp; omega) _
  rw [World.size_alloc] at b2 b3
  rw [World.size_alloc] at b3
  go_enter Tryz.func11, Tryz.ntmps11
  go_wp2_with fail
  obtain ⟨W0, hW0⟩ : ∃ W0, ((w.alloc (.cells #[.int .i64 1, .int .i64 1, .string ⟨#[]⟩] 64)).alloc (.cells #[.slice (some ⟨w.heap.size, 0, none⟩) 1 1, .int .i64 2] 62)).alloc (.cells #[.slice (some ⟨w.heap.size, 0, none⟩) 1 1, .int .i64 1] 62) = W0 := ⟨_, rfl⟩
  rw [hW0] at b1 b2 b3 hB0 ⊢
  clear hW0
  replace b1 : Blk W0 w.heap.size 64 #[.int .i64 1, .int .i64 1, .string ByteArray.empty] := b1
  have hr := row_one b1 W0.heap.size
  have hD : both (fun m k => k - m) (prs (dat [⟨some ⟨w.heap.size, 0, none⟩, 1, 1, oneR, 2⟩]) (dat [⟨some ⟨w.heap.size, 0, none⟩, 1, 1, oneR, 1⟩])) = [(oneR, -1)] := by
    show both (fun m k => k - m) (prs [(oneR, 2)] [(oneR, 1)]) = _
    rw [one_prs]; rfl
  have HC := hide ((callsIn_wide (n := 4)).1 (Changes_in (some ⟨w.heap.size + 1, 0, none⟩) 1 1 _ (some ⟨w.heap.size + 1 + 1, 0, none⟩) 1 1 _ W0 (bag_one b2 hr) (bag_one b3 hr) (Nat.le_refl _) (Nat.le_refl _) 0 rfl
    (by rw [hD]; intro x hx; obtain rfl : x = (oneR, -1) := by simpa using hx
        rfl) (by rw [hD]; decide) (one_bag rfl) (one_bag rfl)))
  rw [hD] at HC
  clear hD b2 b3
  refine HC.out.mono ?_
  rintro e W1 ⟨A, n, c, l, rfl, ⟨hl, ht⟩, hch, hB1⟩
  have h1 := b1.below hB1 b1.lt
  have hB01 := bstep hB0 hB1
  have hl1 : l.length = 1 := by have := congrArg List.length hl; simpa using this
  have hn : n = 1 := by rw [← hl1]; exact (hch.rd.len encCh_len (by omega)).symm
  subst hn
  obtain ⟨x, rfl⟩ : ∃ x, l = [x] := List.length_eq_one_iff.1 hl1
  have hx : x.r = oneR ∧ x.m = -1 := by simpa using hl
  have hxt := ht x (by simp)
  clear hl ht hl1 b1 hr hB0 hB1 HC
  have hB2 := below_val (w := W1) #[.int .i64 0, .slice (some ⟨w.heap.size, 0, none⟩) 1 1, .int .i64 (-1)] 45
  have b4 := Blk.new W1 45 #[.int .i64 0, .slice (some ⟨w.heap.size, 0, none⟩) 1 1, .int .i64 (-1)]
  have h2 := h1.below hB2 h1.lt
  have hch2 := hch.below hB2
  have hB02 := bstep hB01 hB2
  go_wp2_with fail
  obtain ⟨W2, hW2⟩ : ∃ W2, W1.alloc (.cells #[.int .i64 0, .slice (some ⟨w.heap.size, 0, none⟩) 1 1, .int .i64 (-1)] 45) = W2 := ⟨_, rfl⟩
  rw [hW2] at b4 h2 hch2 hB02 ⊢
  clear hW2 hB2 hB01 h1 hch
  have hy : ChgR W2 W2.heap.size (some ⟨W1.heap.size, 0, none⟩) 1 [⟨0, some ⟨w.heap.size, 0, none⟩, 1, 1, oneR, -1⟩] :=
    ⟨⟨rfl, fun _ => ⟨W1.heap.size, 0, rfl, b4.lt, fun j u hu => by rw [Nat.zero_add, b4.cell]; simpa [encCh] using hu⟩⟩, fun i hi => by
      obtain rfl : i = ⟨0, some ⟨w.heap.size, 0, none⟩, 1, 1, oneR, -1⟩ := by simpa using hi
      exact row_one h2 _, by omega⟩
  refine (ChgSame_one A 1 c _ 1 _ _ [x] _ W2 hch2 hy (by simp [datC, hx.1, hx.2, hxt])).mono ?_
  rintro e W3 ⟨rfl, hB3⟩
  have HE := hide (bstep hB02 hB3)
  clear hB02 hB3 b4 h2 hch2 hy
  go_wp2
  go_ret
  exact ⟨rfl, HE.out⟩
end Go.Proofs.YtiioiajcoiaalaaGreatDoor
