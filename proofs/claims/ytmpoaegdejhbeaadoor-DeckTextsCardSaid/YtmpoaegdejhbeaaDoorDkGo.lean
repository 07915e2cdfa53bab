/-
  The walk of deck.Back's search (a closure that calls itself through a variable).
-/
import Derived.Test.YtmpoaegdejhbeaaDoorDkCt
import Derived.Test.YtmpoaegdejhbeaaDoorDkRR
import Derived.StillTailTactics
import Derived.Deep.Cut
namespace Go.Proofs.YtmpoaegdejhbeaaDoor
open Go.RowKit Go.Shelf Go.Deep Go.Maps
attribute [local go_sem] Oper.semAt_some

theorem Bar.less {N N' : Nat} {X : List Nat} {a w : World} (h : Bar N X a w) (hN : N' ≤ N) : Bar N' X a w := ⟨h.os, h.tape, h.output, h.size, fun k hk => h.block k (by omega)⟩
/-- What the search finds in memory. -/
structure Goes (g : Gr) (of : Nat → Nat) (A5 : Option Addr) (m5 c5 : Nat) (gone : List Int) (N gb b3 b5 b8 b9 b10 a8 o8 c8 : Nat) (w : World) : Prop where
  l3 : b3 < gb
  l5 : b5 < gb
  l8 : b8 < gb
  l8a : a8 < gb
  l9 : gb < b9
  h9 : b9 < N
  l10 : gb < b10
  h10 : b10 < N
  c3 : w.cell? ⟨b3, 1, none⟩ = some (.slice g.a2 g.n2 g.c2)
  c5' : w.cell? ⟨b5, 0, none⟩ = some (.slice A5 m5 c5)
  c8' : w.cell? ⟨b8, 0, none⟩ = some (.slice (some ⟨a8, o8, none⟩) g.n1 c8)
  c9 : w.cell? ⟨b9, 0, none⟩ = some (.slice (some ⟨gb, 0, none⟩) g.n1 g.n1)
  c10 : w.cell? ⟨b10, 0, none⟩ = some (.func (Fn.func 29) #[] #[.pointer (some ⟨b9, 0, none⟩), .pointer (some ⟨b3, 0, none⟩), .pointer (some ⟨b8, 0, none⟩), .pointer (some ⟨b10, 0, none⟩), .pointer (some ⟨b5, 0, none⟩)])
  rg : g.Ok w gb
  rof : ∀ i, i < g.n1 → w.cell? ⟨a8, o8 + i, none⟩ = some (.int .i64 ((of i : Nat) : Int))
  rgo : Reads w gb 1 A5 m5 (gone.map (Value.int .i64))
theorem Goes.bar {g : Gr} {of : Nat → Nat} {A5 : Option Addr} {m5 c5 : Nat} {gone : List Int} {N gb b3 b5 b8 b9 b10 a8 o8 c8 : Nat} {w w' : World}
    (h : Goes g of A5 m5 c5 gone N gb b3 b5 b8 b9 b10 a8 o8 c8 w) (hb : Bar N [gb] w w') : Goes g of A5 m5 c5 gone N gb b3 b5 b8 b9 b10 a8 o8 c8 w' := by
  have hN := h.l9
  have hN' := h.h9
  have hB : Below gb w w' := hb.below (by omega) (by simp)
  have hc : ∀ b o, b < N → b ≠ gb → w'.cell? ⟨b, o, none⟩ = w.cell? ⟨b, o, none⟩ := fun b o h1 h2 => hb.cell (p := ⟨b, o, none⟩) h1 (by simpa using h2)
  have l3 := h.l3
  have l5 := h.l5
  have l8 := h.l8
  have l8a := h.l8a
  have l10 := h.l10
  exact ⟨h.l3, h.l5, h.l8, h.l8a, h.l9, h.h9, h.l10, h.h10, (hc _ _ (by omega) (by omega)).trans h.c3, (hc _ _ (by omega) (by omega)).trans h.c5', (hc _ _ (by omega) (by omega)).trans h.c8',
    (hc _ _ (by omega) (by omega)).trans h.c9, (hc _ _ h.h10 (by omega)).trans h.c10, h.rg.below hB, fun i hi => (hc _ _ (by omega) (by omega)).trans (h.rof i hi), h.rgo.below hB⟩

/-- What the search leaves. -/
def RetGo (gb n : Nat) (Nn : Nat → Nat → Prop) (r : Nat) (S : Nat → Bool) (w : World) (e : Ending) (w' : World) : Prop :=
  e = .returned (.tuple #[]) ∧ ∃ T, Went Nn r S T ∧ w'.rowIs gb 4 n (fun j => .bool (T j)) ∧ Bar w.heap.size [gb] w w'

set_option maxRecDepth 100000 in
set_option maxHeartbeats 4000000 in
theorem go_any (g : Gr) (of : Nat → Nat) (A5 : Option Addr) (m5 c5 : Nat) (gone : List Int) (N gb b3 b5 b8 b9 b10 a8 o8 c8 : Nat) (hv : validB g = true) (hof : ∀ i, i < g.n1 → of i < g.n1) (hm5 : m5 ≤ 4611686018427387904) :
    ∀ (M : Nat) (S : Nat → Bool) (r : Nat) (w : World), cnt g.n1 S ≤ M → r < g.n1 → Goes g of A5 m5 c5 gone N gb b3 b5 b8 b9 b10 a8 o8 c8 w → w.rowIs gb 4 g.n1 (fun j => .bool (S j)) → N ≤ w.heap.size →
    Calls Tryd.prog 29 #[.int .i64 (r : Int), .pointer (some ⟨b9, 0, none⟩), .pointer (some ⟨b3, 0, none⟩), .pointer (some ⟨b8, 0, none⟩), .pointer (some ⟨b10, 0, none⟩), .pointer (some ⟨b5, 0, none⟩)] w
      (RetGo gb g.n1 (Nx of g.es gone) r S w) := by
  intro M
  induction M with
  | zero =>
    intro S r w hM hr hG hrow hN
    have hb := ok_ops hv
    have hs : S r = true := by
      cases hs : S r
      · have := cnt_pos hr hs; omega
      · rfl
    have c1 := hrow.cell hr
    rw [hs] at c1
    have c9 := hG.c9
    have HE := hide (show RetGo gb g.n1 (Nx of g.es gone) r S w (.returned (.tuple #[])) w from ⟨rfl, S, Went.same hs, hrow, Bar.refl _ _ _⟩)
    clear hG hrow hs
    go_enter Tryd.func29, Tryd.ntmps29
    go_wp2
    go_returns
    exact HE.out
  | succ M ih =>
    intro S r w hM hr hG hrow hN
    have hb := ok_ops hv
    have c1 := hrow.cell hr
    have f1 := hrow.frozen r
    have c9 := hG.c9
    have l9 := hG.l9
    have h9 := hG.h9
    cases hs : S r
    · rw [hs] at c1
      have HM := hide (show cnt g.n1 (put S r) ≤ M by have := cnt_put hr hs; omega)
      have HS := hide hs
      have HV := hide hv
      have HOF := hide hof
      have HL2 := hide (hG.rg.r2.len encEd_len (by omega))
      have IH := hide ih
      clear hs hM ih hv hof
      have hB1 : Bar w.heap.size [gb] w (w.setCell ⟨gb, r, none⟩ (.bool true)) := (Bar.refl _ _ _).setCell (.inr (by simp)) _
      have hrow1 : (w.setCell ⟨gb, r, none⟩ (.bool true)).rowIs gb 4 g.n1 (fun j => .bool (put S r j)) := (hrow.set r (.bool true)).congr (fun i _ => by
        unfold put
        by_cases e : i = r
        · rw [if_pos e, if_pos e]
        · rw [if_neg e, if_neg e])
      have hG1 := hG.bar (hB1.less hN)
      have c3 := hG1.c3
      go_enter Tryd.func29, Tryd.ntmps29
      go_wp2_with fail
      obtain ⟨W, hW⟩ : ∃ W, w.setCell ⟨gb, r, none⟩ (.bool true) = W := ⟨_, rfl⟩
      rw [hW] at hB1 hrow1 hG1 c3 ⊢
      clear hW hrow c1 f1 c9 hG
      have hN1 : N ≤ W.heap.size := Nat.le_trans hN hB1.size
      go_loopw [8, 19] (fun _ i wr => ∃ (k : Nat) (T : Nat → Bool), k ≤ g.n2 ∧ i = .int .i64 k ∧ Mid of g.es gone r S k T ∧ wr.rowIs gb 4 g.n1 (fun j => .bool (T j)) ∧ Bar W.heap.size [gb] W wr) (fun _ i _ => g.n2 - (intOf i).toNat)
      case atStart => exact ⟨0, _, Nat.zero_le _, rfl, Mid.start _ _ _ _ _, hrow1, Bar.refl _ _ _⟩
      case round =>
        clear c3 hrow1
        obtain ⟨k, T, hk, rfl, hmid, hrow, hB⟩ := hrel
        have hGr := hG1.bar (hB.less hN1)
        have HMID := hide hmid
        clear hmid
        have hNr := Nat.le_trans hN1 hB.size
        by_cases hlt2 : k < g.n2
        · obtain ⟨b1, off, e, ha, hb1, hek, hce⟩ := hGr.rg.r2.elem encEd_len HL2.out hlt2
          obtain ⟨v1, v2, v3, v4, v5⟩ := ok_edge HV.out hek
          have HEK := hide hek
          have HEM := hide (mem_at hek)
          clear hek
          have e0 : wr.cell? ⟨b1, off + k * 3, none⟩ = some (.int .i64 e.f) := by simpa using hce 0 _ rfl
          have e1 : wr.cell? ⟨b1, off + k * 3 + 1, none⟩ = some (.int .i64 e.t) := by simpa [← Nat.add_assoc] using hce 1 _ rfl
          have e2 : wr.cell? ⟨b1, off + k * 3 + 2, none⟩ = some (.bool e.s) := by simpa [← Nat.add_assoc] using hce 2 _ rfl
          clear hce
          rw [ha]
          clear ha
          have hB2 := hB.alloc hB.size (.cells #[.int .i64 e.f, .int .i64 e.t, .bool e.s] 43)
          have hrow2 := hrow.alloc (.cells #[.int .i64 e.f, .int .i64 e.t, .bool e.s] 43)
          obtain ⟨f, hf⟩ := Int.eq_ofNat_of_zero_le v1
          obtain ⟨t, ht⟩ := Int.eq_ofNat_of_zero_le (show 0 ≤ e.t by omega)
          have HNX1 := hide (show e.s = true → Nx of g.es gone (of f) (of t) from fun hs => ⟨e, HEM.out, hs, .inl ⟨by rw [hf]; rfl, by rw [ht]; rfl⟩⟩)
          have HNX2 := hide (show e.s = true → hasB gone e.f = true → Nx of g.es gone (of t) (of f) from fun hs h => ⟨e, HEM.out, hs, .inr ⟨by rw [ht]; rfl, by rw [hf]; rfl, h⟩⟩)
          have HNXT := hide (show ∀ T' : Nat → Bool, Mid of g.es gone r S k T' → (e.s = true → (of f = r → T' (of t) = true) ∧ (of t = r → hasB gone (f : Int) = true → T' (of f) = true)) → Mid of g.es gone r S (k + 1) T' from fun T' h1 h2 => h1.next HEK.out (by rw [hf, ht]; exact h2))
          rw [hf] at e0 hB2 hrow2 v2 HNX2
          rw [ht] at e1 hB2 hrow2 v2 v3
          have hfn : f < g.n1 := by omega
          have htn : t < g.n1 := by omega
          go_upto_region 5 with fail
          obtain ⟨W2, hW2⟩ : ∃ W2, wr.alloc (.cells #[.int .i64 (f : Int), .int .i64 (t : Int), .bool e.s] 43) = W2 := ⟨_, rfl⟩
          have f0 : W2.cell? ⟨wr.heap.size, 0, none⟩ = some (.int .i64 (f : Int)) := by rw [← hW2]; simp
          have f1 : W2.cell? ⟨wr.heap.size, 1, none⟩ = some (.int .i64 (t : Int)) := by rw [← hW2]; simp
          have f2 : W2.cell? ⟨wr.heap.size, 2, none⟩ = some (.bool e.s) := by rw [← hW2]; simp
          have s1 : wr.heap.size < W2.heap.size := by rw [← hW2, World.size_alloc]; omega
          rw [hW2]
          rw [hW2] at hrow2 hB2
          clear hW2 hrow e0 e1 e2 hGr hB
          obtain ⟨be, hbe⟩ : ∃ be, wr.heap.size = be := ⟨_, rfl⟩
          rw [hbe] at f0 f1 f2 s1 hNr ⊢
          clear hbe
          have hG2 := hG1.bar (hB2.less hN1)
          obtain ⟨x, hx⟩ : ∃ x, of f = x := ⟨_, rfl⟩
          obtain ⟨y, hy⟩ : ∃ y, of t = y := ⟨_, rfl⟩
          rw [hx, hy] at HNX1 HNX2 HNXT
          have hxn : x < g.n1 := by rw [← hx]; exact HOF.out f hfn
          have hyn : y < g.n1 := by rw [← hy]; exact HOF.out t htn
          cases hs : e.s
          · rw [hs] at f2
            have HN := hide (HNXT.out T HMID.out (fun h => by rw [hs] at h; cases h))
            go_wp2
            go_roundw
            case rel => exact ⟨k + 1, T, by omega, by go_num, HN.out, hrow2, hB2⟩
            case measure => simp [intOf]; omega
          · rw [hs] at f2
            have HN1 := hide (HNX1.out hs)
            have HN2 := hide (HNX2.out hs)
            have hgo : ∀ z, z < g.n1 → ∀ (T : Nat → Bool), Mid of g.es gone r S k T → ∀ w2 : World, Goes g of A5 m5 c5 gone N gb b3 b5 b8 b9 b10 a8 o8 c8 w2 → w2.rowIs gb 4 g.n1 (fun j => .bool (T j)) → N ≤ w2.heap.size → Calls Tryd.prog 29 #[.int .i64 (z : Int), .pointer (some ⟨b9, 0, none⟩), .pointer (some ⟨b3, 0, none⟩), .pointer (some ⟨b8, 0, none⟩), .pointer (some ⟨b10, 0, none⟩), .pointer (some ⟨b5, 0, none⟩)] w2 (RetGo gb g.n1 (Nx of g.es gone) z T w2) :=
              fun z hz T hT w2 h1 h2 h3 => IH.out T z w2 (Nat.le_trans (cnt_mono hT.mono) HM.out) hz h1 h2 h3
            have HGO := hide hgo
            clear hgo
            by_cases hxr : x = r
            · have n1 : ((x : Int) == (r : Int)) = true := by simp; omega
              have HXR := hide hxr
              clear hxr
              have kx := hG2.rof f hfn
              rw [hx] at kx
              have k3 := hG2.c3
              have k5 := hG2.c5'
              have k8 := hG2.c8'
              have k10 := hG2.c10
              have kz := hG2.rof t htn
              rw [hy] at kz
              have q1 : (0 : Int) ≤ (t : Int) := by omega
              have q2 : (t : Int) < (g.n1 : Int) := by omega
              go_wp2_with fail
              go_still_tail 6, (by kernel_rfl)
              change wpList _ _ _ _ _ W2.drew
              have hG3 : Goes g of A5 m5 c5 gone N gb b3 b5 b8 b9 b10 a8 o8 c8 W2.drew := hG2.bar ((Bar.refl _ _ _).drew)
              have hrow3 : W2.drew.rowIs gb 4 g.n1 (fun j => .bool (T j)) := hrow2
              have hB3 : Bar W.heap.size [gb] W W2.drew := hB2.drew
              have g0 : W2.drew.cell? ⟨be, 0, none⟩ = some (.int .i64 (f : Int)) := f0
              have g1 : W2.drew.cell? ⟨be, 1, none⟩ = some (.int .i64 (t : Int)) := f1
              have s3 : be < W2.drew.heap.size := s1
              clear k3 k5 k8 k10 kz hG2 hrow2 hB2 f0 f1 s1
              try clear f2
              obtain ⟨W3, hW3⟩ : ∃ W3, W2.drew = W3 := ⟨_, rfl⟩
              rw [hW3] at hG3 hrow3 hB3 g0 g1 s3 ⊢
              clear hW3
              go_wp2_with fail
              refine (HGO.out y hyn T HMID.out W3 hG3 hrow3 (by omega)).mono ?_
              rintro ee w4 ⟨rfl, T4, hwent, hrow2, hB4⟩
              have hG2 := hG3.bar (hB4.less (by omega))
              have hlg := hG3.l9
              have hlg2 := hG3.h9
              have f0 : w4.cell? ⟨be, 0, none⟩ = some (.int .i64 (f : Int)) := (hB4.cell (p := ⟨be, 0, none⟩) s3 (by simp; omega)).trans g0
              have f1 : w4.cell? ⟨be, 1, none⟩ = some (.int .i64 (t : Int)) := (hB4.cell (p := ⟨be, 1, none⟩) s3 (by simp; omega)).trans g1
              have s1 : be < w4.heap.size := Nat.lt_of_lt_of_le s3 hB4.size
              have hB2 : Bar W.heap.size [gb] W w4 := hB3.trans (hB4.less hB3.size)
              have HWE := hide hwent
              have HMT := hide (HMID.out.went (by have := HN1.out; rwa [HXR.out] at this) HWE.out)
              clear hwent g0 g1 hG3 hrow3 hB3 hB4 s3
              have HF := hide (show x = r → T4 y = true from fun _ => HWE.out.has)
              clear HWE kx
              have p3 := hG2.c3
              have p5 := hG2.c5'
              have p8 := hG2.c8'
              have px := hG2.rof f hfn
              have py := hG2.rof t htn
              rw [hx] at px
              rw [hy] at py
              by_cases hyr : y = r
              · have m1 : ((y : Int) == (r : Int)) = true := by simp; omega
                cases hgn : hasB gone (f : Int)
                · have HGN := hide hgn
                  have HEND := hide (HNXT.out T4 HMT.out (fun _ => ⟨HF.out, fun _ h => by rw [HGN.out] at h; cases h⟩))
                  go_wp2_with (go_at_call 30; refine (Contains_any A5 m5 c5 gb gone _ _ hG2.rgo hm5).mono ?_; rintro ee w' ⟨rfl, rfl⟩; rw [HGN.out])
                  go_roundw
                  case rel => exact ⟨k + 1, T4, by omega, by go_num, HEND.out, hrow2, hB2⟩
                  case measure => simp [intOf]; omega
                · have HGN := hide hgn
                  have HN3 := hide (show Nx of g.es gone r x by have := HN2.out hgn; rwa [hyr] at this)
                  have HKE := hide (fun T' (h : Mid of g.es gone r S k T') (h1 : T4 y = true ∨ True → x = r → T' y = true) (h2 : T' x = true) => HNXT.out T' h (fun _ => ⟨h1 (.inr trivial), fun _ _ => h2⟩))
                  go_wp2_with (go_at_call 30; refine (Contains_any A5 m5 c5 gb gone _ _ hG2.rgo hm5).mono ?_; rintro ee w' ⟨rfl, rfl⟩; rw [HGN.out])
                  clear p3 p5 p8 px py
                  have k3 := hG2.c3
                  have k5 := hG2.c5'
                  have k8 := hG2.c8'
                  have k10 := hG2.c10
                  have kz := hG2.rof f hfn
                  rw [hx] at kz
                  have q1 : (0 : Int) ≤ (f : Int) := by omega
                  have q2 : (f : Int) < (g.n1 : Int) := by omega
                  go_wp2_with fail
                  go_still_tail 6, (by kernel_rfl)
                  change wpList _ _ _ _ _ w4.drew
                  have hG3 : Goes g of A5 m5 c5 gone N gb b3 b5 b8 b9 b10 a8 o8 c8 w4.drew := hG2.bar ((Bar.refl _ _ _).drew)
                  have hrow3 : w4.drew.rowIs gb 4 g.n1 (fun j => .bool (T4 j)) := hrow2
                  have hB3 : Bar W.heap.size [gb] W w4.drew := hB2.drew
                  have g0 : w4.drew.cell? ⟨be, 0, none⟩ = some (.int .i64 (f : Int)) := f0
                  have g1 : w4.drew.cell? ⟨be, 1, none⟩ = some (.int .i64 (t : Int)) := f1
                  have s3 : be < w4.drew.heap.size := s1
                  clear k3 k5 k8 k10 kz hG2 hrow2 hB2 f0 f1 s1
                  try clear f2
                  obtain ⟨W3, hW3⟩ : ∃ W3, w4.drew = W3 := ⟨_, rfl⟩
                  rw [hW3] at hG3 hrow3 hB3 g0 g1 s3 ⊢
                  clear hW3
                  go_wp2_with fail
                  refine (HGO.out x hxn T4 HMT.out W3 hG3 hrow3 (by omega)).mono ?_
                  rintro ee w5 ⟨rfl, T5, hwent, hrow2, hB4⟩
                  have hG2 := hG3.bar (hB4.less (by omega))
                  have hlg := hG3.l9
                  have hlg2 := hG3.h9
                  have f0 : w5.cell? ⟨be, 0, none⟩ = some (.int .i64 (f : Int)) := (hB4.cell (p := ⟨be, 0, none⟩) s3 (by simp; omega)).trans g0
                  have f1 : w5.cell? ⟨be, 1, none⟩ = some (.int .i64 (t : Int)) := (hB4.cell (p := ⟨be, 1, none⟩) s3 (by simp; omega)).trans g1
                  have s1 : be < w5.heap.size := Nat.lt_of_lt_of_le s3 hB4.size
                  have hB2 : Bar W.heap.size [gb] W w5 := hB3.trans (hB4.less hB3.size)
                  have HWE := hide hwent
                  have HMT := hide (HMT.out.went HN3.out HWE.out)
                  clear hwent g0 g1 hG3 hrow3 hB3 hB4 s3
                  have HEND := hide (HKE.out T5 HMT.out (fun _ h => HWE.out.mono _ (HF.out h)) HWE.out.has)
                  go_wp2
                  go_roundw
                  case rel => exact ⟨k + 1, T5, by omega, by go_num, HEND.out, hrow2, hB2⟩
                  case measure => simp [intOf]; omega
              · have m1 : ((y : Int) == (r : Int)) = false := by simp; omega
                have HEND := hide (HNXT.out T4 HMT.out (fun _ => ⟨HF.out, fun h => absurd h hyr⟩))
                go_wp2
                go_roundw
                case rel => exact ⟨k + 1, T4, by omega, by go_num, HEND.out, hrow2, hB2⟩
                case measure => simp [intOf]; omega
            · have n1 : ((x : Int) == (r : Int)) = false := by simp; omega
              have HF := hide (show x = r → T y = true from fun h => absurd h hxr)
              have HMT := HMID
              have p3 := hG2.c3
              have p5 := hG2.c5'
              have p8 := hG2.c8'
              have px := hG2.rof f hfn
              have py := hG2.rof t htn
              rw [hx] at px
              rw [hy] at py
              by_cases hyr : y = r
              · have m1 : ((y : Int) == (r : Int)) = true := by simp; omega
                cases hgn : hasB gone (f : Int)
                · have HGN := hide hgn
                  have HEND := hide (HNXT.out T HMT.out (fun _ => ⟨HF.out, fun _ h => by rw [HGN.out] at h; cases h⟩))
                  go_wp2_with (go_at_call 30; refine (Contains_any A5 m5 c5 gb gone _ _ hG2.rgo hm5).mono ?_; rintro ee w' ⟨rfl, rfl⟩; rw [HGN.out])
                  go_roundw
                  case rel => exact ⟨k + 1, T, by omega, by go_num, HEND.out, hrow2, hB2⟩
                  case measure => simp [intOf]; omega
                · have HGN := hide hgn
                  have HN3 := hide (show Nx of g.es gone r x by have := HN2.out hgn; rwa [hyr] at this)
                  have HKE := hide (fun T' (h : Mid of g.es gone r S k T') (h1 : T y = true ∨ True → x = r → T' y = true) (h2 : T' x = true) => HNXT.out T' h (fun _ => ⟨h1 (.inr trivial), fun _ _ => h2⟩))
                  go_wp2_with (go_at_call 30; refine (Contains_any A5 m5 c5 gb gone _ _ hG2.rgo hm5).mono ?_; rintro ee w' ⟨rfl, rfl⟩; rw [HGN.out])
                  clear p3 p5 p8 px py
                  have k3 := hG2.c3
                  have k5 := hG2.c5'
                  have k8 := hG2.c8'
                  have k10 := hG2.c10
                  have kz := hG2.rof f hfn
                  rw [hx] at kz
                  have q1 : (0 : Int) ≤ (f : Int) := by omega
                  have q2 : (f : Int) < (g.n1 : Int) := by omega
                  go_wp2_with fail
                  go_still_tail 6, (by kernel_rfl)
                  change wpList _ _ _ _ _ W2.drew
                  have hG3 : Goes g of A5 m5 c5 gone N gb b3 b5 b8 b9 b10 a8 o8 c8 W2.drew := hG2.bar ((Bar.refl _ _ _).drew)
                  have hrow3 : W2.drew.rowIs gb 4 g.n1 (fun j => .bool (T j)) := hrow2
                  have hB3 : Bar W.heap.size [gb] W W2.drew := hB2.drew
                  have g0 : W2.drew.cell? ⟨be, 0, none⟩ = some (.int .i64 (f : Int)) := f0
                  have g1 : W2.drew.cell? ⟨be, 1, none⟩ = some (.int .i64 (t : Int)) := f1
                  have s3 : be < W2.drew.heap.size := s1
                  clear k3 k5 k8 k10 kz hG2 hrow2 hB2 f0 f1 s1
                  try clear f2
                  obtain ⟨W3, hW3⟩ : ∃ W3, W2.drew = W3 := ⟨_, rfl⟩
                  rw [hW3] at hG3 hrow3 hB3 g0 g1 s3 ⊢
                  clear hW3
                  go_wp2_with fail
                  refine (HGO.out x hxn T HMT.out W3 hG3 hrow3 (by omega)).mono ?_
                  rintro ee w5 ⟨rfl, T5, hwent, hrow2, hB4⟩
                  have hG2 := hG3.bar (hB4.less (by omega))
                  have hlg := hG3.l9
                  have hlg2 := hG3.h9
                  have f0 : w5.cell? ⟨be, 0, none⟩ = some (.int .i64 (f : Int)) := (hB4.cell (p := ⟨be, 0, none⟩) s3 (by simp; omega)).trans g0
                  have f1 : w5.cell? ⟨be, 1, none⟩ = some (.int .i64 (t : Int)) := (hB4.cell (p := ⟨be, 1, none⟩) s3 (by simp; omega)).trans g1
                  have s1 : be < w5.heap.size := Nat.lt_of_lt_of_le s3 hB4.size
                  have hB2 : Bar W.heap.size [gb] W w5 := hB3.trans (hB4.less hB3.size)
                  have HWE := hide hwent
                  have HMT := hide (HMT.out.went HN3.out HWE.out)
                  clear hwent g0 g1 hG3 hrow3 hB3 hB4 s3
                  have HEND := hide (HKE.out T5 HMT.out (fun _ h => HWE.out.mono _ (HF.out h)) HWE.out.has)
                  go_wp2
                  go_roundw
                  case rel => exact ⟨k + 1, T5, by omega, by go_num, HEND.out, hrow2, hB2⟩
                  case measure => simp [intOf]; omega
              · have m1 : ((y : Int) == (r : Int)) = false := by simp; omega
                have HEND := hide (HNXT.out T HMT.out (fun _ => ⟨HF.out, fun h => absurd h hyr⟩))
                go_wp2
                go_roundw
                case rel => exact ⟨k + 1, T, by omega, by go_num, HEND.out, hrow2, hB2⟩
                case measure => simp [intOf]; omega
        · obtain rfl : k = g.n2 := by omega
          have HE := hide (show RetGo gb g.n1 (Nx of g.es gone) r S w (.returned (.tuple #[])) wr from ⟨rfl, T, HMID.out.done (Nat.le_of_eq HL2.out) HS.out, hrow, hB1.trans (hB.less hB1.size)⟩)
          clear hrow hGr HMID
          go_wp2
          go_returns
          exact HE.out
    · rw [hs] at c1
      have HE := hide (show RetGo gb g.n1 (Nx of g.es gone) r S w (.returned (.tuple #[])) w from ⟨rfl, S, Went.same hs, hrow, Bar.refl _ _ _⟩)
      clear hG hrow hs
      go_enter Tryd.func29, Tryd.ntmps29
      go_wp2
      go_returns
      exact HE.out
end Go.Proofs.YtmpoaegdejhbeaaDoor
