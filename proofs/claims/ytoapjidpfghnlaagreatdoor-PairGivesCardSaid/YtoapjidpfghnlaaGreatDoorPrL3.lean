/-
  The walks of SameKey on both sides, and of SameEvents at events that are equal. No condition.
  SameEvents at events that are equal; Intervals of the program, whatever it answers; the law's small functions. No condition.
  The law's example of joins. No condition.
-/
import Derived.Test.YtoapjidpfghnlaaGreatDoorPrR5
import Derived.Test.YtoapjidpfghnlaaGreatDoorPrJ
namespace Go.Proofs.YtoapjidpfghnlaaGreatDoor

section
open Go.RowKit
attribute [local go_sem] Oper.semAt_some wide_fn wide_depth
set_option linter.unusedVariables false
set_option linter.unusedSimpArgs false

/-- What SameKey answers. -/
def sameK (on others : List Int) (l r : Rw) : Bool := okR l && (okR r && (fitK on others && (hasC l on && (hasC r others && eqK on others l r))))
end

section
open Go.RowKit
attribute [local go_sem] Oper.semAt_some wide_fn wide_depth
set_option linter.unusedVariables false
set_option linter.unusedSimpArgs false

theorem Intervals_any (A1 : Option Addr) (n1 c1 : Nat) (on : List Int) (A2 : Option Addr) (n2 c2 : Nat) (others : List Int) (lo hi : Int) (A3 : Option Addr) (n3 c3 : Nat) (ll : List Ev) (A4 : Option Addr) (n4 c4 : Nat) (lr : List Ev) (w : World)
    (h1 : Reads w w.heap.size 1 A1 n1 (on.map (Value.int .i64))) (h2 : Reads w w.heap.size 1 A2 n2 (others.map (Value.int .i64))) (hn1 : n1 ≤ 1000) (hn2 : n2 ≤ 1000) (h3 : EvR w w.heap.size A3 n3 ll) (h4 : EvR w w.heap.size A4 n4 lr) (hm3 : n3 ≤ 100000) (hm4 : n4 ≤ 100000)
    (hc3 : ∀ x ∈ ll, x.n ≤ x.c) (hc4 : ∀ x ∈ lr, x.n ≤ x.c) (ht : Tab w) :
    Calls Tryz.prog 14 #[.slice A1 n1 c1, .slice A2 n2 c2, .int .i64 lo, .int .i64 hi, .slice A3 n3 c3, .slice A4 n4 c4] w (RetEvE w (intB on others lo hi (dE ll) (dE lr))) := by
  cases hg : (evsB (dE ll) && evsB (dE lr) && (fitK on others && (insK on 8 && (insK others 8 && (spanB lo hi && (hasE (dE ll) on && hasE (dE lr) others))))))
  · exact (callsIn_wide (n := 2)).1 (Intervals_bad A1 n1 c1 on A2 n2 c2 others lo hi A3 n3 c3 ll A4 n4 c4 lr w h1 h2 hn1 hn2 h3 h4 hm3 hm4 hg)
  · simp only [Bool.and_eq_true] at hg
    obtain ⟨⟨r1, r2⟩, r3, r4, r5, r6, r7, r8⟩ := hg
    exact (callsIn_wide (n := 4)).1 (Intervals_ok A1 n1 c1 on A2 n2 c2 others lo hi A3 n3 c3 ll A4 n4 c4 lr w h1 h2 hn1 hn2 h3 h4 hm3 hm4 hc3 hc4 ht r1 r2 r3 r4 r5 r6 r7 r8)
/-- What Long of events answers: if it says no, they are few. -/
def RetLg (w : World) (n : Nat) (e : Ending) (w' : World) : Prop := ∃ b : Bool, e = .returned (.bool b) ∧ (b = false → n ≤ 300) ∧ Below w.heap.size w w'
/-- What long of keys answers: if it says no, both lists are short. -/
def RetKl (w : World) (n m : Nat) (e : Ending) (w' : World) : Prop := ∃ b : Bool, e = .returned (.bool b) ∧ (b = false → n ≤ 100 ∧ m ≤ 100) ∧ Below w.heap.size w w'
theorem klong_any (A1 : Option Addr) (n1 c1 : Nat) (A2 : Option Addr) (n2 c2 : Nat) (v2 v3 v4 v5 v6 : Int) (w : World) :
    Calls Tryz.prog 11 #[.agg #[.slice A1 n1 c1, .slice A2 n2 c2, .int .i64 v2, .int .i64 v3, .int .i64 v4, .int .i64 v5, .int .i64 v6]] w (RetKl w n1 n2) := by
  have hB := below_val (w := w) #[.slice A1 n1 c1, .slice A2 n2 c2, .int .i64 v2, .int .i64 v3, .int .i64 v4, .int .i64 v5, .int .i64 v6] 24
  have k1 := Blk.new w 24 #[.slice A1 n1 c1, .slice A2 n2 c2, .int .i64 v2, .int .i64 v3, .int .i64 v4, .int .i64 v5, .int .i64 v6]
  by_cases z1 : n1 ≤ 100
  · have q1 : ¬ ((100 : Int) < (n1 : Int)) := by omega
    by_cases z2 : n2 ≤ 100
    · have q2 : ¬ ((100 : Int) < (n2 : Int)) := by omega
      have HZ := hide (And.intro z1 z2)
      clear z1 z2
      go_enter Tryz.func11, Tryz.ntmps11
      go_wp2
      go_ret
      exact ⟨_, rfl, fun _ => HZ.out, hB⟩
    · have q2 : (100 : Int) < (n2 : Int) := by omega
      clear z1 z2
      go_enter Tryz.func11, Tryz.ntmps11
      go_wp2
      go_ret
      exact ⟨_, rfl, fun h => (by simp at h), hB⟩
  · have q1 : (100 : Int) < (n1 : Int) := by omega
    clear z1
    go_enter Tryz.func11, Tryz.ntmps11
    go_wp2
    go_ret
    exact ⟨_, rfl, fun h => (by simp at h), hB⟩
end

section
open Go.RowKit
attribute [local go_sem] Oper.semAt_some wide_fn wide_depth
set_option linter.unusedVariables false
set_option linter.unusedSimpArgs false

theorem number9_any (m : Int) (w : World) : Calls Tryz.prog 60 #[.int .i64 m] w fun e w' => ∃ A c, e = .returned (.slice A 1 c) ∧ 1 ≤ c ∧ RowK w' w'.heap.size A 1 [⟨1, m, ByteArray.empty⟩] ∧ Below w.heap.size w w' := by
  have hB := below_val (w := w) #[.int .i64 1, .int .i64 m, .string ByteArray.empty] 102
  have k1 := Blk.new w 102 #[.int .i64 1, .int .i64 m, .string ByteArray.empty]
  have HR := hide (show RowK (w.alloc (.cells #[.int .i64 1, .int .i64 m, .string ByteArray.empty] 102)) (w.alloc (.cells #[.int .i64 1, .int .i64 m, .string ByteArray.empty] 102)).heap.size (some ⟨w.heap.size, 0, none⟩) 1 [⟨1, m, ByteArray.empty⟩] from
    RowK.of_reads ⟨rfl, fun _ => ⟨w.heap.size, 0, rfl, by rw [World.size_alloc]; omega, fun j u hu => by rw [Nat.zero_add, k1.cell j]; simpa [encV] using hu⟩⟩ (Nat.le_refl _) (by omega))
  clear k1
  go_enter Tryz.func60, Tryz.ntmps60
  go_wp2
  go_ret
  exact ⟨_, _, rfl, Nat.le_refl _, HR.out, hB⟩
theorem ex_int : intB [] [] (-3) 5 [(10, [⟨1, 1, ByteArray.empty⟩])] [(7, [⟨1, 2, ByteArray.empty⟩]), (12, [⟨1, 3, ByteArray.empty⟩]), (16, [⟨1, 4, ByteArray.empty⟩])] = ([(10, [⟨1, 1, ByteArray.empty⟩, ⟨1, 2, ByteArray.empty⟩]), (12, [⟨1, 1, ByteArray.empty⟩, ⟨1, 3, ByteArray.empty⟩])], 0) := by
  decide +kernel
set_option maxRecDepth 100000 in
set_option maxHeartbeats 4000000 in
theorem awake9_any (w : World) (ht : Tab w) : Calls Tryz.prog 13 #[] w (RetV w (.bool true)) := by
  go_enter Tryz.func13, Tryz.ntmps13
  go_wp2_with fail
  refine (number9_any 1 w).mono ?_
  rintro e W1 ⟨Aa, ca, rfl, hca, hra, hB1⟩
  go_wp2_with fail
  obtain ⟨V1, hV1⟩ : ∃ V1, W1.alloc (.cells #[.int .i64 10, .slice Aa 1 ca] 36) = V1 := ⟨_, rfl⟩
  have hv1 : Below W1.heap.size W1 V1 := by rw [← hV1]; exact below_val _ _
  have ka : Blk V1 W1.heap.size 36 #[.int .i64 10, .slice Aa 1 ca] := by rw [← hV1]; exact Blk.new _ _ _
  rw [hV1]
  have hBv := bstep hB1 hv1
  have hra1 := (hra.below hv1).mono hv1.size
  clear hV1 hB1 hv1 hra
  obtain ⟨b1, hb1⟩ : ∃ b1, W1.heap.size = b1 := ⟨_, rfl⟩
  rw [hb1] at ka ⊢
  clear hb1
  refine (number9_any 2 V1).mono ?_
  rintro e W2 ⟨Ab, cb, rfl, hcb, hrb, hB2⟩
  have ka2 := ka.below hB2 ka.lt
  have hra2 := (hra1.below hB2).mono hB2.size
  have hBw2 := bstep hBv hB2
  clear ka hra1 hBv hB2
  go_wp2_with fail
  refine (number9_any 3 W2).mono ?_
  rintro e W3 ⟨Ac, cc, rfl, hcc, hrc, hB3⟩
  have ka3 := ka2.below hB3 ka2.lt
  have hra3 := (hra2.below hB3).mono hB3.size
  have hrb3 := (hrb.below hB3).mono hB3.size
  have hBw3 := bstep hBw2 hB3
  clear ka2 hra2 hrb hBw2 hB3
  go_wp2_with fail
  refine (number9_any 4 W3).mono ?_
  rintro e W4 ⟨Ad, cd, rfl, hcd, hrd, hB4⟩
  have ka4 := ka3.below hB4 ka3.lt
  have hra4 := (hra3.below hB4).mono hB4.size
  have hrb4 := (hrb3.below hB4).mono hB4.size
  have hrc4 := (hrc.below hB4).mono hB4.size
  have hBw4 := bstep hBw3 hB4
  clear ka3 hra3 hrb3 hrc hBw3 hB4
  have hB5 := below_val (w := W4) #[.int .i64 7, .slice Ab 1 cb, .int .i64 12, .slice Ac 1 cc, .int .i64 16, .slice Ad 1 cd] 36
  have kb := Blk.new W4 36 #[.int .i64 7, .slice Ab 1 cb, .int .i64 12, .slice Ac 1 cc, .int .i64 16, .slice Ad 1 cd]
  go_wp2_with fail
  obtain ⟨W5, hW5⟩ : ∃ W5, W4.alloc (.cells #[.int .i64 7, .slice Ab 1 cb, .int .i64 12, .slice Ac 1 cc, .int .i64 16, .slice Ad 1 cd] 36) = W5 := ⟨_, rfl⟩
  rw [hW5] at hB5 kb ⊢
  have ka5 := ka4.below hB5 ka4.lt
  have hra5 := (hra4.below hB5).mono hB5.size
  have hrb5 := (hrb4.below hB5).mono hB5.size
  have hrc5 := (hrc4.below hB5).mono hB5.size
  have hrd5 := (hrd.below hB5).mono hB5.size
  have hBw5 := bstep hBw4 hB5
  have hl5 := kb.lt
  have hla := ka5.lt
  have h3 : EvR W5 W5.heap.size (some ⟨b1, 0, none⟩) 1 [⟨10, Aa, 1, ca, [⟨1, 1, ByteArray.empty⟩]⟩] := by
    refine ⟨⟨rfl, fun _ => ⟨b1, 0, rfl, hla, fun j u hu => by rw [Nat.zero_add, ka5.cell j]; simpa [encEv] using hu⟩⟩, fun i hi => ?_, by omega⟩
    obtain rfl : i = ⟨10, Aa, 1, ca, [⟨1, 1, ByteArray.empty⟩]⟩ := by simpa using hi
    exact hra5
  have h4 : EvR W5 W5.heap.size (some ⟨W4.heap.size, 0, none⟩) 3 [⟨7, Ab, 1, cb, [⟨1, 2, ByteArray.empty⟩]⟩, ⟨12, Ac, 1, cc, [⟨1, 3, ByteArray.empty⟩]⟩, ⟨16, Ad, 1, cd, [⟨1, 4, ByteArray.empty⟩]⟩] := by
    refine ⟨⟨rfl, fun _ => ⟨W4.heap.size, 0, rfl, hl5, fun j u hu => by rw [Nat.zero_add, kb.cell j]; simpa [encEv] using hu⟩⟩, fun i hi => ?_, by omega⟩
    simp only [List.mem_cons, List.not_mem_nil, or_false] at hi
    rcases hi with rfl | rfl | rfl
    · exact hrb5
    · exact hrc5
    · exact hrd5
  refine (Intervals_any none 0 0 [] none 0 0 [] (-3) 5 _ 1 1 _ _ 3 3 _ W5 Reads.none_ Reads.none_ (by omega) (by omega) h3 h4 (by omega) (by omega) (fun x hx => by
    obtain rfl : x = ⟨10, Aa, 1, ca, [⟨1, 1, ByteArray.empty⟩]⟩ := by simpa using hx
    exact hca) (fun x hx => by
    simp only [List.mem_cons, List.not_mem_nil, or_false] at hx
    rcases hx with rfl | rfl | rfl
    · exact hcb
    · exact hcc
    · exact hcd) (ht.below hBw5)).mono ?_
  rw [show intB [] [] (-3) 5 (dE [⟨10, Aa, 1, ca, [⟨1, 1, ByteArray.empty⟩]⟩]) (dE [⟨7, Ab, 1, cb, [⟨1, 2, ByteArray.empty⟩]⟩, ⟨12, Ac, 1, cc, [⟨1, 3, ByteArray.empty⟩]⟩, ⟨16, Ad, 1, cd, [⟨1, 4, ByteArray.empty⟩]⟩]) = _ from ex_int]
  rintro e W6 ⟨Ar, nr, cr, lr, rfl, hd, hr, hcr, hB6⟩
  have hl : lr.length = 2 := by rw [← dE_len, hd]; rfl
  have hnr : nr = 2 := by rw [← hr.len, hl]
  subst hnr
  obtain ⟨b, off, x, rfl, hb, hx0, c0, c0', _⟩ := hr.at_ (k := 0) (by omega)
  obtain ⟨b', off', y, e', hb', hx1, c1, c1', _⟩ := hr.at_ (k := 1) (by omega)
  injection e' with e'
  injection e' with e1 e2
  subst e1 e2
  have hx := dE_at hx0
  have hy := dE_at hx1
  rw [hd] at hx hy
  have hxt : x.t = 10 := by simp at hx; exact hx.1.symm
  have hyt : y.t = 12 := by simp at hy; exact hy.1.symm
  rw [hxt] at c0
  rw [hyt] at c1
  simp only [Nat.zero_mul, Nat.one_mul, Nat.add_zero] at c0 c1
  have HB := hide (bstep hBw5 hB6)
  clear hx hy hd hr hx0 hx1 hl hB6 hBw5 c0' c1' h3 h4
  go_wp2
  go_ret
  exact ⟨rfl, HB.out⟩
end

end Go.Proofs.YtoapjidpfghnlaaGreatDoor
