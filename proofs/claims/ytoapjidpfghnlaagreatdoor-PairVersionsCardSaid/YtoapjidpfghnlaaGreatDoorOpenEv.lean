/-
  The arguments of type Keys (two lists of numbers, five numbers) and []Event opened, with the room of every row.
-/
import Derived.Test.YtoapjidpfghnlaaGreatDoorEvM
import Derived.Test.YtoapjidpfghnlaaGreatDoorLaidT
import Derived.Lib.SmallJoins
import Derived.ProofKit
import Derived.OpenShut
namespace Go.Proofs.YtoapjidpfghnlaaGreatDoor
open Go.Joins Go.ChangeShapes Go.WideShapes Go.RowKit Go.Deep
section
variable {H : Type} {enc : TypeId × Value → H} {P : Program} {w : World} {base : Nat} {spare : Nat → Bool} {held : Bool}
theorem open_agg7 {r : Reach} {b0 : Nat} {t : TypeId} {f0 f1 f2 f3 f4 f5 f6 : Field} {v : Value} {d : DataW H} {p : List MemPlace} (hs : P.underlying t = some (.struct #[f0, f1, f2, f3, f4, f5, f6])) (hone : oneCellFields P #[f0, f1, f2, f3, f4, f5, f6] = true) (hC : P.cellsOf t = 7)
    (hv : Value.okWide P w r b0 t v) (h : DataW.Trod enc P w base spare held t v d p) :
    ∃ (v0 v1 v2 v3 v4 v5 v6 : Value) (y0 y1 y2 y3 y4 y5 y6 : DataW H × List MemPlace) (n : Nat), v = .agg #[v0, v1, v2, v3, v4, v5, v6] ∧
      DataW.trod enc P w base spare held n f0.type [v0] = some y0 ∧ DataW.trod enc P w base spare held n f1.type [v1] = some y1 ∧ DataW.trod enc P w base spare held n f2.type [v2] = some y2 ∧ DataW.trod enc P w base spare held n f3.type [v3] = some y3 ∧ DataW.trod enc P w base spare held n f4.type [v4] = some y4 ∧ DataW.trod enc P w base spare held n f5.type [v5] = some y5 ∧ DataW.trod enc P w base spare held n f6.type [v6] = some y6 := by
  obtain ⟨cs, rfl, hsz⟩ := okWide_struct hs hv
  obtain ⟨l⟩ := cs
  match l, hsz.trans hC with
  | [c0, c1, c2, c3, c4, c5, c6], _ =>
    obtain ⟨fuel, hf⟩ := h
    obtain ⟨xs, n, _, hx, _, hlen, hg⟩ := DataW.trod_struct hs hf
    obtain ⟨o0, k0⟩ := hone_of hone 0 f0 rfl
    obtain ⟨o1, k1⟩ := hone_of hone 1 f1 rfl
    obtain ⟨o2, k2⟩ := hone_of hone 2 f2 rfl
    obtain ⟨o3, k3⟩ := hone_of hone 3 f3 rfl
    obtain ⟨o4, k4⟩ := hone_of hone 4 f4 rfl
    obtain ⟨o5, k5⟩ := hone_of hone 5 f5 rfl
    obtain ⟨o6, k6⟩ := hone_of hone 6 f6 rfl
    match xs, hlen with
    | [y0, y1, y2, y3, y4, y5, y6], _ =>
      exact ⟨c0, c1, c2, c3, c4, c5, c6, y0, y1, y2, y3, y4, y5, y6, n, rfl, by simpa [Value.cells, o0, k0] using hg 0 f0 rfl, by simpa [Value.cells, o1, k1] using hg 1 f1 rfl, by simpa [Value.cells, o2, k2] using hg 2 f2 rfl, by simpa [Value.cells, o3, k3] using hg 3 f3 rfl, by simpa [Value.cells, o4, k4] using hg 4 f4 rfl, by simpa [Value.cells, o5, k5] using hg 5 f5 rfl, by simpa [Value.cells, o6, k6] using hg 6 f6 rfl⟩
end
section
variable {H : Type} {enc : TypeId × Value → H} {w : World} {base : Nat} {held : Bool}
theorem open_intsK {fuel : Nat} {v : Value} {x : DataW H × List MemPlace} (h : DataW.trod enc Tryz.prog w base (fun _ => true) held fuel 22 [v] = some x) : ∃ A n c, ∃ xs : List Int, v = .slice A n c ∧ Reads w w.heap.size 1 A n (xs.map (Value.int .i64)) ∧ n ≤ 9223372036854775807 ∧ n ≤ c := by
  obtain ⟨A, n, c, xs, h1, h2, h3, h4, _⟩ := open_recsP (α := Int) (encα := fun x => [Value.int .i64 x]) (k := 1) (fun _ => True) (fun _ => rfl) (by omega) Tryz.underlying22 (by kernel_rfl) (fun n cs' y hy => by
    obtain ⟨z, hz, _⟩ := DataW.trod_int Tryz.underlying3 hy
    exact ⟨z, hz, trivial⟩) h
  exact ⟨A, n, c, xs, h1, by rwa [flat_one] at h2, h3, h4⟩
/-- Keys that read. -/
structure KeyW where
  A : Option Addr
  n : Nat
  c : Nat
  on : List Int
  A' : Option Addr
  n' : Nat
  c' : Nat
  others : List Int
  wide : Int
  width : Int
  kind : Int
  lo : Int
  hi : Int
structure KeyR (w : World) (k : KeyW) : Prop where
  a : Reads w w.heap.size 1 k.A k.n (k.on.map (Value.int .i64))
  b : Reads w w.heap.size 1 k.A' k.n' (k.others.map (Value.int .i64))
set_option maxRecDepth 100000 in
theorem open_keys {r : Reach} {b0 : Nat} {v : Value} {d : DataW H} {ps : List MemPlace} (hval : Value.okWide Tryz.prog w r b0 24 v) (hd : DataW.Trod enc Tryz.prog w base (fun _ => true) held 24 v d ps) :
    ∃ k : KeyW, v = .agg #[.slice k.A k.n k.c, .slice k.A' k.n' k.c', .int .i64 k.wide, .int .i64 k.width, .int .i64 k.kind, .int .i64 k.lo, .int .i64 k.hi] ∧ KeyR w k := by
  obtain ⟨x0, x1, x2, x3, x4, x5, x6, y0, y1, y2, y3, y4, y5, y6, m, rfl, t0, t1, t2, t3, t4, t5, t6⟩ := open_agg7 Tryz.underlying24 (by kernel_rfl) (by kernel_rfl) hval hd
  obtain ⟨A, n, c, xs, rfl, h1, _, _⟩ := open_intsK t0
  obtain ⟨A', n', c', ys, rfl, h3, _, _⟩ := open_intsK t1
  obtain ⟨z2, e2, _⟩ := DataW.trod_int Tryz.underlying3 t2
  obtain ⟨z3, e3, _⟩ := DataW.trod_int Tryz.underlying3 t3
  obtain ⟨z4, e4, _⟩ := DataW.trod_int Tryz.underlying3 t4
  obtain ⟨z5, e5, _⟩ := DataW.trod_int Tryz.underlying3 t5
  obtain ⟨z6, e6, _⟩ := DataW.trod_int Tryz.underlying3 t6
  simp at e2 e3 e4 e5 e6
  subst e2 e3 e4 e5 e6
  exact ⟨⟨A, n, c, xs, A', n', c', ys, z2, z3, z4, z5, z6⟩, rfl, h1, h3⟩
set_option maxRecDepth 100000 in
theorem dec_evC (n : Nat) (cs : List Value) (y : DataW H × List MemPlace) (h : DataW.trod enc Tryz.prog w base (fun _ => true) held n 36 cs = some y) : ∃ z : Ev, cs = encEv z ∧ RowK w w.heap.size z.A z.n z.r ∧ z.n ≤ z.c := by
  obtain ⟨y0, y1, k, _, hl, h0, h1⟩ := Go.ChangeShapes.trod_struct2 Tryz.underlying36 h
  rw [show Tryz.prog.cellsOf 36 = 2 by kernel_rfl] at hl
  match cs, hl with
  | [v0, v1], _ =>
    change DataW.trod enc Tryz.prog w base (fun _ => true) held k 3 (([v0, v1].drop 0).take (Tryz.prog.cellsOf 3)) = some y0 at h0
    change DataW.trod enc Tryz.prog w base (fun _ => true) held k 34 (([v0, v1].drop 1).take (Tryz.prog.cellsOf 34)) = some y1 at h1
    rw [show Tryz.prog.cellsOf 3 = 1 by kernel_rfl] at h0
    rw [show Tryz.prog.cellsOf 34 = 1 by kernel_rfl] at h1
    have g0 : DataW.trod enc Tryz.prog w base (fun _ => true) held k 3 [v0] = some y0 := h0
    have g1 : DataW.trod enc Tryz.prog w base (fun _ => true) held k 34 [v1] = some y1 := h1
    obtain ⟨a, ea, _⟩ := DataW.trod_int Tryz.underlying3 g0
    obtain ⟨A, m, c, r, rfl, hr, hm, hmc, _⟩ := open_recsP (α := Val) (encα := encV) (k := 3) (fun _ => True) encV_len (by omega) Tryz.underlying34 (by kernel_rfl) (fun n cs' y hy => dec_val n cs' y hy) g1
    simp at ea
    subst ea
    exact ⟨⟨a, A, m, c, r⟩, rfl, RowK.of_reads hr (Nat.le_refl _) hm, hmc⟩
set_option maxRecDepth 100000 in
theorem open_evsC {r : Reach} {b0 : Nat} {v : Value} {d : DataW H} {ps : List MemPlace} (hval : Value.okWide Tryz.prog w r b0 25 v) (hd : DataW.Trod enc Tryz.prog w base (fun _ => true) held 25 v d ps) :
    ∃ A n c, ∃ l : List Ev, v = .slice A n c ∧ EvR w w.heap.size A n l ∧ ∀ x ∈ l, x.n ≤ x.c := by
  obtain ⟨a0, l0, c0, rfl⟩ := okWide_slice Tryz.underlying25 hval
  obtain ⟨fuel, hf⟩ := hd
  obtain ⟨A, n, c, l, h1, hr, hn, _, hp⟩ := open_recsP (α := Ev) (encα := encEv) (k := 2) (fun z => RowK w w.heap.size z.A z.n z.r ∧ z.n ≤ z.c) encEv_len (by omega) Tryz.underlying25 (by kernel_rfl) (fun n cs' y hy => dec_evC n cs' y hy) (by simpa only [Value.cells] using hf)
  exact ⟨A, n, c, l, h1, ⟨hr, fun i hi => (hp i hi).1, hn⟩, fun i hi => (hp i hi).2⟩
end
end Go.Proofs.YtoapjidpfghnlaaGreatDoor
