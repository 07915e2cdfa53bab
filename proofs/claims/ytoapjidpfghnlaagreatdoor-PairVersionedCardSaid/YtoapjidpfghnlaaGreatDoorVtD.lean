/-
  The arguments of type Keys (two lists of numbers, five numbers) and []Event opened, with the room of every row.
  The law's acts in memory; few; the argument of type []Act opened. No condition.
  All that the law of the versioners holds in memory, and what a call of one of them leaves of it. No condition.
  The state of the law of the versioners between two acts, and what an act makes of it. No condition.
  What one call leaves of the other versioner; the sizes of lists. No condition.
-/
import Derived.Test.YtoapjidpfghnlaaGreatDoorEvM
import Derived.Test.YtoapjidpfghnlaaGreatDoorLaidT
import Derived.Lib.SmallJoins
import Derived.ProofKit
import Derived.OpenShut
import Derived.Test.YtoapjidpfghnlaaGreatDoorPrL2
import Derived.Test.YtoapjidpfghnlaaGreatDoorVtS
namespace Go.Proofs.YtoapjidpfghnlaaGreatDoor

section
open Go.Joins Go.ChangeShapes Go.WideShapes Go.RowKit Go.Deep
section
variable {H : Type} {enc : TypeId × Value → H} {P : Program} {w : World} {base : Nat} {spare : Nat → Bool} {held : Bool}
theorem open_agg7 {r : Reach} {b0 : Nat} {t : TypeId} {f0 f1 f2 f3 f4 f5 f6 : Field} {v : Value} {d : DataW H} {p : List MemPlace} (hs : P.underlying t = some (.struct #[f0, f1, f2, f3, f4, f5, f6])) (hone : oneCellFields P #[f0, f1, f2, f3, f4, f5, f6] = true) (hC : P.cellsOf t = 7)
    (hv : Value.okWide P w r b0 t v) (h : DataW.Trod enc P w base spare held t v d p) :
    ∃ (v0 v1 v2 v3 v4 v5 v6 : Value) (y0 y1 y2 y3 y4 y5 y6 : DataW H × List MemPlace) (n : Nat), v = .agg #[v0, v1, v2, v3, v4, v5, v6] ∧
      DataW.trod enc P w base spare held n f0.type [v0] = some y0 ∧ DataW.trod enc P w base spare held n f1.type [v1] = some y1 ∧ DataW.trod enc P w base spare held n f2.type [v2] = some y2 ∧ DataW.trod enc P w base spare held n f3.type [v3] = some y3 ∧ DataW.trod enc P w base spare held n f4.type [v4] = some y4 ∧ DataW.trod enc P w base spare held n f5.type [v5] = some y5 ∧ DataW.trod enc P w base spare held n f6.type [v6] = some y6 := by
  obtain ⟨cs, rfl, hsz⟩ := okWide_struct hs hv
  obtain ⟨l⟩ := cs
  match l, hsz.trans hC with
  | [c0, c1, c2, c3, c4, c5, c6], _ =>
    obtain ⟨fuel, hf⟩ := h
    obtain ⟨xs, n, _, hx, _, hlen, hg⟩ := DataW.trod_struct hs hf
    obtain ⟨o0, k0⟩ := hone_of hone 0 f0 rfl
    obtain ⟨o1, k1⟩ := hone_of hone 1 f1 rfl
    obtain ⟨o2, k2⟩ := hone_of hone 2 f2 rfl
    obtain ⟨o3, k3⟩ := hone_of hone 3 f3 rfl
    obtain ⟨o4, k4⟩ := hone_of hone 4 f4 rfl
    obtain ⟨o5, k5⟩ := hone_of hone 5 f5 rfl
    obtain ⟨o6, k6⟩ := hone_of hone 6 f6 rfl
    match xs, hlen with
    | [y0, y1, y2, y3, y4, y5, y6], _ =>
      exact ⟨c0, c1, c2, c3, c4, c5, c6, y0, y1, y2, y3, y4, y5, y6, n, rfl, by simpa [Value.cells, o0, k0] using hg 0 f0 rfl, by simpa [Value.cells, o1, k1] using hg 1 f1 rfl, by simpa [Value.cells, o2, k2] using hg 2 f2 rfl, by simpa [Value.cells, o3, k3] using hg 3 f3 rfl, by simpa [Value.cells, o4, k4] using hg 4 f4 rfl, by simpa [Value.cells, o5, k5] using hg 5 f5 rfl, by simpa [Value.cells, o6, k6] using hg 6 f6 rfl⟩
end
section
variable {H : Type} {enc : TypeId × Value → H} {w : World} {base : Nat} {held : Bool}
theorem open_intsK {fuel : Nat} {v : Value} {x : DataW H × List MemPlace} (h : DataW.trod enc Tryz.prog w base (fun _ => true) held fuel 22 [v] = some x) : ∃ A n c, ∃ xs : List Int, v = .slice A n c ∧ Reads w w.heap.size 1 A n (xs.map (Value.int .i64)) ∧ n ≤ 9223372036854775807 ∧ n ≤ c := by
  obtain ⟨A, n, c, xs, h1, h2, h3, h4, _⟩ := open_recsP (α := Int) (encα := fun x => [Value.int .i64 x]) (k := 1) (fun _ => True) (fun _ => rfl) (by omega) Tryz.underlying22 (by kernel_rfl) (fun n cs' y hy => by
    obtain ⟨z, hz, _⟩ := DataW.trod_int Tryz.underlying3 hy
    exact ⟨z, hz, trivial⟩) h
  exact ⟨A, n, c, xs, h1, by rwa [flat_one] at h2, h3, h4⟩
/-- Keys that read. -/
structure KeyW where
  A : Option Addr
  n : Nat
  c : Nat
  on : List Int
  A' : Option Addr
  n' : Nat
  c' : Nat
  others : List Int
  wide : Int
  width : Int
  kind : Int
  lo : Int
  hi : Int
structure KeyR (w : World) (k : KeyW) : Prop where
  a : Reads w w.heap.size 1 k.A k.n (k.on.map (Value.int .i64))
  b : Reads w w.heap.size 1 k.A' k.n' (k.others.map (Value.int .i64))
set_option maxRecDepth 100000 in
theorem open_keys {r : Reach} {b0 : Nat} {v : Value} {d : DataW H} {ps : List MemPlace} (hval : Value.okWide Tryz.prog w r b0 24 v) (hd : DataW.Trod enc Tryz.prog w base (fun _ => true) held 24 v d ps) :
    ∃ k : KeyW, v = .agg #[.slice k.A k.n k.c, .slice k.A' k.n' k.c', .int .i64 k.wide, .int .i64 k.width, .int .i64 k.kind, .int .i64 k.lo, .int .i64 k.hi] ∧ KeyR w k := by
  obtain ⟨x0, x1, x2, x3, x4, x5, x6, y0, y1, y2, y3, y4, y5, y6, m, rfl, t0, t1, t2, t3, t4, t5, t6⟩ := open_agg7 Tryz.underlying24 (by kernel_rfl) (by kernel_rfl) hval hd
  obtain ⟨A, n, c, xs, rfl, h1, _, _⟩ := open_intsK t0
  obtain ⟨A', n', c', ys, rfl, h3, _, _⟩ := open_intsK t1
  obtain ⟨z2, e2, _⟩ := DataW.trod_int Tryz.underlying3 t2
  obtain ⟨z3, e3, _⟩ := DataW.trod_int Tryz.underlying3 t3
  obtain ⟨z4, e4, _⟩ := DataW.trod_int Tryz.underlying3 t4
  obtain ⟨z5, e5, _⟩ := DataW.trod_int Tryz.underlying3 t5
  obtain ⟨z6, e6, _⟩ := DataW.trod_int Tryz.underlying3 t6
  simp at e2 e3 e4 e5 e6
  subst e2 e3 e4 e5 e6
  exact ⟨⟨A, n, c, xs, A', n', c', ys, z2, z3, z4, z5, z6⟩, rfl, h1, h3⟩
set_option maxRecDepth 100000 in
theorem dec_evC (n : Nat) (cs : List Value) (y : DataW H × List MemPlace) (h : DataW.trod enc Tryz.prog w base (fun _ => true) held n 36 cs = some y) : ∃ z : Ev, cs = encEv z ∧ RowK w w.heap.size z.A z.n z.r ∧ z.n ≤ z.c := by
  obtain ⟨y0, y1, k, _, hl, h0, h1⟩ := Go.ChangeShapes.trod_struct2 Tryz.underlying36 h
  rw [show Tryz.prog.cellsOf 36 = 2 by kernel_rfl] at hl
  match cs, hl with
  | [v0, v1], _ =>
    change DataW.trod enc Tryz.prog w base (fun _ => true) held k 3 (([v0, v1].drop 0).take (Tryz.prog.cellsOf 3)) = some y0 at h0
    change DataW.trod enc Tryz.prog w base (fun _ => true) held k 34 (([v0, v1].drop 1).take (Tryz.prog.cellsOf 34)) = some y1 at h1
    rw [show Tryz.prog.cellsOf 3 = 1 by kernel_rfl] at h0
    rw [show Tryz.prog.cellsOf 34 = 1 by kernel_rfl] at h1
    have g0 : DataW.trod enc Tryz.prog w base (fun _ => true) held k 3 [v0] = some y0 := h0
    have g1 : DataW.trod enc Tryz.prog w base (fun _ => true) held k 34 [v1] = some y1 := h1
    obtain ⟨a, ea, _⟩ := DataW.trod_int Tryz.underlying3 g0
    obtain ⟨A, m, c, r, rfl, hr, hm, hmc, _⟩ := open_recsP (α := Val) (encα := encV) (k := 3) (fun _ => True) encV_len (by omega) Tryz.underlying34 (by kernel_rfl) (fun n cs' y hy => dec_val n cs' y hy) g1
    simp at ea
    subst ea
    exact ⟨⟨a, A, m, c, r⟩, rfl, RowK.of_reads hr (Nat.le_refl _) hm, hmc⟩
set_option maxRecDepth 100000 in
theorem open_evsC {r : Reach} {b0 : Nat} {v : Value} {d : DataW H} {ps : List MemPlace} (hval : Value.okWide Tryz.prog w r b0 25 v) (hd : DataW.Trod enc Tryz.prog w base (fun _ => true) held 25 v d ps) :
    ∃ A n c, ∃ l : List Ev, v = .slice A n c ∧ EvR w w.heap.size A n l ∧ ∀ x ∈ l, x.n ≤ x.c := by
  obtain ⟨a0, l0, c0, rfl⟩ := okWide_slice Tryz.underlying25 hval
  obtain ⟨fuel, hf⟩ := hd
  obtain ⟨A, n, c, l, h1, hr, hn, _, hp⟩ := open_recsP (α := Ev) (encα := encEv) (k := 2) (fun z => RowK w w.heap.size z.A z.n z.r ∧ z.n ≤ z.c) encEv_len (by omega) Tryz.underlying25 (by kernel_rfl) (fun n cs' y hy => dec_evC n cs' y hy) (by simpa only [Value.cells] using hf)
  exact ⟨A, n, c, l, h1, ⟨hr, fun i hi => (hp i hi).1, hn⟩, fun i hi => (hp i hi).2⟩
end
end

section
open Go.RowKit Go.Deep Go.WideShapes Go.ChangeShapes
attribute [local go_sem] Oper.semAt_some wide_fn wide_depth
set_option linter.unusedVariables false
set_option linter.unusedSimpArgs false

/-- An act: what is called, a number, and a change (a time, a row, a number). -/
structure Ac where
  k : Int
  n : Int
  t : Int
  A : Option Addr
  m : Nat
  c : Nat
  r : Rw
  q : Int
def encAc (a : Ac) : List Value := [.int .i64 a.k, .int .i64 a.n, .int .i64 a.t, .slice a.A a.m a.c, .int .i64 a.q]
theorem encAc_len (a : Ac) : (encAc a).length = 5 := rfl
structure AcR (w : World) (B : Nat) (A : Option Addr) (n : Nat) (l : List Ac) : Prop where
  rd : Reads w w.heap.size 5 A n (l.flatMap encAc)
  rows : ∀ a ∈ l, RowK w B a.A a.m a.r
  caps : ∀ a ∈ l, a.m ≤ a.c
  le : n ≤ 9223372036854775807
theorem AcR.len {w : World} {B n : Nat} {A : Option Addr} {l : List Ac} (h : AcR w B A n l) : l.length = n := h.rd.len encAc_len (by omega)
theorem AcR.below {w w' : World} {B n : Nat} {A : Option Addr} {l : List Ac} (h : AcR w B A n l) (hb : Below w.heap.size w w') : AcR w' B A n l := ⟨h.rd.up hb, fun a ha => (h.rows a ha).below hb, h.caps, h.le⟩
theorem AcR.at_ {w : World} {B n : Nat} {A : Option Addr} {l : List Ac} (h : AcR w B A n l) {k : Nat} (hk : k < n) : ∃ b off a, A = some ⟨b, off, none⟩ ∧ b < w.heap.size ∧ l[k]? = some a ∧ w.cell? ⟨b, off + k * 5, none⟩ = some (.int .i64 a.k) ∧ w.cell? ⟨b, off + k * 5 + 1, none⟩ = some (.int .i64 a.n) ∧
    w.cell? ⟨b, off + k * 5 + 2, none⟩ = some (.int .i64 a.t) ∧ w.cell? ⟨b, off + k * 5 + 3, none⟩ = some (.slice a.A a.m a.c) ∧ w.cell? ⟨b, off + k * 5 + 4, none⟩ = some (.int .i64 a.q) ∧ RowK w B a.A a.m a.r ∧ a.m ≤ a.c := by
  obtain ⟨b, off, i, e, hb, hi, hc⟩ := h.rd.elem encAc_len h.len hk
  exact ⟨b, off, i, e, hb, hi, by simpa using hc 0 _ rfl, by simpa [← Nat.add_assoc] using hc 1 _ rfl, by simpa [← Nat.add_assoc] using hc 2 _ rfl, by simpa [← Nat.add_assoc] using hc 3 _ rfl, by simpa [← Nat.add_assoc] using hc 4 _ rfl, h.rows i (List.mem_of_getElem? hi), h.caps i (List.mem_of_getElem? hi)⟩
/-- What few answers: if it says yes, they are few. -/
def RetFw (w : World) (n : Nat) (e : Ending) (w' : World) : Prop := ∃ b : Bool, e = .returned (.bool b) ∧ (b = true → n ≤ 40) ∧ Below w.heap.size w w'
set_option maxRecDepth 100000 in
set_option maxHeartbeats 4000000 in
theorem fewA_any (A : Option Addr) (n c : Nat) (l : List Ac) (w : World) (hl : AcR w w.heap.size A n l) :
    Calls Tryz.prog 27 #[.slice A n c] w (RetFw w n) := by
  have hle := hl.le
  go_enter Tryz.func27, Tryz.ntmps27
  go_wp2_with fail
  go_loopw [3] (fun i wr => ∃ k : Nat, k ≤ n ∧ i = .int .i64 k ∧ Below w.heap.size w wr) (fun i _ => n - (intOf i).toNat)
  case atStart => exact ⟨0, Nat.zero_le _, rfl, Below.refl _ _⟩
  case round =>
    obtain ⟨k, hk, rfl, hBw⟩ := hrel
    by_cases hlt : k < n
    · obtain ⟨b, off, x, rfl, hb, hxk, c0, c1, c2, c3, c4, hrow, _⟩ := (hl.below hBw).at_ hlt
      clear hxk c0 c1 c2 c4
      have q1 : (0 : Int) ≤ (k : Int) := by omega
      have q2 : (k : Int) < (n : Int) := by omega
      have hba := below_val (w := wr) #[.slice x.A x.m x.c] 34
      have ka := Blk.new wr 34 #[.slice x.A x.m x.c]
      have hcell : (wr.alloc (.cells #[.slice x.A x.m x.c] 34)).cell? ⟨wr.heap.size, 0, none⟩ = some (.slice x.A x.m x.c) := ka.cell 0
      have hrd := (hrow.below hba).rd.up (Below.refl _ _)
      have hrl := hrow.le
      have HBA := hide hba
      have HCE := hide hcell
      clear hba ka hcell hrow
      go_wp2_with fail
      refine (Long_one x.A x.m x.c x.r wr.heap.size _ hrd hrl HCE.out).mono ?_
      rintro ee w1 hres
      obtain ⟨bb, rfl, hB1⟩ := hres
      have hB2 := bstep hBw (bstep HBA.out hB1)
      clear hB1 hBw c3 hrd HBA HCE
      cases bb
      · go_wp2
        go_roundw
        case rel => exact ⟨k + 1, by omega, by go_num, hB2⟩
        case measure => simp [intOf]; omega
      · go_wp2
        go_ret
        exact ⟨false, rfl, by simp, hB2⟩
    · obtain rfl : k = n := by omega
      by_cases z1 : k ≤ 40
      · have q1 : (k : Int) ≤ 40 := by omega
        have HZ := hide z1
        clear z1
        go_wp2
        go_ret
        exact ⟨_, rfl, fun _ => HZ.out, hBw⟩
      · have q1 : decide ((k : Int) ≤ 40) = false := decide_eq_false (by omega)
        clear z1
        go_wp2
        go_ret
        exact ⟨_, rfl, fun h => (by simp [q1] at h), hBw⟩
section
variable {H : Type} {enc : TypeId × Value → H} {w : World} {base : Nat} {held : Bool}
set_option maxRecDepth 100000 in
theorem dec_chg9 (n : Nat) (cs : List Value) (y : DataW H × List MemPlace) (h : DataW.trod enc Tryz.prog w base (fun _ => true) held n 57 cs = some y) : ∃ (t : Int) (A : Option Addr) (m c : Nat) (r : Rw) (q : Int), cs = [.int .i64 t, .slice A m c, .int .i64 q] ∧ RowK w w.heap.size A m r ∧ m ≤ c := by
  obtain ⟨y0, y1, y2, k, _, hl, h0, h1, h2⟩ := Go.Deep.trod_struct3 Tryz.underlying57 h
  rw [show Tryz.prog.cellsOf 57 = 3 by kernel_rfl] at hl
  match cs, hl with
  | [v0, v1, v2], _ =>
    change DataW.trod enc Tryz.prog w base (fun _ => true) held k 3 (([v0, v1, v2].drop 0).take (Tryz.prog.cellsOf 3)) = some y0 at h0
    change DataW.trod enc Tryz.prog w base (fun _ => true) held k 34 (([v0, v1, v2].drop 1).take (Tryz.prog.cellsOf 34)) = some y1 at h1
    change DataW.trod enc Tryz.prog w base (fun _ => true) held k 3 (([v0, v1, v2].drop 2).take (Tryz.prog.cellsOf 3)) = some y2 at h2
    rw [show Tryz.prog.cellsOf 3 = 1 by kernel_rfl] at h0 h2
    rw [show Tryz.prog.cellsOf 34 = 1 by kernel_rfl] at h1
    have g0 : DataW.trod enc Tryz.prog w base (fun _ => true) held k 3 [v0] = some y0 := h0
    have g1 : DataW.trod enc Tryz.prog w base (fun _ => true) held k 34 [v1] = some y1 := h1
    have g2 : DataW.trod enc Tryz.prog w base (fun _ => true) held k 3 [v2] = some y2 := h2
    obtain ⟨a, ea, _⟩ := DataW.trod_int Tryz.underlying3 g0
    obtain ⟨A, m, c, r, rfl, hr, hm, hmc, _⟩ := open_recsP (α := Val) (encα := encV) (k := 3) (fun _ => True) encV_len (by omega) Tryz.underlying34 (by kernel_rfl) (fun n cs' y hy => dec_val n cs' y hy) g1
    obtain ⟨b, eb, _⟩ := DataW.trod_int Tryz.underlying3 g2
    simp at ea eb
    subst ea eb
    exact ⟨a, A, m, c, r, b, rfl, RowK.of_reads hr (Nat.le_refl _) hm, hmc⟩
set_option maxRecDepth 100000 in
theorem dec_act (n : Nat) (cs : List Value) (y : DataW H × List MemPlace) (h : DataW.trod enc Tryz.prog w base (fun _ => true) held n 59 cs = some y) : ∃ z : Ac, cs = encAc z ∧ RowK w w.heap.size z.A z.m z.r ∧ z.m ≤ z.c := by
  obtain ⟨y0, y1, y2, k, _, hl, h0, h1, h2⟩ := Go.Deep.trod_struct3 Tryz.underlying59 h
  rw [show Tryz.prog.cellsOf 59 = 5 by kernel_rfl] at hl
  match cs, hl with
  | [v0, v1, v2, v3, v4], _ =>
    change DataW.trod enc Tryz.prog w base (fun _ => true) held k 3 (([v0, v1, v2, v3, v4].drop 0).take (Tryz.prog.cellsOf 3)) = some y0 at h0
    change DataW.trod enc Tryz.prog w base (fun _ => true) held k 3 (([v0, v1, v2, v3, v4].drop 1).take (Tryz.prog.cellsOf 3)) = some y1 at h1
    change DataW.trod enc Tryz.prog w base (fun _ => true) held k 57 (([v0, v1, v2, v3, v4].drop 2).take (Tryz.prog.cellsOf 57)) = some y2 at h2
    rw [show Tryz.prog.cellsOf 3 = 1 by kernel_rfl] at h0 h1
    rw [show Tryz.prog.cellsOf 57 = 3 by kernel_rfl] at h2
    have g0 : DataW.trod enc Tryz.prog w base (fun _ => true) held k 3 [v0] = some y0 := h0
    have g1 : DataW.trod enc Tryz.prog w base (fun _ => true) held k 3 [v1] = some y1 := h1
    have g2 : DataW.trod enc Tryz.prog w base (fun _ => true) held k 57 [v2, v3, v4] = some y2 := h2
    obtain ⟨a, ea, _⟩ := DataW.trod_int Tryz.underlying3 g0
    obtain ⟨b, eb, _⟩ := DataW.trod_int Tryz.underlying3 g1
    obtain ⟨t, A, m, c, r, q, e, hr, hc⟩ := dec_chg9 _ _ _ g2
    simp at ea eb e
    obtain ⟨rfl, rfl, rfl⟩ := e
    subst ea eb
    exact ⟨⟨a, b, t, A, m, c, r, q⟩, rfl, hr, hc⟩
set_option maxRecDepth 100000 in
theorem open_acts {r : Reach} {b0 : Nat} {v : Value} {d : DataW H} {ps : List MemPlace} (hval : Value.okWide Tryz.prog w r b0 48 v) (hd : DataW.Trod enc Tryz.prog w base (fun _ => true) held 48 v d ps) :
    ∃ A n c, ∃ l : List Ac, v = .slice A n c ∧ AcR w w.heap.size A n l := by
  obtain ⟨a0, l0, c0, rfl⟩ := okWide_slice Tryz.underlying48 hval
  obtain ⟨fuel, hf⟩ := hd
  obtain ⟨A, n, c, l, h1, hr, hn, _, hp⟩ := open_recsP (α := Ac) (encα := encAc) (k := 5) (fun z => RowK w w.heap.size z.A z.m z.r ∧ z.m ≤ z.c) encAc_len (by omega) Tryz.underlying48 (by kernel_rfl) (fun n cs' y hy => dec_act n cs' y hy) (by simpa only [Value.cells] using hf)
  exact ⟨A, n, c, l, h1, ⟨hr, fun a ha => (hp a ha).1, fun a ha => (hp a ha).2, hn⟩⟩
end
end

section
open Go.RowKit
set_option linter.unusedVariables false

/-- Lists that are held by the way, each in a block of its own. -/
structure LsI (W : World) (B : Nat) (vs : List Value) (ls : List (List Ev)) : Prop where
  len : vs.length = ls.length
  at_ : ∀ (i : Nat) (v : Value) (l : List Ev), vs[i]? = some v → ls[i]? = some l → OE W B v l
  ap : ∀ (i j : Nat) (u v : Value), i ≠ j → vs[i]? = some u → vs[j]? = some v → ∀ g, u.ownBlock = some g → v.ownBlock ≠ some g
theorem LsI.below {W W' : World} {B : Nat} {vs : List Value} {ls : List (List Ev)} (h : LsI W B vs ls) (hb : Below W.heap.size W W') : LsI W' B vs ls := ⟨h.len, fun i v l h1 h2 => (h.at_ i v l h1 h2).below hb, h.ap⟩
theorem LsI.upd {W W' : World} {B : Nat} {vs : List Value} {ls : List (List Ev)} (h : LsI W B vs ls) (i : Nat) {v v' : Value} {l' : List Ev} {Xs : List Nat} (hi : vs[i]? = some v) (hb : Bar W.heap.size Xs W W') (hX : XsOk W B Xs)
    (hXs : ∀ x ∈ Xs, v.ownBlock = some x ∨ ∀ u ∈ vs, u.ownBlock ≠ some x) (hO : OE W' B v' l') (hf : v'.ownBlock = v.ownBlock ∨ ∀ g, v'.ownBlock = some g → W.heap.size ≤ g) : LsI W' B (vs.set i v') (ls.set i l') := by
  have hlt := (List.getElem?_eq_some_iff.1 hi).1
  have hblk : ∀ (j : Nat) (u : Value), vs[j]? = some u → ∀ g, u.ownBlock = some g → g < W.heap.size := fun j u hj g hg => by
    have hj2 := (List.getElem?_eq_some_iff.1 hj).1
    exact ((h.at_ j u _ hj (List.getElem?_eq_getElem (by rw [← h.len]; exact hj2))).own.lt g hg).2
  refine ⟨by simp [h.len], fun j u l hj hl => ?_, fun j k u w hjk hj hk g hg hh => ?_⟩
  · rw [List.getElem?_set] at hj hl
    by_cases e : i = j
    · subst e
      rw [if_pos rfl, if_pos hlt] at hj
      rw [if_pos rfl, if_pos (by rw [← h.len]; exact hlt)] at hl
      injection hj with hj
      injection hl with hl
      subst hj hl
      exact hO
    · rw [if_neg e] at hj hl
      refine (h.at_ j u l hj hl).bar hb (fun g hg hm => ?_) hX
      rcases hXs g hm with h1 | h1
      · exact h.ap i j v u e hi hj g h1 hg
      · exact h1 u (List.mem_of_getElem? hj) hg
  · rw [List.getElem?_set] at hj hk
    by_cases e : i = j
    · subst e
      rw [if_pos rfl, if_pos hlt] at hj
      rw [if_neg hjk] at hk
      injection hj with hj
      subst hj
      rcases hf with h1 | h1
      · exact h.ap i k v w hjk hi hk g (h1 ▸ hg) hh
      · have := h1 g hg
        have := hblk k w hk g hh
        omega
    · rw [if_neg e] at hj
      by_cases e2 : i = k
      · subst e2
        rw [if_pos rfl, if_pos hlt] at hk
        injection hk with hk
        subst hk
        rcases hf with h1 | h1
        · exact h.ap j i u v hjk hj hi g hg (h1 ▸ hh)
        · have := h1 g hh
          have := hblk j u hj g hg
          omega
      · rw [if_neg e2] at hk
        exact h.ap j k u w hjk hj hk g hg hh
/-- Both versioners, and the seven lists: what they hold, what was told, what was handed over. -/
structure Mm (W : World) (B bx by_ : Nat) (kx ky : KV) (mx my : Int) (a0 a1 a2 a3 a4 a5 a6 : Value) (l0 l1 l2 l3 l4 l5 l6 : List Ev) : Prop where
  ls : LsI W B [a0, a1, a2, a3, a4, a5, a6] [l0, l1, l2, l3, l4, l5, l6]
  x : VO W 130 bx kx a0 a1 mx
  y : VO W 132 by_ ky a2 a3 my
  hx : B ≤ bx
  hy : B ≤ by_
section
variable {W W' : World} {B bx by_ : Nat} {kx ky : KV} {mx my mx' my' : Int} {a0 a1 a2 a3 a4 a5 a6 v' : Value} {l0 l1 l2 l3 l4 l5 l6 l' : List Ev}
theorem Mm.below (h : Mm W B bx by_ kx ky mx my a0 a1 a2 a3 a4 a5 a6 l0 l1 l2 l3 l4 l5 l6) (hb : Below W.heap.size W W') : Mm W' B bx by_ kx ky mx my a0 a1 a2 a3 a4 a5 a6 l0 l1 l2 l3 l4 l5 l6 := ⟨h.ls.below hb, h.x.below hb, h.y.below hb, h.hx, h.hy⟩
theorem Mm.o0 (h : Mm W B bx by_ kx ky mx my a0 a1 a2 a3 a4 a5 a6 l0 l1 l2 l3 l4 l5 l6) : OE W B a0 l0 := h.ls.at_ 0 _ _ rfl rfl
theorem Mm.o1 (h : Mm W B bx by_ kx ky mx my a0 a1 a2 a3 a4 a5 a6 l0 l1 l2 l3 l4 l5 l6) : OE W B a1 l1 := h.ls.at_ 1 _ _ rfl rfl
theorem Mm.o2 (h : Mm W B bx by_ kx ky mx my a0 a1 a2 a3 a4 a5 a6 l0 l1 l2 l3 l4 l5 l6) : OE W B a2 l2 := h.ls.at_ 2 _ _ rfl rfl
theorem Mm.o3 (h : Mm W B bx by_ kx ky mx my a0 a1 a2 a3 a4 a5 a6 l0 l1 l2 l3 l4 l5 l6) : OE W B a3 l3 := h.ls.at_ 3 _ _ rfl rfl
theorem Mm.o4 (h : Mm W B bx by_ kx ky mx my a0 a1 a2 a3 a4 a5 a6 l0 l1 l2 l3 l4 l5 l6) : OE W B a4 l4 := h.ls.at_ 4 _ _ rfl rfl
theorem Mm.o5 (h : Mm W B bx by_ kx ky mx my a0 a1 a2 a3 a4 a5 a6 l0 l1 l2 l3 l4 l5 l6) : OE W B a5 l5 := h.ls.at_ 5 _ _ rfl rfl
theorem Mm.o6 (h : Mm W B bx by_ kx ky mx my a0 a1 a2 a3 a4 a5 a6 l0 l1 l2 l3 l4 l5 l6) : OE W B a6 l6 := h.ls.at_ 6 _ _ rfl rfl
theorem Mm.xs (h : Mm W B bx by_ kx ky mx my a0 a1 a2 a3 a4 a5 a6 l0 l1 l2 l3 l4 l5 l6) {v : Value} {l : List Ev} (hO : OE W B v l) : XsOk W B (bx :: obl v) := fun g hg => by
  rcases List.mem_cons.1 hg with rfl | hg
  · exact ⟨h.hx, blk_not h.x.blk (by decide), blk_not h.x.blk (by decide)⟩
  · exact ⟨(own_not hO.own (t' := 3) (by decide) g hg).1, (own_not hO.own (by decide) g hg).2, (own_not hO.own (by decide) g hg).2⟩
theorem Mm.ys (h : Mm W B bx by_ kx ky mx my a0 a1 a2 a3 a4 a5 a6 l0 l1 l2 l3 l4 l5 l6) {v : Value} {l : List Ev} (hO : OE W B v l) : XsOk W B (by_ :: obl v) := fun g hg => by
  rcases List.mem_cons.1 hg with rfl | hg
  · exact ⟨h.hy, blk_not h.y.blk (by decide), blk_not h.y.blk (by decide)⟩
  · exact ⟨(own_not hO.own (t' := 3) (by decide) g hg).1, (own_not hO.own (by decide) g hg).2, (own_not hO.own (by decide) g hg).2⟩
theorem Mm.os (h : Mm W B bx by_ kx ky mx my a0 a1 a2 a3 a4 a5 a6 l0 l1 l2 l3 l4 l5 l6) {v : Value} {l : List Ev} (hO : OE W B v l) : XsOk W B (obl v) := fun g hg => h.xs hO g (List.mem_cons_of_mem _ hg)
theorem Mm.nox (h : Mm W B bx by_ kx ky mx my a0 a1 a2 a3 a4 a5 a6 l0 l1 l2 l3 l4 l5 l6) : ∀ u ∈ [a0, a1, a2, a3, a4, a5, a6], u.ownBlock ≠ some bx := fun u hu e => by
  obtain ⟨j, hj⟩ := List.getElem?_of_mem hu
  have hO := h.ls.at_ j u _ hj (List.getElem?_eq_getElem (by rw [← h.ls.len]; exact (List.getElem?_eq_some_iff.1 hj).1))
  exact (own_not hO.own (t' := 130) (by decide) bx (by unfold obl; rw [e]; simp)).2 _ _ h.x.blk
theorem Mm.noy (h : Mm W B bx by_ kx ky mx my a0 a1 a2 a3 a4 a5 a6 l0 l1 l2 l3 l4 l5 l6) : ∀ u ∈ [a0, a1, a2, a3, a4, a5, a6], u.ownBlock ≠ some by_ := fun u hu e => by
  obtain ⟨j, hj⟩ := List.getElem?_of_mem hu
  have hO := h.ls.at_ j u _ hj (List.getElem?_eq_getElem (by rw [← h.ls.len]; exact (List.getElem?_eq_some_iff.1 hj).1))
  exact (own_not hO.own (t' := 132) (by decide) by_ (by unfold obl; rw [e]; simp)).2 _ _ h.y.blk
theorem obl_own {v : Value} {g : Nat} (h : g ∈ obl v) : v.ownBlock = some g := by unfold obl at h; simpa using h
theorem Mm.xy (h : Mm W B bx by_ kx ky mx my a0 a1 a2 a3 a4 a5 a6 l0 l1 l2 l3 l4 l5 l6) : bx ≠ by_ := fun e => blk_not h.x.blk (t' := 132) (by decide) _ _ (e ▸ h.y.blk)
/-- The program's versioner turned; its left list (0) or its right one (1) is another. -/
theorem Mm.x0 (h : Mm W B bx by_ kx ky mx my a0 a1 a2 a3 a4 a5 a6 l0 l1 l2 l3 l4 l5 l6) (hv : VO W' 130 bx kx v' a1 mx') (hO : OE W' B v' l') (hf : v'.ownBlock = a0.ownBlock ∨ ∀ g, v'.ownBlock = some g → W.heap.size ≤ g) (hb : Bar W.heap.size (bx :: obl a0) W W') :
    Mm W' B bx by_ kx ky mx' my v' a1 a2 a3 a4 a5 a6 l' l1 l2 l3 l4 l5 l6 :=
  ⟨h.ls.upd 0 (v := a0) rfl hb (h.xs h.o0) (fun x hx => (List.mem_cons.1 hx).elim (fun e => .inr (e ▸ h.nox)) fun hx => .inl (obl_own hx)) hO hf, hv,
    h.y.bar hb (fun hm => (List.mem_cons.1 hm).elim (fun e => h.xy e.symm) fun hm => h.noy a0 (by simp) (obl_own hm)) (fun x hx => (h.xs h.o0 x hx).2.2), h.hx, h.hy⟩
theorem Mm.x1 (h : Mm W B bx by_ kx ky mx my a0 a1 a2 a3 a4 a5 a6 l0 l1 l2 l3 l4 l5 l6) (hv : VO W' 130 bx kx a0 v' mx') (hO : OE W' B v' l') (hf : v'.ownBlock = a1.ownBlock ∨ ∀ g, v'.ownBlock = some g → W.heap.size ≤ g) (hb : Bar W.heap.size (bx :: obl a1) W W') :
    Mm W' B bx by_ kx ky mx' my a0 v' a2 a3 a4 a5 a6 l0 l' l2 l3 l4 l5 l6 :=
  ⟨h.ls.upd 1 (v := a1) rfl hb (h.xs h.o1) (fun x hx => (List.mem_cons.1 hx).elim (fun e => .inr (e ▸ h.nox)) fun hx => .inl (obl_own hx)) hO hf, hv,
    h.y.bar hb (fun hm => (List.mem_cons.1 hm).elim (fun e => h.xy e.symm) fun hm => h.noy a1 (by simp) (obl_own hm)) (fun x hx => (h.xs h.o1 x hx).2.2), h.hx, h.hy⟩
theorem Mm.y2 (h : Mm W B bx by_ kx ky mx my a0 a1 a2 a3 a4 a5 a6 l0 l1 l2 l3 l4 l5 l6) (hv : VO W' 132 by_ ky v' a3 my') (hO : OE W' B v' l') (hf : v'.ownBlock = a2.ownBlock ∨ ∀ g, v'.ownBlock = some g → W.heap.size ≤ g) (hb : Bar W.heap.size (by_ :: obl a2) W W') :
    Mm W' B bx by_ kx ky mx my' a0 a1 v' a3 a4 a5 a6 l0 l1 l' l3 l4 l5 l6 :=
  ⟨h.ls.upd 2 (v := a2) rfl hb (h.ys h.o2) (fun x hx => (List.mem_cons.1 hx).elim (fun e => .inr (e ▸ h.noy)) fun hx => .inl (obl_own hx)) hO hf,
    h.x.bar hb (fun hm => (List.mem_cons.1 hm).elim (fun e => h.xy e) fun hm => h.nox a2 (by simp) (obl_own hm)) (fun x hx => (h.ys h.o2 x hx).2.2), hv, h.hx, h.hy⟩
theorem Mm.y3 (h : Mm W B bx by_ kx ky mx my a0 a1 a2 a3 a4 a5 a6 l0 l1 l2 l3 l4 l5 l6) (hv : VO W' 132 by_ ky a2 v' my') (hO : OE W' B v' l') (hf : v'.ownBlock = a3.ownBlock ∨ ∀ g, v'.ownBlock = some g → W.heap.size ≤ g) (hb : Bar W.heap.size (by_ :: obl a3) W W') :
    Mm W' B bx by_ kx ky mx my' a0 a1 a2 v' a4 a5 a6 l0 l1 l2 l' l4 l5 l6 :=
  ⟨h.ls.upd 3 (v := a3) rfl hb (h.ys h.o3) (fun x hx => (List.mem_cons.1 hx).elim (fun e => .inr (e ▸ h.noy)) fun hx => .inl (obl_own hx)) hO hf,
    h.x.bar hb (fun hm => (List.mem_cons.1 hm).elim (fun e => h.xy e) fun hm => h.nox a3 (by simp) (obl_own hm)) (fun x hx => (h.ys h.o3 x hx).2.2), hv, h.hx, h.hy⟩
/-- One of the law's own lists turned. -/
theorem Mm.own (h : Mm W B bx by_ kx ky mx my a0 a1 a2 a3 a4 a5 a6 l0 l1 l2 l3 l4 l5 l6) (i : Nat) {v : Value} {l : List Ev} (hi : [a0, a1, a2, a3, a4, a5, a6][i]? = some v) (hil : [l0, l1, l2, l3, l4, l5, l6][i]? = some l) (hO : OE W' B v' l') (hf : v'.ownBlock = v.ownBlock ∨ ∀ g, v'.ownBlock = some g → W.heap.size ≤ g) (hb : Bar W.heap.size (obl v) W W') :
    LsI W' B ([a0, a1, a2, a3, a4, a5, a6].set i v') ([l0, l1, l2, l3, l4, l5, l6].set i l') ∧ VO W' 130 bx kx a0 a1 mx ∧ VO W' 132 by_ ky a2 a3 my :=
  have hO0 := h.ls.at_ i v l hi hil
  ⟨h.ls.upd i hi hb (h.os hO0) (fun x hx => .inl (obl_own hx)) hO hf,
    h.x.bar hb (fun hm => h.nox v (List.mem_of_getElem? hi) (obl_own hm)) (fun x hx => (h.os hO0 x hx).2.2),
    h.y.bar hb (fun hm => h.noy v (List.mem_of_getElem? hi) (obl_own hm)) (fun x hx => (h.os hO0 x hx).2.2)⟩
theorem Mm.v4 (h : Mm W B bx by_ kx ky mx my a0 a1 a2 a3 a4 a5 a6 l0 l1 l2 l3 l4 l5 l6) (hO : OE W' B v' l') (hf : v'.ownBlock = a4.ownBlock ∨ ∀ g, v'.ownBlock = some g → W.heap.size ≤ g) (hb : Bar W.heap.size (obl a4) W W') :
    Mm W' B bx by_ kx ky mx my a0 a1 a2 a3 v' a5 a6 l0 l1 l2 l3 l' l5 l6 :=
  have k := h.own 4 (v := a4) rfl rfl hO hf hb
  ⟨k.1, k.2.1, k.2.2, h.hx, h.hy⟩
theorem Mm.v5 (h : Mm W B bx by_ kx ky mx my a0 a1 a2 a3 a4 a5 a6 l0 l1 l2 l3 l4 l5 l6) (hO : OE W' B v' l') (hf : v'.ownBlock = a5.ownBlock ∨ ∀ g, v'.ownBlock = some g → W.heap.size ≤ g) (hb : Bar W.heap.size (obl a5) W W') :
    Mm W' B bx by_ kx ky mx my a0 a1 a2 a3 a4 v' a6 l0 l1 l2 l3 l4 l' l6 :=
  have k := h.own 5 (v := a5) rfl rfl hO hf hb
  ⟨k.1, k.2.1, k.2.2, h.hx, h.hy⟩
theorem Mm.v6 (h : Mm W B bx by_ kx ky mx my a0 a1 a2 a3 a4 a5 a6 l0 l1 l2 l3 l4 l5 l6) (hO : OE W' B v' l') (hf : v'.ownBlock = a6.ownBlock ∨ ∀ g, v'.ownBlock = some g → W.heap.size ≤ g) (hb : Bar W.heap.size (obl a6) W W') :
    Mm W' B bx by_ kx ky mx my a0 a1 a2 a3 a4 a5 v' l0 l1 l2 l3 l4 l5 l' :=
  have k := h.own 6 (v := a6) rfl rfl hO hf hb
  ⟨k.1, k.2.1, k.2.2, h.hx, h.hy⟩
/-- A block of the law's own, which none of all this is. -/
def Far (xb : Nat) (vs : List Value) : Prop := ∀ u ∈ vs, u.ownBlock ≠ some xb
theorem Mm.far (h : Mm W B bx by_ kx ky mx my a0 a1 a2 a3 a4 a5 a6 l0 l1 l2 l3 l4 l5 l6) {xb : Nat} (hx : W.heap.size ≤ xb) : Far xb [a0, a1, a2, a3, a4, a5, a6] := fun u hu e => by
  obtain ⟨j, hj⟩ := List.getElem?_of_mem hu
  have hO := h.ls.at_ j u _ hj (List.getElem?_eq_getElem (by rw [← h.ls.len]; exact (List.getElem?_eq_some_iff.1 hj).1))
  have := (hO.own.lt xb e).2
  omega
theorem Far.set {xb : Nat} {vs : List Value} (h : Far xb vs) {i : Nat} {v : Value} (hi : vs[i]? = some v) {n : Nat} (hx : xb < n) (hf : v'.ownBlock = v.ownBlock ∨ ∀ g, v'.ownBlock = some g → n ≤ g) : Far xb (vs.set i v') := fun u hu e => by
  rcases List.mem_or_eq_of_mem_set hu with h1 | rfl
  · exact h u h1 e
  · rcases hf with h1 | h1
    · exact h v (List.mem_of_getElem? hi) (h1 ▸ e)
    · have := h1 xb e
      omega
theorem Mm.boxx (h : Mm W B bx by_ kx ky mx my a0 a1 a2 a3 a4 a5 a6 l0 l1 l2 l3 l4 l5 l6) {xb : Nat} {cs : Array Value} (hk : Blk W xb 36 cs) {v : Value} (hv : v.ownBlock ≠ some xb) (hb : Bar W.heap.size (bx :: obl v) W W') : Blk W' xb 36 cs :=
  (hb.block xb hk.lt fun hm => (List.mem_cons.1 hm).elim (fun e => blk_not hk (t' := 130) (by decide) _ _ (e ▸ h.x.blk)) fun hm => hv (obl_own hm)).trans hk
theorem Mm.boxy (h : Mm W B bx by_ kx ky mx my a0 a1 a2 a3 a4 a5 a6 l0 l1 l2 l3 l4 l5 l6) {xb : Nat} {cs : Array Value} (hk : Blk W xb 36 cs) {v : Value} (hv : v.ownBlock ≠ some xb) (hb : Bar W.heap.size (by_ :: obl v) W W') : Blk W' xb 36 cs :=
  (hb.block xb hk.lt fun hm => (List.mem_cons.1 hm).elim (fun e => blk_not hk (t' := 132) (by decide) _ _ (e ▸ h.y.blk)) fun hm => hv (obl_own hm)).trans hk
theorem Mm.lowx (h : Mm W B bx by_ kx ky mx my a0 a1 a2 a3 a4 a5 a6 l0 l1 l2 l3 l4 l5 l6) {v : Value} {l : List Ev} (hO : OE W B v l) (hB : B ≤ W.heap.size) (hb : Bar W.heap.size (bx :: obl v) W W') : Below B W W' := hb.below hB fun x hx => (h.xs hO x hx).1
theorem Mm.lowy (h : Mm W B bx by_ kx ky mx my a0 a1 a2 a3 a4 a5 a6 l0 l1 l2 l3 l4 l5 l6) {v : Value} {l : List Ev} (hO : OE W B v l) (hB : B ≤ W.heap.size) (hb : Bar W.heap.size (by_ :: obl v) W W') : Below B W W' := hb.below hB fun x hx => (h.ys hO x hx).1
end
end

section
open Go.RowKit
set_option linter.unusedVariables false

def CapE (l : List Ev) : Prop := ∀ e ∈ l, e.n ≤ e.c
theorem CapE.snoc {l : List Ev} {e : Ev} (h : CapE l) (he : e.n ≤ e.c) : CapE (l ++ [e]) := fun x hx => by
  rcases List.mem_append.1 hx with hx | hx
  · exact h x hx
  · obtain rfl : x = e := by simpa using hx
    exact he
structure VtJ (w : World) (bx by_ : Nat) (kx ky : KV) (on others : List Int) (wd n3 k : Nat) (mx : Int) (a0 a1 a2 a3 a4 a5 a6 : Value) (l0 l1 l2 l3 l4 l5 l6 : List Ev) (W : World) : Prop where
  M : Mm W w.heap.size bx by_ kx ky mx mx a0 a1 a2 a3 a4 a5 a6 l0 l1 l2 l3 l4 l5 l6
  I : VtI on others wd mx (dE l0) (dE l1) (dE l4) (dE l6)
  e2 : dE l2 = srtG cmpE (dE l0)
  e3 : dE l3 = dE l1
  e5 : dE l5 = dE l1
  c0 : CapE l0
  c1 : CapE l1
  c4 : CapE l4
  c5 : CapE l5
  n4 : l4.length ≤ k
  n5 : l5.length ≤ k
  hmk : mx ≤ 1000000000001
  fin : n3 < k → dE l0 = []
  low : Below w.heap.size w W
def VtR (w : World) (bx by_ : Nat) (kx ky : KV) (on others : List Int) (wd n3 k : Nat) (vl vr vg : Value) (W : World) : Prop := ∃ (mx : Int) (a0 a1 a2 a3 : Value) (l0 l1 l2 l3 l4 l5 l6 : List Ev), VtJ w bx by_ kx ky on others wd n3 k mx a0 a1 a2 a3 vl vr vg l0 l1 l2 l3 l4 l5 l6 W
section
variable {w W W' : World} {bx by_ : Nat} {kx ky : KV} {on others : List Int} {wd n3 k : Nat} {mx : Int} {a0 a1 a2 a3 a4 a5 a6 : Value} {l0 l1 l2 l3 l4 l5 l6 : List Ev}
theorem VtJ.len0 (h : VtJ w bx by_ kx ky on others wd n3 k mx a0 a1 a2 a3 a4 a5 a6 l0 l1 l2 l3 l4 l5 l6 W) : l0.length ≤ k ∧ l6.length ≤ k ∧ l1.length ≤ k ∧ l2.length = l0.length ∧ l3.length = l1.length := by
  obtain ⟨em, hp, _, hg⟩ := h.I.some_
  have h1 := hp.length_eq
  rw [List.length_append, dE_len, dE_len] at h1
  have h2 := congrArg List.length hg
  rw [dE_len, srtG_len Tot.te, List.length_map] at h2
  have h3 := congrArg List.length h.e2
  rw [dE_len, srtG_len Tot.te, dE_len] at h3
  have h4 := congrArg List.length h.e3
  rw [dE_len, dE_len] at h4
  have h5 := congrArg List.length h.e5
  rw [dE_len, dE_len] at h5
  have := h.n4
  have := h.n5
  omega
theorem VtJ.below (h : VtJ w bx by_ kx ky on others wd n3 k mx a0 a1 a2 a3 a4 a5 a6 l0 l1 l2 l3 l4 l5 l6 W) (hb : Below W.heap.size W W') : VtJ w bx by_ kx ky on others wd n3 k mx a0 a1 a2 a3 a4 a5 a6 l0 l1 l2 l3 l4 l5 l6 W' :=
  ⟨h.M.below hb, h.I, h.e2, h.e3, h.e5, h.c0, h.c1, h.c4, h.c5, h.n4, h.n5, h.hmk, h.fin, bstep h.low hb⟩
theorem VtJ.next (h : VtJ w bx by_ kx ky on others wd n3 k mx a0 a1 a2 a3 a4 a5 a6 l0 l1 l2 l3 l4 l5 l6 W) (hk : k < n3) : VtJ w bx by_ kx ky on others wd n3 (k + 1) mx a0 a1 a2 a3 a4 a5 a6 l0 l1 l2 l3 l4 l5 l6 W :=
  ⟨h.M, h.I, h.e2, h.e3, h.e5, h.c0, h.c1, h.c4, h.c5, by have := h.n4; omega, by have := h.n5; omega, h.hmk, fun h2 => by omega, h.low⟩
theorem VtJ.left {a0' a2' a4' : Value} {l2' : List Ev} {e e' : Ev} {x : Te} {n : Nat} (h : VtJ w bx by_ kx ky on others wd n3 k mx a0 a1 a2 a3 a4 a5 a6 l0 l1 l2 l3 l4 l5 l6 W) (hk : k < n3) (hE : lftE on wd mx n x = 0)
    (hM : Mm W' w.heap.size bx by_ kx ky mx mx a0' a1 a2' a3 a4' a5 a6 (l0 ++ [e]) l1 l2' l3 (l4 ++ [e']) l5 l6) (he : (e.t, e.r) = x) (he' : (e'.t, e'.r) = x) (hc : e.n ≤ e.c) (hc' : e'.n ≤ e'.c) (h2 : dE l2' = stepG cmpE (dE l2) x) (hl : Below w.heap.size w W') :
    VtJ w bx by_ kx ky on others wd n3 (k + 1) mx a0' a1 a2' a3 a4' a5 a6 (l0 ++ [e]) l1 l2' l3 (l4 ++ [e']) l5 l6 W' := by
  refine ⟨hM, ?_, ?_, h.e3, h.e5, h.c0.snoc hc, h.c1, h.c4.snoc hc', h.c5, ?_, by have := h.n5; omega, h.hmk, fun h2 => by omega, hl⟩
  · rw [dE_snoc, dE_snoc, he, he']
    exact h.I.left hE
  · rw [h2, h.e2, dE_snoc, he, srtG_snoc]
  · rw [List.length_append]
    have := h.n4
    simp
    omega
theorem VtJ.right {a1' a3' a5' : Value} {e e' e'' : Ev} {y : Te} {n : Nat} (h : VtJ w bx by_ kx ky on others wd n3 k mx a0 a1 a2 a3 a4 a5 a6 l0 l1 l2 l3 l4 l5 l6 W) (hk : k < n3) (hE : rgtE wd mx n y = 0)
    (hM : Mm W' w.heap.size bx by_ kx ky mx mx a0 a1' a2 a3' a4 a5' a6 l0 (l1 ++ [e]) l2 (l3 ++ [e']) l4 (l5 ++ [e'']) l6) (he : (e.t, e.r) = y) (he' : (e'.t, e'.r) = y) (he'' : (e''.t, e''.r) = y) (hc : e.n ≤ e.c) (hc' : e''.n ≤ e''.c) (hl : Below w.heap.size w W') :
    VtJ w bx by_ kx ky on others wd n3 (k + 1) mx a0 a1' a2 a3' a4 a5' a6 l0 (l1 ++ [e]) l2 (l3 ++ [e']) l4 (l5 ++ [e'']) l6 W' := by
  refine ⟨hM, ?_, h.e2, ?_, ?_, h.c0, h.c1.snoc hc, h.c4, h.c5.snoc hc', by have := h.n4; omega, ?_, h.hmk, fun h2 => by omega, hl⟩
  · rw [dE_snoc, he]
    exact h.I.right hE
  · rw [dE_snoc, dE_snoc, he, he', h.e3]
  · rw [dE_snoc, dE_snoc, he, he'', h.e5]
  · rw [List.length_append]
    have := h.n5
    simp
    omega
theorem VtJ.mark {a0' a2' a6' : Value} {l0' l2' l6' : List Ev} {m : Int} (h : VtJ w bx by_ kx ky on others wd n3 k mx a0 a1 a2 a3 a4 a5 a6 l0 l1 l2 l3 l4 l5 l6 W) (hE : mrkE mx m = 0) (hf : n3 < k + 1 → m = 1000000000001)
    (hM : Mm W' w.heap.size bx by_ kx ky m m a0' a1 a2' a3 a4 a5 a6' l0' l1 l2' l3 l4 l5 l6') (h0 : dE l0' = restV m (dE l0)) (h2 : dE l2' = restV m (dE l2)) (h6 : dE l6' = (outV on others wd m (dE l0) (dE l1)).foldl (fun s x => stepG cmpE s x) (dE l6)) (hc : CapE l0') (hl : Below w.heap.size w W') :
    VtJ w bx by_ kx ky on others wd n3 (k + 1) m a0' a1 a2' a3 a4 a5 a6' l0' l1 l2' l3 l4 l5 l6' W' := by
  have hm : m ≤ 1000000000001 := by
    unfold mrkE at hE
    split at hE
    · rename_i hb
      exact (btw_iff.1 hb).2
    · cases hE
  refine ⟨hM, ?_, ?_, h.e3, h.e5, hc, h.c1, h.c4, h.c5, by have := h.n4; omega, by have := h.n5; omega, hm, fun hk => ?_, hl⟩
  · rw [h0, h6]
    exact h.I.mark hE
  · rw [h2, h.e2, h0]
    unfold restV
    rw [srtG_filter]
    exact fun x hx => okE_row (h.I.okL x hx).1
  · rw [h0, hf hk]
    exact h.I.empty
theorem VtJ.rest2 (h : VtJ w bx by_ kx ky on others wd n3 k mx a0 a1 a2 a3 a4 a5 a6 l0 l1 l2 l3 l4 l5 l6 W) (m : Int) : outV on others wd m (dE l2) (dE l3) = outV on others wd m (dE l0) (dE l1) := by
  unfold outV
  rw [h.e2, h.e3]
  have hok : ∀ x ∈ dE l0, okR x.2 = true := fun x hx => okE_row (h.I.okL x hx).1
  rw [srtG_filter _ hok]
  refine srtG_perm ((srtG_all Tot.te _).1.map _) fun x hx => ?_
  obtain ⟨z, hz, rfl⟩ := List.mem_map.1 hx
  refine h.I.ver ?_
  obtain ⟨em, hp, _, _⟩ := h.I.some_
  exact hp.mem_iff.2 (List.mem_append_right _ (List.mem_filter.1 hz).1)
/-- What a left event leaves of both versioners, whichever is told first. -/
def AfterL (w : World) (bx by_ : Nat) (kx ky : KV) (mx : Int) (a0 a1 a2 a3 a4 a5 a6 : Value) (l0 l1 l2 l3 l4 l5 l6 : List Ev) (E : Int) (x : Te) (xb : Nat) (cs : Array Value) (W' : World) : Prop := Blk W' xb 36 cs ∧ Below w.heap.size w W' ∧
  if E = 0 then (∃ a0' a2' e l2', Mm W' w.heap.size bx by_ kx ky mx mx a0' a1 a2' a3 a4 a5 a6 (l0 ++ [e]) l1 l2' l3 l4 l5 l6 ∧ (e.t, e.r) = x ∧ e.n ≤ e.c ∧ dE l2' = stepG cmpE (dE l2) x)
  else Mm W' w.heap.size bx by_ kx ky mx mx a0 a1 a2 a3 a4 a5 a6 l0 l1 l2 l3 l4 l5 l6
theorem bar_w {B : Nat} {Xs : List Nat} {b : Nat} {v : Value} {W W' : World} (hb : Bar W.heap.size [b] W W') : Bar W.heap.size (b :: obl v) W W' := ⟨hb.os, hb.tape, hb.output, hb.size, fun i hi hp => hb.block i hi (fun e => hp (by rw [List.mem_singleton.1 e]; simp))⟩
theorem low_x {v : Value} {l : List Ev} {W0 W1 W2 : World} {B : Nat} (hl : Below B W0 W1) (hb : Below B W1 W2) : Below B W0 W2 := hl.trans hb
theorem afterL_xy {W1 W2 : World} {E : Int} {x : Te} {e1 e2 : Ending} {xb : Nat} {cs : Array Value} (hM : Mm W w.heap.size bx by_ kx ky mx mx a0 a1 a2 a3 a4 a5 a6 l0 l1 l2 l3 l4 l5 l6) (hw : Below w.heap.size w W) (hk : Blk W xb 36 cs) (hf : Far xb [a0, a1, a2, a3, a4, a5, a6])
    (r1 : RetVt 130 bx kx w.heap.size a0 a1 mx l0 l1 true E x W e1 W1) (r2 : RetVr 132 by_ ky w.heap.size a2 a3 mx l2 E x W1 e2 W2) : AfterL w bx by_ kx ky mx a0 a1 a2 a3 a4 a5 a6 l0 l1 l2 l3 l4 l5 l6 E x xb cs W2 := by
  obtain ⟨_, r1⟩ := r1
  obtain ⟨_, r2⟩ := r2
  have hws := hw.size
  by_cases h0 : E = 0
  · rw [if_pos h0] at r1 r2
    obtain ⟨a0', e, v1, o1, t1, c1, f1, b1⟩ := r1
    obtain ⟨a2', l2', v2, o2, t2, f2, b2⟩ := r2
    simp only [if_true] at v1 o1 f1 b1
    have m1 := hM.x0 v1 o1 f1 b1
    have k1 := hM.boxx hk (hf a0 (by simp)) b1
    have m2 := m1.y2 v2 o2 (.inr f2) (bar_w (B := 0) (Xs := []) b2)
    have k2 := m1.boxy k1 (hf a2 (by simp)) (bar_w (B := 0) (Xs := []) b2)
    refine ⟨k2, (hw.trans (hM.lowx hM.o0 hws b1)).trans (m1.lowy m1.o2 (by have := b1.size; omega) (bar_w (B := 0) (Xs := []) b2)), ?_⟩
    rw [if_pos h0]
    exact ⟨a0', a2', e, l2', m2, t1, c1, t2⟩
  · rw [if_neg h0] at r1 r2
    have hb := r1.trans (r2.mono r1.size)
    refine ⟨hk.below hb hk.lt, bstep hw hb, ?_⟩
    rw [if_neg h0]
    exact hM.below hb
theorem afterL_yx {W1 W2 : World} {E : Int} {x : Te} {e1 e2 : Ending} {xb : Nat} {cs : Array Value} (hM : Mm W w.heap.size bx by_ kx ky mx mx a0 a1 a2 a3 a4 a5 a6 l0 l1 l2 l3 l4 l5 l6) (hw : Below w.heap.size w W) (hk : Blk W xb 36 cs) (hf : Far xb [a0, a1, a2, a3, a4, a5, a6])
    (r2 : RetVr 132 by_ ky w.heap.size a2 a3 mx l2 E x W e2 W1) (r1 : RetVt 130 bx kx w.heap.size a0 a1 mx l0 l1 true E x W1 e1 W2) : AfterL w bx by_ kx ky mx a0 a1 a2 a3 a4 a5 a6 l0 l1 l2 l3 l4 l5 l6 E x xb cs W2 := by
  obtain ⟨_, r1⟩ := r1
  obtain ⟨_, r2⟩ := r2
  have hws := hw.size
  by_cases h0 : E = 0
  · rw [if_pos h0] at r1 r2
    obtain ⟨a0', e, v1, o1, t1, c1, f1, b1⟩ := r1
    obtain ⟨a2', l2', v2, o2, t2, f2, b2⟩ := r2
    simp only [if_true] at v1 o1 f1 b1
    have m1 := hM.y2 v2 o2 (.inr f2) (bar_w (B := 0) (Xs := []) b2)
    have k1 := hM.boxy hk (hf a2 (by simp)) (bar_w (B := 0) (Xs := []) b2)
    have m2 := m1.x0 v1 o1 f1 b1
    have k2 := m1.boxx k1 (hf a0 (by simp)) b1
    refine ⟨k2, (hw.trans (hM.lowy hM.o2 hws (bar_w (B := 0) (Xs := []) b2))).trans (m1.lowx m1.o0 (by have := b2.size; omega) b1), ?_⟩
    rw [if_pos h0]
    exact ⟨a0', a2', e, l2', m2, t1, c1, t2⟩
  · rw [if_neg h0] at r1 r2
    have hb := r2.trans (r1.mono r2.size)
    refine ⟨hk.below hb hk.lt, bstep hw hb, ?_⟩
    rw [if_neg h0]
    exact hM.below hb
/-- What a right event leaves of both versioners, whichever is told first. -/
def AfterR (w : World) (bx by_ : Nat) (kx ky : KV) (mx : Int) (a0 a1 a2 a3 a4 a5 a6 : Value) (l0 l1 l2 l3 l4 l5 l6 : List Ev) (E : Int) (x : Te) (xb : Nat) (cs : Array Value) (W' : World) : Prop := Blk W' xb 36 cs ∧ Below w.heap.size w W' ∧
  if E = 0 then (∃ a1' a3' e e', Mm W' w.heap.size bx by_ kx ky mx mx a0 a1' a2 a3' a4 a5 a6 l0 (l1 ++ [e]) l2 (l3 ++ [e']) l4 l5 l6 ∧ (e.t, e.r) = x ∧ (e'.t, e'.r) = x ∧ e.n ≤ e.c)
  else Mm W' w.heap.size bx by_ kx ky mx mx a0 a1 a2 a3 a4 a5 a6 l0 l1 l2 l3 l4 l5 l6
theorem afterR_xy {W1 W2 : World} {E : Int} {x : Te} {e1 e2 : Ending} {xb : Nat} {cs : Array Value} (hM : Mm W w.heap.size bx by_ kx ky mx mx a0 a1 a2 a3 a4 a5 a6 l0 l1 l2 l3 l4 l5 l6) (hw : Below w.heap.size w W) (hk : Blk W xb 36 cs) (hf : Far xb [a0, a1, a2, a3, a4, a5, a6])
    (r1 : RetVt 130 bx kx w.heap.size a0 a1 mx l0 l1 false E x W e1 W1) (r2 : RetVt 132 by_ ky w.heap.size a2 a3 mx l2 l3 false E x W1 e2 W2) : AfterR w bx by_ kx ky mx a0 a1 a2 a3 a4 a5 a6 l0 l1 l2 l3 l4 l5 l6 E x xb cs W2 := by
  obtain ⟨_, r1⟩ := r1
  obtain ⟨_, r2⟩ := r2
  have hws := hw.size
  by_cases h0 : E = 0
  · rw [if_pos h0] at r1 r2
    obtain ⟨a1', e, v1, o1, t1, c1, f1, b1⟩ := r1
    obtain ⟨a3', e', v2, o2, t2, c2, f2, b2⟩ := r2
    simp only [if_false, Bool.false_eq_true] at v1 o1 f1 b1 v2 o2 f2 b2
    have m1 := hM.x1 v1 o1 f1 b1
    have k1 := hM.boxx hk (hf a1 (by simp)) b1
    have m2 := m1.y3 v2 o2 f2 b2
    have k2 := m1.boxy k1 (hf a3 (by simp)) b2
    refine ⟨k2, (hw.trans (hM.lowx hM.o1 hws b1)).trans (m1.lowy m1.o3 (by have := b1.size; omega) b2), ?_⟩
    rw [if_pos h0]
    exact ⟨a1', a3', e, e', m2, t1, t2, c1⟩
  · rw [if_neg h0] at r1 r2
    have hb := r1.trans (r2.mono r1.size)
    refine ⟨hk.below hb hk.lt, bstep hw hb, ?_⟩
    rw [if_neg h0]
    exact hM.below hb
theorem afterR_yx {W1 W2 : World} {E : Int} {x : Te} {e1 e2 : Ending} {xb : Nat} {cs : Array Value} (hM : Mm W w.heap.size bx by_ kx ky mx mx a0 a1 a2 a3 a4 a5 a6 l0 l1 l2 l3 l4 l5 l6) (hw : Below w.heap.size w W) (hk : Blk W xb 36 cs) (hf : Far xb [a0, a1, a2, a3, a4, a5, a6])
    (r2 : RetVt 132 by_ ky w.heap.size a2 a3 mx l2 l3 false E x W e2 W1) (r1 : RetVt 130 bx kx w.heap.size a0 a1 mx l0 l1 false E x W1 e1 W2) : AfterR w bx by_ kx ky mx a0 a1 a2 a3 a4 a5 a6 l0 l1 l2 l3 l4 l5 l6 E x xb cs W2 := by
  obtain ⟨_, r1⟩ := r1
  obtain ⟨_, r2⟩ := r2
  have hws := hw.size
  by_cases h0 : E = 0
  · rw [if_pos h0] at r1 r2
    obtain ⟨a1', e, v1, o1, t1, c1, f1, b1⟩ := r1
    obtain ⟨a3', e', v2, o2, t2, c2, f2, b2⟩ := r2
    simp only [if_false, Bool.false_eq_true] at v1 o1 f1 b1 v2 o2 f2 b2
    have m1 := hM.y3 v2 o2 f2 b2
    have k1 := hM.boxy hk (hf a3 (by simp)) b2
    have m2 := m1.x1 v1 o1 f1 b1
    have k2 := m1.boxx k1 (hf a1 (by simp)) b1
    refine ⟨k2, (hw.trans (hM.lowy hM.o3 hws b2)).trans (m1.lowx m1.o1 (by have := b2.size; omega) b1), ?_⟩
    rw [if_pos h0]
    exact ⟨a1', a3', e, e', m2, t1, t2, c1⟩
  · rw [if_neg h0] at r1 r2
    have hb := r2.trans (r1.mono r2.size)
    refine ⟨hk.below hb hk.lt, bstep hw hb, ?_⟩
    rw [if_neg h0]
    exact hM.below hb
/-- A list of the law's own after an append. -/
theorem own_push {X X4 : World} {B : Nat} {v v' : Value} {l : List Ev} {e' : Ev} {o : Obj} (hl : OE X B v l) (hB : B ≤ X.heap.size) (hrow : RowK X B e'.A e'.n e'.r)
    (hown : X4.ownsRow B 36 2 v' (l.length + 1) (l.flatMap encEv ++ encEv e')) (hg : (X.alloc o).grownBy X4 v.ownBlock) (hvo : v'.ownBlock = v.ownBlock ∨ v'.ownBlock = some (X.alloc o).heap.size) :
    OE X4 B v' (l ++ [e']) ∧ (v'.ownBlock = v.ownBlock ∨ ∀ g, v'.ownBlock = some g → X.heap.size ≤ g) ∧ Bar X.heap.size (obl v) X X4 := by
  refine ⟨⟨?_, fun i hi => ?_⟩, ?_, ?_⟩
  · rw [List.length_append, List.flatMap_append]
    have e1 : [e'].flatMap encEv = encEv e' := by simp
    rw [e1]
    exact hown
  · rcases List.mem_append.1 hi with hi | hi
    · exact ((hl.rows i hi).alloc o).grown (hl.own.alloc o) (by decide) (Nat.le_refl _) hg
    · obtain rfl : i = e' := by simpa using hi
      exact (hrow.alloc o).grown (hl.own.alloc o) (by decide) (Nat.le_refl _) hg
  · rcases hvo with h | h
    · exact .inl h
    · refine .inr fun g hg' => ?_
      rw [h] at hg'
      injection hg' with hg'
      rw [World.size_alloc] at hg'
      omega
  · exact ((Bar.refl _ _ X).alloc (Nat.le_refl _) o).grown hg (by simp) fun k e => .inr (by unfold obl; rw [e]; simp)
end
end

section
open Go.RowKit
set_option linter.unusedVariables false
section
variable {w W W1 : World} {bx by_ : Nat} {kx ky : KV} {on others : List Int} {wd n3 k : Nat} {mx : Int} {a0 a1 a2 a3 a4 a5 a6 : Value} {l0 l1 l2 l3 l4 l5 l6 : List Ev} {E : Int} {x : Te} {e1 : Ending} {xb : Nat} {cs : Array Value}
theorem keepL_x (hM : Mm W w.heap.size bx by_ kx ky mx mx a0 a1 a2 a3 a4 a5 a6 l0 l1 l2 l3 l4 l5 l6) (hw : Below w.heap.size w W) (hk : Blk W xb 36 cs) (hf : Far xb [a0, a1, a2, a3, a4, a5, a6]) (r1 : RetVt 130 bx kx w.heap.size a0 a1 mx l0 l1 true E x W e1 W1) :
    VO W1 132 by_ ky a2 a3 mx ∧ OE W1 w.heap.size a2 l2 ∧ OE W1 w.heap.size a3 l3 ∧ Below w.heap.size w W1 ∧ Blk W1 xb 36 cs := by
  obtain ⟨_, r1⟩ := r1
  by_cases h0 : E = 0
  · rw [if_pos h0] at r1
    obtain ⟨a0', e, v1, o1, t1, c1, f1, b1⟩ := r1
    simp only [if_true] at v1 o1 f1 b1
    have m1 := hM.x0 v1 o1 f1 b1
    exact ⟨m1.y, m1.o2, m1.o3, hw.trans (hM.lowx hM.o0 hw.size b1), hM.boxx hk (hf a0 (by simp)) b1⟩
  · rw [if_neg h0] at r1
    have m1 := hM.below r1
    exact ⟨m1.y, m1.o2, m1.o3, bstep hw r1, hk.below r1 hk.lt⟩
theorem keepL_y (hM : Mm W w.heap.size bx by_ kx ky mx mx a0 a1 a2 a3 a4 a5 a6 l0 l1 l2 l3 l4 l5 l6) (hw : Below w.heap.size w W) (hk : Blk W xb 36 cs) (hf : Far xb [a0, a1, a2, a3, a4, a5, a6]) (r1 : RetVr 132 by_ ky w.heap.size a2 a3 mx l2 E x W e1 W1) :
    VO W1 130 bx kx a0 a1 mx ∧ OE W1 w.heap.size a0 l0 ∧ OE W1 w.heap.size a1 l1 ∧ Below w.heap.size w W1 ∧ Blk W1 xb 36 cs := by
  obtain ⟨_, r1⟩ := r1
  by_cases h0 : E = 0
  · rw [if_pos h0] at r1
    obtain ⟨a2', l2', v2, o2, t2, f2, b2⟩ := r1
    have m1 := hM.y2 v2 o2 (.inr f2) (bar_w (B := 0) (Xs := []) b2)
    exact ⟨m1.x, m1.o0, m1.o1, hw.trans (hM.lowy hM.o2 hw.size (bar_w (B := 0) (Xs := []) b2)), hM.boxy hk (hf a2 (by simp)) (bar_w (B := 0) (Xs := []) b2)⟩
  · rw [if_neg h0] at r1
    have m1 := hM.below r1
    exact ⟨m1.x, m1.o0, m1.o1, bstep hw r1, hk.below r1 hk.lt⟩
theorem keepR_x (hM : Mm W w.heap.size bx by_ kx ky mx mx a0 a1 a2 a3 a4 a5 a6 l0 l1 l2 l3 l4 l5 l6) (hw : Below w.heap.size w W) (hk : Blk W xb 36 cs) (hf : Far xb [a0, a1, a2, a3, a4, a5, a6]) (r1 : RetVt 130 bx kx w.heap.size a0 a1 mx l0 l1 false E x W e1 W1) :
    VO W1 132 by_ ky a2 a3 mx ∧ OE W1 w.heap.size a2 l2 ∧ OE W1 w.heap.size a3 l3 ∧ Below w.heap.size w W1 ∧ Blk W1 xb 36 cs := by
  obtain ⟨_, r1⟩ := r1
  by_cases h0 : E = 0
  · rw [if_pos h0] at r1
    obtain ⟨a1', e, v1, o1, t1, c1, f1, b1⟩ := r1
    simp only [if_false, Bool.false_eq_true] at v1 o1 f1 b1
    have m1 := hM.x1 v1 o1 f1 b1
    exact ⟨m1.y, m1.o2, m1.o3, hw.trans (hM.lowx hM.o1 hw.size b1), hM.boxx hk (hf a1 (by simp)) b1⟩
  · rw [if_neg h0] at r1
    have m1 := hM.below r1
    exact ⟨m1.y, m1.o2, m1.o3, bstep hw r1, hk.below r1 hk.lt⟩
theorem keepR_y (hM : Mm W w.heap.size bx by_ kx ky mx mx a0 a1 a2 a3 a4 a5 a6 l0 l1 l2 l3 l4 l5 l6) (hw : Below w.heap.size w W) (hk : Blk W xb 36 cs) (hf : Far xb [a0, a1, a2, a3, a4, a5, a6]) (r1 : RetVt 132 by_ ky w.heap.size a2 a3 mx l2 l3 false E x W e1 W1) :
    VO W1 130 bx kx a0 a1 mx ∧ OE W1 w.heap.size a0 l0 ∧ OE W1 w.heap.size a1 l1 ∧ Below w.heap.size w W1 ∧ Blk W1 xb 36 cs := by
  obtain ⟨_, r1⟩ := r1
  by_cases h0 : E = 0
  · rw [if_pos h0] at r1
    obtain ⟨a3', e, v1, o1, t1, c1, f1, b1⟩ := r1
    simp only [if_false, Bool.false_eq_true] at v1 o1 f1 b1
    have m1 := hM.y3 v1 o1 f1 b1
    exact ⟨m1.x, m1.o0, m1.o1, hw.trans (hM.lowy hM.o3 hw.size b1), hM.boxy hk (hf a3 (by simp)) b1⟩
  · rw [if_neg h0] at r1
    have m1 := hM.below r1
    exact ⟨m1.x, m1.o0, m1.o1, bstep hw r1, hk.below r1 hk.lt⟩
theorem VtJ.same (h : VtJ w bx by_ kx ky on others wd n3 k mx a0 a1 a2 a3 a4 a5 a6 l0 l1 l2 l3 l4 l5 l6 W) (hM : Mm W1 w.heap.size bx by_ kx ky mx mx a0 a1 a2 a3 a4 a5 a6 l0 l1 l2 l3 l4 l5 l6) (hl : Below w.heap.size w W1) : VtJ w bx by_ kx ky on others wd n3 k mx a0 a1 a2 a3 a4 a5 a6 l0 l1 l2 l3 l4 l5 l6 W1 :=
  ⟨hM, h.I, h.e2, h.e3, h.e5, h.c0, h.c1, h.c4, h.c5, h.n4, h.n5, h.hmk, h.fin, hl⟩
/-- A mark that is refused: the last one never is. -/
theorem VtJ.nomark (h : VtJ w bx by_ kx ky on others wd n3 k mx a0 a1 a2 a3 a4 a5 a6 l0 l1 l2 l3 l4 l5 l6 W) (hE : mrkE mx 1000000000001 ≠ 0) : False := hE (by
  unfold mrkE
  rw [if_pos (btw_iff.2 ⟨h.hmk, by omega⟩)])
theorem VtJ.okl (h : VtJ w bx by_ kx ky on others wd n3 k mx a0 a1 a2 a3 a4 a5 a6 l0 l1 l2 l3 l4 l5 l6 W) : ∀ x ∈ l0, okE (x.t, x.r) = true ∧ hasC x.r on = true ∧ x.r.length + wd ≤ 8 := fun x hx => h.I.okL (x.t, x.r) (List.mem_map_of_mem hx)
theorem VtJ.okr (h : VtJ w bx by_ kx ky on others wd n3 k mx a0 a1 a2 a3 a4 a5 a6 l0 l1 l2 l3 l4 l5 l6 W) : ∀ x ∈ l1, okE (x.t, x.r) = true ∧ x.r.length = wd := fun x hx => h.I.okr (x.t, x.r) (List.mem_map_of_mem hx)
theorem VtJ.okl2 (h : VtJ w bx by_ kx ky on others wd n3 k mx a0 a1 a2 a3 a4 a5 a6 l0 l1 l2 l3 l4 l5 l6 W) : ∀ x ∈ l2, okE (x.t, x.r) = true ∧ hasC x.r on = true ∧ x.r.length + wd ≤ 8 := fun x hx => by
  have h1 : (x.t, x.r) ∈ dE l2 := List.mem_map_of_mem hx
  rw [h.e2, srtG_mem] at h1
  exact h.I.okL _ h1
theorem VtJ.okr3 (h : VtJ w bx by_ kx ky on others wd n3 k mx a0 a1 a2 a3 a4 a5 a6 l0 l1 l2 l3 l4 l5 l6 W) : ∀ x ∈ l3, okE (x.t, x.r) = true ∧ x.r.length = wd := fun x hx => by
  have h1 : (x.t, x.r) ∈ dE l3 := List.mem_map_of_mem hx
  rw [h.e3] at h1
  exact h.I.okr _ h1
end
theorem fold_len (l s : List Te) : (l.foldl (fun s x => stepG cmpE s x) s).length = s.length + l.length := by
  induction l generalizing s with
  | nil => simp
  | cons x l ih =>
    rw [List.foldl_cons, ih]
    have h1 : (stepG cmpE s x).length = s.length + 1 := by
      unfold stepG
      rw [List.length_append, List.length_cons, List.length_take, List.length_drop]
      have := atG_le cmpE x s s.length
      omega
    rw [h1, List.length_cons]
    omega
/-- The start of it all. -/
theorem mm_start {w W : World} {bx by_ : Nat} {kx ky : KV} (hx : VO W 130 bx kx (.slice none 0 0) (.slice none 0 0) (-1000000000000)) (hy : VO W 132 by_ ky (.slice none 0 0) (.slice none 0 0) (-1000000000000)) (hbx : w.heap.size ≤ bx) (hby : w.heap.size ≤ by_) (hl : Below w.heap.size w W) (on others : List Int) (wd n3 : Nat) :
    VtR w bx by_ kx ky on others wd n3 0 (.slice none 0 0) (.slice none 0 0) (.slice none 0 0) W := by
  refine ⟨-1000000000000, .slice none 0 0, .slice none 0 0, .slice none 0 0, .slice none 0 0, [], [], [], [], [], [], [], ⟨⟨rfl, fun i v l h1 h2 => ?_, fun i j u v _ h1 _ g hg => ?_⟩, hx, hy, hbx, hby⟩, VtI.nil _ _ _ _, rfl, rfl, rfl, (by intro e he; cases he), (by intro e he; cases he), (by intro e he; cases he), (by intro e he; cases he), Nat.le_refl _, Nat.le_refl _, by omega, fun _ => rfl, hl⟩
  · have hv := List.mem_of_getElem? h1
    have hl' := List.mem_of_getElem? h2
    simp at hv hl'
    subst hv hl'
    exact OE.nil _ _
  · have hv := List.mem_of_getElem? h1
    simp at hv
    subst hv
    cases hg
/-- The events that lie outside of what a call writes. -/
theorem evs_bar {W W' : World} {A : Option Addr} {n B : Nat} {l : List Ev} {b : Nat} (h : Reads W W.heap.size 2 A n (l.flatMap encEv)) (hr : RowsE W B l) (hb : Bar W.heap.size [b] W W') (hB : B ≤ b) (hnv : ∀ c fz, W.heap[b]? ≠ some (.cells c 102 fz)) (hf : ∀ g off mm, A = some ⟨g, off, mm⟩ → b < g) : Reads W' W'.heap.size 2 A n (l.flatMap encEv) ∧ RowsE W' B l :=
  ⟨h.bar2 hb (fun _ b' o e hm => by have := hf b' o none e; have := List.mem_singleton.1 hm; omega), fun i hi => (hr i hi).keep (p := fun k => k ∈ [b]) (fun k hk hp => hb.block k hk hp) hb.size fun k hk => by
    obtain rfl : k = b := by simpa using hk
    exact ⟨hB, hnv⟩⟩
end

end Go.Proofs.YtoapjidpfghnlaaGreatDoor
