/-
  The walk of the reference's Parse. No condition but the table of powers of ten.
-/
import Derived.Test.YtehifbogadohgaaDoorTcH
import Derived.StillTailTactics
namespace Go.Proofs.YtehifbogadohgaaDoor
open Go.RowKit
set_option linter.unusedVariables false
set_option linter.unusedSimpArgs false

theorem seq_eq (x y : ByteArray) : (x.toList == y.toList) = decide (x.data.toList = y.data.toList) := by
  rw [ByteArray.toList_eq, ByteArray.toList_eq, Bool.eq_iff_iff]; simp
theorem joinL_le (m : Nat) : ∀ ws : List (List UInt8), (∀ v ∈ ws, v.length ≤ m) → (joinL ws).length ≤ (m + 1) * ws.length
  | [], _ => Nat.zero_le _
  | [w], h => by have := h w (by simp); show w.length ≤ (m + 1) * 1; omega
  | w :: v :: ws, h => by
    have ih := joinL_le m (v :: ws) fun x hx => h x (List.mem_cons_of_mem _ hx)
    have := h w (by simp)
    show (w ++ 32 :: joinL (v :: ws)).length ≤ (m + 1) * ((v :: ws).length + 1)
    rw [List.length_append, List.length_cons, Nat.mul_succ]
    omega
theorem fmt_len (s : SpC) : (fmtC s).length ≤ 100 := by
  unfold fmtC
  split
  · rename_i hok
    unfold SpC.ok vspec at hok
    have h := of_decide_eq_true hok
    obtain ⟨k, z, p, g, h'⟩ := s
    simp only at h
    have key : ∀ n : Int, -1000000000000 ≤ n → n ≤ 1000000000000 → (Lib.itoa n).length ≤ 21 := fun n h0 h1 => Lib.itoa_length_le n (by omega) (by omega)
    have d1 : tumW.length ≤ 21 := by decide
    have d2 : sliW.length ≤ 21 := by decide
    have d3 : sesW.length ≤ 21 := by decide
    have d4 : gloW.length ≤ 21 := by decide
    unfold wdsC
    simp only
    split
    · have a1 := key z (by omega) (by omega)
      have a2 := key h' (by omega) (by omega)
      have := joinL_le 21 [tumW, Lib.itoa z, Lib.itoa h'] (by
        intro v hv
        simp only [List.mem_cons, List.not_mem_nil, or_false] at hv
        rcases hv with rfl | rfl | rfl <;> assumption)
      simp only [List.length_cons, List.length_nil] at this
      omega
    · split
      · have a1 := key z (by omega) (by omega)
        have a2 := key h' (by omega) (by omega)
        have a3 := key p (by omega) (by omega)
        have := joinL_le 21 [sliW, Lib.itoa z, Lib.itoa p, Lib.itoa h'] (by
          intro v hv
          simp only [List.mem_cons, List.not_mem_nil, or_false] at hv
          rcases hv with rfl | rfl | rfl | rfl <;> assumption)
        simp only [List.length_cons, List.length_nil] at this
        omega
      · split
        · have a1 := key g (by omega) (by omega)
          have := joinL_le 21 [sesW, Lib.itoa g] (by
            intro v hv
            simp only [List.mem_cons, List.not_mem_nil, or_false] at hv
            rcases hv with rfl | rfl <;> assumption)
          simp only [List.length_cons, List.length_nil] at this
          omega
        · decide
  · exact Nat.zero_le _
def z5 : SpC := ⟨0, 0, 0, 0, 0⟩
/-- What the reference answers to a text, and the program. -/
def parR (l : List UInt8) : SpC × Int := if 65536 < l.length then (z5, 3) else if 100 < l.length then (z5, 2) else parseG candR l
def parP (l : List UInt8) : SpC × Int := if 65536 < l.length then (z5, 3) else parseG candP l
theorem par_same (l : List UInt8) : parP l = parR l := by
  unfold parP parR
  split
  · rfl
  · split
    · rename_i h1 h2
      unfold parseG
      rw [if_neg]
      · rfl
      · intro h
        have := fmt_len (candP l)
        rw [h.2] at this
        omega
    · exact parse_same l
def encS (s : SpC) : Array Value := #[.int .i64 s.k, .int .i64 s.z, .int .i64 s.p, .int .i64 s.g, .int .i64 s.h]
/-- A spec and an error, handed back. -/
def RetPs (w : World) (r : SpC × Int) (e : Ending) (w' : World) : Prop := e = .returned (.tuple #[.agg (encS r.1), .int .i64 r.2]) ∧ Below w.heap.size w w'
theorem results_spc {fn : Func} {p u : Tmp} (h : fn.results = #[.cell p 23, .tmp u]) (tmps : Array Value) (w : World) (g : Nat) (s : SpC) (hp : tmps.getD p undef = .pointer (some ⟨g, 0, none⟩)) (hg : Blk w g 23 (encS s)) :
    (results fn tmps).run Tryd.prog w = .ok (.tuple #[.agg (encS s), tmps.getD u undef]) w := by
  rw [results_cell_tmp h, hp]
  have := run_loadVar_row (P := Tryd.prog) w g 23 23 (encS s) (0, 0) _ hg Tryd.underlying23 rfl (by kernel_rfl)
  simp [asAddr, this]
def st5 (w : World) (g : Nat) (a b c d e : Value) : World := ((((w.setCell ⟨g, 0, none⟩ a).setCell ⟨g, 1, none⟩ b).setCell ⟨g, 2, none⟩ c).setCell ⟨g, 3, none⟩ d).setCell ⟨g, 4, none⟩ e
/-- What a store of a whole spec asks, cell by cell. -/
theorem spc_facts {w : World} {g : Nat} {a b c d e : Value} (h : Blk w g 23 #[a, b, c, d, e]) (a' b' c' d' : Value) :
    (w.cell? ⟨g, 0, none⟩ = some a ∧ w.frozen? ⟨g, 0, none⟩ = false) ∧
    ((w.setCell ⟨g, 0, none⟩ a').cell? ⟨g, 1, none⟩ = some b ∧ (w.setCell ⟨g, 0, none⟩ a').frozen? ⟨g, 1, none⟩ = false) ∧
    (((w.setCell ⟨g, 0, none⟩ a').setCell ⟨g, 1, none⟩ b').cell? ⟨g, 2, none⟩ = some c ∧ ((w.setCell ⟨g, 0, none⟩ a').setCell ⟨g, 1, none⟩ b').frozen? ⟨g, 2, none⟩ = false) ∧
    ((((w.setCell ⟨g, 0, none⟩ a').setCell ⟨g, 1, none⟩ b').setCell ⟨g, 2, none⟩ c').cell? ⟨g, 3, none⟩ = some d ∧ (((w.setCell ⟨g, 0, none⟩ a').setCell ⟨g, 1, none⟩ b').setCell ⟨g, 2, none⟩ c').frozen? ⟨g, 3, none⟩ = false) ∧
    (((((w.setCell ⟨g, 0, none⟩ a').setCell ⟨g, 1, none⟩ b').setCell ⟨g, 2, none⟩ c').setCell ⟨g, 3, none⟩ d').cell? ⟨g, 4, none⟩ = some e ∧ ((((w.setCell ⟨g, 0, none⟩ a').setCell ⟨g, 1, none⟩ b').setCell ⟨g, 2, none⟩ c').setCell ⟨g, 3, none⟩ d').frozen? ⟨g, 4, none⟩ = false) := by
  have h1 := h.set_ 0 a'
  have h2 := h1.set_ 1 b'
  have h3 := h2.set_ 2 c'
  have h4 := h3.set_ 3 d'
  exact ⟨⟨by simpa using h.cell 0, h.frozen 0⟩, ⟨by simpa using h1.cell 1, h1.frozen 1⟩, ⟨by simpa using h2.cell 2, h2.frozen 2⟩, ⟨by simpa using h3.cell 3, h3.frozen 3⟩, ⟨by simpa using h4.cell 4, h4.frozen 4⟩⟩
theorem set5 {w : World} {g : Nat} {a b c d e : Value} (h : Blk w g 23 #[a, b, c, d, e]) (a' b' c' d' e' : Value) : Blk (st5 w g a' b' c' d' e') g 23 #[a', b', c', d', e'] := ((((h.set_ 0 a').set_ 1 b').set_ 2 c').set_ 3 d').set_ 4 e'
theorem st5_below {B : Nat} {w0 w : World} (h : Below B w0 w) {g : Nat} (hg : B ≤ g) (a b c d e : Value) : Below B w0 (st5 w g a b c d e) :=
  ((((h.setCell (p := ⟨g, 0, none⟩) hg a).setCell (p := ⟨g, 1, none⟩) hg b).setCell (p := ⟨g, 2, none⟩) hg c).setCell (p := ⟨g, 3, none⟩) hg d).setCell (p := ⟨g, 4, none⟩) hg e
theorem st5_far {w : World} {q : Nat} {t : TypeId} {cs : Array Value} (h : Blk w q t cs) {g : Nat} (hg : q ≠ g) (a b c d e : Value) : Blk (st5 w g a b c d e) q t cs :=
  ((((h.far (p := ⟨g, 0, none⟩) hg a).far (p := ⟨g, 1, none⟩) hg b).far (p := ⟨g, 2, none⟩) hg c).far (p := ⟨g, 3, none⟩) hg d).far (p := ⟨g, 4, none⟩) hg e
theorem number_w (b : List UInt8) (w : World) (hs : b.length ≤ 1000) : Calls Tryd.prog 19 #[.string ⟨b.toArray⟩] w (fun e w' => e = .returned (.int .i64 (numV b)) ∧ w' = w) :=
  (number_any ⟨b.toArray⟩ w (by show b.toArray.size ≤ _; rw [List.size_toArray]; omega)).mono fun _ _ h => ⟨h.1, h.2.symm⟩
end Go.Proofs.YtehifbogadohgaaDoor
