/-
  The argument of type []Place opened, with its numbers within an int's bounds; the law DeckPlaces for every input.
-/
import Derived.Test.YtblepaocekojbaaPlLaw
import Derived.Test.YtblepaocekojbaaDkMc
import Derived.Test.YtblepaocekojbaaOpenRecP
namespace Go.Proofs.Ytblepaocekojbaa
open Go.RowKit Go.Shelf Go.Deep
attribute [local go_sem] Oper.semAt_some
set_option linter.unusedVariables false

set_option maxRecDepth 100000 in
set_option maxHeartbeats 4000000 in
theorem deckPlaces_far (g : Gr) (A : Option Addr) (m c : Nat) (A2 : Option Addr) (n c2 : Nat) (A3 : Option Addr) (q c3 : Nat) (w : World) (hh : heavyB g = true ∨ 250 < m ∨ 40 < n ∨ 300 < q) :
    Calls Try.prog 7 #[.agg #[g.v1, g.v2], .slice A m c, .slice A2 n c2, .slice A3 q c3] w (RetV w (.bool true)) := by
  have hB0 : Below w.heap.size w (w.alloc (.cells #[g.v1, g.v2] 25)) := (Below.refl _ _).alloc (Nat.le_refl _) _
  have b0 : Blk (w.alloc (.cells #[g.v1, g.v2] 25)) w.heap.size 25 #[g.v1, g.v2] := Blk.new w _ _
  have hs0 : (w.alloc (.cells #[g.v1, g.v2] 25)).heap.size = w.heap.size + 1 := World.size_alloc _ _
  obtain ⟨hv, hhv⟩ : ∃ hv, heavyB g = hv := ⟨_, rfl⟩
  have HH := hide hhv
  rw [hhv] at hh
  clear hhv
  go_enter Try.func7, Try.ntmps7
  go_wp2_with fail
  obtain ⟨W0, hW0⟩ : ∃ W0, w.alloc (.cells #[g.v1, g.v2] 25) = W0 := ⟨_, rfl⟩
  rw [hW0] at hB0 b0 hs0 ⊢
  clear hW0
  refine (awake_any W0).mono ?_
  rintro e W1 ⟨rfl, hB1⟩
  have b1 := b0.below hB1 (by omega)
  have hB01 := bstep hB0 hB1
  clear b0 hB0 hs0 hB1
  have d0 := b1.cell 0
  have d1 := b1.cell 1
  simp at d0 d1
  go_wp2_with fail
  refine (heavy_any g W1).mono ?_
  rintro e W2 ⟨rfl, hB2⟩
  rw [HH.out]
  have HE := hide (bstep hB01 hB2)
  clear hB01 hB2 b1 d0 d1
  cases hv
  · by_cases h1 : 250 < m
    · have z1 : decide ((250 : Int) < (m : Int)) = true := by simp; omega
      clear hh
      go_wp2
      go_ret
      exact ⟨rfl, HE.out⟩
    · have z1 : decide ((250 : Int) < (m : Int)) = false := by simp; omega
      by_cases h2 : 40 < n
      · have z2 : decide ((40 : Int) < (n : Int)) = true := by simp; omega
        clear hh
        go_wp2
        go_ret
        exact ⟨rfl, HE.out⟩
      · have z2 : decide ((40 : Int) < (n : Int)) = false := by simp; omega
        have h3 : 300 < q := by
          rcases hh with h | h | h | h
          · cases h
          · omega
          · omega
          · exact h
        have z3 : decide ((300 : Int) < (q : Int)) = true := by simp; omega
        clear hh
        go_wp2
        go_ret
        exact ⟨rfl, HE.out⟩
  · clear hh
    go_wp2
    go_ret
    exact ⟨rfl, HE.out⟩
theorem deckPlaces_all (g : Gr) (A : Option Addr) (m c : Nat) (gs : List Int) (A2 : Option Addr) (n c2 : Nat) (ss : List Int) (A3 : Option Addr) (q c3 : Nat) (l : List Pl) (w : World) (hg : g.Ok w w.heap.size) (hx : Reads w w.heap.size 1 A m (gs.map (Value.int .i64))) (hs : Reads w w.heap.size 1 A2 n (ss.map (Value.int .i64))) (hl : Reads w w.heap.size 2 A3 q (l.flatMap encPl)) (hpw : ∀ z ∈ l, PlW z) :
    Calls Try.prog 7 #[.agg #[g.v1, g.v2], .slice A m c, .slice A2 n c2, .slice A3 q c3] w (RetV w (.bool true)) := by
  by_cases h : heavyB g = true ∨ 250 < m ∨ 40 < n ∨ 300 < q
  · exact deckPlaces_far g A m c A2 n c2 A3 q c3 w h
  · have hlen := hl.len encPl_len (by omega)
    refine deckPlaces_near g A m c gs A2 n c2 ss A3 q c3 l w hg hx hs hl (fun u hu => ?_) (by
      cases hh : heavyB g
      · rfl
      · exact absurd (.inl hh) h) (by omega) (by omega) (by omega)
    obtain ⟨z, hz⟩ : ∃ z, l[u]? = some z := ⟨_, List.getElem?_eq_getElem (by omega)⟩
    rw [← plA_at hz]
    exact hpw z (List.mem_of_getElem? hz)

section
variable {H : Type} {enc : TypeId × Value → H} {w : World} {base : Nat} {held : Bool}
set_option maxRecDepth 100000 in
theorem dec_placeW (n : Nat) (cs : List Value) (y : DataW H × List MemPlace) (h : DataW.trod enc Try.prog w base (fun _ => true) held n 67 cs = some y) : ∃ z : Pl, cs = encPl z ∧ PlW z := by
  obtain ⟨y0, y1, k, _, hl, h0, h1⟩ := Go.ChangeShapes.trod_struct2 Try.underlying67 h
  rw [show Try.prog.cellsOf 67 = 2 by kernel_rfl] at hl
  match cs, hl with
  | [v0, v1], _ =>
    change DataW.trod enc Try.prog w base (fun _ => true) held k 3 (([v0, v1].drop 0).take (Try.prog.cellsOf 3)) = some y0 at h0
    change DataW.trod enc Try.prog w base (fun _ => true) held k 3 (([v0, v1].drop 1).take (Try.prog.cellsOf 3)) = some y1 at h1
    rw [show Try.prog.cellsOf 3 = 1 by kernel_rfl] at h0 h1
    have g0 : DataW.trod enc Try.prog w base (fun _ => true) held k 3 [v0] = some y0 := h0
    have g1 : DataW.trod enc Try.prog w base (fun _ => true) held k 3 [v1] = some y1 := h1
    obtain ⟨a, ea, _, wa⟩ := DataW.trod_int Try.underlying3 g0
    obtain ⟨b, eb, _, wb⟩ := DataW.trod_int Try.underlying3 g1
    simp at ea eb
    subst ea eb
    exact ⟨⟨a, b⟩, rfl, wa, wb⟩
set_option maxRecDepth 100000 in
theorem open_placesW {r : Reach} {b0 : Nat} {v : Value} {d : DataW H} {ps : List MemPlace} (hval : Value.okWide Try.prog w r b0 43 v) (hd : DataW.Trod enc Try.prog w base (fun _ => true) held 43 v d ps) :
    ∃ A n c, ∃ l : List Pl, v = .slice A n c ∧ Reads w w.heap.size 2 A n (l.flatMap encPl) ∧ n ≤ 9223372036854775807 ∧ ∀ z ∈ l, PlW z := by
  obtain ⟨a0, l0, c0, rfl⟩ := Go.WideShapes.okWide_slice Try.underlying43 hval
  obtain ⟨fuel, hf⟩ := hd
  obtain ⟨A2, n2, c2, es, h1, r2, l2, _, z2⟩ := open_recsP (α := Pl) (encα := encPl) (k := 2) PlW encPl_len (by omega) Try.underlying43 (by kernel_rfl) (fun n cs' y hy => dec_placeW n cs' y hy) (by simpa only [Value.cells] using hf)
  exact ⟨A2, n2, c2, es, h1, r2, l2, z2⟩
end
end Go.Proofs.Ytblepaocekojbaa
