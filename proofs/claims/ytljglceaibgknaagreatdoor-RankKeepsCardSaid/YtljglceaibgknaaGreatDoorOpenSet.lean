/-
  The argument of type rank.Setup opened: two lists of numbers, a Boolean, a number.
-/
import Derived.Test.YtljglceaibgknaaGreatDoorLaidT
import Derived.Test.YtljglceaibgknaaGreatDoorRkP
import Derived.Lib.SmallJoins
namespace Go.Proofs.YtljglceaibgknaaGreatDoor
open Go.RowKit Go.Deep Go.WideShapes Go.ChangeShapes
section
variable {H : Type} {enc : TypeId × Value → H} {w : World} {base : Nat} {held : Bool}
theorem open_intsC {fuel : Nat} {v : Value} {x : DataW H × List MemPlace} (h : DataW.trod enc Tryz.prog w base (fun _ => true) held fuel 22 [v] = some x) : ∃ A n c, ∃ xs : List Int, v = .slice A n c ∧ Reads w w.heap.size 1 A n (xs.map (Value.int .i64)) ∧ n ≤ 9223372036854775807 ∧ n ≤ c := by
  obtain ⟨A, n, c, xs, h1, h2, h3, h4, _⟩ := open_recsP (α := Int) (encα := fun x => [Value.int .i64 x]) (k := 1) (fun _ => True) (fun _ => rfl) (by omega) Tryz.underlying22 (by kernel_rfl) (fun n cs' y hy => by
    obtain ⟨z, hz, _⟩ := DataW.trod_int Tryz.underlying3 hy
    exact ⟨z, hz, trivial⟩) h
  exact ⟨A, n, c, xs, h1, by rwa [flat_one] at h2, h3, h4⟩
/-- A setup that reads. -/
structure SetR (w : World) (k : Sk) (s : Stp) : Prop where
  p : Reads w w.heap.size 1 k.A k.n (s.per.map (Value.int .i64))
  b : Reads w w.heap.size 1 k.A' k.n' (s.by_.map (Value.int .i64))
  c : k.n ≤ k.c
  c' : k.n' ≤ k.c'
set_option maxRecDepth 100000 in
theorem open_setup {r : Reach} {b0 : Nat} {v : Value} {d : DataW H} {ps : List MemPlace} (hval : Value.okWide Tryz.prog w r b0 24 v) (hd : DataW.Trod enc Tryz.prog w base (fun _ => true) held 24 v d ps) :
    ∃ (k : Sk) (s : Stp), v = .agg #[.slice k.A k.n k.c, .slice k.A' k.n' k.c', .bool s.dn, .int .i64 s.n] ∧ SetR w k s := by
  obtain ⟨x0, x1, x2, x3, y0, y1, y2, y3, m, rfl, _, _, t0, t1, t2, t3⟩ := Go.Joins.open_agg4 Tryz.underlying24 (by kernel_rfl) (by kernel_rfl) hval hd
  obtain ⟨A, n, c, xs, rfl, h1, _, h2⟩ := open_intsC t0
  obtain ⟨A', n', c', ys, rfl, h3, _, h4⟩ := open_intsC t1
  obtain ⟨dn, e1, _⟩ := DataW.trod_bool Tryz.underlying4 t2
  obtain ⟨z, e2, _⟩ := DataW.trod_int Tryz.underlying3 t3
  simp at e1 e2
  subst e1 e2
  exact ⟨⟨A, n, c, A', n', c'⟩, ⟨xs, ys, dn, z⟩, rfl, h1, h3, h2, h4⟩
end
end Go.Proofs.YtljglceaibgknaaGreatDoor
