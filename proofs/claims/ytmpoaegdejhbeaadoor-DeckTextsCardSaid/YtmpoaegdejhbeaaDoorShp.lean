/-
  From a row's list of laid variables to the table of powers of ten.
  From a row's list of laid variables to the library's two errors, and from the world's shape to internal/bytealg.MaxLen.
  A card's frame that hands on the world's shape too (what a library function reads of a package-level variable of the library's own). No program in sight; no condition.
-/
import Derived.Test.YtmpoaegdejhbeaaDoorTcI
import Derived.Stop.LaidErr
import Derived.Lib.LaidTab
import Derived.Test.YtmpoaegdejhbeaaDoorLib2
import Derived.LaidLaws
import Derived.Shelf.Vars
import Derived.SizedLaws
import Derived.HandedShaped
namespace Go.Proofs.YtmpoaegdejhbeaaDoor

section
open Go.RowKit
theorem laid_drop {P : Program} {w : World} : ∀ (i : Nat) {l : List (String × DataW Unit)}, laidMet P l w → laidMet P (l.drop i) w
  | 0, _, h => h
  | _ + 1, [], h => h
  | i + 1, _ :: _, h => laid_drop i h.tail
theorem tab_of_laid {w : World} {l r : List (String × DataW Unit)} (i : Nat) (he : l.drop i = ("internal/strconv.uint64pow10", Lib.tabData .u64 Lib.pow10Tab) :: r) (h : laidMet Tryd.prog l w) : Tab w := by
  have h1 := laid_drop i h
  rw [he] at h1
  exact Lib.tabIs_of_head (g := 1) (t := 106) (e := 94) (n := 20) (by kernel_rfl) (by kernel_rfl) Tryd.underlying106 Tryd.underlying94 (by kernel_rfl) (by kernel_rfl) h1
end

section
open Go.RowKit Go.ChangeShapes
set_option linter.unusedVariables false

theorem laid_iface {P : Program} {n nm : String} {d : DataW Unit} {r : List (String × DataW Unit)} {W : World} {g : Nat} {ti : TypeId} {ms : Array (String × TypeId)} (h : laidMet P ((n, .iface nm d) :: r) W)
    (hg : P.globalNamed n = some g) (ht : (P.globals[g]?).map (·.type) = some ti) (hi : P.underlying ti = some (.interface ms)) : ∃ u v, W.var? P n = some #[.iface u v] := by
  obtain ⟨ps, ⟨g0, t0, cs0, f0, p0, q0, hg0, ht0, hv0, hd0, _, e0⟩, _, hrows⟩ := h
  obtain rfl := Option.some.inj (hg.symm.trans hg0)
  obtain rfl := Option.some.inj (ht.symm.trans ht0)
  obtain ⟨l0⟩ := cs0
  obtain ⟨f1, u, v, h1, _⟩ := iface_of_trod hi hd0
  obtain rfl : l0 = [.iface u v] := h1
  exact ⟨u, v, hv0⟩
theorem errs_of_laid {w : World} {l r1 r2 : List (String × DataW Unit)} (i j : Nat) {d1 d2 : DataW Unit} {n1 n2 : String} (h1 : l.drop i = ("strconv.ErrSyntax", .iface n1 d1) :: r1) (h2 : l.drop j = ("strconv.ErrRange", .iface n2 d2) :: r2) (h : laidMet Tryd.prog l w) : Errs w := by
  have a := laid_drop i h
  have b := laid_drop j h
  rw [h1] at a
  rw [h2] at b
  exact ⟨laid_iface (g := 2) (ti := 89) a (by kernel_rfl) (by kernel_rfl) Tryd.underlying89, laid_iface (g := 3) (ti := 89) b (by kernel_rfl) (by kernel_rfl) Tryd.underlying89⟩
theorem maxL_of_shape {w : World} (h : w.ShapedOpen Tryd.prog) : MaxL w := laysM146.s1_3 w h
end

section
open Go
set_option linter.unusedVariables false

theorem handed_and_shaped {H : Type} {enc : TypeId × Value → H} {a : Assume} {C : Checked} {os : Os} {f : FuncId} {fn : Func} {s : ChangeSpec} {conds : List PathCond} {apart fresh handsOn again : Bool} {X : World → Array Value → Prop}
    (hX : ∀ (w w' : World) (args : Array Value), w.heap = w'.heap → X w args → X w' args)
    (own : ownKnob C.prog.godebug = none) (started : os.Started) (noInit : C.prog.inits.idxOf? f = none) (hfn : C.prog.funcs[f]? = some fn)
    (witness : ∃ (w : World) (tape : Tape) (i : Input), w.os = os ∧ (w.forCall tape i).Shaped C.prog ∧ i.vars = [] ∧ Input.okWide C.prog (w.forCall tape i) .any w.heap.size f i ∧
      ((s.pre enc C.prog fn conds apart (w.forCall tape i).memory i.args ∧ X (w.forCall tape i).memory i.args) ∧ sizedMet enc C.prog fn (OpenSpec.ofChange s) apart (w.forCall tape i).memory i.args) ∧ a.holds C.prog (lone (Frame.enter C.prog f i.args .normal) [] (w.forCall tape i)))
    (contract : ∀ (W : World) (base : Nat) (args : Array Value) (ds gs : List (DataW H)) (before : List MemPlace),
      (∀ (j : Nat) t v, fn.params[j]? = some t → args[j]? = some v → Value.okWide C.prog W .any base t v) →
      DataW.Whole enc C.prog fn.params.toList s.vars apart W args.toList ds gs before →
      W.ShapedOpen C.prog → X W args →
      Calls C.prog f args W fun e W' => ∃ v, e = .returned v ∧ s.post enc C.prog fn apart fresh handsOn again W args v W') :
    ReturnsInHanded a C os f .any (fun w args => (s.pre enc C.prog fn conds apart w args ∧ X w args) ∧ sizedMet enc C.prog fn (OpenSpec.ofChange s) apart w args) (s.post enc C.prog fn apart fresh handsOn again) := by
  refine returnsInHanded_of_calls own started noInit witness ?_
  intro w tape i _ hsh _ hok hpre _
  have hok2 := hok
  obtain ⟨_, _, _, fn', hfn', _, _, _, _, hval⟩ := hok2
  obtain rfl : fn' = fn := Option.some.inj (hfn'.symm.trans hfn)
  obtain ⟨⟨⟨ds, gs, before, hw, _⟩, hx⟩, _⟩ := hpre
  refine (contract _ w.heap.size i.args ds gs before hval (hw.of_heap (w' := w.forCall tape i) (by rfl)) hsh (hX _ _ _ (by rfl) hx)).mono fun e W' hres => ?_
  obtain ⟨v, he, hp⟩ := hres
  rw [he]
  exact ChangeSpec.post_blind hp
end

end Go.Proofs.YtmpoaegdejhbeaaDoor
