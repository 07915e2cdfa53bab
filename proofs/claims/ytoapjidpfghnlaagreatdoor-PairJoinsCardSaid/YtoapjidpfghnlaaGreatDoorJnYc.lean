/-
  The walk of the reference's side. No condition. (Printed by gen_jnY.)
-/
import Derived.Test.YtoapjidpfghnlaaGreatDoorJnX
import Derived.Test.YtoapjidpfghnlaaGreatDoorPrR5
import Derived.Test.YtoapjidpfghnlaaGreatDoorApl
import Derived.StillTailTactics
namespace Go.Proofs.YtoapjidpfghnlaaGreatDoor
open Go.RowKit
attribute [local go_sem] Oper.semAt_some wide_fn wide_depth
set_option linter.unusedVariables false
set_option linter.unusedSimpArgs false

theorem R9withinW (n lo hi : Int) (w : World) : Calls Tryz.prog 77 #[.int .i64 n, .int .i64 lo, .int .i64 hi] w (RetV w (.bool (btw n lo hi))) :=
  (R9within_any n lo hi w).mono fun e w' h => ⟨h.1, by rw [h.2]; exact Below.refl _ _⟩
theorem Blk.st3 {W : World} {b : Nat} {t : TypeId} {a0 a1 a2 : Value} (h : Blk W b t #[a0, a1, a2]) (v0 v1 v2 : Value) : Blk (((W.setCell ⟨b, 0, none⟩ v0).setCell ⟨b, 1, none⟩ v1).setCell ⟨b, 2, none⟩ v2) b t #[v0, v1, v2] := by
  simpa using ((h.set_ 0 v0).set_ 1 v1).set_ 2 v2
theorem Blk.st3_ne {W : World} {b b' : Nat} {t : TypeId} {cs : Array Value} (h : Blk W b' t cs) (hne : b' ≠ b) (v0 v1 v2 : Value) : Blk (((W.setCell ⟨b, 0, none⟩ v0).setCell ⟨b, 1, none⟩ v1).setCell ⟨b, 2, none⟩ v2) b' t cs := by
  unfold Blk at h ⊢
  rw [Below.heap_setCell _ _ _ b' hne, Below.heap_setCell _ _ _ b' hne, Below.heap_setCell _ _ _ b' hne]
  exact h
theorem Blk.drw {W : World} {b : Nat} {t : TypeId} {cs : Array Value} (h : Blk W b t cs) : Blk W.drew b t cs := h.below (Below.refl _ _).drew h.lt
theorem below_st3 {w W : World} {B b : Nat} (h : Below B w W) (hB : B ≤ b) (v0 v1 v2 : Value) : Below B w (((W.setCell ⟨b, 0, none⟩ v0).setCell ⟨b, 1, none⟩ v1).setCell ⟨b, 2, none⟩ v2) := ((h.setCell hB _).setCell hB _).setCell hB _
def ownS (left : Bool) (s : JoS) : List Int := if left then s.on else s.others
def othS (left : Bool) (s : JoS) : List Int := if left then s.others else s.on
/-- What side hands back, and what it makes of the reference's joiner. -/
def RetRs (left : Bool) (w : World) (base b : Nat) (s : JoS) (mk : Int) (vL : Value) (Ll : List Ch) (vR : Value) (Rl : List Ch) (c : Th) (e : Ending) (w' : World) : Prop :=
  ∃ A n cc lst E, e = .returned (.tuple #[.slice A n cc, .int .i64 E]) ∧ E = jnE left (ownS left s) (othS left s) s.lo s.hi mk c ((if left then Rl else Ll).map thC) ∧ ChgR w' w'.heap.size A n lst ∧ FrP (fun k => k = b) w w' ∧
    (E ≠ 0 → lst = [] ∧ JR w' base b s mk vL Ll vR Rl) ∧
    (E = 0 → lst.map thC = sumT (jnL left (ownS left s) (othS left s) s.lo s.hi c ((if left then Rl else Ll).map thC)) ∧
      ∃ vL' L' vR' R', JR w' base b s mk vL' L' vR' R' ∧ L'.map thC = (if left then keptT (Ll.map thC) c else Ll.map thC) ∧ R'.map thC = (if left then Rl.map thC else keptT (Rl.map thC) c))
theorem chgr_none (w : World) (B : Nat) : ChgR w B none 0 [] := ⟨⟨rfl, nofun⟩, (by intro i hi; cases hi), by omega⟩
theorem RetRs.bad {left : Bool} {w w' : World} {base b : Nat} {s : JoS} {mk : Int} {vL vR : Value} {Ll Rl : List Ch} {c : Th} {E : Int} (hE : jnE left (ownS left s) (othS left s) s.lo s.hi mk c ((if left then Rl else Ll).map thC) = E) (h0 : E ≠ 0) (h : JR w base b s mk vL Ll vR Rl) (hb : Below w.heap.size w w') :
    RetRs left w base b s mk vL Ll vR Rl c (.returned (.tuple #[.slice none 0 0, .int .i64 E])) w' :=
  ⟨none, 0, 0, [], E, rfl, hE.symm, chgr_none _ _, FrP.of_below hb, fun _ => ⟨rfl, h.below hb⟩, fun h => absurd h h0⟩
end Go.Proofs.YtoapjidpfghnlaaGreatDoor
