/-
  DERIVED. GIVEN WITH THE SEED: THE CARDS: each row of YthngjbhamgmcgaaDoorRows.lean that lists a variable, with what it lists TIED to the program's text (the seventh form; the later family's looks); each row that meets fmt, with fmt's text TOLD by the authors' own Lean function (tested against real Go, not proved from fmt's source: count such statements apart). THE CARD IS WHAT COUNTS. Prove the row's statement (the work); the ties are given (YthngjbhamgmcgaaDoorTie.lean); close each card by the builder's one call (the guide's Derived/Test/ToyasCard.lean, 'card_holds'). Laid BY PROGRAM, IN A SANDBOX (cutbox-door.mjs). By AI agents, Wed Nov 11 2026. No macro, syntax, notation, axiom, sorry.
-/
import Derived.Test.YthngjbhamgmcgaaDoorRows
import GoSem.ClaimSeven
namespace Go.Proofs.YthngjbhamgmcgaaDoor
namespace Rows

/-- THE TIED CARD OF 'tidewrightlaw12.ShareLoads'. -/
def shareLoadsCard : Claim7 := { stood := { row := shareLoadsRow, standIns := [], harness := (true, "2b13cd6e3a5755c0d609970e6e910c32cdb874fa8a0e1d7ea8be7f1279895d1d"), looks := false }, kinds := [], alts := [], laidByText := true, laidKinds := [.data, .data, .data], laidTests := true, laidLooks := .later }
def ShareLoadsCardSaid : Prop := Claim7.holds Tryd.pinned (.plain (OpenSpec.ofChange shareLoadsSpec)) shareLoadsCard

/-- THE SECOND FORM's CARD OF 'tidewrightlaw12.ShareLoads'. -/
def shareLoadsUptoCard : Claim7 := { stood := { row := shareLoadsUptoRow, standIns := [], harness := (true, "2b13cd6e3a5755c0d609970e6e910c32cdb874fa8a0e1d7ea8be7f1279895d1d"), looks := false }, kinds := [], alts := [], laidByText := true, laidKinds := [.data, .data, .data], laidTests := true, laidLooks := .later }
def ShareLoadsUptoCardSaid : Prop := Claim7.holds Tryd.pinned (.plain (OpenSpec.upto shareLoadsSpec)) shareLoadsUptoCard
end Rows
end Go.Proofs.YthngjbhamgmcgaaDoor
