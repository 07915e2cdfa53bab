/-
  DERIVED. GIVEN WITH THE SEED: THE CARDS: each row of YtiioiajcoiaalaaGreatDoorRows.lean that lists a variable, with what it lists TIED to the program's text (the seventh form; the later family's looks); each row that meets fmt, with fmt's text TOLD by the authors' own Lean function (tested against real Go, not proved from fmt's source: count such statements apart). THE CARD IS WHAT COUNTS. Prove the row's statement (the work); the ties are given (YtiioiajcoiaalaaGreatDoorTie.lean); close each card by the builder's one call (the guide's Derived/Test/ToyasCard.lean, 'card_holds'). Laid BY PROGRAM, IN A SANDBOX (cutbox-door.mjs). By AI agents, Wed Nov 11 2026. No macro, syntax, notation, axiom, sorry.
-/
import Derived.Test.YtiioiajcoiaalaaGreatDoorRows
import GoSem.ClaimSeven
namespace Go.Proofs.YtiioiajcoiaalaaGreatDoor
namespace Rows

/-- THE TIED CARD OF 'tidewrightlaw03.BagChanges'. -/
def bagChangesCard : Claim7 := { stood := { row := bagChangesRow, standIns := [], harness := (true, "4e6235b1086765ce56a2697549de506bffdd07e63920c5873a3e75d703881c1f"), looks := true }, kinds := [], alts := [], laidByText := true, laidKinds := [.data, .data, .data], laidTests := true, laidLooks := .later }
def BagChangesCardSaid : Prop := Claim7.holds Tryz.pinned (.plain (OpenSpec.ofChange bagChangesSpec)) bagChangesCard

/-- THE TIED CARD OF 'tidewrightlaw03.BagLattice'. -/
def bagLatticeCard : Claim7 := { stood := { row := bagLatticeRow, standIns := [], harness := (true, "4e6235b1086765ce56a2697549de506bffdd07e63920c5873a3e75d703881c1f"), looks := true }, kinds := [], alts := [], laidByText := true, laidKinds := [.data, .data, .data], laidTests := true, laidLooks := .later }
def BagLatticeCardSaid : Prop := Claim7.holds Tryz.pinned (.plain (OpenSpec.ofChange bagLatticeSpec)) bagLatticeCard

/-- THE TIED CARD OF 'tidewrightlaw03.BagUpserts'. -/
def bagUpsertsCard : Claim7 := { stood := { row := bagUpsertsRow, standIns := [], harness := (true, "4e6235b1086765ce56a2697549de506bffdd07e63920c5873a3e75d703881c1f"), looks := true }, kinds := [], alts := [], laidByText := true, laidKinds := [.data, .data, .data], laidTests := true, laidLooks := .later }
def BagUpsertsCardSaid : Prop := Claim7.holds Tryz.pinned (.plain (OpenSpec.ofChange bagUpsertsSpec)) bagUpsertsCard

/-- THE TIED CARD OF 'tidewrightlaw03.BagNetted'. -/
def bagNettedCard : Claim7 := { stood := { row := bagNettedRow, standIns := [], harness := (true, "4e6235b1086765ce56a2697549de506bffdd07e63920c5873a3e75d703881c1f"), looks := true }, kinds := [], alts := [], laidByText := true, laidKinds := [.data, .data, .data], laidTests := true, laidLooks := .later }
def BagNettedCardSaid : Prop := Claim7.holds Tryz.pinned (.plain (OpenSpec.ofChange bagNettedSpec)) bagNettedCard

/-- THE TIED CARD OF 'tidewrightlaw03.BagRows'. -/
def bagRowsCard : Claim7 := { stood := { row := bagRowsRow, standIns := [], harness := (true, "4e6235b1086765ce56a2697549de506bffdd07e63920c5873a3e75d703881c1f"), looks := true }, kinds := [], alts := [], laidByText := true, laidKinds := [.data, .data, .data], laidTests := true, laidLooks := .later }
def BagRowsCardSaid : Prop := Claim7.holds Tryz.pinned (.plain (OpenSpec.ofChange bagRowsSpec)) bagRowsCard

/-- THE TIED CARD OF 'tidewrightlaw03.BagTexts'. -/
def bagTextsCard : Claim7 := { stood := { row := bagTextsRow, standIns := [], harness := (true, "4e6235b1086765ce56a2697549de506bffdd07e63920c5873a3e75d703881c1f"), looks := true }, kinds := [], alts := [], laidByText := true, laidKinds := [.data, .data, .data, .sentinel, .sentinel], laidTests := true, laidLooks := .later }
def BagTextsCardSaid : Prop := Claim7.holds Tryz.pinned (.plain (OpenSpec.ofChange bagTextsSpec)) bagTextsCard

/-- THE SECOND FORM's CARD OF 'tidewrightlaw03.BagChanges'. -/
def bagChangesUptoCard : Claim7 := { stood := { row := bagChangesUptoRow, standIns := [], harness := (true, "4e6235b1086765ce56a2697549de506bffdd07e63920c5873a3e75d703881c1f"), looks := true }, kinds := [], alts := [], laidByText := true, laidKinds := [.data, .data, .data], laidTests := true, laidLooks := .later }
def BagChangesUptoCardSaid : Prop := Claim7.holds Tryz.pinned (.plain (OpenSpec.upto bagChangesSpec)) bagChangesUptoCard

/-- THE SECOND FORM's CARD OF 'tidewrightlaw03.BagLattice'. -/
def bagLatticeUptoCard : Claim7 := { stood := { row := bagLatticeUptoRow, standIns := [], harness := (true, "4e6235b1086765ce56a2697549de506bffdd07e63920c5873a3e75d703881c1f"), looks := true }, kinds := [], alts := [], laidByText := true, laidKinds := [.data, .data, .data], laidTests := true, laidLooks := .later }
def BagLatticeUptoCardSaid : Prop := Claim7.holds Tryz.pinned (.plain (OpenSpec.upto bagLatticeSpec)) bagLatticeUptoCard

/-- THE SECOND FORM's CARD OF 'tidewrightlaw03.BagUpserts'. -/
def bagUpsertsUptoCard : Claim7 := { stood := { row := bagUpsertsUptoRow, standIns := [], harness := (true, "4e6235b1086765ce56a2697549de506bffdd07e63920c5873a3e75d703881c1f"), looks := true }, kinds := [], alts := [], laidByText := true, laidKinds := [.data, .data, .data], laidTests := true, laidLooks := .later }
def BagUpsertsUptoCardSaid : Prop := Claim7.holds Tryz.pinned (.plain (OpenSpec.upto bagUpsertsSpec)) bagUpsertsUptoCard

/-- THE SECOND FORM's CARD OF 'tidewrightlaw03.BagNetted'. -/
def bagNettedUptoCard : Claim7 := { stood := { row := bagNettedUptoRow, standIns := [], harness := (true, "4e6235b1086765ce56a2697549de506bffdd07e63920c5873a3e75d703881c1f"), looks := true }, kinds := [], alts := [], laidByText := true, laidKinds := [.data, .data, .data], laidTests := true, laidLooks := .later }
def BagNettedUptoCardSaid : Prop := Claim7.holds Tryz.pinned (.plain (OpenSpec.upto bagNettedSpec)) bagNettedUptoCard

/-- THE SECOND FORM's CARD OF 'tidewrightlaw03.BagRows'. -/
def bagRowsUptoCard : Claim7 := { stood := { row := bagRowsUptoRow, standIns := [], harness := (true, "4e6235b1086765ce56a2697549de506bffdd07e63920c5873a3e75d703881c1f"), looks := true }, kinds := [], alts := [], laidByText := true, laidKinds := [.data, .data, .data], laidTests := true, laidLooks := .later }
def BagRowsUptoCardSaid : Prop := Claim7.holds Tryz.pinned (.plain (OpenSpec.upto bagRowsSpec)) bagRowsUptoCard

/-- THE SECOND FORM's CARD OF 'tidewrightlaw03.BagTexts'. -/
def bagTextsUptoCard : Claim7 := { stood := { row := bagTextsUptoRow, standIns := [], harness := (true, "4e6235b1086765ce56a2697549de506bffdd07e63920c5873a3e75d703881c1f"), looks := true }, kinds := [], alts := [], laidByText := true, laidKinds := [.data, .data, .data, .sentinel, .sentinel], laidTests := true, laidLooks := .later }
def BagTextsUptoCardSaid : Prop := Claim7.holds Tryz.pinned (.plain (OpenSpec.upto bagTextsSpec)) bagTextsUptoCard
end Rows
end Go.Proofs.YtiioiajcoiaalaaGreatDoor
