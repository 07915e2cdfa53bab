/-
  DERIVED. GIVEN WITH THE SEED: THE CARDS: each row of YtoapjidpfghnlaaGreatDoorRows.lean that lists a variable, with what it lists TIED to the program's text (the seventh form; the later family's looks); each row that meets fmt, with fmt's text TOLD by the authors' own Lean function (tested against real Go, not proved from fmt's source: count such statements apart). THE CARD IS WHAT COUNTS. Prove the row's statement (the work); the ties are given (YtoapjidpfghnlaaGreatDoorTie.lean); close each card by the builder's one call (the guide's Derived/Test/ToyasCard.lean, 'card_holds'). Laid BY PROGRAM, IN A SANDBOX (cutbox-door.mjs). By AI agents, Wed Nov 11 2026. No macro, syntax, notation, axiom, sorry.
-/
import Derived.Test.YtoapjidpfghnlaaGreatDoorRows
import GoSem.ClaimSeven
namespace Go.Proofs.YtoapjidpfghnlaaGreatDoor
namespace Rows

/-- THE TIED CARD OF 'tidewrightlaw09.PairIntervals'. -/
def pairIntervalsCard : Claim7 := { stood := { row := pairIntervalsRow, standIns := [], harness := (true, "d9036ac7181dec922cd97ee1a4f66bae1ab5cc9f67d44b9d9e9b3f4eee2e42df"), looks := false }, kinds := [], alts := [], laidByText := true, laidKinds := [.data, .data, .data], laidTests := true, laidLooks := .later }
def PairIntervalsCardSaid : Prop := Claim7.holds Tryz.pinned (.plain (OpenSpec.ofChange pairIntervalsSpec)) pairIntervalsCard

/-- THE TIED CARD OF 'tidewrightlaw09.PairVersions'. -/
def pairVersionsCard : Claim7 := { stood := { row := pairVersionsRow, standIns := [], harness := (true, "d9036ac7181dec922cd97ee1a4f66bae1ab5cc9f67d44b9d9e9b3f4eee2e42df"), looks := false }, kinds := [], alts := [], laidByText := true, laidKinds := [.data, .data, .data], laidTests := true, laidLooks := .later }
def PairVersionsCardSaid : Prop := Claim7.holds Tryz.pinned (.plain (OpenSpec.ofChange pairVersionsSpec)) pairVersionsCard

/-- THE TIED CARD OF 'tidewrightlaw09.PairOuter'. -/
def pairOuterCard : Claim7 := { stood := { row := pairOuterRow, standIns := [], harness := (true, "d9036ac7181dec922cd97ee1a4f66bae1ab5cc9f67d44b9d9e9b3f4eee2e42df"), looks := false }, kinds := [], alts := [], laidByText := true, laidKinds := [.data, .data, .data], laidTests := true, laidLooks := .later }
def PairOuterCardSaid : Prop := Claim7.holds Tryz.pinned (.plain (OpenSpec.ofChange pairOuterSpec)) pairOuterCard

/-- THE TIED CARD OF 'tidewrightlaw09.PairKinds'. -/
def pairKindsCard : Claim7 := { stood := { row := pairKindsRow, standIns := [], harness := (true, "d9036ac7181dec922cd97ee1a4f66bae1ab5cc9f67d44b9d9e9b3f4eee2e42df"), looks := false }, kinds := [], alts := [], laidByText := true, laidKinds := [.data, .data, .data], laidTests := true, laidLooks := .later }
def PairKindsCardSaid : Prop := Claim7.holds Tryz.pinned (.plain (OpenSpec.ofChange pairKindsSpec)) pairKindsCard

/-- THE TIED CARD OF 'tidewrightlaw09.PairVersioned'. -/
def pairVersionedCard : Claim7 := { stood := { row := pairVersionedRow, standIns := [], harness := (true, "d9036ac7181dec922cd97ee1a4f66bae1ab5cc9f67d44b9d9e9b3f4eee2e42df"), looks := false }, kinds := [], alts := [], laidByText := true, laidKinds := [.data, .data, .data], laidTests := true, laidLooks := .later }
def PairVersionedCardSaid : Prop := Claim7.holds Tryz.pinned (.plain (OpenSpec.ofChange pairVersionedSpec)) pairVersionedCard

/-- THE TIED CARD OF 'tidewrightlaw09.PairGives'. -/
def pairGivesCard : Claim7 := { stood := { row := pairGivesRow, standIns := [], harness := (true, "d9036ac7181dec922cd97ee1a4f66bae1ab5cc9f67d44b9d9e9b3f4eee2e42df"), looks := false }, kinds := [], alts := [], laidByText := true, laidKinds := [.data, .data, .data], laidTests := true, laidLooks := .later }
def PairGivesCardSaid : Prop := Claim7.holds Tryz.pinned (.plain (OpenSpec.ofChange pairGivesSpec)) pairGivesCard

/-- THE TIED CARD OF 'tidewrightlaw09.PairJoins'. -/
def pairJoinsCard : Claim7 := { stood := { row := pairJoinsRow, standIns := [], harness := (true, "d9036ac7181dec922cd97ee1a4f66bae1ab5cc9f67d44b9d9e9b3f4eee2e42df"), looks := false }, kinds := [], alts := [], laidByText := true, laidKinds := [.data, .data, .data], laidTests := true, laidLooks := .later }
def PairJoinsCardSaid : Prop := Claim7.holds Tryz.pinned (.plain (OpenSpec.ofChange pairJoinsSpec)) pairJoinsCard

/-- THE TIED CARD OF 'tidewrightlaw09.PairKeeps'. -/
def pairKeepsCard : Claim7 := { stood := { row := pairKeepsRow, standIns := [], harness := (true, "d9036ac7181dec922cd97ee1a4f66bae1ab5cc9f67d44b9d9e9b3f4eee2e42df"), looks := false }, kinds := [], alts := [], laidByText := true, laidKinds := [.data, .data, .data], laidTests := true, laidLooks := .later }
def PairKeepsCardSaid : Prop := Claim7.holds Tryz.pinned (.plain (OpenSpec.ofChange pairKeepsSpec)) pairKeepsCard

/-- THE SECOND FORM's CARD OF 'tidewrightlaw09.PairIntervals'. -/
def pairIntervalsUptoCard : Claim7 := { stood := { row := pairIntervalsUptoRow, standIns := [], harness := (true, "d9036ac7181dec922cd97ee1a4f66bae1ab5cc9f67d44b9d9e9b3f4eee2e42df"), looks := false }, kinds := [], alts := [], laidByText := true, laidKinds := [.data, .data, .data], laidTests := true, laidLooks := .later }
def PairIntervalsUptoCardSaid : Prop := Claim7.holds Tryz.pinned (.plain (OpenSpec.upto pairIntervalsSpec)) pairIntervalsUptoCard

/-- THE SECOND FORM's CARD OF 'tidewrightlaw09.PairVersions'. -/
def pairVersionsUptoCard : Claim7 := { stood := { row := pairVersionsUptoRow, standIns := [], harness := (true, "d9036ac7181dec922cd97ee1a4f66bae1ab5cc9f67d44b9d9e9b3f4eee2e42df"), looks := false }, kinds := [], alts := [], laidByText := true, laidKinds := [.data, .data, .data], laidTests := true, laidLooks := .later }
def PairVersionsUptoCardSaid : Prop := Claim7.holds Tryz.pinned (.plain (OpenSpec.upto pairVersionsSpec)) pairVersionsUptoCard

/-- THE SECOND FORM's CARD OF 'tidewrightlaw09.PairOuter'. -/
def pairOuterUptoCard : Claim7 := { stood := { row := pairOuterUptoRow, standIns := [], harness := (true, "d9036ac7181dec922cd97ee1a4f66bae1ab5cc9f67d44b9d9e9b3f4eee2e42df"), looks := false }, kinds := [], alts := [], laidByText := true, laidKinds := [.data, .data, .data], laidTests := true, laidLooks := .later }
def PairOuterUptoCardSaid : Prop := Claim7.holds Tryz.pinned (.plain (OpenSpec.upto pairOuterSpec)) pairOuterUptoCard

/-- THE SECOND FORM's CARD OF 'tidewrightlaw09.PairKinds'. -/
def pairKindsUptoCard : Claim7 := { stood := { row := pairKindsUptoRow, standIns := [], harness := (true, "d9036ac7181dec922cd97ee1a4f66bae1ab5cc9f67d44b9d9e9b3f4eee2e42df"), looks := false }, kinds := [], alts := [], laidByText := true, laidKinds := [.data, .data, .data], laidTests := true, laidLooks := .later }
def PairKindsUptoCardSaid : Prop := Claim7.holds Tryz.pinned (.plain (OpenSpec.upto pairKindsSpec)) pairKindsUptoCard

/-- THE SECOND FORM's CARD OF 'tidewrightlaw09.PairVersioned'. -/
def pairVersionedUptoCard : Claim7 := { stood := { row := pairVersionedUptoRow, standIns := [], harness := (true, "d9036ac7181dec922cd97ee1a4f66bae1ab5cc9f67d44b9d9e9b3f4eee2e42df"), looks := false }, kinds := [], alts := [], laidByText := true, laidKinds := [.data, .data, .data], laidTests := true, laidLooks := .later }
def PairVersionedUptoCardSaid : Prop := Claim7.holds Tryz.pinned (.plain (OpenSpec.upto pairVersionedSpec)) pairVersionedUptoCard

/-- THE SECOND FORM's CARD OF 'tidewrightlaw09.PairGives'. -/
def pairGivesUptoCard : Claim7 := { stood := { row := pairGivesUptoRow, standIns := [], harness := (true, "d9036ac7181dec922cd97ee1a4f66bae1ab5cc9f67d44b9d9e9b3f4eee2e42df"), looks := false }, kinds := [], alts := [], laidByText := true, laidKinds := [.data, .data, .data], laidTests := true, laidLooks := .later }
def PairGivesUptoCardSaid : Prop := Claim7.holds Tryz.pinned (.plain (OpenSpec.upto pairGivesSpec)) pairGivesUptoCard

/-- THE SECOND FORM's CARD OF 'tidewrightlaw09.PairJoins'. -/
def pairJoinsUptoCard : Claim7 := { stood := { row := pairJoinsUptoRow, standIns := [], harness := (true, "d9036ac7181dec922cd97ee1a4f66bae1ab5cc9f67d44b9d9e9b3f4eee2e42df"), looks := false }, kinds := [], alts := [], laidByText := true, laidKinds := [.data, .data, .data], laidTests := true, laidLooks := .later }
def PairJoinsUptoCardSaid : Prop := Claim7.holds Tryz.pinned (.plain (OpenSpec.upto pairJoinsSpec)) pairJoinsUptoCard

/-- THE SECOND FORM's CARD OF 'tidewrightlaw09.PairKeeps'. -/
def pairKeepsUptoCard : Claim7 := { stood := { row := pairKeepsUptoRow, standIns := [], harness := (true, "d9036ac7181dec922cd97ee1a4f66bae1ab5cc9f67d44b9d9e9b3f4eee2e42df"), looks := false }, kinds := [], alts := [], laidByText := true, laidKinds := [.data, .data, .data], laidTests := true, laidLooks := .later }
def PairKeepsUptoCardSaid : Prop := Claim7.holds Tryz.pinned (.plain (OpenSpec.upto pairKeepsSpec)) pairKeepsUptoCard
end Rows
end Go.Proofs.YtoapjidpfghnlaaGreatDoor
