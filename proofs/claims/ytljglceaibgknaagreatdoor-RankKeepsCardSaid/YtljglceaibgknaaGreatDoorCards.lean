/-
  DERIVED. GIVEN WITH THE SEED: THE CARDS: each row of YtljglceaibgknaaGreatDoorRows.lean that lists a variable, with what it lists TIED to the program's text (the seventh form; the later family's looks); each row that meets fmt, with fmt's text TOLD by the authors' own Lean function (tested against real Go, not proved from fmt's source: count such statements apart). THE CARD IS WHAT COUNTS. Prove the row's statement (the work); the ties are given (YtljglceaibgknaaGreatDoorTie.lean); close each card by the builder's one call (the guide's Derived/Test/ToyasCard.lean, 'card_holds'). Laid BY PROGRAM, IN A SANDBOX (cutbox-door.mjs). By AI agents, Wed Nov 11 2026. No macro, syntax, notation, axiom, sorry.
-/
import Derived.Test.YtljglceaibgknaaGreatDoorRows
import GoSem.ClaimSeven
namespace Go.Proofs.YtljglceaibgknaaGreatDoor
namespace Rows

/-- THE TIED CARD OF 'tidewrightlaw10.RankGroups'. -/
def rankGroupsCard : Claim7 := { stood := { row := rankGroupsRow, standIns := [], harness := (true, "95643a30ea8393cbad306aebe0cfbdea3868e6a06354fadf9367fde3ec6a46d5"), looks := false }, kinds := [], alts := [], laidByText := true, laidKinds := [.data, .data, .data], laidTests := true, laidLooks := .later }
def RankGroupsCardSaid : Prop := Claim7.holds Tryz.pinned (.plain (OpenSpec.ofChange rankGroupsSpec)) rankGroupsCard

/-- THE TIED CARD OF 'tidewrightlaw10.RankValid'. -/
def rankValidCard : Claim7 := { stood := { row := rankValidRow, standIns := [], harness := (true, "95643a30ea8393cbad306aebe0cfbdea3868e6a06354fadf9367fde3ec6a46d5"), looks := false }, kinds := [], alts := [], laidByText := true, laidKinds := [.data, .data, .data], laidTests := true, laidLooks := .later }
def RankValidCardSaid : Prop := Claim7.holds Tryz.pinned (.plain (OpenSpec.ofChange rankValidSpec)) rankValidCard

/-- THE TIED CARD OF 'tidewrightlaw10.RankTops'. -/
def rankTopsCard : Claim7 := { stood := { row := rankTopsRow, standIns := [], harness := (true, "95643a30ea8393cbad306aebe0cfbdea3868e6a06354fadf9367fde3ec6a46d5"), looks := false }, kinds := [], alts := [], laidByText := true, laidKinds := [.data, .data, .data], laidTests := true, laidLooks := .later }
def RankTopsCardSaid : Prop := Claim7.holds Tryz.pinned (.plain (OpenSpec.ofChange rankTopsSpec)) rankTopsCard

/-- THE TIED CARD OF 'tidewrightlaw10.RankNewest'. -/
def rankNewestCard : Claim7 := { stood := { row := rankNewestRow, standIns := [], harness := (true, "95643a30ea8393cbad306aebe0cfbdea3868e6a06354fadf9367fde3ec6a46d5"), looks := false }, kinds := [], alts := [], laidByText := true, laidKinds := [.data, .data, .data], laidTests := true, laidLooks := .later }
def RankNewestCardSaid : Prop := Claim7.holds Tryz.pinned (.plain (OpenSpec.ofChange rankNewestSpec)) rankNewestCard

/-- THE TIED CARD OF 'tidewrightlaw10.RankSums'. -/
def rankSumsCard : Claim7 := { stood := { row := rankSumsRow, standIns := [], harness := (true, "95643a30ea8393cbad306aebe0cfbdea3868e6a06354fadf9367fde3ec6a46d5"), looks := false }, kinds := [], alts := [], laidByText := true, laidKinds := [.data, .data, .data], laidTests := true, laidLooks := .later }
def RankSumsCardSaid : Prop := Claim7.holds Tryz.pinned (.plain (OpenSpec.ofChange rankSumsSpec)) rankSumsCard

/-- THE TIED CARD OF 'tidewrightlaw10.RankPlaces'. -/
def rankPlacesCard : Claim7 := { stood := { row := rankPlacesRow, standIns := [], harness := (true, "95643a30ea8393cbad306aebe0cfbdea3868e6a06354fadf9367fde3ec6a46d5"), looks := false }, kinds := [], alts := [], laidByText := true, laidKinds := [.data, .data, .data], laidTests := true, laidLooks := .later }
def RankPlacesCardSaid : Prop := Claim7.holds Tryz.pinned (.plain (OpenSpec.ofChange rankPlacesSpec)) rankPlacesCard

/-- THE TIED CARD OF 'tidewrightlaw10.RankKeeps'. -/
def rankKeepsCard : Claim7 := { stood := { row := rankKeepsRow, standIns := [], harness := (true, "95643a30ea8393cbad306aebe0cfbdea3868e6a06354fadf9367fde3ec6a46d5"), looks := false }, kinds := [], alts := [], laidByText := true, laidKinds := [.data, .data, .data], laidTests := true, laidLooks := .later }
def RankKeepsCardSaid : Prop := Claim7.holds Tryz.pinned (.plain (OpenSpec.ofChange rankKeepsSpec)) rankKeepsCard

/-- THE SECOND FORM's CARD OF 'tidewrightlaw10.RankGroups'. -/
def rankGroupsUptoCard : Claim7 := { stood := { row := rankGroupsUptoRow, standIns := [], harness := (true, "95643a30ea8393cbad306aebe0cfbdea3868e6a06354fadf9367fde3ec6a46d5"), looks := false }, kinds := [], alts := [], laidByText := true, laidKinds := [.data, .data, .data], laidTests := true, laidLooks := .later }
def RankGroupsUptoCardSaid : Prop := Claim7.holds Tryz.pinned (.plain (OpenSpec.upto rankGroupsSpec)) rankGroupsUptoCard

/-- THE SECOND FORM's CARD OF 'tidewrightlaw10.RankValid'. -/
def rankValidUptoCard : Claim7 := { stood := { row := rankValidUptoRow, standIns := [], harness := (true, "95643a30ea8393cbad306aebe0cfbdea3868e6a06354fadf9367fde3ec6a46d5"), looks := false }, kinds := [], alts := [], laidByText := true, laidKinds := [.data, .data, .data], laidTests := true, laidLooks := .later }
def RankValidUptoCardSaid : Prop := Claim7.holds Tryz.pinned (.plain (OpenSpec.upto rankValidSpec)) rankValidUptoCard

/-- THE SECOND FORM's CARD OF 'tidewrightlaw10.RankTops'. -/
def rankTopsUptoCard : Claim7 := { stood := { row := rankTopsUptoRow, standIns := [], harness := (true, "95643a30ea8393cbad306aebe0cfbdea3868e6a06354fadf9367fde3ec6a46d5"), looks := false }, kinds := [], alts := [], laidByText := true, laidKinds := [.data, .data, .data], laidTests := true, laidLooks := .later }
def RankTopsUptoCardSaid : Prop := Claim7.holds Tryz.pinned (.plain (OpenSpec.upto rankTopsSpec)) rankTopsUptoCard

/-- THE SECOND FORM's CARD OF 'tidewrightlaw10.RankNewest'. -/
def rankNewestUptoCard : Claim7 := { stood := { row := rankNewestUptoRow, standIns := [], harness := (true, "95643a30ea8393cbad306aebe0cfbdea3868e6a06354fadf9367fde3ec6a46d5"), looks := false }, kinds := [], alts := [], laidByText := true, laidKinds := [.data, .data, .data], laidTests := true, laidLooks := .later }
def RankNewestUptoCardSaid : Prop := Claim7.holds Tryz.pinned (.plain (OpenSpec.upto rankNewestSpec)) rankNewestUptoCard

/-- THE SECOND FORM's CARD OF 'tidewrightlaw10.RankSums'. -/
def rankSumsUptoCard : Claim7 := { stood := { row := rankSumsUptoRow, standIns := [], harness := (true, "95643a30ea8393cbad306aebe0cfbdea3868e6a06354fadf9367fde3ec6a46d5"), looks := false }, kinds := [], alts := [], laidByText := true, laidKinds := [.data, .data, .data], laidTests := true, laidLooks := .later }
def RankSumsUptoCardSaid : Prop := Claim7.holds Tryz.pinned (.plain (OpenSpec.upto rankSumsSpec)) rankSumsUptoCard

/-- THE SECOND FORM's CARD OF 'tidewrightlaw10.RankPlaces'. -/
def rankPlacesUptoCard : Claim7 := { stood := { row := rankPlacesUptoRow, standIns := [], harness := (true, "95643a30ea8393cbad306aebe0cfbdea3868e6a06354fadf9367fde3ec6a46d5"), looks := false }, kinds := [], alts := [], laidByText := true, laidKinds := [.data, .data, .data], laidTests := true, laidLooks := .later }
def RankPlacesUptoCardSaid : Prop := Claim7.holds Tryz.pinned (.plain (OpenSpec.upto rankPlacesSpec)) rankPlacesUptoCard

/-- THE SECOND FORM's CARD OF 'tidewrightlaw10.RankKeeps'. -/
def rankKeepsUptoCard : Claim7 := { stood := { row := rankKeepsUptoRow, standIns := [], harness := (true, "95643a30ea8393cbad306aebe0cfbdea3868e6a06354fadf9367fde3ec6a46d5"), looks := false }, kinds := [], alts := [], laidByText := true, laidKinds := [.data, .data, .data], laidTests := true, laidLooks := .later }
def RankKeepsUptoCardSaid : Prop := Claim7.holds Tryz.pinned (.plain (OpenSpec.upto rankKeepsSpec)) rankKeepsUptoCard
end Rows
end Go.Proofs.YtljglceaibgknaaGreatDoor
