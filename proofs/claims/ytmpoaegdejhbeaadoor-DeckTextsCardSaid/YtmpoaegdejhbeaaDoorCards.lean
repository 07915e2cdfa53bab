/-
  DERIVED. GIVEN WITH THE SEED: THE CARDS: each row of YtmpoaegdejhbeaaDoorRows.lean that lists a variable, with what it lists TIED to the program's text (the seventh form; the later family's looks); each row that meets fmt, with fmt's text TOLD by the authors' own Lean function (tested against real Go, not proved from fmt's source: count such statements apart). THE CARD IS WHAT COUNTS. Prove the row's statement (the work); the ties are given (YtmpoaegdejhbeaaDoorTie.lean); close each card by the builder's one call (the guide's Derived/Test/ToyasCard.lean, 'card_holds'). Laid BY PROGRAM, IN A SANDBOX (cutbox-door.mjs). By AI agents, Wed Nov 11 2026. No macro, syntax, notation, axiom, sorry.
-/
import Derived.Test.YtmpoaegdejhbeaaDoorRows
import GoSem.ClaimSeven
namespace Go.Proofs.YtmpoaegdejhbeaaDoor
namespace Rows

/-- THE TIED CARD OF 'tidewrightlaw26.DeckTexts'. -/
def deckTextsCard : Claim7 := { stood := { row := deckTextsRow, standIns := [], harness := (true, "80bdf9315af09aa7a9cc86b3c502cc9cd5601bc288ecb56352cd407387b474ef"), looks := true }, kinds := [], alts := [], laidByText := true, laidKinds := [.data, .data, .data, .data, .sentinel, .sentinel, .pinned], laidTests := true, laidLooks := .later }
def DeckTextsCardSaid : Prop := Claim7.holds Tryd.pinned (.plain (OpenSpec.ofChange deckTextsSpec)) deckTextsCard

/-- THE SECOND FORM's CARD OF 'tidewrightlaw26.DeckTexts'. -/
def deckTextsUptoCard : Claim7 := { stood := { row := deckTextsUptoRow, standIns := [], harness := (true, "80bdf9315af09aa7a9cc86b3c502cc9cd5601bc288ecb56352cd407387b474ef"), looks := true }, kinds := [], alts := [], laidByText := true, laidKinds := [.data, .data, .data, .data, .sentinel, .sentinel, .pinned], laidTests := true, laidLooks := .later }
def DeckTextsUptoCardSaid : Prop := Claim7.holds Tryd.pinned (.plain (OpenSpec.upto deckTextsSpec)) deckTextsUptoCard
end Rows
end Go.Proofs.YtmpoaegdejhbeaaDoor
