/-
  DERIVED. GIVEN WITH THE SEED: THE CARDS: each row of YtfkieomelkopeaaDoorRows.lean that lists a variable, with what it lists TIED to the program's text (the seventh form; the later family's looks); each row that meets fmt, with fmt's text TOLD by the authors' own Lean function (tested against real Go, not proved from fmt's source: count such statements apart). THE CARD IS WHAT COUNTS. Prove the row's statement (the work); the ties are given (YtfkieomelkopeaaDoorTie.lean); close each card by the builder's one call (the guide's Derived/Test/ToyasCard.lean, 'card_holds'). Laid BY PROGRAM, IN A SANDBOX (cutbox-door.mjs). By AI agents, Wed Nov 11 2026. No macro, syntax, notation, axiom, sorry.
-/
import Derived.Test.YtfkieomelkopeaaDoorRows
import GoSem.ClaimSeven
namespace Go.Proofs.YtfkieomelkopeaaDoor
namespace Rows

/-- THE TIED CARD OF 'corrodylaw15.ParserBrackets'. -/
def parserBracketsCard : Claim7 := { stood := { row := parserBracketsRow, standIns := [], harness := (true, "7fdba2e0f605cac8350ed57763deb5f68b003ba1e849713bef570be9a5458a45"), looks := true }, kinds := [], alts := [], laidByText := true, laidKinds := [.data, .data, .data, .sentinel, .sentinel, .listed, .data], laidTests := true, laidLooks := .later }
def ParserBracketsCardSaid : Prop := Claim7.holds Tryd.pinned (.plain (OpenSpec.ofChange parserBracketsSpec)) parserBracketsCard

/-- THE SECOND FORM's CARD OF 'corrodylaw15.ParserBrackets'. -/
def parserBracketsUptoCard : Claim7 := { stood := { row := parserBracketsUptoRow, standIns := [], harness := (true, "7fdba2e0f605cac8350ed57763deb5f68b003ba1e849713bef570be9a5458a45"), looks := true }, kinds := [], alts := [], laidByText := true, laidKinds := [.data, .data, .data, .sentinel, .sentinel, .listed, .data], laidTests := true, laidLooks := .later }
def ParserBracketsUptoCardSaid : Prop := Claim7.holds Tryd.pinned (.plain (OpenSpec.upto parserBracketsSpec)) parserBracketsUptoCard
end Rows
end Go.Proofs.YtfkieomelkopeaaDoor
