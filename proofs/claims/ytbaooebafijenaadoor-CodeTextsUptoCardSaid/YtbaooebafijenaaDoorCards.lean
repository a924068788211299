/-
  DERIVED. GIVEN WITH THE SEED: THE CARDS: each row of YtbaooebafijenaaDoorRows.lean that lists a variable, with what it lists TIED to the program's text (the seventh form; the later family's looks); each row that meets fmt, with fmt's text TOLD by the authors' own Lean function (tested against real Go, not proved from fmt's source: count such statements apart). THE CARD IS WHAT COUNTS. Prove the row's statement (the work); the ties are given (YtbaooebafijenaaDoorTie.lean); close each card by the builder's one call (the guide's Derived/Test/ToyasCard.lean, 'card_holds'). Laid BY PROGRAM, IN A SANDBOX (cutbox-door.mjs). By AI agents, Wed Nov 11 2026. No macro, syntax, notation, axiom, sorry.
-/
import Derived.Test.YtbaooebafijenaaDoorRows
import GoSem.ClaimSeven
namespace Go.Proofs.YtbaooebafijenaaDoor
namespace Rows

/-- THE TIED CARD OF 'bulkheadlaw04.CodeTexts'. -/
def codeTextsCard : Claim7 := { stood := { row := codeTextsRow, standIns := [], harness := (true, "80fdcd3fe89de773b94590919e8abe1931ca40a7d1637570324c918c08db10d6"), looks := true }, kinds := [], alts := [], laidByText := true, laidKinds := [.data, .data, .data, .sentinel, .sentinel, .data, .data], laidTests := true, laidLooks := .later }
def CodeTextsCardSaid : Prop := Claim7.holds Tryd.pinned (.plain (OpenSpec.ofChange codeTextsSpec)) codeTextsCard

/-- THE TIED CARD OF 'bulkheadlaw04.CodeLabels'. -/
def codeLabelsCard : Claim7 := { stood := { row := codeLabelsRow, standIns := [], harness := (true, "80fdcd3fe89de773b94590919e8abe1931ca40a7d1637570324c918c08db10d6"), looks := true }, kinds := [], alts := [], laidByText := true, laidKinds := [.data, .data, .data, .data, .sentinel, .sentinel, .data, .pinned], laidTests := true, laidLooks := .later }
def CodeLabelsCardSaid : Prop := Claim7.holds Tryd.pinned (.plain (OpenSpec.ofChange codeLabelsSpec)) codeLabelsCard

/-- THE TIED CARD OF 'bulkheadlaw04.CodeLines'. -/
def codeLinesCard : Claim7 := { stood := { row := codeLinesRow, standIns := [], harness := (true, "80fdcd3fe89de773b94590919e8abe1931ca40a7d1637570324c918c08db10d6"), looks := true }, kinds := [], alts := [], laidByText := true, laidKinds := [.data, .data, .data, .data, .sentinel, .sentinel, .data, .pinned], laidTests := true, laidLooks := .later }
def CodeLinesCardSaid : Prop := Claim7.holds Tryd.pinned (.plain (OpenSpec.ofChange codeLinesSpec)) codeLinesCard

/-- THE TIED CARD OF 'bulkheadlaw04.CodeRefused'. -/
def codeRefusedCard : Claim7 := { stood := { row := codeRefusedRow, standIns := [], harness := (true, "80fdcd3fe89de773b94590919e8abe1931ca40a7d1637570324c918c08db10d6"), looks := true }, kinds := [], alts := [], laidByText := true, laidKinds := [.data, .data, .data, .data, .sentinel, .sentinel, .data, .pinned], laidTests := true, laidLooks := .later }
def CodeRefusedCardSaid : Prop := Claim7.holds Tryd.pinned (.plain (OpenSpec.ofChange codeRefusedSpec)) codeRefusedCard

/-- THE TIED CARD OF 'bulkheadlaw04.CodeBack'. -/
def codeBackCard : Claim7 := { stood := { row := codeBackRow, standIns := [], harness := (true, "80fdcd3fe89de773b94590919e8abe1931ca40a7d1637570324c918c08db10d6"), looks := true }, kinds := [], alts := [], laidByText := true, laidKinds := [.data, .data, .data, .data, .sentinel, .sentinel, .data, .pinned], laidTests := true, laidLooks := .later }
def CodeBackCardSaid : Prop := Claim7.holds Tryd.pinned (.plain (OpenSpec.ofChange codeBackSpec)) codeBackCard

/-- THE SECOND FORM's CARD OF 'bulkheadlaw04.CodeTexts'. -/
def codeTextsUptoCard : Claim7 := { stood := { row := codeTextsUptoRow, standIns := [], harness := (true, "80fdcd3fe89de773b94590919e8abe1931ca40a7d1637570324c918c08db10d6"), looks := true }, kinds := [], alts := [], laidByText := true, laidKinds := [.data, .data, .data, .sentinel, .sentinel, .data, .data], laidTests := true, laidLooks := .later }
def CodeTextsUptoCardSaid : Prop := Claim7.holds Tryd.pinned (.plain (OpenSpec.upto codeTextsSpec)) codeTextsUptoCard

/-- THE SECOND FORM's CARD OF 'bulkheadlaw04.CodeLabels'. -/
def codeLabelsUptoCard : Claim7 := { stood := { row := codeLabelsUptoRow, standIns := [], harness := (true, "80fdcd3fe89de773b94590919e8abe1931ca40a7d1637570324c918c08db10d6"), looks := true }, kinds := [], alts := [], laidByText := true, laidKinds := [.data, .data, .data, .data, .sentinel, .sentinel, .data, .pinned], laidTests := true, laidLooks := .later }
def CodeLabelsUptoCardSaid : Prop := Claim7.holds Tryd.pinned (.plain (OpenSpec.upto codeLabelsSpec)) codeLabelsUptoCard

/-- THE SECOND FORM's CARD OF 'bulkheadlaw04.CodeLines'. -/
def codeLinesUptoCard : Claim7 := { stood := { row := codeLinesUptoRow, standIns := [], harness := (true, "80fdcd3fe89de773b94590919e8abe1931ca40a7d1637570324c918c08db10d6"), looks := true }, kinds := [], alts := [], laidByText := true, laidKinds := [.data, .data, .data, .data, .sentinel, .sentinel, .data, .pinned], laidTests := true, laidLooks := .later }
def CodeLinesUptoCardSaid : Prop := Claim7.holds Tryd.pinned (.plain (OpenSpec.upto codeLinesSpec)) codeLinesUptoCard

/-- THE SECOND FORM's CARD OF 'bulkheadlaw04.CodeRefused'. -/
def codeRefusedUptoCard : Claim7 := { stood := { row := codeRefusedUptoRow, standIns := [], harness := (true, "80fdcd3fe89de773b94590919e8abe1931ca40a7d1637570324c918c08db10d6"), looks := true }, kinds := [], alts := [], laidByText := true, laidKinds := [.data, .data, .data, .data, .sentinel, .sentinel, .data, .pinned], laidTests := true, laidLooks := .later }
def CodeRefusedUptoCardSaid : Prop := Claim7.holds Tryd.pinned (.plain (OpenSpec.upto codeRefusedSpec)) codeRefusedUptoCard

/-- THE SECOND FORM's CARD OF 'bulkheadlaw04.CodeBack'. -/
def codeBackUptoCard : Claim7 := { stood := { row := codeBackUptoRow, standIns := [], harness := (true, "80fdcd3fe89de773b94590919e8abe1931ca40a7d1637570324c918c08db10d6"), looks := true }, kinds := [], alts := [], laidByText := true, laidKinds := [.data, .data, .data, .data, .sentinel, .sentinel, .data, .pinned], laidTests := true, laidLooks := .later }
def CodeBackUptoCardSaid : Prop := Claim7.holds Tryd.pinned (.plain (OpenSpec.upto codeBackSpec)) codeBackUptoCard
end Rows
end Go.Proofs.YtbaooebafijenaaDoor
