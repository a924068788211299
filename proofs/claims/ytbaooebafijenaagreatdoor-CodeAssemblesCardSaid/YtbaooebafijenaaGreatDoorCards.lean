/-
  DERIVED. GIVEN WITH THE SEED: THE CARDS: each row of YtbaooebafijenaaGreatDoorRows.lean that lists a variable, with what it lists TIED to the program's text (the seventh form; the later family's looks); each row that meets fmt, with fmt's text TOLD by the authors' own Lean function (tested against real Go, not proved from fmt's source: count such statements apart). THE CARD IS WHAT COUNTS. Prove the row's statement (the work); the ties are given (YtbaooebafijenaaGreatDoorTie.lean); close each card by the builder's one call (the guide's Derived/Test/ToyasCard.lean, 'card_holds'). Laid BY PROGRAM, IN A SANDBOX (cutbox-door.mjs). By AI agents, Wed Nov 11 2026. No macro, syntax, notation, axiom, sorry.
-/
import Derived.Test.YtbaooebafijenaaGreatDoorRows
import GoSem.ClaimSeven
namespace Go.Proofs.YtbaooebafijenaaGreatDoor
namespace Rows

/-- THE TIED CARD OF 'bulkheadlaw04.CodeAssembles'. -/
def codeAssemblesCard : Claim7 := { stood := { row := codeAssemblesRow, standIns := [], harness := (true, "042eba833454a7b57f9ec830ffc1c9108be844d1edce50ccf8256091d8ed6415"), looks := true }, kinds := [], alts := [], laidByText := true, laidKinds := [.data, .data, .data, .data, .handle, .sentinel, .sentinel, .data, .data, .pinned], laidTests := true, laidLooks := .later }
def CodeAssemblesCardSaid : Prop := Claim7.holds Tryz.pinned (.plain (OpenSpec.ofChange codeAssemblesSpec)) codeAssemblesCard

/-- THE TIED CARD OF 'bulkheadlaw04.CodeRemarks'. -/
def codeRemarksCard : Claim7 := { stood := { row := codeRemarksRow, standIns := [], harness := (true, "042eba833454a7b57f9ec830ffc1c9108be844d1edce50ccf8256091d8ed6415"), looks := true }, kinds := [], alts := [], laidByText := true, laidKinds := [.data, .data, .data, .data, .handle, .sentinel, .sentinel, .data, .pinned], laidTests := true, laidLooks := .later }
def CodeRemarksCardSaid : Prop := Claim7.holds Tryz.pinned (.plain (OpenSpec.ofChange codeRemarksSpec)) codeRemarksCard

/-- THE SECOND FORM's CARD OF 'bulkheadlaw04.CodeAssembles'. -/
def codeAssemblesUptoCard : Claim7 := { stood := { row := codeAssemblesUptoRow, standIns := [], harness := (true, "042eba833454a7b57f9ec830ffc1c9108be844d1edce50ccf8256091d8ed6415"), looks := true }, kinds := [], alts := [], laidByText := true, laidKinds := [.data, .data, .data, .data, .handle, .sentinel, .sentinel, .data, .data, .pinned], laidTests := true, laidLooks := .later }
def CodeAssemblesUptoCardSaid : Prop := Claim7.holds Tryz.pinned (.plain (OpenSpec.upto codeAssemblesSpec)) codeAssemblesUptoCard

/-- THE SECOND FORM's CARD OF 'bulkheadlaw04.CodeRemarks'. -/
def codeRemarksUptoCard : Claim7 := { stood := { row := codeRemarksUptoRow, standIns := [], harness := (true, "042eba833454a7b57f9ec830ffc1c9108be844d1edce50ccf8256091d8ed6415"), looks := true }, kinds := [], alts := [], laidByText := true, laidKinds := [.data, .data, .data, .data, .handle, .sentinel, .sentinel, .data, .pinned], laidTests := true, laidLooks := .later }
def CodeRemarksUptoCardSaid : Prop := Claim7.holds Tryz.pinned (.plain (OpenSpec.upto codeRemarksSpec)) codeRemarksUptoCard
end Rows
end Go.Proofs.YtbaooebafijenaaGreatDoor
