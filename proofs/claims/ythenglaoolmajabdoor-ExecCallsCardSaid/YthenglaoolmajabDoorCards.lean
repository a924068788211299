/-
  DERIVED. GIVEN WITH THE SEED: THE CARDS: each row of YthenglaoolmajabDoorRows.lean that lists a variable, with what it lists TIED to the program's text (the seventh form; the later family's looks); each row that meets fmt, with fmt's text TOLD by the authors' own Lean function (tested against real Go, not proved from fmt's source: count such statements apart). THE CARD IS WHAT COUNTS. Prove the row's statement (the work); the ties are given (YthenglaoolmajabDoorTie.lean); close each card by the builder's one call (the guide's Derived/Test/ToyasCard.lean, 'card_holds'). Laid BY PROGRAM, IN A SANDBOX (cutbox-door.mjs). By AI agents, Wed Nov 11 2026. No macro, syntax, notation, axiom, sorry.
-/
import Derived.Test.YthenglaoolmajabDoorRows
import GoSem.ClaimSeven
namespace Go.Proofs.YthenglaoolmajabDoor
namespace Rows

/-- THE TIED CARD OF 'bulkheadlaw08.ExecCalls'. -/
def execCallsCard : Claim7 := { stood := { row := execCallsRow, standIns := [], harness := (true, "9bf7a6c792d888ab98c1a72ec25710eeab8c56eb12a04a83c25a96e873b813b5"), looks := false }, kinds := [], alts := [], laidByText := true, laidKinds := [.data], laidTests := true, laidLooks := .later }
def ExecCallsCardSaid : Prop := Claim7.holds Tryd.pinned (.plain (OpenSpec.ofChange execCallsSpec)) execCallsCard

/-- THE SECOND FORM's CARD OF 'bulkheadlaw08.ExecCalls'. -/
def execCallsUptoCard : Claim7 := { stood := { row := execCallsUptoRow, standIns := [], harness := (true, "9bf7a6c792d888ab98c1a72ec25710eeab8c56eb12a04a83c25a96e873b813b5"), looks := false }, kinds := [], alts := [], laidByText := true, laidKinds := [.data], laidTests := true, laidLooks := .later }
def ExecCallsUptoCardSaid : Prop := Claim7.holds Tryd.pinned (.plain (OpenSpec.upto execCallsSpec)) execCallsUptoCard
end Rows
end Go.Proofs.YthenglaoolmajabDoor
