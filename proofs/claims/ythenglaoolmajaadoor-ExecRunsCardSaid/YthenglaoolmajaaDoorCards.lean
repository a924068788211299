/-
  DERIVED. GIVEN WITH THE SEED: THE CARDS: each row of YthenglaoolmajaaDoorRows.lean that lists a variable, with what it lists TIED to the program's text (the seventh form; the later family's looks); each row that meets fmt, with fmt's text TOLD by the authors' own Lean function (tested against real Go, not proved from fmt's source: count such statements apart). THE CARD IS WHAT COUNTS. Prove the row's statement (the work); the ties are given (YthenglaoolmajaaDoorTie.lean); close each card by the builder's one call (the guide's Derived/Test/ToyasCard.lean, 'card_holds'). Laid BY PROGRAM, IN A SANDBOX (cutbox-door.mjs). By AI agents, Wed Nov 11 2026. No macro, syntax, notation, axiom, sorry.
-/
import Derived.Test.YthenglaoolmajaaDoorRows
import GoSem.ClaimSeven
namespace Go.Proofs.YthenglaoolmajaaDoor
namespace Rows

/-- THE TIED CARD OF 'bulkheadlaw04.CodeWords'. -/
def codeWordsCard : Claim7 := { stood := { row := codeWordsRow, standIns := [], harness := (true, "0f8d965bcf042ebd09f91617d1bb59e510a9d049a6194ece32ed1f43ff6b6575"), looks := false }, kinds := [], alts := [], laidByText := true, laidKinds := [.data, .data], laidTests := true, laidLooks := .later }
def CodeWordsCardSaid : Prop := Claim7.holds Tryd.pinned (.plain (OpenSpec.ofChange codeWordsSpec)) codeWordsCard

/-- THE TIED CARD OF 'bulkheadlaw08.ExecDoes'. -/
def execDoesCard : Claim7 := { stood := { row := execDoesRow, standIns := [], harness := (true, "0f8d965bcf042ebd09f91617d1bb59e510a9d049a6194ece32ed1f43ff6b6575"), looks := false }, kinds := [], alts := [], laidByText := true, laidKinds := [.data], laidTests := true, laidLooks := .later }
def ExecDoesCardSaid : Prop := Claim7.holds Tryd.pinned (.plain (OpenSpec.ofChange execDoesSpec)) execDoesCard

/-- THE TIED CARD OF 'bulkheadlaw08.ExecRuns'. -/
def execRunsCard : Claim7 := { stood := { row := execRunsRow, standIns := [], harness := (true, "0f8d965bcf042ebd09f91617d1bb59e510a9d049a6194ece32ed1f43ff6b6575"), looks := false }, kinds := [], alts := [], laidByText := true, laidKinds := [.data], laidTests := true, laidLooks := .later }
def ExecRunsCardSaid : Prop := Claim7.holds Tryd.pinned (.plain (OpenSpec.ofChange execRunsSpec)) execRunsCard

/-- THE TIED CARD OF 'bulkheadlaw08.ExecOne'. -/
def execOneCard : Claim7 := { stood := { row := execOneRow, standIns := [], harness := (true, "0f8d965bcf042ebd09f91617d1bb59e510a9d049a6194ece32ed1f43ff6b6575"), looks := false }, kinds := [], alts := [], laidByText := true, laidKinds := [.data], laidTests := true, laidLooks := .later }
def ExecOneCardSaid : Prop := Claim7.holds Tryd.pinned (.plain (OpenSpec.ofChange execOneSpec)) execOneCard

/-- THE TIED CARD OF 'bulkheadlaw08.ExecStores'. -/
def execStoresCard : Claim7 := { stood := { row := execStoresRow, standIns := [], harness := (true, "0f8d965bcf042ebd09f91617d1bb59e510a9d049a6194ece32ed1f43ff6b6575"), looks := false }, kinds := [], alts := [], laidByText := true, laidKinds := [.data], laidTests := true, laidLooks := .later }
def ExecStoresCardSaid : Prop := Claim7.holds Tryd.pinned (.plain (OpenSpec.ofChange execStoresSpec)) execStoresCard

/-- THE TIED CARD OF 'bulkheadlaw08.ExecBranches'. -/
def execBranchesCard : Claim7 := { stood := { row := execBranchesRow, standIns := [], harness := (true, "0f8d965bcf042ebd09f91617d1bb59e510a9d049a6194ece32ed1f43ff6b6575"), looks := false }, kinds := [], alts := [], laidByText := true, laidKinds := [.data], laidTests := true, laidLooks := .later }
def ExecBranchesCardSaid : Prop := Claim7.holds Tryd.pinned (.plain (OpenSpec.ofChange execBranchesSpec)) execBranchesCard

/-- THE SECOND FORM's CARD OF 'bulkheadlaw04.CodeWords'. -/
def codeWordsUptoCard : Claim7 := { stood := { row := codeWordsUptoRow, standIns := [], harness := (true, "0f8d965bcf042ebd09f91617d1bb59e510a9d049a6194ece32ed1f43ff6b6575"), looks := false }, kinds := [], alts := [], laidByText := true, laidKinds := [.data, .data], laidTests := true, laidLooks := .later }
def CodeWordsUptoCardSaid : Prop := Claim7.holds Tryd.pinned (.plain (OpenSpec.upto codeWordsSpec)) codeWordsUptoCard

/-- THE SECOND FORM's CARD OF 'bulkheadlaw08.ExecDoes'. -/
def execDoesUptoCard : Claim7 := { stood := { row := execDoesUptoRow, standIns := [], harness := (true, "0f8d965bcf042ebd09f91617d1bb59e510a9d049a6194ece32ed1f43ff6b6575"), looks := false }, kinds := [], alts := [], laidByText := true, laidKinds := [.data], laidTests := true, laidLooks := .later }
def ExecDoesUptoCardSaid : Prop := Claim7.holds Tryd.pinned (.plain (OpenSpec.upto execDoesSpec)) execDoesUptoCard

/-- THE SECOND FORM's CARD OF 'bulkheadlaw08.ExecRuns'. -/
def execRunsUptoCard : Claim7 := { stood := { row := execRunsUptoRow, standIns := [], harness := (true, "0f8d965bcf042ebd09f91617d1bb59e510a9d049a6194ece32ed1f43ff6b6575"), looks := false }, kinds := [], alts := [], laidByText := true, laidKinds := [.data], laidTests := true, laidLooks := .later }
def ExecRunsUptoCardSaid : Prop := Claim7.holds Tryd.pinned (.plain (OpenSpec.upto execRunsSpec)) execRunsUptoCard

/-- THE SECOND FORM's CARD OF 'bulkheadlaw08.ExecOne'. -/
def execOneUptoCard : Claim7 := { stood := { row := execOneUptoRow, standIns := [], harness := (true, "0f8d965bcf042ebd09f91617d1bb59e510a9d049a6194ece32ed1f43ff6b6575"), looks := false }, kinds := [], alts := [], laidByText := true, laidKinds := [.data], laidTests := true, laidLooks := .later }
def ExecOneUptoCardSaid : Prop := Claim7.holds Tryd.pinned (.plain (OpenSpec.upto execOneSpec)) execOneUptoCard

/-- THE SECOND FORM's CARD OF 'bulkheadlaw08.ExecStores'. -/
def execStoresUptoCard : Claim7 := { stood := { row := execStoresUptoRow, standIns := [], harness := (true, "0f8d965bcf042ebd09f91617d1bb59e510a9d049a6194ece32ed1f43ff6b6575"), looks := false }, kinds := [], alts := [], laidByText := true, laidKinds := [.data], laidTests := true, laidLooks := .later }
def ExecStoresUptoCardSaid : Prop := Claim7.holds Tryd.pinned (.plain (OpenSpec.upto execStoresSpec)) execStoresUptoCard

/-- THE SECOND FORM's CARD OF 'bulkheadlaw08.ExecBranches'. -/
def execBranchesUptoCard : Claim7 := { stood := { row := execBranchesUptoRow, standIns := [], harness := (true, "0f8d965bcf042ebd09f91617d1bb59e510a9d049a6194ece32ed1f43ff6b6575"), looks := false }, kinds := [], alts := [], laidByText := true, laidKinds := [.data], laidTests := true, laidLooks := .later }
def ExecBranchesUptoCardSaid : Prop := Claim7.holds Tryd.pinned (.plain (OpenSpec.upto execBranchesSpec)) execBranchesUptoCard
end Rows
end Go.Proofs.YthenglaoolmajaaDoor
