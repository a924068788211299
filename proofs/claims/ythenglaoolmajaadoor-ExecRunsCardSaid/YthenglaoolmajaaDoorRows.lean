/-
  NARROWER THAN 'FOR EVERY INPUT', by the rows' own cells (each row's printed sentence says how): CodeWords: laid · ExecDoes: laid · ExecRuns: laid · ExecOne: laid · ExecStores: laid · ExecBranches: laid.
  DERIVED. THE GIVEN ROWS OF THIS SEAT. 6 by the template 'for every input the law returns true; each argument reads behind the call as it read before'; 0 by the template 'total and deterministic' (their statements: YthenglaoolmajaaDoorTotals.lean).
  GIVEN WITH THE SEED: the statements are not yours to turn. If you find one false, say at which input.
  Laid BY PROGRAM, IN A SANDBOX (cutbox-rows.mjs): the forced cells as the released guide's own fill.sh prints them over the translation 3123b3cd3f966fa2… (all of the seat's roots in one cut). By AI agents, Wed Nov 11 2026. No macro, syntax, notation, axiom, sorry.
-/
import Derived.Test.YthenglaoolmajaaDoorChecked
import GoSem.Claim
import GoSem.ClaimJoined
import GoSem.ClaimMapViews
import Derived.JoinedTies
import Derived.KernelRfl
namespace Go.Proofs.YthenglaoolmajaaDoor
/- THE CELL 'sum', in the pinned program and in every row, IS THE sha256 OF THE DUMP (.gsa) THAT YthenglaoolmajaaDoorProg.lean LOADS. Nothing in Lean hashes anything: it is a label: what it is worth is what the hold of that sum in a sandbox is worth. -/
noncomputable def Tryd.pinned : Pinned := { name := "ythenglaoolmajaadoor", sum := "3123b3cd3f966fa233b7bf9bc9cd3b5a6d03ea448eb4392ca104bc090df432a7", checked := Tryd.checked }
namespace Rows
def none {H : Type} : Left H := { results := [], args := [] }

/- WHAT THE LISTED PACKAGE-LEVEL VARIABLES READ AS WHEN THE CALL BEGINS. Each datum BY PROGRAM (the guide's laid-datum.mjs) off the statement by which the dump's own 'gosem.cut.vars' lays the variable. In a bare row this is a premise. The card (YthenglaoolmajaaDoorCards.lean) ties it to the program's text. -/
def laid_bulkhead_bulkheadref04_names {H : Type} : DataW H := .agg [.lit (.string []), .lit (.string [110, 111, 112]), .lit (.string [97, 100, 100]), .lit (.string [115, 117, 98]), .lit (.string [109, 117, 108]), .lit (.string [109, 117, 108, 104]), .lit (.string [100, 105, 118]), .lit (.string [100, 105, 118, 117]), .lit (.string [114, 101, 109]), .lit (.string [114, 101, 109, 117]), .lit (.string [97, 110, 100]), .lit (.string [111, 114]), .lit (.string [120, 111, 114]), .lit (.string [115, 104, 108]), .lit (.string [115, 104, 114]), .lit (.string [115, 97, 114]), .lit (.string [115, 108, 116]), .lit (.string [115, 108, 116, 117]), .lit (.string [97, 100, 100, 105]), .lit (.string [97, 110, 100, 105]), .lit (.string [111, 114, 105]), .lit (.string [120, 111, 114, 105]), .lit (.string [115, 104, 108, 105]), .lit (.string [115, 104, 114, 105]), .lit (.string [115, 97, 114, 105]), .lit (.string [115, 108, 116, 105]), .lit (.string [115, 108, 116, 105, 117]), .lit (.string [108, 117, 105]), .lit (.string [108, 119]), .lit (.string [108, 104]), .lit (.string [108, 104, 117]), .lit (.string [108, 98]), .lit (.string [108, 98, 117]), .lit (.string [115, 119]), .lit (.string [115, 104]), .lit (.string [115, 98]), .lit (.string [102, 108, 100]), .lit (.string [102, 115, 100]), .lit (.string [98, 101, 113]), .lit (.string [98, 110, 101]), .lit (.string [98, 108, 116]), .lit (.string [98, 103, 101]), .lit (.string [98, 108, 116, 117]), .lit (.string [98, 103, 101, 117]), .lit (.string [106, 97, 108]), .lit (.string [106, 97, 108, 114]), .lit (.string [102, 97, 100, 100]), .lit (.string [102, 115, 117, 98]), .lit (.string [102, 109, 117, 108]), .lit (.string [102, 100, 105, 118]), .lit (.string [102, 115, 113, 114, 116]), .lit (.string [102, 109, 105, 110]), .lit (.string [102, 109, 97, 120]), .lit (.string [102, 110, 101, 103]), .lit (.string [102, 97, 98, 115]), .lit (.string [102, 101, 113]), .lit (.string [102, 108, 116]), .lit (.string [102, 108, 101]), .lit (.string [102, 99, 108, 97, 115, 115]), .lit (.string [102, 99, 118, 116, 100]), .lit (.string [102, 99, 118, 116, 119]), .lit (.string [102, 109, 118, 108]), .lit (.string [102, 109, 118, 104]), .lit (.string [102, 112, 117, 116]), .lit (.string [101, 99, 97, 108, 108]), .lit (.string [98, 114, 107]), .lit (.string [104, 99, 97, 108, 108]), .lit (.string [101, 114, 101, 116]), .lit (.string [109, 102, 99]), .lit (.string [109, 116, 99]), .lit (.string [119, 102, 105]), .lit (.string [104, 97, 108, 116])]
def laid_bulkhead_code_shapes {H : Type} : DataW H := .agg [.lit (.string []), .lit (.string []), .lit (.string [97, 98, 99]), .lit (.string [97, 98, 105]), .lit (.string [97, 105]), .lit (.string [97, 105, 98]), .lit (.string [65, 105, 98]), .lit (.string [97, 98, 105]), .lit (.string [97, 105]), .lit (.string [65, 66, 67]), .lit (.string [65, 66]), .lit (.string [97, 66, 67]), .lit (.string [97, 66]), .lit (.string [65, 98]), .lit (.string [65, 98, 99]), .lit (.string [97, 105])]

/-- 'bulkheadlaw04.CodeWords': WHATEVER THE INPUT: true; the input reads as it did. -/
def codeWordsSpec : ChangeSpec := { name := "codeWords", fn := fun _ => fun
  | [d1, d2, d3] => { results := [.lit (.bool true)], args := [d1, d2, d3] }
  | _ => none }
def codeWordsRow : OpenClaim := { program := "ythenglaoolmajaadoor", sum := "3123b3cd3f966fa233b7bf9bc9cd3b5a6d03ea448eb4392ca104bc090df432a7", func := "bulkhead/bulkheadlaw04.CodeWords", spec := "codeWords", inPlace := ["internal/bytealg.IndexByteString", "internal/bytealg.IndexString"], named := ["bulkhead/code.shapes", "internal/bytealg.MaxLen", "bulkhead/bulkheadref04.names"], apart := false, laid := [("bulkhead/bulkheadref04.names", laid_bulkhead_bulkheadref04_names), ("bulkhead/code.shapes", laid_bulkhead_code_shapes)] }
def CodeWordsSaid : Prop := codeWordsRow.holds Tryd.pinned (OpenSpec.ofChange codeWordsSpec)

/-- ITS FALSE NEIGHBOUR: 'it returns false'. Refute it at one input. -/
def codeWordsWrong : ChangeSpec := { name := "codeWords", fn := fun _ => fun
  | [d1, d2, d3] => { results := [.lit (.bool false)], args := [d1, d2, d3] }
  | _ => none }
def CodeWordsWrongFalsely : Prop := codeWordsRow.holds Tryd.pinned (OpenSpec.ofChange codeWordsWrong)

/-- 'bulkheadlaw08.ExecDoes': WHATEVER THE INPUT: true; the input reads as it did. -/
def execDoesSpec : ChangeSpec := { name := "execDoes", fn := fun _ => fun
  | [d1, d2, d3] => { results := [.lit (.bool true)], args := [d1, d2, d3] }
  | _ => none }
def execDoesRow : OpenClaim := { program := "ythenglaoolmajaadoor", sum := "3123b3cd3f966fa233b7bf9bc9cd3b5a6d03ea448eb4392ca104bc090df432a7", func := "bulkhead/bulkheadlaw08.ExecDoes", spec := "execDoes", inPlace := ["internal/bytealg.IndexByteString", "internal/bytealg.IndexString", "math.Float64frombits", "math.Float64bits", "math.sqrt"], named := ["bulkhead/code.shapes", "internal/bytealg.MaxLen"], apart := false, laid := [("bulkhead/code.shapes", laid_bulkhead_code_shapes)] }
def ExecDoesSaid : Prop := execDoesRow.holds Tryd.pinned (OpenSpec.ofChange execDoesSpec)

/-- ITS FALSE NEIGHBOUR: 'it returns false'. Refute it at one input. -/
def execDoesWrong : ChangeSpec := { name := "execDoes", fn := fun _ => fun
  | [d1, d2, d3] => { results := [.lit (.bool false)], args := [d1, d2, d3] }
  | _ => none }
def ExecDoesWrongFalsely : Prop := execDoesRow.holds Tryd.pinned (OpenSpec.ofChange execDoesWrong)

/-- 'bulkheadlaw08.ExecRuns': WHATEVER THE INPUT: true; the input reads as it did. -/
def execRunsSpec : ChangeSpec := { name := "execRuns", fn := fun _ => fun
  | [d1, d2, d3] => { results := [.lit (.bool true)], args := [d1, d2, d3] }
  | _ => none }
def execRunsRow : OpenClaim := { program := "ythenglaoolmajaadoor", sum := "3123b3cd3f966fa233b7bf9bc9cd3b5a6d03ea448eb4392ca104bc090df432a7", func := "bulkhead/bulkheadlaw08.ExecRuns", spec := "execRuns", inPlace := ["internal/bytealg.IndexByteString", "internal/bytealg.IndexString", "math.Float64frombits", "math.Float64bits", "math.sqrt"], named := ["bulkhead/code.shapes", "internal/bytealg.MaxLen"], apart := false, laid := [("bulkhead/code.shapes", laid_bulkhead_code_shapes)] }
def ExecRunsSaid : Prop := execRunsRow.holds Tryd.pinned (OpenSpec.ofChange execRunsSpec)

/-- ITS FALSE NEIGHBOUR: 'it returns false'. Refute it at one input. -/
def execRunsWrong : ChangeSpec := { name := "execRuns", fn := fun _ => fun
  | [d1, d2, d3] => { results := [.lit (.bool false)], args := [d1, d2, d3] }
  | _ => none }
def ExecRunsWrongFalsely : Prop := execRunsRow.holds Tryd.pinned (OpenSpec.ofChange execRunsWrong)

/-- 'bulkheadlaw08.ExecOne': WHATEVER THE INPUT: true; the input reads as it did. -/
def execOneSpec : ChangeSpec := { name := "execOne", fn := fun _ => fun
  | [d1, d2, d3] => { results := [.lit (.bool true)], args := [d1, d2, d3] }
  | _ => none }
def execOneRow : OpenClaim := { program := "ythenglaoolmajaadoor", sum := "3123b3cd3f966fa233b7bf9bc9cd3b5a6d03ea448eb4392ca104bc090df432a7", func := "bulkhead/bulkheadlaw08.ExecOne", spec := "execOne", inPlace := ["internal/bytealg.IndexByteString", "internal/bytealg.IndexString", "math.Float64frombits", "math.Float64bits", "math.sqrt"], named := ["bulkhead/code.shapes", "internal/bytealg.MaxLen"], apart := false, laid := [("bulkhead/code.shapes", laid_bulkhead_code_shapes)] }
def ExecOneSaid : Prop := execOneRow.holds Tryd.pinned (OpenSpec.ofChange execOneSpec)

/-- ITS FALSE NEIGHBOUR: 'it returns false'. Refute it at one input. -/
def execOneWrong : ChangeSpec := { name := "execOne", fn := fun _ => fun
  | [d1, d2, d3] => { results := [.lit (.bool false)], args := [d1, d2, d3] }
  | _ => none }
def ExecOneWrongFalsely : Prop := execOneRow.holds Tryd.pinned (OpenSpec.ofChange execOneWrong)

/-- 'bulkheadlaw08.ExecStores': WHATEVER THE INPUT: true; the input reads as it did. -/
def execStoresSpec : ChangeSpec := { name := "execStores", fn := fun _ => fun
  | [d1, d2, d3, d4] => { results := [.lit (.bool true)], args := [d1, d2, d3, d4] }
  | _ => none }
def execStoresRow : OpenClaim := { program := "ythenglaoolmajaadoor", sum := "3123b3cd3f966fa233b7bf9bc9cd3b5a6d03ea448eb4392ca104bc090df432a7", func := "bulkhead/bulkheadlaw08.ExecStores", spec := "execStores", inPlace := ["internal/bytealg.IndexByteString", "internal/bytealg.IndexString", "math.Float64frombits", "math.Float64bits", "math.sqrt"], named := ["bulkhead/code.shapes", "internal/bytealg.MaxLen"], apart := false, laid := [("bulkhead/code.shapes", laid_bulkhead_code_shapes)] }
def ExecStoresSaid : Prop := execStoresRow.holds Tryd.pinned (OpenSpec.ofChange execStoresSpec)

/-- ITS FALSE NEIGHBOUR: 'it returns false'. Refute it at one input. -/
def execStoresWrong : ChangeSpec := { name := "execStores", fn := fun _ => fun
  | [d1, d2, d3, d4] => { results := [.lit (.bool false)], args := [d1, d2, d3, d4] }
  | _ => none }
def ExecStoresWrongFalsely : Prop := execStoresRow.holds Tryd.pinned (OpenSpec.ofChange execStoresWrong)

/-- 'bulkheadlaw08.ExecBranches': WHATEVER THE INPUT: true; the input reads as it did. -/
def execBranchesSpec : ChangeSpec := { name := "execBranches", fn := fun _ => fun
  | [d1, d2, d3, d4] => { results := [.lit (.bool true)], args := [d1, d2, d3, d4] }
  | _ => none }
def execBranchesRow : OpenClaim := { program := "ythenglaoolmajaadoor", sum := "3123b3cd3f966fa233b7bf9bc9cd3b5a6d03ea448eb4392ca104bc090df432a7", func := "bulkhead/bulkheadlaw08.ExecBranches", spec := "execBranches", inPlace := ["internal/bytealg.IndexByteString", "internal/bytealg.IndexString", "math.Float64frombits", "math.Float64bits", "math.sqrt"], named := ["bulkhead/code.shapes", "internal/bytealg.MaxLen"], apart := false, laid := [("bulkhead/code.shapes", laid_bulkhead_code_shapes)] }
def ExecBranchesSaid : Prop := execBranchesRow.holds Tryd.pinned (OpenSpec.ofChange execBranchesSpec)

/-- ITS FALSE NEIGHBOUR: 'it returns false'. Refute it at one input. -/
def execBranchesWrong : ChangeSpec := { name := "execBranches", fn := fun _ => fun
  | [d1, d2, d3, d4] => { results := [.lit (.bool false)], args := [d1, d2, d3, d4] }
  | _ => none }
def ExecBranchesWrongFalsely : Prop := execBranchesRow.holds Tryd.pinned (OpenSpec.ofChange execBranchesWrong)

/- THE SECOND FORM. 'bulk': how many values and letters a reading holds, each counted each time it is reached (what is shared counts as often as it is met; a slice's spare places count too). A statement '..UptoSaid' is the law's where the arguments, and the package variables that the reading takes, are together of bulk at most 1048576: NARROWER than '..Said'. Prove '..Said' where nothing that the law and all that it calls make is longer than what came in: it says more and counts as full. Else prove '..UptoSaid'. A law counts once. -/
mutual
def uptoBulk {H : Type} : DataW H → Nat
  | .lit (.string bytes) => bytes.length + 1
  | .lit _ => 1
  | .nil => 1
  | .ptr d => uptoBulk d + 1
  | .slice elems spare => uptoBulkAll elems + uptoBulkAll spare + 1
  | .agg parts => uptoBulkAll parts + 1
  | .iface _ d => uptoBulk d + 1
  | .map entries => uptoBulkEntries entries + 1
  | .held _ => 1
def uptoBulkAll {H : Type} : List (DataW H) → Nat
  | [] => 0
  | d :: r => uptoBulk d + uptoBulkAll r
def uptoBulkEntries {H : Type} : List (Lit × DataW H) → Nat
  | [] => 0
  | x :: r => uptoBulkEntry x + uptoBulkEntries r
def uptoBulkEntry {H : Type} : Lit × DataW H → Nat
  | (.string bytes, d) => bytes.length + uptoBulk d + 1
  | (_, d) => uptoBulk d + 1
 end
def uptoSmall : (H : Type) → List (DataW H) → Bool := fun _ ds => decide (uptoBulkAll ds ≤ 1048576)
def OpenSpec.upto (s : _root_.Go.ChangeSpec) : _root_.Go.OpenSpec := { _root_.Go.OpenSpec.ofChange s with cond := some uptoSmall }

/-- 'bulkheadlaw04.CodeWords', WHERE WHAT IT READS IS OF BULK AT MOST 1048576: true; the input reads as it did. -/
def codeWordsUptoRow : OpenClaim := { program := "ythenglaoolmajaadoor", sum := "3123b3cd3f966fa233b7bf9bc9cd3b5a6d03ea448eb4392ca104bc090df432a7", func := "bulkhead/bulkheadlaw04.CodeWords", spec := "codeWords", inPlace := ["internal/bytealg.IndexByteString", "internal/bytealg.IndexString"], named := ["bulkhead/code.shapes", "internal/bytealg.MaxLen", "bulkhead/bulkheadref04.names"], apart := false, laid := [("bulkhead/bulkheadref04.names", laid_bulkhead_bulkheadref04_names), ("bulkhead/code.shapes", laid_bulkhead_code_shapes)], narrowed := true }
def CodeWordsUptoSaid : Prop := codeWordsUptoRow.holds Tryd.pinned (OpenSpec.upto codeWordsSpec)

/-- 'bulkheadlaw08.ExecDoes', WHERE WHAT IT READS IS OF BULK AT MOST 1048576: true; the input reads as it did. -/
def execDoesUptoRow : OpenClaim := { program := "ythenglaoolmajaadoor", sum := "3123b3cd3f966fa233b7bf9bc9cd3b5a6d03ea448eb4392ca104bc090df432a7", func := "bulkhead/bulkheadlaw08.ExecDoes", spec := "execDoes", inPlace := ["internal/bytealg.IndexByteString", "internal/bytealg.IndexString", "math.Float64frombits", "math.Float64bits", "math.sqrt"], named := ["bulkhead/code.shapes", "internal/bytealg.MaxLen"], apart := false, laid := [("bulkhead/code.shapes", laid_bulkhead_code_shapes)], narrowed := true }
def ExecDoesUptoSaid : Prop := execDoesUptoRow.holds Tryd.pinned (OpenSpec.upto execDoesSpec)

/-- 'bulkheadlaw08.ExecRuns', WHERE WHAT IT READS IS OF BULK AT MOST 1048576: true; the input reads as it did. -/
def execRunsUptoRow : OpenClaim := { program := "ythenglaoolmajaadoor", sum := "3123b3cd3f966fa233b7bf9bc9cd3b5a6d03ea448eb4392ca104bc090df432a7", func := "bulkhead/bulkheadlaw08.ExecRuns", spec := "execRuns", inPlace := ["internal/bytealg.IndexByteString", "internal/bytealg.IndexString", "math.Float64frombits", "math.Float64bits", "math.sqrt"], named := ["bulkhead/code.shapes", "internal/bytealg.MaxLen"], apart := false, laid := [("bulkhead/code.shapes", laid_bulkhead_code_shapes)], narrowed := true }
def ExecRunsUptoSaid : Prop := execRunsUptoRow.holds Tryd.pinned (OpenSpec.upto execRunsSpec)

/-- 'bulkheadlaw08.ExecOne', WHERE WHAT IT READS IS OF BULK AT MOST 1048576: true; the input reads as it did. -/
def execOneUptoRow : OpenClaim := { program := "ythenglaoolmajaadoor", sum := "3123b3cd3f966fa233b7bf9bc9cd3b5a6d03ea448eb4392ca104bc090df432a7", func := "bulkhead/bulkheadlaw08.ExecOne", spec := "execOne", inPlace := ["internal/bytealg.IndexByteString", "internal/bytealg.IndexString", "math.Float64frombits", "math.Float64bits", "math.sqrt"], named := ["bulkhead/code.shapes", "internal/bytealg.MaxLen"], apart := false, laid := [("bulkhead/code.shapes", laid_bulkhead_code_shapes)], narrowed := true }
def ExecOneUptoSaid : Prop := execOneUptoRow.holds Tryd.pinned (OpenSpec.upto execOneSpec)

/-- 'bulkheadlaw08.ExecStores', WHERE WHAT IT READS IS OF BULK AT MOST 1048576: true; the input reads as it did. -/
def execStoresUptoRow : OpenClaim := { program := "ythenglaoolmajaadoor", sum := "3123b3cd3f966fa233b7bf9bc9cd3b5a6d03ea448eb4392ca104bc090df432a7", func := "bulkhead/bulkheadlaw08.ExecStores", spec := "execStores", inPlace := ["internal/bytealg.IndexByteString", "internal/bytealg.IndexString", "math.Float64frombits", "math.Float64bits", "math.sqrt"], named := ["bulkhead/code.shapes", "internal/bytealg.MaxLen"], apart := false, laid := [("bulkhead/code.shapes", laid_bulkhead_code_shapes)], narrowed := true }
def ExecStoresUptoSaid : Prop := execStoresUptoRow.holds Tryd.pinned (OpenSpec.upto execStoresSpec)

/-- 'bulkheadlaw08.ExecBranches', WHERE WHAT IT READS IS OF BULK AT MOST 1048576: true; the input reads as it did. -/
def execBranchesUptoRow : OpenClaim := { program := "ythenglaoolmajaadoor", sum := "3123b3cd3f966fa233b7bf9bc9cd3b5a6d03ea448eb4392ca104bc090df432a7", func := "bulkhead/bulkheadlaw08.ExecBranches", spec := "execBranches", inPlace := ["internal/bytealg.IndexByteString", "internal/bytealg.IndexString", "math.Float64frombits", "math.Float64bits", "math.sqrt"], named := ["bulkhead/code.shapes", "internal/bytealg.MaxLen"], apart := false, laid := [("bulkhead/code.shapes", laid_bulkhead_code_shapes)], narrowed := true }
def ExecBranchesUptoSaid : Prop := execBranchesUptoRow.holds Tryd.pinned (OpenSpec.upto execBranchesSpec)

end Rows
end Go.Proofs.YthenglaoolmajaaDoor
