/- What the rows of the exec layer share: the program's functions are followed by the evaluator; the memory at the start. -/
import Derived.Test.YthenglaoolmajaaDoorExecA
import Derived.Test.YthenglaoolmajaaDoorEvRegs
import Derived.Test.YthenglaoolmajaaDoorCards
import Derived.Test.YthenglaoolmajaaDoorTie
import Derived.WalkKit
import Derived.ProofKit
import Derived.OpenShut
import Derived.Deep.DeepHandedRow
import Derived.Lib.LaidTab
namespace Go.Proofs.YthenglaoolmajaaDoor
open Go Go.Ev Go.ChangeShapes Go.WideShapes Go.ChangeAt Go.RowKit
set_option maxRecDepth 100000
set_option linter.unusedSimpArgs false
set_option linter.unusedVariables false
def shapesB : List (List UInt8) := [[], [], [97, 98, 99], [97, 98, 105], [97, 105], [97, 105, 98], [65, 105, 98], [97, 98, 105], [97, 105], [65, 66, 67], [65, 66], [97, 66, 67], [97, 66], [65, 98], [65, 98, 99], [97, 105]]
theorem shapesB_eq : strCells shapesB = shapesC := by kernel_rfl
theorem own : ownKnob Tryd.prog.godebug = none := by kernel_rfl
theorem gShapes : Tryd.prog.globalNamed "bulkhead/code.shapes" = some 1 := by kernel_rfl
theorem tShapes : (Tryd.prog.globals[1]?).map (·.type) = some 77 := by kernel_rfl
theorem u77 : Tryd.prog.underlying 77 = some (.array 16 9) := by kernel_rfl
theorem u9 : Tryd.prog.underlying 9 = some .string := by kernel_rfl
theorem u3 : Tryd.prog.underlying 3 = some (.int .i64) := by kernel_rfl
theorem u4 : Tryd.prog.underlying 4 = some .bool := by kernel_rfl
theorem u35 : Tryd.prog.underlying 35 = some (.int .u64) := by kernel_rfl
theorem c77 : Tryd.prog.cellsOf 77 = 16 := by kernel_rfl
theorem c9 : Tryd.prog.cellsOf 9 = 1 := by kernel_rfl
theorem nGlobals : Tryd.prog.globals.size = 4 := by kernel_rfl
theorem mixed : Tryd.prog.follows .mixedOrders = true := by kernel_rfl
theorem namesOk : Tryd.prog.funcs.toList.all (fun fn => fn.name != "runtime.NumGoroutine") = true := by kernel_rfl
theorem noNum (f : FuncId) (fn : Func) (h : Tryd.prog.funcs[f]? = some fn) : fn.name ≠ "runtime.NumGoroutine" := by
  have h1 : fn ∈ Tryd.prog.funcs.toList := by
    rw [Array.mem_toList_iff]
    exact Array.mem_of_getElem? h
  have := List.all_eq_true.1 namesOk fn h1
  simpa using this
theorem ok0 (n : Nat) : CallsOK Tryd.prog (evCall cf0 n) :=
  evCall_ok (cf := cf0) (fun f args v h => by cases h) noNum (fun n h => drawOK h mixed) n
/-- what is told of the functions that are not followed -/
def XtOK [Xt] : Prop := ∀ f args v, (f = 57 ∨ f = 60 ∨ f = 61 ∨ f = 69 ∨ f = 70 ∨ f = 72 ∨ f = 73) → Xt.x f args = some v →
  (args.all flat = true ∧ flat v = true) ∧ (∃ fn, Tryd.prog.funcs[f]? = some fn ∧ fn.name ≠ "runtime.NumGoroutine" ∧ fn.body.isSome = true) ∧
  ∀ w, (∃ ρ H, Sim Tryd.prog ρ H w) → Calls Tryd.prog f ⟨args⟩ w fun e w' => e = .returned v ∧ (∀ b, b < w.heap.size → w'.heap[b]? = w.heap[b]?) ∧ w.heap.size ≤ w'.heap.size ∧ w'.tape = w.tape ∧ w'.os = w.os ∧ w'.output = w.output
theorem extOK [Xt] (hX : XtOK) : ExtOK Tryd.prog extC := by
  intro f args v h
  unfold extC at h
  split at h
  · unfold ext45 at h
    split at h
    · cases h
      exact tells (ok0 1) rfl rfl forms45
    · cases h
  · unfold ext44 at h
    split at h
    · rename_i s t
      split at h
      · rename_i ht
        cases h
        obtain rfl : t = ⟨#[105]⟩ := by
          cases t; rename_i d
          have : d.toList = (#[105] : Array UInt8).toList := ht
          rw [Array.toList_inj.1 this]
        refine ⟨⟨rfl, rfl⟩, ⟨Tryd.f44, Tryd.func44, noNum _ _ Tryd.func44, by kernel_rfl⟩, fun w _ => ?_⟩
        refine (Tryd.strings_Contains_one s 105 w).mono ?_
        rintro e w' ⟨rfl, rfl⟩
        exact ⟨rfl, fun _ _ => rfl, Nat.le_refl _, rfl, rfl, rfl⟩
      · cases h
    · cases h
  all_goals first | exact hX _ _ _ (by decide) h | cases h
theorem okc [Xt] (hX : XtOK) (n : Nat) : CallsOK Tryd.prog (evCall cfc n) :=
  evCall_ok (cf := cfc) (extOK hX) noNum (fun n h => drawOK h mixed) n

def ren0 : Ren := fun i => if i < 4 then some (i, 0) else none
theorem tab_get (i : Nat) : (Hp.fl).get i = if i = 1 then some (.ro shapesC) else none := by
  have : (Hp.fl).get i = TAB.get i := rfl
  rw [this, TAB, Map.get_put]
  rfl
theorem base_get (i : Nat) : (Tabs.base : Map Blk).get i = if i = 1 then some (.ro shapesC) else none := tab_get i
theorem globals_there {W : World} (h : W.ShapedOpen Tryd.prog) : 4 ≤ W.heap.size := by
  have h0 : (((begin Tryd.prog (fun _ _ => 0) default).world.heap[3]?).bind Obj.row?).isSome = true := by kernel_rfl
  obtain ⟨⟨z, t⟩, hz⟩ := Option.isSome_iff_exists.1 h0
  obtain ⟨cs, hh, _⟩ := h.1 3 z t (by rw [nGlobals]; decide) hz
  have := (Array.getElem?_eq_some_iff.1 hh).1
  omega
theorem start_sim {W : World} (hsh : W.ShapedOpen Tryd.prog) (hs : ∃ u z, W.heap[1]? = some (.cells shapesC.toArray u z)) : Sim Tryd.prog ren0 Hp.fl W := by
  have h4 := globals_there hsh
  refine Sim.start rfl (fun i b d h => ?_) (fun g hg => ?_) (Nat.le_refl _) (fun i _ => rfl) (by rw [nGlobals]; decide) (fun i x hi h => ?_) (fun i x b d h hr => ?_)
  · unfold ren0 at h
    split at h
    · cases h; rename_i hi; exact ⟨hi, by omega⟩
    · cases h
  · rw [nGlobals] at hg
    simp [ren0, hg]
  · rw [base_get] at h
    split at h
    · cases h; exact ⟨_, rfl, by kernel_rfl⟩
    · cases h
  · rw [tab_get] at h
    split at h
    · rename_i hi; subst hi; cases h; cases hr
      exact blkR_of_cells (by kernel_rfl) hs
    · cases h
theorem tables {W : World} {laid : List (String × DataW Unit)} (hl : laid = [("bulkhead/code.shapes", Rows.laid_bulkhead_code_shapes)]) (h : laidMetH Tryd.prog laid W) : ∃ u z, W.heap[1]? = some (.cells shapesC.toArray u z) := by
  subst hl
  obtain ⟨ps, h⟩ := laidMetH_plain (by kernel_rfl) h
  have e2 : Rows.laid_bulkhead_code_shapes = (strData shapesB : DataW Unit) := by kernel_rfl
  rw [e2] at h
  obtain ⟨h3, _⟩ := laid_str gShapes tShapes u77 u9 c9 c77 h
  rw [shapesB_eq] at h3
  exact h3
theorem agg_regs {W : World} {v : Value} {b : Nat} (hval : Value.okWide Tryd.prog W .any b 38 v) (h : ScL regsSc v.cells.toList) : ∃ R F pc, v = .agg (regs R F pc).toArray ∧ (∀ i, i < 16 → inK .u32 (R i)) ∧ (∀ i, i < 8 → inK .u64 (F i)) ∧ (0 ≤ pc ∧ pc < 4294967296) := by
  obtain ⟨cs, rfl⟩ := agg_of (t := 38) (by kernel_rfl) hval
  have h' : ScL regsSc cs.toList := h
  obtain ⟨R, F, pc, e, hR, hF, hp⟩ := sc_regs h'
  refine ⟨R, F, pc, ?_, hR, hF, hp.1, ?_⟩
  · have : cs = (regs R F pc).toArray := by rw [← e]
    rw [this]
  · have : pc ≤ 4294967295 := hp.2
    omega
theorem agg_instr {W : World} {v : Value} {b : Nat} (hval : Value.okWide Tryd.prog W .any b 23 v) (h : ScL [.int .i64, .int .i64, .int .i64, .int .i64, .int .i64] v.cells.toList) : ∃ op A B C I, v = .agg #[.int .i64 op, .int .i64 A, .int .i64 B, .int .i64 C, .int .i64 I] ∧ inK .i64 op ∧ inK .i64 A ∧ inK .i64 B ∧ inK .i64 C ∧ inK .i64 I := by
  obtain ⟨cs, rfl⟩ := agg_of (t := 23) (by kernel_rfl) hval
  have hs1' : ScL [.int .i64, .int .i64, .int .i64, .int .i64, .int .i64] cs.toList := h
  obtain ⟨op, t1, e1, r1, hs1'⟩ := sc_cons hs1'
  obtain ⟨A, t2, rfl, r2, hs1'⟩ := sc_cons hs1'
  obtain ⟨B, t3, rfl, r3, hs1'⟩ := sc_cons hs1'
  obtain ⟨C, t4, rfl, r4, hs1'⟩ := sc_cons hs1'
  obtain ⟨I, t5, rfl, r5, hs1'⟩ := sc_cons hs1'
  obtain rfl := sc_nil hs1'
  refine ⟨op, A, B, C, I, ?_, r1, r2, r3, r4, r5⟩
  have : cs = #[.int .i64 op, .int .i64 A, .int .i64 B, .int .i64 C, .int .i64 I] := by cases cs; simp_all
  rw [this]
/-- a world for the witnesses -/
def setCells (i : Nat) (cs : Array Value) (h : Array Obj) : Array Obj := h.modify i fun
  | .cells _ t frozen => .cells cs t frozen
  | o => o
noncomputable def laidWorld (os : Os) : World :=
  { World.holding Tryd.prog os ⟨#[], #[], []⟩ with heap := setCells 1 #[.string ⟨#[]⟩, .string ⟨#[]⟩, .string ⟨#[97, 98, 99]⟩, .string ⟨#[97, 98, 105]⟩, .string ⟨#[97, 105]⟩, .string ⟨#[97, 105, 98]⟩, .string ⟨#[65, 105, 98]⟩, .string ⟨#[97, 98, 105]⟩, .string ⟨#[97, 105]⟩, .string ⟨#[65, 66, 67]⟩, .string ⟨#[65, 66]⟩, .string ⟨#[97, 66, 67]⟩, .string ⟨#[97, 66]⟩, .string ⟨#[65, 98]⟩, .string ⟨#[65, 98, 99]⟩, .string ⟨#[97, 105]⟩] (World.holding Tryd.prog os ⟨#[], #[], []⟩).heap }
end Go.Proofs.YthenglaoolmajaaDoor
