/- PROVED HERE: every operation's cost, form and name, every instruction's word, and the instruction of every word, are the document's (CodeWords answers true for every input).
   Conditions: the row's own (the two listed tables read as the program's text lays them). -/
import Derived.Test.YthenglaoolmajaaDoorCodeE
import Derived.Test.YthenglaoolmajaaDoorEvLaw
import Derived.Test.YthenglaoolmajaaDoorCards
import Derived.Test.YthenglaoolmajaaDoorTie
import Derived.WalkKit
import Derived.ProofKit
import Derived.OpenShut
import Derived.Deep.DeepHandedRow
import Derived.Lib.LaidTab
namespace Go.Proofs.YthenglaoolmajaaDoor
open Go Go.Ev Go.ChangeShapes Go.WideShapes Go.ChangeAt Go.RowKit
set_option maxRecDepth 100000
set_option linter.unusedSimpArgs false
set_option linter.unusedVariables false

def namesB : List (List UInt8) := [[], [110, 111, 112], [97, 100, 100], [115, 117, 98], [109, 117, 108], [109, 117, 108, 104], [100, 105, 118], [100, 105, 118, 117], [114, 101, 109], [114, 101, 109, 117], [97, 110, 100], [111, 114], [120, 111, 114], [115, 104, 108], [115, 104, 114], [115, 97, 114], [115, 108, 116], [115, 108, 116, 117], [97, 100, 100, 105], [97, 110, 100, 105], [111, 114, 105], [120, 111, 114, 105], [115, 104, 108, 105], [115, 104, 114, 105], [115, 97, 114, 105], [115, 108, 116, 105], [115, 108, 116, 105, 117], [108, 117, 105], [108, 119], [108, 104], [108, 104, 117], [108, 98], [108, 98, 117], [115, 119], [115, 104], [115, 98], [102, 108, 100], [102, 115, 100], [98, 101, 113], [98, 110, 101], [98, 108, 116], [98, 103, 101], [98, 108, 116, 117], [98, 103, 101, 117], [106, 97, 108], [106, 97, 108, 114], [102, 97, 100, 100], [102, 115, 117, 98], [102, 109, 117, 108], [102, 100, 105, 118], [102, 115, 113, 114, 116], [102, 109, 105, 110], [102, 109, 97, 120], [102, 110, 101, 103], [102, 97, 98, 115], [102, 101, 113], [102, 108, 116], [102, 108, 101], [102, 99, 108, 97, 115, 115], [102, 99, 118, 116, 100], [102, 99, 118, 116, 119], [102, 109, 118, 108], [102, 109, 118, 104], [102, 112, 117, 116], [101, 99, 97, 108, 108], [98, 114, 107], [104, 99, 97, 108, 108], [101, 114, 101, 116], [109, 102, 99], [109, 116, 99], [119, 102, 105], [104, 97, 108, 116]]
def shapesB : List (List UInt8) := [[], [], [97, 98, 99], [97, 98, 105], [97, 105], [97, 105, 98], [65, 105, 98], [97, 98, 105], [97, 105], [65, 66, 67], [65, 66], [97, 66, 67], [97, 66], [65, 98], [65, 98, 99], [97, 105]]
theorem namesB_eq : strCells namesB = namesC := by kernel_rfl
theorem shapesB_eq : strCells shapesB = shapesC := by kernel_rfl
theorem own : ownKnob Tryd.prog.godebug = none := by kernel_rfl
theorem gNames : Tryd.prog.globalNamed "bulkhead/bulkheadref04.names" = some 0 := by kernel_rfl
theorem gShapes : Tryd.prog.globalNamed "bulkhead/code.shapes" = some 1 := by kernel_rfl
theorem tNames : (Tryd.prog.globals[0]?).map (·.type) = some 63 := by kernel_rfl
theorem tShapes : (Tryd.prog.globals[1]?).map (·.type) = some 77 := by kernel_rfl
theorem u63 : Tryd.prog.underlying 63 = some (.array 72 9) := by kernel_rfl
theorem u77 : Tryd.prog.underlying 77 = some (.array 16 9) := by kernel_rfl
theorem u9 : Tryd.prog.underlying 9 = some .string := by kernel_rfl
theorem u3 : Tryd.prog.underlying 3 = some (.int .i64) := by kernel_rfl
theorem u4 : Tryd.prog.underlying 4 = some .bool := by kernel_rfl
theorem u24 : Tryd.prog.underlying 24 = some (.int .u32) := by kernel_rfl
theorem c63 : Tryd.prog.cellsOf 63 = 72 := by kernel_rfl
theorem c77 : Tryd.prog.cellsOf 77 = 16 := by kernel_rfl
theorem c9 : Tryd.prog.cellsOf 9 = 1 := by kernel_rfl
theorem nGlobals : Tryd.prog.globals.size = 4 := by kernel_rfl
theorem mixed : Tryd.prog.follows .mixedOrders = true := by kernel_rfl
theorem namesOk : Tryd.prog.funcs.toList.all (fun fn => fn.name != "runtime.NumGoroutine") = true := by kernel_rfl
theorem noNum (f : FuncId) (fn : Func) (h : Tryd.prog.funcs[f]? = some fn) : fn.name ≠ "runtime.NumGoroutine" := by
  have h1 : fn ∈ Tryd.prog.funcs.toList := by
    rw [Array.mem_toList_iff]
    exact Array.mem_of_getElem? h
  have := List.all_eq_true.1 namesOk fn h1
  simpa using this
instance noX0 : Xt := ⟨fun _ _ => none⟩
theorem ok0 (n : Nat) : CallsOK Tryd.prog (evCall cf0 n) :=
  evCall_ok (cf := cf0) (fun f args v h => by cases h) noNum (fun n h => drawOK h mixed) n
theorem extOK : ExtOK Tryd.prog extC := by
  intro f args v h
  unfold extC at h
  split at h
  · unfold ext45 at h
    split at h
    · cases h
      exact tells (ok0 1) rfl rfl forms45
    · cases h
  · unfold ext44 at h
    split at h
    · rename_i s t
      split at h
      · rename_i ht
        cases h
        obtain rfl : t = ⟨#[105]⟩ := by
          cases t; rename_i d
          have : d.toList = (#[105] : Array UInt8).toList := ht
          rw [Array.toList_inj.1 this]
        refine ⟨⟨rfl, rfl⟩, ⟨Tryd.f44, Tryd.func44, noNum _ _ Tryd.func44, by kernel_rfl⟩, fun w _ => ?_⟩
        refine (Tryd.strings_Contains_one s 105 w).mono ?_
        rintro e w' ⟨rfl, rfl⟩
        exact ⟨rfl, fun _ _ => rfl, Nat.le_refl _, rfl, rfl, rfl⟩
      · cases h
    · cases h
  all_goals cases h
theorem okc (n : Nat) : CallsOK Tryd.prog (evCall cfc n) :=
  evCall_ok (cf := cfc) extOK noNum (fun n h => drawOK h mixed) n

def ren0 : Ren := fun i => if i < 4 then some (i, 0) else none
theorem tab_get (i : Nat) : (Hp.fl).get i = if i = 1 then some (.ro shapesC) else if i = 0 then some (.ro namesC) else none := by
  have : (Hp.fl).get i = TAB.get i := rfl
  rw [this, TAB, Map.get_put, Map.get_put]
  rfl
theorem base_get (i : Nat) : (Tabs.base : Map Blk).get i = if i = 1 then some (.ro shapesC) else if i = 0 then some (.ro namesC) else none := tab_get i
theorem globals_there {W : World} (h : W.ShapedOpen Tryd.prog) : 4 ≤ W.heap.size := by
  have h0 : (((begin Tryd.prog (fun _ _ => 0) default).world.heap[3]?).bind Obj.row?).isSome = true := by kernel_rfl
  obtain ⟨⟨z, t⟩, hz⟩ := Option.isSome_iff_exists.1 h0
  obtain ⟨cs, hh, _⟩ := h.1 3 z t (by rw [nGlobals]; decide) hz
  have := (Array.getElem?_eq_some_iff.1 hh).1
  omega
theorem start_sim {W : World} (hsh : W.ShapedOpen Tryd.prog) (hn : ∃ u z, W.heap[0]? = some (.cells namesC.toArray u z)) (hs : ∃ u z, W.heap[1]? = some (.cells shapesC.toArray u z)) : Sim Tryd.prog ren0 Hp.fl W := by
  have h4 := globals_there hsh
  refine Sim.start rfl (fun i b d h => ?_) (fun g hg => ?_) (Nat.le_refl _) (fun i _ => rfl) (by rw [nGlobals]; decide) (fun i x hi h => ?_) (fun i x b d h hr => ?_)
  · unfold ren0 at h
    split at h
    · cases h; rename_i hi; exact ⟨hi, by omega⟩
    · cases h
  · rw [nGlobals] at hg
    simp [ren0, hg]
  · rw [base_get] at h
    split at h
    · cases h; exact ⟨_, rfl, by kernel_rfl⟩
    · split at h
      · cases h; exact ⟨_, rfl, by kernel_rfl⟩
      · cases h
  · rw [tab_get] at h
    split at h
    · rename_i hi; subst hi; cases h; cases hr
      exact blkR_of_cells (by kernel_rfl) hs
    · split at h
      · rename_i hi; subst hi; cases h; cases hr
        exact blkR_of_cells (by kernel_rfl) hn
      · cases h
namespace codeWords
theorem tables {W : World} (h : laidMetH Tryd.prog Rows.codeWordsRow.laid W) : (∃ u z, W.heap[0]? = some (.cells namesC.toArray u z)) ∧ (∃ u z, W.heap[1]? = some (.cells shapesC.toArray u z)) := by
  obtain ⟨ps, h⟩ := laidMetH_plain (by kernel_rfl) h
  have e1 : Rows.laid_bulkhead_bulkheadref04_names = (strData namesB : DataW Unit) := by kernel_rfl
  have e2 : Rows.laid_bulkhead_code_shapes = (strData shapesB : DataW Unit) := by kernel_rfl
  have e : Rows.codeWordsRow.laid = [("bulkhead/bulkheadref04.names", (strData namesB : DataW Unit)), ("bulkhead/code.shapes", strData shapesB)] := by rw [← e1, ← e2]; rfl
  rw [e] at h
  obtain ⟨h1, qs, h2⟩ := laid_str gNames tNames u63 u9 c9 c63 h
  obtain ⟨h3, _⟩ := laid_str gShapes tShapes u77 u9 c9 c77 h2
  rw [namesB_eq] at h1
  rw [shapesB_eq] at h3
  exact ⟨h1, h3⟩
theorem contract (H : Type) (enc : TypeId × Value → H) (W : World) (base : Nat) (args : Array Value) (ds gs : List (DataW H)) (before : List MemPlace)
    (hval : ∀ (j : Nat) t v, Tryd.f3.params[j]? = some t → args[j]? = some v → Value.okWide Tryd.prog W .any base t v)
    (hW : DataW.Whole enc Tryd.prog Tryd.f3.params.toList Rows.codeWordsSpec.vars false W args.toList ds gs before) (hL : laidMetH Tryd.prog Rows.codeWordsRow.laid W) (hsh : W.ShapedOpen Tryd.prog) :
    Calls Tryd.prog 3 args W fun e W' => ∃ v, e = .returned v ∧ Rows.codeWordsSpec.post enc Tryd.prog Tryd.f3 false true false false W args v W' := by
  have hW' := hW
  obtain ⟨p, q, hA0, hV, rfl, hfz, hnd⟩ := hW
  have hA : DataW.TrodAll enc Tryd.prog W 0 (fun _ => true) true Tryd.f3.params.toList args.toList ds p := hA0
  rw [Tryd.params3] at hA hval
  obtain ⟨x0, r0, d0, q0, ha0, hs0, hA1⟩ := trodAll_sc (l := [.int .i64]) (by kernel_rfl) hA
  obtain ⟨x1, r1, d1, q1, rfl, hs1, hA2⟩ := trodAll_sc (l := [.int .i64, .int .i64, .int .i64, .int .i64, .int .i64]) (by kernel_rfl) hA1
  obtain ⟨x2, r2, d2, q2, rfl, hs2, hA3⟩ := trodAll_sc (l := [.int .u32]) (by kernel_rfl) hA2
  have hr2 : r2 = [] := by
    cases r2 with
    | nil => rfl
    | cons y ys => simp [DataW.TrodAll] at hA3
  subst hr2
  obtain rfl : args = #[x0, x1, x2] := by cases args; simp_all
  obtain ⟨o, rfl, _, _⟩ := scalar_int u3 (hval 0 3 x0 rfl rfl) hs0
  obtain ⟨cs, rfl⟩ := agg_of (t := 23) (by kernel_rfl) (hval 1 23 x1 rfl rfl)
  obtain ⟨w, rfl, hw0, hw1⟩ := scalar_int u24 (hval 2 24 x2 rfl rfl) hs2
  have hs1' : ScL [.int .i64, .int .i64, .int .i64, .int .i64, .int .i64] cs.toList := hs1
  obtain ⟨op, t1, e1, _, hs1'⟩ := sc_cons hs1'
  obtain ⟨A, t2, rfl, _, hs1'⟩ := sc_cons hs1'
  obtain ⟨B, t3, rfl, _, hs1'⟩ := sc_cons hs1'
  obtain ⟨C, t4, rfl, _, hs1'⟩ := sc_cons hs1'
  obtain ⟨I, t5, rfl, _, hs1'⟩ := sc_cons hs1'
  obtain rfl := sc_nil hs1'
  obtain rfl : cs = #[.int .i64 op, .int .i64 A, .int .i64 B, .int .i64 C, .int .i64 I] := by cases cs; simp_all
  have hwr : 0 ≤ w ∧ w < 4294967296 := ⟨hw0, by have : w ≤ 4294967295 := hw1; omega⟩
  obtain ⟨hn, hs⟩ := tables hL
  have hS := start_sim hsh hn hs
  have call := calls_same (okc 10) (v3 0 Hp.fl o op A B C I w hwr) rfl VR.bool_eq hS (VL.all_flat _ rfl)
  refine Calls.mono call fun e W' ⟨he, hsame⟩ => ⟨_, he, ?_⟩
  refine law_flat (tb := 4) hsame hW' rfl (by kernel_rfl) (by kernel_rfl) u4 (fun ds hl => ?_)
  match ds, hl with
  | [a, b, c], _ => rfl

/-- A WORLD FOR THE WITNESS -/
def setCells (i : Nat) (cs : Array Value) (h : Array Obj) : Array Obj := h.modify i fun
  | .cells _ t frozen => .cells cs t frozen
  | o => o
noncomputable def laidWorld (os : Os) : World :=
  { World.holding Tryd.prog os ⟨#[], #[], []⟩ with heap := setCells 0 #[.string ⟨#[]⟩, .string ⟨#[110, 111, 112]⟩, .string ⟨#[97, 100, 100]⟩, .string ⟨#[115, 117, 98]⟩, .string ⟨#[109, 117, 108]⟩, .string ⟨#[109, 117, 108, 104]⟩, .string ⟨#[100, 105, 118]⟩, .string ⟨#[100, 105, 118, 117]⟩, .string ⟨#[114, 101, 109]⟩, .string ⟨#[114, 101, 109, 117]⟩, .string ⟨#[97, 110, 100]⟩, .string ⟨#[111, 114]⟩, .string ⟨#[120, 111, 114]⟩, .string ⟨#[115, 104, 108]⟩, .string ⟨#[115, 104, 114]⟩, .string ⟨#[115, 97, 114]⟩, .string ⟨#[115, 108, 116]⟩, .string ⟨#[115, 108, 116, 117]⟩, .string ⟨#[97, 100, 100, 105]⟩, .string ⟨#[97, 110, 100, 105]⟩, .string ⟨#[111, 114, 105]⟩, .string ⟨#[120, 111, 114, 105]⟩, .string ⟨#[115, 104, 108, 105]⟩, .string ⟨#[115, 104, 114, 105]⟩, .string ⟨#[115, 97, 114, 105]⟩, .string ⟨#[115, 108, 116, 105]⟩, .string ⟨#[115, 108, 116, 105, 117]⟩, .string ⟨#[108, 117, 105]⟩, .string ⟨#[108, 119]⟩, .string ⟨#[108, 104]⟩, .string ⟨#[108, 104, 117]⟩, .string ⟨#[108, 98]⟩, .string ⟨#[108, 98, 117]⟩, .string ⟨#[115, 119]⟩, .string ⟨#[115, 104]⟩, .string ⟨#[115, 98]⟩, .string ⟨#[102, 108, 100]⟩, .string ⟨#[102, 115, 100]⟩, .string ⟨#[98, 101, 113]⟩, .string ⟨#[98, 110, 101]⟩, .string ⟨#[98, 108, 116]⟩, .string ⟨#[98, 103, 101]⟩, .string ⟨#[98, 108, 116, 117]⟩, .string ⟨#[98, 103, 101, 117]⟩, .string ⟨#[106, 97, 108]⟩, .string ⟨#[106, 97, 108, 114]⟩, .string ⟨#[102, 97, 100, 100]⟩, .string ⟨#[102, 115, 117, 98]⟩, .string ⟨#[102, 109, 117, 108]⟩, .string ⟨#[102, 100, 105, 118]⟩, .string ⟨#[102, 115, 113, 114, 116]⟩, .string ⟨#[102, 109, 105, 110]⟩, .string ⟨#[102, 109, 97, 120]⟩, .string ⟨#[102, 110, 101, 103]⟩, .string ⟨#[102, 97, 98, 115]⟩, .string ⟨#[102, 101, 113]⟩, .string ⟨#[102, 108, 116]⟩, .string ⟨#[102, 108, 101]⟩, .string ⟨#[102, 99, 108, 97, 115, 115]⟩, .string ⟨#[102, 99, 118, 116, 100]⟩, .string ⟨#[102, 99, 118, 116, 119]⟩, .string ⟨#[102, 109, 118, 108]⟩, .string ⟨#[102, 109, 118, 104]⟩, .string ⟨#[102, 112, 117, 116]⟩, .string ⟨#[101, 99, 97, 108, 108]⟩, .string ⟨#[98, 114, 107]⟩, .string ⟨#[104, 99, 97, 108, 108]⟩, .string ⟨#[101, 114, 101, 116]⟩, .string ⟨#[109, 102, 99]⟩, .string ⟨#[109, 116, 99]⟩, .string ⟨#[119, 102, 105]⟩, .string ⟨#[104, 97, 108, 116]⟩] (setCells 1 #[.string ⟨#[]⟩, .string ⟨#[]⟩, .string ⟨#[97, 98, 99]⟩, .string ⟨#[97, 98, 105]⟩, .string ⟨#[97, 105]⟩, .string ⟨#[97, 105, 98]⟩, .string ⟨#[65, 105, 98]⟩, .string ⟨#[97, 98, 105]⟩, .string ⟨#[97, 105]⟩, .string ⟨#[65, 66, 67]⟩, .string ⟨#[65, 66]⟩, .string ⟨#[97, 66, 67]⟩, .string ⟨#[97, 66]⟩, .string ⟨#[65, 98]⟩, .string ⟨#[65, 98, 99]⟩, .string ⟨#[97, 105]⟩] (World.holding Tryd.prog os ⟨#[], #[], []⟩).heap) }
def args0 : Array Value := #[.int .i64 0, .agg #[.int .i64 0, .int .i64 0, .int .i64 0, .int .i64 0, .int .i64 0], .int .u32 0]
theorem laid_met (os : Os) : laidMet Tryd.prog Rows.codeWordsRow.laid ((laidWorld os).forCall (fun _ _ => 0) ⟨#[], args0, []⟩).memory :=
  laidMet_of_run' 8 (by kernel_rfl) (by kernel_rfl)
theorem reads (os : Os) {H : Type} (enc : TypeId × Value → H) : ∃ places, DataW.whole enc Tryd.prog ((laidWorld os).forCall (fun _ _ => 0) ⟨#[], args0, []⟩).memory Tryd.f3.params.toList Rows.codeWordsSpec.vars false args0.toList 8 = some ([.lit (.int .i64 0), .agg [.lit (.int .i64 0), .lit (.int .i64 0), .lit (.int .i64 0), .lit (.int .i64 0), .lit (.int .i64 0)], .lit (.int .u32 0)], [], places) :=
  ⟨[], by kernel_rfl⟩
theorem lifted (os : Os) (started : os.Started) (H : Type) (enc : TypeId × Value → H) (F : Stop.Interp) :
    ReturnsInHanded {} Tryd.checked os 3 .any ((OpenSpec.ofChange Rows.codeWordsSpec).preRow enc Tryd.prog Tryd.f3 Rows.codeWordsRow.domain false Rows.codeWordsRow.laid) (((OpenSpec.ofChange Rows.codeWordsSpec).at F).post enc Tryd.prog Tryd.f3 false true false false) := by
  obtain ⟨places, hx⟩ := reads os enc
  refine returnsInHanded_of_row (C := Tryd.checked) (s := OpenSpec.ofChange Rows.codeWordsSpec) own started (by kernel_rfl) Tryd.func3
    (witness_row_at (enc := enc) (C := Tryd.checked) false (laidWorld os) args0 rfl (by kernel_rfl) (by kernel_rfl) (by kernel_rfl)
      (OpenSpec.preRow_of_cond 8 hx (by kernel_rfl) (fun k hk => by cases hk) (by kernel_rfl) (laid_met os))) ?_
  intro W base args ds gs before hval hW _ _ _ hL hsh _
  exact contract H enc W base args ds gs before hval hW hL hsh
theorem said : Rows.CodeWordsSaid :=
  OpenClaim.holds_of_cond 3 Tryd.f3 rfl rfl rfl rfl rfl rfl rfl ⟨rfl, rfl, rfl, rfl, rfl⟩ rfl rfl rfl rfl rfl (by kernel_rfl) Tryd.func3 (by kernel_rfl)
    (of_decide_eq_true (by kernel_rfl)) (by unfold Func.isWrapper; first | (rw [if_pos (by decide +kernel)]; kernel_rfl) | (rw [if_neg (by decide +kernel)]; exact ⟨rfl, rfl⟩))
    (fun os started H enc _ F => by rw [OpenClaim.pre_eq_preRow]; exact lifted os started H enc F)
theorem plain (f : FuncId) (fn : Func) (hf : Tryd.pinned.checked.prog.funcNamed "bulkhead/bulkheadlaw04.CodeWords" = some f) (hfn : Tryd.pinned.checked.prog.funcs[f]? = some fn) :
    false = Tryd.pinned.checked.prog.looks [] ∧ ∀ (j : Nat) t, fn.params[j]? = some t → Tryd.pinned.checked.prog.wantsStandIn t = false := by
  obtain rfl : f = 3 := Option.some.inj ((show Tryd.prog.funcNamed "bulkhead/bulkheadlaw04.CodeWords" = some 3 by kernel_rfl).symm.trans hf) |>.symm
  obtain rfl : fn = Tryd.f3 := (Option.some.inj (Tryd.func3.symm.trans hfn)).symm
  refine ⟨by kernel_rfl, fun j t ht => ?_⟩
  rw [Tryd.params3] at ht
  have hm : t ∈ #[3, 23, 24] := Array.mem_of_getElem? ht
  simp only [List.mem_toArray, List.mem_cons, List.not_mem_nil, or_false] at hm
  rcases hm with rfl | rfl | rfl
  · exact (show Tryd.prog.wantsStandIn 3 = false by kernel_rfl)
  · exact (show Tryd.prog.wantsStandIn 23 = false by kernel_rfl)
  · exact (show Tryd.prog.wantsStandIn 24 = false by kernel_rfl)
end codeWords
/-- THE CARD -/
theorem codeWords_card : Rows.CodeWordsCardSaid :=
  Claim7.holds_tied_plain_at .later [] _ _ _ _ codeWords.said (fun _ h => by cases h) (by kernel_rfl) (fun _ h => by cases h) codeWords_row_tie rfl ⟨rfl, rfl⟩ (by kernel_rfl) rfl codeWords.plain (by kernel_rfl)
#print axioms codeWords_card
end Go.Proofs.YthenglaoolmajaaDoor
