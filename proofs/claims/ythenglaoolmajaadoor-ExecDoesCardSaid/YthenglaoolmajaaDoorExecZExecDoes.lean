/- PROVED HERE: every instruction does what the document says (ExecDoes answers true for every input).
   Conditions: the row's own (the listed table reads as the program's text lays it). -/
import Derived.Test.YthenglaoolmajaaDoorExecDo
import Derived.Test.YthenglaoolmajaaDoorExecY
import Derived.Test.YthenglaoolmajaaDoorFlK
namespace Go.Proofs.YthenglaoolmajaaDoor
open Go Go.Ev Go.ChangeShapes Go.WideShapes Go.ChangeAt Go.RowKit
set_option maxRecDepth 100000
set_option linter.unusedSimpArgs false
set_option linter.unusedVariables false
namespace execDoes
theorem contract (H : Type) (enc : TypeId × Value → H) (W : World) (base : Nat) (args : Array Value) (ds gs : List (DataW H)) (before : List MemPlace)
    (hval : ∀ (j : Nat) t v, Tryd.f4.params[j]? = some t → args[j]? = some v → Value.okWide Tryd.prog W .any base t v)
    (hW : DataW.Whole enc Tryd.prog Tryd.f4.params.toList Rows.execDoesSpec.vars false W args.toList ds gs before) (hL : laidMetH Tryd.prog Rows.execDoesRow.laid W) (hsh : W.ShapedOpen Tryd.prog) :
    Calls Tryd.prog 4 args W fun e W' => ∃ v, e = .returned v ∧ Rows.execDoesSpec.post enc Tryd.prog Tryd.f4 false true false false W args v W' := by
  have hW' := hW
  obtain ⟨p, q, hA0, hV, rfl, hfz, hnd⟩ := hW
  have hA : DataW.TrodAll enc Tryd.prog W 0 (fun _ => true) true Tryd.f4.params.toList args.toList ds p := hA0
  rw [Tryd.params4] at hA hval
  obtain ⟨x0, r0, d0, q0, ha0, hs0, hA1⟩ := trodAll_sc (l := regsSc) (by kernel_rfl) hA
  obtain ⟨x1, r1, d1, q1, rfl, hs1, hA2⟩ := trodAll_sc (l := [.int .i64, .int .i64, .int .i64, .int .i64, .int .i64]) (by kernel_rfl) hA1
  obtain ⟨x2, r2, d2, q2, rfl, hs2, hA3⟩ := trodAll_sc (l := [.int .u64]) (by kernel_rfl) hA2
  have hr : r2 = [] := by
    cases r2 with
    | nil => rfl
    | cons y ys => simp [DataW.TrodAll] at hA3
  subst hr
  obtain rfl : args = #[x0, x1, x2] := by cases args; simp_all
  obtain ⟨R, F, pc, rfl, hR, hF, hpc⟩ := agg_regs (hval 0 38 x0 rfl rfl) hs0
  obtain ⟨op, A, B, C, I, rfl, hop, hA, hB, hC, hI⟩ := agg_instr (hval 1 23 x1 rfl rfl) hs1
  obtain ⟨n2, rfl, hn2⟩ := scalar_int u35 (hval 2 35 x2 rfl rfl) hs2
  have hS := start_sim hsh (tables rfl hL)
  have call := calls_same (okc xtOKF _) (v4 0 Hp.fl R F pc op A B C I n2 hR hF hpc hn2) rfl VR.bool_eq hS (VL.all_flat _ (by simp [regs_flat, flat_int, flat_i5]))
  refine Calls.mono call fun e W' ⟨he, hsame⟩ => ⟨_, he, ?_⟩
  refine law_flat (tb := 4) hsame hW' rfl (by kernel_rfl) (by kernel_rfl) u4 (fun ds hl => ?_)
  match ds, hl with
  | [a, b, c], _ => rfl
def args0 : Array Value := #[.agg #[.int .u32 0, .int .u32 0, .int .u32 0, .int .u32 0, .int .u32 0, .int .u32 0, .int .u32 0, .int .u32 0, .int .u32 0, .int .u32 0, .int .u32 0, .int .u32 0, .int .u32 0, .int .u32 0, .int .u32 0, .int .u32 0, .int .u64 0, .int .u64 0, .int .u64 0, .int .u64 0, .int .u64 0, .int .u64 0, .int .u64 0, .int .u64 0, .int .u32 0], .agg #[.int .i64 0, .int .i64 0, .int .i64 0, .int .i64 0, .int .i64 0], .int .u64 0]
theorem laid_met (os : Os) : laidMet Tryd.prog Rows.execDoesRow.laid ((laidWorld os).forCall (fun _ _ => 0) ⟨#[], args0, []⟩).memory :=
  laidMet_of_run' 8 (by kernel_rfl) (by kernel_rfl)
theorem reads (os : Os) {H : Type} (enc : TypeId × Value → H) : ∃ places, DataW.whole enc Tryd.prog ((laidWorld os).forCall (fun _ _ => 0) ⟨#[], args0, []⟩).memory Tryd.f4.params.toList Rows.execDoesSpec.vars false args0.toList 8 = some ([.agg [.agg [.lit (.int .u32 0), .lit (.int .u32 0), .lit (.int .u32 0), .lit (.int .u32 0), .lit (.int .u32 0), .lit (.int .u32 0), .lit (.int .u32 0), .lit (.int .u32 0), .lit (.int .u32 0), .lit (.int .u32 0), .lit (.int .u32 0), .lit (.int .u32 0), .lit (.int .u32 0), .lit (.int .u32 0), .lit (.int .u32 0), .lit (.int .u32 0)], .agg [.lit (.int .u64 0), .lit (.int .u64 0), .lit (.int .u64 0), .lit (.int .u64 0), .lit (.int .u64 0), .lit (.int .u64 0), .lit (.int .u64 0), .lit (.int .u64 0)], .lit (.int .u32 0)], .agg [.lit (.int .i64 0), .lit (.int .i64 0), .lit (.int .i64 0), .lit (.int .i64 0), .lit (.int .i64 0)], .lit (.int .u64 0)], [], places) :=
  ⟨[], by kernel_rfl⟩
theorem lifted (os : Os) (started : os.Started) (H : Type) (enc : TypeId × Value → H) (F : Stop.Interp) :
    ReturnsInHanded {} Tryd.checked os 4 .any ((OpenSpec.ofChange Rows.execDoesSpec).preRow enc Tryd.prog Tryd.f4 Rows.execDoesRow.domain false Rows.execDoesRow.laid) (((OpenSpec.ofChange Rows.execDoesSpec).at F).post enc Tryd.prog Tryd.f4 false true false false) := by
  obtain ⟨places, hx⟩ := reads os enc
  refine returnsInHanded_of_row (C := Tryd.checked) (s := OpenSpec.ofChange Rows.execDoesSpec) own started (by kernel_rfl) Tryd.func4
    (witness_row_at (enc := enc) (C := Tryd.checked) false (laidWorld os) args0 rfl (by kernel_rfl) (by kernel_rfl) (by kernel_rfl)
      (OpenSpec.preRow_of_cond 8 hx (by kernel_rfl) (fun k hk => by cases hk) (by kernel_rfl) (laid_met os))) ?_
  intro W base args ds gs before hval hW _ _ _ hL hsh _
  exact contract H enc W base args ds gs before hval hW hL hsh
theorem said : Rows.ExecDoesSaid :=
  OpenClaim.holds_of_cond 4 Tryd.f4 rfl rfl rfl rfl rfl rfl rfl ⟨rfl, rfl, rfl, rfl, rfl⟩ rfl rfl rfl rfl rfl (by kernel_rfl) Tryd.func4 (by kernel_rfl)
    (of_decide_eq_true (by kernel_rfl)) (by unfold Func.isWrapper; first | (rw [if_pos (by decide +kernel)]; kernel_rfl) | (rw [if_neg (by decide +kernel)]; exact ⟨rfl, rfl⟩))
    (fun os started H enc _ F => by rw [OpenClaim.pre_eq_preRow]; exact lifted os started H enc F)
theorem plain (f : FuncId) (fn : Func) (hf : Tryd.pinned.checked.prog.funcNamed "bulkhead/bulkheadlaw08.ExecDoes" = some f) (hfn : Tryd.pinned.checked.prog.funcs[f]? = some fn) :
    false = Tryd.pinned.checked.prog.looks [] ∧ ∀ (j : Nat) t, fn.params[j]? = some t → Tryd.pinned.checked.prog.wantsStandIn t = false := by
  obtain rfl : f = 4 := Option.some.inj ((show Tryd.prog.funcNamed "bulkhead/bulkheadlaw08.ExecDoes" = some 4 by kernel_rfl).symm.trans hf) |>.symm
  obtain rfl : fn = Tryd.f4 := (Option.some.inj (Tryd.func4.symm.trans hfn)).symm
  refine ⟨by kernel_rfl, fun j t ht => ?_⟩
  rw [Tryd.params4] at ht
  have hm : t ∈ #[38, 23, 35] := Array.mem_of_getElem? ht
  simp only [List.mem_toArray, List.mem_cons, List.not_mem_nil, or_false] at hm
  have hw : [38, 23, 35].all (fun t => Tryd.prog.wantsStandIn t == false) = true := by kernel_rfl
  have := List.all_eq_true.1 hw t (by simpa using hm)
  have : Tryd.prog.wantsStandIn t = false := by simpa using this
  exact this
end execDoes
/-- THE CARD -/
theorem execDoes_card : Rows.ExecDoesCardSaid :=
  Claim7.holds_tied_plain_at .later [] _ _ _ _ execDoes.said (fun _ h => by cases h) (by kernel_rfl) (fun _ h => by cases h) execDoes_row_tie rfl ⟨rfl, rfl⟩ (by kernel_rfl) rfl execDoes.plain (by kernel_rfl)
#print axioms execDoes_card
end Go.Proofs.YthenglaoolmajaaDoor
