/- PROVED HERE: what is stored and loaded again by the same kind of instruction comes back, as far as its bytes go (ExecStores answers true for every input).
   Conditions: the row's own (the listed table reads as the program's text lays it). -/
import Derived.Test.YthenglaoolmajaaDoorExecSt
import Derived.Test.YthenglaoolmajaaDoorExecY
namespace Go.Proofs.YthenglaoolmajaaDoor
open Go Go.Ev Go.ChangeShapes Go.WideShapes Go.ChangeAt Go.RowKit
set_option maxRecDepth 100000
set_option linter.unusedSimpArgs false
set_option linter.unusedVariables false
namespace execStores
instance noX0 : Xt := ⟨fun _ _ => none⟩
theorem xtOK : XtOK := fun f args v _ h => by cases h
theorem contract (H : Type) (enc : TypeId × Value → H) (W : World) (base : Nat) (args : Array Value) (ds gs : List (DataW H)) (before : List MemPlace)
    (hval : ∀ (j : Nat) t v, Tryd.f7.params[j]? = some t → args[j]? = some v → Value.okWide Tryd.prog W .any base t v)
    (hW : DataW.Whole enc Tryd.prog Tryd.f7.params.toList Rows.execStoresSpec.vars false W args.toList ds gs before) (hL : laidMetH Tryd.prog Rows.execStoresRow.laid W) (hsh : W.ShapedOpen Tryd.prog) :
    Calls Tryd.prog 7 args W fun e W' => ∃ v, e = .returned v ∧ Rows.execStoresSpec.post enc Tryd.prog Tryd.f7 false true false false W args v W' := by
  have hW' := hW
  obtain ⟨p, q, hA0, hV, rfl, hfz, hnd⟩ := hW
  have hA : DataW.TrodAll enc Tryd.prog W 0 (fun _ => true) true Tryd.f7.params.toList args.toList ds p := hA0
  rw [Tryd.params7] at hA hval
  obtain ⟨x0, r0, d0, q0, ha0, hs0, hA1⟩ := trodAll_sc (l := regsSc) (by kernel_rfl) hA
  obtain ⟨x1, r1, d1, q1, rfl, hs1, hA2⟩ := trodAll_sc (l := [.int .i64]) (by kernel_rfl) hA1
  obtain ⟨x2, r2, d2, q2, rfl, hs2, hA3⟩ := trodAll_sc (l := [.int .i64]) (by kernel_rfl) hA2
  obtain ⟨x3, r3, d3, q3, rfl, hs3, hA4⟩ := trodAll_sc (l := [.int .i64]) (by kernel_rfl) hA3
  have hr : r3 = [] := by
    cases r3 with
    | nil => rfl
    | cons y ys => simp [DataW.TrodAll] at hA4
  subst hr
  obtain rfl : args = #[x0, x1, x2, x3] := by cases args; simp_all
  obtain ⟨R, F, pc, rfl, hR, hF, hpc⟩ := agg_regs (hval 0 38 x0 rfl rfl) hs0
  obtain ⟨n1, rfl, hn1⟩ := scalar_int u3 (hval 1 3 x1 rfl rfl) hs1
  obtain ⟨n2, rfl, hn2⟩ := scalar_int u3 (hval 2 3 x2 rfl rfl) hs2
  obtain ⟨n3, rfl, hn3⟩ := scalar_int u3 (hval 3 3 x3 rfl rfl) hs3
  have hS := start_sim hsh (tables rfl hL)
  have call := calls_same (okc xtOK _) (v7 0 Hp.fl R F pc n1 n2 n3 hR hF hpc) rfl VR.bool_eq hS (VL.all_flat _ (by simp [regs_flat, flat_int, flat_i5]))
  refine Calls.mono call fun e W' ⟨he, hsame⟩ => ⟨_, he, ?_⟩
  refine law_flat (tb := 4) hsame hW' rfl (by kernel_rfl) (by kernel_rfl) u4 (fun ds hl => ?_)
  match ds, hl with
  | [a, b, c, d], _ => rfl
def args0 : Array Value := #[.agg #[.int .u32 0, .int .u32 0, .int .u32 0, .int .u32 0, .int .u32 0, .int .u32 0, .int .u32 0, .int .u32 0, .int .u32 0, .int .u32 0, .int .u32 0, .int .u32 0, .int .u32 0, .int .u32 0, .int .u32 0, .int .u32 0, .int .u64 0, .int .u64 0, .int .u64 0, .int .u64 0, .int .u64 0, .int .u64 0, .int .u64 0, .int .u64 0, .int .u32 0], .int .i64 0, .int .i64 0, .int .i64 0]
theorem laid_met (os : Os) : laidMet Tryd.prog Rows.execStoresRow.laid ((laidWorld os).forCall (fun _ _ => 0) ⟨#[], args0, []⟩).memory :=
  laidMet_of_run' 8 (by kernel_rfl) (by kernel_rfl)
theorem reads (os : Os) {H : Type} (enc : TypeId × Value → H) : ∃ places, DataW.whole enc Tryd.prog ((laidWorld os).forCall (fun _ _ => 0) ⟨#[], args0, []⟩).memory Tryd.f7.params.toList Rows.execStoresSpec.vars false args0.toList 8 = some ([.agg [.agg [.lit (.int .u32 0), .lit (.int .u32 0), .lit (.int .u32 0), .lit (.int .u32 0), .lit (.int .u32 0), .lit (.int .u32 0), .lit (.int .u32 0), .lit (.int .u32 0), .lit (.int .u32 0), .lit (.int .u32 0), .lit (.int .u32 0), .lit (.int .u32 0), .lit (.int .u32 0), .lit (.int .u32 0), .lit (.int .u32 0), .lit (.int .u32 0)], .agg [.lit (.int .u64 0), .lit (.int .u64 0), .lit (.int .u64 0), .lit (.int .u64 0), .lit (.int .u64 0), .lit (.int .u64 0), .lit (.int .u64 0), .lit (.int .u64 0)], .lit (.int .u32 0)], .lit (.int .i64 0), .lit (.int .i64 0), .lit (.int .i64 0)], [], places) :=
  ⟨[], by kernel_rfl⟩
theorem lifted (os : Os) (started : os.Started) (H : Type) (enc : TypeId × Value → H) (F : Stop.Interp) :
    ReturnsInHanded {} Tryd.checked os 7 .any ((OpenSpec.ofChange Rows.execStoresSpec).preRow enc Tryd.prog Tryd.f7 Rows.execStoresRow.domain false Rows.execStoresRow.laid) (((OpenSpec.ofChange Rows.execStoresSpec).at F).post enc Tryd.prog Tryd.f7 false true false false) := by
  obtain ⟨places, hx⟩ := reads os enc
  refine returnsInHanded_of_row (C := Tryd.checked) (s := OpenSpec.ofChange Rows.execStoresSpec) own started (by kernel_rfl) Tryd.func7
    (witness_row_at (enc := enc) (C := Tryd.checked) false (laidWorld os) args0 rfl (by kernel_rfl) (by kernel_rfl) (by kernel_rfl)
      (OpenSpec.preRow_of_cond 8 hx (by kernel_rfl) (fun k hk => by cases hk) (by kernel_rfl) (laid_met os))) ?_
  intro W base args ds gs before hval hW _ _ _ hL hsh _
  exact contract H enc W base args ds gs before hval hW hL hsh
theorem said : Rows.ExecStoresSaid :=
  OpenClaim.holds_of_cond 7 Tryd.f7 rfl rfl rfl rfl rfl rfl rfl ⟨rfl, rfl, rfl, rfl, rfl⟩ rfl rfl rfl rfl rfl (by kernel_rfl) Tryd.func7 (by kernel_rfl)
    (of_decide_eq_true (by kernel_rfl)) (by unfold Func.isWrapper; first | (rw [if_pos (by decide +kernel)]; kernel_rfl) | (rw [if_neg (by decide +kernel)]; exact ⟨rfl, rfl⟩))
    (fun os started H enc _ F => by rw [OpenClaim.pre_eq_preRow]; exact lifted os started H enc F)
theorem plain (f : FuncId) (fn : Func) (hf : Tryd.pinned.checked.prog.funcNamed "bulkhead/bulkheadlaw08.ExecStores" = some f) (hfn : Tryd.pinned.checked.prog.funcs[f]? = some fn) :
    false = Tryd.pinned.checked.prog.looks [] ∧ ∀ (j : Nat) t, fn.params[j]? = some t → Tryd.pinned.checked.prog.wantsStandIn t = false := by
  obtain rfl : f = 7 := Option.some.inj ((show Tryd.prog.funcNamed "bulkhead/bulkheadlaw08.ExecStores" = some 7 by kernel_rfl).symm.trans hf) |>.symm
  obtain rfl : fn = Tryd.f7 := (Option.some.inj (Tryd.func7.symm.trans hfn)).symm
  refine ⟨by kernel_rfl, fun j t ht => ?_⟩
  rw [Tryd.params7] at ht
  have hm : t ∈ #[38, 3, 3, 3] := Array.mem_of_getElem? ht
  simp only [List.mem_toArray, List.mem_cons, List.not_mem_nil, or_false] at hm
  have hw : [38, 3, 3, 3].all (fun t => Tryd.prog.wantsStandIn t == false) = true := by kernel_rfl
  have := List.all_eq_true.1 hw t (by simpa using hm)
  have : Tryd.prog.wantsStandIn t = false := by simpa using this
  exact this
end execStores
/-- THE CARD -/
theorem execStores_card : Rows.ExecStoresCardSaid :=
  Claim7.holds_tied_plain_at .later [] _ _ _ _ execStores.said (fun _ h => by cases h) (by kernel_rfl) (fun _ h => by cases h) execStores_row_tie rfl ⟨rfl, rfl⟩ (by kernel_rfl) rfl execStores.plain (by kernel_rfl)
#print axioms execStores_card
end Go.Proofs.YthenglaoolmajaaDoor
