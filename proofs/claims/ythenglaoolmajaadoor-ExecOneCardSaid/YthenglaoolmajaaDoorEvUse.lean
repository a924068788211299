/- The evaluator's calls, opened one at a time. -/
import Derived.Test.YthenglaoolmajaaDoorEvRow
namespace Go.Ev
open Go
set_option linter.unusedSectionVars false
variable [Tabs]

theorem evCall_open {cf : Cfg} {f : FuncId} {fn : Func} {args : List Value} (hx : cf.ext f args = none) (hf : cf.P.funcs[f]? = some fn) (hq : cf.quiet f = false) (n : Nat) (H : Hp) :
    evCall cf (n + 1) f args H = evFn cf.P (evCall cf n) n (cf.live f) fn args H := by
  simp [evCall, hx, hf, hq]

theorem evCall_quiet {cf : Cfg} {f : FuncId} {fn : Func} {args : List Value} (hx : cf.ext f args = none) (hf : cf.P.funcs[f]? = some fn) (hq : cf.quiet f = true) (ha : args.all flat = true) (n : Nat) (H : Hp) :
    evCall cf (n + 1) f args H = floorR H (evFn cf.P (evCall cf n) n (cf.live f) fn args Hp.fl) := by
  simp only [evCall, hx, hf, hq, ha, if_true]

theorem floorR_some {H H' : Hp} {v : Value} (hv : flat v = true) : floorR H (some (.ret v, H')) = some (.ret v, H) := by
  simp [floorR, hv]

/-- what the evaluator answers over the memory of the start may be told of a function -/
theorem tells {P : Program} {C : Cl} (hC : CallsOK P C) {f : FuncId} {args : List Value} {v : Value} {H' : Hp} (ha : args.all flat = true) (hv : flat v = true) (h : C f args Hp.fl = some (.ret v, H')) :
    (args.all flat = true ∧ flat v = true) ∧ (∃ fn, P.funcs[f]? = some fn ∧ fn.name ≠ "runtime.NumGoroutine" ∧ fn.body.isSome = true) ∧
    ∀ w, (∃ ρ H, Sim P ρ H w) → Calls P f ⟨args⟩ w fun e w' => e = .returned v ∧ (∀ b, b < w.heap.size → w'.heap[b]? = w.heap[b]?) ∧ w.heap.size ≤ w'.heap.size ∧ w'.tape = w.tape ∧ w'.os = w.os ∧ w'.output = w.output := by
  refine ⟨⟨ha, hv⟩, (hC f args _ _ h).1, fun w ⟨ρ, H, hS⟩ => ?_⟩
  refine ((hC f args _ _ h).2 _ w args hS.floor (VL.all_flat _ ha)).mono ?_
  rintro e w' ⟨ρ', hst, v', rfl, hvr⟩
  refine ⟨by rw [hvr.flat_eq hv], fun b hb => hst.keep b hb fun i d hw hr => ?_, hst.size, hst.tape, hst.os, hst.out⟩
  have h1 : Tabs.gn ≤ i := hw.1
  have h2 := (Ren.cut_some hr).1
  omega

end Go.Ev
