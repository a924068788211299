/- The evaluator's calls, opened one at a time. -/
import Derived.Test.YtbaooebafijenaaDoorGvRow
namespace Go.Ev
open Go
set_option linter.unusedSectionVars false
variable [Tabs]

theorem evCall_ext {cf : Cfg} {f : FuncId} {args : List Value} {v : Value} (hx : cf.ext f args = some v) (n : Nat) (H : Hp) : evCall cf (n + 1) f args H = some (.ret v, H) := by
  simp [evCall, hx]
theorem evCall_exh {cf : Cfg} {f : FuncId} {args : List Value} {r : Out × Hp} (hx : cf.ext f args = none) {H : Hp} (he : cf.exh f args H = some r) (n : Nat) : evCall cf (n + 1) f args H = some r := by
  simp [evCall, hx, he]
theorem evCall_open {cf : Cfg} {f : FuncId} {fn : Func} {args : List Value} (hx : cf.ext f args = none) {H : Hp} (he : cf.exh f args H = none) (hf : cf.P.funcs[f]? = some fn) (hq : cf.quiet f = false) (n : Nat) :
    evCall cf (n + 1) f args H = evFn cf.P (evCall cf n) n (cf.live f) fn args H := by
  simp [evCall, hx, he, hf, hq]
theorem pkA_flat (H : Hp) : ∀ (l : List Value) (bl : Pk), l.all flat = true → pkA H l bl = some (l, bl)
  | [], _, _ => rfl
  | v :: l, bl, h => by
    simp only [List.all_cons, Bool.and_eq_true] at h
    simp [pkA, pkV, h.1, pkA_flat H l bl h.2]
/-- a call of arguments that are handed over with their memory -/
theorem evCall_pk {cf : Cfg} {f : FuncId} {fn : Func} {args args1 : List Value} {bl : Pk} (hx : cf.ext f args = none) {H : Hp} (he : cf.exh f args H = none) (hf : cf.P.funcs[f]? = some fn) (hq : cf.quiet f = true) (ha : pkA H args [] = some (args1, bl)) (n : Nat) :
    evCall cf (n + 1) f args H = movR bl H (evFn cf.P (evCall cf n) n (cf.live f) fn args1 (Hp.pk bl)) := by
  simp [evCall, hx, he, hf, hq, ha]
theorem evCall_quiet {cf : Cfg} {f : FuncId} {fn : Func} {args : List Value} (hx : cf.ext f args = none) {H : Hp} (he : cf.exh f args H = none) (hf : cf.P.funcs[f]? = some fn) (hq : cf.quiet f = true) (ha : args.all flat = true) (n : Nat) :
    evCall cf (n + 1) f args H = movR [] H (evFn cf.P (evCall cf n) n (cf.live f) fn args Hp.fl) := by
  rw [evCall_pk hx he hf hq (pkA_flat H args [] ha)]
  rfl
theorem movR_flat {bl : Pk} {H Hs : Hp} {v : Value} (hv : flat v = true) : movR bl H (some (.ret v, Hs)) = some (.ret v, H) := by
  simp [movR, mvV, hv]
/-- memory that a call hands back -/
def movN (bl : Pk) (Hs : Hp) (v : Value) (H : Hp) : R := (mvV bl Hs 6 v (H, [])).map fun (v, s) => (.ret v, s.1)
theorem movR_ret (bl : Pk) (H Hs : Hp) (v : Value) : movR bl H (some (.ret v, Hs)) = if flat v = true then some (.ret v, H) else movN bl Hs v H := by
  by_cases h : flat v = true
  · rw [if_pos h, movR_flat h]
  · rw [if_neg h]; rfl
theorem movR_ite (p : Prop) [Decidable p] (bl : Pk) (H : Hp) (a b : R) : movR bl H (if p then a else b) = if p then movR bl H a else movR bl H b := by by_cases h : p <;> simp [h]

/-- what the evaluator answers over the memory of the start may be told of a function -/
theorem tells {P : Program} {C : Cl} (hC : CallsOK P C) {f : FuncId} {args : List Value} {v : Value} {H' : Hp} (ha : args.all flat = true) (hv : flD v = true) (h : C f args Hp.fl = some (.ret v, H')) :
    args.all flat = true ∧ (∃ fn, P.funcs[f]? = some fn ∧ fn.name ≠ "runtime.NumGoroutine" ∧ fn.body.isSome = true) ∧
    ∀ w, (∃ ρ H, Sim P ρ H w) → Calls P f ⟨args⟩ w fun e w' => (∃ v', e = .returned v' ∧ ∀ ρ, VR ρ v v') ∧ (∀ b, b < w.heap.size → w'.heap[b]? = w.heap[b]?) ∧ w.heap.size ≤ w'.heap.size ∧ w'.tape = w.tape ∧ w'.os = w.os ∧ w'.output = w.output := by
  refine ⟨ha, (hC f args _ _ h).1, fun w ⟨ρ, H, hS⟩ => ?_⟩
  refine ((hC f args _ _ h).2 _ w args hS.floor (VL.all_flat _ ha)).mono ?_
  rintro e w' ⟨ρ', hst, v', rfl, hvr⟩
  refine ⟨⟨v', rfl, fun ρ1 => hvr.flD_any ρ1 4 hv⟩, fun b hb => hst.keep b hb fun i d hw hr => ?_, hst.size, hst.tape, hst.os, hst.out⟩
  have h1 : Tabs.gn ≤ i := hw.1
  have h2 := (Ren.cut_some hr).1
  omega

end Go.Ev
