/- Registers as a row hands them to a call. -/
import Derived.Test.YthenglaoolmajaaDoorEvLaw
import Derived.Test.YthenglaoolmajaaDoorEvMem
namespace Go.Ev
open Go
set_option linter.unusedSectionVars false
def inK (k : IntKind) (n : Int) : Prop := k.min ≤ n ∧ n ≤ k.max
theorem sc_row {k : IntKind} : ∀ (m : Nat) {l : List Sc} {cs : List Value}, ScL (List.replicate m (.int k) ++ l) cs → ∃ (f : Nat → Int) (r : List Value), cs = rowI k m f ++ r ∧ (∀ i, i < m → inK k (f i)) ∧ ScL l r
  | 0, l, cs, h => ⟨fun _ => 0, cs, rfl, fun i hi => by omega, h⟩
  | m + 1, l, cs, h => by
    obtain ⟨n, r, rfl, hn, hr⟩ := sc_cons (k := k) (l := List.replicate m (.int k) ++ l) (cs := cs) (by simpa [List.replicate_succ] using h)
    obtain ⟨f, r', rfl, hf, hl⟩ := sc_row m hr
    refine ⟨fun i => match i with | 0 => n | i + 1 => f i, r', ?_, fun i hi => ?_, hl⟩
    · have : rowI k (m + 1) (fun i => match i with | 0 => n | i + 1 => f i) = .int k n :: rowI k m f := by
        simp [rowI, List.range_succ_eq_map, Function.comp_def]
      rw [this]
      rfl
    · cases i with
      | zero => exact hn
      | succ i => exact hf i (by omega)
def regsSc : List Sc := List.replicate 16 (.int .u32) ++ (List.replicate 8 (.int .u64) ++ [.int .u32])
theorem sc_regs {cs : List Value} (h : ScL regsSc cs) : ∃ R F pc, cs = regs R F pc ∧ (∀ i, i < 16 → inK .u32 (R i)) ∧ (∀ i, i < 8 → inK .u64 (F i)) ∧ inK .u32 pc := by
  obtain ⟨R, r, rfl, hR, h⟩ := sc_row 16 h
  obtain ⟨F, r, rfl, hF, h⟩ := sc_row 8 h
  obtain ⟨pc, r, rfl, hp, h⟩ := sc_cons h
  obtain rfl := sc_nil h
  exact ⟨R, F, pc, rfl, hR, hF, hp⟩
end Go.Ev
