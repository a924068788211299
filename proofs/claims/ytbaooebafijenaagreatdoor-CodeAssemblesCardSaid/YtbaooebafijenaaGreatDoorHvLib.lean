/- What contracts of the library's functions need of the evaluator: the package variables' cells; steps that write nothing old; rows of strings. -/
import Derived.Test.YtbaooebafijenaaGreatDoorHvUse
import Derived.Below
namespace Go.Ev
open Go Go.RowKit
set_option linter.unusedSectionVars false
variable [Tabs]
variable {P : Program}
theorem Sim.base {ρ : Ren} {H : Hp} {w : World} (hS : Sim P ρ H w) {g : Nat} (hg : g < P.globals.size) {cs : List Value} (hb : Tabs.base.get g = some (.ro cs)) :
   ∃ c e z, w.heap[g]? = some (.cells c e z) ∧ CellsR ρ cs c 0 ∧ c.size = cs.length := by
 have hgn : g < Tabs.gn := Nat.lt_of_lt_of_le hg hS.gg
 obtain ⟨c, e, z, h1, h2, h3⟩ := hS.blk g _ g 0 ((hS.flr g hgn).trans hb) (hS.glob g hg).1
 exact ⟨c, e, z, h1, h2, h3.trans ((hS.glob g hg).2 cs hb)⟩
theorem Sim.base_cell {ρ : Ren} {H : Hp} {w : World} (hS : Sim P ρ H w) {g : Nat} (hg : g < P.globals.size) {cs : List Value} (hb : Tabs.base.get g = some (.ro cs)) {i : Nat} {v : Value} (hi : cs[i]? = some v) :
   ∃ v', w.cell? ⟨g, i, Option.none⟩ = some v' ∧ VR ρ v v' := by
 obtain ⟨c, e, z, h1, h2, _⟩ := hS.base hg hb
 obtain ⟨v', h3, h4⟩ := h2.2 i v hi
 exact ⟨v', by rw [cell?_of h1]; simpa using h3, h4⟩
theorem Sim.base_flat {ρ : Ren} {H : Hp} {w : World} (hS : Sim P ρ H w) {g : Nat} (hg : g < P.globals.size) {cs : List Value} (hb : Tabs.base.get g = some (.ro cs)) (hf : cs.all flat = true) :
   ∃ e z, w.heap[g]? = some (.cells cs.toArray e z) := by
 obtain ⟨c, e, z, h1, h2, h3⟩ := hS.base hg hb
 refine ⟨e, z, ?_⟩
 have : c = cs.toArray := by
   apply Array.ext
   · simpa using h3
   · intro i hi hi'
     have hi2 : i < cs.length := by simpa using hi'
     obtain ⟨v', h4, h5⟩ := h2.2 i cs[i] (by simp [hi2])
     have h6 : flat cs[i] = true := List.all_eq_true.1 hf _ (List.getElem_mem hi2)
     have h7 := h5.flat_eq h6
     rw [Nat.zero_add, Array.getElem?_eq_getElem hi] at h4
     simp only [List.getElem_toArray]
     rw [← h7]
     exact Option.some.inj h4
 rw [← this]
 exact h1
theorem Sim.grown {ρ : Ren} {H : Hp} {w w' : World} (hS : Sim P ρ H w) (h : Below w.heap.size w w') : Stp P ρ H w ρ H w' :=
 ⟨⟨fun i x b d hg hr => (hS.blk i x b d hg hr).mono (Ren.le_refl ρ) (h.block b (hS.low i b d hr).2) rfl, hS.sep, fun i b d hr => ⟨(hS.low i b d hr).1, Nat.lt_of_lt_of_le (hS.low i b d hr).2 h.size⟩, hS.lim, hS.glob, hS.gn, hS.flr, hS.gg, hS.tab⟩,
   Ren.le_refl ρ, fun b hb _ => h.block b hb, h.size, fun i b d hw hr _ => hS.own_refl hw hr, fun _ _ hp _ => hp, fun _ _ => rfl, rfl, Nat.le_refl _, h.tape, h.os, h.output⟩
theorem ext_of {f : FuncId} {args : List Value} {v : Value} (ha : args.all flat = true) (hf : ∃ fn, P.funcs[f]? = some fn ∧ fn.name ≠ "runtime.NumGoroutine" ∧ fn.body.isSome = true)
   (h : ∀ w, (∃ ρ H, Sim P ρ H w) → Calls P f ⟨args⟩ w fun e w' => (∃ v', e = .returned v' ∧ ∀ ρ, VR ρ v v') ∧ Below w.heap.size w w') :
   args.all flat = true ∧ (∃ fn, P.funcs[f]? = some fn ∧ fn.name ≠ "runtime.NumGoroutine" ∧ fn.body.isSome = true) ∧
   ∀ w, (∃ ρ H, Sim P ρ H w) → Calls P f ⟨args⟩ w fun e w' => (∃ v', e = .returned v' ∧ ∀ ρ, VR ρ v v') ∧ (∀ b, b < w.heap.size → w'.heap[b]? = w.heap[b]?) ∧ w.heap.size ≤ w'.heap.size ∧ w'.tape = w.tape ∧ w'.os = w.os ∧ w'.output = w.output :=
 ⟨ha, hf, fun w hw => (h w hw).mono fun _ _ ⟨h1, h2⟩ => ⟨h1, h2.block, h2.size, h2.tape, h2.os, h2.output⟩⟩
end Go.Ev
