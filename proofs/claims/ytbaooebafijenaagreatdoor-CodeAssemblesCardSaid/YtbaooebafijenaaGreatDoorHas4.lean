/- errors.As at the two targets, as the evaluator is told of it: it writes through the target's pointer. -/
import Derived.Test.YtbaooebafijenaaGreatDoorHas3
import Derived.Test.YtbaooebafijenaaGreatDoorHsh
import Derived.Test.YtbaooebafijenaaGreatDoorHvLib
namespace Go.Proofs.YtbaooebafijenaaGreatDoor
open Go Go.Ev Go.RowKit
set_option maxRecDepth 100000
set_option linter.unusedVariables false
set_option linter.unusedSectionVars false
variable [Mx]
theorem st1_cell {P : Program} {ρ : Ren} {H : Hp} {w : World} (hS : Sim P ρ H w) {b o : Nat} {a' v v' : Value} {H' : Hp} (ha : VR ρ (ptr b o) a') (hv : VR ρ v v') (h0 : bx v = some [v]) (h1 : v'.cells = #[v']) (h : st 1 (ptr b o) v H = some H') :
   ∃ t old, a' = .pointer (some t) ∧ w.cell? t = some old ∧ w.frozen? t = false ∧ Stp P ρ H w ρ H' (w.setCell t v') := by
 have ha2 : VR ρ (.pointer (some ⟨b, o, none⟩)) a' := ha
 cases ha2 with
 | @ptr _ _ b' d hr =>
   simp only [st, Ev.ptr] at h
   split at h
   · rename_i hl
     split at h
     · rename_i cs hg
       rw [h0] at h
       simp only [Option.bind_some] at h
       split at h
       · rename_i hc
         obtain ⟨_, hle, _⟩ := hc
         cases h
         obtain ⟨c, e, z, h2, h3, h4, h5⟩ := hS.blk b _ b' d hg hr
         have hlt : o + d < c.size := by have := h3.1; omega
         refine ⟨⟨b', o + d, none⟩, c[o + d], rfl, ?_, ?_, ?_⟩
         · rw [cell?_of h2]; simp [hlt]
         · have := h4 (o + d) hlt
           simp only [World.frozen?, h2, Bool.and_eq_false_iff, decide_eq_false_iff_not]
           omega
         · rw [World.setCell_pb h2]
           have hq : BlkR ρ (w.pb b' (.cells (c.setIfInBounds (o + d) v') e z)) b' d (.rw (splice cs o [v])) := by
             refine ⟨c.setIfInBounds (o + d) v', e, z, ?_, ?_, fun i hi => h4 i (by simpa using hi), by simpa using h5⟩
             · rw [World.pb_get]
               simp [(Array.getElem?_eq_some_iff.1 h2).1]
             · have := CellsR.splice [v] [v'] cs c d o h3 (VL.cons hv VL.nil) hle
               simpa [spliceA, Nat.add_comm] using this
           exact hS.put hg rfl hl hr hq
       · cases h
     · cases h
   · cases h
def exhA (args : List Value) (H : Hp) : Option (Out × Hp) :=
 match args with
 | [.iface 39 (.pointer (some ⟨eb, eo, none⟩)), .iface 69 (.pointer (some ⟨tb, to, none⟩))] => (st 1 (ptr tb to) (ptr eb eo) H).map fun H' => (.ret (.bool true), H')
 | [.iface 39 (.pointer (some ⟨eb, eo, none⟩)), .iface 70 (.pointer (some ⟨tb, to, none⟩))] =>
   match ld (ptr eb (eo + 1)) H with
   | some (.iface 27 (.int k z)) => (st 1 (ptr tb to) (.int k z) H).map fun H' => (.ret (.bool true), H')
   | _ => none
 | _ => none
theorem globsZ : Tryz.prog.globals.size = 11 := by kernel_rfl
theorem has19 : ∃ fn, Tryz.prog.funcs[19]? = some fn ∧ fn.name ≠ "runtime.NumGoroutine" ∧ fn.body.isSome = true := ⟨Tryz.f19, by kernel_rfl, by decide, by kernel_rfl⟩
theorem tok_cell {ρ : Ren} {H : Hp} {w : World} (hS : Sim Tryz.prog ρ H w) : w.cell? ⟨0, 0, none⟩ = some (.iface 121 (.agg #[.pointer (some ⟨11, 24, none⟩)])) := by
 obtain ⟨v', h1, h2⟩ := hS.base_cell (g := 0) (by rw [globsZ]; decide) (cs := [.iface 121 (.agg #[.chan (some 1)])]) rfl (i := 0) rfl
 rw [h1]
 cases h2 with
 | @iface _ _ p hp =>
   have hp2 : VR ρ (.agg ⟨[.chan (some 1)]⟩) p := hp
   cases hp2 with
   | @agg _ l' hs hh =>
     match l', hs, hh with
     | [x], _, hh =>
       have h3 : VR ρ (.chan (some (0 + 1))) x := by simpa using hh 0 (by simp)
       generalize hc : (Value.chan (some (0 + 1))) = cc at h3
       cases h3 with
       | dead => exact absurd hc (by simp [dead])
       | tok k => cases hc; rfl
       | _ => cases hc
theorem below_alloc (w : World) (o : Obj) : Below w.heap.size w (w.alloc o) :=
 ⟨rfl, rfl, rfl, by simp, fun k hk => by show (w.heap.push o)[k]? = _; rw [Array.getElem?_push, if_neg (Nat.ne_of_lt hk)]⟩
theorem below_alloc4 (w : World) (a b c d : Obj) : Below w.heap.size w ((((w.alloc a).alloc b).alloc c).alloc d) := by
 have h : ∀ (w' : World) (o : Obj), Below w.heap.size w w' → Below w.heap.size w (w'.alloc o) := fun w' o hb => by
   refine { tape := hb.tape, os := hb.os, output := hb.output, size := by have := hb.size; simp; omega, block := fun k hk => ?_ }
   show (w'.heap.push o)[k]? = _
   rw [Array.getElem?_push, if_neg (by have := hb.size; omega)]
   exact hb.block k hk
 exact h _ d (h _ c (h _ b (below_alloc w a)))
theorem exhA_ok (args : List Value) (H : Hp) (r : Out × Hp) (h : exhA args H = some r) : (∃ fn, Tryz.prog.funcs[19]? = some fn ∧ fn.name ≠ "runtime.NumGoroutine" ∧ fn.body.isSome = true) ∧
   ∀ ρ w args', Sim Tryz.prog ρ H w → VL ρ args args' → Calls Tryz.prog 19 ⟨args'⟩ w (EndR Tryz.prog ρ H w r) := by
 unfold exhA at h
 split at h
 · rename_i eb eo tb to
   rw [Option.map_eq_some_iff] at h
   obtain ⟨H', h, rfl⟩ := h
   refine ⟨has19, fun ρ w args' hS ha => ?_⟩
   obtain ⟨v1, l1, rfl, h1, h2⟩ := ha.inv_cons
   obtain ⟨v2, l2, rfl, h3, h4⟩ := h2.inv_cons
   have := h4.inv_nil
   subst this
   cases h1 with
   | @iface _ _ e' he =>
   cases h3 with
   | @iface _ _ t' ht =>
   cases he with
   | @ptr _ _ eb' ed her =>
   obtain ⟨t, old, rfl, hc, hf, _⟩ := st1_cell hS ht (VR.ptr her) rfl rfl h
   refine (as_hit ⟨eb', eo + ed, none⟩ t old w (tok_cell hS) hc hf).mono ?_
   rintro e w' ⟨rfl, rfl⟩
   have hg := hS.grown (below_alloc4 w (.cells #[.pointer (some t)] 69) (.cells #[.pointer (some ⟨11, 69, none⟩), .pointer (some ⟨w.heap.size, 0, none⟩), .int .u64 150] 91) (.cells #[.pointer (some ⟨11, 69, none⟩), .pointer (some ⟨w.heap.size, 0, none⟩), .int .u64 150] 91) (.cells #[.pointer (some ⟨eb', eo + ed, none⟩)] 39))
   obtain ⟨t2, old2, e2, _, _, hst⟩ := st1_cell hg.sim ht (VR.ptr her) rfl rfl h
   cases e2
   exact ⟨ρ, hg.trans hst, _, rfl, .bool _⟩
 · rename_i eb eo tb to
   split at h
   · rename_i k z hl
     rw [Option.map_eq_some_iff] at h
     obtain ⟨H', h, rfl⟩ := h
     refine ⟨has19, fun ρ w args' hS ha => ?_⟩
     obtain ⟨v1, l1, rfl, h1, h2⟩ := ha.inv_cons
     obtain ⟨v2, l2, rfl, h3, h4⟩ := h2.inv_cons
     have := h4.inv_nil
     subst this
     cases h1 with
     | @iface _ _ e' he =>
     cases h3 with
     | @iface _ _ t' ht =>
     cases he with
     | @ptr _ _ eb' ed her =>
     obtain ⟨t, old, rfl, hc, hf, _⟩ := st1_cell hS ht (VR.int k z) rfl rfl h
     have hE : w.cell? ⟨eb', eo + ed + 1, none⟩ = some (.iface 27 (.int k z)) := by
       simp only [ld, Ev.ptr] at hl
       cases hcc : H.cells eb with
       | none => rw [hcc] at hl; cases hl
       | some cs =>
         rw [hcc] at hl
         obtain ⟨cc, e, zz, h5, h6⟩ := hS.cells hcc her
         obtain ⟨v', h9, h10⟩ := h6.2 (eo + 1) _ hl
         cases h10 with
         | @iface _ _ p hp2 =>
           cases hp2
           rw [cell?_of h5, ← h9]
           congr 1
           show eo + ed + 1 = ed + (eo + 1)
           omega
     refine (as_hit2 eb' (eo + ed) k z t old w hE (tok_cell hS) hc hf).mono ?_
     rintro e w' ⟨rfl, rfl⟩
     have hg := hS.grown (below_alloc4 w (.cells #[.pointer (some t)] 70) (.cells #[.pointer (some ⟨11, 70, none⟩), .pointer (some ⟨w.heap.size, 0, none⟩), .int .u64 150] 91) (.cells #[.pointer (some ⟨11, 70, none⟩), .pointer (some ⟨w.heap.size, 0, none⟩), .int .u64 150] 91) (.cells #[.int k z] 27))
     obtain ⟨t2, old2, e2, _, _, hst⟩ := st1_cell hg.sim ht (VR.int k z) rfl rfl h
     cases e2
     exact ⟨ρ, hg.trans hst, _, rfl, .bool _⟩
   · cases h
 · cases h
end Go.Proofs.YtbaooebafijenaaGreatDoor
