/- Operands: what stands between them, and reading one. -/
import Derived.Test.YtbaooebafijenaaGreatDoorHTok
import Derived.Test.YtbaooebafijenaaGreatDoorHCodeP
import Derived.Test.YtbaooebafijenaaGreatDoorHvBun
namespace Go.Proofs.YtbaooebafijenaaGreatDoor
open Go Go.Ev
set_option maxRecDepth 100000
set_option linter.unusedSimpArgs false
set_option linter.unusedVariables false
set_option maxHeartbeats 2000000
set_option linter.unusedSectionVars false
variable [Mx]
attribute [local congr] bind_front callK_front jn_front ifB_front ifG_front lp_front
structure Ins where
 op : Int
 A : Int
 B : Int
 C : Int
 I : Int
 deriving DecidableEq
def Ins.cells (i : Ins) : List Value := [.int .i64 i.op, .int .i64 i.A, .int .i64 i.B, .int .i64 i.C, .int .i64 i.I]
def Ins.val (i : Ins) : Value := .agg i.cells.toArray
def Ins.set (i : Ins) (c : Nat) (z : Int) : Ins := if c = 97 ∨ c = 65 then { i with A := z } else if c = 98 ∨ c = 66 then { i with B := z } else if c = 99 ∨ c = 67 then { i with C := z } else { i with I := z }
def shpC (c : Nat) : Prop := c = 97 ∨ c = 98 ∨ c = 99 ∨ c = 65 ∨ c = 66 ∨ c = 67 ∨ c = 105
def cutB (w : ByteArray) (p : UInt8) : ByteArray × Bool := (⟨(Lib.trimPrefix w.data.toList [p]).toArray⟩, Lib.hasPrefix w.data.toList [p])
def stripV (c : Nat) (w : ByteArray) : ByteArray × Bool := if c = 105 then (w, true) else if c < 97 then cutB w 102 else cutB w 114
def putV (c : Nat) (w : ByteArray) : Int × Bool := ((wholeV (stripV c w).1).1, (stripV c w).2 && (wholeV (stripV c w).1).2)
theorem e72 (n : Nat) (w : ByteArray) (p : UInt8) (H : Hp) : evCall cfc (n+1) 72 [.string w, .string ⟨#[p]⟩] H = some (.ret (.tuple #[.string (cutB w p).1, .bool (cutB w p).2]), H) :=
 evCall_ext (show extL 72 [.string w, .string ⟨#[p]⟩] = some _ from rfl) n H
theorem cutB_size (w : ByteArray) (p : UInt8) : (cutB w p).1.size ≤ w.size := by
 show (Lib.trimPrefix w.data.toList [p]).toArray.size ≤ _
 rw [Lib.size_eq w]
 unfold Lib.trimPrefix
 split <;> simp
theorem q47 (n : Nat) (x y z : Value) (H : Hp) : evCall cfc (n+1) 47 [x, y, z] H = s47 (evCall cfc n) n x y z H := by
 rw [evCall_open (fn := Tryz.f47) (by rfl) (by rfl) Tryz.func47 (by rfl)]
 exact s47_eq _ _ _ _ _ _
theorem v47 (n : Nat) {H : Hp} {b : Nat} {i : Ins} (hb : H.rwc b = some i.cells) (hl : H.lim ≤ b) (c : Nat) (hc : shpC c) (w : ByteArray) (hw : w.size ≤ 281474976710656) :
   evCall cfc (n+5) 47 [ptr b 0, .int .u8 c, .string w] H = some (.ret (.bool (putV c w).2), H.set b (.rw (i.set c (putV c w).1).cells)) := by
 rw [q47]
 have hc0 := cells_rwc hb
 have hl' : (H.lim ≤ b) = True := eq_true hl
 have h73 := fun (x : ByteArray) (hx : x.size ≤ w.size) => v71 (n+2) x (by omega)
 have h72 := fun p => e72 (n+3) w p
 have s72 := fun p => h73 _ (cutB_size w p)
 have s0 := h73 w (Nat.le_refl _)
 have q62' := fun (x y : Value) => q62 (n+3) x y H
 have c42 := v41 (n+1) H
 simp only [Ins.cells] at hb hc0
 rcases hc with rfl | rfl | rfl | rfl | rfl | rfl | rfl
 · have hp : putV 97 w = ((wholeV (cutB w 114).1).1, (cutB w 114).2 && (wholeV (cutB w 114).1).2) := rfl
   rw [hp]
   have e72 := h72 114
   have e73 := s72 114
   generalize cutB w 114 = p at e72 e73 ⊢
   generalize wholeV p.1 = q at e73 ⊢
   obtain ⟨w1, ok1⟩ := p
   obtain ⟨z, ok2⟩ := q
   cases ok1 <;> cases ok2 <;> simp -implicitDefEqProofs only [s47, q62', s62, ↓GVdn, GVup, goInt, splice, okC, Fr.of, Fr.ofI, Fr.g, Nat.reduceAdd, Nat.reduceMul, Nat.reduceEqDiff, Nat.reduceLT, Nat.reduceLeDiff, Nat.reduceBEq, Int.reduceLT, Int.reduceLE, Int.reduceToNat, Int.reduceAdd, Int.reduceSub, Int.reduceMul, Int.reduceEq, Int.reduceNeg, ↓reduceIte, ↓reduceDIte, Nat.beq, reduceCtorEq, Value.int.injEq, Nat.reduceSub, sto_ptr, lp_succ, e72, e73, hl', hb, hc0, Ins.set, Ins.cells, false_or, or_false, true_or, or_true]
 · have hp : putV 98 w = ((wholeV (cutB w 114).1).1, (cutB w 114).2 && (wholeV (cutB w 114).1).2) := rfl
   rw [hp]
   have e72 := h72 114
   have e73 := s72 114
   generalize cutB w 114 = p at e72 e73 ⊢
   generalize wholeV p.1 = q at e73 ⊢
   obtain ⟨w1, ok1⟩ := p
   obtain ⟨z, ok2⟩ := q
   cases ok1 <;> cases ok2 <;> simp -implicitDefEqProofs only [s47, q62', s62, ↓GVdn, GVup, goInt, splice, okC, Fr.of, Fr.ofI, Fr.g, Nat.reduceAdd, Nat.reduceMul, Nat.reduceEqDiff, Nat.reduceLT, Nat.reduceLeDiff, Nat.reduceBEq, Int.reduceLT, Int.reduceLE, Int.reduceToNat, Int.reduceAdd, Int.reduceSub, Int.reduceMul, Int.reduceEq, Int.reduceNeg, ↓reduceIte, ↓reduceDIte, Nat.beq, reduceCtorEq, Value.int.injEq, Nat.reduceSub, sto_ptr, lp_succ, e72, e73, hl', hb, hc0, Ins.set, Ins.cells, false_or, or_false, true_or, or_true]
 · have hp : putV 99 w = ((wholeV (cutB w 114).1).1, (cutB w 114).2 && (wholeV (cutB w 114).1).2) := rfl
   rw [hp]
   have e72 := h72 114
   have e73 := s72 114
   generalize cutB w 114 = p at e72 e73 ⊢
   generalize wholeV p.1 = q at e73 ⊢
   obtain ⟨w1, ok1⟩ := p
   obtain ⟨z, ok2⟩ := q
   cases ok1 <;> cases ok2 <;> simp -implicitDefEqProofs only [s47, q62', s62, ↓GVdn, GVup, goInt, splice, okC, Fr.of, Fr.ofI, Fr.g, Nat.reduceAdd, Nat.reduceMul, Nat.reduceEqDiff, Nat.reduceLT, Nat.reduceLeDiff, Nat.reduceBEq, Int.reduceLT, Int.reduceLE, Int.reduceToNat, Int.reduceAdd, Int.reduceSub, Int.reduceMul, Int.reduceEq, Int.reduceNeg, ↓reduceIte, ↓reduceDIte, Nat.beq, reduceCtorEq, Value.int.injEq, Nat.reduceSub, sto_ptr, lp_succ, e72, e73, hl', hb, hc0, Ins.set, Ins.cells, false_or, or_false, true_or, or_true]
 · have hp : putV 65 w = ((wholeV (cutB w 102).1).1, (cutB w 102).2 && (wholeV (cutB w 102).1).2) := rfl
   rw [hp]
   have e72 := h72 102
   have e73 := s72 102
   generalize cutB w 102 = p at e72 e73 ⊢
   generalize wholeV p.1 = q at e73 ⊢
   obtain ⟨w1, ok1⟩ := p
   obtain ⟨z, ok2⟩ := q
   cases ok1 <;> cases ok2 <;> simp -implicitDefEqProofs only [s47, q62', s62, ↓GVdn, GVup, goInt, splice, okC, Fr.of, Fr.ofI, Fr.g, Nat.reduceAdd, Nat.reduceMul, Nat.reduceEqDiff, Nat.reduceLT, Nat.reduceLeDiff, Nat.reduceBEq, Int.reduceLT, Int.reduceLE, Int.reduceToNat, Int.reduceAdd, Int.reduceSub, Int.reduceMul, Int.reduceEq, Int.reduceNeg, ↓reduceIte, ↓reduceDIte, Nat.beq, reduceCtorEq, Value.int.injEq, Nat.reduceSub, sto_ptr, lp_succ, e72, e73, hl', hb, hc0, Ins.set, Ins.cells, false_or, or_false, true_or, or_true]
 · have hp : putV 66 w = ((wholeV (cutB w 102).1).1, (cutB w 102).2 && (wholeV (cutB w 102).1).2) := rfl
   rw [hp]
   have e72 := h72 102
   have e73 := s72 102
   generalize cutB w 102 = p at e72 e73 ⊢
   generalize wholeV p.1 = q at e73 ⊢
   obtain ⟨w1, ok1⟩ := p
   obtain ⟨z, ok2⟩ := q
   cases ok1 <;> cases ok2 <;> simp -implicitDefEqProofs only [s47, q62', s62, ↓GVdn, GVup, goInt, splice, okC, Fr.of, Fr.ofI, Fr.g, Nat.reduceAdd, Nat.reduceMul, Nat.reduceEqDiff, Nat.reduceLT, Nat.reduceLeDiff, Nat.reduceBEq, Int.reduceLT, Int.reduceLE, Int.reduceToNat, Int.reduceAdd, Int.reduceSub, Int.reduceMul, Int.reduceEq, Int.reduceNeg, ↓reduceIte, ↓reduceDIte, Nat.beq, reduceCtorEq, Value.int.injEq, Nat.reduceSub, sto_ptr, lp_succ, e72, e73, hl', hb, hc0, Ins.set, Ins.cells, false_or, or_false, true_or, or_true]
 · have hp : putV 67 w = ((wholeV (cutB w 102).1).1, (cutB w 102).2 && (wholeV (cutB w 102).1).2) := rfl
   rw [hp]
   have e72 := h72 102
   have e73 := s72 102
   generalize cutB w 102 = p at e72 e73 ⊢
   generalize wholeV p.1 = q at e73 ⊢
   obtain ⟨w1, ok1⟩ := p
   obtain ⟨z, ok2⟩ := q
   cases ok1 <;> cases ok2 <;> simp -implicitDefEqProofs only [s47, q62', s62, ↓GVdn, GVup, goInt, splice, okC, Fr.of, Fr.ofI, Fr.g, Nat.reduceAdd, Nat.reduceMul, Nat.reduceEqDiff, Nat.reduceLT, Nat.reduceLeDiff, Nat.reduceBEq, Int.reduceLT, Int.reduceLE, Int.reduceToNat, Int.reduceAdd, Int.reduceSub, Int.reduceMul, Int.reduceEq, Int.reduceNeg, ↓reduceIte, ↓reduceDIte, Nat.beq, reduceCtorEq, Value.int.injEq, Nat.reduceSub, sto_ptr, lp_succ, e72, e73, hl', hb, hc0, Ins.set, Ins.cells, false_or, or_false, true_or, or_true]
 · have hp : putV 105 w = ((wholeV w).1, (wholeV w).2) := rfl
   rw [hp]
   generalize wholeV w = q at s0 ⊢
   obtain ⟨z, ok2⟩ := q
   cases ok2 <;> simp -implicitDefEqProofs only [s47, q62', s62, ↓GVdn, GVup, goInt, splice, okC, Fr.of, Fr.ofI, Fr.g, Nat.reduceAdd, Nat.reduceMul, Nat.reduceEqDiff, Nat.reduceLT, Nat.reduceLeDiff, Nat.reduceBEq, Int.reduceLT, Int.reduceLE, Int.reduceToNat, Int.reduceAdd, Int.reduceSub, Int.reduceMul, Int.reduceEq, Int.reduceNeg, ↓reduceIte, ↓reduceDIte, Nat.beq, reduceCtorEq, Value.int.injEq, Nat.reduceSub, sto_ptr, lp_succ, s0, c42, hl', hb, hc0, Ins.set, Ins.cells, false_or, or_false]
end Go.Proofs.YtbaooebafijenaaGreatDoor
