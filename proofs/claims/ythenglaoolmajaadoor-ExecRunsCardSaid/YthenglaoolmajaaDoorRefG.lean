/- The document's doing of an instruction, by operation: it is the program's. -/
import Derived.Test.YthenglaoolmajaaDoorEvBun
import Derived.Test.YthenglaoolmajaaDoorRefD
namespace Go.Proofs.YthenglaoolmajaaDoor
open Go Go.Ev
set_option maxRecDepth 100000
set_option linter.unusedSimpArgs false
set_option linter.unusedVariables false
set_option maxHeartbeats 8000000
set_option linter.unusedSectionVars false
attribute [local congr] bind_front callK_front jn_front ifB_front ifG_front lp_front
theorem fr_range {F : Nat → Int} (hF : ∀ i, i < 8 → inK .u64 (F i)) (k : Nat) (hk : k < 8) : 0 ≤ F k ∧ F k < 18446744073709551616 := by
  have := hF k hk
  have h1 : 0 ≤ F k := this.1
  have h2 : F k ≤ 18446744073709551615 := this.2
  omega
theorem a5_of {A : Int} (h : A < 16) : (A.toNat ≤ 24) = True := eq_true (by omega)
theorem a6_of {A : Int} (h : A < 16) : (16 + A.toNat ≤ 24) = True ∨ ¬ A < 8 := by
  by_cases h : A < 8
  · exact Or.inl (eq_true (by omega))
  · exact Or.inr h
theorem v40_46 (n : Nat) (H : Hp) (R F : Nat → Int) (pc A B C : Int) (hA : 0 ≤ A ∧ A < 8) (hB : 0 ≤ B ∧ B < 8) (hC : 0 ≤ C ∧ C < 8) (hF : ∀ i, i < 8 → inK .u64 (F i)) : evCall cfc (n+5) 40 [.agg (regs R F pc).toArray, .agg #[.int .i64 46, .int .i64 A, .int .i64 B, .int .i64 C, .int .i64 0]] H = some (.ret (.agg (regs R (upd F A.toNat (arV 46 (F B.toNat) (F C.toNat))) pc).toArray), H) := by
  rw [q40 (n+4) _ _ (regs_flat _ _ _) rfl H]
  have ar := rg87 hA
  have br := rg87 hB
  have cr := rg87 hC
  have fv : formV 46 = 9 := rfl
  have fB : (0 ≤ F B.toNat ∧ F B.toNat < 18446744073709551616) = True := eq_true (fr_range hF _ (by omega))
  have fC : (0 ≤ F C.toNat ∧ F C.toNat < 18446744073709551616) = True := eq_true (fr_range hF _ (by omega))
  have o57 : (46 ≤ (46:Int) ∧ (46:Int) ≤ 54) = True := eq_true (by omega)
  simp -implicitDefEqProofs only [s40, v16, fv, v57, o57, fB, fC, ar, br, cr, wrap_0, tabs_gn, ↓EVdn, EVup, lp_succ, goInt, splice, okC, Fr.of, Fr.ofI, Fr.g, Nat.reduceAdd, Nat.reduceMul, Nat.reduceEqDiff, Nat.reduceLT, Nat.reduceLeDiff, Nat.reduceBEq, Int.reduceLT, Int.reduceLE, Int.reduceToNat, Int.reduceAdd, Int.reduceSub, Int.reduceMul, Int.reduceEq, Int.reduceNeg, ↓reduceIte, ↓reduceDIte, Nat.beq, reduceCtorEq, Value.int.injEq, Nat.reduceSub, flat_int, flat_bool, flat_t2w, flat_t2u, flat_bt, flat_done, regs_flat, flat_i5, flat_need, upd_upd, decide_true]
theorem v40_47 (n : Nat) (H : Hp) (R F : Nat → Int) (pc A B C : Int) (hA : 0 ≤ A ∧ A < 8) (hB : 0 ≤ B ∧ B < 8) (hC : 0 ≤ C ∧ C < 8) (hF : ∀ i, i < 8 → inK .u64 (F i)) : evCall cfc (n+5) 40 [.agg (regs R F pc).toArray, .agg #[.int .i64 47, .int .i64 A, .int .i64 B, .int .i64 C, .int .i64 0]] H = some (.ret (.agg (regs R (upd F A.toNat (arV 47 (F B.toNat) (F C.toNat))) pc).toArray), H) := by
  rw [q40 (n+4) _ _ (regs_flat _ _ _) rfl H]
  have ar := rg87 hA
  have br := rg87 hB
  have cr := rg87 hC
  have fv : formV 47 = 9 := rfl
  have fB : (0 ≤ F B.toNat ∧ F B.toNat < 18446744073709551616) = True := eq_true (fr_range hF _ (by omega))
  have fC : (0 ≤ F C.toNat ∧ F C.toNat < 18446744073709551616) = True := eq_true (fr_range hF _ (by omega))
  have o57 : (46 ≤ (47:Int) ∧ (47:Int) ≤ 54) = True := eq_true (by omega)
  simp -implicitDefEqProofs only [s40, v16, fv, v57, o57, fB, fC, ar, br, cr, wrap_0, tabs_gn, ↓EVdn, EVup, lp_succ, goInt, splice, okC, Fr.of, Fr.ofI, Fr.g, Nat.reduceAdd, Nat.reduceMul, Nat.reduceEqDiff, Nat.reduceLT, Nat.reduceLeDiff, Nat.reduceBEq, Int.reduceLT, Int.reduceLE, Int.reduceToNat, Int.reduceAdd, Int.reduceSub, Int.reduceMul, Int.reduceEq, Int.reduceNeg, ↓reduceIte, ↓reduceDIte, Nat.beq, reduceCtorEq, Value.int.injEq, Nat.reduceSub, flat_int, flat_bool, flat_t2w, flat_t2u, flat_bt, flat_done, regs_flat, flat_i5, flat_need, upd_upd, decide_true]
theorem v40_48 (n : Nat) (H : Hp) (R F : Nat → Int) (pc A B C : Int) (hA : 0 ≤ A ∧ A < 8) (hB : 0 ≤ B ∧ B < 8) (hC : 0 ≤ C ∧ C < 8) (hF : ∀ i, i < 8 → inK .u64 (F i)) : evCall cfc (n+5) 40 [.agg (regs R F pc).toArray, .agg #[.int .i64 48, .int .i64 A, .int .i64 B, .int .i64 C, .int .i64 0]] H = some (.ret (.agg (regs R (upd F A.toNat (arV 48 (F B.toNat) (F C.toNat))) pc).toArray), H) := by
  rw [q40 (n+4) _ _ (regs_flat _ _ _) rfl H]
  have ar := rg87 hA
  have br := rg87 hB
  have cr := rg87 hC
  have fv : formV 48 = 9 := rfl
  have fB : (0 ≤ F B.toNat ∧ F B.toNat < 18446744073709551616) = True := eq_true (fr_range hF _ (by omega))
  have fC : (0 ≤ F C.toNat ∧ F C.toNat < 18446744073709551616) = True := eq_true (fr_range hF _ (by omega))
  have o57 : (46 ≤ (48:Int) ∧ (48:Int) ≤ 54) = True := eq_true (by omega)
  simp -implicitDefEqProofs only [s40, v16, fv, v57, o57, fB, fC, ar, br, cr, wrap_0, tabs_gn, ↓EVdn, EVup, lp_succ, goInt, splice, okC, Fr.of, Fr.ofI, Fr.g, Nat.reduceAdd, Nat.reduceMul, Nat.reduceEqDiff, Nat.reduceLT, Nat.reduceLeDiff, Nat.reduceBEq, Int.reduceLT, Int.reduceLE, Int.reduceToNat, Int.reduceAdd, Int.reduceSub, Int.reduceMul, Int.reduceEq, Int.reduceNeg, ↓reduceIte, ↓reduceDIte, Nat.beq, reduceCtorEq, Value.int.injEq, Nat.reduceSub, flat_int, flat_bool, flat_t2w, flat_t2u, flat_bt, flat_done, regs_flat, flat_i5, flat_need, upd_upd, decide_true]
theorem v40_49 (n : Nat) (H : Hp) (R F : Nat → Int) (pc A B C : Int) (hA : 0 ≤ A ∧ A < 8) (hB : 0 ≤ B ∧ B < 8) (hC : 0 ≤ C ∧ C < 8) (hF : ∀ i, i < 8 → inK .u64 (F i)) : evCall cfc (n+5) 40 [.agg (regs R F pc).toArray, .agg #[.int .i64 49, .int .i64 A, .int .i64 B, .int .i64 C, .int .i64 0]] H = some (.ret (.agg (regs R (upd F A.toNat (arV 49 (F B.toNat) (F C.toNat))) pc).toArray), H) := by
  rw [q40 (n+4) _ _ (regs_flat _ _ _) rfl H]
  have ar := rg87 hA
  have br := rg87 hB
  have cr := rg87 hC
  have fv : formV 49 = 9 := rfl
  have fB : (0 ≤ F B.toNat ∧ F B.toNat < 18446744073709551616) = True := eq_true (fr_range hF _ (by omega))
  have fC : (0 ≤ F C.toNat ∧ F C.toNat < 18446744073709551616) = True := eq_true (fr_range hF _ (by omega))
  have o57 : (46 ≤ (49:Int) ∧ (49:Int) ≤ 54) = True := eq_true (by omega)
  simp -implicitDefEqProofs only [s40, v16, fv, v57, o57, fB, fC, ar, br, cr, wrap_0, tabs_gn, ↓EVdn, EVup, lp_succ, goInt, splice, okC, Fr.of, Fr.ofI, Fr.g, Nat.reduceAdd, Nat.reduceMul, Nat.reduceEqDiff, Nat.reduceLT, Nat.reduceLeDiff, Nat.reduceBEq, Int.reduceLT, Int.reduceLE, Int.reduceToNat, Int.reduceAdd, Int.reduceSub, Int.reduceMul, Int.reduceEq, Int.reduceNeg, ↓reduceIte, ↓reduceDIte, Nat.beq, reduceCtorEq, Value.int.injEq, Nat.reduceSub, flat_int, flat_bool, flat_t2w, flat_t2u, flat_bt, flat_done, regs_flat, flat_i5, flat_need, upd_upd, decide_true]
theorem v40_50 (n : Nat) (H : Hp) (R F : Nat → Int) (pc A B : Int) (hA : 0 ≤ A ∧ A < 8) (hB : 0 ≤ B ∧ B < 8) (hF : ∀ i, i < 8 → inK .u64 (F i)) : evCall cfc (n+5) 40 [.agg (regs R F pc).toArray, .agg #[.int .i64 50, .int .i64 A, .int .i64 B, .int .i64 0, .int .i64 0]] H = some (.ret (.agg (regs R (upd F A.toNat (arV 50 (F B.toNat) (0))) pc).toArray), H) := by
  rw [q40 (n+4) _ _ (regs_flat _ _ _) rfl H]
  have ar := rg87 hA
  have br := rg87 hB
  have fv : formV 50 = 10 := rfl
  have fB : (0 ≤ F B.toNat ∧ F B.toNat < 18446744073709551616) = True := eq_true (fr_range hF _ (by omega))
  have fC : (0 ≤ (0:Int) ∧ (0:Int) < 18446744073709551616) = True := eq_true (by omega)
  have o57 : (46 ≤ (50:Int) ∧ (50:Int) ≤ 54) = True := eq_true (by omega)
  simp -implicitDefEqProofs only [s40, v16, fv, v57, o57, fB, fC, ar, br, wrap_0, tabs_gn, ↓EVdn, EVup, lp_succ, goInt, splice, okC, Fr.of, Fr.ofI, Fr.g, Nat.reduceAdd, Nat.reduceMul, Nat.reduceEqDiff, Nat.reduceLT, Nat.reduceLeDiff, Nat.reduceBEq, Int.reduceLT, Int.reduceLE, Int.reduceToNat, Int.reduceAdd, Int.reduceSub, Int.reduceMul, Int.reduceEq, Int.reduceNeg, ↓reduceIte, ↓reduceDIte, Nat.beq, reduceCtorEq, Value.int.injEq, Nat.reduceSub, flat_int, flat_bool, flat_t2w, flat_t2u, flat_bt, flat_done, regs_flat, flat_i5, flat_need, upd_upd, decide_true]
theorem v40_51 (n : Nat) (H : Hp) (R F : Nat → Int) (pc A B C : Int) (hA : 0 ≤ A ∧ A < 8) (hB : 0 ≤ B ∧ B < 8) (hC : 0 ≤ C ∧ C < 8) (hF : ∀ i, i < 8 → inK .u64 (F i)) : evCall cfc (n+5) 40 [.agg (regs R F pc).toArray, .agg #[.int .i64 51, .int .i64 A, .int .i64 B, .int .i64 C, .int .i64 0]] H = some (.ret (.agg (regs R (upd F A.toNat (arV 51 (F B.toNat) (F C.toNat))) pc).toArray), H) := by
  rw [q40 (n+4) _ _ (regs_flat _ _ _) rfl H]
  have ar := rg87 hA
  have br := rg87 hB
  have cr := rg87 hC
  have fv : formV 51 = 9 := rfl
  have fB : (0 ≤ F B.toNat ∧ F B.toNat < 18446744073709551616) = True := eq_true (fr_range hF _ (by omega))
  have fC : (0 ≤ F C.toNat ∧ F C.toNat < 18446744073709551616) = True := eq_true (fr_range hF _ (by omega))
  have o57 : (46 ≤ (51:Int) ∧ (51:Int) ≤ 54) = True := eq_true (by omega)
  simp -implicitDefEqProofs only [s40, v16, fv, v57, o57, fB, fC, ar, br, cr, wrap_0, tabs_gn, ↓EVdn, EVup, lp_succ, goInt, splice, okC, Fr.of, Fr.ofI, Fr.g, Nat.reduceAdd, Nat.reduceMul, Nat.reduceEqDiff, Nat.reduceLT, Nat.reduceLeDiff, Nat.reduceBEq, Int.reduceLT, Int.reduceLE, Int.reduceToNat, Int.reduceAdd, Int.reduceSub, Int.reduceMul, Int.reduceEq, Int.reduceNeg, ↓reduceIte, ↓reduceDIte, Nat.beq, reduceCtorEq, Value.int.injEq, Nat.reduceSub, flat_int, flat_bool, flat_t2w, flat_t2u, flat_bt, flat_done, regs_flat, flat_i5, flat_need, upd_upd, decide_true]
theorem v40_52 (n : Nat) (H : Hp) (R F : Nat → Int) (pc A B C : Int) (hA : 0 ≤ A ∧ A < 8) (hB : 0 ≤ B ∧ B < 8) (hC : 0 ≤ C ∧ C < 8) (hF : ∀ i, i < 8 → inK .u64 (F i)) : evCall cfc (n+5) 40 [.agg (regs R F pc).toArray, .agg #[.int .i64 52, .int .i64 A, .int .i64 B, .int .i64 C, .int .i64 0]] H = some (.ret (.agg (regs R (upd F A.toNat (arV 52 (F B.toNat) (F C.toNat))) pc).toArray), H) := by
  rw [q40 (n+4) _ _ (regs_flat _ _ _) rfl H]
  have ar := rg87 hA
  have br := rg87 hB
  have cr := rg87 hC
  have fv : formV 52 = 9 := rfl
  have fB : (0 ≤ F B.toNat ∧ F B.toNat < 18446744073709551616) = True := eq_true (fr_range hF _ (by omega))
  have fC : (0 ≤ F C.toNat ∧ F C.toNat < 18446744073709551616) = True := eq_true (fr_range hF _ (by omega))
  have o57 : (46 ≤ (52:Int) ∧ (52:Int) ≤ 54) = True := eq_true (by omega)
  simp -implicitDefEqProofs only [s40, v16, fv, v57, o57, fB, fC, ar, br, cr, wrap_0, tabs_gn, ↓EVdn, EVup, lp_succ, goInt, splice, okC, Fr.of, Fr.ofI, Fr.g, Nat.reduceAdd, Nat.reduceMul, Nat.reduceEqDiff, Nat.reduceLT, Nat.reduceLeDiff, Nat.reduceBEq, Int.reduceLT, Int.reduceLE, Int.reduceToNat, Int.reduceAdd, Int.reduceSub, Int.reduceMul, Int.reduceEq, Int.reduceNeg, ↓reduceIte, ↓reduceDIte, Nat.beq, reduceCtorEq, Value.int.injEq, Nat.reduceSub, flat_int, flat_bool, flat_t2w, flat_t2u, flat_bt, flat_done, regs_flat, flat_i5, flat_need, upd_upd, decide_true]
theorem v40_53 (n : Nat) (H : Hp) (R F : Nat → Int) (pc A B : Int) (hA : 0 ≤ A ∧ A < 8) (hB : 0 ≤ B ∧ B < 8) (hF : ∀ i, i < 8 → inK .u64 (F i)) : evCall cfc (n+5) 40 [.agg (regs R F pc).toArray, .agg #[.int .i64 53, .int .i64 A, .int .i64 B, .int .i64 0, .int .i64 0]] H = some (.ret (.agg (regs R (upd F A.toNat (arV 53 (F B.toNat) (0))) pc).toArray), H) := by
  rw [q40 (n+4) _ _ (regs_flat _ _ _) rfl H]
  have ar := rg87 hA
  have br := rg87 hB
  have fv : formV 53 = 10 := rfl
  have fB : (0 ≤ F B.toNat ∧ F B.toNat < 18446744073709551616) = True := eq_true (fr_range hF _ (by omega))
  have fC : (0 ≤ (0:Int) ∧ (0:Int) < 18446744073709551616) = True := eq_true (by omega)
  have o57 : (46 ≤ (53:Int) ∧ (53:Int) ≤ 54) = True := eq_true (by omega)
  simp -implicitDefEqProofs only [s40, v16, fv, v57, o57, fB, fC, ar, br, wrap_0, tabs_gn, ↓EVdn, EVup, lp_succ, goInt, splice, okC, Fr.of, Fr.ofI, Fr.g, Nat.reduceAdd, Nat.reduceMul, Nat.reduceEqDiff, Nat.reduceLT, Nat.reduceLeDiff, Nat.reduceBEq, Int.reduceLT, Int.reduceLE, Int.reduceToNat, Int.reduceAdd, Int.reduceSub, Int.reduceMul, Int.reduceEq, Int.reduceNeg, ↓reduceIte, ↓reduceDIte, Nat.beq, reduceCtorEq, Value.int.injEq, Nat.reduceSub, flat_int, flat_bool, flat_t2w, flat_t2u, flat_bt, flat_done, regs_flat, flat_i5, flat_need, upd_upd, decide_true]
theorem v40_54 (n : Nat) (H : Hp) (R F : Nat → Int) (pc A B : Int) (hA : 0 ≤ A ∧ A < 8) (hB : 0 ≤ B ∧ B < 8) (hF : ∀ i, i < 8 → inK .u64 (F i)) : evCall cfc (n+5) 40 [.agg (regs R F pc).toArray, .agg #[.int .i64 54, .int .i64 A, .int .i64 B, .int .i64 0, .int .i64 0]] H = some (.ret (.agg (regs R (upd F A.toNat (arV 54 (F B.toNat) (0))) pc).toArray), H) := by
  rw [q40 (n+4) _ _ (regs_flat _ _ _) rfl H]
  have ar := rg87 hA
  have br := rg87 hB
  have fv : formV 54 = 10 := rfl
  have fB : (0 ≤ F B.toNat ∧ F B.toNat < 18446744073709551616) = True := eq_true (fr_range hF _ (by omega))
  have fC : (0 ≤ (0:Int) ∧ (0:Int) < 18446744073709551616) = True := eq_true (by omega)
  have o57 : (46 ≤ (54:Int) ∧ (54:Int) ≤ 54) = True := eq_true (by omega)
  simp -implicitDefEqProofs only [s40, v16, fv, v57, o57, fB, fC, ar, br, wrap_0, tabs_gn, ↓EVdn, EVup, lp_succ, goInt, splice, okC, Fr.of, Fr.ofI, Fr.g, Nat.reduceAdd, Nat.reduceMul, Nat.reduceEqDiff, Nat.reduceLT, Nat.reduceLeDiff, Nat.reduceBEq, Int.reduceLT, Int.reduceLE, Int.reduceToNat, Int.reduceAdd, Int.reduceSub, Int.reduceMul, Int.reduceEq, Int.reduceNeg, ↓reduceIte, ↓reduceDIte, Nat.beq, reduceCtorEq, Value.int.injEq, Nat.reduceSub, flat_int, flat_bool, flat_t2w, flat_t2u, flat_bt, flat_done, regs_flat, flat_i5, flat_need, upd_upd, decide_true]
theorem v40_55 (n : Nat) (H : Hp) (R F : Nat → Int) (pc A B C : Int) (hA : 0 ≤ A ∧ A < 16) (hB : 0 ≤ B ∧ B < 8) (hC : 0 ≤ C ∧ C < 8) (hF : ∀ i, i < 8 → inK .u64 (F i)) : evCall cfc (n+5) 40 [.agg (regs R F pc).toArray, .agg #[.int .i64 55, .int .i64 A, .int .i64 B, .int .i64 C, .int .i64 0]] H = some (.ret (.agg (regs (upd R A.toNat (cmI 55 (F B.toNat) (F C.toNat))) F pc).toArray), H) := by
  rw [q40 (n+4) _ _ (regs_flat _ _ _) rfl H]
  have ar := rg166 hA
  have br := rg87 hB
  have cr := rg87 hC
  have fv : formV 55 = 11 := rfl
  have fB : (0 ≤ F B.toNat ∧ F B.toNat < 18446744073709551616) = True := eq_true (fr_range hF _ (by omega))
  have fC : (0 ≤ F C.toNat ∧ F C.toNat < 18446744073709551616) = True := eq_true (fr_range hF _ (by omega))
  simp -implicitDefEqProofs only [s40, v16, fv, v58_55, fB, fC, ar, br, cr, wrap_0, tabs_gn, ↓EVdn, EVup, lp_succ, goInt, splice, okC, Fr.of, Fr.ofI, Fr.g, Nat.reduceAdd, Nat.reduceMul, Nat.reduceEqDiff, Nat.reduceLT, Nat.reduceLeDiff, Nat.reduceBEq, Int.reduceLT, Int.reduceLE, Int.reduceToNat, Int.reduceAdd, Int.reduceSub, Int.reduceMul, Int.reduceEq, Int.reduceNeg, ↓reduceIte, ↓reduceDIte, Nat.beq, reduceCtorEq, Value.int.injEq, Nat.reduceSub, flat_int, flat_bool, flat_t2w, flat_t2u, flat_bt, flat_done, regs_flat, flat_i5, flat_need, upd_upd, decide_true]
theorem v40_56 (n : Nat) (H : Hp) (R F : Nat → Int) (pc A B C : Int) (hA : 0 ≤ A ∧ A < 16) (hB : 0 ≤ B ∧ B < 8) (hC : 0 ≤ C ∧ C < 8) (hF : ∀ i, i < 8 → inK .u64 (F i)) : evCall cfc (n+5) 40 [.agg (regs R F pc).toArray, .agg #[.int .i64 56, .int .i64 A, .int .i64 B, .int .i64 C, .int .i64 0]] H = some (.ret (.agg (regs (upd R A.toNat (cmI 56 (F B.toNat) (F C.toNat))) F pc).toArray), H) := by
  rw [q40 (n+4) _ _ (regs_flat _ _ _) rfl H]
  have ar := rg166 hA
  have br := rg87 hB
  have cr := rg87 hC
  have fv : formV 56 = 11 := rfl
  have fB : (0 ≤ F B.toNat ∧ F B.toNat < 18446744073709551616) = True := eq_true (fr_range hF _ (by omega))
  have fC : (0 ≤ F C.toNat ∧ F C.toNat < 18446744073709551616) = True := eq_true (fr_range hF _ (by omega))
  simp -implicitDefEqProofs only [s40, v16, fv, v58_56, fB, fC, ar, br, cr, wrap_0, tabs_gn, ↓EVdn, EVup, lp_succ, goInt, splice, okC, Fr.of, Fr.ofI, Fr.g, Nat.reduceAdd, Nat.reduceMul, Nat.reduceEqDiff, Nat.reduceLT, Nat.reduceLeDiff, Nat.reduceBEq, Int.reduceLT, Int.reduceLE, Int.reduceToNat, Int.reduceAdd, Int.reduceSub, Int.reduceMul, Int.reduceEq, Int.reduceNeg, ↓reduceIte, ↓reduceDIte, Nat.beq, reduceCtorEq, Value.int.injEq, Nat.reduceSub, flat_int, flat_bool, flat_t2w, flat_t2u, flat_bt, flat_done, regs_flat, flat_i5, flat_need, upd_upd, decide_true]
theorem v40_57 (n : Nat) (H : Hp) (R F : Nat → Int) (pc A B C : Int) (hA : 0 ≤ A ∧ A < 16) (hB : 0 ≤ B ∧ B < 8) (hC : 0 ≤ C ∧ C < 8) (hF : ∀ i, i < 8 → inK .u64 (F i)) : evCall cfc (n+5) 40 [.agg (regs R F pc).toArray, .agg #[.int .i64 57, .int .i64 A, .int .i64 B, .int .i64 C, .int .i64 0]] H = some (.ret (.agg (regs (upd R A.toNat (cmI 57 (F B.toNat) (F C.toNat))) F pc).toArray), H) := by
  rw [q40 (n+4) _ _ (regs_flat _ _ _) rfl H]
  have ar := rg166 hA
  have br := rg87 hB
  have cr := rg87 hC
  have fv : formV 57 = 11 := rfl
  have fB : (0 ≤ F B.toNat ∧ F B.toNat < 18446744073709551616) = True := eq_true (fr_range hF _ (by omega))
  have fC : (0 ≤ F C.toNat ∧ F C.toNat < 18446744073709551616) = True := eq_true (fr_range hF _ (by omega))
  simp -implicitDefEqProofs only [s40, v16, fv, v58_57, fB, fC, ar, br, cr, wrap_0, tabs_gn, ↓EVdn, EVup, lp_succ, goInt, splice, okC, Fr.of, Fr.ofI, Fr.g, Nat.reduceAdd, Nat.reduceMul, Nat.reduceEqDiff, Nat.reduceLT, Nat.reduceLeDiff, Nat.reduceBEq, Int.reduceLT, Int.reduceLE, Int.reduceToNat, Int.reduceAdd, Int.reduceSub, Int.reduceMul, Int.reduceEq, Int.reduceNeg, ↓reduceIte, ↓reduceDIte, Nat.beq, reduceCtorEq, Value.int.injEq, Nat.reduceSub, flat_int, flat_bool, flat_t2w, flat_t2u, flat_bt, flat_done, regs_flat, flat_i5, flat_need, upd_upd, decide_true]
theorem v40_58 (n : Nat) (H : Hp) (R F : Nat → Int) (pc A B : Int) (hA : 0 ≤ A ∧ A < 16) (hB : 0 ≤ B ∧ B < 8) (hF : ∀ i, i < 8 → inK .u64 (F i)) : evCall cfc (n+5) 40 [.agg (regs R F pc).toArray, .agg #[.int .i64 58, .int .i64 A, .int .i64 B, .int .i64 0, .int .i64 0]] H = some (.ret (.agg (regs (upd R A.toNat (clV (F B.toNat))) F pc).toArray), H) := by
  rw [q40 (n+4) _ _ (regs_flat _ _ _) rfl H]
  have ar := rg166 hA
  have br := rg87 hB
  have fv : formV 58 = 12 := rfl
  have e59 : ∀ n H, evCall cfc (n+1) 59 [.int .u64 (F B.toNat)] H = some (.ret (.int .u32 (clV (F B.toNat))), H) := fun n H => v59 n H _ (fr_range hF _ (by omega))
  simp -implicitDefEqProofs only [s40, v16, fv, e59, ar, br, wrap_0, tabs_gn, ↓EVdn, EVup, lp_succ, goInt, splice, okC, Fr.of, Fr.ofI, Fr.g, Nat.reduceAdd, Nat.reduceMul, Nat.reduceEqDiff, Nat.reduceLT, Nat.reduceLeDiff, Nat.reduceBEq, Int.reduceLT, Int.reduceLE, Int.reduceToNat, Int.reduceAdd, Int.reduceSub, Int.reduceMul, Int.reduceEq, Int.reduceNeg, ↓reduceIte, ↓reduceDIte, Nat.beq, reduceCtorEq, Value.int.injEq, Nat.reduceSub, flat_int, flat_bool, flat_t2w, flat_t2u, flat_bt, flat_done, regs_flat, flat_i5, flat_need, upd_upd, decide_true]
theorem v40_59 (n : Nat) (H : Hp) (R F : Nat → Int) (pc A B : Int) (hA : 0 ≤ A ∧ A < 8) (hB : 0 ≤ B ∧ B < 16) (hF : ∀ i, i < 8 → inK .u64 (F i)) : evCall cfc (n+5) 40 [.agg (regs R F pc).toArray, .agg #[.int .i64 59, .int .i64 A, .int .i64 B, .int .i64 0, .int .i64 0]] H = some (.ret (.agg (regs R (upd F A.toNat (fiV (R B.toNat))) pc).toArray), H) := by
  rw [q40 (n+4) _ _ (regs_flat _ _ _) rfl H]
  have ar := rg87 hA
  have br := rg166 hB
  have fv : formV 59 = 13 := rfl
  simp -implicitDefEqProofs only [s40, v16, fv, v60, ar, br, wrap_0, tabs_gn, ↓EVdn, EVup, lp_succ, goInt, splice, okC, Fr.of, Fr.ofI, Fr.g, Nat.reduceAdd, Nat.reduceMul, Nat.reduceEqDiff, Nat.reduceLT, Nat.reduceLeDiff, Nat.reduceBEq, Int.reduceLT, Int.reduceLE, Int.reduceToNat, Int.reduceAdd, Int.reduceSub, Int.reduceMul, Int.reduceEq, Int.reduceNeg, ↓reduceIte, ↓reduceDIte, Nat.beq, reduceCtorEq, Value.int.injEq, Nat.reduceSub, flat_int, flat_bool, flat_t2w, flat_t2u, flat_bt, flat_done, regs_flat, flat_i5, flat_need, upd_upd, decide_true]
theorem v40_60 (n : Nat) (H : Hp) (R F : Nat → Int) (pc A B : Int) (hA : 0 ≤ A ∧ A < 16) (hB : 0 ≤ B ∧ B < 8) (hF : ∀ i, i < 8 → inK .u64 (F i)) : evCall cfc (n+5) 40 [.agg (regs R F pc).toArray, .agg #[.int .i64 60, .int .i64 A, .int .i64 B, .int .i64 0, .int .i64 0]] H = some (.ret (.agg (regs (upd R A.toNat (tiV (F B.toNat))) F pc).toArray), H) := by
  rw [q40 (n+4) _ _ (regs_flat _ _ _) rfl H]
  have ar := rg166 hA
  have br := rg87 hB
  have fv : formV 60 = 12 := rfl
  have fB : (0 ≤ F B.toNat ∧ F B.toNat < 18446744073709551616) = True := eq_true (fr_range hF _ (by omega))
  simp -implicitDefEqProofs only [s40, v16, fv, v61, fB, ar, br, wrap_0, tabs_gn, ↓EVdn, EVup, lp_succ, goInt, splice, okC, Fr.of, Fr.ofI, Fr.g, Nat.reduceAdd, Nat.reduceMul, Nat.reduceEqDiff, Nat.reduceLT, Nat.reduceLeDiff, Nat.reduceBEq, Int.reduceLT, Int.reduceLE, Int.reduceToNat, Int.reduceAdd, Int.reduceSub, Int.reduceMul, Int.reduceEq, Int.reduceNeg, ↓reduceIte, ↓reduceDIte, Nat.beq, reduceCtorEq, Value.int.injEq, Nat.reduceSub, flat_int, flat_bool, flat_t2w, flat_t2u, flat_bt, flat_done, regs_flat, flat_i5, flat_need, upd_upd, decide_true]
theorem v40_61 (n : Nat) (H : Hp) (R F : Nat → Int) (pc A B : Int) (hA : 0 ≤ A ∧ A < 16) (hB : 0 ≤ B ∧ B < 8) (hF : ∀ i, i < 8 → inK .u64 (F i)) : evCall cfc (n+5) 40 [.agg (regs R F pc).toArray, .agg #[.int .i64 61, .int .i64 A, .int .i64 B, .int .i64 0, .int .i64 0]] H = some (.ret (.agg (regs (upd R A.toNat (IntKind.wrap .u32 (F B.toNat))) F pc).toArray), H) := by
  rw [q40 (n+4) _ _ (regs_flat _ _ _) rfl H]
  have ar := rg166 hA
  have br := rg87 hB
  have fv : formV 61 = 12 := rfl
  simp -implicitDefEqProofs only [s40, v16, fv, ar, br, wrap_0, tabs_gn, ↓EVdn, EVup, lp_succ, goInt, splice, okC, Fr.of, Fr.ofI, Fr.g, Nat.reduceAdd, Nat.reduceMul, Nat.reduceEqDiff, Nat.reduceLT, Nat.reduceLeDiff, Nat.reduceBEq, Int.reduceLT, Int.reduceLE, Int.reduceToNat, Int.reduceAdd, Int.reduceSub, Int.reduceMul, Int.reduceEq, Int.reduceNeg, ↓reduceIte, ↓reduceDIte, Nat.beq, reduceCtorEq, Value.int.injEq, Nat.reduceSub, flat_int, flat_bool, flat_t2w, flat_t2u, flat_bt, flat_done, regs_flat, flat_i5, flat_need, upd_upd, decide_true]
theorem v40_62 (n : Nat) (H : Hp) (R F : Nat → Int) (pc A B : Int) (hA : 0 ≤ A ∧ A < 16) (hB : 0 ≤ B ∧ B < 8) (hF : ∀ i, i < 8 → inK .u64 (F i)) : evCall cfc (n+5) 40 [.agg (regs R F pc).toArray, .agg #[.int .i64 62, .int .i64 A, .int .i64 B, .int .i64 0, .int .i64 0]] H = some (.ret (.agg (regs (upd R A.toNat (IntKind.wrap .u32 (shrK .u64 (F B.toNat) 32))) F pc).toArray), H) := by
  rw [q40 (n+4) _ _ (regs_flat _ _ _) rfl H]
  have ar := rg166 hA
  have br := rg87 hB
  have fv : formV 62 = 12 := rfl
  simp -implicitDefEqProofs only [s40, v16, fv, ar, br, wrap_0, tabs_gn, ↓EVdn, EVup, lp_succ, goInt, splice, okC, Fr.of, Fr.ofI, Fr.g, Nat.reduceAdd, Nat.reduceMul, Nat.reduceEqDiff, Nat.reduceLT, Nat.reduceLeDiff, Nat.reduceBEq, Int.reduceLT, Int.reduceLE, Int.reduceToNat, Int.reduceAdd, Int.reduceSub, Int.reduceMul, Int.reduceEq, Int.reduceNeg, ↓reduceIte, ↓reduceDIte, Nat.beq, reduceCtorEq, Value.int.injEq, Nat.reduceSub, flat_int, flat_bool, flat_t2w, flat_t2u, flat_bt, flat_done, regs_flat, flat_i5, flat_need, upd_upd, decide_true]
theorem v40_63 (n : Nat) (H : Hp) (R F : Nat → Int) (pc A B C : Int) (hA : 0 ≤ A ∧ A < 8) (hB : 0 ≤ B ∧ B < 16) (hC : 0 ≤ C ∧ C < 16) (hF : ∀ i, i < 8 → inK .u64 (F i)) : evCall cfc (n+5) 40 [.agg (regs R F pc).toArray, .agg #[.int .i64 63, .int .i64 A, .int .i64 B, .int .i64 C, .int .i64 0]] H = some (.ret (.agg (regs R (upd F A.toNat (orK .u64 (shlK .u64 (IntKind.wrap .u64 (R C.toNat)) 32) (IntKind.wrap .u64 (R B.toNat)))) pc).toArray), H) := by
  rw [q40 (n+4) _ _ (regs_flat _ _ _) rfl H]
  have ar := rg87 hA
  have br := rg166 hB
  have cr := rg166 hC
  have fv : formV 63 = 14 := rfl
  simp -implicitDefEqProofs only [s40, v16, fv, ar, br, cr, wrap_0, tabs_gn, ↓EVdn, EVup, lp_succ, goInt, splice, okC, Fr.of, Fr.ofI, Fr.g, Nat.reduceAdd, Nat.reduceMul, Nat.reduceEqDiff, Nat.reduceLT, Nat.reduceLeDiff, Nat.reduceBEq, Int.reduceLT, Int.reduceLE, Int.reduceToNat, Int.reduceAdd, Int.reduceSub, Int.reduceMul, Int.reduceEq, Int.reduceNeg, ↓reduceIte, ↓reduceDIte, Nat.beq, reduceCtorEq, Value.int.injEq, Nat.reduceSub, flat_int, flat_bool, flat_t2w, flat_t2u, flat_bt, flat_done, regs_flat, flat_i5, flat_need, upd_upd, decide_true]
theorem rdone_bad (n : Nat) (H : Hp) (R F : Nat → Int) (pc op A B C I ld : Int) (hk : ¬ chkV op A B C I = 0) : evCall cfc (n+70) 21 [.agg (regs R F pc).toArray, .agg #[.int .i64 op, .int .i64 A, .int .i64 B, .int .i64 C, .int .i64 I], .int .u64 ld] H = some (.ret (doneT (upd R 0 0) F pc 1 0), H) := by
  rw [q21 (n+69) _ _ _ (regs_flat _ _ _) rfl rfl H]
  simp -implicitDefEqProofs only [s21, v27, hk, doneT, wrap_0, tabs_gn, ↓EVdn, EVup, lp_succ, goInt, splice, okC, Fr.of, Fr.ofI, Fr.g, Nat.reduceAdd, Nat.reduceMul, Nat.reduceEqDiff, Nat.reduceLT, Nat.reduceLeDiff, Nat.reduceBEq, Int.reduceLT, Int.reduceLE, Int.reduceToNat, Int.reduceAdd, Int.reduceSub, Int.reduceMul, Int.reduceEq, Int.reduceNeg, ↓reduceIte, ↓reduceDIte, Nat.beq, reduceCtorEq, Value.int.injEq, Nat.reduceSub, flat_int, flat_bool, flat_t2w, flat_t2u, flat_bt, flat_done, regs_flat, flat_i5, flat_need, upd_upd, decide_true]
theorem rdone_1 (n : Nat) (H : Hp) (R F : Nat → Int) (pc  ld : Int)  (hR : ∀ i, i < 16 → inK .u32 (R i)) (hF : ∀ i, i < 8 → inK .u64 (F i)) (hk : chkV 1 0 0 0 0 = 0) : evCall cfc (n+70) 21 [.agg (regs R F pc).toArray, .agg #[.int .i64 1, .int .i64 0, .int .i64 0, .int .i64 0, .int .i64 0], .int .u64 ld] H = some (.ret (doneT (upd R 0 0) F (IntKind.wrap .u32 (pc + 4)) 0 0), H) := by
  rw [q21 (n+69) _ _ _ (regs_flat _ _ _) rfl rfl H]

  have rng : (0 ≤ (1 : Int) ∧ (1 : Int) < 72) = True := by simp
  have szz : sizeV 1 = 0 := rfl
  have fv : formV 1 = 1 := rfl
  have nd : ∀ n H R, evCall cfc (n+12) 23 [.agg (regs R F pc).toArray, .agg #[.int .i64 1, .int .i64 0, .int .i64 0, .int .i64 0, .int .i64 0]] H = some (.ret (.agg #[.bool false, .int .u32 0, .int .i64 0, .int .u64 0]), H) := fun n H R => rneed_bad n H R F pc _ _ _ _ _ (Or.inl rfl)
  simp -implicitDefEqProofs only [s21, v27, v35, v16, rng, szz, fv, hk, doneT, needT, wrap_0, nd, tabs_gn, ↓EVdn, EVup, lp_succ, goInt, splice, okC, Fr.of, Fr.ofI, Fr.g, Nat.reduceAdd, Nat.reduceMul, Nat.reduceEqDiff, Nat.reduceLT, Nat.reduceLeDiff, Nat.reduceBEq, Int.reduceLT, Int.reduceLE, Int.reduceToNat, Int.reduceAdd, Int.reduceSub, Int.reduceMul, Int.reduceEq, Int.reduceNeg, ↓reduceIte, ↓reduceDIte, Nat.beq, reduceCtorEq, Value.int.injEq, Nat.reduceSub, flat_int, flat_bool, flat_t2w, flat_t2u, flat_bt, flat_done, regs_flat, flat_i5, flat_need, upd_upd, decide_true]
theorem rdone_2 (n : Nat) (H : Hp) (R F : Nat → Int) (pc A B C ld : Int) (hA : 0 ≤ A ∧ A < 16) (hB : 0 ≤ B ∧ B < 16) (hC : 0 ≤ C ∧ C < 16) (hR : ∀ i, i < 16 → inK .u32 (R i)) (hF : ∀ i, i < 8 → inK .u64 (F i)) (hk : chkV 2 A B C 0 = 0) : evCall cfc (n+70) 21 [.agg (regs R F pc).toArray, .agg #[.int .i64 2, .int .i64 A, .int .i64 B, .int .i64 C, .int .i64 0], .int .u64 ld] H = some (.ret (doneT (upd (upd (upd R 0 0) A.toNat (aluV 2 (upd R 0 0 B.toNat) (upd R 0 0 C.toNat))) 0 0) F (IntKind.wrap .u32 (pc + 4)) 0 0), H) := by
  rw [q21 (n+69) _ _ _ (regs_flat _ _ _) rfl rfl H]
  have ar := rg166 hA
  have br := rg166 hB
  have cr := rg166 hC
  have rng : (0 ≤ (2 : Int) ∧ (2 : Int) < 72) = True := by simp
  have szz : sizeV 2 = 0 := rfl
  have fv : formV 2 = 2 := rfl
  have nd : ∀ n H R, evCall cfc (n+12) 23 [.agg (regs R F pc).toArray, .agg #[.int .i64 2, .int .i64 A, .int .i64 B, .int .i64 C, .int .i64 0]] H = some (.ret (.agg #[.bool false, .int .u32 0, .int .i64 0, .int .u64 0]), H) := fun n H R => rneed_bad n H R F pc _ _ _ _ _ (Or.inl rfl)
  have hx : 0 ≤ (upd R 0 0 B.toNat) ∧ (upd R 0 0 B.toNat) < 4294967296 := updR_range hR _ (by omega)
  have hy : 0 ≤ (upd R 0 0 C.toNat) ∧ (upd R 0 0 C.toNat) < 4294967296 := updR_range hR _ (by omega)
  have e36 : ∀ n H, evCall cfc (n+50) 36 [.int .i64 2, .int .u32 (upd R 0 0 B.toNat), .int .u32 (upd R 0 0 C.toNat)] H = some (.ret (.tuple #[.int .u32 (aluV 2 (upd R 0 0 B.toNat) (upd R 0 0 C.toNat)), .int .i64 0]), H) := fun n H => v36_2 n H _ _ hx hy
  simp -implicitDefEqProofs only [s21, v27, v35, v16, rng, szz, fv, hk, doneT, needT, wrap_0, nd, e36, ar, br, cr, tabs_gn, ↓EVdn, EVup, lp_succ, goInt, splice, okC, Fr.of, Fr.ofI, Fr.g, Nat.reduceAdd, Nat.reduceMul, Nat.reduceEqDiff, Nat.reduceLT, Nat.reduceLeDiff, Nat.reduceBEq, Int.reduceLT, Int.reduceLE, Int.reduceToNat, Int.reduceAdd, Int.reduceSub, Int.reduceMul, Int.reduceEq, Int.reduceNeg, ↓reduceIte, ↓reduceDIte, Nat.beq, reduceCtorEq, Value.int.injEq, Nat.reduceSub, flat_int, flat_bool, flat_t2w, flat_t2u, flat_bt, flat_done, regs_flat, flat_i5, flat_need, upd_upd, decide_true]
theorem rdone_3 (n : Nat) (H : Hp) (R F : Nat → Int) (pc A B C ld : Int) (hA : 0 ≤ A ∧ A < 16) (hB : 0 ≤ B ∧ B < 16) (hC : 0 ≤ C ∧ C < 16) (hR : ∀ i, i < 16 → inK .u32 (R i)) (hF : ∀ i, i < 8 → inK .u64 (F i)) (hk : chkV 3 A B C 0 = 0) : evCall cfc (n+70) 21 [.agg (regs R F pc).toArray, .agg #[.int .i64 3, .int .i64 A, .int .i64 B, .int .i64 C, .int .i64 0], .int .u64 ld] H = some (.ret (doneT (upd (upd (upd R 0 0) A.toNat (aluV 3 (upd R 0 0 B.toNat) (upd R 0 0 C.toNat))) 0 0) F (IntKind.wrap .u32 (pc + 4)) 0 0), H) := by
  rw [q21 (n+69) _ _ _ (regs_flat _ _ _) rfl rfl H]
  have ar := rg166 hA
  have br := rg166 hB
  have cr := rg166 hC
  have rng : (0 ≤ (3 : Int) ∧ (3 : Int) < 72) = True := by simp
  have szz : sizeV 3 = 0 := rfl
  have fv : formV 3 = 2 := rfl
  have nd : ∀ n H R, evCall cfc (n+12) 23 [.agg (regs R F pc).toArray, .agg #[.int .i64 3, .int .i64 A, .int .i64 B, .int .i64 C, .int .i64 0]] H = some (.ret (.agg #[.bool false, .int .u32 0, .int .i64 0, .int .u64 0]), H) := fun n H R => rneed_bad n H R F pc _ _ _ _ _ (Or.inl rfl)
  have hx : 0 ≤ (upd R 0 0 B.toNat) ∧ (upd R 0 0 B.toNat) < 4294967296 := updR_range hR _ (by omega)
  have hy : 0 ≤ (upd R 0 0 C.toNat) ∧ (upd R 0 0 C.toNat) < 4294967296 := updR_range hR _ (by omega)
  have e36 : ∀ n H, evCall cfc (n+50) 36 [.int .i64 3, .int .u32 (upd R 0 0 B.toNat), .int .u32 (upd R 0 0 C.toNat)] H = some (.ret (.tuple #[.int .u32 (aluV 3 (upd R 0 0 B.toNat) (upd R 0 0 C.toNat)), .int .i64 0]), H) := fun n H => v36_3 n H _ _ hx hy
  simp -implicitDefEqProofs only [s21, v27, v35, v16, rng, szz, fv, hk, doneT, needT, wrap_0, nd, e36, ar, br, cr, tabs_gn, ↓EVdn, EVup, lp_succ, goInt, splice, okC, Fr.of, Fr.ofI, Fr.g, Nat.reduceAdd, Nat.reduceMul, Nat.reduceEqDiff, Nat.reduceLT, Nat.reduceLeDiff, Nat.reduceBEq, Int.reduceLT, Int.reduceLE, Int.reduceToNat, Int.reduceAdd, Int.reduceSub, Int.reduceMul, Int.reduceEq, Int.reduceNeg, ↓reduceIte, ↓reduceDIte, Nat.beq, reduceCtorEq, Value.int.injEq, Nat.reduceSub, flat_int, flat_bool, flat_t2w, flat_t2u, flat_bt, flat_done, regs_flat, flat_i5, flat_need, upd_upd, decide_true]
theorem rdone_4 (n : Nat) (H : Hp) (R F : Nat → Int) (pc A B C ld : Int) (hA : 0 ≤ A ∧ A < 16) (hB : 0 ≤ B ∧ B < 16) (hC : 0 ≤ C ∧ C < 16) (hR : ∀ i, i < 16 → inK .u32 (R i)) (hF : ∀ i, i < 8 → inK .u64 (F i)) (hk : chkV 4 A B C 0 = 0) : evCall cfc (n+70) 21 [.agg (regs R F pc).toArray, .agg #[.int .i64 4, .int .i64 A, .int .i64 B, .int .i64 C, .int .i64 0], .int .u64 ld] H = some (.ret (doneT (upd (upd (upd R 0 0) A.toNat (aluV 4 (upd R 0 0 B.toNat) (upd R 0 0 C.toNat))) 0 0) F (IntKind.wrap .u32 (pc + 4)) 0 0), H) := by
  rw [q21 (n+69) _ _ _ (regs_flat _ _ _) rfl rfl H]
  have ar := rg166 hA
  have br := rg166 hB
  have cr := rg166 hC
  have rng : (0 ≤ (4 : Int) ∧ (4 : Int) < 72) = True := by simp
  have szz : sizeV 4 = 0 := rfl
  have fv : formV 4 = 2 := rfl
  have nd : ∀ n H R, evCall cfc (n+12) 23 [.agg (regs R F pc).toArray, .agg #[.int .i64 4, .int .i64 A, .int .i64 B, .int .i64 C, .int .i64 0]] H = some (.ret (.agg #[.bool false, .int .u32 0, .int .i64 0, .int .u64 0]), H) := fun n H R => rneed_bad n H R F pc _ _ _ _ _ (Or.inl rfl)
  have hx : 0 ≤ (upd R 0 0 B.toNat) ∧ (upd R 0 0 B.toNat) < 4294967296 := updR_range hR _ (by omega)
  have hy : 0 ≤ (upd R 0 0 C.toNat) ∧ (upd R 0 0 C.toNat) < 4294967296 := updR_range hR _ (by omega)
  have e36 : ∀ n H, evCall cfc (n+50) 36 [.int .i64 4, .int .u32 (upd R 0 0 B.toNat), .int .u32 (upd R 0 0 C.toNat)] H = some (.ret (.tuple #[.int .u32 (aluV 4 (upd R 0 0 B.toNat) (upd R 0 0 C.toNat)), .int .i64 0]), H) := fun n H => v36_4 n H _ _ hx hy
  simp -implicitDefEqProofs only [s21, v27, v35, v16, rng, szz, fv, hk, doneT, needT, wrap_0, nd, e36, ar, br, cr, tabs_gn, ↓EVdn, EVup, lp_succ, goInt, splice, okC, Fr.of, Fr.ofI, Fr.g, Nat.reduceAdd, Nat.reduceMul, Nat.reduceEqDiff, Nat.reduceLT, Nat.reduceLeDiff, Nat.reduceBEq, Int.reduceLT, Int.reduceLE, Int.reduceToNat, Int.reduceAdd, Int.reduceSub, Int.reduceMul, Int.reduceEq, Int.reduceNeg, ↓reduceIte, ↓reduceDIte, Nat.beq, reduceCtorEq, Value.int.injEq, Nat.reduceSub, flat_int, flat_bool, flat_t2w, flat_t2u, flat_bt, flat_done, regs_flat, flat_i5, flat_need, upd_upd, decide_true]
theorem rdone_5 (n : Nat) (H : Hp) (R F : Nat → Int) (pc A B C ld : Int) (hA : 0 ≤ A ∧ A < 16) (hB : 0 ≤ B ∧ B < 16) (hC : 0 ≤ C ∧ C < 16) (hR : ∀ i, i < 16 → inK .u32 (R i)) (hF : ∀ i, i < 8 → inK .u64 (F i)) (hk : chkV 5 A B C 0 = 0) : evCall cfc (n+70) 21 [.agg (regs R F pc).toArray, .agg #[.int .i64 5, .int .i64 A, .int .i64 B, .int .i64 C, .int .i64 0], .int .u64 ld] H = some (.ret (doneT (upd (upd (upd R 0 0) A.toNat (aluV 5 (upd R 0 0 B.toNat) (upd R 0 0 C.toNat))) 0 0) F (IntKind.wrap .u32 (pc + 4)) 0 0), H) := by
  rw [q21 (n+69) _ _ _ (regs_flat _ _ _) rfl rfl H]
  have ar := rg166 hA
  have br := rg166 hB
  have cr := rg166 hC
  have rng : (0 ≤ (5 : Int) ∧ (5 : Int) < 72) = True := by simp
  have szz : sizeV 5 = 0 := rfl
  have fv : formV 5 = 2 := rfl
  have nd : ∀ n H R, evCall cfc (n+12) 23 [.agg (regs R F pc).toArray, .agg #[.int .i64 5, .int .i64 A, .int .i64 B, .int .i64 C, .int .i64 0]] H = some (.ret (.agg #[.bool false, .int .u32 0, .int .i64 0, .int .u64 0]), H) := fun n H R => rneed_bad n H R F pc _ _ _ _ _ (Or.inl rfl)
  have hx : 0 ≤ (upd R 0 0 B.toNat) ∧ (upd R 0 0 B.toNat) < 4294967296 := updR_range hR _ (by omega)
  have hy : 0 ≤ (upd R 0 0 C.toNat) ∧ (upd R 0 0 C.toNat) < 4294967296 := updR_range hR _ (by omega)
  have e36 : ∀ n H, evCall cfc (n+50) 36 [.int .i64 5, .int .u32 (upd R 0 0 B.toNat), .int .u32 (upd R 0 0 C.toNat)] H = some (.ret (.tuple #[.int .u32 (aluV 5 (upd R 0 0 B.toNat) (upd R 0 0 C.toNat)), .int .i64 0]), H) := fun n H => v36_5 n H _ _ hx hy
  simp -implicitDefEqProofs only [s21, v27, v35, v16, rng, szz, fv, hk, doneT, needT, wrap_0, nd, e36, ar, br, cr, tabs_gn, ↓EVdn, EVup, lp_succ, goInt, splice, okC, Fr.of, Fr.ofI, Fr.g, Nat.reduceAdd, Nat.reduceMul, Nat.reduceEqDiff, Nat.reduceLT, Nat.reduceLeDiff, Nat.reduceBEq, Int.reduceLT, Int.reduceLE, Int.reduceToNat, Int.reduceAdd, Int.reduceSub, Int.reduceMul, Int.reduceEq, Int.reduceNeg, ↓reduceIte, ↓reduceDIte, Nat.beq, reduceCtorEq, Value.int.injEq, Nat.reduceSub, flat_int, flat_bool, flat_t2w, flat_t2u, flat_bt, flat_done, regs_flat, flat_i5, flat_need, upd_upd, decide_true]
theorem rdone_6 (n : Nat) (H : Hp) (R F : Nat → Int) (pc A B C ld : Int) (hA : 0 ≤ A ∧ A < 16) (hB : 0 ≤ B ∧ B < 16) (hC : 0 ≤ C ∧ C < 16) (hR : ∀ i, i < 16 → inK .u32 (R i)) (hF : ∀ i, i < 8 → inK .u64 (F i)) (hk : chkV 6 A B C 0 = 0) : evCall cfc (n+70) 21 [.agg (regs R F pc).toArray, .agg #[.int .i64 6, .int .i64 A, .int .i64 B, .int .i64 C, .int .i64 0], .int .u64 ld] H = some (.ret (if (upd R 0 0 C.toNat) = 0 then doneT (upd R 0 0) F pc 6 0 else doneT (upd (upd (upd R 0 0) A.toNat (aluV 6 (upd R 0 0 B.toNat) (upd R 0 0 C.toNat))) 0 0) F (IntKind.wrap .u32 (pc + 4)) 0 0), H) := by
  rw [q21 (n+69) _ _ _ (regs_flat _ _ _) rfl rfl H]
  have ar := rg166 hA
  have br := rg166 hB
  have cr := rg166 hC
  have rng : (0 ≤ (6 : Int) ∧ (6 : Int) < 72) = True := by simp
  have szz : sizeV 6 = 0 := rfl
  have fv : formV 6 = 2 := rfl
  have nd : ∀ n H R, evCall cfc (n+12) 23 [.agg (regs R F pc).toArray, .agg #[.int .i64 6, .int .i64 A, .int .i64 B, .int .i64 C, .int .i64 0]] H = some (.ret (.agg #[.bool false, .int .u32 0, .int .i64 0, .int .u64 0]), H) := fun n H R => rneed_bad n H R F pc _ _ _ _ _ (Or.inl rfl)
  have hx : 0 ≤ (upd R 0 0 B.toNat) ∧ (upd R 0 0 B.toNat) < 4294967296 := updR_range hR _ (by omega)
  have hy : 0 ≤ (upd R 0 0 C.toNat) ∧ (upd R 0 0 C.toNat) < 4294967296 := updR_range hR _ (by omega)
  by_cases hz : upd R 0 0 C.toNat = 0
  · have e36 : ∀ n H, evCall cfc (n+50) 36 [.int .i64 6, .int .u32 (upd R 0 0 B.toNat), .int .u32 0] H = some (.ret (.tuple #[.int .u32 0, .int .i64 10]), H) := fun n H => v36_0 n H 6 _ (by omega) hx
    simp -implicitDefEqProofs only [s21, v27, v35, v16, rng, szz, fv, hk, doneT, needT, wrap_0, nd, e36, hz, ar, br, cr, tabs_gn, ↓EVdn, EVup, lp_succ, goInt, splice, okC, Fr.of, Fr.ofI, Fr.g, Nat.reduceAdd, Nat.reduceMul, Nat.reduceEqDiff, Nat.reduceLT, Nat.reduceLeDiff, Nat.reduceBEq, Int.reduceLT, Int.reduceLE, Int.reduceToNat, Int.reduceAdd, Int.reduceSub, Int.reduceMul, Int.reduceEq, Int.reduceNeg, ↓reduceIte, ↓reduceDIte, Nat.beq, reduceCtorEq, Value.int.injEq, Nat.reduceSub, flat_int, flat_bool, flat_t2w, flat_t2u, flat_bt, flat_done, regs_flat, flat_i5, flat_need, upd_upd, decide_true]
  · have e36 : ∀ n H, evCall cfc (n+50) 36 [.int .i64 6, .int .u32 (upd R 0 0 B.toNat), .int .u32 (upd R 0 0 C.toNat)] H = some (.ret (.tuple #[.int .u32 (aluV 6 (upd R 0 0 B.toNat) (upd R 0 0 C.toNat)), .int .i64 0]), H) := fun n H => v36_6 n H _ _ hx hy hz
    simp -implicitDefEqProofs only [s21, v27, v35, v16, rng, szz, fv, hk, doneT, needT, wrap_0, nd, e36, hz, ar, br, cr, tabs_gn, ↓EVdn, EVup, lp_succ, goInt, splice, okC, Fr.of, Fr.ofI, Fr.g, Nat.reduceAdd, Nat.reduceMul, Nat.reduceEqDiff, Nat.reduceLT, Nat.reduceLeDiff, Nat.reduceBEq, Int.reduceLT, Int.reduceLE, Int.reduceToNat, Int.reduceAdd, Int.reduceSub, Int.reduceMul, Int.reduceEq, Int.reduceNeg, ↓reduceIte, ↓reduceDIte, Nat.beq, reduceCtorEq, Value.int.injEq, Nat.reduceSub, flat_int, flat_bool, flat_t2w, flat_t2u, flat_bt, flat_done, regs_flat, flat_i5, flat_need, upd_upd, decide_true]
theorem rdone_7 (n : Nat) (H : Hp) (R F : Nat → Int) (pc A B C ld : Int) (hA : 0 ≤ A ∧ A < 16) (hB : 0 ≤ B ∧ B < 16) (hC : 0 ≤ C ∧ C < 16) (hR : ∀ i, i < 16 → inK .u32 (R i)) (hF : ∀ i, i < 8 → inK .u64 (F i)) (hk : chkV 7 A B C 0 = 0) : evCall cfc (n+70) 21 [.agg (regs R F pc).toArray, .agg #[.int .i64 7, .int .i64 A, .int .i64 B, .int .i64 C, .int .i64 0], .int .u64 ld] H = some (.ret (if (upd R 0 0 C.toNat) = 0 then doneT (upd R 0 0) F pc 6 0 else doneT (upd (upd (upd R 0 0) A.toNat (aluV 7 (upd R 0 0 B.toNat) (upd R 0 0 C.toNat))) 0 0) F (IntKind.wrap .u32 (pc + 4)) 0 0), H) := by
  rw [q21 (n+69) _ _ _ (regs_flat _ _ _) rfl rfl H]
  have ar := rg166 hA
  have br := rg166 hB
  have cr := rg166 hC
  have rng : (0 ≤ (7 : Int) ∧ (7 : Int) < 72) = True := by simp
  have szz : sizeV 7 = 0 := rfl
  have fv : formV 7 = 2 := rfl
  have nd : ∀ n H R, evCall cfc (n+12) 23 [.agg (regs R F pc).toArray, .agg #[.int .i64 7, .int .i64 A, .int .i64 B, .int .i64 C, .int .i64 0]] H = some (.ret (.agg #[.bool false, .int .u32 0, .int .i64 0, .int .u64 0]), H) := fun n H R => rneed_bad n H R F pc _ _ _ _ _ (Or.inl rfl)
  have hx : 0 ≤ (upd R 0 0 B.toNat) ∧ (upd R 0 0 B.toNat) < 4294967296 := updR_range hR _ (by omega)
  have hy : 0 ≤ (upd R 0 0 C.toNat) ∧ (upd R 0 0 C.toNat) < 4294967296 := updR_range hR _ (by omega)
  by_cases hz : upd R 0 0 C.toNat = 0
  · have e36 : ∀ n H, evCall cfc (n+50) 36 [.int .i64 7, .int .u32 (upd R 0 0 B.toNat), .int .u32 0] H = some (.ret (.tuple #[.int .u32 0, .int .i64 10]), H) := fun n H => v36_0 n H 7 _ (by omega) hx
    simp -implicitDefEqProofs only [s21, v27, v35, v16, rng, szz, fv, hk, doneT, needT, wrap_0, nd, e36, hz, ar, br, cr, tabs_gn, ↓EVdn, EVup, lp_succ, goInt, splice, okC, Fr.of, Fr.ofI, Fr.g, Nat.reduceAdd, Nat.reduceMul, Nat.reduceEqDiff, Nat.reduceLT, Nat.reduceLeDiff, Nat.reduceBEq, Int.reduceLT, Int.reduceLE, Int.reduceToNat, Int.reduceAdd, Int.reduceSub, Int.reduceMul, Int.reduceEq, Int.reduceNeg, ↓reduceIte, ↓reduceDIte, Nat.beq, reduceCtorEq, Value.int.injEq, Nat.reduceSub, flat_int, flat_bool, flat_t2w, flat_t2u, flat_bt, flat_done, regs_flat, flat_i5, flat_need, upd_upd, decide_true]
  · have e36 : ∀ n H, evCall cfc (n+50) 36 [.int .i64 7, .int .u32 (upd R 0 0 B.toNat), .int .u32 (upd R 0 0 C.toNat)] H = some (.ret (.tuple #[.int .u32 (aluV 7 (upd R 0 0 B.toNat) (upd R 0 0 C.toNat)), .int .i64 0]), H) := fun n H => v36_7 n H _ _ hx hy hz
    simp -implicitDefEqProofs only [s21, v27, v35, v16, rng, szz, fv, hk, doneT, needT, wrap_0, nd, e36, hz, ar, br, cr, tabs_gn, ↓EVdn, EVup, lp_succ, goInt, splice, okC, Fr.of, Fr.ofI, Fr.g, Nat.reduceAdd, Nat.reduceMul, Nat.reduceEqDiff, Nat.reduceLT, Nat.reduceLeDiff, Nat.reduceBEq, Int.reduceLT, Int.reduceLE, Int.reduceToNat, Int.reduceAdd, Int.reduceSub, Int.reduceMul, Int.reduceEq, Int.reduceNeg, ↓reduceIte, ↓reduceDIte, Nat.beq, reduceCtorEq, Value.int.injEq, Nat.reduceSub, flat_int, flat_bool, flat_t2w, flat_t2u, flat_bt, flat_done, regs_flat, flat_i5, flat_need, upd_upd, decide_true]
theorem rdone_8 (n : Nat) (H : Hp) (R F : Nat → Int) (pc A B C ld : Int) (hA : 0 ≤ A ∧ A < 16) (hB : 0 ≤ B ∧ B < 16) (hC : 0 ≤ C ∧ C < 16) (hR : ∀ i, i < 16 → inK .u32 (R i)) (hF : ∀ i, i < 8 → inK .u64 (F i)) (hk : chkV 8 A B C 0 = 0) : evCall cfc (n+70) 21 [.agg (regs R F pc).toArray, .agg #[.int .i64 8, .int .i64 A, .int .i64 B, .int .i64 C, .int .i64 0], .int .u64 ld] H = some (.ret (if (upd R 0 0 C.toNat) = 0 then doneT (upd R 0 0) F pc 6 0 else doneT (upd (upd (upd R 0 0) A.toNat (aluV 8 (upd R 0 0 B.toNat) (upd R 0 0 C.toNat))) 0 0) F (IntKind.wrap .u32 (pc + 4)) 0 0), H) := by
  rw [q21 (n+69) _ _ _ (regs_flat _ _ _) rfl rfl H]
  have ar := rg166 hA
  have br := rg166 hB
  have cr := rg166 hC
  have rng : (0 ≤ (8 : Int) ∧ (8 : Int) < 72) = True := by simp
  have szz : sizeV 8 = 0 := rfl
  have fv : formV 8 = 2 := rfl
  have nd : ∀ n H R, evCall cfc (n+12) 23 [.agg (regs R F pc).toArray, .agg #[.int .i64 8, .int .i64 A, .int .i64 B, .int .i64 C, .int .i64 0]] H = some (.ret (.agg #[.bool false, .int .u32 0, .int .i64 0, .int .u64 0]), H) := fun n H R => rneed_bad n H R F pc _ _ _ _ _ (Or.inl rfl)
  have hx : 0 ≤ (upd R 0 0 B.toNat) ∧ (upd R 0 0 B.toNat) < 4294967296 := updR_range hR _ (by omega)
  have hy : 0 ≤ (upd R 0 0 C.toNat) ∧ (upd R 0 0 C.toNat) < 4294967296 := updR_range hR _ (by omega)
  by_cases hz : upd R 0 0 C.toNat = 0
  · have e36 : ∀ n H, evCall cfc (n+50) 36 [.int .i64 8, .int .u32 (upd R 0 0 B.toNat), .int .u32 0] H = some (.ret (.tuple #[.int .u32 0, .int .i64 10]), H) := fun n H => v36_0 n H 8 _ (by omega) hx
    simp -implicitDefEqProofs only [s21, v27, v35, v16, rng, szz, fv, hk, doneT, needT, wrap_0, nd, e36, hz, ar, br, cr, tabs_gn, ↓EVdn, EVup, lp_succ, goInt, splice, okC, Fr.of, Fr.ofI, Fr.g, Nat.reduceAdd, Nat.reduceMul, Nat.reduceEqDiff, Nat.reduceLT, Nat.reduceLeDiff, Nat.reduceBEq, Int.reduceLT, Int.reduceLE, Int.reduceToNat, Int.reduceAdd, Int.reduceSub, Int.reduceMul, Int.reduceEq, Int.reduceNeg, ↓reduceIte, ↓reduceDIte, Nat.beq, reduceCtorEq, Value.int.injEq, Nat.reduceSub, flat_int, flat_bool, flat_t2w, flat_t2u, flat_bt, flat_done, regs_flat, flat_i5, flat_need, upd_upd, decide_true]
  · have e36 : ∀ n H, evCall cfc (n+50) 36 [.int .i64 8, .int .u32 (upd R 0 0 B.toNat), .int .u32 (upd R 0 0 C.toNat)] H = some (.ret (.tuple #[.int .u32 (aluV 8 (upd R 0 0 B.toNat) (upd R 0 0 C.toNat)), .int .i64 0]), H) := fun n H => v36_8 n H _ _ hx hy hz
    simp -implicitDefEqProofs only [s21, v27, v35, v16, rng, szz, fv, hk, doneT, needT, wrap_0, nd, e36, hz, ar, br, cr, tabs_gn, ↓EVdn, EVup, lp_succ, goInt, splice, okC, Fr.of, Fr.ofI, Fr.g, Nat.reduceAdd, Nat.reduceMul, Nat.reduceEqDiff, Nat.reduceLT, Nat.reduceLeDiff, Nat.reduceBEq, Int.reduceLT, Int.reduceLE, Int.reduceToNat, Int.reduceAdd, Int.reduceSub, Int.reduceMul, Int.reduceEq, Int.reduceNeg, ↓reduceIte, ↓reduceDIte, Nat.beq, reduceCtorEq, Value.int.injEq, Nat.reduceSub, flat_int, flat_bool, flat_t2w, flat_t2u, flat_bt, flat_done, regs_flat, flat_i5, flat_need, upd_upd, decide_true]
theorem rdone_9 (n : Nat) (H : Hp) (R F : Nat → Int) (pc A B C ld : Int) (hA : 0 ≤ A ∧ A < 16) (hB : 0 ≤ B ∧ B < 16) (hC : 0 ≤ C ∧ C < 16) (hR : ∀ i, i < 16 → inK .u32 (R i)) (hF : ∀ i, i < 8 → inK .u64 (F i)) (hk : chkV 9 A B C 0 = 0) : evCall cfc (n+70) 21 [.agg (regs R F pc).toArray, .agg #[.int .i64 9, .int .i64 A, .int .i64 B, .int .i64 C, .int .i64 0], .int .u64 ld] H = some (.ret (if (upd R 0 0 C.toNat) = 0 then doneT (upd R 0 0) F pc 6 0 else doneT (upd (upd (upd R 0 0) A.toNat (aluV 9 (upd R 0 0 B.toNat) (upd R 0 0 C.toNat))) 0 0) F (IntKind.wrap .u32 (pc + 4)) 0 0), H) := by
  rw [q21 (n+69) _ _ _ (regs_flat _ _ _) rfl rfl H]
  have ar := rg166 hA
  have br := rg166 hB
  have cr := rg166 hC
  have rng : (0 ≤ (9 : Int) ∧ (9 : Int) < 72) = True := by simp
  have szz : sizeV 9 = 0 := rfl
  have fv : formV 9 = 2 := rfl
  have nd : ∀ n H R, evCall cfc (n+12) 23 [.agg (regs R F pc).toArray, .agg #[.int .i64 9, .int .i64 A, .int .i64 B, .int .i64 C, .int .i64 0]] H = some (.ret (.agg #[.bool false, .int .u32 0, .int .i64 0, .int .u64 0]), H) := fun n H R => rneed_bad n H R F pc _ _ _ _ _ (Or.inl rfl)
  have hx : 0 ≤ (upd R 0 0 B.toNat) ∧ (upd R 0 0 B.toNat) < 4294967296 := updR_range hR _ (by omega)
  have hy : 0 ≤ (upd R 0 0 C.toNat) ∧ (upd R 0 0 C.toNat) < 4294967296 := updR_range hR _ (by omega)
  by_cases hz : upd R 0 0 C.toNat = 0
  · have e36 : ∀ n H, evCall cfc (n+50) 36 [.int .i64 9, .int .u32 (upd R 0 0 B.toNat), .int .u32 0] H = some (.ret (.tuple #[.int .u32 0, .int .i64 10]), H) := fun n H => v36_0 n H 9 _ (by omega) hx
    simp -implicitDefEqProofs only [s21, v27, v35, v16, rng, szz, fv, hk, doneT, needT, wrap_0, nd, e36, hz, ar, br, cr, tabs_gn, ↓EVdn, EVup, lp_succ, goInt, splice, okC, Fr.of, Fr.ofI, Fr.g, Nat.reduceAdd, Nat.reduceMul, Nat.reduceEqDiff, Nat.reduceLT, Nat.reduceLeDiff, Nat.reduceBEq, Int.reduceLT, Int.reduceLE, Int.reduceToNat, Int.reduceAdd, Int.reduceSub, Int.reduceMul, Int.reduceEq, Int.reduceNeg, ↓reduceIte, ↓reduceDIte, Nat.beq, reduceCtorEq, Value.int.injEq, Nat.reduceSub, flat_int, flat_bool, flat_t2w, flat_t2u, flat_bt, flat_done, regs_flat, flat_i5, flat_need, upd_upd, decide_true]
  · have e36 : ∀ n H, evCall cfc (n+50) 36 [.int .i64 9, .int .u32 (upd R 0 0 B.toNat), .int .u32 (upd R 0 0 C.toNat)] H = some (.ret (.tuple #[.int .u32 (aluV 9 (upd R 0 0 B.toNat) (upd R 0 0 C.toNat)), .int .i64 0]), H) := fun n H => v36_9 n H _ _ hx hy hz
    simp -implicitDefEqProofs only [s21, v27, v35, v16, rng, szz, fv, hk, doneT, needT, wrap_0, nd, e36, hz, ar, br, cr, tabs_gn, ↓EVdn, EVup, lp_succ, goInt, splice, okC, Fr.of, Fr.ofI, Fr.g, Nat.reduceAdd, Nat.reduceMul, Nat.reduceEqDiff, Nat.reduceLT, Nat.reduceLeDiff, Nat.reduceBEq, Int.reduceLT, Int.reduceLE, Int.reduceToNat, Int.reduceAdd, Int.reduceSub, Int.reduceMul, Int.reduceEq, Int.reduceNeg, ↓reduceIte, ↓reduceDIte, Nat.beq, reduceCtorEq, Value.int.injEq, Nat.reduceSub, flat_int, flat_bool, flat_t2w, flat_t2u, flat_bt, flat_done, regs_flat, flat_i5, flat_need, upd_upd, decide_true]
theorem rdone_10 (n : Nat) (H : Hp) (R F : Nat → Int) (pc A B C ld : Int) (hA : 0 ≤ A ∧ A < 16) (hB : 0 ≤ B ∧ B < 16) (hC : 0 ≤ C ∧ C < 16) (hR : ∀ i, i < 16 → inK .u32 (R i)) (hF : ∀ i, i < 8 → inK .u64 (F i)) (hk : chkV 10 A B C 0 = 0) : evCall cfc (n+70) 21 [.agg (regs R F pc).toArray, .agg #[.int .i64 10, .int .i64 A, .int .i64 B, .int .i64 C, .int .i64 0], .int .u64 ld] H = some (.ret (doneT (upd (upd (upd R 0 0) A.toNat (aluV 10 (upd R 0 0 B.toNat) (upd R 0 0 C.toNat))) 0 0) F (IntKind.wrap .u32 (pc + 4)) 0 0), H) := by
  rw [q21 (n+69) _ _ _ (regs_flat _ _ _) rfl rfl H]
  have ar := rg166 hA
  have br := rg166 hB
  have cr := rg166 hC
  have rng : (0 ≤ (10 : Int) ∧ (10 : Int) < 72) = True := by simp
  have szz : sizeV 10 = 0 := rfl
  have fv : formV 10 = 2 := rfl
  have nd : ∀ n H R, evCall cfc (n+12) 23 [.agg (regs R F pc).toArray, .agg #[.int .i64 10, .int .i64 A, .int .i64 B, .int .i64 C, .int .i64 0]] H = some (.ret (.agg #[.bool false, .int .u32 0, .int .i64 0, .int .u64 0]), H) := fun n H R => rneed_bad n H R F pc _ _ _ _ _ (Or.inl rfl)
  have hx : 0 ≤ (upd R 0 0 B.toNat) ∧ (upd R 0 0 B.toNat) < 4294967296 := updR_range hR _ (by omega)
  have hy : 0 ≤ (upd R 0 0 C.toNat) ∧ (upd R 0 0 C.toNat) < 4294967296 := updR_range hR _ (by omega)
  have e36 : ∀ n H, evCall cfc (n+50) 36 [.int .i64 10, .int .u32 (upd R 0 0 B.toNat), .int .u32 (upd R 0 0 C.toNat)] H = some (.ret (.tuple #[.int .u32 (aluV 10 (upd R 0 0 B.toNat) (upd R 0 0 C.toNat)), .int .i64 0]), H) := fun n H => v36_10 n H _ _ hx hy
  simp -implicitDefEqProofs only [s21, v27, v35, v16, rng, szz, fv, hk, doneT, needT, wrap_0, nd, e36, ar, br, cr, tabs_gn, ↓EVdn, EVup, lp_succ, goInt, splice, okC, Fr.of, Fr.ofI, Fr.g, Nat.reduceAdd, Nat.reduceMul, Nat.reduceEqDiff, Nat.reduceLT, Nat.reduceLeDiff, Nat.reduceBEq, Int.reduceLT, Int.reduceLE, Int.reduceToNat, Int.reduceAdd, Int.reduceSub, Int.reduceMul, Int.reduceEq, Int.reduceNeg, ↓reduceIte, ↓reduceDIte, Nat.beq, reduceCtorEq, Value.int.injEq, Nat.reduceSub, flat_int, flat_bool, flat_t2w, flat_t2u, flat_bt, flat_done, regs_flat, flat_i5, flat_need, upd_upd, decide_true]
theorem rdone_11 (n : Nat) (H : Hp) (R F : Nat → Int) (pc A B C ld : Int) (hA : 0 ≤ A ∧ A < 16) (hB : 0 ≤ B ∧ B < 16) (hC : 0 ≤ C ∧ C < 16) (hR : ∀ i, i < 16 → inK .u32 (R i)) (hF : ∀ i, i < 8 → inK .u64 (F i)) (hk : chkV 11 A B C 0 = 0) : evCall cfc (n+70) 21 [.agg (regs R F pc).toArray, .agg #[.int .i64 11, .int .i64 A, .int .i64 B, .int .i64 C, .int .i64 0], .int .u64 ld] H = some (.ret (doneT (upd (upd (upd R 0 0) A.toNat (aluV 11 (upd R 0 0 B.toNat) (upd R 0 0 C.toNat))) 0 0) F (IntKind.wrap .u32 (pc + 4)) 0 0), H) := by
  rw [q21 (n+69) _ _ _ (regs_flat _ _ _) rfl rfl H]
  have ar := rg166 hA
  have br := rg166 hB
  have cr := rg166 hC
  have rng : (0 ≤ (11 : Int) ∧ (11 : Int) < 72) = True := by simp
  have szz : sizeV 11 = 0 := rfl
  have fv : formV 11 = 2 := rfl
  have nd : ∀ n H R, evCall cfc (n+12) 23 [.agg (regs R F pc).toArray, .agg #[.int .i64 11, .int .i64 A, .int .i64 B, .int .i64 C, .int .i64 0]] H = some (.ret (.agg #[.bool false, .int .u32 0, .int .i64 0, .int .u64 0]), H) := fun n H R => rneed_bad n H R F pc _ _ _ _ _ (Or.inl rfl)
  have hx : 0 ≤ (upd R 0 0 B.toNat) ∧ (upd R 0 0 B.toNat) < 4294967296 := updR_range hR _ (by omega)
  have hy : 0 ≤ (upd R 0 0 C.toNat) ∧ (upd R 0 0 C.toNat) < 4294967296 := updR_range hR _ (by omega)
  have e36 : ∀ n H, evCall cfc (n+50) 36 [.int .i64 11, .int .u32 (upd R 0 0 B.toNat), .int .u32 (upd R 0 0 C.toNat)] H = some (.ret (.tuple #[.int .u32 (aluV 11 (upd R 0 0 B.toNat) (upd R 0 0 C.toNat)), .int .i64 0]), H) := fun n H => v36_11 n H _ _ hx hy
  simp -implicitDefEqProofs only [s21, v27, v35, v16, rng, szz, fv, hk, doneT, needT, wrap_0, nd, e36, ar, br, cr, tabs_gn, ↓EVdn, EVup, lp_succ, goInt, splice, okC, Fr.of, Fr.ofI, Fr.g, Nat.reduceAdd, Nat.reduceMul, Nat.reduceEqDiff, Nat.reduceLT, Nat.reduceLeDiff, Nat.reduceBEq, Int.reduceLT, Int.reduceLE, Int.reduceToNat, Int.reduceAdd, Int.reduceSub, Int.reduceMul, Int.reduceEq, Int.reduceNeg, ↓reduceIte, ↓reduceDIte, Nat.beq, reduceCtorEq, Value.int.injEq, Nat.reduceSub, flat_int, flat_bool, flat_t2w, flat_t2u, flat_bt, flat_done, regs_flat, flat_i5, flat_need, upd_upd, decide_true]
theorem rdone_12 (n : Nat) (H : Hp) (R F : Nat → Int) (pc A B C ld : Int) (hA : 0 ≤ A ∧ A < 16) (hB : 0 ≤ B ∧ B < 16) (hC : 0 ≤ C ∧ C < 16) (hR : ∀ i, i < 16 → inK .u32 (R i)) (hF : ∀ i, i < 8 → inK .u64 (F i)) (hk : chkV 12 A B C 0 = 0) : evCall cfc (n+70) 21 [.agg (regs R F pc).toArray, .agg #[.int .i64 12, .int .i64 A, .int .i64 B, .int .i64 C, .int .i64 0], .int .u64 ld] H = some (.ret (doneT (upd (upd (upd R 0 0) A.toNat (aluV 12 (upd R 0 0 B.toNat) (upd R 0 0 C.toNat))) 0 0) F (IntKind.wrap .u32 (pc + 4)) 0 0), H) := by
  rw [q21 (n+69) _ _ _ (regs_flat _ _ _) rfl rfl H]
  have ar := rg166 hA
  have br := rg166 hB
  have cr := rg166 hC
  have rng : (0 ≤ (12 : Int) ∧ (12 : Int) < 72) = True := by simp
  have szz : sizeV 12 = 0 := rfl
  have fv : formV 12 = 2 := rfl
  have nd : ∀ n H R, evCall cfc (n+12) 23 [.agg (regs R F pc).toArray, .agg #[.int .i64 12, .int .i64 A, .int .i64 B, .int .i64 C, .int .i64 0]] H = some (.ret (.agg #[.bool false, .int .u32 0, .int .i64 0, .int .u64 0]), H) := fun n H R => rneed_bad n H R F pc _ _ _ _ _ (Or.inl rfl)
  have hx : 0 ≤ (upd R 0 0 B.toNat) ∧ (upd R 0 0 B.toNat) < 4294967296 := updR_range hR _ (by omega)
  have hy : 0 ≤ (upd R 0 0 C.toNat) ∧ (upd R 0 0 C.toNat) < 4294967296 := updR_range hR _ (by omega)
  have e36 : ∀ n H, evCall cfc (n+50) 36 [.int .i64 12, .int .u32 (upd R 0 0 B.toNat), .int .u32 (upd R 0 0 C.toNat)] H = some (.ret (.tuple #[.int .u32 (aluV 12 (upd R 0 0 B.toNat) (upd R 0 0 C.toNat)), .int .i64 0]), H) := fun n H => v36_12 n H _ _ hx hy
  simp -implicitDefEqProofs only [s21, v27, v35, v16, rng, szz, fv, hk, doneT, needT, wrap_0, nd, e36, ar, br, cr, tabs_gn, ↓EVdn, EVup, lp_succ, goInt, splice, okC, Fr.of, Fr.ofI, Fr.g, Nat.reduceAdd, Nat.reduceMul, Nat.reduceEqDiff, Nat.reduceLT, Nat.reduceLeDiff, Nat.reduceBEq, Int.reduceLT, Int.reduceLE, Int.reduceToNat, Int.reduceAdd, Int.reduceSub, Int.reduceMul, Int.reduceEq, Int.reduceNeg, ↓reduceIte, ↓reduceDIte, Nat.beq, reduceCtorEq, Value.int.injEq, Nat.reduceSub, flat_int, flat_bool, flat_t2w, flat_t2u, flat_bt, flat_done, regs_flat, flat_i5, flat_need, upd_upd, decide_true]
theorem rdone_13 (n : Nat) (H : Hp) (R F : Nat → Int) (pc A B C ld : Int) (hA : 0 ≤ A ∧ A < 16) (hB : 0 ≤ B ∧ B < 16) (hC : 0 ≤ C ∧ C < 16) (hR : ∀ i, i < 16 → inK .u32 (R i)) (hF : ∀ i, i < 8 → inK .u64 (F i)) (hk : chkV 13 A B C 0 = 0) : evCall cfc (n+70) 21 [.agg (regs R F pc).toArray, .agg #[.int .i64 13, .int .i64 A, .int .i64 B, .int .i64 C, .int .i64 0], .int .u64 ld] H = some (.ret (doneT (upd (upd (upd R 0 0) A.toNat (aluV 13 (upd R 0 0 B.toNat) (upd R 0 0 C.toNat))) 0 0) F (IntKind.wrap .u32 (pc + 4)) 0 0), H) := by
  rw [q21 (n+69) _ _ _ (regs_flat _ _ _) rfl rfl H]
  have ar := rg166 hA
  have br := rg166 hB
  have cr := rg166 hC
  have rng : (0 ≤ (13 : Int) ∧ (13 : Int) < 72) = True := by simp
  have szz : sizeV 13 = 0 := rfl
  have fv : formV 13 = 2 := rfl
  have nd : ∀ n H R, evCall cfc (n+12) 23 [.agg (regs R F pc).toArray, .agg #[.int .i64 13, .int .i64 A, .int .i64 B, .int .i64 C, .int .i64 0]] H = some (.ret (.agg #[.bool false, .int .u32 0, .int .i64 0, .int .u64 0]), H) := fun n H R => rneed_bad n H R F pc _ _ _ _ _ (Or.inl rfl)
  have hx : 0 ≤ (upd R 0 0 B.toNat) ∧ (upd R 0 0 B.toNat) < 4294967296 := updR_range hR _ (by omega)
  have hy : 0 ≤ (upd R 0 0 C.toNat) ∧ (upd R 0 0 C.toNat) < 4294967296 := updR_range hR _ (by omega)
  have e36 : ∀ n H, evCall cfc (n+50) 36 [.int .i64 13, .int .u32 (upd R 0 0 B.toNat), .int .u32 (upd R 0 0 C.toNat)] H = some (.ret (.tuple #[.int .u32 (aluV 13 (upd R 0 0 B.toNat) (upd R 0 0 C.toNat)), .int .i64 0]), H) := fun n H => v36_13 n H _ _ hx hy
  simp -implicitDefEqProofs only [s21, v27, v35, v16, rng, szz, fv, hk, doneT, needT, wrap_0, nd, e36, ar, br, cr, tabs_gn, ↓EVdn, EVup, lp_succ, goInt, splice, okC, Fr.of, Fr.ofI, Fr.g, Nat.reduceAdd, Nat.reduceMul, Nat.reduceEqDiff, Nat.reduceLT, Nat.reduceLeDiff, Nat.reduceBEq, Int.reduceLT, Int.reduceLE, Int.reduceToNat, Int.reduceAdd, Int.reduceSub, Int.reduceMul, Int.reduceEq, Int.reduceNeg, ↓reduceIte, ↓reduceDIte, Nat.beq, reduceCtorEq, Value.int.injEq, Nat.reduceSub, flat_int, flat_bool, flat_t2w, flat_t2u, flat_bt, flat_done, regs_flat, flat_i5, flat_need, upd_upd, decide_true]
theorem rdone_14 (n : Nat) (H : Hp) (R F : Nat → Int) (pc A B C ld : Int) (hA : 0 ≤ A ∧ A < 16) (hB : 0 ≤ B ∧ B < 16) (hC : 0 ≤ C ∧ C < 16) (hR : ∀ i, i < 16 → inK .u32 (R i)) (hF : ∀ i, i < 8 → inK .u64 (F i)) (hk : chkV 14 A B C 0 = 0) : evCall cfc (n+70) 21 [.agg (regs R F pc).toArray, .agg #[.int .i64 14, .int .i64 A, .int .i64 B, .int .i64 C, .int .i64 0], .int .u64 ld] H = some (.ret (doneT (upd (upd (upd R 0 0) A.toNat (aluV 14 (upd R 0 0 B.toNat) (upd R 0 0 C.toNat))) 0 0) F (IntKind.wrap .u32 (pc + 4)) 0 0), H) := by
  rw [q21 (n+69) _ _ _ (regs_flat _ _ _) rfl rfl H]
  have ar := rg166 hA
  have br := rg166 hB
  have cr := rg166 hC
  have rng : (0 ≤ (14 : Int) ∧ (14 : Int) < 72) = True := by simp
  have szz : sizeV 14 = 0 := rfl
  have fv : formV 14 = 2 := rfl
  have nd : ∀ n H R, evCall cfc (n+12) 23 [.agg (regs R F pc).toArray, .agg #[.int .i64 14, .int .i64 A, .int .i64 B, .int .i64 C, .int .i64 0]] H = some (.ret (.agg #[.bool false, .int .u32 0, .int .i64 0, .int .u64 0]), H) := fun n H R => rneed_bad n H R F pc _ _ _ _ _ (Or.inl rfl)
  have hx : 0 ≤ (upd R 0 0 B.toNat) ∧ (upd R 0 0 B.toNat) < 4294967296 := updR_range hR _ (by omega)
  have hy : 0 ≤ (upd R 0 0 C.toNat) ∧ (upd R 0 0 C.toNat) < 4294967296 := updR_range hR _ (by omega)
  have e36 : ∀ n H, evCall cfc (n+50) 36 [.int .i64 14, .int .u32 (upd R 0 0 B.toNat), .int .u32 (upd R 0 0 C.toNat)] H = some (.ret (.tuple #[.int .u32 (aluV 14 (upd R 0 0 B.toNat) (upd R 0 0 C.toNat)), .int .i64 0]), H) := fun n H => v36_14 n H _ _ hx hy
  simp -implicitDefEqProofs only [s21, v27, v35, v16, rng, szz, fv, hk, doneT, needT, wrap_0, nd, e36, ar, br, cr, tabs_gn, ↓EVdn, EVup, lp_succ, goInt, splice, okC, Fr.of, Fr.ofI, Fr.g, Nat.reduceAdd, Nat.reduceMul, Nat.reduceEqDiff, Nat.reduceLT, Nat.reduceLeDiff, Nat.reduceBEq, Int.reduceLT, Int.reduceLE, Int.reduceToNat, Int.reduceAdd, Int.reduceSub, Int.reduceMul, Int.reduceEq, Int.reduceNeg, ↓reduceIte, ↓reduceDIte, Nat.beq, reduceCtorEq, Value.int.injEq, Nat.reduceSub, flat_int, flat_bool, flat_t2w, flat_t2u, flat_bt, flat_done, regs_flat, flat_i5, flat_need, upd_upd, decide_true]
theorem rdone_15 (n : Nat) (H : Hp) (R F : Nat → Int) (pc A B C ld : Int) (hA : 0 ≤ A ∧ A < 16) (hB : 0 ≤ B ∧ B < 16) (hC : 0 ≤ C ∧ C < 16) (hR : ∀ i, i < 16 → inK .u32 (R i)) (hF : ∀ i, i < 8 → inK .u64 (F i)) (hk : chkV 15 A B C 0 = 0) : evCall cfc (n+70) 21 [.agg (regs R F pc).toArray, .agg #[.int .i64 15, .int .i64 A, .int .i64 B, .int .i64 C, .int .i64 0], .int .u64 ld] H = some (.ret (doneT (upd (upd (upd R 0 0) A.toNat (aluV 15 (upd R 0 0 B.toNat) (upd R 0 0 C.toNat))) 0 0) F (IntKind.wrap .u32 (pc + 4)) 0 0), H) := by
  rw [q21 (n+69) _ _ _ (regs_flat _ _ _) rfl rfl H]
  have ar := rg166 hA
  have br := rg166 hB
  have cr := rg166 hC
  have rng : (0 ≤ (15 : Int) ∧ (15 : Int) < 72) = True := by simp
  have szz : sizeV 15 = 0 := rfl
  have fv : formV 15 = 2 := rfl
  have nd : ∀ n H R, evCall cfc (n+12) 23 [.agg (regs R F pc).toArray, .agg #[.int .i64 15, .int .i64 A, .int .i64 B, .int .i64 C, .int .i64 0]] H = some (.ret (.agg #[.bool false, .int .u32 0, .int .i64 0, .int .u64 0]), H) := fun n H R => rneed_bad n H R F pc _ _ _ _ _ (Or.inl rfl)
  have hx : 0 ≤ (upd R 0 0 B.toNat) ∧ (upd R 0 0 B.toNat) < 4294967296 := updR_range hR _ (by omega)
  have hy : 0 ≤ (upd R 0 0 C.toNat) ∧ (upd R 0 0 C.toNat) < 4294967296 := updR_range hR _ (by omega)
  have e36 : ∀ n H, evCall cfc (n+50) 36 [.int .i64 15, .int .u32 (upd R 0 0 B.toNat), .int .u32 (upd R 0 0 C.toNat)] H = some (.ret (.tuple #[.int .u32 (aluV 15 (upd R 0 0 B.toNat) (upd R 0 0 C.toNat)), .int .i64 0]), H) := fun n H => v36_15 n H _ _ hx hy
  simp -implicitDefEqProofs only [s21, v27, v35, v16, rng, szz, fv, hk, doneT, needT, wrap_0, nd, e36, ar, br, cr, tabs_gn, ↓EVdn, EVup, lp_succ, goInt, splice, okC, Fr.of, Fr.ofI, Fr.g, Nat.reduceAdd, Nat.reduceMul, Nat.reduceEqDiff, Nat.reduceLT, Nat.reduceLeDiff, Nat.reduceBEq, Int.reduceLT, Int.reduceLE, Int.reduceToNat, Int.reduceAdd, Int.reduceSub, Int.reduceMul, Int.reduceEq, Int.reduceNeg, ↓reduceIte, ↓reduceDIte, Nat.beq, reduceCtorEq, Value.int.injEq, Nat.reduceSub, flat_int, flat_bool, flat_t2w, flat_t2u, flat_bt, flat_done, regs_flat, flat_i5, flat_need, upd_upd, decide_true]
theorem rdone_16 (n : Nat) (H : Hp) (R F : Nat → Int) (pc A B C ld : Int) (hA : 0 ≤ A ∧ A < 16) (hB : 0 ≤ B ∧ B < 16) (hC : 0 ≤ C ∧ C < 16) (hR : ∀ i, i < 16 → inK .u32 (R i)) (hF : ∀ i, i < 8 → inK .u64 (F i)) (hk : chkV 16 A B C 0 = 0) : evCall cfc (n+70) 21 [.agg (regs R F pc).toArray, .agg #[.int .i64 16, .int .i64 A, .int .i64 B, .int .i64 C, .int .i64 0], .int .u64 ld] H = some (.ret (doneT (upd (upd (upd R 0 0) A.toNat (aluV 16 (upd R 0 0 B.toNat) (upd R 0 0 C.toNat))) 0 0) F (IntKind.wrap .u32 (pc + 4)) 0 0), H) := by
  rw [q21 (n+69) _ _ _ (regs_flat _ _ _) rfl rfl H]
  have ar := rg166 hA
  have br := rg166 hB
  have cr := rg166 hC
  have rng : (0 ≤ (16 : Int) ∧ (16 : Int) < 72) = True := by simp
  have szz : sizeV 16 = 0 := rfl
  have fv : formV 16 = 2 := rfl
  have nd : ∀ n H R, evCall cfc (n+12) 23 [.agg (regs R F pc).toArray, .agg #[.int .i64 16, .int .i64 A, .int .i64 B, .int .i64 C, .int .i64 0]] H = some (.ret (.agg #[.bool false, .int .u32 0, .int .i64 0, .int .u64 0]), H) := fun n H R => rneed_bad n H R F pc _ _ _ _ _ (Or.inl rfl)
  have hx : 0 ≤ (upd R 0 0 B.toNat) ∧ (upd R 0 0 B.toNat) < 4294967296 := updR_range hR _ (by omega)
  have hy : 0 ≤ (upd R 0 0 C.toNat) ∧ (upd R 0 0 C.toNat) < 4294967296 := updR_range hR _ (by omega)
  have e36 : ∀ n H, evCall cfc (n+50) 36 [.int .i64 16, .int .u32 (upd R 0 0 B.toNat), .int .u32 (upd R 0 0 C.toNat)] H = some (.ret (.tuple #[.int .u32 (aluV 16 (upd R 0 0 B.toNat) (upd R 0 0 C.toNat)), .int .i64 0]), H) := fun n H => v36_16 n H _ _ hx hy
  simp -implicitDefEqProofs only [s21, v27, v35, v16, rng, szz, fv, hk, doneT, needT, wrap_0, nd, e36, ar, br, cr, tabs_gn, ↓EVdn, EVup, lp_succ, goInt, splice, okC, Fr.of, Fr.ofI, Fr.g, Nat.reduceAdd, Nat.reduceMul, Nat.reduceEqDiff, Nat.reduceLT, Nat.reduceLeDiff, Nat.reduceBEq, Int.reduceLT, Int.reduceLE, Int.reduceToNat, Int.reduceAdd, Int.reduceSub, Int.reduceMul, Int.reduceEq, Int.reduceNeg, ↓reduceIte, ↓reduceDIte, Nat.beq, reduceCtorEq, Value.int.injEq, Nat.reduceSub, flat_int, flat_bool, flat_t2w, flat_t2u, flat_bt, flat_done, regs_flat, flat_i5, flat_need, upd_upd, decide_true]
theorem rdone_17 (n : Nat) (H : Hp) (R F : Nat → Int) (pc A B C ld : Int) (hA : 0 ≤ A ∧ A < 16) (hB : 0 ≤ B ∧ B < 16) (hC : 0 ≤ C ∧ C < 16) (hR : ∀ i, i < 16 → inK .u32 (R i)) (hF : ∀ i, i < 8 → inK .u64 (F i)) (hk : chkV 17 A B C 0 = 0) : evCall cfc (n+70) 21 [.agg (regs R F pc).toArray, .agg #[.int .i64 17, .int .i64 A, .int .i64 B, .int .i64 C, .int .i64 0], .int .u64 ld] H = some (.ret (doneT (upd (upd (upd R 0 0) A.toNat (aluV 17 (upd R 0 0 B.toNat) (upd R 0 0 C.toNat))) 0 0) F (IntKind.wrap .u32 (pc + 4)) 0 0), H) := by
  rw [q21 (n+69) _ _ _ (regs_flat _ _ _) rfl rfl H]
  have ar := rg166 hA
  have br := rg166 hB
  have cr := rg166 hC
  have rng : (0 ≤ (17 : Int) ∧ (17 : Int) < 72) = True := by simp
  have szz : sizeV 17 = 0 := rfl
  have fv : formV 17 = 2 := rfl
  have nd : ∀ n H R, evCall cfc (n+12) 23 [.agg (regs R F pc).toArray, .agg #[.int .i64 17, .int .i64 A, .int .i64 B, .int .i64 C, .int .i64 0]] H = some (.ret (.agg #[.bool false, .int .u32 0, .int .i64 0, .int .u64 0]), H) := fun n H R => rneed_bad n H R F pc _ _ _ _ _ (Or.inl rfl)
  have hx : 0 ≤ (upd R 0 0 B.toNat) ∧ (upd R 0 0 B.toNat) < 4294967296 := updR_range hR _ (by omega)
  have hy : 0 ≤ (upd R 0 0 C.toNat) ∧ (upd R 0 0 C.toNat) < 4294967296 := updR_range hR _ (by omega)
  have e36 : ∀ n H, evCall cfc (n+50) 36 [.int .i64 17, .int .u32 (upd R 0 0 B.toNat), .int .u32 (upd R 0 0 C.toNat)] H = some (.ret (.tuple #[.int .u32 (aluV 17 (upd R 0 0 B.toNat) (upd R 0 0 C.toNat)), .int .i64 0]), H) := fun n H => v36_17 n H _ _ hx hy
  simp -implicitDefEqProofs only [s21, v27, v35, v16, rng, szz, fv, hk, doneT, needT, wrap_0, nd, e36, ar, br, cr, tabs_gn, ↓EVdn, EVup, lp_succ, goInt, splice, okC, Fr.of, Fr.ofI, Fr.g, Nat.reduceAdd, Nat.reduceMul, Nat.reduceEqDiff, Nat.reduceLT, Nat.reduceLeDiff, Nat.reduceBEq, Int.reduceLT, Int.reduceLE, Int.reduceToNat, Int.reduceAdd, Int.reduceSub, Int.reduceMul, Int.reduceEq, Int.reduceNeg, ↓reduceIte, ↓reduceDIte, Nat.beq, reduceCtorEq, Value.int.injEq, Nat.reduceSub, flat_int, flat_bool, flat_t2w, flat_t2u, flat_bt, flat_done, regs_flat, flat_i5, flat_need, upd_upd, decide_true]
theorem rdone_18 (n : Nat) (H : Hp) (R F : Nat → Int) (pc A B I ld : Int) (hA : 0 ≤ A ∧ A < 16) (hB : 0 ≤ B ∧ B < 16) (hR : ∀ i, i < 16 → inK .u32 (R i)) (hF : ∀ i, i < 8 → inK .u64 (F i)) (hk : chkV 18 A B 0 I = 0) : evCall cfc (n+70) 21 [.agg (regs R F pc).toArray, .agg #[.int .i64 18, .int .i64 A, .int .i64 B, .int .i64 0, .int .i64 I], .int .u64 ld] H = some (.ret (doneT (upd (upd (upd R 0 0) A.toNat (aluV 18 (upd R 0 0 B.toNat) (IntKind.wrap .u32 I))) 0 0) F (IntKind.wrap .u32 (pc + 4)) 0 0), H) := by
  rw [q21 (n+69) _ _ _ (regs_flat _ _ _) rfl rfl H]
  have ar := rg166 hA
  have br := rg166 hB
  have rng : (0 ≤ (18 : Int) ∧ (18 : Int) < 72) = True := by simp
  have szz : sizeV 18 = 0 := rfl
  have fv : formV 18 = 3 := rfl
  have nd : ∀ n H R, evCall cfc (n+12) 23 [.agg (regs R F pc).toArray, .agg #[.int .i64 18, .int .i64 A, .int .i64 B, .int .i64 0, .int .i64 I]] H = some (.ret (.agg #[.bool false, .int .u32 0, .int .i64 0, .int .u64 0]), H) := fun n H R => rneed_bad n H R F pc _ _ _ _ _ (Or.inl rfl)
  have hx : 0 ≤ (upd R 0 0 B.toNat) ∧ (upd R 0 0 B.toNat) < 4294967296 := updR_range hR _ (by omega)
  have hy : 0 ≤ (IntKind.wrap .u32 I) ∧ (IntKind.wrap .u32 I) < 4294967296 := wrap_u32_range I
  have e36 : ∀ n H, evCall cfc (n+50) 36 [.int .i64 18, .int .u32 (upd R 0 0 B.toNat), .int .u32 (IntKind.wrap .u32 I)] H = some (.ret (.tuple #[.int .u32 (aluV 18 (upd R 0 0 B.toNat) (IntKind.wrap .u32 I)), .int .i64 0]), H) := fun n H => v36_18 n H _ _ hx hy
  simp -implicitDefEqProofs only [s21, v27, v35, v16, rng, szz, fv, hk, doneT, needT, wrap_0, nd, e36, ar, br, tabs_gn, ↓EVdn, EVup, lp_succ, goInt, splice, okC, Fr.of, Fr.ofI, Fr.g, Nat.reduceAdd, Nat.reduceMul, Nat.reduceEqDiff, Nat.reduceLT, Nat.reduceLeDiff, Nat.reduceBEq, Int.reduceLT, Int.reduceLE, Int.reduceToNat, Int.reduceAdd, Int.reduceSub, Int.reduceMul, Int.reduceEq, Int.reduceNeg, ↓reduceIte, ↓reduceDIte, Nat.beq, reduceCtorEq, Value.int.injEq, Nat.reduceSub, flat_int, flat_bool, flat_t2w, flat_t2u, flat_bt, flat_done, regs_flat, flat_i5, flat_need, upd_upd, decide_true]
theorem rdone_19 (n : Nat) (H : Hp) (R F : Nat → Int) (pc A B I ld : Int) (hA : 0 ≤ A ∧ A < 16) (hB : 0 ≤ B ∧ B < 16) (hR : ∀ i, i < 16 → inK .u32 (R i)) (hF : ∀ i, i < 8 → inK .u64 (F i)) (hk : chkV 19 A B 0 I = 0) : evCall cfc (n+70) 21 [.agg (regs R F pc).toArray, .agg #[.int .i64 19, .int .i64 A, .int .i64 B, .int .i64 0, .int .i64 I], .int .u64 ld] H = some (.ret (doneT (upd (upd (upd R 0 0) A.toNat (aluV 19 (upd R 0 0 B.toNat) (IntKind.wrap .u32 I))) 0 0) F (IntKind.wrap .u32 (pc + 4)) 0 0), H) := by
  rw [q21 (n+69) _ _ _ (regs_flat _ _ _) rfl rfl H]
  have ar := rg166 hA
  have br := rg166 hB
  have rng : (0 ≤ (19 : Int) ∧ (19 : Int) < 72) = True := by simp
  have szz : sizeV 19 = 0 := rfl
  have fv : formV 19 = 3 := rfl
  have nd : ∀ n H R, evCall cfc (n+12) 23 [.agg (regs R F pc).toArray, .agg #[.int .i64 19, .int .i64 A, .int .i64 B, .int .i64 0, .int .i64 I]] H = some (.ret (.agg #[.bool false, .int .u32 0, .int .i64 0, .int .u64 0]), H) := fun n H R => rneed_bad n H R F pc _ _ _ _ _ (Or.inl rfl)
  have hx : 0 ≤ (upd R 0 0 B.toNat) ∧ (upd R 0 0 B.toNat) < 4294967296 := updR_range hR _ (by omega)
  have hy : 0 ≤ (IntKind.wrap .u32 I) ∧ (IntKind.wrap .u32 I) < 4294967296 := wrap_u32_range I
  have e36 : ∀ n H, evCall cfc (n+50) 36 [.int .i64 19, .int .u32 (upd R 0 0 B.toNat), .int .u32 (IntKind.wrap .u32 I)] H = some (.ret (.tuple #[.int .u32 (aluV 19 (upd R 0 0 B.toNat) (IntKind.wrap .u32 I)), .int .i64 0]), H) := fun n H => v36_19 n H _ _ hx hy
  simp -implicitDefEqProofs only [s21, v27, v35, v16, rng, szz, fv, hk, doneT, needT, wrap_0, nd, e36, ar, br, tabs_gn, ↓EVdn, EVup, lp_succ, goInt, splice, okC, Fr.of, Fr.ofI, Fr.g, Nat.reduceAdd, Nat.reduceMul, Nat.reduceEqDiff, Nat.reduceLT, Nat.reduceLeDiff, Nat.reduceBEq, Int.reduceLT, Int.reduceLE, Int.reduceToNat, Int.reduceAdd, Int.reduceSub, Int.reduceMul, Int.reduceEq, Int.reduceNeg, ↓reduceIte, ↓reduceDIte, Nat.beq, reduceCtorEq, Value.int.injEq, Nat.reduceSub, flat_int, flat_bool, flat_t2w, flat_t2u, flat_bt, flat_done, regs_flat, flat_i5, flat_need, upd_upd, decide_true]
theorem rdone_20 (n : Nat) (H : Hp) (R F : Nat → Int) (pc A B I ld : Int) (hA : 0 ≤ A ∧ A < 16) (hB : 0 ≤ B ∧ B < 16) (hR : ∀ i, i < 16 → inK .u32 (R i)) (hF : ∀ i, i < 8 → inK .u64 (F i)) (hk : chkV 20 A B 0 I = 0) : evCall cfc (n+70) 21 [.agg (regs R F pc).toArray, .agg #[.int .i64 20, .int .i64 A, .int .i64 B, .int .i64 0, .int .i64 I], .int .u64 ld] H = some (.ret (doneT (upd (upd (upd R 0 0) A.toNat (aluV 20 (upd R 0 0 B.toNat) (IntKind.wrap .u32 I))) 0 0) F (IntKind.wrap .u32 (pc + 4)) 0 0), H) := by
  rw [q21 (n+69) _ _ _ (regs_flat _ _ _) rfl rfl H]
  have ar := rg166 hA
  have br := rg166 hB
  have rng : (0 ≤ (20 : Int) ∧ (20 : Int) < 72) = True := by simp
  have szz : sizeV 20 = 0 := rfl
  have fv : formV 20 = 3 := rfl
  have nd : ∀ n H R, evCall cfc (n+12) 23 [.agg (regs R F pc).toArray, .agg #[.int .i64 20, .int .i64 A, .int .i64 B, .int .i64 0, .int .i64 I]] H = some (.ret (.agg #[.bool false, .int .u32 0, .int .i64 0, .int .u64 0]), H) := fun n H R => rneed_bad n H R F pc _ _ _ _ _ (Or.inl rfl)
  have hx : 0 ≤ (upd R 0 0 B.toNat) ∧ (upd R 0 0 B.toNat) < 4294967296 := updR_range hR _ (by omega)
  have hy : 0 ≤ (IntKind.wrap .u32 I) ∧ (IntKind.wrap .u32 I) < 4294967296 := wrap_u32_range I
  have e36 : ∀ n H, evCall cfc (n+50) 36 [.int .i64 20, .int .u32 (upd R 0 0 B.toNat), .int .u32 (IntKind.wrap .u32 I)] H = some (.ret (.tuple #[.int .u32 (aluV 20 (upd R 0 0 B.toNat) (IntKind.wrap .u32 I)), .int .i64 0]), H) := fun n H => v36_20 n H _ _ hx hy
  simp -implicitDefEqProofs only [s21, v27, v35, v16, rng, szz, fv, hk, doneT, needT, wrap_0, nd, e36, ar, br, tabs_gn, ↓EVdn, EVup, lp_succ, goInt, splice, okC, Fr.of, Fr.ofI, Fr.g, Nat.reduceAdd, Nat.reduceMul, Nat.reduceEqDiff, Nat.reduceLT, Nat.reduceLeDiff, Nat.reduceBEq, Int.reduceLT, Int.reduceLE, Int.reduceToNat, Int.reduceAdd, Int.reduceSub, Int.reduceMul, Int.reduceEq, Int.reduceNeg, ↓reduceIte, ↓reduceDIte, Nat.beq, reduceCtorEq, Value.int.injEq, Nat.reduceSub, flat_int, flat_bool, flat_t2w, flat_t2u, flat_bt, flat_done, regs_flat, flat_i5, flat_need, upd_upd, decide_true]
theorem rdone_21 (n : Nat) (H : Hp) (R F : Nat → Int) (pc A B I ld : Int) (hA : 0 ≤ A ∧ A < 16) (hB : 0 ≤ B ∧ B < 16) (hR : ∀ i, i < 16 → inK .u32 (R i)) (hF : ∀ i, i < 8 → inK .u64 (F i)) (hk : chkV 21 A B 0 I = 0) : evCall cfc (n+70) 21 [.agg (regs R F pc).toArray, .agg #[.int .i64 21, .int .i64 A, .int .i64 B, .int .i64 0, .int .i64 I], .int .u64 ld] H = some (.ret (doneT (upd (upd (upd R 0 0) A.toNat (aluV 21 (upd R 0 0 B.toNat) (IntKind.wrap .u32 I))) 0 0) F (IntKind.wrap .u32 (pc + 4)) 0 0), H) := by
  rw [q21 (n+69) _ _ _ (regs_flat _ _ _) rfl rfl H]
  have ar := rg166 hA
  have br := rg166 hB
  have rng : (0 ≤ (21 : Int) ∧ (21 : Int) < 72) = True := by simp
  have szz : sizeV 21 = 0 := rfl
  have fv : formV 21 = 3 := rfl
  have nd : ∀ n H R, evCall cfc (n+12) 23 [.agg (regs R F pc).toArray, .agg #[.int .i64 21, .int .i64 A, .int .i64 B, .int .i64 0, .int .i64 I]] H = some (.ret (.agg #[.bool false, .int .u32 0, .int .i64 0, .int .u64 0]), H) := fun n H R => rneed_bad n H R F pc _ _ _ _ _ (Or.inl rfl)
  have hx : 0 ≤ (upd R 0 0 B.toNat) ∧ (upd R 0 0 B.toNat) < 4294967296 := updR_range hR _ (by omega)
  have hy : 0 ≤ (IntKind.wrap .u32 I) ∧ (IntKind.wrap .u32 I) < 4294967296 := wrap_u32_range I
  have e36 : ∀ n H, evCall cfc (n+50) 36 [.int .i64 21, .int .u32 (upd R 0 0 B.toNat), .int .u32 (IntKind.wrap .u32 I)] H = some (.ret (.tuple #[.int .u32 (aluV 21 (upd R 0 0 B.toNat) (IntKind.wrap .u32 I)), .int .i64 0]), H) := fun n H => v36_21 n H _ _ hx hy
  simp -implicitDefEqProofs only [s21, v27, v35, v16, rng, szz, fv, hk, doneT, needT, wrap_0, nd, e36, ar, br, tabs_gn, ↓EVdn, EVup, lp_succ, goInt, splice, okC, Fr.of, Fr.ofI, Fr.g, Nat.reduceAdd, Nat.reduceMul, Nat.reduceEqDiff, Nat.reduceLT, Nat.reduceLeDiff, Nat.reduceBEq, Int.reduceLT, Int.reduceLE, Int.reduceToNat, Int.reduceAdd, Int.reduceSub, Int.reduceMul, Int.reduceEq, Int.reduceNeg, ↓reduceIte, ↓reduceDIte, Nat.beq, reduceCtorEq, Value.int.injEq, Nat.reduceSub, flat_int, flat_bool, flat_t2w, flat_t2u, flat_bt, flat_done, regs_flat, flat_i5, flat_need, upd_upd, decide_true]
theorem rdone_22 (n : Nat) (H : Hp) (R F : Nat → Int) (pc A B I ld : Int) (hA : 0 ≤ A ∧ A < 16) (hB : 0 ≤ B ∧ B < 16) (hR : ∀ i, i < 16 → inK .u32 (R i)) (hF : ∀ i, i < 8 → inK .u64 (F i)) (hk : chkV 22 A B 0 I = 0) : evCall cfc (n+70) 21 [.agg (regs R F pc).toArray, .agg #[.int .i64 22, .int .i64 A, .int .i64 B, .int .i64 0, .int .i64 I], .int .u64 ld] H = some (.ret (doneT (upd (upd (upd R 0 0) A.toNat (aluV 22 (upd R 0 0 B.toNat) (IntKind.wrap .u32 I))) 0 0) F (IntKind.wrap .u32 (pc + 4)) 0 0), H) := by
  rw [q21 (n+69) _ _ _ (regs_flat _ _ _) rfl rfl H]
  have ar := rg166 hA
  have br := rg166 hB
  have rng : (0 ≤ (22 : Int) ∧ (22 : Int) < 72) = True := by simp
  have szz : sizeV 22 = 0 := rfl
  have fv : formV 22 = 3 := rfl
  have nd : ∀ n H R, evCall cfc (n+12) 23 [.agg (regs R F pc).toArray, .agg #[.int .i64 22, .int .i64 A, .int .i64 B, .int .i64 0, .int .i64 I]] H = some (.ret (.agg #[.bool false, .int .u32 0, .int .i64 0, .int .u64 0]), H) := fun n H R => rneed_bad n H R F pc _ _ _ _ _ (Or.inl rfl)
  have hx : 0 ≤ (upd R 0 0 B.toNat) ∧ (upd R 0 0 B.toNat) < 4294967296 := updR_range hR _ (by omega)
  have hy : 0 ≤ (IntKind.wrap .u32 I) ∧ (IntKind.wrap .u32 I) < 4294967296 := wrap_u32_range I
  have e36 : ∀ n H, evCall cfc (n+50) 36 [.int .i64 22, .int .u32 (upd R 0 0 B.toNat), .int .u32 (IntKind.wrap .u32 I)] H = some (.ret (.tuple #[.int .u32 (aluV 22 (upd R 0 0 B.toNat) (IntKind.wrap .u32 I)), .int .i64 0]), H) := fun n H => v36_22 n H _ _ hx hy
  simp -implicitDefEqProofs only [s21, v27, v35, v16, rng, szz, fv, hk, doneT, needT, wrap_0, nd, e36, ar, br, tabs_gn, ↓EVdn, EVup, lp_succ, goInt, splice, okC, Fr.of, Fr.ofI, Fr.g, Nat.reduceAdd, Nat.reduceMul, Nat.reduceEqDiff, Nat.reduceLT, Nat.reduceLeDiff, Nat.reduceBEq, Int.reduceLT, Int.reduceLE, Int.reduceToNat, Int.reduceAdd, Int.reduceSub, Int.reduceMul, Int.reduceEq, Int.reduceNeg, ↓reduceIte, ↓reduceDIte, Nat.beq, reduceCtorEq, Value.int.injEq, Nat.reduceSub, flat_int, flat_bool, flat_t2w, flat_t2u, flat_bt, flat_done, regs_flat, flat_i5, flat_need, upd_upd, decide_true]
theorem rdone_23 (n : Nat) (H : Hp) (R F : Nat → Int) (pc A B I ld : Int) (hA : 0 ≤ A ∧ A < 16) (hB : 0 ≤ B ∧ B < 16) (hR : ∀ i, i < 16 → inK .u32 (R i)) (hF : ∀ i, i < 8 → inK .u64 (F i)) (hk : chkV 23 A B 0 I = 0) : evCall cfc (n+70) 21 [.agg (regs R F pc).toArray, .agg #[.int .i64 23, .int .i64 A, .int .i64 B, .int .i64 0, .int .i64 I], .int .u64 ld] H = some (.ret (doneT (upd (upd (upd R 0 0) A.toNat (aluV 23 (upd R 0 0 B.toNat) (IntKind.wrap .u32 I))) 0 0) F (IntKind.wrap .u32 (pc + 4)) 0 0), H) := by
  rw [q21 (n+69) _ _ _ (regs_flat _ _ _) rfl rfl H]
  have ar := rg166 hA
  have br := rg166 hB
  have rng : (0 ≤ (23 : Int) ∧ (23 : Int) < 72) = True := by simp
  have szz : sizeV 23 = 0 := rfl
  have fv : formV 23 = 3 := rfl
  have nd : ∀ n H R, evCall cfc (n+12) 23 [.agg (regs R F pc).toArray, .agg #[.int .i64 23, .int .i64 A, .int .i64 B, .int .i64 0, .int .i64 I]] H = some (.ret (.agg #[.bool false, .int .u32 0, .int .i64 0, .int .u64 0]), H) := fun n H R => rneed_bad n H R F pc _ _ _ _ _ (Or.inl rfl)
  have hx : 0 ≤ (upd R 0 0 B.toNat) ∧ (upd R 0 0 B.toNat) < 4294967296 := updR_range hR _ (by omega)
  have hy : 0 ≤ (IntKind.wrap .u32 I) ∧ (IntKind.wrap .u32 I) < 4294967296 := wrap_u32_range I
  have e36 : ∀ n H, evCall cfc (n+50) 36 [.int .i64 23, .int .u32 (upd R 0 0 B.toNat), .int .u32 (IntKind.wrap .u32 I)] H = some (.ret (.tuple #[.int .u32 (aluV 23 (upd R 0 0 B.toNat) (IntKind.wrap .u32 I)), .int .i64 0]), H) := fun n H => v36_23 n H _ _ hx hy
  simp -implicitDefEqProofs only [s21, v27, v35, v16, rng, szz, fv, hk, doneT, needT, wrap_0, nd, e36, ar, br, tabs_gn, ↓EVdn, EVup, lp_succ, goInt, splice, okC, Fr.of, Fr.ofI, Fr.g, Nat.reduceAdd, Nat.reduceMul, Nat.reduceEqDiff, Nat.reduceLT, Nat.reduceLeDiff, Nat.reduceBEq, Int.reduceLT, Int.reduceLE, Int.reduceToNat, Int.reduceAdd, Int.reduceSub, Int.reduceMul, Int.reduceEq, Int.reduceNeg, ↓reduceIte, ↓reduceDIte, Nat.beq, reduceCtorEq, Value.int.injEq, Nat.reduceSub, flat_int, flat_bool, flat_t2w, flat_t2u, flat_bt, flat_done, regs_flat, flat_i5, flat_need, upd_upd, decide_true]
theorem rdone_24 (n : Nat) (H : Hp) (R F : Nat → Int) (pc A B I ld : Int) (hA : 0 ≤ A ∧ A < 16) (hB : 0 ≤ B ∧ B < 16) (hR : ∀ i, i < 16 → inK .u32 (R i)) (hF : ∀ i, i < 8 → inK .u64 (F i)) (hk : chkV 24 A B 0 I = 0) : evCall cfc (n+70) 21 [.agg (regs R F pc).toArray, .agg #[.int .i64 24, .int .i64 A, .int .i64 B, .int .i64 0, .int .i64 I], .int .u64 ld] H = some (.ret (doneT (upd (upd (upd R 0 0) A.toNat (aluV 24 (upd R 0 0 B.toNat) (IntKind.wrap .u32 I))) 0 0) F (IntKind.wrap .u32 (pc + 4)) 0 0), H) := by
  rw [q21 (n+69) _ _ _ (regs_flat _ _ _) rfl rfl H]
  have ar := rg166 hA
  have br := rg166 hB
  have rng : (0 ≤ (24 : Int) ∧ (24 : Int) < 72) = True := by simp
  have szz : sizeV 24 = 0 := rfl
  have fv : formV 24 = 3 := rfl
  have nd : ∀ n H R, evCall cfc (n+12) 23 [.agg (regs R F pc).toArray, .agg #[.int .i64 24, .int .i64 A, .int .i64 B, .int .i64 0, .int .i64 I]] H = some (.ret (.agg #[.bool false, .int .u32 0, .int .i64 0, .int .u64 0]), H) := fun n H R => rneed_bad n H R F pc _ _ _ _ _ (Or.inl rfl)
  have hx : 0 ≤ (upd R 0 0 B.toNat) ∧ (upd R 0 0 B.toNat) < 4294967296 := updR_range hR _ (by omega)
  have hy : 0 ≤ (IntKind.wrap .u32 I) ∧ (IntKind.wrap .u32 I) < 4294967296 := wrap_u32_range I
  have e36 : ∀ n H, evCall cfc (n+50) 36 [.int .i64 24, .int .u32 (upd R 0 0 B.toNat), .int .u32 (IntKind.wrap .u32 I)] H = some (.ret (.tuple #[.int .u32 (aluV 24 (upd R 0 0 B.toNat) (IntKind.wrap .u32 I)), .int .i64 0]), H) := fun n H => v36_24 n H _ _ hx hy
  simp -implicitDefEqProofs only [s21, v27, v35, v16, rng, szz, fv, hk, doneT, needT, wrap_0, nd, e36, ar, br, tabs_gn, ↓EVdn, EVup, lp_succ, goInt, splice, okC, Fr.of, Fr.ofI, Fr.g, Nat.reduceAdd, Nat.reduceMul, Nat.reduceEqDiff, Nat.reduceLT, Nat.reduceLeDiff, Nat.reduceBEq, Int.reduceLT, Int.reduceLE, Int.reduceToNat, Int.reduceAdd, Int.reduceSub, Int.reduceMul, Int.reduceEq, Int.reduceNeg, ↓reduceIte, ↓reduceDIte, Nat.beq, reduceCtorEq, Value.int.injEq, Nat.reduceSub, flat_int, flat_bool, flat_t2w, flat_t2u, flat_bt, flat_done, regs_flat, flat_i5, flat_need, upd_upd, decide_true]
theorem rdone_25 (n : Nat) (H : Hp) (R F : Nat → Int) (pc A B I ld : Int) (hA : 0 ≤ A ∧ A < 16) (hB : 0 ≤ B ∧ B < 16) (hR : ∀ i, i < 16 → inK .u32 (R i)) (hF : ∀ i, i < 8 → inK .u64 (F i)) (hk : chkV 25 A B 0 I = 0) : evCall cfc (n+70) 21 [.agg (regs R F pc).toArray, .agg #[.int .i64 25, .int .i64 A, .int .i64 B, .int .i64 0, .int .i64 I], .int .u64 ld] H = some (.ret (doneT (upd (upd (upd R 0 0) A.toNat (aluV 25 (upd R 0 0 B.toNat) (IntKind.wrap .u32 I))) 0 0) F (IntKind.wrap .u32 (pc + 4)) 0 0), H) := by
  rw [q21 (n+69) _ _ _ (regs_flat _ _ _) rfl rfl H]
  have ar := rg166 hA
  have br := rg166 hB
  have rng : (0 ≤ (25 : Int) ∧ (25 : Int) < 72) = True := by simp
  have szz : sizeV 25 = 0 := rfl
  have fv : formV 25 = 3 := rfl
  have nd : ∀ n H R, evCall cfc (n+12) 23 [.agg (regs R F pc).toArray, .agg #[.int .i64 25, .int .i64 A, .int .i64 B, .int .i64 0, .int .i64 I]] H = some (.ret (.agg #[.bool false, .int .u32 0, .int .i64 0, .int .u64 0]), H) := fun n H R => rneed_bad n H R F pc _ _ _ _ _ (Or.inl rfl)
  have hx : 0 ≤ (upd R 0 0 B.toNat) ∧ (upd R 0 0 B.toNat) < 4294967296 := updR_range hR _ (by omega)
  have hy : 0 ≤ (IntKind.wrap .u32 I) ∧ (IntKind.wrap .u32 I) < 4294967296 := wrap_u32_range I
  have e36 : ∀ n H, evCall cfc (n+50) 36 [.int .i64 25, .int .u32 (upd R 0 0 B.toNat), .int .u32 (IntKind.wrap .u32 I)] H = some (.ret (.tuple #[.int .u32 (aluV 25 (upd R 0 0 B.toNat) (IntKind.wrap .u32 I)), .int .i64 0]), H) := fun n H => v36_25 n H _ _ hx hy
  simp -implicitDefEqProofs only [s21, v27, v35, v16, rng, szz, fv, hk, doneT, needT, wrap_0, nd, e36, ar, br, tabs_gn, ↓EVdn, EVup, lp_succ, goInt, splice, okC, Fr.of, Fr.ofI, Fr.g, Nat.reduceAdd, Nat.reduceMul, Nat.reduceEqDiff, Nat.reduceLT, Nat.reduceLeDiff, Nat.reduceBEq, Int.reduceLT, Int.reduceLE, Int.reduceToNat, Int.reduceAdd, Int.reduceSub, Int.reduceMul, Int.reduceEq, Int.reduceNeg, ↓reduceIte, ↓reduceDIte, Nat.beq, reduceCtorEq, Value.int.injEq, Nat.reduceSub, flat_int, flat_bool, flat_t2w, flat_t2u, flat_bt, flat_done, regs_flat, flat_i5, flat_need, upd_upd, decide_true]
theorem rdone_26 (n : Nat) (H : Hp) (R F : Nat → Int) (pc A B I ld : Int) (hA : 0 ≤ A ∧ A < 16) (hB : 0 ≤ B ∧ B < 16) (hR : ∀ i, i < 16 → inK .u32 (R i)) (hF : ∀ i, i < 8 → inK .u64 (F i)) (hk : chkV 26 A B 0 I = 0) : evCall cfc (n+70) 21 [.agg (regs R F pc).toArray, .agg #[.int .i64 26, .int .i64 A, .int .i64 B, .int .i64 0, .int .i64 I], .int .u64 ld] H = some (.ret (doneT (upd (upd (upd R 0 0) A.toNat (aluV 26 (upd R 0 0 B.toNat) (IntKind.wrap .u32 I))) 0 0) F (IntKind.wrap .u32 (pc + 4)) 0 0), H) := by
  rw [q21 (n+69) _ _ _ (regs_flat _ _ _) rfl rfl H]
  have ar := rg166 hA
  have br := rg166 hB
  have rng : (0 ≤ (26 : Int) ∧ (26 : Int) < 72) = True := by simp
  have szz : sizeV 26 = 0 := rfl
  have fv : formV 26 = 3 := rfl
  have nd : ∀ n H R, evCall cfc (n+12) 23 [.agg (regs R F pc).toArray, .agg #[.int .i64 26, .int .i64 A, .int .i64 B, .int .i64 0, .int .i64 I]] H = some (.ret (.agg #[.bool false, .int .u32 0, .int .i64 0, .int .u64 0]), H) := fun n H R => rneed_bad n H R F pc _ _ _ _ _ (Or.inl rfl)
  have hx : 0 ≤ (upd R 0 0 B.toNat) ∧ (upd R 0 0 B.toNat) < 4294967296 := updR_range hR _ (by omega)
  have hy : 0 ≤ (IntKind.wrap .u32 I) ∧ (IntKind.wrap .u32 I) < 4294967296 := wrap_u32_range I
  have e36 : ∀ n H, evCall cfc (n+50) 36 [.int .i64 26, .int .u32 (upd R 0 0 B.toNat), .int .u32 (IntKind.wrap .u32 I)] H = some (.ret (.tuple #[.int .u32 (aluV 26 (upd R 0 0 B.toNat) (IntKind.wrap .u32 I)), .int .i64 0]), H) := fun n H => v36_26 n H _ _ hx hy
  simp -implicitDefEqProofs only [s21, v27, v35, v16, rng, szz, fv, hk, doneT, needT, wrap_0, nd, e36, ar, br, tabs_gn, ↓EVdn, EVup, lp_succ, goInt, splice, okC, Fr.of, Fr.ofI, Fr.g, Nat.reduceAdd, Nat.reduceMul, Nat.reduceEqDiff, Nat.reduceLT, Nat.reduceLeDiff, Nat.reduceBEq, Int.reduceLT, Int.reduceLE, Int.reduceToNat, Int.reduceAdd, Int.reduceSub, Int.reduceMul, Int.reduceEq, Int.reduceNeg, ↓reduceIte, ↓reduceDIte, Nat.beq, reduceCtorEq, Value.int.injEq, Nat.reduceSub, flat_int, flat_bool, flat_t2w, flat_t2u, flat_bt, flat_done, regs_flat, flat_i5, flat_need, upd_upd, decide_true]
theorem rdone_27 (n : Nat) (H : Hp) (R F : Nat → Int) (pc A I ld : Int) (hA : 0 ≤ A ∧ A < 16) (hR : ∀ i, i < 16 → inK .u32 (R i)) (hF : ∀ i, i < 8 → inK .u64 (F i)) (hk : chkV 27 A 0 0 I = 0) : evCall cfc (n+70) 21 [.agg (regs R F pc).toArray, .agg #[.int .i64 27, .int .i64 A, .int .i64 0, .int .i64 0, .int .i64 I], .int .u64 ld] H = some (.ret (doneT (upd (upd (upd R 0 0) A.toNat (aluV 27 0 (IntKind.wrap .u32 I))) 0 0) F (IntKind.wrap .u32 (pc + 4)) 0 0), H) := by
  rw [q21 (n+69) _ _ _ (regs_flat _ _ _) rfl rfl H]
  have ar := rg166 hA
  have rng : (0 ≤ (27 : Int) ∧ (27 : Int) < 72) = True := by simp
  have szz : sizeV 27 = 0 := rfl
  have fv : formV 27 = 4 := rfl
  have nd : ∀ n H R, evCall cfc (n+12) 23 [.agg (regs R F pc).toArray, .agg #[.int .i64 27, .int .i64 A, .int .i64 0, .int .i64 0, .int .i64 I]] H = some (.ret (.agg #[.bool false, .int .u32 0, .int .i64 0, .int .u64 0]), H) := fun n H R => rneed_bad n H R F pc _ _ _ _ _ (Or.inl rfl)
  have hx : 0 ≤ (0:Int) ∧ (0:Int) < 4294967296 := by omega
  have hy : 0 ≤ (IntKind.wrap .u32 I) ∧ (IntKind.wrap .u32 I) < 4294967296 := wrap_u32_range I
  have e00 : upd R 0 0 0 = 0 := by simp [upd]
  have e36 : ∀ n H, evCall cfc (n+50) 36 [.int .i64 27, .int .u32 (0), .int .u32 (IntKind.wrap .u32 I)] H = some (.ret (.tuple #[.int .u32 (aluV 27 (0) (IntKind.wrap .u32 I)), .int .i64 0]), H) := fun n H => v36_27 n H _ _ hx hy
  simp -implicitDefEqProofs only [s21, v27, v35, v16, rng, szz, fv, hk, doneT, needT, wrap_0, nd, e36, e00, ar, tabs_gn, ↓EVdn, EVup, lp_succ, goInt, splice, okC, Fr.of, Fr.ofI, Fr.g, Nat.reduceAdd, Nat.reduceMul, Nat.reduceEqDiff, Nat.reduceLT, Nat.reduceLeDiff, Nat.reduceBEq, Int.reduceLT, Int.reduceLE, Int.reduceToNat, Int.reduceAdd, Int.reduceSub, Int.reduceMul, Int.reduceEq, Int.reduceNeg, ↓reduceIte, ↓reduceDIte, Nat.beq, reduceCtorEq, Value.int.injEq, Nat.reduceSub, flat_int, flat_bool, flat_t2w, flat_t2u, flat_bt, flat_done, regs_flat, flat_i5, flat_need, upd_upd, decide_true]
theorem rdone_28 (n : Nat) (H : Hp) (R F : Nat → Int) (pc A B I ld : Int) (hA : 0 ≤ A ∧ A < 16) (hB : 0 ≤ B ∧ B < 16) (hR : ∀ i, i < 16 → inK .u32 (R i)) (hF : ∀ i, i < 8 → inK .u64 (F i)) (hk : chkV 28 A B 0 I = 0) : evCall cfc (n+70) 21 [.agg (regs R F pc).toArray, .agg #[.int .i64 28, .int .i64 A, .int .i64 B, .int .i64 0, .int .i64 I], .int .u64 ld] H = some (.ret (if (adV R B I).tmod 4 = 0 then doneT (upd (upd (upd R 0 0) A.toNat (IntKind.wrap .u32 ld)) 0 0) F (IntKind.wrap .u32 (pc + 4)) 0 0 else doneT (upd R 0 0) F pc 5 (adV R B I)), H) := by
  rw [q21 (n+69) _ _ _ (regs_flat _ _ _) rfl rfl H]
  have ar := rg166 hA
  have br := rg166 hB
  have rng : (0 ≤ (28 : Int) ∧ (28 : Int) < 72) = True := by simp
  have szz : sizeV 28 = 4 := rfl
  have fv : formV 28 = 5 := rfl
  have ea : adV (upd R 0 0) B I = adV R B I := by simp only [adV, upd_upd]
  have u4 : IntKind.wrap .u32 4 = 4 := by decide
  by_cases ht : (adV R B I).tmod 4 = 0
  all_goals simp -implicitDefEqProofs only [s21, v27, v35, v16, rng, szz, fv, hk, doneT, needT, wrap_0, rneed_28, v38_28, ht, ea, u4, ar, br, tabs_gn, ↓EVdn, EVup, lp_succ, goInt, splice, okC, Fr.of, Fr.ofI, Fr.g, Nat.reduceAdd, Nat.reduceMul, Nat.reduceEqDiff, Nat.reduceLT, Nat.reduceLeDiff, Nat.reduceBEq, Int.reduceLT, Int.reduceLE, Int.reduceToNat, Int.reduceAdd, Int.reduceSub, Int.reduceMul, Int.reduceEq, Int.reduceNeg, ↓reduceIte, ↓reduceDIte, Nat.beq, reduceCtorEq, Value.int.injEq, Nat.reduceSub, flat_int, flat_bool, flat_t2w, flat_t2u, flat_bt, flat_done, regs_flat, flat_i5, flat_need, upd_upd, decide_true]
theorem rdone_29 (n : Nat) (H : Hp) (R F : Nat → Int) (pc A B I ld : Int) (hA : 0 ≤ A ∧ A < 16) (hB : 0 ≤ B ∧ B < 16) (hR : ∀ i, i < 16 → inK .u32 (R i)) (hF : ∀ i, i < 8 → inK .u64 (F i)) (hk : chkV 29 A B 0 I = 0) : evCall cfc (n+70) 21 [.agg (regs R F pc).toArray, .agg #[.int .i64 29, .int .i64 A, .int .i64 B, .int .i64 0, .int .i64 I], .int .u64 ld] H = some (.ret (if (adV R B I).tmod 2 = 0 then doneT (upd (upd (upd R 0 0) A.toNat (IntKind.wrap .u32 (shrK .i32 (IntKind.wrap .i32 (shlK .u32 (IntKind.wrap .u32 ld) 16)) 16))) 0 0) F (IntKind.wrap .u32 (pc + 4)) 0 0 else doneT (upd R 0 0) F pc 5 (adV R B I)), H) := by
  rw [q21 (n+69) _ _ _ (regs_flat _ _ _) rfl rfl H]
  have ar := rg166 hA
  have br := rg166 hB
  have rng : (0 ≤ (29 : Int) ∧ (29 : Int) < 72) = True := by simp
  have szz : sizeV 29 = 2 := rfl
  have fv : formV 29 = 5 := rfl
  have ea : adV (upd R 0 0) B I = adV R B I := by simp only [adV, upd_upd]
  have u2 : IntKind.wrap .u32 2 = 2 := by decide
  by_cases ht : (adV R B I).tmod 2 = 0
  all_goals simp -implicitDefEqProofs only [s21, v27, v35, v16, rng, szz, fv, hk, doneT, needT, wrap_0, rneed_29, v38_29, ht, ea, u2, ar, br, tabs_gn, ↓EVdn, EVup, lp_succ, goInt, splice, okC, Fr.of, Fr.ofI, Fr.g, Nat.reduceAdd, Nat.reduceMul, Nat.reduceEqDiff, Nat.reduceLT, Nat.reduceLeDiff, Nat.reduceBEq, Int.reduceLT, Int.reduceLE, Int.reduceToNat, Int.reduceAdd, Int.reduceSub, Int.reduceMul, Int.reduceEq, Int.reduceNeg, ↓reduceIte, ↓reduceDIte, Nat.beq, reduceCtorEq, Value.int.injEq, Nat.reduceSub, flat_int, flat_bool, flat_t2w, flat_t2u, flat_bt, flat_done, regs_flat, flat_i5, flat_need, upd_upd, decide_true]
theorem rdone_30 (n : Nat) (H : Hp) (R F : Nat → Int) (pc A B I ld : Int) (hA : 0 ≤ A ∧ A < 16) (hB : 0 ≤ B ∧ B < 16) (hR : ∀ i, i < 16 → inK .u32 (R i)) (hF : ∀ i, i < 8 → inK .u64 (F i)) (hk : chkV 30 A B 0 I = 0) : evCall cfc (n+70) 21 [.agg (regs R F pc).toArray, .agg #[.int .i64 30, .int .i64 A, .int .i64 B, .int .i64 0, .int .i64 I], .int .u64 ld] H = some (.ret (if (adV R B I).tmod 2 = 0 then doneT (upd (upd (upd R 0 0) A.toNat (shrK .u32 (shlK .u32 (IntKind.wrap .u32 ld) 16) 16)) 0 0) F (IntKind.wrap .u32 (pc + 4)) 0 0 else doneT (upd R 0 0) F pc 5 (adV R B I)), H) := by
  rw [q21 (n+69) _ _ _ (regs_flat _ _ _) rfl rfl H]
  have ar := rg166 hA
  have br := rg166 hB
  have rng : (0 ≤ (30 : Int) ∧ (30 : Int) < 72) = True := by simp
  have szz : sizeV 30 = 2 := rfl
  have fv : formV 30 = 5 := rfl
  have ea : adV (upd R 0 0) B I = adV R B I := by simp only [adV, upd_upd]
  have u2 : IntKind.wrap .u32 2 = 2 := by decide
  by_cases ht : (adV R B I).tmod 2 = 0
  all_goals simp -implicitDefEqProofs only [s21, v27, v35, v16, rng, szz, fv, hk, doneT, needT, wrap_0, rneed_30, v38_30, ht, ea, u2, ar, br, tabs_gn, ↓EVdn, EVup, lp_succ, goInt, splice, okC, Fr.of, Fr.ofI, Fr.g, Nat.reduceAdd, Nat.reduceMul, Nat.reduceEqDiff, Nat.reduceLT, Nat.reduceLeDiff, Nat.reduceBEq, Int.reduceLT, Int.reduceLE, Int.reduceToNat, Int.reduceAdd, Int.reduceSub, Int.reduceMul, Int.reduceEq, Int.reduceNeg, ↓reduceIte, ↓reduceDIte, Nat.beq, reduceCtorEq, Value.int.injEq, Nat.reduceSub, flat_int, flat_bool, flat_t2w, flat_t2u, flat_bt, flat_done, regs_flat, flat_i5, flat_need, upd_upd, decide_true]
theorem rdone_31 (n : Nat) (H : Hp) (R F : Nat → Int) (pc A B I ld : Int) (hA : 0 ≤ A ∧ A < 16) (hB : 0 ≤ B ∧ B < 16) (hR : ∀ i, i < 16 → inK .u32 (R i)) (hF : ∀ i, i < 8 → inK .u64 (F i)) (hk : chkV 31 A B 0 I = 0) : evCall cfc (n+70) 21 [.agg (regs R F pc).toArray, .agg #[.int .i64 31, .int .i64 A, .int .i64 B, .int .i64 0, .int .i64 I], .int .u64 ld] H = some (.ret (if (adV R B I).tmod 1 = 0 then doneT (upd (upd (upd R 0 0) A.toNat (IntKind.wrap .u32 (shrK .i32 (IntKind.wrap .i32 (shlK .u32 (IntKind.wrap .u32 ld) 24)) 24))) 0 0) F (IntKind.wrap .u32 (pc + 4)) 0 0 else doneT (upd R 0 0) F pc 5 (adV R B I)), H) := by
  rw [q21 (n+69) _ _ _ (regs_flat _ _ _) rfl rfl H]
  have ar := rg166 hA
  have br := rg166 hB
  have rng : (0 ≤ (31 : Int) ∧ (31 : Int) < 72) = True := by simp
  have szz : sizeV 31 = 1 := rfl
  have fv : formV 31 = 5 := rfl
  have ea : adV (upd R 0 0) B I = adV R B I := by simp only [adV, upd_upd]
  have u1 : IntKind.wrap .u32 1 = 1 := by decide
  by_cases ht : (adV R B I).tmod 1 = 0
  all_goals simp -implicitDefEqProofs only [s21, v27, v35, v16, rng, szz, fv, hk, doneT, needT, wrap_0, rneed_31, v38_31, ht, ea, u1, ar, br, tabs_gn, ↓EVdn, EVup, lp_succ, goInt, splice, okC, Fr.of, Fr.ofI, Fr.g, Nat.reduceAdd, Nat.reduceMul, Nat.reduceEqDiff, Nat.reduceLT, Nat.reduceLeDiff, Nat.reduceBEq, Int.reduceLT, Int.reduceLE, Int.reduceToNat, Int.reduceAdd, Int.reduceSub, Int.reduceMul, Int.reduceEq, Int.reduceNeg, ↓reduceIte, ↓reduceDIte, Nat.beq, reduceCtorEq, Value.int.injEq, Nat.reduceSub, flat_int, flat_bool, flat_t2w, flat_t2u, flat_bt, flat_done, regs_flat, flat_i5, flat_need, upd_upd, decide_true]
theorem rdone_32 (n : Nat) (H : Hp) (R F : Nat → Int) (pc A B I ld : Int) (hA : 0 ≤ A ∧ A < 16) (hB : 0 ≤ B ∧ B < 16) (hR : ∀ i, i < 16 → inK .u32 (R i)) (hF : ∀ i, i < 8 → inK .u64 (F i)) (hk : chkV 32 A B 0 I = 0) : evCall cfc (n+70) 21 [.agg (regs R F pc).toArray, .agg #[.int .i64 32, .int .i64 A, .int .i64 B, .int .i64 0, .int .i64 I], .int .u64 ld] H = some (.ret (if (adV R B I).tmod 1 = 0 then doneT (upd (upd (upd R 0 0) A.toNat (shrK .u32 (shlK .u32 (IntKind.wrap .u32 ld) 24) 24)) 0 0) F (IntKind.wrap .u32 (pc + 4)) 0 0 else doneT (upd R 0 0) F pc 5 (adV R B I)), H) := by
  rw [q21 (n+69) _ _ _ (regs_flat _ _ _) rfl rfl H]
  have ar := rg166 hA
  have br := rg166 hB
  have rng : (0 ≤ (32 : Int) ∧ (32 : Int) < 72) = True := by simp
  have szz : sizeV 32 = 1 := rfl
  have fv : formV 32 = 5 := rfl
  have ea : adV (upd R 0 0) B I = adV R B I := by simp only [adV, upd_upd]
  have u1 : IntKind.wrap .u32 1 = 1 := by decide
  by_cases ht : (adV R B I).tmod 1 = 0
  all_goals simp -implicitDefEqProofs only [s21, v27, v35, v16, rng, szz, fv, hk, doneT, needT, wrap_0, rneed_32, v38_32, ht, ea, u1, ar, br, tabs_gn, ↓EVdn, EVup, lp_succ, goInt, splice, okC, Fr.of, Fr.ofI, Fr.g, Nat.reduceAdd, Nat.reduceMul, Nat.reduceEqDiff, Nat.reduceLT, Nat.reduceLeDiff, Nat.reduceBEq, Int.reduceLT, Int.reduceLE, Int.reduceToNat, Int.reduceAdd, Int.reduceSub, Int.reduceMul, Int.reduceEq, Int.reduceNeg, ↓reduceIte, ↓reduceDIte, Nat.beq, reduceCtorEq, Value.int.injEq, Nat.reduceSub, flat_int, flat_bool, flat_t2w, flat_t2u, flat_bt, flat_done, regs_flat, flat_i5, flat_need, upd_upd, decide_true]
theorem rdone_33 (n : Nat) (H : Hp) (R F : Nat → Int) (pc A B I ld : Int) (hA : 0 ≤ A ∧ A < 16) (hB : 0 ≤ B ∧ B < 16) (hR : ∀ i, i < 16 → inK .u32 (R i)) (hF : ∀ i, i < 8 → inK .u64 (F i)) (hk : chkV 33 A B 0 I = 0) : evCall cfc (n+70) 21 [.agg (regs R F pc).toArray, .agg #[.int .i64 33, .int .i64 A, .int .i64 B, .int .i64 0, .int .i64 I], .int .u64 ld] H = some (.ret (if (adV R B I).tmod 4 = 0 then doneT (upd R 0 0) F (IntKind.wrap .u32 (pc + 4)) 0 0 else doneT (upd R 0 0) F pc 5 (adV R B I)), H) := by
  rw [q21 (n+69) _ _ _ (regs_flat _ _ _) rfl rfl H]
  have ar := rg166 hA
  have br := rg166 hB
  have rng : (0 ≤ (33 : Int) ∧ (33 : Int) < 72) = True := by simp
  have szz : sizeV 33 = 4 := rfl
  have fv : formV 33 = 5 := rfl
  have ea : adV (upd R 0 0) B I = adV R B I := by simp only [adV, upd_upd]
  have u4 : IntKind.wrap .u32 4 = 4 := by decide
  by_cases ht : (adV R B I).tmod 4 = 0
  all_goals simp -implicitDefEqProofs only [s21, v27, v35, v16, rng, szz, fv, hk, doneT, needT, wrap_0, rneed_33,  ht, ea, u4, ar, br, tabs_gn, ↓EVdn, EVup, lp_succ, goInt, splice, okC, Fr.of, Fr.ofI, Fr.g, Nat.reduceAdd, Nat.reduceMul, Nat.reduceEqDiff, Nat.reduceLT, Nat.reduceLeDiff, Nat.reduceBEq, Int.reduceLT, Int.reduceLE, Int.reduceToNat, Int.reduceAdd, Int.reduceSub, Int.reduceMul, Int.reduceEq, Int.reduceNeg, ↓reduceIte, ↓reduceDIte, Nat.beq, reduceCtorEq, Value.int.injEq, Nat.reduceSub, flat_int, flat_bool, flat_t2w, flat_t2u, flat_bt, flat_done, regs_flat, flat_i5, flat_need, upd_upd, decide_true]
theorem rdone_34 (n : Nat) (H : Hp) (R F : Nat → Int) (pc A B I ld : Int) (hA : 0 ≤ A ∧ A < 16) (hB : 0 ≤ B ∧ B < 16) (hR : ∀ i, i < 16 → inK .u32 (R i)) (hF : ∀ i, i < 8 → inK .u64 (F i)) (hk : chkV 34 A B 0 I = 0) : evCall cfc (n+70) 21 [.agg (regs R F pc).toArray, .agg #[.int .i64 34, .int .i64 A, .int .i64 B, .int .i64 0, .int .i64 I], .int .u64 ld] H = some (.ret (if (adV R B I).tmod 2 = 0 then doneT (upd R 0 0) F (IntKind.wrap .u32 (pc + 4)) 0 0 else doneT (upd R 0 0) F pc 5 (adV R B I)), H) := by
  rw [q21 (n+69) _ _ _ (regs_flat _ _ _) rfl rfl H]
  have ar := rg166 hA
  have br := rg166 hB
  have rng : (0 ≤ (34 : Int) ∧ (34 : Int) < 72) = True := by simp
  have szz : sizeV 34 = 2 := rfl
  have fv : formV 34 = 5 := rfl
  have ea : adV (upd R 0 0) B I = adV R B I := by simp only [adV, upd_upd]
  have u2 : IntKind.wrap .u32 2 = 2 := by decide
  by_cases ht : (adV R B I).tmod 2 = 0
  all_goals simp -implicitDefEqProofs only [s21, v27, v35, v16, rng, szz, fv, hk, doneT, needT, wrap_0, rneed_34,  ht, ea, u2, ar, br, tabs_gn, ↓EVdn, EVup, lp_succ, goInt, splice, okC, Fr.of, Fr.ofI, Fr.g, Nat.reduceAdd, Nat.reduceMul, Nat.reduceEqDiff, Nat.reduceLT, Nat.reduceLeDiff, Nat.reduceBEq, Int.reduceLT, Int.reduceLE, Int.reduceToNat, Int.reduceAdd, Int.reduceSub, Int.reduceMul, Int.reduceEq, Int.reduceNeg, ↓reduceIte, ↓reduceDIte, Nat.beq, reduceCtorEq, Value.int.injEq, Nat.reduceSub, flat_int, flat_bool, flat_t2w, flat_t2u, flat_bt, flat_done, regs_flat, flat_i5, flat_need, upd_upd, decide_true]
theorem rdone_35 (n : Nat) (H : Hp) (R F : Nat → Int) (pc A B I ld : Int) (hA : 0 ≤ A ∧ A < 16) (hB : 0 ≤ B ∧ B < 16) (hR : ∀ i, i < 16 → inK .u32 (R i)) (hF : ∀ i, i < 8 → inK .u64 (F i)) (hk : chkV 35 A B 0 I = 0) : evCall cfc (n+70) 21 [.agg (regs R F pc).toArray, .agg #[.int .i64 35, .int .i64 A, .int .i64 B, .int .i64 0, .int .i64 I], .int .u64 ld] H = some (.ret (if (adV R B I).tmod 1 = 0 then doneT (upd R 0 0) F (IntKind.wrap .u32 (pc + 4)) 0 0 else doneT (upd R 0 0) F pc 5 (adV R B I)), H) := by
  rw [q21 (n+69) _ _ _ (regs_flat _ _ _) rfl rfl H]
  have ar := rg166 hA
  have br := rg166 hB
  have rng : (0 ≤ (35 : Int) ∧ (35 : Int) < 72) = True := by simp
  have szz : sizeV 35 = 1 := rfl
  have fv : formV 35 = 5 := rfl
  have ea : adV (upd R 0 0) B I = adV R B I := by simp only [adV, upd_upd]
  have u1 : IntKind.wrap .u32 1 = 1 := by decide
  by_cases ht : (adV R B I).tmod 1 = 0
  all_goals simp -implicitDefEqProofs only [s21, v27, v35, v16, rng, szz, fv, hk, doneT, needT, wrap_0, rneed_35,  ht, ea, u1, ar, br, tabs_gn, ↓EVdn, EVup, lp_succ, goInt, splice, okC, Fr.of, Fr.ofI, Fr.g, Nat.reduceAdd, Nat.reduceMul, Nat.reduceEqDiff, Nat.reduceLT, Nat.reduceLeDiff, Nat.reduceBEq, Int.reduceLT, Int.reduceLE, Int.reduceToNat, Int.reduceAdd, Int.reduceSub, Int.reduceMul, Int.reduceEq, Int.reduceNeg, ↓reduceIte, ↓reduceDIte, Nat.beq, reduceCtorEq, Value.int.injEq, Nat.reduceSub, flat_int, flat_bool, flat_t2w, flat_t2u, flat_bt, flat_done, regs_flat, flat_i5, flat_need, upd_upd, decide_true]
theorem rdone_36 (n : Nat) (H : Hp) (R F : Nat → Int) (pc A B I ld : Int) (hA : 0 ≤ A ∧ A < 8) (hB : 0 ≤ B ∧ B < 16) (hR : ∀ i, i < 16 → inK .u32 (R i)) (hF : ∀ i, i < 8 → inK .u64 (F i)) (hk : chkV 36 A B 0 I = 0) : evCall cfc (n+70) 21 [.agg (regs R F pc).toArray, .agg #[.int .i64 36, .int .i64 A, .int .i64 B, .int .i64 0, .int .i64 I], .int .u64 ld] H = some (.ret (if (adV R B I).tmod 8 = 0 then doneT (upd R 0 0) (upd F A.toNat ld) (IntKind.wrap .u32 (pc + 4)) 0 0 else doneT (upd R 0 0) F pc 5 (adV R B I)), H) := by
  rw [q21 (n+69) _ _ _ (regs_flat _ _ _) rfl rfl H]
  have ar := rg87 hA
  have br := rg166 hB
  have rng : (0 ≤ (36 : Int) ∧ (36 : Int) < 72) = True := by simp
  have szz : sizeV 36 = 8 := rfl
  have fv : formV 36 = 6 := rfl
  have ea : adV (upd R 0 0) B I = adV R B I := by simp only [adV, upd_upd]
  have u8 : IntKind.wrap .u32 8 = 8 := by decide
  by_cases ht : (adV R B I).tmod 8 = 0
  all_goals simp -implicitDefEqProofs only [s21, v27, v35, v16, rng, szz, fv, hk, doneT, needT, wrap_0, rneed_36,  ht, ea, u8, ar, br, tabs_gn, ↓EVdn, EVup, lp_succ, goInt, splice, okC, Fr.of, Fr.ofI, Fr.g, Nat.reduceAdd, Nat.reduceMul, Nat.reduceEqDiff, Nat.reduceLT, Nat.reduceLeDiff, Nat.reduceBEq, Int.reduceLT, Int.reduceLE, Int.reduceToNat, Int.reduceAdd, Int.reduceSub, Int.reduceMul, Int.reduceEq, Int.reduceNeg, ↓reduceIte, ↓reduceDIte, Nat.beq, reduceCtorEq, Value.int.injEq, Nat.reduceSub, flat_int, flat_bool, flat_t2w, flat_t2u, flat_bt, flat_done, regs_flat, flat_i5, flat_need, upd_upd, decide_true]
theorem rdone_37 (n : Nat) (H : Hp) (R F : Nat → Int) (pc A B I ld : Int) (hA : 0 ≤ A ∧ A < 8) (hB : 0 ≤ B ∧ B < 16) (hR : ∀ i, i < 16 → inK .u32 (R i)) (hF : ∀ i, i < 8 → inK .u64 (F i)) (hk : chkV 37 A B 0 I = 0) : evCall cfc (n+70) 21 [.agg (regs R F pc).toArray, .agg #[.int .i64 37, .int .i64 A, .int .i64 B, .int .i64 0, .int .i64 I], .int .u64 ld] H = some (.ret (if (adV R B I).tmod 8 = 0 then doneT (upd R 0 0) F (IntKind.wrap .u32 (pc + 4)) 0 0 else doneT (upd R 0 0) F pc 5 (adV R B I)), H) := by
  rw [q21 (n+69) _ _ _ (regs_flat _ _ _) rfl rfl H]
  have ar := rg87 hA
  have br := rg166 hB
  have rng : (0 ≤ (37 : Int) ∧ (37 : Int) < 72) = True := by simp
  have szz : sizeV 37 = 8 := rfl
  have fv : formV 37 = 6 := rfl
  have ea : adV (upd R 0 0) B I = adV R B I := by simp only [adV, upd_upd]
  have u8 : IntKind.wrap .u32 8 = 8 := by decide
  by_cases ht : (adV R B I).tmod 8 = 0
  all_goals simp -implicitDefEqProofs only [s21, v27, v35, v16, rng, szz, fv, hk, doneT, needT, wrap_0, rneed_37,  ht, ea, u8, ar, br, tabs_gn, ↓EVdn, EVup, lp_succ, goInt, splice, okC, Fr.of, Fr.ofI, Fr.g, Nat.reduceAdd, Nat.reduceMul, Nat.reduceEqDiff, Nat.reduceLT, Nat.reduceLeDiff, Nat.reduceBEq, Int.reduceLT, Int.reduceLE, Int.reduceToNat, Int.reduceAdd, Int.reduceSub, Int.reduceMul, Int.reduceEq, Int.reduceNeg, ↓reduceIte, ↓reduceDIte, Nat.beq, reduceCtorEq, Value.int.injEq, Nat.reduceSub, flat_int, flat_bool, flat_t2w, flat_t2u, flat_bt, flat_done, regs_flat, flat_i5, flat_need, upd_upd, decide_true]
theorem rdone_38 (n : Nat) (H : Hp) (R F : Nat → Int) (pc A B I ld : Int) (hA : 0 ≤ A ∧ A < 16) (hB : 0 ≤ B ∧ B < 16) (hR : ∀ i, i < 16 → inK .u32 (R i)) (hF : ∀ i, i < 8 → inK .u64 (F i)) (hk : chkV 38 A B 0 I = 0) : evCall cfc (n+70) 21 [.agg (regs R F pc).toArray, .agg #[.int .i64 38, .int .i64 A, .int .i64 B, .int .i64 0, .int .i64 I], .int .u64 ld] H = some (.ret (if upd R 0 0 A.toNat = upd R 0 0 B.toNat then (if (toV pc I).tmod 4 = 0 then doneT (upd R 0 0) F (toV pc I) 0 0 else doneT (upd R 0 0) F pc 5 (toV pc I)) else doneT (upd R 0 0) F (IntKind.wrap .u32 (pc + 4)) 0 0), H) := by
  rw [q21 (n+69) _ _ _ (regs_flat _ _ _) rfl rfl H]
  have ar := rg166 hA
  have br := rg166 hB
  have rng : (0 ≤ (38 : Int) ∧ (38 : Int) < 72) = True := by simp
  have szz : sizeV 38 = 0 := rfl
  have fv : formV 38 = 7 := rfl
  have nd : ∀ n H R, evCall cfc (n+12) 23 [.agg (regs R F pc).toArray, .agg #[.int .i64 38, .int .i64 A, .int .i64 B, .int .i64 0, .int .i64 I]] H = some (.ret (.agg #[.bool false, .int .u32 0, .int .i64 0, .int .u64 0]), H) := fun n H R => rneed_bad n H R F pc _ _ _ _ _ (Or.inl rfl)
  have hx : (0 ≤ upd R 0 0 A.toNat ∧ upd R 0 0 A.toNat < 4294967296) = True := eq_true (updR_range hR _ (by omega))
  have hy : (0 ≤ upd R 0 0 B.toNat ∧ upd R 0 0 B.toNat < 4294967296) = True := eq_true (updR_range hR _ (by omega))
  have et : IntKind.wrap .u32 (pc + IntKind.wrap .u32 (4 * IntKind.wrap .u32 I)) = toV pc I := rfl
  have e39 := fun n H => v39_38 n H _ _ hx hy
  rcases Classical.propComplete (upd R 0 0 A.toNat = upd R 0 0 B.toNat) with hc | hc
  · by_cases ht : (toV pc I).tmod 4 = 0
    all_goals simp -implicitDefEqProofs only [s21, v27, v35, v16, rng, szz, fv, hk, doneT, needT, wrap_0, nd, e39, hc, v37_n, v37_b, et, ht, ar, br, tabs_gn, ↓EVdn, EVup, lp_succ, goInt, splice, okC, Fr.of, Fr.ofI, Fr.g, Nat.reduceAdd, Nat.reduceMul, Nat.reduceEqDiff, Nat.reduceLT, Nat.reduceLeDiff, Nat.reduceBEq, Int.reduceLT, Int.reduceLE, Int.reduceToNat, Int.reduceAdd, Int.reduceSub, Int.reduceMul, Int.reduceEq, Int.reduceNeg, ↓reduceIte, ↓reduceDIte, Nat.beq, reduceCtorEq, Value.int.injEq, Nat.reduceSub, flat_int, flat_bool, flat_t2w, flat_t2u, flat_bt, flat_done, regs_flat, flat_i5, flat_need, upd_upd, decide_true]
  · simp -implicitDefEqProofs only [s21, v27, v35, v16, rng, szz, fv, hk, doneT, needT, wrap_0, nd, e39, hc, et, ar, br, tabs_gn, ↓EVdn, EVup, lp_succ, goInt, splice, okC, Fr.of, Fr.ofI, Fr.g, Nat.reduceAdd, Nat.reduceMul, Nat.reduceEqDiff, Nat.reduceLT, Nat.reduceLeDiff, Nat.reduceBEq, Int.reduceLT, Int.reduceLE, Int.reduceToNat, Int.reduceAdd, Int.reduceSub, Int.reduceMul, Int.reduceEq, Int.reduceNeg, ↓reduceIte, ↓reduceDIte, Nat.beq, reduceCtorEq, Value.int.injEq, Nat.reduceSub, flat_int, flat_bool, flat_t2w, flat_t2u, flat_bt, flat_done, regs_flat, flat_i5, flat_need, upd_upd, decide_true]
theorem rdone_39 (n : Nat) (H : Hp) (R F : Nat → Int) (pc A B I ld : Int) (hA : 0 ≤ A ∧ A < 16) (hB : 0 ≤ B ∧ B < 16) (hR : ∀ i, i < 16 → inK .u32 (R i)) (hF : ∀ i, i < 8 → inK .u64 (F i)) (hk : chkV 39 A B 0 I = 0) : evCall cfc (n+70) 21 [.agg (regs R F pc).toArray, .agg #[.int .i64 39, .int .i64 A, .int .i64 B, .int .i64 0, .int .i64 I], .int .u64 ld] H = some (.ret (if ¬ upd R 0 0 A.toNat = upd R 0 0 B.toNat then (if (toV pc I).tmod 4 = 0 then doneT (upd R 0 0) F (toV pc I) 0 0 else doneT (upd R 0 0) F pc 5 (toV pc I)) else doneT (upd R 0 0) F (IntKind.wrap .u32 (pc + 4)) 0 0), H) := by
  rw [q21 (n+69) _ _ _ (regs_flat _ _ _) rfl rfl H]
  have ar := rg166 hA
  have br := rg166 hB
  have rng : (0 ≤ (39 : Int) ∧ (39 : Int) < 72) = True := by simp
  have szz : sizeV 39 = 0 := rfl
  have fv : formV 39 = 7 := rfl
  have nd : ∀ n H R, evCall cfc (n+12) 23 [.agg (regs R F pc).toArray, .agg #[.int .i64 39, .int .i64 A, .int .i64 B, .int .i64 0, .int .i64 I]] H = some (.ret (.agg #[.bool false, .int .u32 0, .int .i64 0, .int .u64 0]), H) := fun n H R => rneed_bad n H R F pc _ _ _ _ _ (Or.inl rfl)
  have hx : (0 ≤ upd R 0 0 A.toNat ∧ upd R 0 0 A.toNat < 4294967296) = True := eq_true (updR_range hR _ (by omega))
  have hy : (0 ≤ upd R 0 0 B.toNat ∧ upd R 0 0 B.toNat < 4294967296) = True := eq_true (updR_range hR _ (by omega))
  have et : IntKind.wrap .u32 (pc + IntKind.wrap .u32 (4 * IntKind.wrap .u32 I)) = toV pc I := rfl
  have e39 := fun n H => v39_39 n H _ _ hx hy
  rcases Classical.propComplete (¬ upd R 0 0 A.toNat = upd R 0 0 B.toNat) with hc | hc
  · by_cases ht : (toV pc I).tmod 4 = 0
    all_goals simp -implicitDefEqProofs only [s21, v27, v35, v16, rng, szz, fv, hk, doneT, needT, wrap_0, nd, e39, hc, v37_n, v37_b, et, ht, ar, br, tabs_gn, ↓EVdn, EVup, lp_succ, goInt, splice, okC, Fr.of, Fr.ofI, Fr.g, Nat.reduceAdd, Nat.reduceMul, Nat.reduceEqDiff, Nat.reduceLT, Nat.reduceLeDiff, Nat.reduceBEq, Int.reduceLT, Int.reduceLE, Int.reduceToNat, Int.reduceAdd, Int.reduceSub, Int.reduceMul, Int.reduceEq, Int.reduceNeg, ↓reduceIte, ↓reduceDIte, Nat.beq, reduceCtorEq, Value.int.injEq, Nat.reduceSub, flat_int, flat_bool, flat_t2w, flat_t2u, flat_bt, flat_done, regs_flat, flat_i5, flat_need, upd_upd, decide_true]
  · simp -implicitDefEqProofs only [s21, v27, v35, v16, rng, szz, fv, hk, doneT, needT, wrap_0, nd, e39, hc, et, ar, br, tabs_gn, ↓EVdn, EVup, lp_succ, goInt, splice, okC, Fr.of, Fr.ofI, Fr.g, Nat.reduceAdd, Nat.reduceMul, Nat.reduceEqDiff, Nat.reduceLT, Nat.reduceLeDiff, Nat.reduceBEq, Int.reduceLT, Int.reduceLE, Int.reduceToNat, Int.reduceAdd, Int.reduceSub, Int.reduceMul, Int.reduceEq, Int.reduceNeg, ↓reduceIte, ↓reduceDIte, Nat.beq, reduceCtorEq, Value.int.injEq, Nat.reduceSub, flat_int, flat_bool, flat_t2w, flat_t2u, flat_bt, flat_done, regs_flat, flat_i5, flat_need, upd_upd, decide_true]
theorem rdone_40 (n : Nat) (H : Hp) (R F : Nat → Int) (pc A B I ld : Int) (hA : 0 ≤ A ∧ A < 16) (hB : 0 ≤ B ∧ B < 16) (hR : ∀ i, i < 16 → inK .u32 (R i)) (hF : ∀ i, i < 8 → inK .u64 (F i)) (hk : chkV 40 A B 0 I = 0) : evCall cfc (n+70) 21 [.agg (regs R F pc).toArray, .agg #[.int .i64 40, .int .i64 A, .int .i64 B, .int .i64 0, .int .i64 I], .int .u64 ld] H = some (.ret (if IntKind.wrap .i32 (upd R 0 0 A.toNat) < IntKind.wrap .i32 (upd R 0 0 B.toNat) then (if (toV pc I).tmod 4 = 0 then doneT (upd R 0 0) F (toV pc I) 0 0 else doneT (upd R 0 0) F pc 5 (toV pc I)) else doneT (upd R 0 0) F (IntKind.wrap .u32 (pc + 4)) 0 0), H) := by
  rw [q21 (n+69) _ _ _ (regs_flat _ _ _) rfl rfl H]
  have ar := rg166 hA
  have br := rg166 hB
  have rng : (0 ≤ (40 : Int) ∧ (40 : Int) < 72) = True := by simp
  have szz : sizeV 40 = 0 := rfl
  have fv : formV 40 = 7 := rfl
  have nd : ∀ n H R, evCall cfc (n+12) 23 [.agg (regs R F pc).toArray, .agg #[.int .i64 40, .int .i64 A, .int .i64 B, .int .i64 0, .int .i64 I]] H = some (.ret (.agg #[.bool false, .int .u32 0, .int .i64 0, .int .u64 0]), H) := fun n H R => rneed_bad n H R F pc _ _ _ _ _ (Or.inl rfl)
  have hx : (0 ≤ upd R 0 0 A.toNat ∧ upd R 0 0 A.toNat < 4294967296) = True := eq_true (updR_range hR _ (by omega))
  have hy : (0 ≤ upd R 0 0 B.toNat ∧ upd R 0 0 B.toNat < 4294967296) = True := eq_true (updR_range hR _ (by omega))
  have et : IntKind.wrap .u32 (pc + IntKind.wrap .u32 (4 * IntKind.wrap .u32 I)) = toV pc I := rfl
  have e39 := fun n H => v39_40 n H _ _ hx hy
  rcases Classical.propComplete (IntKind.wrap .i32 (upd R 0 0 A.toNat) < IntKind.wrap .i32 (upd R 0 0 B.toNat)) with hc | hc
  · by_cases ht : (toV pc I).tmod 4 = 0
    all_goals simp -implicitDefEqProofs only [s21, v27, v35, v16, rng, szz, fv, hk, doneT, needT, wrap_0, nd, e39, hc, v37_n, v37_b, et, ht, ar, br, tabs_gn, ↓EVdn, EVup, lp_succ, goInt, splice, okC, Fr.of, Fr.ofI, Fr.g, Nat.reduceAdd, Nat.reduceMul, Nat.reduceEqDiff, Nat.reduceLT, Nat.reduceLeDiff, Nat.reduceBEq, Int.reduceLT, Int.reduceLE, Int.reduceToNat, Int.reduceAdd, Int.reduceSub, Int.reduceMul, Int.reduceEq, Int.reduceNeg, ↓reduceIte, ↓reduceDIte, Nat.beq, reduceCtorEq, Value.int.injEq, Nat.reduceSub, flat_int, flat_bool, flat_t2w, flat_t2u, flat_bt, flat_done, regs_flat, flat_i5, flat_need, upd_upd, decide_true]
  · simp -implicitDefEqProofs only [s21, v27, v35, v16, rng, szz, fv, hk, doneT, needT, wrap_0, nd, e39, hc, et, ar, br, tabs_gn, ↓EVdn, EVup, lp_succ, goInt, splice, okC, Fr.of, Fr.ofI, Fr.g, Nat.reduceAdd, Nat.reduceMul, Nat.reduceEqDiff, Nat.reduceLT, Nat.reduceLeDiff, Nat.reduceBEq, Int.reduceLT, Int.reduceLE, Int.reduceToNat, Int.reduceAdd, Int.reduceSub, Int.reduceMul, Int.reduceEq, Int.reduceNeg, ↓reduceIte, ↓reduceDIte, Nat.beq, reduceCtorEq, Value.int.injEq, Nat.reduceSub, flat_int, flat_bool, flat_t2w, flat_t2u, flat_bt, flat_done, regs_flat, flat_i5, flat_need, upd_upd, decide_true]
theorem rdone_41 (n : Nat) (H : Hp) (R F : Nat → Int) (pc A B I ld : Int) (hA : 0 ≤ A ∧ A < 16) (hB : 0 ≤ B ∧ B < 16) (hR : ∀ i, i < 16 → inK .u32 (R i)) (hF : ∀ i, i < 8 → inK .u64 (F i)) (hk : chkV 41 A B 0 I = 0) : evCall cfc (n+70) 21 [.agg (regs R F pc).toArray, .agg #[.int .i64 41, .int .i64 A, .int .i64 B, .int .i64 0, .int .i64 I], .int .u64 ld] H = some (.ret (if IntKind.wrap .i32 (upd R 0 0 B.toNat) ≤ IntKind.wrap .i32 (upd R 0 0 A.toNat) then (if (toV pc I).tmod 4 = 0 then doneT (upd R 0 0) F (toV pc I) 0 0 else doneT (upd R 0 0) F pc 5 (toV pc I)) else doneT (upd R 0 0) F (IntKind.wrap .u32 (pc + 4)) 0 0), H) := by
  rw [q21 (n+69) _ _ _ (regs_flat _ _ _) rfl rfl H]
  have ar := rg166 hA
  have br := rg166 hB
  have rng : (0 ≤ (41 : Int) ∧ (41 : Int) < 72) = True := by simp
  have szz : sizeV 41 = 0 := rfl
  have fv : formV 41 = 7 := rfl
  have nd : ∀ n H R, evCall cfc (n+12) 23 [.agg (regs R F pc).toArray, .agg #[.int .i64 41, .int .i64 A, .int .i64 B, .int .i64 0, .int .i64 I]] H = some (.ret (.agg #[.bool false, .int .u32 0, .int .i64 0, .int .u64 0]), H) := fun n H R => rneed_bad n H R F pc _ _ _ _ _ (Or.inl rfl)
  have hx : (0 ≤ upd R 0 0 A.toNat ∧ upd R 0 0 A.toNat < 4294967296) = True := eq_true (updR_range hR _ (by omega))
  have hy : (0 ≤ upd R 0 0 B.toNat ∧ upd R 0 0 B.toNat < 4294967296) = True := eq_true (updR_range hR _ (by omega))
  have et : IntKind.wrap .u32 (pc + IntKind.wrap .u32 (4 * IntKind.wrap .u32 I)) = toV pc I := rfl
  have e39 := fun n H => v39_41 n H _ _ hx hy
  rcases Classical.propComplete (IntKind.wrap .i32 (upd R 0 0 B.toNat) ≤ IntKind.wrap .i32 (upd R 0 0 A.toNat)) with hc | hc
  · by_cases ht : (toV pc I).tmod 4 = 0
    all_goals simp -implicitDefEqProofs only [s21, v27, v35, v16, rng, szz, fv, hk, doneT, needT, wrap_0, nd, e39, hc, v37_n, v37_b, et, ht, ar, br, tabs_gn, ↓EVdn, EVup, lp_succ, goInt, splice, okC, Fr.of, Fr.ofI, Fr.g, Nat.reduceAdd, Nat.reduceMul, Nat.reduceEqDiff, Nat.reduceLT, Nat.reduceLeDiff, Nat.reduceBEq, Int.reduceLT, Int.reduceLE, Int.reduceToNat, Int.reduceAdd, Int.reduceSub, Int.reduceMul, Int.reduceEq, Int.reduceNeg, ↓reduceIte, ↓reduceDIte, Nat.beq, reduceCtorEq, Value.int.injEq, Nat.reduceSub, flat_int, flat_bool, flat_t2w, flat_t2u, flat_bt, flat_done, regs_flat, flat_i5, flat_need, upd_upd, decide_true]
  · simp -implicitDefEqProofs only [s21, v27, v35, v16, rng, szz, fv, hk, doneT, needT, wrap_0, nd, e39, hc, et, ar, br, tabs_gn, ↓EVdn, EVup, lp_succ, goInt, splice, okC, Fr.of, Fr.ofI, Fr.g, Nat.reduceAdd, Nat.reduceMul, Nat.reduceEqDiff, Nat.reduceLT, Nat.reduceLeDiff, Nat.reduceBEq, Int.reduceLT, Int.reduceLE, Int.reduceToNat, Int.reduceAdd, Int.reduceSub, Int.reduceMul, Int.reduceEq, Int.reduceNeg, ↓reduceIte, ↓reduceDIte, Nat.beq, reduceCtorEq, Value.int.injEq, Nat.reduceSub, flat_int, flat_bool, flat_t2w, flat_t2u, flat_bt, flat_done, regs_flat, flat_i5, flat_need, upd_upd, decide_true]
theorem rdone_42 (n : Nat) (H : Hp) (R F : Nat → Int) (pc A B I ld : Int) (hA : 0 ≤ A ∧ A < 16) (hB : 0 ≤ B ∧ B < 16) (hR : ∀ i, i < 16 → inK .u32 (R i)) (hF : ∀ i, i < 8 → inK .u64 (F i)) (hk : chkV 42 A B 0 I = 0) : evCall cfc (n+70) 21 [.agg (regs R F pc).toArray, .agg #[.int .i64 42, .int .i64 A, .int .i64 B, .int .i64 0, .int .i64 I], .int .u64 ld] H = some (.ret (if upd R 0 0 A.toNat < upd R 0 0 B.toNat then (if (toV pc I).tmod 4 = 0 then doneT (upd R 0 0) F (toV pc I) 0 0 else doneT (upd R 0 0) F pc 5 (toV pc I)) else doneT (upd R 0 0) F (IntKind.wrap .u32 (pc + 4)) 0 0), H) := by
  rw [q21 (n+69) _ _ _ (regs_flat _ _ _) rfl rfl H]
  have ar := rg166 hA
  have br := rg166 hB
  have rng : (0 ≤ (42 : Int) ∧ (42 : Int) < 72) = True := by simp
  have szz : sizeV 42 = 0 := rfl
  have fv : formV 42 = 7 := rfl
  have nd : ∀ n H R, evCall cfc (n+12) 23 [.agg (regs R F pc).toArray, .agg #[.int .i64 42, .int .i64 A, .int .i64 B, .int .i64 0, .int .i64 I]] H = some (.ret (.agg #[.bool false, .int .u32 0, .int .i64 0, .int .u64 0]), H) := fun n H R => rneed_bad n H R F pc _ _ _ _ _ (Or.inl rfl)
  have hx : (0 ≤ upd R 0 0 A.toNat ∧ upd R 0 0 A.toNat < 4294967296) = True := eq_true (updR_range hR _ (by omega))
  have hy : (0 ≤ upd R 0 0 B.toNat ∧ upd R 0 0 B.toNat < 4294967296) = True := eq_true (updR_range hR _ (by omega))
  have et : IntKind.wrap .u32 (pc + IntKind.wrap .u32 (4 * IntKind.wrap .u32 I)) = toV pc I := rfl
  have e39 := fun n H => v39_42 n H _ _ hx hy
  rcases Classical.propComplete (upd R 0 0 A.toNat < upd R 0 0 B.toNat) with hc | hc
  · by_cases ht : (toV pc I).tmod 4 = 0
    all_goals simp -implicitDefEqProofs only [s21, v27, v35, v16, rng, szz, fv, hk, doneT, needT, wrap_0, nd, e39, hc, v37_n, v37_b, et, ht, ar, br, tabs_gn, ↓EVdn, EVup, lp_succ, goInt, splice, okC, Fr.of, Fr.ofI, Fr.g, Nat.reduceAdd, Nat.reduceMul, Nat.reduceEqDiff, Nat.reduceLT, Nat.reduceLeDiff, Nat.reduceBEq, Int.reduceLT, Int.reduceLE, Int.reduceToNat, Int.reduceAdd, Int.reduceSub, Int.reduceMul, Int.reduceEq, Int.reduceNeg, ↓reduceIte, ↓reduceDIte, Nat.beq, reduceCtorEq, Value.int.injEq, Nat.reduceSub, flat_int, flat_bool, flat_t2w, flat_t2u, flat_bt, flat_done, regs_flat, flat_i5, flat_need, upd_upd, decide_true]
  · simp -implicitDefEqProofs only [s21, v27, v35, v16, rng, szz, fv, hk, doneT, needT, wrap_0, nd, e39, hc, et, ar, br, tabs_gn, ↓EVdn, EVup, lp_succ, goInt, splice, okC, Fr.of, Fr.ofI, Fr.g, Nat.reduceAdd, Nat.reduceMul, Nat.reduceEqDiff, Nat.reduceLT, Nat.reduceLeDiff, Nat.reduceBEq, Int.reduceLT, Int.reduceLE, Int.reduceToNat, Int.reduceAdd, Int.reduceSub, Int.reduceMul, Int.reduceEq, Int.reduceNeg, ↓reduceIte, ↓reduceDIte, Nat.beq, reduceCtorEq, Value.int.injEq, Nat.reduceSub, flat_int, flat_bool, flat_t2w, flat_t2u, flat_bt, flat_done, regs_flat, flat_i5, flat_need, upd_upd, decide_true]
theorem rdone_43 (n : Nat) (H : Hp) (R F : Nat → Int) (pc A B I ld : Int) (hA : 0 ≤ A ∧ A < 16) (hB : 0 ≤ B ∧ B < 16) (hR : ∀ i, i < 16 → inK .u32 (R i)) (hF : ∀ i, i < 8 → inK .u64 (F i)) (hk : chkV 43 A B 0 I = 0) : evCall cfc (n+70) 21 [.agg (regs R F pc).toArray, .agg #[.int .i64 43, .int .i64 A, .int .i64 B, .int .i64 0, .int .i64 I], .int .u64 ld] H = some (.ret (if upd R 0 0 B.toNat ≤ upd R 0 0 A.toNat then (if (toV pc I).tmod 4 = 0 then doneT (upd R 0 0) F (toV pc I) 0 0 else doneT (upd R 0 0) F pc 5 (toV pc I)) else doneT (upd R 0 0) F (IntKind.wrap .u32 (pc + 4)) 0 0), H) := by
  rw [q21 (n+69) _ _ _ (regs_flat _ _ _) rfl rfl H]
  have ar := rg166 hA
  have br := rg166 hB
  have rng : (0 ≤ (43 : Int) ∧ (43 : Int) < 72) = True := by simp
  have szz : sizeV 43 = 0 := rfl
  have fv : formV 43 = 7 := rfl
  have nd : ∀ n H R, evCall cfc (n+12) 23 [.agg (regs R F pc).toArray, .agg #[.int .i64 43, .int .i64 A, .int .i64 B, .int .i64 0, .int .i64 I]] H = some (.ret (.agg #[.bool false, .int .u32 0, .int .i64 0, .int .u64 0]), H) := fun n H R => rneed_bad n H R F pc _ _ _ _ _ (Or.inl rfl)
  have hx : (0 ≤ upd R 0 0 A.toNat ∧ upd R 0 0 A.toNat < 4294967296) = True := eq_true (updR_range hR _ (by omega))
  have hy : (0 ≤ upd R 0 0 B.toNat ∧ upd R 0 0 B.toNat < 4294967296) = True := eq_true (updR_range hR _ (by omega))
  have et : IntKind.wrap .u32 (pc + IntKind.wrap .u32 (4 * IntKind.wrap .u32 I)) = toV pc I := rfl
  have e39 := fun n H => v39_43 n H _ _ hx hy
  rcases Classical.propComplete (upd R 0 0 B.toNat ≤ upd R 0 0 A.toNat) with hc | hc
  · by_cases ht : (toV pc I).tmod 4 = 0
    all_goals simp -implicitDefEqProofs only [s21, v27, v35, v16, rng, szz, fv, hk, doneT, needT, wrap_0, nd, e39, hc, v37_n, v37_b, et, ht, ar, br, tabs_gn, ↓EVdn, EVup, lp_succ, goInt, splice, okC, Fr.of, Fr.ofI, Fr.g, Nat.reduceAdd, Nat.reduceMul, Nat.reduceEqDiff, Nat.reduceLT, Nat.reduceLeDiff, Nat.reduceBEq, Int.reduceLT, Int.reduceLE, Int.reduceToNat, Int.reduceAdd, Int.reduceSub, Int.reduceMul, Int.reduceEq, Int.reduceNeg, ↓reduceIte, ↓reduceDIte, Nat.beq, reduceCtorEq, Value.int.injEq, Nat.reduceSub, flat_int, flat_bool, flat_t2w, flat_t2u, flat_bt, flat_done, regs_flat, flat_i5, flat_need, upd_upd, decide_true]
  · simp -implicitDefEqProofs only [s21, v27, v35, v16, rng, szz, fv, hk, doneT, needT, wrap_0, nd, e39, hc, et, ar, br, tabs_gn, ↓EVdn, EVup, lp_succ, goInt, splice, okC, Fr.of, Fr.ofI, Fr.g, Nat.reduceAdd, Nat.reduceMul, Nat.reduceEqDiff, Nat.reduceLT, Nat.reduceLeDiff, Nat.reduceBEq, Int.reduceLT, Int.reduceLE, Int.reduceToNat, Int.reduceAdd, Int.reduceSub, Int.reduceMul, Int.reduceEq, Int.reduceNeg, ↓reduceIte, ↓reduceDIte, Nat.beq, reduceCtorEq, Value.int.injEq, Nat.reduceSub, flat_int, flat_bool, flat_t2w, flat_t2u, flat_bt, flat_done, regs_flat, flat_i5, flat_need, upd_upd, decide_true]
theorem rdone_44 (n : Nat) (H : Hp) (R F : Nat → Int) (pc A I ld : Int) (hA : 0 ≤ A ∧ A < 16) (hR : ∀ i, i < 16 → inK .u32 (R i)) (hF : ∀ i, i < 8 → inK .u64 (F i)) (hk : chkV 44 A 0 0 I = 0) : evCall cfc (n+70) 21 [.agg (regs R F pc).toArray, .agg #[.int .i64 44, .int .i64 A, .int .i64 0, .int .i64 0, .int .i64 I], .int .u64 ld] H = some (.ret (if (toV pc I).tmod 4 = 0 then doneT (upd (upd (upd R 0 0) A.toNat (IntKind.wrap .u32 (pc + 4))) 0 0) F (toV pc I) 0 0 else doneT (upd R 0 0) F pc 5 (toV pc I)), H) := by
  rw [q21 (n+69) _ _ _ (regs_flat _ _ _) rfl rfl H]
  have ar := rg166 hA
  have rng : (0 ≤ (44 : Int) ∧ (44 : Int) < 72) = True := by simp
  have szz : sizeV 44 = 0 := rfl
  have fv : formV 44 = 8 := rfl
  have nd : ∀ n H R, evCall cfc (n+12) 23 [.agg (regs R F pc).toArray, .agg #[.int .i64 44, .int .i64 A, .int .i64 0, .int .i64 0, .int .i64 I]] H = some (.ret (.agg #[.bool false, .int .u32 0, .int .i64 0, .int .u64 0]), H) := fun n H R => rneed_bad n H R F pc _ _ _ _ _ (Or.inl rfl)
  have hA2 : (0 ≤ A ∧ A < 16) = True := eq_true hA
  have et : IntKind.wrap .u32 (pc + IntKind.wrap .u32 (4 * IntKind.wrap .u32 I)) = toV pc I := rfl
  by_cases ht : (toV pc I).tmod 4 = 0
  all_goals simp -implicitDefEqProofs only [s21, v27, v35, v16, rng, szz, fv, hk, doneT, needT, wrap_0, nd, v37_n, v37_l, hA2, et, ht, ar, tabs_gn, ↓EVdn, EVup, lp_succ, goInt, splice, okC, Fr.of, Fr.ofI, Fr.g, Nat.reduceAdd, Nat.reduceMul, Nat.reduceEqDiff, Nat.reduceLT, Nat.reduceLeDiff, Nat.reduceBEq, Int.reduceLT, Int.reduceLE, Int.reduceToNat, Int.reduceAdd, Int.reduceSub, Int.reduceMul, Int.reduceEq, Int.reduceNeg, ↓reduceIte, ↓reduceDIte, Nat.beq, reduceCtorEq, Value.int.injEq, Nat.reduceSub, flat_int, flat_bool, flat_t2w, flat_t2u, flat_bt, flat_done, regs_flat, flat_i5, flat_need, upd_upd, decide_true]
theorem rdone_45 (n : Nat) (H : Hp) (R F : Nat → Int) (pc A B I ld : Int) (hA : 0 ≤ A ∧ A < 16) (hB : 0 ≤ B ∧ B < 16) (hR : ∀ i, i < 16 → inK .u32 (R i)) (hF : ∀ i, i < 8 → inK .u64 (F i)) (hk : chkV 45 A B 0 I = 0) : evCall cfc (n+70) 21 [.agg (regs R F pc).toArray, .agg #[.int .i64 45, .int .i64 A, .int .i64 B, .int .i64 0, .int .i64 I], .int .u64 ld] H = some (.ret (if (adV R B I).tmod 4 = 0 then doneT (upd (upd (upd R 0 0) A.toNat (IntKind.wrap .u32 (pc + 4))) 0 0) F (adV R B I) 0 0 else doneT (upd R 0 0) F pc 5 (adV R B I)), H) := by
  rw [q21 (n+69) _ _ _ (regs_flat _ _ _) rfl rfl H]
  have ar := rg166 hA
  have br := rg166 hB
  have rng : (0 ≤ (45 : Int) ∧ (45 : Int) < 72) = True := by simp
  have szz : sizeV 45 = 0 := rfl
  have fv : formV 45 = 5 := rfl
  have nd : ∀ n H R, evCall cfc (n+12) 23 [.agg (regs R F pc).toArray, .agg #[.int .i64 45, .int .i64 A, .int .i64 B, .int .i64 0, .int .i64 I]] H = some (.ret (.agg #[.bool false, .int .u32 0, .int .i64 0, .int .u64 0]), H) := fun n H R => rneed_bad n H R F pc _ _ _ _ _ (Or.inl rfl)
  have hA2 : (0 ≤ A ∧ A < 16) = True := eq_true hA
  have et : IntKind.wrap .u32 (upd R 0 0 B.toNat + IntKind.wrap .u32 I) = adV R B I := rfl
  by_cases ht : (adV R B I).tmod 4 = 0
  all_goals simp -implicitDefEqProofs only [s21, v27, v35, v16, rng, szz, fv, hk, doneT, needT, wrap_0, nd, v37_n, v37_l, hA2, et, ht, ar, br, tabs_gn, ↓EVdn, EVup, lp_succ, goInt, splice, okC, Fr.of, Fr.ofI, Fr.g, Nat.reduceAdd, Nat.reduceMul, Nat.reduceEqDiff, Nat.reduceLT, Nat.reduceLeDiff, Nat.reduceBEq, Int.reduceLT, Int.reduceLE, Int.reduceToNat, Int.reduceAdd, Int.reduceSub, Int.reduceMul, Int.reduceEq, Int.reduceNeg, ↓reduceIte, ↓reduceDIte, Nat.beq, reduceCtorEq, Value.int.injEq, Nat.reduceSub, flat_int, flat_bool, flat_t2w, flat_t2u, flat_bt, flat_done, regs_flat, flat_i5, flat_need, upd_upd, decide_true]
theorem rdone_46 (n : Nat) (H : Hp) (R F : Nat → Int) (pc A B C ld : Int) (hA : 0 ≤ A ∧ A < 8) (hB : 0 ≤ B ∧ B < 8) (hC : 0 ≤ C ∧ C < 8) (hR : ∀ i, i < 16 → inK .u32 (R i)) (hF : ∀ i, i < 8 → inK .u64 (F i)) (hk : chkV 46 A B C 0 = 0) : evCall cfc (n+70) 21 [.agg (regs R F pc).toArray, .agg #[.int .i64 46, .int .i64 A, .int .i64 B, .int .i64 C, .int .i64 0], .int .u64 ld] H = some (.ret (doneT (upd R 0 0) (upd F A.toNat (arV 46 (F B.toNat) (F C.toNat))) (IntKind.wrap .u32 (pc + 4)) 0 0), H) := by
  rw [q21 (n+69) _ _ _ (regs_flat _ _ _) rfl rfl H]
  have ar := rg87 hA
  have br := rg87 hB
  have cr := rg87 hC
  have rng : (0 ≤ (46 : Int) ∧ (46 : Int) < 72) = True := by simp
  have szz : sizeV 46 = 0 := rfl
  have fv : formV 46 = 9 := rfl
  have nd : ∀ n H R, evCall cfc (n+12) 23 [.agg (regs R F pc).toArray, .agg #[.int .i64 46, .int .i64 A, .int .i64 B, .int .i64 C, .int .i64 0]] H = some (.ret (.agg #[.bool false, .int .u32 0, .int .i64 0, .int .u64 0]), H) := fun n H R => rneed_bad n H R F pc _ _ _ _ _ (Or.inl rfl)
  have e40 := fun n H => v40_46 n H (upd R 0 0) F pc A B C hA hB hC hF
  simp -implicitDefEqProofs only [s21, v27, v35, v16, rng, szz, fv, hk, doneT, needT, wrap_0, nd, e40, ar, br, cr, tabs_gn, ↓EVdn, EVup, lp_succ, goInt, splice, okC, Fr.of, Fr.ofI, Fr.g, Nat.reduceAdd, Nat.reduceMul, Nat.reduceEqDiff, Nat.reduceLT, Nat.reduceLeDiff, Nat.reduceBEq, Int.reduceLT, Int.reduceLE, Int.reduceToNat, Int.reduceAdd, Int.reduceSub, Int.reduceMul, Int.reduceEq, Int.reduceNeg, ↓reduceIte, ↓reduceDIte, Nat.beq, reduceCtorEq, Value.int.injEq, Nat.reduceSub, flat_int, flat_bool, flat_t2w, flat_t2u, flat_bt, flat_done, regs_flat, flat_i5, flat_need, upd_upd, decide_true]
theorem rdone_47 (n : Nat) (H : Hp) (R F : Nat → Int) (pc A B C ld : Int) (hA : 0 ≤ A ∧ A < 8) (hB : 0 ≤ B ∧ B < 8) (hC : 0 ≤ C ∧ C < 8) (hR : ∀ i, i < 16 → inK .u32 (R i)) (hF : ∀ i, i < 8 → inK .u64 (F i)) (hk : chkV 47 A B C 0 = 0) : evCall cfc (n+70) 21 [.agg (regs R F pc).toArray, .agg #[.int .i64 47, .int .i64 A, .int .i64 B, .int .i64 C, .int .i64 0], .int .u64 ld] H = some (.ret (doneT (upd R 0 0) (upd F A.toNat (arV 47 (F B.toNat) (F C.toNat))) (IntKind.wrap .u32 (pc + 4)) 0 0), H) := by
  rw [q21 (n+69) _ _ _ (regs_flat _ _ _) rfl rfl H]
  have ar := rg87 hA
  have br := rg87 hB
  have cr := rg87 hC
  have rng : (0 ≤ (47 : Int) ∧ (47 : Int) < 72) = True := by simp
  have szz : sizeV 47 = 0 := rfl
  have fv : formV 47 = 9 := rfl
  have nd : ∀ n H R, evCall cfc (n+12) 23 [.agg (regs R F pc).toArray, .agg #[.int .i64 47, .int .i64 A, .int .i64 B, .int .i64 C, .int .i64 0]] H = some (.ret (.agg #[.bool false, .int .u32 0, .int .i64 0, .int .u64 0]), H) := fun n H R => rneed_bad n H R F pc _ _ _ _ _ (Or.inl rfl)
  have e40 := fun n H => v40_47 n H (upd R 0 0) F pc A B C hA hB hC hF
  simp -implicitDefEqProofs only [s21, v27, v35, v16, rng, szz, fv, hk, doneT, needT, wrap_0, nd, e40, ar, br, cr, tabs_gn, ↓EVdn, EVup, lp_succ, goInt, splice, okC, Fr.of, Fr.ofI, Fr.g, Nat.reduceAdd, Nat.reduceMul, Nat.reduceEqDiff, Nat.reduceLT, Nat.reduceLeDiff, Nat.reduceBEq, Int.reduceLT, Int.reduceLE, Int.reduceToNat, Int.reduceAdd, Int.reduceSub, Int.reduceMul, Int.reduceEq, Int.reduceNeg, ↓reduceIte, ↓reduceDIte, Nat.beq, reduceCtorEq, Value.int.injEq, Nat.reduceSub, flat_int, flat_bool, flat_t2w, flat_t2u, flat_bt, flat_done, regs_flat, flat_i5, flat_need, upd_upd, decide_true]
theorem rdone_48 (n : Nat) (H : Hp) (R F : Nat → Int) (pc A B C ld : Int) (hA : 0 ≤ A ∧ A < 8) (hB : 0 ≤ B ∧ B < 8) (hC : 0 ≤ C ∧ C < 8) (hR : ∀ i, i < 16 → inK .u32 (R i)) (hF : ∀ i, i < 8 → inK .u64 (F i)) (hk : chkV 48 A B C 0 = 0) : evCall cfc (n+70) 21 [.agg (regs R F pc).toArray, .agg #[.int .i64 48, .int .i64 A, .int .i64 B, .int .i64 C, .int .i64 0], .int .u64 ld] H = some (.ret (doneT (upd R 0 0) (upd F A.toNat (arV 48 (F B.toNat) (F C.toNat))) (IntKind.wrap .u32 (pc + 4)) 0 0), H) := by
  rw [q21 (n+69) _ _ _ (regs_flat _ _ _) rfl rfl H]
  have ar := rg87 hA
  have br := rg87 hB
  have cr := rg87 hC
  have rng : (0 ≤ (48 : Int) ∧ (48 : Int) < 72) = True := by simp
  have szz : sizeV 48 = 0 := rfl
  have fv : formV 48 = 9 := rfl
  have nd : ∀ n H R, evCall cfc (n+12) 23 [.agg (regs R F pc).toArray, .agg #[.int .i64 48, .int .i64 A, .int .i64 B, .int .i64 C, .int .i64 0]] H = some (.ret (.agg #[.bool false, .int .u32 0, .int .i64 0, .int .u64 0]), H) := fun n H R => rneed_bad n H R F pc _ _ _ _ _ (Or.inl rfl)
  have e40 := fun n H => v40_48 n H (upd R 0 0) F pc A B C hA hB hC hF
  simp -implicitDefEqProofs only [s21, v27, v35, v16, rng, szz, fv, hk, doneT, needT, wrap_0, nd, e40, ar, br, cr, tabs_gn, ↓EVdn, EVup, lp_succ, goInt, splice, okC, Fr.of, Fr.ofI, Fr.g, Nat.reduceAdd, Nat.reduceMul, Nat.reduceEqDiff, Nat.reduceLT, Nat.reduceLeDiff, Nat.reduceBEq, Int.reduceLT, Int.reduceLE, Int.reduceToNat, Int.reduceAdd, Int.reduceSub, Int.reduceMul, Int.reduceEq, Int.reduceNeg, ↓reduceIte, ↓reduceDIte, Nat.beq, reduceCtorEq, Value.int.injEq, Nat.reduceSub, flat_int, flat_bool, flat_t2w, flat_t2u, flat_bt, flat_done, regs_flat, flat_i5, flat_need, upd_upd, decide_true]
theorem rdone_49 (n : Nat) (H : Hp) (R F : Nat → Int) (pc A B C ld : Int) (hA : 0 ≤ A ∧ A < 8) (hB : 0 ≤ B ∧ B < 8) (hC : 0 ≤ C ∧ C < 8) (hR : ∀ i, i < 16 → inK .u32 (R i)) (hF : ∀ i, i < 8 → inK .u64 (F i)) (hk : chkV 49 A B C 0 = 0) : evCall cfc (n+70) 21 [.agg (regs R F pc).toArray, .agg #[.int .i64 49, .int .i64 A, .int .i64 B, .int .i64 C, .int .i64 0], .int .u64 ld] H = some (.ret (doneT (upd R 0 0) (upd F A.toNat (arV 49 (F B.toNat) (F C.toNat))) (IntKind.wrap .u32 (pc + 4)) 0 0), H) := by
  rw [q21 (n+69) _ _ _ (regs_flat _ _ _) rfl rfl H]
  have ar := rg87 hA
  have br := rg87 hB
  have cr := rg87 hC
  have rng : (0 ≤ (49 : Int) ∧ (49 : Int) < 72) = True := by simp
  have szz : sizeV 49 = 0 := rfl
  have fv : formV 49 = 9 := rfl
  have nd : ∀ n H R, evCall cfc (n+12) 23 [.agg (regs R F pc).toArray, .agg #[.int .i64 49, .int .i64 A, .int .i64 B, .int .i64 C, .int .i64 0]] H = some (.ret (.agg #[.bool false, .int .u32 0, .int .i64 0, .int .u64 0]), H) := fun n H R => rneed_bad n H R F pc _ _ _ _ _ (Or.inl rfl)
  have e40 := fun n H => v40_49 n H (upd R 0 0) F pc A B C hA hB hC hF
  simp -implicitDefEqProofs only [s21, v27, v35, v16, rng, szz, fv, hk, doneT, needT, wrap_0, nd, e40, ar, br, cr, tabs_gn, ↓EVdn, EVup, lp_succ, goInt, splice, okC, Fr.of, Fr.ofI, Fr.g, Nat.reduceAdd, Nat.reduceMul, Nat.reduceEqDiff, Nat.reduceLT, Nat.reduceLeDiff, Nat.reduceBEq, Int.reduceLT, Int.reduceLE, Int.reduceToNat, Int.reduceAdd, Int.reduceSub, Int.reduceMul, Int.reduceEq, Int.reduceNeg, ↓reduceIte, ↓reduceDIte, Nat.beq, reduceCtorEq, Value.int.injEq, Nat.reduceSub, flat_int, flat_bool, flat_t2w, flat_t2u, flat_bt, flat_done, regs_flat, flat_i5, flat_need, upd_upd, decide_true]
theorem rdone_50 (n : Nat) (H : Hp) (R F : Nat → Int) (pc A B ld : Int) (hA : 0 ≤ A ∧ A < 8) (hB : 0 ≤ B ∧ B < 8) (hR : ∀ i, i < 16 → inK .u32 (R i)) (hF : ∀ i, i < 8 → inK .u64 (F i)) (hk : chkV 50 A B 0 0 = 0) : evCall cfc (n+70) 21 [.agg (regs R F pc).toArray, .agg #[.int .i64 50, .int .i64 A, .int .i64 B, .int .i64 0, .int .i64 0], .int .u64 ld] H = some (.ret (doneT (upd R 0 0) (upd F A.toNat (arV 50 (F B.toNat) (0))) (IntKind.wrap .u32 (pc + 4)) 0 0), H) := by
  rw [q21 (n+69) _ _ _ (regs_flat _ _ _) rfl rfl H]
  have ar := rg87 hA
  have br := rg87 hB
  have rng : (0 ≤ (50 : Int) ∧ (50 : Int) < 72) = True := by simp
  have szz : sizeV 50 = 0 := rfl
  have fv : formV 50 = 10 := rfl
  have nd : ∀ n H R, evCall cfc (n+12) 23 [.agg (regs R F pc).toArray, .agg #[.int .i64 50, .int .i64 A, .int .i64 B, .int .i64 0, .int .i64 0]] H = some (.ret (.agg #[.bool false, .int .u32 0, .int .i64 0, .int .u64 0]), H) := fun n H R => rneed_bad n H R F pc _ _ _ _ _ (Or.inl rfl)
  have e40 := fun n H => v40_50 n H (upd R 0 0) F pc A B hA hB hF
  simp -implicitDefEqProofs only [s21, v27, v35, v16, rng, szz, fv, hk, doneT, needT, wrap_0, nd, e40, ar, br, tabs_gn, ↓EVdn, EVup, lp_succ, goInt, splice, okC, Fr.of, Fr.ofI, Fr.g, Nat.reduceAdd, Nat.reduceMul, Nat.reduceEqDiff, Nat.reduceLT, Nat.reduceLeDiff, Nat.reduceBEq, Int.reduceLT, Int.reduceLE, Int.reduceToNat, Int.reduceAdd, Int.reduceSub, Int.reduceMul, Int.reduceEq, Int.reduceNeg, ↓reduceIte, ↓reduceDIte, Nat.beq, reduceCtorEq, Value.int.injEq, Nat.reduceSub, flat_int, flat_bool, flat_t2w, flat_t2u, flat_bt, flat_done, regs_flat, flat_i5, flat_need, upd_upd, decide_true]
theorem rdone_51 (n : Nat) (H : Hp) (R F : Nat → Int) (pc A B C ld : Int) (hA : 0 ≤ A ∧ A < 8) (hB : 0 ≤ B ∧ B < 8) (hC : 0 ≤ C ∧ C < 8) (hR : ∀ i, i < 16 → inK .u32 (R i)) (hF : ∀ i, i < 8 → inK .u64 (F i)) (hk : chkV 51 A B C 0 = 0) : evCall cfc (n+70) 21 [.agg (regs R F pc).toArray, .agg #[.int .i64 51, .int .i64 A, .int .i64 B, .int .i64 C, .int .i64 0], .int .u64 ld] H = some (.ret (doneT (upd R 0 0) (upd F A.toNat (arV 51 (F B.toNat) (F C.toNat))) (IntKind.wrap .u32 (pc + 4)) 0 0), H) := by
  rw [q21 (n+69) _ _ _ (regs_flat _ _ _) rfl rfl H]
  have ar := rg87 hA
  have br := rg87 hB
  have cr := rg87 hC
  have rng : (0 ≤ (51 : Int) ∧ (51 : Int) < 72) = True := by simp
  have szz : sizeV 51 = 0 := rfl
  have fv : formV 51 = 9 := rfl
  have nd : ∀ n H R, evCall cfc (n+12) 23 [.agg (regs R F pc).toArray, .agg #[.int .i64 51, .int .i64 A, .int .i64 B, .int .i64 C, .int .i64 0]] H = some (.ret (.agg #[.bool false, .int .u32 0, .int .i64 0, .int .u64 0]), H) := fun n H R => rneed_bad n H R F pc _ _ _ _ _ (Or.inl rfl)
  have e40 := fun n H => v40_51 n H (upd R 0 0) F pc A B C hA hB hC hF
  simp -implicitDefEqProofs only [s21, v27, v35, v16, rng, szz, fv, hk, doneT, needT, wrap_0, nd, e40, ar, br, cr, tabs_gn, ↓EVdn, EVup, lp_succ, goInt, splice, okC, Fr.of, Fr.ofI, Fr.g, Nat.reduceAdd, Nat.reduceMul, Nat.reduceEqDiff, Nat.reduceLT, Nat.reduceLeDiff, Nat.reduceBEq, Int.reduceLT, Int.reduceLE, Int.reduceToNat, Int.reduceAdd, Int.reduceSub, Int.reduceMul, Int.reduceEq, Int.reduceNeg, ↓reduceIte, ↓reduceDIte, Nat.beq, reduceCtorEq, Value.int.injEq, Nat.reduceSub, flat_int, flat_bool, flat_t2w, flat_t2u, flat_bt, flat_done, regs_flat, flat_i5, flat_need, upd_upd, decide_true]
theorem rdone_52 (n : Nat) (H : Hp) (R F : Nat → Int) (pc A B C ld : Int) (hA : 0 ≤ A ∧ A < 8) (hB : 0 ≤ B ∧ B < 8) (hC : 0 ≤ C ∧ C < 8) (hR : ∀ i, i < 16 → inK .u32 (R i)) (hF : ∀ i, i < 8 → inK .u64 (F i)) (hk : chkV 52 A B C 0 = 0) : evCall cfc (n+70) 21 [.agg (regs R F pc).toArray, .agg #[.int .i64 52, .int .i64 A, .int .i64 B, .int .i64 C, .int .i64 0], .int .u64 ld] H = some (.ret (doneT (upd R 0 0) (upd F A.toNat (arV 52 (F B.toNat) (F C.toNat))) (IntKind.wrap .u32 (pc + 4)) 0 0), H) := by
  rw [q21 (n+69) _ _ _ (regs_flat _ _ _) rfl rfl H]
  have ar := rg87 hA
  have br := rg87 hB
  have cr := rg87 hC
  have rng : (0 ≤ (52 : Int) ∧ (52 : Int) < 72) = True := by simp
  have szz : sizeV 52 = 0 := rfl
  have fv : formV 52 = 9 := rfl
  have nd : ∀ n H R, evCall cfc (n+12) 23 [.agg (regs R F pc).toArray, .agg #[.int .i64 52, .int .i64 A, .int .i64 B, .int .i64 C, .int .i64 0]] H = some (.ret (.agg #[.bool false, .int .u32 0, .int .i64 0, .int .u64 0]), H) := fun n H R => rneed_bad n H R F pc _ _ _ _ _ (Or.inl rfl)
  have e40 := fun n H => v40_52 n H (upd R 0 0) F pc A B C hA hB hC hF
  simp -implicitDefEqProofs only [s21, v27, v35, v16, rng, szz, fv, hk, doneT, needT, wrap_0, nd, e40, ar, br, cr, tabs_gn, ↓EVdn, EVup, lp_succ, goInt, splice, okC, Fr.of, Fr.ofI, Fr.g, Nat.reduceAdd, Nat.reduceMul, Nat.reduceEqDiff, Nat.reduceLT, Nat.reduceLeDiff, Nat.reduceBEq, Int.reduceLT, Int.reduceLE, Int.reduceToNat, Int.reduceAdd, Int.reduceSub, Int.reduceMul, Int.reduceEq, Int.reduceNeg, ↓reduceIte, ↓reduceDIte, Nat.beq, reduceCtorEq, Value.int.injEq, Nat.reduceSub, flat_int, flat_bool, flat_t2w, flat_t2u, flat_bt, flat_done, regs_flat, flat_i5, flat_need, upd_upd, decide_true]
theorem rdone_53 (n : Nat) (H : Hp) (R F : Nat → Int) (pc A B ld : Int) (hA : 0 ≤ A ∧ A < 8) (hB : 0 ≤ B ∧ B < 8) (hR : ∀ i, i < 16 → inK .u32 (R i)) (hF : ∀ i, i < 8 → inK .u64 (F i)) (hk : chkV 53 A B 0 0 = 0) : evCall cfc (n+70) 21 [.agg (regs R F pc).toArray, .agg #[.int .i64 53, .int .i64 A, .int .i64 B, .int .i64 0, .int .i64 0], .int .u64 ld] H = some (.ret (doneT (upd R 0 0) (upd F A.toNat (arV 53 (F B.toNat) (0))) (IntKind.wrap .u32 (pc + 4)) 0 0), H) := by
  rw [q21 (n+69) _ _ _ (regs_flat _ _ _) rfl rfl H]
  have ar := rg87 hA
  have br := rg87 hB
  have rng : (0 ≤ (53 : Int) ∧ (53 : Int) < 72) = True := by simp
  have szz : sizeV 53 = 0 := rfl
  have fv : formV 53 = 10 := rfl
  have nd : ∀ n H R, evCall cfc (n+12) 23 [.agg (regs R F pc).toArray, .agg #[.int .i64 53, .int .i64 A, .int .i64 B, .int .i64 0, .int .i64 0]] H = some (.ret (.agg #[.bool false, .int .u32 0, .int .i64 0, .int .u64 0]), H) := fun n H R => rneed_bad n H R F pc _ _ _ _ _ (Or.inl rfl)
  have e40 := fun n H => v40_53 n H (upd R 0 0) F pc A B hA hB hF
  simp -implicitDefEqProofs only [s21, v27, v35, v16, rng, szz, fv, hk, doneT, needT, wrap_0, nd, e40, ar, br, tabs_gn, ↓EVdn, EVup, lp_succ, goInt, splice, okC, Fr.of, Fr.ofI, Fr.g, Nat.reduceAdd, Nat.reduceMul, Nat.reduceEqDiff, Nat.reduceLT, Nat.reduceLeDiff, Nat.reduceBEq, Int.reduceLT, Int.reduceLE, Int.reduceToNat, Int.reduceAdd, Int.reduceSub, Int.reduceMul, Int.reduceEq, Int.reduceNeg, ↓reduceIte, ↓reduceDIte, Nat.beq, reduceCtorEq, Value.int.injEq, Nat.reduceSub, flat_int, flat_bool, flat_t2w, flat_t2u, flat_bt, flat_done, regs_flat, flat_i5, flat_need, upd_upd, decide_true]
theorem rdone_54 (n : Nat) (H : Hp) (R F : Nat → Int) (pc A B ld : Int) (hA : 0 ≤ A ∧ A < 8) (hB : 0 ≤ B ∧ B < 8) (hR : ∀ i, i < 16 → inK .u32 (R i)) (hF : ∀ i, i < 8 → inK .u64 (F i)) (hk : chkV 54 A B 0 0 = 0) : evCall cfc (n+70) 21 [.agg (regs R F pc).toArray, .agg #[.int .i64 54, .int .i64 A, .int .i64 B, .int .i64 0, .int .i64 0], .int .u64 ld] H = some (.ret (doneT (upd R 0 0) (upd F A.toNat (arV 54 (F B.toNat) (0))) (IntKind.wrap .u32 (pc + 4)) 0 0), H) := by
  rw [q21 (n+69) _ _ _ (regs_flat _ _ _) rfl rfl H]
  have ar := rg87 hA
  have br := rg87 hB
  have rng : (0 ≤ (54 : Int) ∧ (54 : Int) < 72) = True := by simp
  have szz : sizeV 54 = 0 := rfl
  have fv : formV 54 = 10 := rfl
  have nd : ∀ n H R, evCall cfc (n+12) 23 [.agg (regs R F pc).toArray, .agg #[.int .i64 54, .int .i64 A, .int .i64 B, .int .i64 0, .int .i64 0]] H = some (.ret (.agg #[.bool false, .int .u32 0, .int .i64 0, .int .u64 0]), H) := fun n H R => rneed_bad n H R F pc _ _ _ _ _ (Or.inl rfl)
  have e40 := fun n H => v40_54 n H (upd R 0 0) F pc A B hA hB hF
  simp -implicitDefEqProofs only [s21, v27, v35, v16, rng, szz, fv, hk, doneT, needT, wrap_0, nd, e40, ar, br, tabs_gn, ↓EVdn, EVup, lp_succ, goInt, splice, okC, Fr.of, Fr.ofI, Fr.g, Nat.reduceAdd, Nat.reduceMul, Nat.reduceEqDiff, Nat.reduceLT, Nat.reduceLeDiff, Nat.reduceBEq, Int.reduceLT, Int.reduceLE, Int.reduceToNat, Int.reduceAdd, Int.reduceSub, Int.reduceMul, Int.reduceEq, Int.reduceNeg, ↓reduceIte, ↓reduceDIte, Nat.beq, reduceCtorEq, Value.int.injEq, Nat.reduceSub, flat_int, flat_bool, flat_t2w, flat_t2u, flat_bt, flat_done, regs_flat, flat_i5, flat_need, upd_upd, decide_true]
theorem rdone_55 (n : Nat) (H : Hp) (R F : Nat → Int) (pc A B C ld : Int) (hA : 0 ≤ A ∧ A < 16) (hB : 0 ≤ B ∧ B < 8) (hC : 0 ≤ C ∧ C < 8) (hR : ∀ i, i < 16 → inK .u32 (R i)) (hF : ∀ i, i < 8 → inK .u64 (F i)) (hk : chkV 55 A B C 0 = 0) : evCall cfc (n+70) 21 [.agg (regs R F pc).toArray, .agg #[.int .i64 55, .int .i64 A, .int .i64 B, .int .i64 C, .int .i64 0], .int .u64 ld] H = some (.ret (doneT (upd (upd (upd R 0 0) A.toNat (cmI 55 (F B.toNat) (F C.toNat))) 0 0) F (IntKind.wrap .u32 (pc + 4)) 0 0), H) := by
  rw [q21 (n+69) _ _ _ (regs_flat _ _ _) rfl rfl H]
  have ar := rg166 hA
  have br := rg87 hB
  have cr := rg87 hC
  have rng : (0 ≤ (55 : Int) ∧ (55 : Int) < 72) = True := by simp
  have szz : sizeV 55 = 0 := rfl
  have fv : formV 55 = 11 := rfl
  have nd : ∀ n H R, evCall cfc (n+12) 23 [.agg (regs R F pc).toArray, .agg #[.int .i64 55, .int .i64 A, .int .i64 B, .int .i64 C, .int .i64 0]] H = some (.ret (.agg #[.bool false, .int .u32 0, .int .i64 0, .int .u64 0]), H) := fun n H R => rneed_bad n H R F pc _ _ _ _ _ (Or.inl rfl)
  have e40 := fun n H => v40_55 n H (upd R 0 0) F pc A B C hA hB hC hF
  simp -implicitDefEqProofs only [s21, v27, v35, v16, rng, szz, fv, hk, doneT, needT, wrap_0, nd, e40, ar, br, cr, tabs_gn, ↓EVdn, EVup, lp_succ, goInt, splice, okC, Fr.of, Fr.ofI, Fr.g, Nat.reduceAdd, Nat.reduceMul, Nat.reduceEqDiff, Nat.reduceLT, Nat.reduceLeDiff, Nat.reduceBEq, Int.reduceLT, Int.reduceLE, Int.reduceToNat, Int.reduceAdd, Int.reduceSub, Int.reduceMul, Int.reduceEq, Int.reduceNeg, ↓reduceIte, ↓reduceDIte, Nat.beq, reduceCtorEq, Value.int.injEq, Nat.reduceSub, flat_int, flat_bool, flat_t2w, flat_t2u, flat_bt, flat_done, regs_flat, flat_i5, flat_need, upd_upd, decide_true]
theorem rdone_56 (n : Nat) (H : Hp) (R F : Nat → Int) (pc A B C ld : Int) (hA : 0 ≤ A ∧ A < 16) (hB : 0 ≤ B ∧ B < 8) (hC : 0 ≤ C ∧ C < 8) (hR : ∀ i, i < 16 → inK .u32 (R i)) (hF : ∀ i, i < 8 → inK .u64 (F i)) (hk : chkV 56 A B C 0 = 0) : evCall cfc (n+70) 21 [.agg (regs R F pc).toArray, .agg #[.int .i64 56, .int .i64 A, .int .i64 B, .int .i64 C, .int .i64 0], .int .u64 ld] H = some (.ret (doneT (upd (upd (upd R 0 0) A.toNat (cmI 56 (F B.toNat) (F C.toNat))) 0 0) F (IntKind.wrap .u32 (pc + 4)) 0 0), H) := by
  rw [q21 (n+69) _ _ _ (regs_flat _ _ _) rfl rfl H]
  have ar := rg166 hA
  have br := rg87 hB
  have cr := rg87 hC
  have rng : (0 ≤ (56 : Int) ∧ (56 : Int) < 72) = True := by simp
  have szz : sizeV 56 = 0 := rfl
  have fv : formV 56 = 11 := rfl
  have nd : ∀ n H R, evCall cfc (n+12) 23 [.agg (regs R F pc).toArray, .agg #[.int .i64 56, .int .i64 A, .int .i64 B, .int .i64 C, .int .i64 0]] H = some (.ret (.agg #[.bool false, .int .u32 0, .int .i64 0, .int .u64 0]), H) := fun n H R => rneed_bad n H R F pc _ _ _ _ _ (Or.inl rfl)
  have e40 := fun n H => v40_56 n H (upd R 0 0) F pc A B C hA hB hC hF
  simp -implicitDefEqProofs only [s21, v27, v35, v16, rng, szz, fv, hk, doneT, needT, wrap_0, nd, e40, ar, br, cr, tabs_gn, ↓EVdn, EVup, lp_succ, goInt, splice, okC, Fr.of, Fr.ofI, Fr.g, Nat.reduceAdd, Nat.reduceMul, Nat.reduceEqDiff, Nat.reduceLT, Nat.reduceLeDiff, Nat.reduceBEq, Int.reduceLT, Int.reduceLE, Int.reduceToNat, Int.reduceAdd, Int.reduceSub, Int.reduceMul, Int.reduceEq, Int.reduceNeg, ↓reduceIte, ↓reduceDIte, Nat.beq, reduceCtorEq, Value.int.injEq, Nat.reduceSub, flat_int, flat_bool, flat_t2w, flat_t2u, flat_bt, flat_done, regs_flat, flat_i5, flat_need, upd_upd, decide_true]
theorem rdone_57 (n : Nat) (H : Hp) (R F : Nat → Int) (pc A B C ld : Int) (hA : 0 ≤ A ∧ A < 16) (hB : 0 ≤ B ∧ B < 8) (hC : 0 ≤ C ∧ C < 8) (hR : ∀ i, i < 16 → inK .u32 (R i)) (hF : ∀ i, i < 8 → inK .u64 (F i)) (hk : chkV 57 A B C 0 = 0) : evCall cfc (n+70) 21 [.agg (regs R F pc).toArray, .agg #[.int .i64 57, .int .i64 A, .int .i64 B, .int .i64 C, .int .i64 0], .int .u64 ld] H = some (.ret (doneT (upd (upd (upd R 0 0) A.toNat (cmI 57 (F B.toNat) (F C.toNat))) 0 0) F (IntKind.wrap .u32 (pc + 4)) 0 0), H) := by
  rw [q21 (n+69) _ _ _ (regs_flat _ _ _) rfl rfl H]
  have ar := rg166 hA
  have br := rg87 hB
  have cr := rg87 hC
  have rng : (0 ≤ (57 : Int) ∧ (57 : Int) < 72) = True := by simp
  have szz : sizeV 57 = 0 := rfl
  have fv : formV 57 = 11 := rfl
  have nd : ∀ n H R, evCall cfc (n+12) 23 [.agg (regs R F pc).toArray, .agg #[.int .i64 57, .int .i64 A, .int .i64 B, .int .i64 C, .int .i64 0]] H = some (.ret (.agg #[.bool false, .int .u32 0, .int .i64 0, .int .u64 0]), H) := fun n H R => rneed_bad n H R F pc _ _ _ _ _ (Or.inl rfl)
  have e40 := fun n H => v40_57 n H (upd R 0 0) F pc A B C hA hB hC hF
  simp -implicitDefEqProofs only [s21, v27, v35, v16, rng, szz, fv, hk, doneT, needT, wrap_0, nd, e40, ar, br, cr, tabs_gn, ↓EVdn, EVup, lp_succ, goInt, splice, okC, Fr.of, Fr.ofI, Fr.g, Nat.reduceAdd, Nat.reduceMul, Nat.reduceEqDiff, Nat.reduceLT, Nat.reduceLeDiff, Nat.reduceBEq, Int.reduceLT, Int.reduceLE, Int.reduceToNat, Int.reduceAdd, Int.reduceSub, Int.reduceMul, Int.reduceEq, Int.reduceNeg, ↓reduceIte, ↓reduceDIte, Nat.beq, reduceCtorEq, Value.int.injEq, Nat.reduceSub, flat_int, flat_bool, flat_t2w, flat_t2u, flat_bt, flat_done, regs_flat, flat_i5, flat_need, upd_upd, decide_true]
theorem rdone_58 (n : Nat) (H : Hp) (R F : Nat → Int) (pc A B ld : Int) (hA : 0 ≤ A ∧ A < 16) (hB : 0 ≤ B ∧ B < 8) (hR : ∀ i, i < 16 → inK .u32 (R i)) (hF : ∀ i, i < 8 → inK .u64 (F i)) (hk : chkV 58 A B 0 0 = 0) : evCall cfc (n+70) 21 [.agg (regs R F pc).toArray, .agg #[.int .i64 58, .int .i64 A, .int .i64 B, .int .i64 0, .int .i64 0], .int .u64 ld] H = some (.ret (doneT (upd (upd (upd R 0 0) A.toNat (clV (F B.toNat))) 0 0) F (IntKind.wrap .u32 (pc + 4)) 0 0), H) := by
  rw [q21 (n+69) _ _ _ (regs_flat _ _ _) rfl rfl H]
  have ar := rg166 hA
  have br := rg87 hB
  have rng : (0 ≤ (58 : Int) ∧ (58 : Int) < 72) = True := by simp
  have szz : sizeV 58 = 0 := rfl
  have fv : formV 58 = 12 := rfl
  have nd : ∀ n H R, evCall cfc (n+12) 23 [.agg (regs R F pc).toArray, .agg #[.int .i64 58, .int .i64 A, .int .i64 B, .int .i64 0, .int .i64 0]] H = some (.ret (.agg #[.bool false, .int .u32 0, .int .i64 0, .int .u64 0]), H) := fun n H R => rneed_bad n H R F pc _ _ _ _ _ (Or.inl rfl)
  have e40 := fun n H => v40_58 n H (upd R 0 0) F pc A B hA hB hF
  simp -implicitDefEqProofs only [s21, v27, v35, v16, rng, szz, fv, hk, doneT, needT, wrap_0, nd, e40, ar, br, tabs_gn, ↓EVdn, EVup, lp_succ, goInt, splice, okC, Fr.of, Fr.ofI, Fr.g, Nat.reduceAdd, Nat.reduceMul, Nat.reduceEqDiff, Nat.reduceLT, Nat.reduceLeDiff, Nat.reduceBEq, Int.reduceLT, Int.reduceLE, Int.reduceToNat, Int.reduceAdd, Int.reduceSub, Int.reduceMul, Int.reduceEq, Int.reduceNeg, ↓reduceIte, ↓reduceDIte, Nat.beq, reduceCtorEq, Value.int.injEq, Nat.reduceSub, flat_int, flat_bool, flat_t2w, flat_t2u, flat_bt, flat_done, regs_flat, flat_i5, flat_need, upd_upd, decide_true]
theorem rdone_59 (n : Nat) (H : Hp) (R F : Nat → Int) (pc A B ld : Int) (hA : 0 ≤ A ∧ A < 8) (hB : 0 ≤ B ∧ B < 16) (hR : ∀ i, i < 16 → inK .u32 (R i)) (hF : ∀ i, i < 8 → inK .u64 (F i)) (hk : chkV 59 A B 0 0 = 0) : evCall cfc (n+70) 21 [.agg (regs R F pc).toArray, .agg #[.int .i64 59, .int .i64 A, .int .i64 B, .int .i64 0, .int .i64 0], .int .u64 ld] H = some (.ret (doneT (upd R 0 0) (upd F A.toNat (fiV (upd R 0 0 B.toNat))) (IntKind.wrap .u32 (pc + 4)) 0 0), H) := by
  rw [q21 (n+69) _ _ _ (regs_flat _ _ _) rfl rfl H]
  have ar := rg87 hA
  have br := rg166 hB
  have rng : (0 ≤ (59 : Int) ∧ (59 : Int) < 72) = True := by simp
  have szz : sizeV 59 = 0 := rfl
  have fv : formV 59 = 13 := rfl
  have nd : ∀ n H R, evCall cfc (n+12) 23 [.agg (regs R F pc).toArray, .agg #[.int .i64 59, .int .i64 A, .int .i64 B, .int .i64 0, .int .i64 0]] H = some (.ret (.agg #[.bool false, .int .u32 0, .int .i64 0, .int .u64 0]), H) := fun n H R => rneed_bad n H R F pc _ _ _ _ _ (Or.inl rfl)
  have e40 := fun n H => v40_59 n H (upd R 0 0) F pc A B hA hB hF
  simp -implicitDefEqProofs only [s21, v27, v35, v16, rng, szz, fv, hk, doneT, needT, wrap_0, nd, e40, ar, br, tabs_gn, ↓EVdn, EVup, lp_succ, goInt, splice, okC, Fr.of, Fr.ofI, Fr.g, Nat.reduceAdd, Nat.reduceMul, Nat.reduceEqDiff, Nat.reduceLT, Nat.reduceLeDiff, Nat.reduceBEq, Int.reduceLT, Int.reduceLE, Int.reduceToNat, Int.reduceAdd, Int.reduceSub, Int.reduceMul, Int.reduceEq, Int.reduceNeg, ↓reduceIte, ↓reduceDIte, Nat.beq, reduceCtorEq, Value.int.injEq, Nat.reduceSub, flat_int, flat_bool, flat_t2w, flat_t2u, flat_bt, flat_done, regs_flat, flat_i5, flat_need, upd_upd, decide_true]
theorem rdone_60 (n : Nat) (H : Hp) (R F : Nat → Int) (pc A B ld : Int) (hA : 0 ≤ A ∧ A < 16) (hB : 0 ≤ B ∧ B < 8) (hR : ∀ i, i < 16 → inK .u32 (R i)) (hF : ∀ i, i < 8 → inK .u64 (F i)) (hk : chkV 60 A B 0 0 = 0) : evCall cfc (n+70) 21 [.agg (regs R F pc).toArray, .agg #[.int .i64 60, .int .i64 A, .int .i64 B, .int .i64 0, .int .i64 0], .int .u64 ld] H = some (.ret (doneT (upd (upd (upd R 0 0) A.toNat (tiV (F B.toNat))) 0 0) F (IntKind.wrap .u32 (pc + 4)) 0 0), H) := by
  rw [q21 (n+69) _ _ _ (regs_flat _ _ _) rfl rfl H]
  have ar := rg166 hA
  have br := rg87 hB
  have rng : (0 ≤ (60 : Int) ∧ (60 : Int) < 72) = True := by simp
  have szz : sizeV 60 = 0 := rfl
  have fv : formV 60 = 12 := rfl
  have nd : ∀ n H R, evCall cfc (n+12) 23 [.agg (regs R F pc).toArray, .agg #[.int .i64 60, .int .i64 A, .int .i64 B, .int .i64 0, .int .i64 0]] H = some (.ret (.agg #[.bool false, .int .u32 0, .int .i64 0, .int .u64 0]), H) := fun n H R => rneed_bad n H R F pc _ _ _ _ _ (Or.inl rfl)
  have e40 := fun n H => v40_60 n H (upd R 0 0) F pc A B hA hB hF
  simp -implicitDefEqProofs only [s21, v27, v35, v16, rng, szz, fv, hk, doneT, needT, wrap_0, nd, e40, ar, br, tabs_gn, ↓EVdn, EVup, lp_succ, goInt, splice, okC, Fr.of, Fr.ofI, Fr.g, Nat.reduceAdd, Nat.reduceMul, Nat.reduceEqDiff, Nat.reduceLT, Nat.reduceLeDiff, Nat.reduceBEq, Int.reduceLT, Int.reduceLE, Int.reduceToNat, Int.reduceAdd, Int.reduceSub, Int.reduceMul, Int.reduceEq, Int.reduceNeg, ↓reduceIte, ↓reduceDIte, Nat.beq, reduceCtorEq, Value.int.injEq, Nat.reduceSub, flat_int, flat_bool, flat_t2w, flat_t2u, flat_bt, flat_done, regs_flat, flat_i5, flat_need, upd_upd, decide_true]
theorem rdone_61 (n : Nat) (H : Hp) (R F : Nat → Int) (pc A B ld : Int) (hA : 0 ≤ A ∧ A < 16) (hB : 0 ≤ B ∧ B < 8) (hR : ∀ i, i < 16 → inK .u32 (R i)) (hF : ∀ i, i < 8 → inK .u64 (F i)) (hk : chkV 61 A B 0 0 = 0) : evCall cfc (n+70) 21 [.agg (regs R F pc).toArray, .agg #[.int .i64 61, .int .i64 A, .int .i64 B, .int .i64 0, .int .i64 0], .int .u64 ld] H = some (.ret (doneT (upd (upd (upd R 0 0) A.toNat (IntKind.wrap .u32 (F B.toNat))) 0 0) F (IntKind.wrap .u32 (pc + 4)) 0 0), H) := by
  rw [q21 (n+69) _ _ _ (regs_flat _ _ _) rfl rfl H]
  have ar := rg166 hA
  have br := rg87 hB
  have rng : (0 ≤ (61 : Int) ∧ (61 : Int) < 72) = True := by simp
  have szz : sizeV 61 = 0 := rfl
  have fv : formV 61 = 12 := rfl
  have nd : ∀ n H R, evCall cfc (n+12) 23 [.agg (regs R F pc).toArray, .agg #[.int .i64 61, .int .i64 A, .int .i64 B, .int .i64 0, .int .i64 0]] H = some (.ret (.agg #[.bool false, .int .u32 0, .int .i64 0, .int .u64 0]), H) := fun n H R => rneed_bad n H R F pc _ _ _ _ _ (Or.inl rfl)
  have e40 := fun n H => v40_61 n H (upd R 0 0) F pc A B hA hB hF
  simp -implicitDefEqProofs only [s21, v27, v35, v16, rng, szz, fv, hk, doneT, needT, wrap_0, nd, e40, ar, br, tabs_gn, ↓EVdn, EVup, lp_succ, goInt, splice, okC, Fr.of, Fr.ofI, Fr.g, Nat.reduceAdd, Nat.reduceMul, Nat.reduceEqDiff, Nat.reduceLT, Nat.reduceLeDiff, Nat.reduceBEq, Int.reduceLT, Int.reduceLE, Int.reduceToNat, Int.reduceAdd, Int.reduceSub, Int.reduceMul, Int.reduceEq, Int.reduceNeg, ↓reduceIte, ↓reduceDIte, Nat.beq, reduceCtorEq, Value.int.injEq, Nat.reduceSub, flat_int, flat_bool, flat_t2w, flat_t2u, flat_bt, flat_done, regs_flat, flat_i5, flat_need, upd_upd, decide_true]
theorem rdone_62 (n : Nat) (H : Hp) (R F : Nat → Int) (pc A B ld : Int) (hA : 0 ≤ A ∧ A < 16) (hB : 0 ≤ B ∧ B < 8) (hR : ∀ i, i < 16 → inK .u32 (R i)) (hF : ∀ i, i < 8 → inK .u64 (F i)) (hk : chkV 62 A B 0 0 = 0) : evCall cfc (n+70) 21 [.agg (regs R F pc).toArray, .agg #[.int .i64 62, .int .i64 A, .int .i64 B, .int .i64 0, .int .i64 0], .int .u64 ld] H = some (.ret (doneT (upd (upd (upd R 0 0) A.toNat (IntKind.wrap .u32 (shrK .u64 (F B.toNat) 32))) 0 0) F (IntKind.wrap .u32 (pc + 4)) 0 0), H) := by
  rw [q21 (n+69) _ _ _ (regs_flat _ _ _) rfl rfl H]
  have ar := rg166 hA
  have br := rg87 hB
  have rng : (0 ≤ (62 : Int) ∧ (62 : Int) < 72) = True := by simp
  have szz : sizeV 62 = 0 := rfl
  have fv : formV 62 = 12 := rfl
  have nd : ∀ n H R, evCall cfc (n+12) 23 [.agg (regs R F pc).toArray, .agg #[.int .i64 62, .int .i64 A, .int .i64 B, .int .i64 0, .int .i64 0]] H = some (.ret (.agg #[.bool false, .int .u32 0, .int .i64 0, .int .u64 0]), H) := fun n H R => rneed_bad n H R F pc _ _ _ _ _ (Or.inl rfl)
  have e40 := fun n H => v40_62 n H (upd R 0 0) F pc A B hA hB hF
  simp -implicitDefEqProofs only [s21, v27, v35, v16, rng, szz, fv, hk, doneT, needT, wrap_0, nd, e40, ar, br, tabs_gn, ↓EVdn, EVup, lp_succ, goInt, splice, okC, Fr.of, Fr.ofI, Fr.g, Nat.reduceAdd, Nat.reduceMul, Nat.reduceEqDiff, Nat.reduceLT, Nat.reduceLeDiff, Nat.reduceBEq, Int.reduceLT, Int.reduceLE, Int.reduceToNat, Int.reduceAdd, Int.reduceSub, Int.reduceMul, Int.reduceEq, Int.reduceNeg, ↓reduceIte, ↓reduceDIte, Nat.beq, reduceCtorEq, Value.int.injEq, Nat.reduceSub, flat_int, flat_bool, flat_t2w, flat_t2u, flat_bt, flat_done, regs_flat, flat_i5, flat_need, upd_upd, decide_true]
theorem rdone_63 (n : Nat) (H : Hp) (R F : Nat → Int) (pc A B C ld : Int) (hA : 0 ≤ A ∧ A < 8) (hB : 0 ≤ B ∧ B < 16) (hC : 0 ≤ C ∧ C < 16) (hR : ∀ i, i < 16 → inK .u32 (R i)) (hF : ∀ i, i < 8 → inK .u64 (F i)) (hk : chkV 63 A B C 0 = 0) : evCall cfc (n+70) 21 [.agg (regs R F pc).toArray, .agg #[.int .i64 63, .int .i64 A, .int .i64 B, .int .i64 C, .int .i64 0], .int .u64 ld] H = some (.ret (doneT (upd R 0 0) (upd F A.toNat (orK .u64 (shlK .u64 (IntKind.wrap .u64 (upd R 0 0 C.toNat)) 32) (IntKind.wrap .u64 (upd R 0 0 B.toNat)))) (IntKind.wrap .u32 (pc + 4)) 0 0), H) := by
  rw [q21 (n+69) _ _ _ (regs_flat _ _ _) rfl rfl H]
  have ar := rg87 hA
  have br := rg166 hB
  have cr := rg166 hC
  have rng : (0 ≤ (63 : Int) ∧ (63 : Int) < 72) = True := by simp
  have szz : sizeV 63 = 0 := rfl
  have fv : formV 63 = 14 := rfl
  have nd : ∀ n H R, evCall cfc (n+12) 23 [.agg (regs R F pc).toArray, .agg #[.int .i64 63, .int .i64 A, .int .i64 B, .int .i64 C, .int .i64 0]] H = some (.ret (.agg #[.bool false, .int .u32 0, .int .i64 0, .int .u64 0]), H) := fun n H R => rneed_bad n H R F pc _ _ _ _ _ (Or.inl rfl)
  have e40 := fun n H => v40_63 n H (upd R 0 0) F pc A B C hA hB hC hF
  simp -implicitDefEqProofs only [s21, v27, v35, v16, rng, szz, fv, hk, doneT, needT, wrap_0, nd, e40, ar, br, cr, tabs_gn, ↓EVdn, EVup, lp_succ, goInt, splice, okC, Fr.of, Fr.ofI, Fr.g, Nat.reduceAdd, Nat.reduceMul, Nat.reduceEqDiff, Nat.reduceLT, Nat.reduceLeDiff, Nat.reduceBEq, Int.reduceLT, Int.reduceLE, Int.reduceToNat, Int.reduceAdd, Int.reduceSub, Int.reduceMul, Int.reduceEq, Int.reduceNeg, ↓reduceIte, ↓reduceDIte, Nat.beq, reduceCtorEq, Value.int.injEq, Nat.reduceSub, flat_int, flat_bool, flat_t2w, flat_t2u, flat_bt, flat_done, regs_flat, flat_i5, flat_need, upd_upd, decide_true]
theorem rdone_64 (n : Nat) (H : Hp) (R F : Nat → Int) (pc  ld : Int)  (hR : ∀ i, i < 16 → inK .u32 (R i)) (hF : ∀ i, i < 8 → inK .u64 (F i)) (hk : chkV 64 0 0 0 0 = 0) : evCall cfc (n+70) 21 [.agg (regs R F pc).toArray, .agg #[.int .i64 64, .int .i64 0, .int .i64 0, .int .i64 0, .int .i64 0], .int .u64 ld] H = some (.ret (doneT (upd R 0 0) F pc 0 0), H) := by
  rw [q21 (n+69) _ _ _ (regs_flat _ _ _) rfl rfl H]

  have rng : (0 ≤ (64 : Int) ∧ (64 : Int) < 72) = True := by simp
  have szz : sizeV 64 = 0 := rfl
  have fv : formV 64 = 1 := rfl
  have nd : ∀ n H R, evCall cfc (n+12) 23 [.agg (regs R F pc).toArray, .agg #[.int .i64 64, .int .i64 0, .int .i64 0, .int .i64 0, .int .i64 0]] H = some (.ret (.agg #[.bool false, .int .u32 0, .int .i64 0, .int .u64 0]), H) := fun n H R => rneed_bad n H R F pc _ _ _ _ _ (Or.inl rfl)
  simp -implicitDefEqProofs only [s21, v27, v35, v16, rng, szz, fv, hk, doneT, needT, wrap_0, nd, tabs_gn, ↓EVdn, EVup, lp_succ, goInt, splice, okC, Fr.of, Fr.ofI, Fr.g, Nat.reduceAdd, Nat.reduceMul, Nat.reduceEqDiff, Nat.reduceLT, Nat.reduceLeDiff, Nat.reduceBEq, Int.reduceLT, Int.reduceLE, Int.reduceToNat, Int.reduceAdd, Int.reduceSub, Int.reduceMul, Int.reduceEq, Int.reduceNeg, ↓reduceIte, ↓reduceDIte, Nat.beq, reduceCtorEq, Value.int.injEq, Nat.reduceSub, flat_int, flat_bool, flat_t2w, flat_t2u, flat_bt, flat_done, regs_flat, flat_i5, flat_need, upd_upd, decide_true]
theorem rdone_65 (n : Nat) (H : Hp) (R F : Nat → Int) (pc  ld : Int)  (hR : ∀ i, i < 16 → inK .u32 (R i)) (hF : ∀ i, i < 8 → inK .u64 (F i)) (hk : chkV 65 0 0 0 0 = 0) : evCall cfc (n+70) 21 [.agg (regs R F pc).toArray, .agg #[.int .i64 65, .int .i64 0, .int .i64 0, .int .i64 0, .int .i64 0], .int .u64 ld] H = some (.ret (doneT (upd R 0 0) F pc 0 0), H) := by
  rw [q21 (n+69) _ _ _ (regs_flat _ _ _) rfl rfl H]

  have rng : (0 ≤ (65 : Int) ∧ (65 : Int) < 72) = True := by simp
  have szz : sizeV 65 = 0 := rfl
  have fv : formV 65 = 1 := rfl
  have nd : ∀ n H R, evCall cfc (n+12) 23 [.agg (regs R F pc).toArray, .agg #[.int .i64 65, .int .i64 0, .int .i64 0, .int .i64 0, .int .i64 0]] H = some (.ret (.agg #[.bool false, .int .u32 0, .int .i64 0, .int .u64 0]), H) := fun n H R => rneed_bad n H R F pc _ _ _ _ _ (Or.inl rfl)
  simp -implicitDefEqProofs only [s21, v27, v35, v16, rng, szz, fv, hk, doneT, needT, wrap_0, nd, tabs_gn, ↓EVdn, EVup, lp_succ, goInt, splice, okC, Fr.of, Fr.ofI, Fr.g, Nat.reduceAdd, Nat.reduceMul, Nat.reduceEqDiff, Nat.reduceLT, Nat.reduceLeDiff, Nat.reduceBEq, Int.reduceLT, Int.reduceLE, Int.reduceToNat, Int.reduceAdd, Int.reduceSub, Int.reduceMul, Int.reduceEq, Int.reduceNeg, ↓reduceIte, ↓reduceDIte, Nat.beq, reduceCtorEq, Value.int.injEq, Nat.reduceSub, flat_int, flat_bool, flat_t2w, flat_t2u, flat_bt, flat_done, regs_flat, flat_i5, flat_need, upd_upd, decide_true]
theorem rdone_66 (n : Nat) (H : Hp) (R F : Nat → Int) (pc  ld : Int)  (hR : ∀ i, i < 16 → inK .u32 (R i)) (hF : ∀ i, i < 8 → inK .u64 (F i)) (hk : chkV 66 0 0 0 0 = 0) : evCall cfc (n+70) 21 [.agg (regs R F pc).toArray, .agg #[.int .i64 66, .int .i64 0, .int .i64 0, .int .i64 0, .int .i64 0], .int .u64 ld] H = some (.ret (doneT (upd R 0 0) F pc 0 0), H) := by
  rw [q21 (n+69) _ _ _ (regs_flat _ _ _) rfl rfl H]

  have rng : (0 ≤ (66 : Int) ∧ (66 : Int) < 72) = True := by simp
  have szz : sizeV 66 = 0 := rfl
  have fv : formV 66 = 1 := rfl
  have nd : ∀ n H R, evCall cfc (n+12) 23 [.agg (regs R F pc).toArray, .agg #[.int .i64 66, .int .i64 0, .int .i64 0, .int .i64 0, .int .i64 0]] H = some (.ret (.agg #[.bool false, .int .u32 0, .int .i64 0, .int .u64 0]), H) := fun n H R => rneed_bad n H R F pc _ _ _ _ _ (Or.inl rfl)
  simp -implicitDefEqProofs only [s21, v27, v35, v16, rng, szz, fv, hk, doneT, needT, wrap_0, nd, tabs_gn, ↓EVdn, EVup, lp_succ, goInt, splice, okC, Fr.of, Fr.ofI, Fr.g, Nat.reduceAdd, Nat.reduceMul, Nat.reduceEqDiff, Nat.reduceLT, Nat.reduceLeDiff, Nat.reduceBEq, Int.reduceLT, Int.reduceLE, Int.reduceToNat, Int.reduceAdd, Int.reduceSub, Int.reduceMul, Int.reduceEq, Int.reduceNeg, ↓reduceIte, ↓reduceDIte, Nat.beq, reduceCtorEq, Value.int.injEq, Nat.reduceSub, flat_int, flat_bool, flat_t2w, flat_t2u, flat_bt, flat_done, regs_flat, flat_i5, flat_need, upd_upd, decide_true]
theorem rdone_67 (n : Nat) (H : Hp) (R F : Nat → Int) (pc  ld : Int)  (hR : ∀ i, i < 16 → inK .u32 (R i)) (hF : ∀ i, i < 8 → inK .u64 (F i)) (hk : chkV 67 0 0 0 0 = 0) : evCall cfc (n+70) 21 [.agg (regs R F pc).toArray, .agg #[.int .i64 67, .int .i64 0, .int .i64 0, .int .i64 0, .int .i64 0], .int .u64 ld] H = some (.ret (doneT (upd R 0 0) F pc 0 0), H) := by
  rw [q21 (n+69) _ _ _ (regs_flat _ _ _) rfl rfl H]

  have rng : (0 ≤ (67 : Int) ∧ (67 : Int) < 72) = True := by simp
  have szz : sizeV 67 = 0 := rfl
  have fv : formV 67 = 1 := rfl
  have nd : ∀ n H R, evCall cfc (n+12) 23 [.agg (regs R F pc).toArray, .agg #[.int .i64 67, .int .i64 0, .int .i64 0, .int .i64 0, .int .i64 0]] H = some (.ret (.agg #[.bool false, .int .u32 0, .int .i64 0, .int .u64 0]), H) := fun n H R => rneed_bad n H R F pc _ _ _ _ _ (Or.inl rfl)
  simp -implicitDefEqProofs only [s21, v27, v35, v16, rng, szz, fv, hk, doneT, needT, wrap_0, nd, tabs_gn, ↓EVdn, EVup, lp_succ, goInt, splice, okC, Fr.of, Fr.ofI, Fr.g, Nat.reduceAdd, Nat.reduceMul, Nat.reduceEqDiff, Nat.reduceLT, Nat.reduceLeDiff, Nat.reduceBEq, Int.reduceLT, Int.reduceLE, Int.reduceToNat, Int.reduceAdd, Int.reduceSub, Int.reduceMul, Int.reduceEq, Int.reduceNeg, ↓reduceIte, ↓reduceDIte, Nat.beq, reduceCtorEq, Value.int.injEq, Nat.reduceSub, flat_int, flat_bool, flat_t2w, flat_t2u, flat_bt, flat_done, regs_flat, flat_i5, flat_need, upd_upd, decide_true]
theorem rdone_68 (n : Nat) (H : Hp) (R F : Nat → Int) (pc A I ld : Int) (hA : 0 ≤ A ∧ A < 16) (hR : ∀ i, i < 16 → inK .u32 (R i)) (hF : ∀ i, i < 8 → inK .u64 (F i)) (hk : chkV 68 A 0 0 I = 0) : evCall cfc (n+70) 21 [.agg (regs R F pc).toArray, .agg #[.int .i64 68, .int .i64 A, .int .i64 0, .int .i64 0, .int .i64 I], .int .u64 ld] H = some (.ret (doneT (upd R 0 0) F pc 0 0), H) := by
  rw [q21 (n+69) _ _ _ (regs_flat _ _ _) rfl rfl H]
  have ar := rg166 hA
  have rng : (0 ≤ (68 : Int) ∧ (68 : Int) < 72) = True := by simp
  have szz : sizeV 68 = 0 := rfl
  have fv : formV 68 = 15 := rfl
  have nd : ∀ n H R, evCall cfc (n+12) 23 [.agg (regs R F pc).toArray, .agg #[.int .i64 68, .int .i64 A, .int .i64 0, .int .i64 0, .int .i64 I]] H = some (.ret (.agg #[.bool false, .int .u32 0, .int .i64 0, .int .u64 0]), H) := fun n H R => rneed_bad n H R F pc _ _ _ _ _ (Or.inl rfl)
  simp -implicitDefEqProofs only [s21, v27, v35, v16, rng, szz, fv, hk, doneT, needT, wrap_0, nd, tabs_gn, ↓EVdn, EVup, lp_succ, goInt, splice, okC, Fr.of, Fr.ofI, Fr.g, Nat.reduceAdd, Nat.reduceMul, Nat.reduceEqDiff, Nat.reduceLT, Nat.reduceLeDiff, Nat.reduceBEq, Int.reduceLT, Int.reduceLE, Int.reduceToNat, Int.reduceAdd, Int.reduceSub, Int.reduceMul, Int.reduceEq, Int.reduceNeg, ↓reduceIte, ↓reduceDIte, Nat.beq, reduceCtorEq, Value.int.injEq, Nat.reduceSub, flat_int, flat_bool, flat_t2w, flat_t2u, flat_bt, flat_done, regs_flat, flat_i5, flat_need, upd_upd, decide_true]
theorem rdone_69 (n : Nat) (H : Hp) (R F : Nat → Int) (pc A I ld : Int) (hA : 0 ≤ A ∧ A < 16) (hR : ∀ i, i < 16 → inK .u32 (R i)) (hF : ∀ i, i < 8 → inK .u64 (F i)) (hk : chkV 69 A 0 0 I = 0) : evCall cfc (n+70) 21 [.agg (regs R F pc).toArray, .agg #[.int .i64 69, .int .i64 A, .int .i64 0, .int .i64 0, .int .i64 I], .int .u64 ld] H = some (.ret (doneT (upd R 0 0) F pc 0 0), H) := by
  rw [q21 (n+69) _ _ _ (regs_flat _ _ _) rfl rfl H]
  have ar := rg166 hA
  have rng : (0 ≤ (69 : Int) ∧ (69 : Int) < 72) = True := by simp
  have szz : sizeV 69 = 0 := rfl
  have fv : formV 69 = 15 := rfl
  have nd : ∀ n H R, evCall cfc (n+12) 23 [.agg (regs R F pc).toArray, .agg #[.int .i64 69, .int .i64 A, .int .i64 0, .int .i64 0, .int .i64 I]] H = some (.ret (.agg #[.bool false, .int .u32 0, .int .i64 0, .int .u64 0]), H) := fun n H R => rneed_bad n H R F pc _ _ _ _ _ (Or.inl rfl)
  simp -implicitDefEqProofs only [s21, v27, v35, v16, rng, szz, fv, hk, doneT, needT, wrap_0, nd, tabs_gn, ↓EVdn, EVup, lp_succ, goInt, splice, okC, Fr.of, Fr.ofI, Fr.g, Nat.reduceAdd, Nat.reduceMul, Nat.reduceEqDiff, Nat.reduceLT, Nat.reduceLeDiff, Nat.reduceBEq, Int.reduceLT, Int.reduceLE, Int.reduceToNat, Int.reduceAdd, Int.reduceSub, Int.reduceMul, Int.reduceEq, Int.reduceNeg, ↓reduceIte, ↓reduceDIte, Nat.beq, reduceCtorEq, Value.int.injEq, Nat.reduceSub, flat_int, flat_bool, flat_t2w, flat_t2u, flat_bt, flat_done, regs_flat, flat_i5, flat_need, upd_upd, decide_true]
theorem rdone_70 (n : Nat) (H : Hp) (R F : Nat → Int) (pc  ld : Int)  (hR : ∀ i, i < 16 → inK .u32 (R i)) (hF : ∀ i, i < 8 → inK .u64 (F i)) (hk : chkV 70 0 0 0 0 = 0) : evCall cfc (n+70) 21 [.agg (regs R F pc).toArray, .agg #[.int .i64 70, .int .i64 0, .int .i64 0, .int .i64 0, .int .i64 0], .int .u64 ld] H = some (.ret (doneT (upd R 0 0) F pc 0 0), H) := by
  rw [q21 (n+69) _ _ _ (regs_flat _ _ _) rfl rfl H]

  have rng : (0 ≤ (70 : Int) ∧ (70 : Int) < 72) = True := by simp
  have szz : sizeV 70 = 0 := rfl
  have fv : formV 70 = 1 := rfl
  have nd : ∀ n H R, evCall cfc (n+12) 23 [.agg (regs R F pc).toArray, .agg #[.int .i64 70, .int .i64 0, .int .i64 0, .int .i64 0, .int .i64 0]] H = some (.ret (.agg #[.bool false, .int .u32 0, .int .i64 0, .int .u64 0]), H) := fun n H R => rneed_bad n H R F pc _ _ _ _ _ (Or.inl rfl)
  simp -implicitDefEqProofs only [s21, v27, v35, v16, rng, szz, fv, hk, doneT, needT, wrap_0, nd, tabs_gn, ↓EVdn, EVup, lp_succ, goInt, splice, okC, Fr.of, Fr.ofI, Fr.g, Nat.reduceAdd, Nat.reduceMul, Nat.reduceEqDiff, Nat.reduceLT, Nat.reduceLeDiff, Nat.reduceBEq, Int.reduceLT, Int.reduceLE, Int.reduceToNat, Int.reduceAdd, Int.reduceSub, Int.reduceMul, Int.reduceEq, Int.reduceNeg, ↓reduceIte, ↓reduceDIte, Nat.beq, reduceCtorEq, Value.int.injEq, Nat.reduceSub, flat_int, flat_bool, flat_t2w, flat_t2u, flat_bt, flat_done, regs_flat, flat_i5, flat_need, upd_upd, decide_true]
theorem rdone_71 (n : Nat) (H : Hp) (R F : Nat → Int) (pc  ld : Int)  (hR : ∀ i, i < 16 → inK .u32 (R i)) (hF : ∀ i, i < 8 → inK .u64 (F i)) (hk : chkV 71 0 0 0 0 = 0) : evCall cfc (n+70) 21 [.agg (regs R F pc).toArray, .agg #[.int .i64 71, .int .i64 0, .int .i64 0, .int .i64 0, .int .i64 0], .int .u64 ld] H = some (.ret (doneT (upd R 0 0) F pc 0 0), H) := by
  rw [q21 (n+69) _ _ _ (regs_flat _ _ _) rfl rfl H]

  have rng : (0 ≤ (71 : Int) ∧ (71 : Int) < 72) = True := by simp
  have szz : sizeV 71 = 0 := rfl
  have fv : formV 71 = 1 := rfl
  have nd : ∀ n H R, evCall cfc (n+12) 23 [.agg (regs R F pc).toArray, .agg #[.int .i64 71, .int .i64 0, .int .i64 0, .int .i64 0, .int .i64 0]] H = some (.ret (.agg #[.bool false, .int .u32 0, .int .i64 0, .int .u64 0]), H) := fun n H R => rneed_bad n H R F pc _ _ _ _ _ (Or.inl rfl)
  simp -implicitDefEqProofs only [s21, v27, v35, v16, rng, szz, fv, hk, doneT, needT, wrap_0, nd, tabs_gn, ↓EVdn, EVup, lp_succ, goInt, splice, okC, Fr.of, Fr.ofI, Fr.g, Nat.reduceAdd, Nat.reduceMul, Nat.reduceEqDiff, Nat.reduceLT, Nat.reduceLeDiff, Nat.reduceBEq, Int.reduceLT, Int.reduceLE, Int.reduceToNat, Int.reduceAdd, Int.reduceSub, Int.reduceMul, Int.reduceEq, Int.reduceNeg, ↓reduceIte, ↓reduceDIte, Nat.beq, reduceCtorEq, Value.int.injEq, Nat.reduceSub, flat_int, flat_bool, flat_t2w, flat_t2u, flat_bt, flat_done, regs_flat, flat_i5, flat_need, upd_upd, decide_true]
end Go.Proofs.YthenglaoolmajaaDoor
