/- The other operations that touch no float, done. -/
import Derived.Test.YthenglaoolmajaaDoorEvBun
import Derived.Test.YthenglaoolmajaaDoorExecC
namespace Go.Proofs.YthenglaoolmajaaDoor
open Go Go.Ev
set_option maxRecDepth 100000
set_option linter.unusedSimpArgs false
set_option linter.unusedVariables false
set_option maxHeartbeats 2000000
set_option linter.unusedSectionVars false
variable [Xt]
attribute [local congr] bind_front callK_front jn_front ifB_front ifG_front lp_front
theorem done_44 (n : Nat) (H : Hp) (R F : Nat → Int) (pc A I ld : Int) (hA : 0 ≤ A ∧ A < 16) (hk : chkV 44 A 0 0 I = 0) :
    evCall cfc (n+14) 20 [.agg (regs R F pc).toArray, .agg #[.int .i64 44, .int .i64 A, .int .i64 0, .int .i64 0, .int .i64 I], .int .u64 ld] H =
      some (.ret (if (toV pc I).tmod 4 = 0 then doneT (upd (upd (upd R 0 0) A.toNat (IntKind.wrap .u32 (pc + 4))) 0 0) F (toV pc I) 0 0 else doneT (upd R 0 0) F pc 5 (toV pc I)), H) := by
  rw [q20 (n+13) _ _ _ (regs_flat _ _ _) rfl rfl H]
  have ar := rg165 hA
  have rng : (0 ≤ (44 : Int) ∧ (44 : Int) < 72) = True := by simp
  have szz : sizeV 44 = 0 := rfl
  have fv : formV 44 = 8 := rfl
  have et : IntKind.wrap .u32 (pc + IntKind.wrap .u32 (4 * IntKind.wrap .u32 I)) = toV pc I := rfl
  by_cases ht : (toV pc I).tmod 4 = 0
  all_goals simp -implicitDefEqProofs only [s20, v32, v33, s22, q22, v41, szz, q34, s34, v15, fv, q46, s46, q49, s49, q64, s64, q65, s65, tabs_gn, ↓EVdn, EVup, lp_succ, goInt, splice, okC, Fr.of, Fr.ofI, Fr.g, Nat.reduceAdd, Nat.reduceMul, Nat.reduceEqDiff, Nat.reduceLT, Nat.reduceLeDiff, Nat.reduceBEq, Int.reduceLT, Int.reduceLE, Int.reduceToNat, Int.reduceAdd, Int.reduceSub, Int.reduceMul, Int.reduceEq, Int.reduceNeg, ↓reduceIte, ↓reduceDIte, Nat.beq, reduceCtorEq, Value.int.injEq, Nat.reduceSub, flat_int, flat_bool, flat_done, regs_flat, flat_i5, flat_need, flat_t2, flat_bt, hk, upd_upd, rng, decide_true, doneT, ar, ht, et]
theorem done_45 (n : Nat) (H : Hp) (R F : Nat → Int) (pc A B I ld : Int) (hA : 0 ≤ A ∧ A < 16) (hB : 0 ≤ B ∧ B < 16) (hk : chkV 45 A B 0 I = 0) :
    evCall cfc (n+14) 20 [.agg (regs R F pc).toArray, .agg #[.int .i64 45, .int .i64 A, .int .i64 B, .int .i64 0, .int .i64 I], .int .u64 ld] H =
      some (.ret (if (adV R B I).tmod 4 = 0 then doneT (upd (upd (upd R 0 0) A.toNat (IntKind.wrap .u32 (pc + 4))) 0 0) F (adV R B I) 0 0 else doneT (upd R 0 0) F pc 5 (adV R B I)), H) := by
  rw [q20 (n+13) _ _ _ (regs_flat _ _ _) rfl rfl H]
  have ar := rg165 hA
  have br := rg165 hB
  have rng : (0 ≤ (45 : Int) ∧ (45 : Int) < 72) = True := by simp
  have szz : sizeV 45 = 0 := rfl
  have fv : formV 45 = 5 := rfl
  have et : IntKind.wrap .u32 (upd R 0 0 B.toNat + IntKind.wrap .u32 I) = adV R B I := rfl
  by_cases ht : (adV R B I).tmod 4 = 0
  all_goals simp -implicitDefEqProofs only [s20, v32, v33, s22, q22, v41, szz, q34, s34, v15, fv, q46, s46, q49, s49, q64, s64, q65, s65, tabs_gn, ↓EVdn, EVup, lp_succ, goInt, splice, okC, Fr.of, Fr.ofI, Fr.g, Nat.reduceAdd, Nat.reduceMul, Nat.reduceEqDiff, Nat.reduceLT, Nat.reduceLeDiff, Nat.reduceBEq, Int.reduceLT, Int.reduceLE, Int.reduceToNat, Int.reduceAdd, Int.reduceSub, Int.reduceMul, Int.reduceEq, Int.reduceNeg, ↓reduceIte, ↓reduceDIte, Nat.beq, reduceCtorEq, Value.int.injEq, Nat.reduceSub, flat_int, flat_bool, flat_done, regs_flat, flat_i5, flat_need, flat_t2, flat_bt, hk, upd_upd, rng, decide_true, doneT, q47, s47, wrap_0, ar, br, ht, et]
theorem done_1 (n : Nat) (H : Hp) (R F : Nat → Int) (pc ld : Int) :
    evCall cfc (n+14) 20 [.agg (regs R F pc).toArray, .agg #[.int .i64 1, .int .i64 0, .int .i64 0, .int .i64 0, .int .i64 0], .int .u64 ld] H =
      some (.ret (doneT (upd R 0 0) F (IntKind.wrap .u32 (pc + 4)) 0 0), H) := by
  rw [q20 (n+13) _ _ _ (regs_flat _ _ _) rfl rfl H]
  have hk : chkV 1 0 0 0 0 = 0 := by decide
  have rng : (0 ≤ (1 : Int) ∧ (1 : Int) < 72) = True := by simp
  have szz : sizeV 1 = 0 := rfl
  have fv : formV 1 = 1 := rfl
  simp -implicitDefEqProofs only [s20, v32, v33, s22, q22, v41, szz, q34, s34, v15, fv, q46, s46, q49, s49, q64, s64, q65, s65, tabs_gn, ↓EVdn, EVup, lp_succ, goInt, splice, okC, Fr.of, Fr.ofI, Fr.g, Nat.reduceAdd, Nat.reduceMul, Nat.reduceEqDiff, Nat.reduceLT, Nat.reduceLeDiff, Nat.reduceBEq, Int.reduceLT, Int.reduceLE, Int.reduceToNat, Int.reduceAdd, Int.reduceSub, Int.reduceMul, Int.reduceEq, Int.reduceNeg, ↓reduceIte, ↓reduceDIte, Nat.beq, reduceCtorEq, Value.int.injEq, Nat.reduceSub, flat_int, flat_bool, flat_done, regs_flat, flat_i5, flat_need, flat_t2, flat_bt, hk, upd_upd, rng, decide_true, doneT]
theorem done_64 (n : Nat) (H : Hp) (R F : Nat → Int) (pc ld : Int) :
    evCall cfc (n+14) 20 [.agg (regs R F pc).toArray, .agg #[.int .i64 64, .int .i64 0, .int .i64 0, .int .i64 0, .int .i64 0], .int .u64 ld] H =
      some (.ret (doneT (upd R 0 0) F (pc) 0 0), H) := by
  rw [q20 (n+13) _ _ _ (regs_flat _ _ _) rfl rfl H]
  have hk : chkV 64 0 0 0 0 = 0 := by decide
  have rng : (0 ≤ (64 : Int) ∧ (64 : Int) < 72) = True := by simp
  have szz : sizeV 64 = 0 := rfl
  have fv : formV 64 = 1 := rfl
  simp -implicitDefEqProofs only [s20, v32, v33, s22, q22, v41, szz, q34, s34, v15, fv, q46, s46, q49, s49, q64, s64, q65, s65, tabs_gn, ↓EVdn, EVup, lp_succ, goInt, splice, okC, Fr.of, Fr.ofI, Fr.g, Nat.reduceAdd, Nat.reduceMul, Nat.reduceEqDiff, Nat.reduceLT, Nat.reduceLeDiff, Nat.reduceBEq, Int.reduceLT, Int.reduceLE, Int.reduceToNat, Int.reduceAdd, Int.reduceSub, Int.reduceMul, Int.reduceEq, Int.reduceNeg, ↓reduceIte, ↓reduceDIte, Nat.beq, reduceCtorEq, Value.int.injEq, Nat.reduceSub, flat_int, flat_bool, flat_done, regs_flat, flat_i5, flat_need, flat_t2, flat_bt, hk, upd_upd, rng, decide_true, doneT]
theorem done_65 (n : Nat) (H : Hp) (R F : Nat → Int) (pc ld : Int) :
    evCall cfc (n+14) 20 [.agg (regs R F pc).toArray, .agg #[.int .i64 65, .int .i64 0, .int .i64 0, .int .i64 0, .int .i64 0], .int .u64 ld] H =
      some (.ret (doneT (upd R 0 0) F (pc) 0 0), H) := by
  rw [q20 (n+13) _ _ _ (regs_flat _ _ _) rfl rfl H]
  have hk : chkV 65 0 0 0 0 = 0 := by decide
  have rng : (0 ≤ (65 : Int) ∧ (65 : Int) < 72) = True := by simp
  have szz : sizeV 65 = 0 := rfl
  have fv : formV 65 = 1 := rfl
  simp -implicitDefEqProofs only [s20, v32, v33, s22, q22, v41, szz, q34, s34, v15, fv, q46, s46, q49, s49, q64, s64, q65, s65, tabs_gn, ↓EVdn, EVup, lp_succ, goInt, splice, okC, Fr.of, Fr.ofI, Fr.g, Nat.reduceAdd, Nat.reduceMul, Nat.reduceEqDiff, Nat.reduceLT, Nat.reduceLeDiff, Nat.reduceBEq, Int.reduceLT, Int.reduceLE, Int.reduceToNat, Int.reduceAdd, Int.reduceSub, Int.reduceMul, Int.reduceEq, Int.reduceNeg, ↓reduceIte, ↓reduceDIte, Nat.beq, reduceCtorEq, Value.int.injEq, Nat.reduceSub, flat_int, flat_bool, flat_done, regs_flat, flat_i5, flat_need, flat_t2, flat_bt, hk, upd_upd, rng, decide_true, doneT]
theorem done_66 (n : Nat) (H : Hp) (R F : Nat → Int) (pc ld : Int) :
    evCall cfc (n+14) 20 [.agg (regs R F pc).toArray, .agg #[.int .i64 66, .int .i64 0, .int .i64 0, .int .i64 0, .int .i64 0], .int .u64 ld] H =
      some (.ret (doneT (upd R 0 0) F (pc) 0 0), H) := by
  rw [q20 (n+13) _ _ _ (regs_flat _ _ _) rfl rfl H]
  have hk : chkV 66 0 0 0 0 = 0 := by decide
  have rng : (0 ≤ (66 : Int) ∧ (66 : Int) < 72) = True := by simp
  have szz : sizeV 66 = 0 := rfl
  have fv : formV 66 = 1 := rfl
  simp -implicitDefEqProofs only [s20, v32, v33, s22, q22, v41, szz, q34, s34, v15, fv, q46, s46, q49, s49, q64, s64, q65, s65, tabs_gn, ↓EVdn, EVup, lp_succ, goInt, splice, okC, Fr.of, Fr.ofI, Fr.g, Nat.reduceAdd, Nat.reduceMul, Nat.reduceEqDiff, Nat.reduceLT, Nat.reduceLeDiff, Nat.reduceBEq, Int.reduceLT, Int.reduceLE, Int.reduceToNat, Int.reduceAdd, Int.reduceSub, Int.reduceMul, Int.reduceEq, Int.reduceNeg, ↓reduceIte, ↓reduceDIte, Nat.beq, reduceCtorEq, Value.int.injEq, Nat.reduceSub, flat_int, flat_bool, flat_done, regs_flat, flat_i5, flat_need, flat_t2, flat_bt, hk, upd_upd, rng, decide_true, doneT]
theorem done_67 (n : Nat) (H : Hp) (R F : Nat → Int) (pc ld : Int) :
    evCall cfc (n+14) 20 [.agg (regs R F pc).toArray, .agg #[.int .i64 67, .int .i64 0, .int .i64 0, .int .i64 0, .int .i64 0], .int .u64 ld] H =
      some (.ret (doneT (upd R 0 0) F (pc) 0 0), H) := by
  rw [q20 (n+13) _ _ _ (regs_flat _ _ _) rfl rfl H]
  have hk : chkV 67 0 0 0 0 = 0 := by decide
  have rng : (0 ≤ (67 : Int) ∧ (67 : Int) < 72) = True := by simp
  have szz : sizeV 67 = 0 := rfl
  have fv : formV 67 = 1 := rfl
  simp -implicitDefEqProofs only [s20, v32, v33, s22, q22, v41, szz, q34, s34, v15, fv, q46, s46, q49, s49, q64, s64, q65, s65, tabs_gn, ↓EVdn, EVup, lp_succ, goInt, splice, okC, Fr.of, Fr.ofI, Fr.g, Nat.reduceAdd, Nat.reduceMul, Nat.reduceEqDiff, Nat.reduceLT, Nat.reduceLeDiff, Nat.reduceBEq, Int.reduceLT, Int.reduceLE, Int.reduceToNat, Int.reduceAdd, Int.reduceSub, Int.reduceMul, Int.reduceEq, Int.reduceNeg, ↓reduceIte, ↓reduceDIte, Nat.beq, reduceCtorEq, Value.int.injEq, Nat.reduceSub, flat_int, flat_bool, flat_done, regs_flat, flat_i5, flat_need, flat_t2, flat_bt, hk, upd_upd, rng, decide_true, doneT]
theorem done_70 (n : Nat) (H : Hp) (R F : Nat → Int) (pc ld : Int) :
    evCall cfc (n+14) 20 [.agg (regs R F pc).toArray, .agg #[.int .i64 70, .int .i64 0, .int .i64 0, .int .i64 0, .int .i64 0], .int .u64 ld] H =
      some (.ret (doneT (upd R 0 0) F (pc) 0 0), H) := by
  rw [q20 (n+13) _ _ _ (regs_flat _ _ _) rfl rfl H]
  have hk : chkV 70 0 0 0 0 = 0 := by decide
  have rng : (0 ≤ (70 : Int) ∧ (70 : Int) < 72) = True := by simp
  have szz : sizeV 70 = 0 := rfl
  have fv : formV 70 = 1 := rfl
  simp -implicitDefEqProofs only [s20, v32, v33, s22, q22, v41, szz, q34, s34, v15, fv, q46, s46, q49, s49, q64, s64, q65, s65, tabs_gn, ↓EVdn, EVup, lp_succ, goInt, splice, okC, Fr.of, Fr.ofI, Fr.g, Nat.reduceAdd, Nat.reduceMul, Nat.reduceEqDiff, Nat.reduceLT, Nat.reduceLeDiff, Nat.reduceBEq, Int.reduceLT, Int.reduceLE, Int.reduceToNat, Int.reduceAdd, Int.reduceSub, Int.reduceMul, Int.reduceEq, Int.reduceNeg, ↓reduceIte, ↓reduceDIte, Nat.beq, reduceCtorEq, Value.int.injEq, Nat.reduceSub, flat_int, flat_bool, flat_done, regs_flat, flat_i5, flat_need, flat_t2, flat_bt, hk, upd_upd, rng, decide_true, doneT]
theorem done_71 (n : Nat) (H : Hp) (R F : Nat → Int) (pc ld : Int) :
    evCall cfc (n+14) 20 [.agg (regs R F pc).toArray, .agg #[.int .i64 71, .int .i64 0, .int .i64 0, .int .i64 0, .int .i64 0], .int .u64 ld] H =
      some (.ret (doneT (upd R 0 0) F (pc) 0 0), H) := by
  rw [q20 (n+13) _ _ _ (regs_flat _ _ _) rfl rfl H]
  have hk : chkV 71 0 0 0 0 = 0 := by decide
  have rng : (0 ≤ (71 : Int) ∧ (71 : Int) < 72) = True := by simp
  have szz : sizeV 71 = 0 := rfl
  have fv : formV 71 = 1 := rfl
  simp -implicitDefEqProofs only [s20, v32, v33, s22, q22, v41, szz, q34, s34, v15, fv, q46, s46, q49, s49, q64, s64, q65, s65, tabs_gn, ↓EVdn, EVup, lp_succ, goInt, splice, okC, Fr.of, Fr.ofI, Fr.g, Nat.reduceAdd, Nat.reduceMul, Nat.reduceEqDiff, Nat.reduceLT, Nat.reduceLeDiff, Nat.reduceBEq, Int.reduceLT, Int.reduceLE, Int.reduceToNat, Int.reduceAdd, Int.reduceSub, Int.reduceMul, Int.reduceEq, Int.reduceNeg, ↓reduceIte, ↓reduceDIte, Nat.beq, reduceCtorEq, Value.int.injEq, Nat.reduceSub, flat_int, flat_bool, flat_done, regs_flat, flat_i5, flat_need, flat_t2, flat_bt, hk, upd_upd, rng, decide_true, doneT]
theorem done_68 (n : Nat) (H : Hp) (R F : Nat → Int) (pc A I ld : Int) (hk : chkV 68 A 0 0 I = 0) :
    evCall cfc (n+14) 20 [.agg (regs R F pc).toArray, .agg #[.int .i64 68, .int .i64 A, .int .i64 0, .int .i64 0, .int .i64 I], .int .u64 ld] H =
      some (.ret (doneT (upd R 0 0) F pc 0 0), H) := by
  rw [q20 (n+13) _ _ _ (regs_flat _ _ _) rfl rfl H]
  have rng : (0 ≤ (68 : Int) ∧ (68 : Int) < 72) = True := by simp
  have szz : sizeV 68 = 0 := rfl
  have fv : formV 68 = 15 := rfl
  simp -implicitDefEqProofs only [s20, v32, v33, s22, q22, v41, szz, q34, s34, v15, fv, q46, s46, q49, s49, q64, s64, q65, s65, tabs_gn, ↓EVdn, EVup, lp_succ, goInt, splice, okC, Fr.of, Fr.ofI, Fr.g, Nat.reduceAdd, Nat.reduceMul, Nat.reduceEqDiff, Nat.reduceLT, Nat.reduceLeDiff, Nat.reduceBEq, Int.reduceLT, Int.reduceLE, Int.reduceToNat, Int.reduceAdd, Int.reduceSub, Int.reduceMul, Int.reduceEq, Int.reduceNeg, ↓reduceIte, ↓reduceDIte, Nat.beq, reduceCtorEq, Value.int.injEq, Nat.reduceSub, flat_int, flat_bool, flat_done, regs_flat, flat_i5, flat_need, flat_t2, flat_bt, hk, upd_upd, rng, decide_true, doneT]
theorem done_69 (n : Nat) (H : Hp) (R F : Nat → Int) (pc A I ld : Int) (hk : chkV 69 A 0 0 I = 0) :
    evCall cfc (n+14) 20 [.agg (regs R F pc).toArray, .agg #[.int .i64 69, .int .i64 A, .int .i64 0, .int .i64 0, .int .i64 I], .int .u64 ld] H =
      some (.ret (doneT (upd R 0 0) F pc 0 0), H) := by
  rw [q20 (n+13) _ _ _ (regs_flat _ _ _) rfl rfl H]
  have rng : (0 ≤ (69 : Int) ∧ (69 : Int) < 72) = True := by simp
  have szz : sizeV 69 = 0 := rfl
  have fv : formV 69 = 15 := rfl
  simp -implicitDefEqProofs only [s20, v32, v33, s22, q22, v41, szz, q34, s34, v15, fv, q46, s46, q49, s49, q64, s64, q65, s65, tabs_gn, ↓EVdn, EVup, lp_succ, goInt, splice, okC, Fr.of, Fr.ofI, Fr.g, Nat.reduceAdd, Nat.reduceMul, Nat.reduceEqDiff, Nat.reduceLT, Nat.reduceLeDiff, Nat.reduceBEq, Int.reduceLT, Int.reduceLE, Int.reduceToNat, Int.reduceAdd, Int.reduceSub, Int.reduceMul, Int.reduceEq, Int.reduceNeg, ↓reduceIte, ↓reduceDIte, Nat.beq, reduceCtorEq, Value.int.injEq, Nat.reduceSub, flat_int, flat_bool, flat_done, regs_flat, flat_i5, flat_need, flat_t2, flat_bt, hk, upd_upd, rng, decide_true, doneT]
end Go.Proofs.YthenglaoolmajaaDoor
