/- Access to memory: what an instruction needs; loads and stores, done. -/
import Derived.Test.YthenglaoolmajaaDoorEvBun
import Derived.Test.YthenglaoolmajaaDoorExecB
namespace Go.Proofs.YthenglaoolmajaaDoor
open Go Go.Ev
set_option maxRecDepth 100000
set_option linter.unusedSimpArgs false
set_option linter.unusedVariables false
set_option maxHeartbeats 2000000
set_option linter.unusedSectionVars false
variable [Xt]
attribute [local congr] bind_front callK_front jn_front ifB_front ifG_front lp_front
def adV (R : Nat → Int) (B I : Int) : Int := IntKind.wrap .u32 (upd R 0 0 B.toNat + IntKind.wrap .u32 I)
def needT (b : Bool) (x y z : Int) : Value := .agg #[.bool b, .int .u32 x, .int .i64 y, .int .u64 z]
theorem w32 : IntKind.wrap .i64 32 = 32 := by decide
theorem w16 : IntKind.wrap .i64 16 = 16 := by decide
theorem w8 : IntKind.wrap .i64 8 = 8 := by decide
theorem w64 : IntKind.wrap .i64 64 = 64 := by decide
theorem w24 : IntKind.wrap .i64 24 = 24 := by decide
theorem wu1 : IntKind.wrap .u32 1 = 1 := by decide
theorem wu2 : IntKind.wrap .u32 2 = 2 := by decide
theorem wu4 : IntKind.wrap .u32 4 = 4 := by decide
theorem wu8 : IntKind.wrap .u32 8 = 8 := by decide
theorem need_28 (n : Nat) (H : Hp) (R F : Nat → Int) (pc A B I : Int) (hA : 0 ≤ A ∧ A < 16) (hB : 0 ≤ B ∧ B < 16) (hk : chkV 28 A B 0 I = 0) :
    evCall cfc (n+12) 22 [.agg (regs R F pc).toArray, .agg #[.int .i64 28, .int .i64 A, .int .i64 B, .int .i64 0, .int .i64 I]] H = some (.ret (needT false (adV R B I) 4 (0)), H) := by
  rw [q22 (n+11) _ _ (regs_flat _ _ _) rfl H]
  have ar := rg165 hA
  have br := rg165 hB
  have rng : (0 ≤ (28 : Int) ∧ (28 : Int) < 72) = True := by simp
  have szz : sizeV 28 = 4 := rfl
  have ea : IntKind.wrap .u32 (upd R 0 0 B.toNat + IntKind.wrap .u32 I) = adV R B I := rfl
  simp -implicitDefEqProofs only [s22, v41, v33, v32, rng, szz, hk, tabs_gn, ↓EVdn, EVup, lp_succ, goInt, splice, okC, Fr.of, Fr.ofI, Fr.g, Nat.reduceAdd, Nat.reduceMul, Nat.reduceEqDiff, Nat.reduceLT, Nat.reduceLeDiff, Nat.reduceBEq, Int.reduceLT, Int.reduceLE, Int.reduceToNat, Int.reduceAdd, Int.reduceSub, Int.reduceMul, Int.reduceEq, Int.reduceNeg, ↓reduceIte, ↓reduceDIte, Nat.beq, reduceCtorEq, Value.int.injEq, Nat.reduceSub, flat_need, flat_int, upd_upd, decide_true, needT, ea, ar, br, w32, w16, w8, w64, w24, wu1, wu2, wu4, wu8, wrap_0]
theorem need_29 (n : Nat) (H : Hp) (R F : Nat → Int) (pc A B I : Int) (hA : 0 ≤ A ∧ A < 16) (hB : 0 ≤ B ∧ B < 16) (hk : chkV 29 A B 0 I = 0) :
    evCall cfc (n+12) 22 [.agg (regs R F pc).toArray, .agg #[.int .i64 29, .int .i64 A, .int .i64 B, .int .i64 0, .int .i64 I]] H = some (.ret (needT false (adV R B I) 2 (0)), H) := by
  rw [q22 (n+11) _ _ (regs_flat _ _ _) rfl H]
  have ar := rg165 hA
  have br := rg165 hB
  have rng : (0 ≤ (29 : Int) ∧ (29 : Int) < 72) = True := by simp
  have szz : sizeV 29 = 2 := rfl
  have ea : IntKind.wrap .u32 (upd R 0 0 B.toNat + IntKind.wrap .u32 I) = adV R B I := rfl
  simp -implicitDefEqProofs only [s22, v41, v33, v32, rng, szz, hk, tabs_gn, ↓EVdn, EVup, lp_succ, goInt, splice, okC, Fr.of, Fr.ofI, Fr.g, Nat.reduceAdd, Nat.reduceMul, Nat.reduceEqDiff, Nat.reduceLT, Nat.reduceLeDiff, Nat.reduceBEq, Int.reduceLT, Int.reduceLE, Int.reduceToNat, Int.reduceAdd, Int.reduceSub, Int.reduceMul, Int.reduceEq, Int.reduceNeg, ↓reduceIte, ↓reduceDIte, Nat.beq, reduceCtorEq, Value.int.injEq, Nat.reduceSub, flat_need, flat_int, upd_upd, decide_true, needT, ea, ar, br, w32, w16, w8, w64, w24, wu1, wu2, wu4, wu8, wrap_0]
theorem need_30 (n : Nat) (H : Hp) (R F : Nat → Int) (pc A B I : Int) (hA : 0 ≤ A ∧ A < 16) (hB : 0 ≤ B ∧ B < 16) (hk : chkV 30 A B 0 I = 0) :
    evCall cfc (n+12) 22 [.agg (regs R F pc).toArray, .agg #[.int .i64 30, .int .i64 A, .int .i64 B, .int .i64 0, .int .i64 I]] H = some (.ret (needT false (adV R B I) 2 (0)), H) := by
  rw [q22 (n+11) _ _ (regs_flat _ _ _) rfl H]
  have ar := rg165 hA
  have br := rg165 hB
  have rng : (0 ≤ (30 : Int) ∧ (30 : Int) < 72) = True := by simp
  have szz : sizeV 30 = 2 := rfl
  have ea : IntKind.wrap .u32 (upd R 0 0 B.toNat + IntKind.wrap .u32 I) = adV R B I := rfl
  simp -implicitDefEqProofs only [s22, v41, v33, v32, rng, szz, hk, tabs_gn, ↓EVdn, EVup, lp_succ, goInt, splice, okC, Fr.of, Fr.ofI, Fr.g, Nat.reduceAdd, Nat.reduceMul, Nat.reduceEqDiff, Nat.reduceLT, Nat.reduceLeDiff, Nat.reduceBEq, Int.reduceLT, Int.reduceLE, Int.reduceToNat, Int.reduceAdd, Int.reduceSub, Int.reduceMul, Int.reduceEq, Int.reduceNeg, ↓reduceIte, ↓reduceDIte, Nat.beq, reduceCtorEq, Value.int.injEq, Nat.reduceSub, flat_need, flat_int, upd_upd, decide_true, needT, ea, ar, br, w32, w16, w8, w64, w24, wu1, wu2, wu4, wu8, wrap_0]
theorem need_31 (n : Nat) (H : Hp) (R F : Nat → Int) (pc A B I : Int) (hA : 0 ≤ A ∧ A < 16) (hB : 0 ≤ B ∧ B < 16) (hk : chkV 31 A B 0 I = 0) :
    evCall cfc (n+12) 22 [.agg (regs R F pc).toArray, .agg #[.int .i64 31, .int .i64 A, .int .i64 B, .int .i64 0, .int .i64 I]] H = some (.ret (needT false (adV R B I) 1 (0)), H) := by
  rw [q22 (n+11) _ _ (regs_flat _ _ _) rfl H]
  have ar := rg165 hA
  have br := rg165 hB
  have rng : (0 ≤ (31 : Int) ∧ (31 : Int) < 72) = True := by simp
  have szz : sizeV 31 = 1 := rfl
  have ea : IntKind.wrap .u32 (upd R 0 0 B.toNat + IntKind.wrap .u32 I) = adV R B I := rfl
  simp -implicitDefEqProofs only [s22, v41, v33, v32, rng, szz, hk, tabs_gn, ↓EVdn, EVup, lp_succ, goInt, splice, okC, Fr.of, Fr.ofI, Fr.g, Nat.reduceAdd, Nat.reduceMul, Nat.reduceEqDiff, Nat.reduceLT, Nat.reduceLeDiff, Nat.reduceBEq, Int.reduceLT, Int.reduceLE, Int.reduceToNat, Int.reduceAdd, Int.reduceSub, Int.reduceMul, Int.reduceEq, Int.reduceNeg, ↓reduceIte, ↓reduceDIte, Nat.beq, reduceCtorEq, Value.int.injEq, Nat.reduceSub, flat_need, flat_int, upd_upd, decide_true, needT, ea, ar, br, w32, w16, w8, w64, w24, wu1, wu2, wu4, wu8, wrap_0]
theorem need_32 (n : Nat) (H : Hp) (R F : Nat → Int) (pc A B I : Int) (hA : 0 ≤ A ∧ A < 16) (hB : 0 ≤ B ∧ B < 16) (hk : chkV 32 A B 0 I = 0) :
    evCall cfc (n+12) 22 [.agg (regs R F pc).toArray, .agg #[.int .i64 32, .int .i64 A, .int .i64 B, .int .i64 0, .int .i64 I]] H = some (.ret (needT false (adV R B I) 1 (0)), H) := by
  rw [q22 (n+11) _ _ (regs_flat _ _ _) rfl H]
  have ar := rg165 hA
  have br := rg165 hB
  have rng : (0 ≤ (32 : Int) ∧ (32 : Int) < 72) = True := by simp
  have szz : sizeV 32 = 1 := rfl
  have ea : IntKind.wrap .u32 (upd R 0 0 B.toNat + IntKind.wrap .u32 I) = adV R B I := rfl
  simp -implicitDefEqProofs only [s22, v41, v33, v32, rng, szz, hk, tabs_gn, ↓EVdn, EVup, lp_succ, goInt, splice, okC, Fr.of, Fr.ofI, Fr.g, Nat.reduceAdd, Nat.reduceMul, Nat.reduceEqDiff, Nat.reduceLT, Nat.reduceLeDiff, Nat.reduceBEq, Int.reduceLT, Int.reduceLE, Int.reduceToNat, Int.reduceAdd, Int.reduceSub, Int.reduceMul, Int.reduceEq, Int.reduceNeg, ↓reduceIte, ↓reduceDIte, Nat.beq, reduceCtorEq, Value.int.injEq, Nat.reduceSub, flat_need, flat_int, upd_upd, decide_true, needT, ea, ar, br, w32, w16, w8, w64, w24, wu1, wu2, wu4, wu8, wrap_0]
theorem need_33 (n : Nat) (H : Hp) (R F : Nat → Int) (pc A B I : Int) (hA : 0 ≤ A ∧ A < 16) (hB : 0 ≤ B ∧ B < 16) (hk : chkV 33 A B 0 I = 0) :
    evCall cfc (n+12) 22 [.agg (regs R F pc).toArray, .agg #[.int .i64 33, .int .i64 A, .int .i64 B, .int .i64 0, .int .i64 I]] H = some (.ret (needT true (adV R B I) 4 (andK .u64 (IntKind.wrap .u64 (upd R 0 0 A.toNat)) (IntKind.wrap .u64 (shlK .u64 1 32 - 1)))), H) := by
  rw [q22 (n+11) _ _ (regs_flat _ _ _) rfl H]
  have ar := rg165 hA
  have br := rg165 hB
  have rng : (0 ≤ (33 : Int) ∧ (33 : Int) < 72) = True := by simp
  have szz : sizeV 33 = 4 := rfl
  have ea : IntKind.wrap .u32 (upd R 0 0 B.toNat + IntKind.wrap .u32 I) = adV R B I := rfl
  simp -implicitDefEqProofs only [s22, v41, v33, v32, rng, szz, hk, tabs_gn, ↓EVdn, EVup, lp_succ, goInt, splice, okC, Fr.of, Fr.ofI, Fr.g, Nat.reduceAdd, Nat.reduceMul, Nat.reduceEqDiff, Nat.reduceLT, Nat.reduceLeDiff, Nat.reduceBEq, Int.reduceLT, Int.reduceLE, Int.reduceToNat, Int.reduceAdd, Int.reduceSub, Int.reduceMul, Int.reduceEq, Int.reduceNeg, ↓reduceIte, ↓reduceDIte, Nat.beq, reduceCtorEq, Value.int.injEq, Nat.reduceSub, flat_need, flat_int, upd_upd, decide_true, needT, ea, ar, br, w32, w16, w8, w64, w24, wu1, wu2, wu4, wu8, wrap_0]
theorem need_34 (n : Nat) (H : Hp) (R F : Nat → Int) (pc A B I : Int) (hA : 0 ≤ A ∧ A < 16) (hB : 0 ≤ B ∧ B < 16) (hk : chkV 34 A B 0 I = 0) :
    evCall cfc (n+12) 22 [.agg (regs R F pc).toArray, .agg #[.int .i64 34, .int .i64 A, .int .i64 B, .int .i64 0, .int .i64 I]] H = some (.ret (needT true (adV R B I) 2 (andK .u64 (IntKind.wrap .u64 (upd R 0 0 A.toNat)) (IntKind.wrap .u64 (shlK .u64 1 16 - 1)))), H) := by
  rw [q22 (n+11) _ _ (regs_flat _ _ _) rfl H]
  have ar := rg165 hA
  have br := rg165 hB
  have rng : (0 ≤ (34 : Int) ∧ (34 : Int) < 72) = True := by simp
  have szz : sizeV 34 = 2 := rfl
  have ea : IntKind.wrap .u32 (upd R 0 0 B.toNat + IntKind.wrap .u32 I) = adV R B I := rfl
  simp -implicitDefEqProofs only [s22, v41, v33, v32, rng, szz, hk, tabs_gn, ↓EVdn, EVup, lp_succ, goInt, splice, okC, Fr.of, Fr.ofI, Fr.g, Nat.reduceAdd, Nat.reduceMul, Nat.reduceEqDiff, Nat.reduceLT, Nat.reduceLeDiff, Nat.reduceBEq, Int.reduceLT, Int.reduceLE, Int.reduceToNat, Int.reduceAdd, Int.reduceSub, Int.reduceMul, Int.reduceEq, Int.reduceNeg, ↓reduceIte, ↓reduceDIte, Nat.beq, reduceCtorEq, Value.int.injEq, Nat.reduceSub, flat_need, flat_int, upd_upd, decide_true, needT, ea, ar, br, w32, w16, w8, w64, w24, wu1, wu2, wu4, wu8, wrap_0]
theorem need_35 (n : Nat) (H : Hp) (R F : Nat → Int) (pc A B I : Int) (hA : 0 ≤ A ∧ A < 16) (hB : 0 ≤ B ∧ B < 16) (hk : chkV 35 A B 0 I = 0) :
    evCall cfc (n+12) 22 [.agg (regs R F pc).toArray, .agg #[.int .i64 35, .int .i64 A, .int .i64 B, .int .i64 0, .int .i64 I]] H = some (.ret (needT true (adV R B I) 1 (andK .u64 (IntKind.wrap .u64 (upd R 0 0 A.toNat)) (IntKind.wrap .u64 (shlK .u64 1 8 - 1)))), H) := by
  rw [q22 (n+11) _ _ (regs_flat _ _ _) rfl H]
  have ar := rg165 hA
  have br := rg165 hB
  have rng : (0 ≤ (35 : Int) ∧ (35 : Int) < 72) = True := by simp
  have szz : sizeV 35 = 1 := rfl
  have ea : IntKind.wrap .u32 (upd R 0 0 B.toNat + IntKind.wrap .u32 I) = adV R B I := rfl
  simp -implicitDefEqProofs only [s22, v41, v33, v32, rng, szz, hk, tabs_gn, ↓EVdn, EVup, lp_succ, goInt, splice, okC, Fr.of, Fr.ofI, Fr.g, Nat.reduceAdd, Nat.reduceMul, Nat.reduceEqDiff, Nat.reduceLT, Nat.reduceLeDiff, Nat.reduceBEq, Int.reduceLT, Int.reduceLE, Int.reduceToNat, Int.reduceAdd, Int.reduceSub, Int.reduceMul, Int.reduceEq, Int.reduceNeg, ↓reduceIte, ↓reduceDIte, Nat.beq, reduceCtorEq, Value.int.injEq, Nat.reduceSub, flat_need, flat_int, upd_upd, decide_true, needT, ea, ar, br, w32, w16, w8, w64, w24, wu1, wu2, wu4, wu8, wrap_0]
theorem need_36 (n : Nat) (H : Hp) (R F : Nat → Int) (pc A B I : Int) (hA : 0 ≤ A ∧ A < 8) (hB : 0 ≤ B ∧ B < 16) (hk : chkV 36 A B 0 I = 0) :
    evCall cfc (n+12) 22 [.agg (regs R F pc).toArray, .agg #[.int .i64 36, .int .i64 A, .int .i64 B, .int .i64 0, .int .i64 I]] H = some (.ret (needT false (adV R B I) 8 (0)), H) := by
  rw [q22 (n+11) _ _ (regs_flat _ _ _) rfl H]
  have ar := rg85 hA
  have br := rg165 hB
  have rng : (0 ≤ (36 : Int) ∧ (36 : Int) < 72) = True := by simp
  have szz : sizeV 36 = 8 := rfl
  have ea : IntKind.wrap .u32 (upd R 0 0 B.toNat + IntKind.wrap .u32 I) = adV R B I := rfl
  simp -implicitDefEqProofs only [s22, v41, v33, v32, rng, szz, hk, tabs_gn, ↓EVdn, EVup, lp_succ, goInt, splice, okC, Fr.of, Fr.ofI, Fr.g, Nat.reduceAdd, Nat.reduceMul, Nat.reduceEqDiff, Nat.reduceLT, Nat.reduceLeDiff, Nat.reduceBEq, Int.reduceLT, Int.reduceLE, Int.reduceToNat, Int.reduceAdd, Int.reduceSub, Int.reduceMul, Int.reduceEq, Int.reduceNeg, ↓reduceIte, ↓reduceDIte, Nat.beq, reduceCtorEq, Value.int.injEq, Nat.reduceSub, flat_need, flat_int, upd_upd, decide_true, needT, ea, ar, br, w32, w16, w8, w64, w24, wu1, wu2, wu4, wu8, wrap_0]
theorem need_37 (n : Nat) (H : Hp) (R F : Nat → Int) (pc A B I : Int) (hA : 0 ≤ A ∧ A < 8) (hB : 0 ≤ B ∧ B < 16) (hk : chkV 37 A B 0 I = 0) :
    evCall cfc (n+12) 22 [.agg (regs R F pc).toArray, .agg #[.int .i64 37, .int .i64 A, .int .i64 B, .int .i64 0, .int .i64 I]] H = some (.ret (needT true (adV R B I) 8 (F A.toNat)), H) := by
  rw [q22 (n+11) _ _ (regs_flat _ _ _) rfl H]
  have ar := rg85 hA
  have br := rg165 hB
  have rng : (0 ≤ (37 : Int) ∧ (37 : Int) < 72) = True := by simp
  have szz : sizeV 37 = 8 := rfl
  have ea : IntKind.wrap .u32 (upd R 0 0 B.toNat + IntKind.wrap .u32 I) = adV R B I := rfl
  simp -implicitDefEqProofs only [s22, v41, v33, v32, rng, szz, hk, tabs_gn, ↓EVdn, EVup, lp_succ, goInt, splice, okC, Fr.of, Fr.ofI, Fr.g, Nat.reduceAdd, Nat.reduceMul, Nat.reduceEqDiff, Nat.reduceLT, Nat.reduceLeDiff, Nat.reduceBEq, Int.reduceLT, Int.reduceLE, Int.reduceToNat, Int.reduceAdd, Int.reduceSub, Int.reduceMul, Int.reduceEq, Int.reduceNeg, ↓reduceIte, ↓reduceDIte, Nat.beq, reduceCtorEq, Value.int.injEq, Nat.reduceSub, flat_need, flat_int, upd_upd, decide_true, needT, ea, ar, br, w32, w16, w8, w64, w24, wu1, wu2, wu4, wu8, wrap_0]
theorem done_28 (n : Nat) (H : Hp) (R F : Nat → Int) (pc A B I ld : Int) (hA : 0 ≤ A ∧ A < 16) (hB : 0 ≤ B ∧ B < 16) (hk : chkV 28 A B 0 I = 0) :
    evCall cfc (n+14) 20 [.agg (regs R F pc).toArray, .agg #[.int .i64 28, .int .i64 A, .int .i64 B, .int .i64 0, .int .i64 I], .int .u64 ld] H =
      some (.ret (if (adV R B I).tmod 4 = 0 then doneT (upd (upd (upd R 0 0) A.toNat (IntKind.wrap .u32 ld)) 0 0) F (IntKind.wrap .u32 (pc + 4)) 0 0 else doneT (upd R 0 0) F pc 5 (adV R B I)), H) := by
  rw [q20 (n+13) _ _ _ (regs_flat _ _ _) rfl rfl H]
  have ar := rg165 hA
  have br := rg165 hB
  have rng : (0 ≤ (28 : Int) ∧ (28 : Int) < 72) = True := by simp
  have szz : sizeV 28 = 4 := rfl
  have fv : formV 28 = 5 := rfl
  have ea : adV (upd R 0 0) B I = adV R B I := by simp only [adV, upd_upd]
  by_cases ht : (adV R B I).tmod 4 = 0
  all_goals simp -implicitDefEqProofs only [s20, v32, v33, need_28, q34, s34, v15, fv, q47, s47, v41, rng, szz, q66, s66, q65, s65, q67, s67, tabs_gn, ↓EVdn, EVup, lp_succ, goInt, splice, okC, Fr.of, Fr.ofI, Fr.g, Nat.reduceAdd, Nat.reduceMul, Nat.reduceEqDiff, Nat.reduceLT, Nat.reduceLeDiff, Nat.reduceBEq, Int.reduceLT, Int.reduceLE, Int.reduceToNat, Int.reduceAdd, Int.reduceSub, Int.reduceMul, Int.reduceEq, Int.reduceNeg, ↓reduceIte, ↓reduceDIte, Nat.beq, reduceCtorEq, Value.int.injEq, Nat.reduceSub, flat_int, flat_bool, flat_done, regs_flat, flat_i5, flat_need, hk, upd_upd, decide_true, doneT, needT, ar, br, w32, w16, w8, w64, w24, wu1, wu2, wu4, wu8, wrap_0, ht, ea]
theorem done_29 (n : Nat) (H : Hp) (R F : Nat → Int) (pc A B I ld : Int) (hA : 0 ≤ A ∧ A < 16) (hB : 0 ≤ B ∧ B < 16) (hk : chkV 29 A B 0 I = 0) :
    evCall cfc (n+14) 20 [.agg (regs R F pc).toArray, .agg #[.int .i64 29, .int .i64 A, .int .i64 B, .int .i64 0, .int .i64 I], .int .u64 ld] H =
      some (.ret (if (adV R B I).tmod 2 = 0 then doneT (upd (upd (upd R 0 0) A.toNat (IntKind.wrap .u32 (shrK .i32 (IntKind.wrap .i32 (shlK .u32 (IntKind.wrap .u32 ld) 16)) 16))) 0 0) F (IntKind.wrap .u32 (pc + 4)) 0 0 else doneT (upd R 0 0) F pc 5 (adV R B I)), H) := by
  rw [q20 (n+13) _ _ _ (regs_flat _ _ _) rfl rfl H]
  have ar := rg165 hA
  have br := rg165 hB
  have rng : (0 ≤ (29 : Int) ∧ (29 : Int) < 72) = True := by simp
  have szz : sizeV 29 = 2 := rfl
  have fv : formV 29 = 5 := rfl
  have ea : adV (upd R 0 0) B I = adV R B I := by simp only [adV, upd_upd]
  by_cases ht : (adV R B I).tmod 2 = 0
  all_goals simp -implicitDefEqProofs only [s20, v32, v33, need_29, q34, s34, v15, fv, q47, s47, v41, rng, szz, q66, s66, q65, s65, q67, s67, tabs_gn, ↓EVdn, EVup, lp_succ, goInt, splice, okC, Fr.of, Fr.ofI, Fr.g, Nat.reduceAdd, Nat.reduceMul, Nat.reduceEqDiff, Nat.reduceLT, Nat.reduceLeDiff, Nat.reduceBEq, Int.reduceLT, Int.reduceLE, Int.reduceToNat, Int.reduceAdd, Int.reduceSub, Int.reduceMul, Int.reduceEq, Int.reduceNeg, ↓reduceIte, ↓reduceDIte, Nat.beq, reduceCtorEq, Value.int.injEq, Nat.reduceSub, flat_int, flat_bool, flat_done, regs_flat, flat_i5, flat_need, hk, upd_upd, decide_true, doneT, needT, ar, br, w32, w16, w8, w64, w24, wu1, wu2, wu4, wu8, wrap_0, ht, ea]
theorem done_30 (n : Nat) (H : Hp) (R F : Nat → Int) (pc A B I ld : Int) (hA : 0 ≤ A ∧ A < 16) (hB : 0 ≤ B ∧ B < 16) (hk : chkV 30 A B 0 I = 0) :
    evCall cfc (n+14) 20 [.agg (regs R F pc).toArray, .agg #[.int .i64 30, .int .i64 A, .int .i64 B, .int .i64 0, .int .i64 I], .int .u64 ld] H =
      some (.ret (if (adV R B I).tmod 2 = 0 then doneT (upd (upd (upd R 0 0) A.toNat (shrK .u32 (shlK .u32 (IntKind.wrap .u32 ld) 16) 16)) 0 0) F (IntKind.wrap .u32 (pc + 4)) 0 0 else doneT (upd R 0 0) F pc 5 (adV R B I)), H) := by
  rw [q20 (n+13) _ _ _ (regs_flat _ _ _) rfl rfl H]
  have ar := rg165 hA
  have br := rg165 hB
  have rng : (0 ≤ (30 : Int) ∧ (30 : Int) < 72) = True := by simp
  have szz : sizeV 30 = 2 := rfl
  have fv : formV 30 = 5 := rfl
  have ea : adV (upd R 0 0) B I = adV R B I := by simp only [adV, upd_upd]
  by_cases ht : (adV R B I).tmod 2 = 0
  all_goals simp -implicitDefEqProofs only [s20, v32, v33, need_30, q34, s34, v15, fv, q47, s47, v41, rng, szz, q66, s66, q65, s65, q67, s67, tabs_gn, ↓EVdn, EVup, lp_succ, goInt, splice, okC, Fr.of, Fr.ofI, Fr.g, Nat.reduceAdd, Nat.reduceMul, Nat.reduceEqDiff, Nat.reduceLT, Nat.reduceLeDiff, Nat.reduceBEq, Int.reduceLT, Int.reduceLE, Int.reduceToNat, Int.reduceAdd, Int.reduceSub, Int.reduceMul, Int.reduceEq, Int.reduceNeg, ↓reduceIte, ↓reduceDIte, Nat.beq, reduceCtorEq, Value.int.injEq, Nat.reduceSub, flat_int, flat_bool, flat_done, regs_flat, flat_i5, flat_need, hk, upd_upd, decide_true, doneT, needT, ar, br, w32, w16, w8, w64, w24, wu1, wu2, wu4, wu8, wrap_0, ht, ea]
theorem done_31 (n : Nat) (H : Hp) (R F : Nat → Int) (pc A B I ld : Int) (hA : 0 ≤ A ∧ A < 16) (hB : 0 ≤ B ∧ B < 16) (hk : chkV 31 A B 0 I = 0) :
    evCall cfc (n+14) 20 [.agg (regs R F pc).toArray, .agg #[.int .i64 31, .int .i64 A, .int .i64 B, .int .i64 0, .int .i64 I], .int .u64 ld] H =
      some (.ret (if (adV R B I).tmod 1 = 0 then doneT (upd (upd (upd R 0 0) A.toNat (IntKind.wrap .u32 (shrK .i32 (IntKind.wrap .i32 (shlK .u32 (IntKind.wrap .u32 ld) 24)) 24))) 0 0) F (IntKind.wrap .u32 (pc + 4)) 0 0 else doneT (upd R 0 0) F pc 5 (adV R B I)), H) := by
  rw [q20 (n+13) _ _ _ (regs_flat _ _ _) rfl rfl H]
  have ar := rg165 hA
  have br := rg165 hB
  have rng : (0 ≤ (31 : Int) ∧ (31 : Int) < 72) = True := by simp
  have szz : sizeV 31 = 1 := rfl
  have fv : formV 31 = 5 := rfl
  have ea : adV (upd R 0 0) B I = adV R B I := by simp only [adV, upd_upd]
  by_cases ht : (adV R B I).tmod 1 = 0
  all_goals simp -implicitDefEqProofs only [s20, v32, v33, need_31, q34, s34, v15, fv, q47, s47, v41, rng, szz, q66, s66, q65, s65, q67, s67, tabs_gn, ↓EVdn, EVup, lp_succ, goInt, splice, okC, Fr.of, Fr.ofI, Fr.g, Nat.reduceAdd, Nat.reduceMul, Nat.reduceEqDiff, Nat.reduceLT, Nat.reduceLeDiff, Nat.reduceBEq, Int.reduceLT, Int.reduceLE, Int.reduceToNat, Int.reduceAdd, Int.reduceSub, Int.reduceMul, Int.reduceEq, Int.reduceNeg, ↓reduceIte, ↓reduceDIte, Nat.beq, reduceCtorEq, Value.int.injEq, Nat.reduceSub, flat_int, flat_bool, flat_done, regs_flat, flat_i5, flat_need, hk, upd_upd, decide_true, doneT, needT, ar, br, w32, w16, w8, w64, w24, wu1, wu2, wu4, wu8, wrap_0, ht, ea]
theorem done_32 (n : Nat) (H : Hp) (R F : Nat → Int) (pc A B I ld : Int) (hA : 0 ≤ A ∧ A < 16) (hB : 0 ≤ B ∧ B < 16) (hk : chkV 32 A B 0 I = 0) :
    evCall cfc (n+14) 20 [.agg (regs R F pc).toArray, .agg #[.int .i64 32, .int .i64 A, .int .i64 B, .int .i64 0, .int .i64 I], .int .u64 ld] H =
      some (.ret (if (adV R B I).tmod 1 = 0 then doneT (upd (upd (upd R 0 0) A.toNat (shrK .u32 (shlK .u32 (IntKind.wrap .u32 ld) 24) 24)) 0 0) F (IntKind.wrap .u32 (pc + 4)) 0 0 else doneT (upd R 0 0) F pc 5 (adV R B I)), H) := by
  rw [q20 (n+13) _ _ _ (regs_flat _ _ _) rfl rfl H]
  have ar := rg165 hA
  have br := rg165 hB
  have rng : (0 ≤ (32 : Int) ∧ (32 : Int) < 72) = True := by simp
  have szz : sizeV 32 = 1 := rfl
  have fv : formV 32 = 5 := rfl
  have ea : adV (upd R 0 0) B I = adV R B I := by simp only [adV, upd_upd]
  by_cases ht : (adV R B I).tmod 1 = 0
  all_goals simp -implicitDefEqProofs only [s20, v32, v33, need_32, q34, s34, v15, fv, q47, s47, v41, rng, szz, q66, s66, q65, s65, q67, s67, tabs_gn, ↓EVdn, EVup, lp_succ, goInt, splice, okC, Fr.of, Fr.ofI, Fr.g, Nat.reduceAdd, Nat.reduceMul, Nat.reduceEqDiff, Nat.reduceLT, Nat.reduceLeDiff, Nat.reduceBEq, Int.reduceLT, Int.reduceLE, Int.reduceToNat, Int.reduceAdd, Int.reduceSub, Int.reduceMul, Int.reduceEq, Int.reduceNeg, ↓reduceIte, ↓reduceDIte, Nat.beq, reduceCtorEq, Value.int.injEq, Nat.reduceSub, flat_int, flat_bool, flat_done, regs_flat, flat_i5, flat_need, hk, upd_upd, decide_true, doneT, needT, ar, br, w32, w16, w8, w64, w24, wu1, wu2, wu4, wu8, wrap_0, ht, ea]
theorem done_33 (n : Nat) (H : Hp) (R F : Nat → Int) (pc A B I ld : Int) (hA : 0 ≤ A ∧ A < 16) (hB : 0 ≤ B ∧ B < 16) (hk : chkV 33 A B 0 I = 0) :
    evCall cfc (n+14) 20 [.agg (regs R F pc).toArray, .agg #[.int .i64 33, .int .i64 A, .int .i64 B, .int .i64 0, .int .i64 I], .int .u64 ld] H =
      some (.ret (if (adV R B I).tmod 4 = 0 then doneT (upd R 0 0) F (IntKind.wrap .u32 (pc + 4)) 0 0 else doneT (upd R 0 0) F pc 5 (adV R B I)), H) := by
  rw [q20 (n+13) _ _ _ (regs_flat _ _ _) rfl rfl H]
  have ar := rg165 hA
  have br := rg165 hB
  have rng : (0 ≤ (33 : Int) ∧ (33 : Int) < 72) = True := by simp
  have szz : sizeV 33 = 4 := rfl
  have fv : formV 33 = 5 := rfl
  have ea : adV (upd R 0 0) B I = adV R B I := by simp only [adV, upd_upd]
  by_cases ht : (adV R B I).tmod 4 = 0
  all_goals simp -implicitDefEqProofs only [s20, v32, v33, need_33, q34, s34, v15, fv, q47, s47, v41, rng, szz, q66, s66, q65, s65, q67, s67, tabs_gn, ↓EVdn, EVup, lp_succ, goInt, splice, okC, Fr.of, Fr.ofI, Fr.g, Nat.reduceAdd, Nat.reduceMul, Nat.reduceEqDiff, Nat.reduceLT, Nat.reduceLeDiff, Nat.reduceBEq, Int.reduceLT, Int.reduceLE, Int.reduceToNat, Int.reduceAdd, Int.reduceSub, Int.reduceMul, Int.reduceEq, Int.reduceNeg, ↓reduceIte, ↓reduceDIte, Nat.beq, reduceCtorEq, Value.int.injEq, Nat.reduceSub, flat_int, flat_bool, flat_done, regs_flat, flat_i5, flat_need, hk, upd_upd, decide_true, doneT, needT, ar, br, w32, w16, w8, w64, w24, wu1, wu2, wu4, wu8, wrap_0, ht, ea]
theorem done_34 (n : Nat) (H : Hp) (R F : Nat → Int) (pc A B I ld : Int) (hA : 0 ≤ A ∧ A < 16) (hB : 0 ≤ B ∧ B < 16) (hk : chkV 34 A B 0 I = 0) :
    evCall cfc (n+14) 20 [.agg (regs R F pc).toArray, .agg #[.int .i64 34, .int .i64 A, .int .i64 B, .int .i64 0, .int .i64 I], .int .u64 ld] H =
      some (.ret (if (adV R B I).tmod 2 = 0 then doneT (upd R 0 0) F (IntKind.wrap .u32 (pc + 4)) 0 0 else doneT (upd R 0 0) F pc 5 (adV R B I)), H) := by
  rw [q20 (n+13) _ _ _ (regs_flat _ _ _) rfl rfl H]
  have ar := rg165 hA
  have br := rg165 hB
  have rng : (0 ≤ (34 : Int) ∧ (34 : Int) < 72) = True := by simp
  have szz : sizeV 34 = 2 := rfl
  have fv : formV 34 = 5 := rfl
  have ea : adV (upd R 0 0) B I = adV R B I := by simp only [adV, upd_upd]
  by_cases ht : (adV R B I).tmod 2 = 0
  all_goals simp -implicitDefEqProofs only [s20, v32, v33, need_34, q34, s34, v15, fv, q47, s47, v41, rng, szz, q66, s66, q65, s65, q67, s67, tabs_gn, ↓EVdn, EVup, lp_succ, goInt, splice, okC, Fr.of, Fr.ofI, Fr.g, Nat.reduceAdd, Nat.reduceMul, Nat.reduceEqDiff, Nat.reduceLT, Nat.reduceLeDiff, Nat.reduceBEq, Int.reduceLT, Int.reduceLE, Int.reduceToNat, Int.reduceAdd, Int.reduceSub, Int.reduceMul, Int.reduceEq, Int.reduceNeg, ↓reduceIte, ↓reduceDIte, Nat.beq, reduceCtorEq, Value.int.injEq, Nat.reduceSub, flat_int, flat_bool, flat_done, regs_flat, flat_i5, flat_need, hk, upd_upd, decide_true, doneT, needT, ar, br, w32, w16, w8, w64, w24, wu1, wu2, wu4, wu8, wrap_0, ht, ea]
theorem done_35 (n : Nat) (H : Hp) (R F : Nat → Int) (pc A B I ld : Int) (hA : 0 ≤ A ∧ A < 16) (hB : 0 ≤ B ∧ B < 16) (hk : chkV 35 A B 0 I = 0) :
    evCall cfc (n+14) 20 [.agg (regs R F pc).toArray, .agg #[.int .i64 35, .int .i64 A, .int .i64 B, .int .i64 0, .int .i64 I], .int .u64 ld] H =
      some (.ret (if (adV R B I).tmod 1 = 0 then doneT (upd R 0 0) F (IntKind.wrap .u32 (pc + 4)) 0 0 else doneT (upd R 0 0) F pc 5 (adV R B I)), H) := by
  rw [q20 (n+13) _ _ _ (regs_flat _ _ _) rfl rfl H]
  have ar := rg165 hA
  have br := rg165 hB
  have rng : (0 ≤ (35 : Int) ∧ (35 : Int) < 72) = True := by simp
  have szz : sizeV 35 = 1 := rfl
  have fv : formV 35 = 5 := rfl
  have ea : adV (upd R 0 0) B I = adV R B I := by simp only [adV, upd_upd]
  by_cases ht : (adV R B I).tmod 1 = 0
  all_goals simp -implicitDefEqProofs only [s20, v32, v33, need_35, q34, s34, v15, fv, q47, s47, v41, rng, szz, q66, s66, q65, s65, q67, s67, tabs_gn, ↓EVdn, EVup, lp_succ, goInt, splice, okC, Fr.of, Fr.ofI, Fr.g, Nat.reduceAdd, Nat.reduceMul, Nat.reduceEqDiff, Nat.reduceLT, Nat.reduceLeDiff, Nat.reduceBEq, Int.reduceLT, Int.reduceLE, Int.reduceToNat, Int.reduceAdd, Int.reduceSub, Int.reduceMul, Int.reduceEq, Int.reduceNeg, ↓reduceIte, ↓reduceDIte, Nat.beq, reduceCtorEq, Value.int.injEq, Nat.reduceSub, flat_int, flat_bool, flat_done, regs_flat, flat_i5, flat_need, hk, upd_upd, decide_true, doneT, needT, ar, br, w32, w16, w8, w64, w24, wu1, wu2, wu4, wu8, wrap_0, ht, ea]
theorem done_36 (n : Nat) (H : Hp) (R F : Nat → Int) (pc A B I ld : Int) (hA : 0 ≤ A ∧ A < 8) (hB : 0 ≤ B ∧ B < 16) (hk : chkV 36 A B 0 I = 0) :
    evCall cfc (n+14) 20 [.agg (regs R F pc).toArray, .agg #[.int .i64 36, .int .i64 A, .int .i64 B, .int .i64 0, .int .i64 I], .int .u64 ld] H =
      some (.ret (if (adV R B I).tmod 8 = 0 then doneT (upd R 0 0) (upd F A.toNat ld) (IntKind.wrap .u32 (pc + 4)) 0 0 else doneT (upd R 0 0) F pc 5 (adV R B I)), H) := by
  rw [q20 (n+13) _ _ _ (regs_flat _ _ _) rfl rfl H]
  have ar := rg85 hA
  have br := rg165 hB
  have rng : (0 ≤ (36 : Int) ∧ (36 : Int) < 72) = True := by simp
  have szz : sizeV 36 = 8 := rfl
  have fv : formV 36 = 6 := rfl
  have ea : adV (upd R 0 0) B I = adV R B I := by simp only [adV, upd_upd]
  by_cases ht : (adV R B I).tmod 8 = 0
  all_goals simp -implicitDefEqProofs only [s20, v32, v33, need_36, q34, s34, v15, fv, q47, s47, v41, rng, szz, q66, s66, q65, s65, q67, s67, tabs_gn, ↓EVdn, EVup, lp_succ, goInt, splice, okC, Fr.of, Fr.ofI, Fr.g, Nat.reduceAdd, Nat.reduceMul, Nat.reduceEqDiff, Nat.reduceLT, Nat.reduceLeDiff, Nat.reduceBEq, Int.reduceLT, Int.reduceLE, Int.reduceToNat, Int.reduceAdd, Int.reduceSub, Int.reduceMul, Int.reduceEq, Int.reduceNeg, ↓reduceIte, ↓reduceDIte, Nat.beq, reduceCtorEq, Value.int.injEq, Nat.reduceSub, flat_int, flat_bool, flat_done, regs_flat, flat_i5, flat_need, hk, upd_upd, decide_true, doneT, needT, ar, br, w32, w16, w8, w64, w24, wu1, wu2, wu4, wu8, wrap_0, ht, ea]
theorem done_37 (n : Nat) (H : Hp) (R F : Nat → Int) (pc A B I ld : Int) (hA : 0 ≤ A ∧ A < 8) (hB : 0 ≤ B ∧ B < 16) (hk : chkV 37 A B 0 I = 0) :
    evCall cfc (n+14) 20 [.agg (regs R F pc).toArray, .agg #[.int .i64 37, .int .i64 A, .int .i64 B, .int .i64 0, .int .i64 I], .int .u64 ld] H =
      some (.ret (if (adV R B I).tmod 8 = 0 then doneT (upd R 0 0) F (IntKind.wrap .u32 (pc + 4)) 0 0 else doneT (upd R 0 0) F pc 5 (adV R B I)), H) := by
  rw [q20 (n+13) _ _ _ (regs_flat _ _ _) rfl rfl H]
  have ar := rg85 hA
  have br := rg165 hB
  have rng : (0 ≤ (37 : Int) ∧ (37 : Int) < 72) = True := by simp
  have szz : sizeV 37 = 8 := rfl
  have fv : formV 37 = 6 := rfl
  have ea : adV (upd R 0 0) B I = adV R B I := by simp only [adV, upd_upd]
  by_cases ht : (adV R B I).tmod 8 = 0
  all_goals simp -implicitDefEqProofs only [s20, v32, v33, need_37, q34, s34, v15, fv, q47, s47, v41, rng, szz, q66, s66, q65, s65, q67, s67, tabs_gn, ↓EVdn, EVup, lp_succ, goInt, splice, okC, Fr.of, Fr.ofI, Fr.g, Nat.reduceAdd, Nat.reduceMul, Nat.reduceEqDiff, Nat.reduceLT, Nat.reduceLeDiff, Nat.reduceBEq, Int.reduceLT, Int.reduceLE, Int.reduceToNat, Int.reduceAdd, Int.reduceSub, Int.reduceMul, Int.reduceEq, Int.reduceNeg, ↓reduceIte, ↓reduceDIte, Nat.beq, reduceCtorEq, Value.int.injEq, Nat.reduceSub, flat_int, flat_bool, flat_done, regs_flat, flat_i5, flat_need, hk, upd_upd, decide_true, doneT, needT, ar, br, w32, w16, w8, w64, w24, wu1, wu2, wu4, wu8, wrap_0, ht, ea]
end Go.Proofs.YthenglaoolmajaaDoor
