/- Branches and jumps, done. -/
import Derived.Test.YthenglaoolmajaaDoorEvBun
import Derived.Test.YthenglaoolmajaaDoorExecA
namespace Go.Proofs.YthenglaoolmajaaDoor
open Go Go.Ev
set_option maxRecDepth 100000
set_option linter.unusedSimpArgs false
set_option linter.unusedVariables false
set_option maxHeartbeats 2000000
set_option linter.unusedSectionVars false
variable [Xt]
attribute [local congr] bind_front callK_front jn_front ifB_front ifG_front lp_front
def doneT (R F : Nat → Int) (pc c t : Int) : Value := .tuple #[.agg (regs R F pc).toArray, .int .i64 c, .int .u32 t]
theorem flat_done (R F : Nat → Int) (pc c t : Int) : flat (.tuple #[.agg (regs R F pc).toArray, .int .i64 c, .int .u32 t]) = true := by
  have h : (regs R F pc).all (flatN 2) = true := regs_all R F pc (flatN 2) fun _ _ => rfl
  simp only [flat, flatN, List.all_cons, List.all_nil, h, Bool.and_self]
def toV (pc I : Int) : Int := IntKind.wrap .u32 (pc + IntKind.wrap .u32 (4 * IntKind.wrap .u32 I))
theorem flat_need (b : Bool) (x y z : Int) : flat (.agg #[.bool b, .int .u32 x, .int .i64 y, .int .u64 z]) = true := rfl
theorem flat_bt (b : Bool) (x : Int) : flat (.tuple #[.bool b, .int .i64 x]) = true := rfl
theorem done_38 (n : Nat) (H : Hp) (R F : Nat → Int) (pc A B I ld : Int) (hA : 0 ≤ A ∧ A < 16) (hB : 0 ≤ B ∧ B < 16) (hk : chkV 38 A B 0 I = 0) :
    evCall cfc (n+14) 20 [.agg (regs R F pc).toArray, .agg #[.int .i64 38, .int .i64 A, .int .i64 B, .int .i64 0, .int .i64 I], .int .u64 ld] H =
      some (.ret (if upd R 0 0 A.toNat = upd R 0 0 B.toNat then (if (toV pc I).tmod 4 = 0 then doneT (upd R 0 0) F (toV pc I) 0 0 else doneT (upd R 0 0) F pc 5 (toV pc I)) else doneT (upd R 0 0) F (IntKind.wrap .u32 (pc + 4)) 0 0), H) := by
  rw [q20 (n+13) _ _ _ (regs_flat _ _ _) rfl rfl H]
  have a0 : (0 ≤ A) = True := eq_true hA.1
  have a1 : (A < 16) = True := eq_true hA.2
  have a2 : (A.toNat < 16) = True := eq_true (by omega)
  have a3 : (A.toNat + 1 ≤ 33) = True := eq_true (by omega)
  have b0 : (0 ≤ B) = True := eq_true hB.1
  have b1 : (B < 16) = True := eq_true hB.2
  have b2 : (B.toNat < 16) = True := eq_true (by omega)
  have b3 : (B.toNat + 1 ≤ 33) = True := eq_true (by omega)
  have rng : (0 ≤ (38 : Int) ∧ (38 : Int) < 72) = True := by simp
  have szz : sizeV 38 = 0 := rfl
  have fv : formV 38 = 7 := rfl
  have et : IntKind.wrap .u32 (pc + IntKind.wrap .u32 (4 * IntKind.wrap .u32 I)) = toV pc I := rfl
  by_cases hc : upd R 0 0 A.toNat = upd R 0 0 B.toNat
  · by_cases ht : (toV pc I).tmod 4 = 0
    all_goals simp -implicitDefEqProofs only [s20, v32, v33, s22, q22, v41, szz, q34, s34, v15, fv, q48, s48, q68, s68, q49, s49, q64, s64, q65, s65, tabs_gn, ↓EVdn, EVup, lp_succ, goInt, splice, okC, Fr.of, Fr.ofI, Fr.g, Nat.reduceAdd, Nat.reduceMul, Nat.reduceEqDiff, Nat.reduceLT, Nat.reduceLeDiff, Nat.reduceBEq, Int.reduceLT, Int.reduceLE, Int.reduceToNat, Int.reduceAdd, Int.reduceSub, Int.reduceMul, Int.reduceEq, Int.reduceNeg, ↓reduceIte, ↓reduceDIte, Nat.beq, reduceCtorEq, Value.int.injEq, Nat.reduceSub, flat_int, flat_bool, flat_done, regs_flat, flat_i5, flat_need, flat_t2, flat_bt, hk, upd_upd, rng, decide_true, doneT, a0, a1, a2, a3, b0, b1, b2, b3, hc, ht, et]
  · simp -implicitDefEqProofs only [s20, v32, v33, s22, q22, v41, szz, q34, s34, v15, fv, q48, s48, q68, s68, q49, s49, q64, s64, q65, s65, tabs_gn, ↓EVdn, EVup, lp_succ, goInt, splice, okC, Fr.of, Fr.ofI, Fr.g, Nat.reduceAdd, Nat.reduceMul, Nat.reduceEqDiff, Nat.reduceLT, Nat.reduceLeDiff, Nat.reduceBEq, Int.reduceLT, Int.reduceLE, Int.reduceToNat, Int.reduceAdd, Int.reduceSub, Int.reduceMul, Int.reduceEq, Int.reduceNeg, ↓reduceIte, ↓reduceDIte, Nat.beq, reduceCtorEq, Value.int.injEq, Nat.reduceSub, flat_int, flat_bool, flat_done, regs_flat, flat_i5, flat_need, flat_t2, flat_bt, hk, upd_upd, rng, decide_true, doneT, a0, a1, a2, a3, b0, b1, b2, b3, hc, et]
theorem done_39 (n : Nat) (H : Hp) (R F : Nat → Int) (pc A B I ld : Int) (hA : 0 ≤ A ∧ A < 16) (hB : 0 ≤ B ∧ B < 16) (hk : chkV 39 A B 0 I = 0) :
    evCall cfc (n+14) 20 [.agg (regs R F pc).toArray, .agg #[.int .i64 39, .int .i64 A, .int .i64 B, .int .i64 0, .int .i64 I], .int .u64 ld] H =
      some (.ret (if ¬ upd R 0 0 A.toNat = upd R 0 0 B.toNat then (if (toV pc I).tmod 4 = 0 then doneT (upd R 0 0) F (toV pc I) 0 0 else doneT (upd R 0 0) F pc 5 (toV pc I)) else doneT (upd R 0 0) F (IntKind.wrap .u32 (pc + 4)) 0 0), H) := by
  rw [q20 (n+13) _ _ _ (regs_flat _ _ _) rfl rfl H]
  have a0 : (0 ≤ A) = True := eq_true hA.1
  have a1 : (A < 16) = True := eq_true hA.2
  have a2 : (A.toNat < 16) = True := eq_true (by omega)
  have a3 : (A.toNat + 1 ≤ 33) = True := eq_true (by omega)
  have b0 : (0 ≤ B) = True := eq_true hB.1
  have b1 : (B < 16) = True := eq_true hB.2
  have b2 : (B.toNat < 16) = True := eq_true (by omega)
  have b3 : (B.toNat + 1 ≤ 33) = True := eq_true (by omega)
  have rng : (0 ≤ (39 : Int) ∧ (39 : Int) < 72) = True := by simp
  have szz : sizeV 39 = 0 := rfl
  have fv : formV 39 = 7 := rfl
  have et : IntKind.wrap .u32 (pc + IntKind.wrap .u32 (4 * IntKind.wrap .u32 I)) = toV pc I := rfl
  by_cases hc : ¬ upd R 0 0 A.toNat = upd R 0 0 B.toNat
  · by_cases ht : (toV pc I).tmod 4 = 0
    all_goals simp -implicitDefEqProofs only [s20, v32, v33, s22, q22, v41, szz, q34, s34, v15, fv, q48, s48, q68, s68, q49, s49, q64, s64, q65, s65, tabs_gn, ↓EVdn, EVup, lp_succ, goInt, splice, okC, Fr.of, Fr.ofI, Fr.g, Nat.reduceAdd, Nat.reduceMul, Nat.reduceEqDiff, Nat.reduceLT, Nat.reduceLeDiff, Nat.reduceBEq, Int.reduceLT, Int.reduceLE, Int.reduceToNat, Int.reduceAdd, Int.reduceSub, Int.reduceMul, Int.reduceEq, Int.reduceNeg, ↓reduceIte, ↓reduceDIte, Nat.beq, reduceCtorEq, Value.int.injEq, Nat.reduceSub, flat_int, flat_bool, flat_done, regs_flat, flat_i5, flat_need, flat_t2, flat_bt, hk, upd_upd, rng, decide_true, doneT, a0, a1, a2, a3, b0, b1, b2, b3, hc, ht, et]
  · simp -implicitDefEqProofs only [s20, v32, v33, s22, q22, v41, szz, q34, s34, v15, fv, q48, s48, q68, s68, q49, s49, q64, s64, q65, s65, tabs_gn, ↓EVdn, EVup, lp_succ, goInt, splice, okC, Fr.of, Fr.ofI, Fr.g, Nat.reduceAdd, Nat.reduceMul, Nat.reduceEqDiff, Nat.reduceLT, Nat.reduceLeDiff, Nat.reduceBEq, Int.reduceLT, Int.reduceLE, Int.reduceToNat, Int.reduceAdd, Int.reduceSub, Int.reduceMul, Int.reduceEq, Int.reduceNeg, ↓reduceIte, ↓reduceDIte, Nat.beq, reduceCtorEq, Value.int.injEq, Nat.reduceSub, flat_int, flat_bool, flat_done, regs_flat, flat_i5, flat_need, flat_t2, flat_bt, hk, upd_upd, rng, decide_true, doneT, a0, a1, a2, a3, b0, b1, b2, b3, hc, et]
theorem done_40 (n : Nat) (H : Hp) (R F : Nat → Int) (pc A B I ld : Int) (hA : 0 ≤ A ∧ A < 16) (hB : 0 ≤ B ∧ B < 16) (hk : chkV 40 A B 0 I = 0) :
    evCall cfc (n+14) 20 [.agg (regs R F pc).toArray, .agg #[.int .i64 40, .int .i64 A, .int .i64 B, .int .i64 0, .int .i64 I], .int .u64 ld] H =
      some (.ret (if IntKind.wrap .i32 (upd R 0 0 A.toNat) < IntKind.wrap .i32 (upd R 0 0 B.toNat) then (if (toV pc I).tmod 4 = 0 then doneT (upd R 0 0) F (toV pc I) 0 0 else doneT (upd R 0 0) F pc 5 (toV pc I)) else doneT (upd R 0 0) F (IntKind.wrap .u32 (pc + 4)) 0 0), H) := by
  rw [q20 (n+13) _ _ _ (regs_flat _ _ _) rfl rfl H]
  have a0 : (0 ≤ A) = True := eq_true hA.1
  have a1 : (A < 16) = True := eq_true hA.2
  have a2 : (A.toNat < 16) = True := eq_true (by omega)
  have a3 : (A.toNat + 1 ≤ 33) = True := eq_true (by omega)
  have b0 : (0 ≤ B) = True := eq_true hB.1
  have b1 : (B < 16) = True := eq_true hB.2
  have b2 : (B.toNat < 16) = True := eq_true (by omega)
  have b3 : (B.toNat + 1 ≤ 33) = True := eq_true (by omega)
  have rng : (0 ≤ (40 : Int) ∧ (40 : Int) < 72) = True := by simp
  have szz : sizeV 40 = 0 := rfl
  have fv : formV 40 = 7 := rfl
  have et : IntKind.wrap .u32 (pc + IntKind.wrap .u32 (4 * IntKind.wrap .u32 I)) = toV pc I := rfl
  by_cases hc : IntKind.wrap .i32 (upd R 0 0 A.toNat) < IntKind.wrap .i32 (upd R 0 0 B.toNat)
  · by_cases ht : (toV pc I).tmod 4 = 0
    all_goals simp -implicitDefEqProofs only [s20, v32, v33, s22, q22, v41, szz, q34, s34, v15, fv, q48, s48, q68, s68, q49, s49, q64, s64, q65, s65, tabs_gn, ↓EVdn, EVup, lp_succ, goInt, splice, okC, Fr.of, Fr.ofI, Fr.g, Nat.reduceAdd, Nat.reduceMul, Nat.reduceEqDiff, Nat.reduceLT, Nat.reduceLeDiff, Nat.reduceBEq, Int.reduceLT, Int.reduceLE, Int.reduceToNat, Int.reduceAdd, Int.reduceSub, Int.reduceMul, Int.reduceEq, Int.reduceNeg, ↓reduceIte, ↓reduceDIte, Nat.beq, reduceCtorEq, Value.int.injEq, Nat.reduceSub, flat_int, flat_bool, flat_done, regs_flat, flat_i5, flat_need, flat_t2, flat_bt, hk, upd_upd, rng, decide_true, doneT, a0, a1, a2, a3, b0, b1, b2, b3, hc, ht, et]
  · simp -implicitDefEqProofs only [s20, v32, v33, s22, q22, v41, szz, q34, s34, v15, fv, q48, s48, q68, s68, q49, s49, q64, s64, q65, s65, tabs_gn, ↓EVdn, EVup, lp_succ, goInt, splice, okC, Fr.of, Fr.ofI, Fr.g, Nat.reduceAdd, Nat.reduceMul, Nat.reduceEqDiff, Nat.reduceLT, Nat.reduceLeDiff, Nat.reduceBEq, Int.reduceLT, Int.reduceLE, Int.reduceToNat, Int.reduceAdd, Int.reduceSub, Int.reduceMul, Int.reduceEq, Int.reduceNeg, ↓reduceIte, ↓reduceDIte, Nat.beq, reduceCtorEq, Value.int.injEq, Nat.reduceSub, flat_int, flat_bool, flat_done, regs_flat, flat_i5, flat_need, flat_t2, flat_bt, hk, upd_upd, rng, decide_true, doneT, a0, a1, a2, a3, b0, b1, b2, b3, hc, et]
theorem done_41 (n : Nat) (H : Hp) (R F : Nat → Int) (pc A B I ld : Int) (hA : 0 ≤ A ∧ A < 16) (hB : 0 ≤ B ∧ B < 16) (hk : chkV 41 A B 0 I = 0) :
    evCall cfc (n+14) 20 [.agg (regs R F pc).toArray, .agg #[.int .i64 41, .int .i64 A, .int .i64 B, .int .i64 0, .int .i64 I], .int .u64 ld] H =
      some (.ret (if IntKind.wrap .i32 (upd R 0 0 B.toNat) ≤ IntKind.wrap .i32 (upd R 0 0 A.toNat) then (if (toV pc I).tmod 4 = 0 then doneT (upd R 0 0) F (toV pc I) 0 0 else doneT (upd R 0 0) F pc 5 (toV pc I)) else doneT (upd R 0 0) F (IntKind.wrap .u32 (pc + 4)) 0 0), H) := by
  rw [q20 (n+13) _ _ _ (regs_flat _ _ _) rfl rfl H]
  have a0 : (0 ≤ A) = True := eq_true hA.1
  have a1 : (A < 16) = True := eq_true hA.2
  have a2 : (A.toNat < 16) = True := eq_true (by omega)
  have a3 : (A.toNat + 1 ≤ 33) = True := eq_true (by omega)
  have b0 : (0 ≤ B) = True := eq_true hB.1
  have b1 : (B < 16) = True := eq_true hB.2
  have b2 : (B.toNat < 16) = True := eq_true (by omega)
  have b3 : (B.toNat + 1 ≤ 33) = True := eq_true (by omega)
  have rng : (0 ≤ (41 : Int) ∧ (41 : Int) < 72) = True := by simp
  have szz : sizeV 41 = 0 := rfl
  have fv : formV 41 = 7 := rfl
  have et : IntKind.wrap .u32 (pc + IntKind.wrap .u32 (4 * IntKind.wrap .u32 I)) = toV pc I := rfl
  by_cases hc : IntKind.wrap .i32 (upd R 0 0 B.toNat) ≤ IntKind.wrap .i32 (upd R 0 0 A.toNat)
  · by_cases ht : (toV pc I).tmod 4 = 0
    all_goals simp -implicitDefEqProofs only [s20, v32, v33, s22, q22, v41, szz, q34, s34, v15, fv, q48, s48, q68, s68, q49, s49, q64, s64, q65, s65, tabs_gn, ↓EVdn, EVup, lp_succ, goInt, splice, okC, Fr.of, Fr.ofI, Fr.g, Nat.reduceAdd, Nat.reduceMul, Nat.reduceEqDiff, Nat.reduceLT, Nat.reduceLeDiff, Nat.reduceBEq, Int.reduceLT, Int.reduceLE, Int.reduceToNat, Int.reduceAdd, Int.reduceSub, Int.reduceMul, Int.reduceEq, Int.reduceNeg, ↓reduceIte, ↓reduceDIte, Nat.beq, reduceCtorEq, Value.int.injEq, Nat.reduceSub, flat_int, flat_bool, flat_done, regs_flat, flat_i5, flat_need, flat_t2, flat_bt, hk, upd_upd, rng, decide_true, doneT, a0, a1, a2, a3, b0, b1, b2, b3, hc, ht, et]
  · simp -implicitDefEqProofs only [s20, v32, v33, s22, q22, v41, szz, q34, s34, v15, fv, q48, s48, q68, s68, q49, s49, q64, s64, q65, s65, tabs_gn, ↓EVdn, EVup, lp_succ, goInt, splice, okC, Fr.of, Fr.ofI, Fr.g, Nat.reduceAdd, Nat.reduceMul, Nat.reduceEqDiff, Nat.reduceLT, Nat.reduceLeDiff, Nat.reduceBEq, Int.reduceLT, Int.reduceLE, Int.reduceToNat, Int.reduceAdd, Int.reduceSub, Int.reduceMul, Int.reduceEq, Int.reduceNeg, ↓reduceIte, ↓reduceDIte, Nat.beq, reduceCtorEq, Value.int.injEq, Nat.reduceSub, flat_int, flat_bool, flat_done, regs_flat, flat_i5, flat_need, flat_t2, flat_bt, hk, upd_upd, rng, decide_true, doneT, a0, a1, a2, a3, b0, b1, b2, b3, hc, et]
theorem done_42 (n : Nat) (H : Hp) (R F : Nat → Int) (pc A B I ld : Int) (hA : 0 ≤ A ∧ A < 16) (hB : 0 ≤ B ∧ B < 16) (hk : chkV 42 A B 0 I = 0) :
    evCall cfc (n+14) 20 [.agg (regs R F pc).toArray, .agg #[.int .i64 42, .int .i64 A, .int .i64 B, .int .i64 0, .int .i64 I], .int .u64 ld] H =
      some (.ret (if upd R 0 0 A.toNat < upd R 0 0 B.toNat then (if (toV pc I).tmod 4 = 0 then doneT (upd R 0 0) F (toV pc I) 0 0 else doneT (upd R 0 0) F pc 5 (toV pc I)) else doneT (upd R 0 0) F (IntKind.wrap .u32 (pc + 4)) 0 0), H) := by
  rw [q20 (n+13) _ _ _ (regs_flat _ _ _) rfl rfl H]
  have a0 : (0 ≤ A) = True := eq_true hA.1
  have a1 : (A < 16) = True := eq_true hA.2
  have a2 : (A.toNat < 16) = True := eq_true (by omega)
  have a3 : (A.toNat + 1 ≤ 33) = True := eq_true (by omega)
  have b0 : (0 ≤ B) = True := eq_true hB.1
  have b1 : (B < 16) = True := eq_true hB.2
  have b2 : (B.toNat < 16) = True := eq_true (by omega)
  have b3 : (B.toNat + 1 ≤ 33) = True := eq_true (by omega)
  have rng : (0 ≤ (42 : Int) ∧ (42 : Int) < 72) = True := by simp
  have szz : sizeV 42 = 0 := rfl
  have fv : formV 42 = 7 := rfl
  have et : IntKind.wrap .u32 (pc + IntKind.wrap .u32 (4 * IntKind.wrap .u32 I)) = toV pc I := rfl
  by_cases hc : upd R 0 0 A.toNat < upd R 0 0 B.toNat
  · by_cases ht : (toV pc I).tmod 4 = 0
    all_goals simp -implicitDefEqProofs only [s20, v32, v33, s22, q22, v41, szz, q34, s34, v15, fv, q48, s48, q68, s68, q49, s49, q64, s64, q65, s65, tabs_gn, ↓EVdn, EVup, lp_succ, goInt, splice, okC, Fr.of, Fr.ofI, Fr.g, Nat.reduceAdd, Nat.reduceMul, Nat.reduceEqDiff, Nat.reduceLT, Nat.reduceLeDiff, Nat.reduceBEq, Int.reduceLT, Int.reduceLE, Int.reduceToNat, Int.reduceAdd, Int.reduceSub, Int.reduceMul, Int.reduceEq, Int.reduceNeg, ↓reduceIte, ↓reduceDIte, Nat.beq, reduceCtorEq, Value.int.injEq, Nat.reduceSub, flat_int, flat_bool, flat_done, regs_flat, flat_i5, flat_need, flat_t2, flat_bt, hk, upd_upd, rng, decide_true, doneT, a0, a1, a2, a3, b0, b1, b2, b3, hc, ht, et]
  · simp -implicitDefEqProofs only [s20, v32, v33, s22, q22, v41, szz, q34, s34, v15, fv, q48, s48, q68, s68, q49, s49, q64, s64, q65, s65, tabs_gn, ↓EVdn, EVup, lp_succ, goInt, splice, okC, Fr.of, Fr.ofI, Fr.g, Nat.reduceAdd, Nat.reduceMul, Nat.reduceEqDiff, Nat.reduceLT, Nat.reduceLeDiff, Nat.reduceBEq, Int.reduceLT, Int.reduceLE, Int.reduceToNat, Int.reduceAdd, Int.reduceSub, Int.reduceMul, Int.reduceEq, Int.reduceNeg, ↓reduceIte, ↓reduceDIte, Nat.beq, reduceCtorEq, Value.int.injEq, Nat.reduceSub, flat_int, flat_bool, flat_done, regs_flat, flat_i5, flat_need, flat_t2, flat_bt, hk, upd_upd, rng, decide_true, doneT, a0, a1, a2, a3, b0, b1, b2, b3, hc, et]
theorem done_43 (n : Nat) (H : Hp) (R F : Nat → Int) (pc A B I ld : Int) (hA : 0 ≤ A ∧ A < 16) (hB : 0 ≤ B ∧ B < 16) (hk : chkV 43 A B 0 I = 0) :
    evCall cfc (n+14) 20 [.agg (regs R F pc).toArray, .agg #[.int .i64 43, .int .i64 A, .int .i64 B, .int .i64 0, .int .i64 I], .int .u64 ld] H =
      some (.ret (if upd R 0 0 B.toNat ≤ upd R 0 0 A.toNat then (if (toV pc I).tmod 4 = 0 then doneT (upd R 0 0) F (toV pc I) 0 0 else doneT (upd R 0 0) F pc 5 (toV pc I)) else doneT (upd R 0 0) F (IntKind.wrap .u32 (pc + 4)) 0 0), H) := by
  rw [q20 (n+13) _ _ _ (regs_flat _ _ _) rfl rfl H]
  have a0 : (0 ≤ A) = True := eq_true hA.1
  have a1 : (A < 16) = True := eq_true hA.2
  have a2 : (A.toNat < 16) = True := eq_true (by omega)
  have a3 : (A.toNat + 1 ≤ 33) = True := eq_true (by omega)
  have b0 : (0 ≤ B) = True := eq_true hB.1
  have b1 : (B < 16) = True := eq_true hB.2
  have b2 : (B.toNat < 16) = True := eq_true (by omega)
  have b3 : (B.toNat + 1 ≤ 33) = True := eq_true (by omega)
  have rng : (0 ≤ (43 : Int) ∧ (43 : Int) < 72) = True := by simp
  have szz : sizeV 43 = 0 := rfl
  have fv : formV 43 = 7 := rfl
  have et : IntKind.wrap .u32 (pc + IntKind.wrap .u32 (4 * IntKind.wrap .u32 I)) = toV pc I := rfl
  by_cases hc : upd R 0 0 B.toNat ≤ upd R 0 0 A.toNat
  · by_cases ht : (toV pc I).tmod 4 = 0
    all_goals simp -implicitDefEqProofs only [s20, v32, v33, s22, q22, v41, szz, q34, s34, v15, fv, q48, s48, q68, s68, q49, s49, q64, s64, q65, s65, tabs_gn, ↓EVdn, EVup, lp_succ, goInt, splice, okC, Fr.of, Fr.ofI, Fr.g, Nat.reduceAdd, Nat.reduceMul, Nat.reduceEqDiff, Nat.reduceLT, Nat.reduceLeDiff, Nat.reduceBEq, Int.reduceLT, Int.reduceLE, Int.reduceToNat, Int.reduceAdd, Int.reduceSub, Int.reduceMul, Int.reduceEq, Int.reduceNeg, ↓reduceIte, ↓reduceDIte, Nat.beq, reduceCtorEq, Value.int.injEq, Nat.reduceSub, flat_int, flat_bool, flat_done, regs_flat, flat_i5, flat_need, flat_t2, flat_bt, hk, upd_upd, rng, decide_true, doneT, a0, a1, a2, a3, b0, b1, b2, b3, hc, ht, et]
  · simp -implicitDefEqProofs only [s20, v32, v33, s22, q22, v41, szz, q34, s34, v15, fv, q48, s48, q68, s68, q49, s49, q64, s64, q65, s65, tabs_gn, ↓EVdn, EVup, lp_succ, goInt, splice, okC, Fr.of, Fr.ofI, Fr.g, Nat.reduceAdd, Nat.reduceMul, Nat.reduceEqDiff, Nat.reduceLT, Nat.reduceLeDiff, Nat.reduceBEq, Int.reduceLT, Int.reduceLE, Int.reduceToNat, Int.reduceAdd, Int.reduceSub, Int.reduceMul, Int.reduceEq, Int.reduceNeg, ↓reduceIte, ↓reduceDIte, Nat.beq, reduceCtorEq, Value.int.injEq, Nat.reduceSub, flat_int, flat_bool, flat_done, regs_flat, flat_i5, flat_need, flat_t2, flat_bt, hk, upd_upd, rng, decide_true, doneT, a0, a1, a2, a3, b0, b1, b2, b3, hc, et]
end Go.Proofs.YthenglaoolmajaaDoor
