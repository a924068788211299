/- Operations on words, done. -/
import Derived.Test.YthenglaoolmajaaDoorEvBun
import Derived.Test.YthenglaoolmajaaDoorExecD
import Derived.Test.YthenglaoolmajaaDoorEvRegs
namespace Go.Proofs.YthenglaoolmajaaDoor
open Go Go.Ev
set_option maxRecDepth 100000
set_option linter.unusedSimpArgs false
set_option linter.unusedVariables false
set_option maxHeartbeats 2000000
set_option linter.unusedSectionVars false
variable [Xt]
attribute [local congr] bind_front callK_front jn_front ifB_front ifG_front lp_front
theorem and31 (y : Int) : 0 ≤ andK .u32 y 31 := (andK_range y 31).1
theorem wrap_ne (y : Int) (h : 0 ≤ y ∧ y < 4294967296) (h0 : y ≠ 0) : IntKind.wrap .i64 (IntKind.wrap .i32 y) ≠ 0 := by
  rw [IntWalk.i64_in _ (by rw [IntKind.wrap_i32]; omega), IntKind.wrap_i32]
  omega
theorem updR_range {R : Nat → Int} (hR : ∀ i, i < 16 → inK .u32 (R i)) (k : Nat) (hk : k < 16) : 0 ≤ upd R 0 0 k ∧ upd R 0 0 k < 4294967296 := by
  simp only [upd]
  split
  · omega
  · have := hR k hk
    have h1 : 0 ≤ R k := this.1
    have h2 : R k ≤ 4294967295 := this.2
    omega
/-- what an operation on words comes to -/
def aluV (op x y : Int) : Int :=
  if op = 2 then IntKind.wrap .u32 (x + y) else
  if op = 3 then IntKind.wrap .u32 (x - y) else
  if op = 4 then IntKind.wrap .u32 (x * y) else
  if op = 5 then IntKind.wrap .u32 (shrK .u64 (IntKind.wrap .u64 (IntKind.wrap .i64 (IntKind.wrap .i64 (IntKind.wrap .i32 x) * IntKind.wrap .i64 (IntKind.wrap .i32 y)))) 32) else
  if op = 6 then IntKind.wrap .u32 (IntKind.wrap .i64 ((IntKind.wrap .i64 (IntKind.wrap .i32 x)).tdiv (IntKind.wrap .i64 (IntKind.wrap .i32 y)))) else
  if op = 7 then IntKind.wrap .u32 (x.tdiv y) else
  if op = 8 then IntKind.wrap .u32 ((IntKind.wrap .i64 (IntKind.wrap .i32 x)).tmod (IntKind.wrap .i64 (IntKind.wrap .i32 y))) else
  if op = 9 then x.tmod y else
  if op = 10 then andK .u32 x y else
  if op = 11 then orK .u32 x y else
  if op = 12 then xorK .u32 x y else
  if op = 13 then shlK .u32 x (andK .u32 y 31).toNat else
  if op = 14 then shrK .u32 x (andK .u32 y 31).toNat else
  if op = 15 then IntKind.wrap .u32 (shrK .i32 (IntKind.wrap .i32 x) (andK .u32 y 31).toNat) else
  if op = 16 then if IntKind.wrap .i32 x < IntKind.wrap .i32 y then 1 else 0 else
  if op = 17 then if x < y then 1 else 0 else
  if op = 18 then IntKind.wrap .u32 (x + y) else
  if op = 19 then andK .u32 x y else
  if op = 20 then orK .u32 x y else
  if op = 21 then xorK .u32 x y else
  if op = 22 then shlK .u32 x (andK .u32 y 31).toNat else
  if op = 23 then shrK .u32 x (andK .u32 y 31).toNat else
  if op = 24 then IntKind.wrap .u32 (shrK .i32 (IntKind.wrap .i32 x) (andK .u32 y 31).toNat) else
  if op = 25 then if IntKind.wrap .i32 x < IntKind.wrap .i32 y then 1 else 0 else
  if op = 26 then if x < y then 1 else 0 else
  if op = 27 then shlK .u32 y 16 else
  0
theorem aluV_2 (x y : Int) : aluV 2 x y = IntKind.wrap .u32 (x + y) := by simp only [aluV]; rfl
theorem aluV_3 (x y : Int) : aluV 3 x y = IntKind.wrap .u32 (x - y) := by simp only [aluV]; rfl
theorem aluV_4 (x y : Int) : aluV 4 x y = IntKind.wrap .u32 (x * y) := by simp only [aluV]; rfl
theorem aluV_5 (x y : Int) : aluV 5 x y = IntKind.wrap .u32 (shrK .u64 (IntKind.wrap .u64 (IntKind.wrap .i64 (IntKind.wrap .i64 (IntKind.wrap .i32 x) * IntKind.wrap .i64 (IntKind.wrap .i32 y)))) 32) := by simp only [aluV]; rfl
theorem aluV_6 (x y : Int) : aluV 6 x y = IntKind.wrap .u32 (IntKind.wrap .i64 ((IntKind.wrap .i64 (IntKind.wrap .i32 x)).tdiv (IntKind.wrap .i64 (IntKind.wrap .i32 y)))) := by simp only [aluV]; rfl
theorem aluV_7 (x y : Int) : aluV 7 x y = IntKind.wrap .u32 (x.tdiv y) := by simp only [aluV]; rfl
theorem aluV_8 (x y : Int) : aluV 8 x y = IntKind.wrap .u32 ((IntKind.wrap .i64 (IntKind.wrap .i32 x)).tmod (IntKind.wrap .i64 (IntKind.wrap .i32 y))) := by simp only [aluV]; rfl
theorem aluV_9 (x y : Int) : aluV 9 x y = x.tmod y := by simp only [aluV]; rfl
theorem aluV_10 (x y : Int) : aluV 10 x y = andK .u32 x y := by simp only [aluV]; rfl
theorem aluV_11 (x y : Int) : aluV 11 x y = orK .u32 x y := by simp only [aluV]; rfl
theorem aluV_12 (x y : Int) : aluV 12 x y = xorK .u32 x y := by simp only [aluV]; rfl
theorem aluV_13 (x y : Int) : aluV 13 x y = shlK .u32 x (andK .u32 y 31).toNat := by simp only [aluV]; rfl
theorem aluV_14 (x y : Int) : aluV 14 x y = shrK .u32 x (andK .u32 y 31).toNat := by simp only [aluV]; rfl
theorem aluV_15 (x y : Int) : aluV 15 x y = IntKind.wrap .u32 (shrK .i32 (IntKind.wrap .i32 x) (andK .u32 y 31).toNat) := by simp only [aluV]; rfl
theorem aluV_16 (x y : Int) : aluV 16 x y = if IntKind.wrap .i32 x < IntKind.wrap .i32 y then 1 else 0 := by simp only [aluV]; rfl
theorem aluV_17 (x y : Int) : aluV 17 x y = if x < y then 1 else 0 := by simp only [aluV]; rfl
theorem aluV_18 (x y : Int) : aluV 18 x y = IntKind.wrap .u32 (x + y) := by simp only [aluV]; rfl
theorem aluV_19 (x y : Int) : aluV 19 x y = andK .u32 x y := by simp only [aluV]; rfl
theorem aluV_20 (x y : Int) : aluV 20 x y = orK .u32 x y := by simp only [aluV]; rfl
theorem aluV_21 (x y : Int) : aluV 21 x y = xorK .u32 x y := by simp only [aluV]; rfl
theorem aluV_22 (x y : Int) : aluV 22 x y = shlK .u32 x (andK .u32 y 31).toNat := by simp only [aluV]; rfl
theorem aluV_23 (x y : Int) : aluV 23 x y = shrK .u32 x (andK .u32 y 31).toNat := by simp only [aluV]; rfl
theorem aluV_24 (x y : Int) : aluV 24 x y = IntKind.wrap .u32 (shrK .i32 (IntKind.wrap .i32 x) (andK .u32 y 31).toNat) := by simp only [aluV]; rfl
theorem aluV_25 (x y : Int) : aluV 25 x y = if IntKind.wrap .i32 x < IntKind.wrap .i32 y then 1 else 0 := by simp only [aluV]; rfl
theorem aluV_26 (x y : Int) : aluV 26 x y = if x < y then 1 else 0 := by simp only [aluV]; rfl
theorem aluV_27 (x y : Int) : aluV 27 x y = shlK .u32 y 16 := by simp only [aluV]; rfl
theorem done_2 (n : Nat) (H : Hp) (R F : Nat → Int) (pc ld : Int) (A B C : Int) (hR : ∀ i, i < 16 → inK .u32 (R i)) (hA : 0 ≤ A ∧ A < 16) (hB : 0 ≤ B ∧ B < 16) (hC : 0 ≤ C ∧ C < 16) (hk : chkV 2 A B C 0 = 0) :
    evCall cfc (n+16) 20 [.agg (regs R F pc).toArray, .agg #[.int .i64 2, .int .i64 A, .int .i64 B, .int .i64 C, .int .i64 0], .int .u64 ld] H = some (.ret (doneT (upd (upd (upd R 0 0) A.toNat (aluV 2 (upd R 0 0 B.toNat) (upd R 0 0 C.toNat))) 0 0) F (IntKind.wrap .u32 (pc + 4)) 0 0), H) := by
  rw [q20 (n+15) _ _ _ (regs_flat _ _ _) rfl rfl H]
  have ar := rg165 hA
  have br := rg165 hB
  have cr := rg165 hC
  have rng : (0 ≤ (2 : Int) ∧ (2 : Int) < 72) = True := by simp
  have szz : sizeV 2 = 0 := rfl
  have fv : formV 2 = 2 := rfl
  simp -implicitDefEqProofs only [s20, v32, v33, s22, q22, v41, szz, q34, s34, v15, fv, q46, s46, q49, s49, q64, s64, q65, s65, tabs_gn, ↓EVdn, EVup, lp_succ, goInt, splice, okC, Fr.of, Fr.ofI, Fr.g, Nat.reduceAdd, Nat.reduceMul, Nat.reduceEqDiff, Nat.reduceLT, Nat.reduceLeDiff, Nat.reduceBEq, Int.reduceLT, Int.reduceLE, Int.reduceToNat, Int.reduceAdd, Int.reduceSub, Int.reduceMul, Int.reduceEq, Int.reduceNeg, ↓reduceIte, ↓reduceDIte, Nat.beq, reduceCtorEq, Value.int.injEq, Nat.reduceSub, flat_int, flat_bool, flat_done, regs_flat, flat_i5, flat_need, flat_t2, flat_bt, hk, upd_upd, rng, decide_true, doneT, q63, s63, q83, s83, q84, s84, flat_t2, aluV_2, ar, br, cr]
theorem done_3 (n : Nat) (H : Hp) (R F : Nat → Int) (pc ld : Int) (A B C : Int) (hR : ∀ i, i < 16 → inK .u32 (R i)) (hA : 0 ≤ A ∧ A < 16) (hB : 0 ≤ B ∧ B < 16) (hC : 0 ≤ C ∧ C < 16) (hk : chkV 3 A B C 0 = 0) :
    evCall cfc (n+16) 20 [.agg (regs R F pc).toArray, .agg #[.int .i64 3, .int .i64 A, .int .i64 B, .int .i64 C, .int .i64 0], .int .u64 ld] H = some (.ret (doneT (upd (upd (upd R 0 0) A.toNat (aluV 3 (upd R 0 0 B.toNat) (upd R 0 0 C.toNat))) 0 0) F (IntKind.wrap .u32 (pc + 4)) 0 0), H) := by
  rw [q20 (n+15) _ _ _ (regs_flat _ _ _) rfl rfl H]
  have ar := rg165 hA
  have br := rg165 hB
  have cr := rg165 hC
  have rng : (0 ≤ (3 : Int) ∧ (3 : Int) < 72) = True := by simp
  have szz : sizeV 3 = 0 := rfl
  have fv : formV 3 = 2 := rfl
  simp -implicitDefEqProofs only [s20, v32, v33, s22, q22, v41, szz, q34, s34, v15, fv, q46, s46, q49, s49, q64, s64, q65, s65, tabs_gn, ↓EVdn, EVup, lp_succ, goInt, splice, okC, Fr.of, Fr.ofI, Fr.g, Nat.reduceAdd, Nat.reduceMul, Nat.reduceEqDiff, Nat.reduceLT, Nat.reduceLeDiff, Nat.reduceBEq, Int.reduceLT, Int.reduceLE, Int.reduceToNat, Int.reduceAdd, Int.reduceSub, Int.reduceMul, Int.reduceEq, Int.reduceNeg, ↓reduceIte, ↓reduceDIte, Nat.beq, reduceCtorEq, Value.int.injEq, Nat.reduceSub, flat_int, flat_bool, flat_done, regs_flat, flat_i5, flat_need, flat_t2, flat_bt, hk, upd_upd, rng, decide_true, doneT, q63, s63, q83, s83, q84, s84, flat_t2, aluV_3, ar, br, cr]
theorem done_4 (n : Nat) (H : Hp) (R F : Nat → Int) (pc ld : Int) (A B C : Int) (hR : ∀ i, i < 16 → inK .u32 (R i)) (hA : 0 ≤ A ∧ A < 16) (hB : 0 ≤ B ∧ B < 16) (hC : 0 ≤ C ∧ C < 16) (hk : chkV 4 A B C 0 = 0) :
    evCall cfc (n+16) 20 [.agg (regs R F pc).toArray, .agg #[.int .i64 4, .int .i64 A, .int .i64 B, .int .i64 C, .int .i64 0], .int .u64 ld] H = some (.ret (doneT (upd (upd (upd R 0 0) A.toNat (aluV 4 (upd R 0 0 B.toNat) (upd R 0 0 C.toNat))) 0 0) F (IntKind.wrap .u32 (pc + 4)) 0 0), H) := by
  rw [q20 (n+15) _ _ _ (regs_flat _ _ _) rfl rfl H]
  have ar := rg165 hA
  have br := rg165 hB
  have cr := rg165 hC
  have rng : (0 ≤ (4 : Int) ∧ (4 : Int) < 72) = True := by simp
  have szz : sizeV 4 = 0 := rfl
  have fv : formV 4 = 2 := rfl
  simp -implicitDefEqProofs only [s20, v32, v33, s22, q22, v41, szz, q34, s34, v15, fv, q46, s46, q49, s49, q64, s64, q65, s65, tabs_gn, ↓EVdn, EVup, lp_succ, goInt, splice, okC, Fr.of, Fr.ofI, Fr.g, Nat.reduceAdd, Nat.reduceMul, Nat.reduceEqDiff, Nat.reduceLT, Nat.reduceLeDiff, Nat.reduceBEq, Int.reduceLT, Int.reduceLE, Int.reduceToNat, Int.reduceAdd, Int.reduceSub, Int.reduceMul, Int.reduceEq, Int.reduceNeg, ↓reduceIte, ↓reduceDIte, Nat.beq, reduceCtorEq, Value.int.injEq, Nat.reduceSub, flat_int, flat_bool, flat_done, regs_flat, flat_i5, flat_need, flat_t2, flat_bt, hk, upd_upd, rng, decide_true, doneT, q63, s63, q83, s83, q84, s84, flat_t2, aluV_4, ar, br, cr]
theorem done_5 (n : Nat) (H : Hp) (R F : Nat → Int) (pc ld : Int) (A B C : Int) (hR : ∀ i, i < 16 → inK .u32 (R i)) (hA : 0 ≤ A ∧ A < 16) (hB : 0 ≤ B ∧ B < 16) (hC : 0 ≤ C ∧ C < 16) (hk : chkV 5 A B C 0 = 0) :
    evCall cfc (n+16) 20 [.agg (regs R F pc).toArray, .agg #[.int .i64 5, .int .i64 A, .int .i64 B, .int .i64 C, .int .i64 0], .int .u64 ld] H = some (.ret (doneT (upd (upd (upd R 0 0) A.toNat (aluV 5 (upd R 0 0 B.toNat) (upd R 0 0 C.toNat))) 0 0) F (IntKind.wrap .u32 (pc + 4)) 0 0), H) := by
  rw [q20 (n+15) _ _ _ (regs_flat _ _ _) rfl rfl H]
  have ar := rg165 hA
  have br := rg165 hB
  have cr := rg165 hC
  have rng : (0 ≤ (5 : Int) ∧ (5 : Int) < 72) = True := by simp
  have szz : sizeV 5 = 0 := rfl
  have fv : formV 5 = 2 := rfl
  simp -implicitDefEqProofs only [s20, v32, v33, s22, q22, v41, szz, q34, s34, v15, fv, q46, s46, q49, s49, q64, s64, q65, s65, tabs_gn, ↓EVdn, EVup, lp_succ, goInt, splice, okC, Fr.of, Fr.ofI, Fr.g, Nat.reduceAdd, Nat.reduceMul, Nat.reduceEqDiff, Nat.reduceLT, Nat.reduceLeDiff, Nat.reduceBEq, Int.reduceLT, Int.reduceLE, Int.reduceToNat, Int.reduceAdd, Int.reduceSub, Int.reduceMul, Int.reduceEq, Int.reduceNeg, ↓reduceIte, ↓reduceDIte, Nat.beq, reduceCtorEq, Value.int.injEq, Nat.reduceSub, flat_int, flat_bool, flat_done, regs_flat, flat_i5, flat_need, flat_t2, flat_bt, hk, upd_upd, rng, decide_true, doneT, q63, s63, q83, s83, q84, s84, flat_t2, aluV_5, ar, br, cr]
theorem done_6 (n : Nat) (H : Hp) (R F : Nat → Int) (pc ld : Int) (A B C : Int) (hR : ∀ i, i < 16 → inK .u32 (R i)) (hA : 0 ≤ A ∧ A < 16) (hB : 0 ≤ B ∧ B < 16) (hC : 0 ≤ C ∧ C < 16) (hk : chkV 6 A B C 0 = 0) :
    evCall cfc (n+16) 20 [.agg (regs R F pc).toArray, .agg #[.int .i64 6, .int .i64 A, .int .i64 B, .int .i64 C, .int .i64 0], .int .u64 ld] H = some (.ret (if (upd R 0 0 C.toNat) = 0 then doneT (upd R 0 0) F pc 6 0 else doneT (upd (upd (upd R 0 0) A.toNat (aluV 6 (upd R 0 0 B.toNat) (upd R 0 0 C.toNat))) 0 0) F (IntKind.wrap .u32 (pc + 4)) 0 0), H) := by
  rw [q20 (n+15) _ _ _ (regs_flat _ _ _) rfl rfl H]
  have ar := rg165 hA
  have br := rg165 hB
  have cr := rg165 hC
  have rng : (0 ≤ (6 : Int) ∧ (6 : Int) < 72) = True := by simp
  have szz : sizeV 6 = 0 := rfl
  have fv : formV 6 = 2 := rfl
  by_cases hz : (upd R 0 0 C.toNat) = 0
  · simp -implicitDefEqProofs only [s20, v32, v33, s22, q22, v41, szz, q34, s34, v15, fv, q46, s46, q49, s49, q64, s64, q65, s65, tabs_gn, ↓EVdn, EVup, lp_succ, goInt, splice, okC, Fr.of, Fr.ofI, Fr.g, Nat.reduceAdd, Nat.reduceMul, Nat.reduceEqDiff, Nat.reduceLT, Nat.reduceLeDiff, Nat.reduceBEq, Int.reduceLT, Int.reduceLE, Int.reduceToNat, Int.reduceAdd, Int.reduceSub, Int.reduceMul, Int.reduceEq, Int.reduceNeg, ↓reduceIte, ↓reduceDIte, Nat.beq, reduceCtorEq, Value.int.injEq, Nat.reduceSub, flat_int, flat_bool, flat_done, regs_flat, flat_i5, flat_need, flat_t2, flat_bt, hk, upd_upd, rng, decide_true, doneT, q63, s63, q83, s83, q84, s84, flat_t2, aluV_6, ar, br, cr, hz]
  · have hn : (IntKind.wrap .i64 (IntKind.wrap .i32 (upd R 0 0 C.toNat)) = 0) = False := eq_false (wrap_ne _ (updR_range hR _ (by omega)) hz)
    have hz2 : ((upd R 0 0 C.toNat) = 0) = False := eq_false hz
    simp -implicitDefEqProofs only [s20, v32, v33, s22, q22, v41, szz, q34, s34, v15, fv, q46, s46, q49, s49, q64, s64, q65, s65, tabs_gn, ↓EVdn, EVup, lp_succ, goInt, splice, okC, Fr.of, Fr.ofI, Fr.g, Nat.reduceAdd, Nat.reduceMul, Nat.reduceEqDiff, Nat.reduceLT, Nat.reduceLeDiff, Nat.reduceBEq, Int.reduceLT, Int.reduceLE, Int.reduceToNat, Int.reduceAdd, Int.reduceSub, Int.reduceMul, Int.reduceEq, Int.reduceNeg, ↓reduceIte, ↓reduceDIte, Nat.beq, reduceCtorEq, Value.int.injEq, Nat.reduceSub, flat_int, flat_bool, flat_done, regs_flat, flat_i5, flat_need, flat_t2, flat_bt, hk, upd_upd, rng, decide_true, doneT, q63, s63, q83, s83, q84, s84, flat_t2, aluV_6, ar, br, cr, hz2, hn]
theorem done_7 (n : Nat) (H : Hp) (R F : Nat → Int) (pc ld : Int) (A B C : Int) (hR : ∀ i, i < 16 → inK .u32 (R i)) (hA : 0 ≤ A ∧ A < 16) (hB : 0 ≤ B ∧ B < 16) (hC : 0 ≤ C ∧ C < 16) (hk : chkV 7 A B C 0 = 0) :
    evCall cfc (n+16) 20 [.agg (regs R F pc).toArray, .agg #[.int .i64 7, .int .i64 A, .int .i64 B, .int .i64 C, .int .i64 0], .int .u64 ld] H = some (.ret (if (upd R 0 0 C.toNat) = 0 then doneT (upd R 0 0) F pc 6 0 else doneT (upd (upd (upd R 0 0) A.toNat (aluV 7 (upd R 0 0 B.toNat) (upd R 0 0 C.toNat))) 0 0) F (IntKind.wrap .u32 (pc + 4)) 0 0), H) := by
  rw [q20 (n+15) _ _ _ (regs_flat _ _ _) rfl rfl H]
  have ar := rg165 hA
  have br := rg165 hB
  have cr := rg165 hC
  have rng : (0 ≤ (7 : Int) ∧ (7 : Int) < 72) = True := by simp
  have szz : sizeV 7 = 0 := rfl
  have fv : formV 7 = 2 := rfl
  by_cases hz : (upd R 0 0 C.toNat) = 0
  · simp -implicitDefEqProofs only [s20, v32, v33, s22, q22, v41, szz, q34, s34, v15, fv, q46, s46, q49, s49, q64, s64, q65, s65, tabs_gn, ↓EVdn, EVup, lp_succ, goInt, splice, okC, Fr.of, Fr.ofI, Fr.g, Nat.reduceAdd, Nat.reduceMul, Nat.reduceEqDiff, Nat.reduceLT, Nat.reduceLeDiff, Nat.reduceBEq, Int.reduceLT, Int.reduceLE, Int.reduceToNat, Int.reduceAdd, Int.reduceSub, Int.reduceMul, Int.reduceEq, Int.reduceNeg, ↓reduceIte, ↓reduceDIte, Nat.beq, reduceCtorEq, Value.int.injEq, Nat.reduceSub, flat_int, flat_bool, flat_done, regs_flat, flat_i5, flat_need, flat_t2, flat_bt, hk, upd_upd, rng, decide_true, doneT, q63, s63, q83, s83, q84, s84, flat_t2, aluV_7, ar, br, cr, hz]
  · have hn : (IntKind.wrap .i64 (IntKind.wrap .i32 (upd R 0 0 C.toNat)) = 0) = False := eq_false (wrap_ne _ (updR_range hR _ (by omega)) hz)
    have hz2 : ((upd R 0 0 C.toNat) = 0) = False := eq_false hz
    simp -implicitDefEqProofs only [s20, v32, v33, s22, q22, v41, szz, q34, s34, v15, fv, q46, s46, q49, s49, q64, s64, q65, s65, tabs_gn, ↓EVdn, EVup, lp_succ, goInt, splice, okC, Fr.of, Fr.ofI, Fr.g, Nat.reduceAdd, Nat.reduceMul, Nat.reduceEqDiff, Nat.reduceLT, Nat.reduceLeDiff, Nat.reduceBEq, Int.reduceLT, Int.reduceLE, Int.reduceToNat, Int.reduceAdd, Int.reduceSub, Int.reduceMul, Int.reduceEq, Int.reduceNeg, ↓reduceIte, ↓reduceDIte, Nat.beq, reduceCtorEq, Value.int.injEq, Nat.reduceSub, flat_int, flat_bool, flat_done, regs_flat, flat_i5, flat_need, flat_t2, flat_bt, hk, upd_upd, rng, decide_true, doneT, q63, s63, q83, s83, q84, s84, flat_t2, aluV_7, ar, br, cr, hz2, hn]
theorem done_8 (n : Nat) (H : Hp) (R F : Nat → Int) (pc ld : Int) (A B C : Int) (hR : ∀ i, i < 16 → inK .u32 (R i)) (hA : 0 ≤ A ∧ A < 16) (hB : 0 ≤ B ∧ B < 16) (hC : 0 ≤ C ∧ C < 16) (hk : chkV 8 A B C 0 = 0) :
    evCall cfc (n+16) 20 [.agg (regs R F pc).toArray, .agg #[.int .i64 8, .int .i64 A, .int .i64 B, .int .i64 C, .int .i64 0], .int .u64 ld] H = some (.ret (if (upd R 0 0 C.toNat) = 0 then doneT (upd R 0 0) F pc 6 0 else doneT (upd (upd (upd R 0 0) A.toNat (aluV 8 (upd R 0 0 B.toNat) (upd R 0 0 C.toNat))) 0 0) F (IntKind.wrap .u32 (pc + 4)) 0 0), H) := by
  rw [q20 (n+15) _ _ _ (regs_flat _ _ _) rfl rfl H]
  have ar := rg165 hA
  have br := rg165 hB
  have cr := rg165 hC
  have rng : (0 ≤ (8 : Int) ∧ (8 : Int) < 72) = True := by simp
  have szz : sizeV 8 = 0 := rfl
  have fv : formV 8 = 2 := rfl
  by_cases hz : (upd R 0 0 C.toNat) = 0
  · simp -implicitDefEqProofs only [s20, v32, v33, s22, q22, v41, szz, q34, s34, v15, fv, q46, s46, q49, s49, q64, s64, q65, s65, tabs_gn, ↓EVdn, EVup, lp_succ, goInt, splice, okC, Fr.of, Fr.ofI, Fr.g, Nat.reduceAdd, Nat.reduceMul, Nat.reduceEqDiff, Nat.reduceLT, Nat.reduceLeDiff, Nat.reduceBEq, Int.reduceLT, Int.reduceLE, Int.reduceToNat, Int.reduceAdd, Int.reduceSub, Int.reduceMul, Int.reduceEq, Int.reduceNeg, ↓reduceIte, ↓reduceDIte, Nat.beq, reduceCtorEq, Value.int.injEq, Nat.reduceSub, flat_int, flat_bool, flat_done, regs_flat, flat_i5, flat_need, flat_t2, flat_bt, hk, upd_upd, rng, decide_true, doneT, q63, s63, q83, s83, q84, s84, flat_t2, aluV_8, ar, br, cr, hz]
  · have hn : (IntKind.wrap .i64 (IntKind.wrap .i32 (upd R 0 0 C.toNat)) = 0) = False := eq_false (wrap_ne _ (updR_range hR _ (by omega)) hz)
    have hz2 : ((upd R 0 0 C.toNat) = 0) = False := eq_false hz
    simp -implicitDefEqProofs only [s20, v32, v33, s22, q22, v41, szz, q34, s34, v15, fv, q46, s46, q49, s49, q64, s64, q65, s65, tabs_gn, ↓EVdn, EVup, lp_succ, goInt, splice, okC, Fr.of, Fr.ofI, Fr.g, Nat.reduceAdd, Nat.reduceMul, Nat.reduceEqDiff, Nat.reduceLT, Nat.reduceLeDiff, Nat.reduceBEq, Int.reduceLT, Int.reduceLE, Int.reduceToNat, Int.reduceAdd, Int.reduceSub, Int.reduceMul, Int.reduceEq, Int.reduceNeg, ↓reduceIte, ↓reduceDIte, Nat.beq, reduceCtorEq, Value.int.injEq, Nat.reduceSub, flat_int, flat_bool, flat_done, regs_flat, flat_i5, flat_need, flat_t2, flat_bt, hk, upd_upd, rng, decide_true, doneT, q63, s63, q83, s83, q84, s84, flat_t2, aluV_8, ar, br, cr, hz2, hn]
theorem done_9 (n : Nat) (H : Hp) (R F : Nat → Int) (pc ld : Int) (A B C : Int) (hR : ∀ i, i < 16 → inK .u32 (R i)) (hA : 0 ≤ A ∧ A < 16) (hB : 0 ≤ B ∧ B < 16) (hC : 0 ≤ C ∧ C < 16) (hk : chkV 9 A B C 0 = 0) :
    evCall cfc (n+16) 20 [.agg (regs R F pc).toArray, .agg #[.int .i64 9, .int .i64 A, .int .i64 B, .int .i64 C, .int .i64 0], .int .u64 ld] H = some (.ret (if (upd R 0 0 C.toNat) = 0 then doneT (upd R 0 0) F pc 6 0 else doneT (upd (upd (upd R 0 0) A.toNat (aluV 9 (upd R 0 0 B.toNat) (upd R 0 0 C.toNat))) 0 0) F (IntKind.wrap .u32 (pc + 4)) 0 0), H) := by
  rw [q20 (n+15) _ _ _ (regs_flat _ _ _) rfl rfl H]
  have ar := rg165 hA
  have br := rg165 hB
  have cr := rg165 hC
  have rng : (0 ≤ (9 : Int) ∧ (9 : Int) < 72) = True := by simp
  have szz : sizeV 9 = 0 := rfl
  have fv : formV 9 = 2 := rfl
  by_cases hz : (upd R 0 0 C.toNat) = 0
  · simp -implicitDefEqProofs only [s20, v32, v33, s22, q22, v41, szz, q34, s34, v15, fv, q46, s46, q49, s49, q64, s64, q65, s65, tabs_gn, ↓EVdn, EVup, lp_succ, goInt, splice, okC, Fr.of, Fr.ofI, Fr.g, Nat.reduceAdd, Nat.reduceMul, Nat.reduceEqDiff, Nat.reduceLT, Nat.reduceLeDiff, Nat.reduceBEq, Int.reduceLT, Int.reduceLE, Int.reduceToNat, Int.reduceAdd, Int.reduceSub, Int.reduceMul, Int.reduceEq, Int.reduceNeg, ↓reduceIte, ↓reduceDIte, Nat.beq, reduceCtorEq, Value.int.injEq, Nat.reduceSub, flat_int, flat_bool, flat_done, regs_flat, flat_i5, flat_need, flat_t2, flat_bt, hk, upd_upd, rng, decide_true, doneT, q63, s63, q83, s83, q84, s84, flat_t2, aluV_9, ar, br, cr, hz]
  · have hn : (IntKind.wrap .i64 (IntKind.wrap .i32 (upd R 0 0 C.toNat)) = 0) = False := eq_false (wrap_ne _ (updR_range hR _ (by omega)) hz)
    have hz2 : ((upd R 0 0 C.toNat) = 0) = False := eq_false hz
    simp -implicitDefEqProofs only [s20, v32, v33, s22, q22, v41, szz, q34, s34, v15, fv, q46, s46, q49, s49, q64, s64, q65, s65, tabs_gn, ↓EVdn, EVup, lp_succ, goInt, splice, okC, Fr.of, Fr.ofI, Fr.g, Nat.reduceAdd, Nat.reduceMul, Nat.reduceEqDiff, Nat.reduceLT, Nat.reduceLeDiff, Nat.reduceBEq, Int.reduceLT, Int.reduceLE, Int.reduceToNat, Int.reduceAdd, Int.reduceSub, Int.reduceMul, Int.reduceEq, Int.reduceNeg, ↓reduceIte, ↓reduceDIte, Nat.beq, reduceCtorEq, Value.int.injEq, Nat.reduceSub, flat_int, flat_bool, flat_done, regs_flat, flat_i5, flat_need, flat_t2, flat_bt, hk, upd_upd, rng, decide_true, doneT, q63, s63, q83, s83, q84, s84, flat_t2, aluV_9, ar, br, cr, hz2, hn]
theorem done_10 (n : Nat) (H : Hp) (R F : Nat → Int) (pc ld : Int) (A B C : Int) (hR : ∀ i, i < 16 → inK .u32 (R i)) (hA : 0 ≤ A ∧ A < 16) (hB : 0 ≤ B ∧ B < 16) (hC : 0 ≤ C ∧ C < 16) (hk : chkV 10 A B C 0 = 0) :
    evCall cfc (n+16) 20 [.agg (regs R F pc).toArray, .agg #[.int .i64 10, .int .i64 A, .int .i64 B, .int .i64 C, .int .i64 0], .int .u64 ld] H = some (.ret (doneT (upd (upd (upd R 0 0) A.toNat (aluV 10 (upd R 0 0 B.toNat) (upd R 0 0 C.toNat))) 0 0) F (IntKind.wrap .u32 (pc + 4)) 0 0), H) := by
  rw [q20 (n+15) _ _ _ (regs_flat _ _ _) rfl rfl H]
  have ar := rg165 hA
  have br := rg165 hB
  have cr := rg165 hC
  have rng : (0 ≤ (10 : Int) ∧ (10 : Int) < 72) = True := by simp
  have szz : sizeV 10 = 0 := rfl
  have fv : formV 10 = 2 := rfl
  simp -implicitDefEqProofs only [s20, v32, v33, s22, q22, v41, szz, q34, s34, v15, fv, q46, s46, q49, s49, q64, s64, q65, s65, tabs_gn, ↓EVdn, EVup, lp_succ, goInt, splice, okC, Fr.of, Fr.ofI, Fr.g, Nat.reduceAdd, Nat.reduceMul, Nat.reduceEqDiff, Nat.reduceLT, Nat.reduceLeDiff, Nat.reduceBEq, Int.reduceLT, Int.reduceLE, Int.reduceToNat, Int.reduceAdd, Int.reduceSub, Int.reduceMul, Int.reduceEq, Int.reduceNeg, ↓reduceIte, ↓reduceDIte, Nat.beq, reduceCtorEq, Value.int.injEq, Nat.reduceSub, flat_int, flat_bool, flat_done, regs_flat, flat_i5, flat_need, flat_t2, flat_bt, hk, upd_upd, rng, decide_true, doneT, q63, s63, q83, s83, q84, s84, flat_t2, aluV_10, ar, br, cr]
theorem done_11 (n : Nat) (H : Hp) (R F : Nat → Int) (pc ld : Int) (A B C : Int) (hR : ∀ i, i < 16 → inK .u32 (R i)) (hA : 0 ≤ A ∧ A < 16) (hB : 0 ≤ B ∧ B < 16) (hC : 0 ≤ C ∧ C < 16) (hk : chkV 11 A B C 0 = 0) :
    evCall cfc (n+16) 20 [.agg (regs R F pc).toArray, .agg #[.int .i64 11, .int .i64 A, .int .i64 B, .int .i64 C, .int .i64 0], .int .u64 ld] H = some (.ret (doneT (upd (upd (upd R 0 0) A.toNat (aluV 11 (upd R 0 0 B.toNat) (upd R 0 0 C.toNat))) 0 0) F (IntKind.wrap .u32 (pc + 4)) 0 0), H) := by
  rw [q20 (n+15) _ _ _ (regs_flat _ _ _) rfl rfl H]
  have ar := rg165 hA
  have br := rg165 hB
  have cr := rg165 hC
  have rng : (0 ≤ (11 : Int) ∧ (11 : Int) < 72) = True := by simp
  have szz : sizeV 11 = 0 := rfl
  have fv : formV 11 = 2 := rfl
  simp -implicitDefEqProofs only [s20, v32, v33, s22, q22, v41, szz, q34, s34, v15, fv, q46, s46, q49, s49, q64, s64, q65, s65, tabs_gn, ↓EVdn, EVup, lp_succ, goInt, splice, okC, Fr.of, Fr.ofI, Fr.g, Nat.reduceAdd, Nat.reduceMul, Nat.reduceEqDiff, Nat.reduceLT, Nat.reduceLeDiff, Nat.reduceBEq, Int.reduceLT, Int.reduceLE, Int.reduceToNat, Int.reduceAdd, Int.reduceSub, Int.reduceMul, Int.reduceEq, Int.reduceNeg, ↓reduceIte, ↓reduceDIte, Nat.beq, reduceCtorEq, Value.int.injEq, Nat.reduceSub, flat_int, flat_bool, flat_done, regs_flat, flat_i5, flat_need, flat_t2, flat_bt, hk, upd_upd, rng, decide_true, doneT, q63, s63, q83, s83, q84, s84, flat_t2, aluV_11, ar, br, cr]
theorem done_12 (n : Nat) (H : Hp) (R F : Nat → Int) (pc ld : Int) (A B C : Int) (hR : ∀ i, i < 16 → inK .u32 (R i)) (hA : 0 ≤ A ∧ A < 16) (hB : 0 ≤ B ∧ B < 16) (hC : 0 ≤ C ∧ C < 16) (hk : chkV 12 A B C 0 = 0) :
    evCall cfc (n+16) 20 [.agg (regs R F pc).toArray, .agg #[.int .i64 12, .int .i64 A, .int .i64 B, .int .i64 C, .int .i64 0], .int .u64 ld] H = some (.ret (doneT (upd (upd (upd R 0 0) A.toNat (aluV 12 (upd R 0 0 B.toNat) (upd R 0 0 C.toNat))) 0 0) F (IntKind.wrap .u32 (pc + 4)) 0 0), H) := by
  rw [q20 (n+15) _ _ _ (regs_flat _ _ _) rfl rfl H]
  have ar := rg165 hA
  have br := rg165 hB
  have cr := rg165 hC
  have rng : (0 ≤ (12 : Int) ∧ (12 : Int) < 72) = True := by simp
  have szz : sizeV 12 = 0 := rfl
  have fv : formV 12 = 2 := rfl
  simp -implicitDefEqProofs only [s20, v32, v33, s22, q22, v41, szz, q34, s34, v15, fv, q46, s46, q49, s49, q64, s64, q65, s65, tabs_gn, ↓EVdn, EVup, lp_succ, goInt, splice, okC, Fr.of, Fr.ofI, Fr.g, Nat.reduceAdd, Nat.reduceMul, Nat.reduceEqDiff, Nat.reduceLT, Nat.reduceLeDiff, Nat.reduceBEq, Int.reduceLT, Int.reduceLE, Int.reduceToNat, Int.reduceAdd, Int.reduceSub, Int.reduceMul, Int.reduceEq, Int.reduceNeg, ↓reduceIte, ↓reduceDIte, Nat.beq, reduceCtorEq, Value.int.injEq, Nat.reduceSub, flat_int, flat_bool, flat_done, regs_flat, flat_i5, flat_need, flat_t2, flat_bt, hk, upd_upd, rng, decide_true, doneT, q63, s63, q83, s83, q84, s84, flat_t2, aluV_12, ar, br, cr]
theorem done_13 (n : Nat) (H : Hp) (R F : Nat → Int) (pc ld : Int) (A B C : Int) (hR : ∀ i, i < 16 → inK .u32 (R i)) (hA : 0 ≤ A ∧ A < 16) (hB : 0 ≤ B ∧ B < 16) (hC : 0 ≤ C ∧ C < 16) (hk : chkV 13 A B C 0 = 0) :
    evCall cfc (n+16) 20 [.agg (regs R F pc).toArray, .agg #[.int .i64 13, .int .i64 A, .int .i64 B, .int .i64 C, .int .i64 0], .int .u64 ld] H = some (.ret (doneT (upd (upd (upd R 0 0) A.toNat (aluV 13 (upd R 0 0 B.toNat) (upd R 0 0 C.toNat))) 0 0) F (IntKind.wrap .u32 (pc + 4)) 0 0), H) := by
  rw [q20 (n+15) _ _ _ (regs_flat _ _ _) rfl rfl H]
  have ar := rg165 hA
  have br := rg165 hB
  have cr := rg165 hC
  have rng : (0 ≤ (13 : Int) ∧ (13 : Int) < 72) = True := by simp
  have szz : sizeV 13 = 0 := rfl
  have fv : formV 13 = 2 := rfl
  have hs : (andK .u32 (upd R 0 0 C.toNat) 31 < 0) = False := eq_false (by have := and31 (upd R 0 0 C.toNat); omega)
  simp -implicitDefEqProofs only [s20, v32, v33, s22, q22, v41, szz, q34, s34, v15, fv, q46, s46, q49, s49, q64, s64, q65, s65, tabs_gn, ↓EVdn, EVup, lp_succ, goInt, splice, okC, Fr.of, Fr.ofI, Fr.g, Nat.reduceAdd, Nat.reduceMul, Nat.reduceEqDiff, Nat.reduceLT, Nat.reduceLeDiff, Nat.reduceBEq, Int.reduceLT, Int.reduceLE, Int.reduceToNat, Int.reduceAdd, Int.reduceSub, Int.reduceMul, Int.reduceEq, Int.reduceNeg, ↓reduceIte, ↓reduceDIte, Nat.beq, reduceCtorEq, Value.int.injEq, Nat.reduceSub, flat_int, flat_bool, flat_done, regs_flat, flat_i5, flat_need, flat_t2, flat_bt, hk, upd_upd, rng, decide_true, doneT, q63, s63, q83, s83, q84, s84, flat_t2, aluV_13, ar, br, cr, hs]
theorem done_14 (n : Nat) (H : Hp) (R F : Nat → Int) (pc ld : Int) (A B C : Int) (hR : ∀ i, i < 16 → inK .u32 (R i)) (hA : 0 ≤ A ∧ A < 16) (hB : 0 ≤ B ∧ B < 16) (hC : 0 ≤ C ∧ C < 16) (hk : chkV 14 A B C 0 = 0) :
    evCall cfc (n+16) 20 [.agg (regs R F pc).toArray, .agg #[.int .i64 14, .int .i64 A, .int .i64 B, .int .i64 C, .int .i64 0], .int .u64 ld] H = some (.ret (doneT (upd (upd (upd R 0 0) A.toNat (aluV 14 (upd R 0 0 B.toNat) (upd R 0 0 C.toNat))) 0 0) F (IntKind.wrap .u32 (pc + 4)) 0 0), H) := by
  rw [q20 (n+15) _ _ _ (regs_flat _ _ _) rfl rfl H]
  have ar := rg165 hA
  have br := rg165 hB
  have cr := rg165 hC
  have rng : (0 ≤ (14 : Int) ∧ (14 : Int) < 72) = True := by simp
  have szz : sizeV 14 = 0 := rfl
  have fv : formV 14 = 2 := rfl
  have hs : (andK .u32 (upd R 0 0 C.toNat) 31 < 0) = False := eq_false (by have := and31 (upd R 0 0 C.toNat); omega)
  simp -implicitDefEqProofs only [s20, v32, v33, s22, q22, v41, szz, q34, s34, v15, fv, q46, s46, q49, s49, q64, s64, q65, s65, tabs_gn, ↓EVdn, EVup, lp_succ, goInt, splice, okC, Fr.of, Fr.ofI, Fr.g, Nat.reduceAdd, Nat.reduceMul, Nat.reduceEqDiff, Nat.reduceLT, Nat.reduceLeDiff, Nat.reduceBEq, Int.reduceLT, Int.reduceLE, Int.reduceToNat, Int.reduceAdd, Int.reduceSub, Int.reduceMul, Int.reduceEq, Int.reduceNeg, ↓reduceIte, ↓reduceDIte, Nat.beq, reduceCtorEq, Value.int.injEq, Nat.reduceSub, flat_int, flat_bool, flat_done, regs_flat, flat_i5, flat_need, flat_t2, flat_bt, hk, upd_upd, rng, decide_true, doneT, q63, s63, q83, s83, q84, s84, flat_t2, aluV_14, ar, br, cr, hs]
theorem done_15 (n : Nat) (H : Hp) (R F : Nat → Int) (pc ld : Int) (A B C : Int) (hR : ∀ i, i < 16 → inK .u32 (R i)) (hA : 0 ≤ A ∧ A < 16) (hB : 0 ≤ B ∧ B < 16) (hC : 0 ≤ C ∧ C < 16) (hk : chkV 15 A B C 0 = 0) :
    evCall cfc (n+16) 20 [.agg (regs R F pc).toArray, .agg #[.int .i64 15, .int .i64 A, .int .i64 B, .int .i64 C, .int .i64 0], .int .u64 ld] H = some (.ret (doneT (upd (upd (upd R 0 0) A.toNat (aluV 15 (upd R 0 0 B.toNat) (upd R 0 0 C.toNat))) 0 0) F (IntKind.wrap .u32 (pc + 4)) 0 0), H) := by
  rw [q20 (n+15) _ _ _ (regs_flat _ _ _) rfl rfl H]
  have ar := rg165 hA
  have br := rg165 hB
  have cr := rg165 hC
  have rng : (0 ≤ (15 : Int) ∧ (15 : Int) < 72) = True := by simp
  have szz : sizeV 15 = 0 := rfl
  have fv : formV 15 = 2 := rfl
  have hs : (andK .u32 (upd R 0 0 C.toNat) 31 < 0) = False := eq_false (by have := and31 (upd R 0 0 C.toNat); omega)
  simp -implicitDefEqProofs only [s20, v32, v33, s22, q22, v41, szz, q34, s34, v15, fv, q46, s46, q49, s49, q64, s64, q65, s65, tabs_gn, ↓EVdn, EVup, lp_succ, goInt, splice, okC, Fr.of, Fr.ofI, Fr.g, Nat.reduceAdd, Nat.reduceMul, Nat.reduceEqDiff, Nat.reduceLT, Nat.reduceLeDiff, Nat.reduceBEq, Int.reduceLT, Int.reduceLE, Int.reduceToNat, Int.reduceAdd, Int.reduceSub, Int.reduceMul, Int.reduceEq, Int.reduceNeg, ↓reduceIte, ↓reduceDIte, Nat.beq, reduceCtorEq, Value.int.injEq, Nat.reduceSub, flat_int, flat_bool, flat_done, regs_flat, flat_i5, flat_need, flat_t2, flat_bt, hk, upd_upd, rng, decide_true, doneT, q63, s63, q83, s83, q84, s84, flat_t2, aluV_15, ar, br, cr, hs]
theorem done_16 (n : Nat) (H : Hp) (R F : Nat → Int) (pc ld : Int) (A B C : Int) (hR : ∀ i, i < 16 → inK .u32 (R i)) (hA : 0 ≤ A ∧ A < 16) (hB : 0 ≤ B ∧ B < 16) (hC : 0 ≤ C ∧ C < 16) (hk : chkV 16 A B C 0 = 0) :
    evCall cfc (n+16) 20 [.agg (regs R F pc).toArray, .agg #[.int .i64 16, .int .i64 A, .int .i64 B, .int .i64 C, .int .i64 0], .int .u64 ld] H = some (.ret (doneT (upd (upd (upd R 0 0) A.toNat (aluV 16 (upd R 0 0 B.toNat) (upd R 0 0 C.toNat))) 0 0) F (IntKind.wrap .u32 (pc + 4)) 0 0), H) := by
  rw [q20 (n+15) _ _ _ (regs_flat _ _ _) rfl rfl H]
  have ar := rg165 hA
  have br := rg165 hB
  have cr := rg165 hC
  have rng : (0 ≤ (16 : Int) ∧ (16 : Int) < 72) = True := by simp
  have szz : sizeV 16 = 0 := rfl
  have fv : formV 16 = 2 := rfl
  rcases Classical.propComplete (IntKind.wrap .i32 (upd R 0 0 B.toNat) < IntKind.wrap .i32 (upd R 0 0 C.toNat)) with hs | hs
  all_goals simp -implicitDefEqProofs only [s20, v32, v33, s22, q22, v41, szz, q34, s34, v15, fv, q46, s46, q49, s49, q64, s64, q65, s65, tabs_gn, ↓EVdn, EVup, lp_succ, goInt, splice, okC, Fr.of, Fr.ofI, Fr.g, Nat.reduceAdd, Nat.reduceMul, Nat.reduceEqDiff, Nat.reduceLT, Nat.reduceLeDiff, Nat.reduceBEq, Int.reduceLT, Int.reduceLE, Int.reduceToNat, Int.reduceAdd, Int.reduceSub, Int.reduceMul, Int.reduceEq, Int.reduceNeg, ↓reduceIte, ↓reduceDIte, Nat.beq, reduceCtorEq, Value.int.injEq, Nat.reduceSub, flat_int, flat_bool, flat_done, regs_flat, flat_i5, flat_need, flat_t2, flat_bt, hk, upd_upd, rng, decide_true, doneT, q63, s63, q83, s83, q84, s84, flat_t2, aluV_16, ar, br, cr, hs]
theorem done_17 (n : Nat) (H : Hp) (R F : Nat → Int) (pc ld : Int) (A B C : Int) (hR : ∀ i, i < 16 → inK .u32 (R i)) (hA : 0 ≤ A ∧ A < 16) (hB : 0 ≤ B ∧ B < 16) (hC : 0 ≤ C ∧ C < 16) (hk : chkV 17 A B C 0 = 0) :
    evCall cfc (n+16) 20 [.agg (regs R F pc).toArray, .agg #[.int .i64 17, .int .i64 A, .int .i64 B, .int .i64 C, .int .i64 0], .int .u64 ld] H = some (.ret (doneT (upd (upd (upd R 0 0) A.toNat (aluV 17 (upd R 0 0 B.toNat) (upd R 0 0 C.toNat))) 0 0) F (IntKind.wrap .u32 (pc + 4)) 0 0), H) := by
  rw [q20 (n+15) _ _ _ (regs_flat _ _ _) rfl rfl H]
  have ar := rg165 hA
  have br := rg165 hB
  have cr := rg165 hC
  have rng : (0 ≤ (17 : Int) ∧ (17 : Int) < 72) = True := by simp
  have szz : sizeV 17 = 0 := rfl
  have fv : formV 17 = 2 := rfl
  rcases Classical.propComplete ((upd R 0 0 B.toNat) < (upd R 0 0 C.toNat)) with hs | hs
  all_goals simp -implicitDefEqProofs only [s20, v32, v33, s22, q22, v41, szz, q34, s34, v15, fv, q46, s46, q49, s49, q64, s64, q65, s65, tabs_gn, ↓EVdn, EVup, lp_succ, goInt, splice, okC, Fr.of, Fr.ofI, Fr.g, Nat.reduceAdd, Nat.reduceMul, Nat.reduceEqDiff, Nat.reduceLT, Nat.reduceLeDiff, Nat.reduceBEq, Int.reduceLT, Int.reduceLE, Int.reduceToNat, Int.reduceAdd, Int.reduceSub, Int.reduceMul, Int.reduceEq, Int.reduceNeg, ↓reduceIte, ↓reduceDIte, Nat.beq, reduceCtorEq, Value.int.injEq, Nat.reduceSub, flat_int, flat_bool, flat_done, regs_flat, flat_i5, flat_need, flat_t2, flat_bt, hk, upd_upd, rng, decide_true, doneT, q63, s63, q83, s83, q84, s84, flat_t2, aluV_17, ar, br, cr, hs]
theorem done_18 (n : Nat) (H : Hp) (R F : Nat → Int) (pc ld : Int) (A B I : Int) (hR : ∀ i, i < 16 → inK .u32 (R i)) (hA : 0 ≤ A ∧ A < 16) (hB : 0 ≤ B ∧ B < 16) (hk : chkV 18 A B 0 I = 0) :
    evCall cfc (n+16) 20 [.agg (regs R F pc).toArray, .agg #[.int .i64 18, .int .i64 A, .int .i64 B, .int .i64 0, .int .i64 I], .int .u64 ld] H = some (.ret (doneT (upd (upd (upd R 0 0) A.toNat (aluV 18 (upd R 0 0 B.toNat) (IntKind.wrap .u32 I))) 0 0) F (IntKind.wrap .u32 (pc + 4)) 0 0), H) := by
  rw [q20 (n+15) _ _ _ (regs_flat _ _ _) rfl rfl H]
  have ar := rg165 hA
  have br := rg165 hB
  have rng : (0 ≤ (18 : Int) ∧ (18 : Int) < 72) = True := by simp
  have szz : sizeV 18 = 0 := rfl
  have fv : formV 18 = 3 := rfl
  simp -implicitDefEqProofs only [s20, v32, v33, s22, q22, v41, szz, q34, s34, v15, fv, q46, s46, q49, s49, q64, s64, q65, s65, tabs_gn, ↓EVdn, EVup, lp_succ, goInt, splice, okC, Fr.of, Fr.ofI, Fr.g, Nat.reduceAdd, Nat.reduceMul, Nat.reduceEqDiff, Nat.reduceLT, Nat.reduceLeDiff, Nat.reduceBEq, Int.reduceLT, Int.reduceLE, Int.reduceToNat, Int.reduceAdd, Int.reduceSub, Int.reduceMul, Int.reduceEq, Int.reduceNeg, ↓reduceIte, ↓reduceDIte, Nat.beq, reduceCtorEq, Value.int.injEq, Nat.reduceSub, flat_int, flat_bool, flat_done, regs_flat, flat_i5, flat_need, flat_t2, flat_bt, hk, upd_upd, rng, decide_true, doneT, q63, s63, q83, s83, q84, s84, flat_t2, aluV_18, ar, br]
theorem done_19 (n : Nat) (H : Hp) (R F : Nat → Int) (pc ld : Int) (A B I : Int) (hR : ∀ i, i < 16 → inK .u32 (R i)) (hA : 0 ≤ A ∧ A < 16) (hB : 0 ≤ B ∧ B < 16) (hk : chkV 19 A B 0 I = 0) :
    evCall cfc (n+16) 20 [.agg (regs R F pc).toArray, .agg #[.int .i64 19, .int .i64 A, .int .i64 B, .int .i64 0, .int .i64 I], .int .u64 ld] H = some (.ret (doneT (upd (upd (upd R 0 0) A.toNat (aluV 19 (upd R 0 0 B.toNat) (IntKind.wrap .u32 I))) 0 0) F (IntKind.wrap .u32 (pc + 4)) 0 0), H) := by
  rw [q20 (n+15) _ _ _ (regs_flat _ _ _) rfl rfl H]
  have ar := rg165 hA
  have br := rg165 hB
  have rng : (0 ≤ (19 : Int) ∧ (19 : Int) < 72) = True := by simp
  have szz : sizeV 19 = 0 := rfl
  have fv : formV 19 = 3 := rfl
  simp -implicitDefEqProofs only [s20, v32, v33, s22, q22, v41, szz, q34, s34, v15, fv, q46, s46, q49, s49, q64, s64, q65, s65, tabs_gn, ↓EVdn, EVup, lp_succ, goInt, splice, okC, Fr.of, Fr.ofI, Fr.g, Nat.reduceAdd, Nat.reduceMul, Nat.reduceEqDiff, Nat.reduceLT, Nat.reduceLeDiff, Nat.reduceBEq, Int.reduceLT, Int.reduceLE, Int.reduceToNat, Int.reduceAdd, Int.reduceSub, Int.reduceMul, Int.reduceEq, Int.reduceNeg, ↓reduceIte, ↓reduceDIte, Nat.beq, reduceCtorEq, Value.int.injEq, Nat.reduceSub, flat_int, flat_bool, flat_done, regs_flat, flat_i5, flat_need, flat_t2, flat_bt, hk, upd_upd, rng, decide_true, doneT, q63, s63, q83, s83, q84, s84, flat_t2, aluV_19, ar, br]
theorem done_20 (n : Nat) (H : Hp) (R F : Nat → Int) (pc ld : Int) (A B I : Int) (hR : ∀ i, i < 16 → inK .u32 (R i)) (hA : 0 ≤ A ∧ A < 16) (hB : 0 ≤ B ∧ B < 16) (hk : chkV 20 A B 0 I = 0) :
    evCall cfc (n+16) 20 [.agg (regs R F pc).toArray, .agg #[.int .i64 20, .int .i64 A, .int .i64 B, .int .i64 0, .int .i64 I], .int .u64 ld] H = some (.ret (doneT (upd (upd (upd R 0 0) A.toNat (aluV 20 (upd R 0 0 B.toNat) (IntKind.wrap .u32 I))) 0 0) F (IntKind.wrap .u32 (pc + 4)) 0 0), H) := by
  rw [q20 (n+15) _ _ _ (regs_flat _ _ _) rfl rfl H]
  have ar := rg165 hA
  have br := rg165 hB
  have rng : (0 ≤ (20 : Int) ∧ (20 : Int) < 72) = True := by simp
  have szz : sizeV 20 = 0 := rfl
  have fv : formV 20 = 3 := rfl
  simp -implicitDefEqProofs only [s20, v32, v33, s22, q22, v41, szz, q34, s34, v15, fv, q46, s46, q49, s49, q64, s64, q65, s65, tabs_gn, ↓EVdn, EVup, lp_succ, goInt, splice, okC, Fr.of, Fr.ofI, Fr.g, Nat.reduceAdd, Nat.reduceMul, Nat.reduceEqDiff, Nat.reduceLT, Nat.reduceLeDiff, Nat.reduceBEq, Int.reduceLT, Int.reduceLE, Int.reduceToNat, Int.reduceAdd, Int.reduceSub, Int.reduceMul, Int.reduceEq, Int.reduceNeg, ↓reduceIte, ↓reduceDIte, Nat.beq, reduceCtorEq, Value.int.injEq, Nat.reduceSub, flat_int, flat_bool, flat_done, regs_flat, flat_i5, flat_need, flat_t2, flat_bt, hk, upd_upd, rng, decide_true, doneT, q63, s63, q83, s83, q84, s84, flat_t2, aluV_20, ar, br]
theorem done_21 (n : Nat) (H : Hp) (R F : Nat → Int) (pc ld : Int) (A B I : Int) (hR : ∀ i, i < 16 → inK .u32 (R i)) (hA : 0 ≤ A ∧ A < 16) (hB : 0 ≤ B ∧ B < 16) (hk : chkV 21 A B 0 I = 0) :
    evCall cfc (n+16) 20 [.agg (regs R F pc).toArray, .agg #[.int .i64 21, .int .i64 A, .int .i64 B, .int .i64 0, .int .i64 I], .int .u64 ld] H = some (.ret (doneT (upd (upd (upd R 0 0) A.toNat (aluV 21 (upd R 0 0 B.toNat) (IntKind.wrap .u32 I))) 0 0) F (IntKind.wrap .u32 (pc + 4)) 0 0), H) := by
  rw [q20 (n+15) _ _ _ (regs_flat _ _ _) rfl rfl H]
  have ar := rg165 hA
  have br := rg165 hB
  have rng : (0 ≤ (21 : Int) ∧ (21 : Int) < 72) = True := by simp
  have szz : sizeV 21 = 0 := rfl
  have fv : formV 21 = 3 := rfl
  simp -implicitDefEqProofs only [s20, v32, v33, s22, q22, v41, szz, q34, s34, v15, fv, q46, s46, q49, s49, q64, s64, q65, s65, tabs_gn, ↓EVdn, EVup, lp_succ, goInt, splice, okC, Fr.of, Fr.ofI, Fr.g, Nat.reduceAdd, Nat.reduceMul, Nat.reduceEqDiff, Nat.reduceLT, Nat.reduceLeDiff, Nat.reduceBEq, Int.reduceLT, Int.reduceLE, Int.reduceToNat, Int.reduceAdd, Int.reduceSub, Int.reduceMul, Int.reduceEq, Int.reduceNeg, ↓reduceIte, ↓reduceDIte, Nat.beq, reduceCtorEq, Value.int.injEq, Nat.reduceSub, flat_int, flat_bool, flat_done, regs_flat, flat_i5, flat_need, flat_t2, flat_bt, hk, upd_upd, rng, decide_true, doneT, q63, s63, q83, s83, q84, s84, flat_t2, aluV_21, ar, br]
theorem done_22 (n : Nat) (H : Hp) (R F : Nat → Int) (pc ld : Int) (A B I : Int) (hR : ∀ i, i < 16 → inK .u32 (R i)) (hA : 0 ≤ A ∧ A < 16) (hB : 0 ≤ B ∧ B < 16) (hk : chkV 22 A B 0 I = 0) :
    evCall cfc (n+16) 20 [.agg (regs R F pc).toArray, .agg #[.int .i64 22, .int .i64 A, .int .i64 B, .int .i64 0, .int .i64 I], .int .u64 ld] H = some (.ret (doneT (upd (upd (upd R 0 0) A.toNat (aluV 22 (upd R 0 0 B.toNat) (IntKind.wrap .u32 I))) 0 0) F (IntKind.wrap .u32 (pc + 4)) 0 0), H) := by
  rw [q20 (n+15) _ _ _ (regs_flat _ _ _) rfl rfl H]
  have ar := rg165 hA
  have br := rg165 hB
  have rng : (0 ≤ (22 : Int) ∧ (22 : Int) < 72) = True := by simp
  have szz : sizeV 22 = 0 := rfl
  have fv : formV 22 = 3 := rfl
  have hs : (andK .u32 (IntKind.wrap .u32 I) 31 < 0) = False := eq_false (by have := and31 (IntKind.wrap .u32 I); omega)
  simp -implicitDefEqProofs only [s20, v32, v33, s22, q22, v41, szz, q34, s34, v15, fv, q46, s46, q49, s49, q64, s64, q65, s65, tabs_gn, ↓EVdn, EVup, lp_succ, goInt, splice, okC, Fr.of, Fr.ofI, Fr.g, Nat.reduceAdd, Nat.reduceMul, Nat.reduceEqDiff, Nat.reduceLT, Nat.reduceLeDiff, Nat.reduceBEq, Int.reduceLT, Int.reduceLE, Int.reduceToNat, Int.reduceAdd, Int.reduceSub, Int.reduceMul, Int.reduceEq, Int.reduceNeg, ↓reduceIte, ↓reduceDIte, Nat.beq, reduceCtorEq, Value.int.injEq, Nat.reduceSub, flat_int, flat_bool, flat_done, regs_flat, flat_i5, flat_need, flat_t2, flat_bt, hk, upd_upd, rng, decide_true, doneT, q63, s63, q83, s83, q84, s84, flat_t2, aluV_22, ar, br, hs]
theorem done_23 (n : Nat) (H : Hp) (R F : Nat → Int) (pc ld : Int) (A B I : Int) (hR : ∀ i, i < 16 → inK .u32 (R i)) (hA : 0 ≤ A ∧ A < 16) (hB : 0 ≤ B ∧ B < 16) (hk : chkV 23 A B 0 I = 0) :
    evCall cfc (n+16) 20 [.agg (regs R F pc).toArray, .agg #[.int .i64 23, .int .i64 A, .int .i64 B, .int .i64 0, .int .i64 I], .int .u64 ld] H = some (.ret (doneT (upd (upd (upd R 0 0) A.toNat (aluV 23 (upd R 0 0 B.toNat) (IntKind.wrap .u32 I))) 0 0) F (IntKind.wrap .u32 (pc + 4)) 0 0), H) := by
  rw [q20 (n+15) _ _ _ (regs_flat _ _ _) rfl rfl H]
  have ar := rg165 hA
  have br := rg165 hB
  have rng : (0 ≤ (23 : Int) ∧ (23 : Int) < 72) = True := by simp
  have szz : sizeV 23 = 0 := rfl
  have fv : formV 23 = 3 := rfl
  have hs : (andK .u32 (IntKind.wrap .u32 I) 31 < 0) = False := eq_false (by have := and31 (IntKind.wrap .u32 I); omega)
  simp -implicitDefEqProofs only [s20, v32, v33, s22, q22, v41, szz, q34, s34, v15, fv, q46, s46, q49, s49, q64, s64, q65, s65, tabs_gn, ↓EVdn, EVup, lp_succ, goInt, splice, okC, Fr.of, Fr.ofI, Fr.g, Nat.reduceAdd, Nat.reduceMul, Nat.reduceEqDiff, Nat.reduceLT, Nat.reduceLeDiff, Nat.reduceBEq, Int.reduceLT, Int.reduceLE, Int.reduceToNat, Int.reduceAdd, Int.reduceSub, Int.reduceMul, Int.reduceEq, Int.reduceNeg, ↓reduceIte, ↓reduceDIte, Nat.beq, reduceCtorEq, Value.int.injEq, Nat.reduceSub, flat_int, flat_bool, flat_done, regs_flat, flat_i5, flat_need, flat_t2, flat_bt, hk, upd_upd, rng, decide_true, doneT, q63, s63, q83, s83, q84, s84, flat_t2, aluV_23, ar, br, hs]
theorem done_24 (n : Nat) (H : Hp) (R F : Nat → Int) (pc ld : Int) (A B I : Int) (hR : ∀ i, i < 16 → inK .u32 (R i)) (hA : 0 ≤ A ∧ A < 16) (hB : 0 ≤ B ∧ B < 16) (hk : chkV 24 A B 0 I = 0) :
    evCall cfc (n+16) 20 [.agg (regs R F pc).toArray, .agg #[.int .i64 24, .int .i64 A, .int .i64 B, .int .i64 0, .int .i64 I], .int .u64 ld] H = some (.ret (doneT (upd (upd (upd R 0 0) A.toNat (aluV 24 (upd R 0 0 B.toNat) (IntKind.wrap .u32 I))) 0 0) F (IntKind.wrap .u32 (pc + 4)) 0 0), H) := by
  rw [q20 (n+15) _ _ _ (regs_flat _ _ _) rfl rfl H]
  have ar := rg165 hA
  have br := rg165 hB
  have rng : (0 ≤ (24 : Int) ∧ (24 : Int) < 72) = True := by simp
  have szz : sizeV 24 = 0 := rfl
  have fv : formV 24 = 3 := rfl
  have hs : (andK .u32 (IntKind.wrap .u32 I) 31 < 0) = False := eq_false (by have := and31 (IntKind.wrap .u32 I); omega)
  simp -implicitDefEqProofs only [s20, v32, v33, s22, q22, v41, szz, q34, s34, v15, fv, q46, s46, q49, s49, q64, s64, q65, s65, tabs_gn, ↓EVdn, EVup, lp_succ, goInt, splice, okC, Fr.of, Fr.ofI, Fr.g, Nat.reduceAdd, Nat.reduceMul, Nat.reduceEqDiff, Nat.reduceLT, Nat.reduceLeDiff, Nat.reduceBEq, Int.reduceLT, Int.reduceLE, Int.reduceToNat, Int.reduceAdd, Int.reduceSub, Int.reduceMul, Int.reduceEq, Int.reduceNeg, ↓reduceIte, ↓reduceDIte, Nat.beq, reduceCtorEq, Value.int.injEq, Nat.reduceSub, flat_int, flat_bool, flat_done, regs_flat, flat_i5, flat_need, flat_t2, flat_bt, hk, upd_upd, rng, decide_true, doneT, q63, s63, q83, s83, q84, s84, flat_t2, aluV_24, ar, br, hs]
theorem done_25 (n : Nat) (H : Hp) (R F : Nat → Int) (pc ld : Int) (A B I : Int) (hR : ∀ i, i < 16 → inK .u32 (R i)) (hA : 0 ≤ A ∧ A < 16) (hB : 0 ≤ B ∧ B < 16) (hk : chkV 25 A B 0 I = 0) :
    evCall cfc (n+16) 20 [.agg (regs R F pc).toArray, .agg #[.int .i64 25, .int .i64 A, .int .i64 B, .int .i64 0, .int .i64 I], .int .u64 ld] H = some (.ret (doneT (upd (upd (upd R 0 0) A.toNat (aluV 25 (upd R 0 0 B.toNat) (IntKind.wrap .u32 I))) 0 0) F (IntKind.wrap .u32 (pc + 4)) 0 0), H) := by
  rw [q20 (n+15) _ _ _ (regs_flat _ _ _) rfl rfl H]
  have ar := rg165 hA
  have br := rg165 hB
  have rng : (0 ≤ (25 : Int) ∧ (25 : Int) < 72) = True := by simp
  have szz : sizeV 25 = 0 := rfl
  have fv : formV 25 = 3 := rfl
  rcases Classical.propComplete (IntKind.wrap .i32 (upd R 0 0 B.toNat) < IntKind.wrap .i32 (IntKind.wrap .u32 I)) with hs | hs
  all_goals simp -implicitDefEqProofs only [s20, v32, v33, s22, q22, v41, szz, q34, s34, v15, fv, q46, s46, q49, s49, q64, s64, q65, s65, tabs_gn, ↓EVdn, EVup, lp_succ, goInt, splice, okC, Fr.of, Fr.ofI, Fr.g, Nat.reduceAdd, Nat.reduceMul, Nat.reduceEqDiff, Nat.reduceLT, Nat.reduceLeDiff, Nat.reduceBEq, Int.reduceLT, Int.reduceLE, Int.reduceToNat, Int.reduceAdd, Int.reduceSub, Int.reduceMul, Int.reduceEq, Int.reduceNeg, ↓reduceIte, ↓reduceDIte, Nat.beq, reduceCtorEq, Value.int.injEq, Nat.reduceSub, flat_int, flat_bool, flat_done, regs_flat, flat_i5, flat_need, flat_t2, flat_bt, hk, upd_upd, rng, decide_true, doneT, q63, s63, q83, s83, q84, s84, flat_t2, aluV_25, ar, br, hs]
theorem done_26 (n : Nat) (H : Hp) (R F : Nat → Int) (pc ld : Int) (A B I : Int) (hR : ∀ i, i < 16 → inK .u32 (R i)) (hA : 0 ≤ A ∧ A < 16) (hB : 0 ≤ B ∧ B < 16) (hk : chkV 26 A B 0 I = 0) :
    evCall cfc (n+16) 20 [.agg (regs R F pc).toArray, .agg #[.int .i64 26, .int .i64 A, .int .i64 B, .int .i64 0, .int .i64 I], .int .u64 ld] H = some (.ret (doneT (upd (upd (upd R 0 0) A.toNat (aluV 26 (upd R 0 0 B.toNat) (IntKind.wrap .u32 I))) 0 0) F (IntKind.wrap .u32 (pc + 4)) 0 0), H) := by
  rw [q20 (n+15) _ _ _ (regs_flat _ _ _) rfl rfl H]
  have ar := rg165 hA
  have br := rg165 hB
  have rng : (0 ≤ (26 : Int) ∧ (26 : Int) < 72) = True := by simp
  have szz : sizeV 26 = 0 := rfl
  have fv : formV 26 = 3 := rfl
  rcases Classical.propComplete ((upd R 0 0 B.toNat) < (IntKind.wrap .u32 I)) with hs | hs
  all_goals simp -implicitDefEqProofs only [s20, v32, v33, s22, q22, v41, szz, q34, s34, v15, fv, q46, s46, q49, s49, q64, s64, q65, s65, tabs_gn, ↓EVdn, EVup, lp_succ, goInt, splice, okC, Fr.of, Fr.ofI, Fr.g, Nat.reduceAdd, Nat.reduceMul, Nat.reduceEqDiff, Nat.reduceLT, Nat.reduceLeDiff, Nat.reduceBEq, Int.reduceLT, Int.reduceLE, Int.reduceToNat, Int.reduceAdd, Int.reduceSub, Int.reduceMul, Int.reduceEq, Int.reduceNeg, ↓reduceIte, ↓reduceDIte, Nat.beq, reduceCtorEq, Value.int.injEq, Nat.reduceSub, flat_int, flat_bool, flat_done, regs_flat, flat_i5, flat_need, flat_t2, flat_bt, hk, upd_upd, rng, decide_true, doneT, q63, s63, q83, s83, q84, s84, flat_t2, aluV_26, ar, br, hs]
theorem done_27 (n : Nat) (H : Hp) (R F : Nat → Int) (pc ld : Int) (A I : Int) (hR : ∀ i, i < 16 → inK .u32 (R i)) (hA : 0 ≤ A ∧ A < 16) (hk : chkV 27 A 0 0 I = 0) :
    evCall cfc (n+16) 20 [.agg (regs R F pc).toArray, .agg #[.int .i64 27, .int .i64 A, .int .i64 0, .int .i64 0, .int .i64 I], .int .u64 ld] H = some (.ret (doneT (upd (upd (upd R 0 0) A.toNat (aluV 27 0 (IntKind.wrap .u32 I))) 0 0) F (IntKind.wrap .u32 (pc + 4)) 0 0), H) := by
  rw [q20 (n+15) _ _ _ (regs_flat _ _ _) rfl rfl H]
  have ar := rg165 hA
  have rng : (0 ≤ (27 : Int) ∧ (27 : Int) < 72) = True := by simp
  have szz : sizeV 27 = 0 := rfl
  have fv : formV 27 = 4 := rfl
  simp -implicitDefEqProofs only [s20, v32, v33, s22, q22, v41, szz, q34, s34, v15, fv, q46, s46, q49, s49, q64, s64, q65, s65, tabs_gn, ↓EVdn, EVup, lp_succ, goInt, splice, okC, Fr.of, Fr.ofI, Fr.g, Nat.reduceAdd, Nat.reduceMul, Nat.reduceEqDiff, Nat.reduceLT, Nat.reduceLeDiff, Nat.reduceBEq, Int.reduceLT, Int.reduceLE, Int.reduceToNat, Int.reduceAdd, Int.reduceSub, Int.reduceMul, Int.reduceEq, Int.reduceNeg, ↓reduceIte, ↓reduceDIte, Nat.beq, reduceCtorEq, Value.int.injEq, Nat.reduceSub, flat_int, flat_bool, flat_done, regs_flat, flat_i5, flat_need, flat_t2, flat_bt, hk, upd_upd, rng, decide_true, doneT, q63, s63, q83, s83, q84, s84, flat_t2, aluV_27, ar]
end Go.Proofs.YthenglaoolmajaaDoor
