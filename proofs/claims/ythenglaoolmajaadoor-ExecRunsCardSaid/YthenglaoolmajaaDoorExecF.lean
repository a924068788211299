/- The float operations, done. -/
import Derived.Test.YthenglaoolmajaaDoorEvBun
import Derived.Test.YthenglaoolmajaaDoorExecD
import Derived.Test.YthenglaoolmajaaDoorFlX
namespace Go.Proofs.YthenglaoolmajaaDoor
open Go Go.Ev
set_option maxRecDepth 100000
set_option linter.unusedSimpArgs false
set_option linter.unusedVariables false
set_option maxHeartbeats 2000000
set_option linter.unusedSectionVars false
attribute [local congr] bind_front callK_front jn_front ifB_front ifG_front lp_front
theorem q71 (n : Nat) (x0 : Value) (hx0 : flat x0 = true) (H : Hp) : evCall cfc (n+1) 71 [x0] H = floorR H (s71 (evCall cfc n) n x0 Hp.fl) := by
  rw [evCall_quiet (fn := Tryd.f71) (by rfl) Tryd.func71 (by rfl) (by simp [hx0])]
  exact congrArg (floorR H) (s71_eq _ _ _ _)
/-- a float's class -/
def clV (x : Int) : Int :=
  let at_ := fun k : Int => if andK .u64 x 9223372036854775808 = 0 then shlK .u32 1 (4 + k).toNat else shlK .u32 1 (3 - k).toNat
  if andK .u64 (shrK .u64 x 52) 2047 = 2047 then (if shrK .u64 (andK .u64 x 4503599627370495) 51 = 1 then 512 else if andK .u64 x 4503599627370495 = 0 then at_ 3 else 256)
  else if andK .u64 (shrK .u64 x 52) 2047 = 0 then (if andK .u64 x 4503599627370495 = 0 then at_ 0 else at_ 1) else at_ 2
theorem wi_0 : IntKind.wrap .i64 0 = 0 := by decide
theorem wi_1 : IntKind.wrap .i64 1 = 1 := by decide
theorem wi_2 : IntKind.wrap .i64 2 = 2 := by decide
theorem wi_3 : IntKind.wrap .i64 3 = 3 := by decide
theorem wi_4 : IntKind.wrap .i64 4 = 4 := by decide
theorem wi_5 : IntKind.wrap .i64 5 = 5 := by decide
theorem wi_6 : IntKind.wrap .i64 6 = 6 := by decide
theorem wi_7 : IntKind.wrap .i64 7 = 7 := by decide
theorem v71 (n : Nat) (H : Hp) (x : Int) : evCall cfc (n+1) 71 [.int .u64 x] H = some (.ret (.int .u32 (clV x)), H) := by
  rw [q71 n _ rfl H]
  obtain ⟨e, he⟩ : ∃ e, andK .u64 (shrK .u64 x 52) 2047 = e := ⟨_, rfl⟩
  obtain ⟨r, hr⟩ : ∃ r, andK .u64 x 4503599627370495 = r := ⟨_, rfl⟩
  obtain ⟨g, hg⟩ : ∃ g, andK .u64 x 9223372036854775808 = g := ⟨_, rfl⟩
  obtain ⟨t, ht⟩ : ∃ t, shrK .u64 r 51 = t := ⟨_, rfl⟩
  by_cases h1 : e = 2047
  · subst h1
    by_cases h2 : t = 1
    · subst h2
      simp -implicitDefEqProofs only [s71, clV, tabs_gn, ↓EVdn, EVup, lp_succ, goInt, splice, okC, Fr.of, Fr.ofI, Fr.g, Nat.reduceAdd, Nat.reduceMul, Nat.reduceEqDiff, Nat.reduceLT, Nat.reduceLeDiff, Nat.reduceBEq, Int.reduceLT, Int.reduceLE, Int.reduceToNat, Int.reduceAdd, Int.reduceSub, Int.reduceMul, Int.reduceEq, Int.reduceNeg, ↓reduceIte, ↓reduceDIte, Nat.beq, reduceCtorEq, Value.int.injEq, Nat.reduceSub, flat_int, he, hr, hg, ht]
    · by_cases h3 : r = 0
      · subst h3
        by_cases h4 : g = 0 <;> simp -implicitDefEqProofs only [s71, clV, tabs_gn, ↓EVdn, EVup, lp_succ, goInt, splice, okC, Fr.of, Fr.ofI, Fr.g, Nat.reduceAdd, Nat.reduceMul, Nat.reduceEqDiff, Nat.reduceLT, Nat.reduceLeDiff, Nat.reduceBEq, Int.reduceLT, Int.reduceLE, Int.reduceToNat, Int.reduceAdd, Int.reduceSub, Int.reduceMul, Int.reduceEq, Int.reduceNeg, ↓reduceIte, ↓reduceDIte, Nat.beq, reduceCtorEq, Value.int.injEq, Nat.reduceSub, flat_int, he, hr, hg, ht, h2, h4, wi_0, wi_1, wi_2, wi_3, wi_4, wi_5, wi_6, wi_7]
      · by_cases h4 : g = 0 <;> simp -implicitDefEqProofs only [s71, clV, tabs_gn, ↓EVdn, EVup, lp_succ, goInt, splice, okC, Fr.of, Fr.ofI, Fr.g, Nat.reduceAdd, Nat.reduceMul, Nat.reduceEqDiff, Nat.reduceLT, Nat.reduceLeDiff, Nat.reduceBEq, Int.reduceLT, Int.reduceLE, Int.reduceToNat, Int.reduceAdd, Int.reduceSub, Int.reduceMul, Int.reduceEq, Int.reduceNeg, ↓reduceIte, ↓reduceDIte, Nat.beq, reduceCtorEq, Value.int.injEq, Nat.reduceSub, flat_int, he, hr, hg, ht, h2, h3, h4]
  · by_cases h2 : e = 0
    · subst h2
      by_cases h3 : r = 0
      · subst h3
        by_cases h4 : g = 0 <;> simp -implicitDefEqProofs only [s71, clV, tabs_gn, ↓EVdn, EVup, lp_succ, goInt, splice, okC, Fr.of, Fr.ofI, Fr.g, Nat.reduceAdd, Nat.reduceMul, Nat.reduceEqDiff, Nat.reduceLT, Nat.reduceLeDiff, Nat.reduceBEq, Int.reduceLT, Int.reduceLE, Int.reduceToNat, Int.reduceAdd, Int.reduceSub, Int.reduceMul, Int.reduceEq, Int.reduceNeg, ↓reduceIte, ↓reduceDIte, Nat.beq, reduceCtorEq, Value.int.injEq, Nat.reduceSub, flat_int, he, hr, hg, ht, h4, wi_0, wi_1, wi_2, wi_3, wi_4, wi_5, wi_6, wi_7]
      · by_cases h4 : g = 0 <;> simp -implicitDefEqProofs only [s71, clV, tabs_gn, ↓EVdn, EVup, lp_succ, goInt, splice, okC, Fr.of, Fr.ofI, Fr.g, Nat.reduceAdd, Nat.reduceMul, Nat.reduceEqDiff, Nat.reduceLT, Nat.reduceLeDiff, Nat.reduceBEq, Int.reduceLT, Int.reduceLE, Int.reduceToNat, Int.reduceAdd, Int.reduceSub, Int.reduceMul, Int.reduceEq, Int.reduceNeg, ↓reduceIte, ↓reduceDIte, Nat.beq, reduceCtorEq, Value.int.injEq, Nat.reduceSub, flat_int, he, hr, hg, ht, h3, h4, wi_0, wi_1, wi_2, wi_3, wi_4, wi_5, wi_6, wi_7]
    · by_cases h4 : g = 0 <;> simp -implicitDefEqProofs only [s71, clV, tabs_gn, ↓EVdn, EVup, lp_succ, goInt, splice, okC, Fr.of, Fr.ofI, Fr.g, Nat.reduceAdd, Nat.reduceMul, Nat.reduceEqDiff, Nat.reduceLT, Nat.reduceLeDiff, Nat.reduceBEq, Int.reduceLT, Int.reduceLE, Int.reduceToNat, Int.reduceAdd, Int.reduceSub, Int.reduceMul, Int.reduceEq, Int.reduceNeg, ↓reduceIte, ↓reduceDIte, Nat.beq, reduceCtorEq, Value.int.injEq, Nat.reduceSub, flat_int, he, hr, hg, ht, h1, h2, h4, wi_0, wi_1, wi_2, wi_3, wi_4, wi_5, wi_6, wi_7]
theorem flat_t2u (a b : Int) : flat (.tuple #[.int .u64 a, .int .i64 b]) = true := rfl
theorem flat_t2w (a b : Int) : flat (.tuple #[.int .u32 a, .int .i64 b]) = true := rfl
theorem v69_46 (n : Nat) (H : Hp) (a b : Int) : evCall cfc (n+1) 69 [.int .i64 46, .int .u64 a, .int .u64 b] H = some (.ret (.tuple #[.int .u64 (arV 46 a b), .int .i64 0]), H) := v69 n H 46 a b (by simp)
theorem done_46 (n : Nat) (H : Hp) (R F : Nat → Int) (pc A B C ld : Int) (hA : 0 ≤ A ∧ A < 8) (hB : 0 ≤ B ∧ B < 8) (hC : 0 ≤ C ∧ C < 8) (hk : chkV 46 A B C 0 = 0) :
    evCall cfc (n+14) 20 [.agg (regs R F pc).toArray, .agg #[.int .i64 46, .int .i64 A, .int .i64 B, .int .i64 C, .int .i64 0], .int .u64 ld] H =
      some (.ret (doneT (upd R 0 0) (upd F A.toNat (arV 46 (F B.toNat) (F C.toNat))) (IntKind.wrap .u32 (pc + 4)) 0 0), H) := by
  rw [q20 (n+13) _ _ _ (regs_flat _ _ _) rfl rfl H]
  have ar := rg85 hA
  have br := rg85 hB
  have cr := rg85 hC
  have rng : (0 ≤ (46 : Int) ∧ (46 : Int) < 72) = True := by simp
  have szz : sizeV 46 = 0 := rfl
  have fv : formV 46 = 9 := rfl
  simp -implicitDefEqProofs only [s20, v32, v33, s22, q22, v41, szz, q34, s34, v15, fv, q46, s46, q49, s49, q64, s64, q65, s65, tabs_gn, ↓EVdn, EVup, lp_succ, goInt, splice, okC, Fr.of, Fr.ofI, Fr.g, Nat.reduceAdd, Nat.reduceMul, Nat.reduceEqDiff, Nat.reduceLT, Nat.reduceLeDiff, Nat.reduceBEq, Int.reduceLT, Int.reduceLE, Int.reduceToNat, Int.reduceAdd, Int.reduceSub, Int.reduceMul, Int.reduceEq, Int.reduceNeg, ↓reduceIte, ↓reduceDIte, Nat.beq, reduceCtorEq, Value.int.injEq, Nat.reduceSub, flat_int, flat_bool, flat_done, regs_flat, flat_i5, flat_need, flat_t2, flat_bt, hk, upd_upd, rng, decide_true, doneT, q50, s50, q51, s51, q67, s67, v70_55, v70_56, v70_57, v71, v72, v73, flat_t2u, flat_t2w, ar, br, cr, v69_46]
theorem v69_47 (n : Nat) (H : Hp) (a b : Int) : evCall cfc (n+1) 69 [.int .i64 47, .int .u64 a, .int .u64 b] H = some (.ret (.tuple #[.int .u64 (arV 47 a b), .int .i64 0]), H) := v69 n H 47 a b (by simp)
theorem done_47 (n : Nat) (H : Hp) (R F : Nat → Int) (pc A B C ld : Int) (hA : 0 ≤ A ∧ A < 8) (hB : 0 ≤ B ∧ B < 8) (hC : 0 ≤ C ∧ C < 8) (hk : chkV 47 A B C 0 = 0) :
    evCall cfc (n+14) 20 [.agg (regs R F pc).toArray, .agg #[.int .i64 47, .int .i64 A, .int .i64 B, .int .i64 C, .int .i64 0], .int .u64 ld] H =
      some (.ret (doneT (upd R 0 0) (upd F A.toNat (arV 47 (F B.toNat) (F C.toNat))) (IntKind.wrap .u32 (pc + 4)) 0 0), H) := by
  rw [q20 (n+13) _ _ _ (regs_flat _ _ _) rfl rfl H]
  have ar := rg85 hA
  have br := rg85 hB
  have cr := rg85 hC
  have rng : (0 ≤ (47 : Int) ∧ (47 : Int) < 72) = True := by simp
  have szz : sizeV 47 = 0 := rfl
  have fv : formV 47 = 9 := rfl
  simp -implicitDefEqProofs only [s20, v32, v33, s22, q22, v41, szz, q34, s34, v15, fv, q46, s46, q49, s49, q64, s64, q65, s65, tabs_gn, ↓EVdn, EVup, lp_succ, goInt, splice, okC, Fr.of, Fr.ofI, Fr.g, Nat.reduceAdd, Nat.reduceMul, Nat.reduceEqDiff, Nat.reduceLT, Nat.reduceLeDiff, Nat.reduceBEq, Int.reduceLT, Int.reduceLE, Int.reduceToNat, Int.reduceAdd, Int.reduceSub, Int.reduceMul, Int.reduceEq, Int.reduceNeg, ↓reduceIte, ↓reduceDIte, Nat.beq, reduceCtorEq, Value.int.injEq, Nat.reduceSub, flat_int, flat_bool, flat_done, regs_flat, flat_i5, flat_need, flat_t2, flat_bt, hk, upd_upd, rng, decide_true, doneT, q50, s50, q51, s51, q67, s67, v70_55, v70_56, v70_57, v71, v72, v73, flat_t2u, flat_t2w, ar, br, cr, v69_47]
theorem v69_48 (n : Nat) (H : Hp) (a b : Int) : evCall cfc (n+1) 69 [.int .i64 48, .int .u64 a, .int .u64 b] H = some (.ret (.tuple #[.int .u64 (arV 48 a b), .int .i64 0]), H) := v69 n H 48 a b (by simp)
theorem done_48 (n : Nat) (H : Hp) (R F : Nat → Int) (pc A B C ld : Int) (hA : 0 ≤ A ∧ A < 8) (hB : 0 ≤ B ∧ B < 8) (hC : 0 ≤ C ∧ C < 8) (hk : chkV 48 A B C 0 = 0) :
    evCall cfc (n+14) 20 [.agg (regs R F pc).toArray, .agg #[.int .i64 48, .int .i64 A, .int .i64 B, .int .i64 C, .int .i64 0], .int .u64 ld] H =
      some (.ret (doneT (upd R 0 0) (upd F A.toNat (arV 48 (F B.toNat) (F C.toNat))) (IntKind.wrap .u32 (pc + 4)) 0 0), H) := by
  rw [q20 (n+13) _ _ _ (regs_flat _ _ _) rfl rfl H]
  have ar := rg85 hA
  have br := rg85 hB
  have cr := rg85 hC
  have rng : (0 ≤ (48 : Int) ∧ (48 : Int) < 72) = True := by simp
  have szz : sizeV 48 = 0 := rfl
  have fv : formV 48 = 9 := rfl
  simp -implicitDefEqProofs only [s20, v32, v33, s22, q22, v41, szz, q34, s34, v15, fv, q46, s46, q49, s49, q64, s64, q65, s65, tabs_gn, ↓EVdn, EVup, lp_succ, goInt, splice, okC, Fr.of, Fr.ofI, Fr.g, Nat.reduceAdd, Nat.reduceMul, Nat.reduceEqDiff, Nat.reduceLT, Nat.reduceLeDiff, Nat.reduceBEq, Int.reduceLT, Int.reduceLE, Int.reduceToNat, Int.reduceAdd, Int.reduceSub, Int.reduceMul, Int.reduceEq, Int.reduceNeg, ↓reduceIte, ↓reduceDIte, Nat.beq, reduceCtorEq, Value.int.injEq, Nat.reduceSub, flat_int, flat_bool, flat_done, regs_flat, flat_i5, flat_need, flat_t2, flat_bt, hk, upd_upd, rng, decide_true, doneT, q50, s50, q51, s51, q67, s67, v70_55, v70_56, v70_57, v71, v72, v73, flat_t2u, flat_t2w, ar, br, cr, v69_48]
theorem v69_49 (n : Nat) (H : Hp) (a b : Int) : evCall cfc (n+1) 69 [.int .i64 49, .int .u64 a, .int .u64 b] H = some (.ret (.tuple #[.int .u64 (arV 49 a b), .int .i64 0]), H) := v69 n H 49 a b (by simp)
theorem done_49 (n : Nat) (H : Hp) (R F : Nat → Int) (pc A B C ld : Int) (hA : 0 ≤ A ∧ A < 8) (hB : 0 ≤ B ∧ B < 8) (hC : 0 ≤ C ∧ C < 8) (hk : chkV 49 A B C 0 = 0) :
    evCall cfc (n+14) 20 [.agg (regs R F pc).toArray, .agg #[.int .i64 49, .int .i64 A, .int .i64 B, .int .i64 C, .int .i64 0], .int .u64 ld] H =
      some (.ret (doneT (upd R 0 0) (upd F A.toNat (arV 49 (F B.toNat) (F C.toNat))) (IntKind.wrap .u32 (pc + 4)) 0 0), H) := by
  rw [q20 (n+13) _ _ _ (regs_flat _ _ _) rfl rfl H]
  have ar := rg85 hA
  have br := rg85 hB
  have cr := rg85 hC
  have rng : (0 ≤ (49 : Int) ∧ (49 : Int) < 72) = True := by simp
  have szz : sizeV 49 = 0 := rfl
  have fv : formV 49 = 9 := rfl
  simp -implicitDefEqProofs only [s20, v32, v33, s22, q22, v41, szz, q34, s34, v15, fv, q46, s46, q49, s49, q64, s64, q65, s65, tabs_gn, ↓EVdn, EVup, lp_succ, goInt, splice, okC, Fr.of, Fr.ofI, Fr.g, Nat.reduceAdd, Nat.reduceMul, Nat.reduceEqDiff, Nat.reduceLT, Nat.reduceLeDiff, Nat.reduceBEq, Int.reduceLT, Int.reduceLE, Int.reduceToNat, Int.reduceAdd, Int.reduceSub, Int.reduceMul, Int.reduceEq, Int.reduceNeg, ↓reduceIte, ↓reduceDIte, Nat.beq, reduceCtorEq, Value.int.injEq, Nat.reduceSub, flat_int, flat_bool, flat_done, regs_flat, flat_i5, flat_need, flat_t2, flat_bt, hk, upd_upd, rng, decide_true, doneT, q50, s50, q51, s51, q67, s67, v70_55, v70_56, v70_57, v71, v72, v73, flat_t2u, flat_t2w, ar, br, cr, v69_49]
theorem v69_50 (n : Nat) (H : Hp) (a b : Int) : evCall cfc (n+1) 69 [.int .i64 50, .int .u64 a, .int .u64 b] H = some (.ret (.tuple #[.int .u64 (arV 50 a b), .int .i64 0]), H) := v69 n H 50 a b (by simp)
theorem done_50 (n : Nat) (H : Hp) (R F : Nat → Int) (pc A B ld : Int) (hA : 0 ≤ A ∧ A < 8) (hB : 0 ≤ B ∧ B < 8) (hk : chkV 50 A B 0 0 = 0) :
    evCall cfc (n+14) 20 [.agg (regs R F pc).toArray, .agg #[.int .i64 50, .int .i64 A, .int .i64 B, .int .i64 0, .int .i64 0], .int .u64 ld] H =
      some (.ret (doneT (upd R 0 0) (upd F A.toNat (arV 50 (F B.toNat) (0))) (IntKind.wrap .u32 (pc + 4)) 0 0), H) := by
  rw [q20 (n+13) _ _ _ (regs_flat _ _ _) rfl rfl H]
  have ar := rg85 hA
  have br := rg85 hB
  have rng : (0 ≤ (50 : Int) ∧ (50 : Int) < 72) = True := by simp
  have szz : sizeV 50 = 0 := rfl
  have fv : formV 50 = 10 := rfl
  simp -implicitDefEqProofs only [s20, v32, v33, s22, q22, v41, szz, q34, s34, v15, fv, q46, s46, q49, s49, q64, s64, q65, s65, tabs_gn, ↓EVdn, EVup, lp_succ, goInt, splice, okC, Fr.of, Fr.ofI, Fr.g, Nat.reduceAdd, Nat.reduceMul, Nat.reduceEqDiff, Nat.reduceLT, Nat.reduceLeDiff, Nat.reduceBEq, Int.reduceLT, Int.reduceLE, Int.reduceToNat, Int.reduceAdd, Int.reduceSub, Int.reduceMul, Int.reduceEq, Int.reduceNeg, ↓reduceIte, ↓reduceDIte, Nat.beq, reduceCtorEq, Value.int.injEq, Nat.reduceSub, flat_int, flat_bool, flat_done, regs_flat, flat_i5, flat_need, flat_t2, flat_bt, hk, upd_upd, rng, decide_true, doneT, q50, s50, q51, s51, q67, s67, v70_55, v70_56, v70_57, v71, v72, v73, flat_t2u, flat_t2w, ar, br, v69_50]
theorem v69_51 (n : Nat) (H : Hp) (a b : Int) : evCall cfc (n+1) 69 [.int .i64 51, .int .u64 a, .int .u64 b] H = some (.ret (.tuple #[.int .u64 (arV 51 a b), .int .i64 0]), H) := v69 n H 51 a b (by simp)
theorem done_51 (n : Nat) (H : Hp) (R F : Nat → Int) (pc A B C ld : Int) (hA : 0 ≤ A ∧ A < 8) (hB : 0 ≤ B ∧ B < 8) (hC : 0 ≤ C ∧ C < 8) (hk : chkV 51 A B C 0 = 0) :
    evCall cfc (n+14) 20 [.agg (regs R F pc).toArray, .agg #[.int .i64 51, .int .i64 A, .int .i64 B, .int .i64 C, .int .i64 0], .int .u64 ld] H =
      some (.ret (doneT (upd R 0 0) (upd F A.toNat (arV 51 (F B.toNat) (F C.toNat))) (IntKind.wrap .u32 (pc + 4)) 0 0), H) := by
  rw [q20 (n+13) _ _ _ (regs_flat _ _ _) rfl rfl H]
  have ar := rg85 hA
  have br := rg85 hB
  have cr := rg85 hC
  have rng : (0 ≤ (51 : Int) ∧ (51 : Int) < 72) = True := by simp
  have szz : sizeV 51 = 0 := rfl
  have fv : formV 51 = 9 := rfl
  simp -implicitDefEqProofs only [s20, v32, v33, s22, q22, v41, szz, q34, s34, v15, fv, q46, s46, q49, s49, q64, s64, q65, s65, tabs_gn, ↓EVdn, EVup, lp_succ, goInt, splice, okC, Fr.of, Fr.ofI, Fr.g, Nat.reduceAdd, Nat.reduceMul, Nat.reduceEqDiff, Nat.reduceLT, Nat.reduceLeDiff, Nat.reduceBEq, Int.reduceLT, Int.reduceLE, Int.reduceToNat, Int.reduceAdd, Int.reduceSub, Int.reduceMul, Int.reduceEq, Int.reduceNeg, ↓reduceIte, ↓reduceDIte, Nat.beq, reduceCtorEq, Value.int.injEq, Nat.reduceSub, flat_int, flat_bool, flat_done, regs_flat, flat_i5, flat_need, flat_t2, flat_bt, hk, upd_upd, rng, decide_true, doneT, q50, s50, q51, s51, q67, s67, v70_55, v70_56, v70_57, v71, v72, v73, flat_t2u, flat_t2w, ar, br, cr, v69_51]
theorem v69_52 (n : Nat) (H : Hp) (a b : Int) : evCall cfc (n+1) 69 [.int .i64 52, .int .u64 a, .int .u64 b] H = some (.ret (.tuple #[.int .u64 (arV 52 a b), .int .i64 0]), H) := v69 n H 52 a b (by simp)
theorem done_52 (n : Nat) (H : Hp) (R F : Nat → Int) (pc A B C ld : Int) (hA : 0 ≤ A ∧ A < 8) (hB : 0 ≤ B ∧ B < 8) (hC : 0 ≤ C ∧ C < 8) (hk : chkV 52 A B C 0 = 0) :
    evCall cfc (n+14) 20 [.agg (regs R F pc).toArray, .agg #[.int .i64 52, .int .i64 A, .int .i64 B, .int .i64 C, .int .i64 0], .int .u64 ld] H =
      some (.ret (doneT (upd R 0 0) (upd F A.toNat (arV 52 (F B.toNat) (F C.toNat))) (IntKind.wrap .u32 (pc + 4)) 0 0), H) := by
  rw [q20 (n+13) _ _ _ (regs_flat _ _ _) rfl rfl H]
  have ar := rg85 hA
  have br := rg85 hB
  have cr := rg85 hC
  have rng : (0 ≤ (52 : Int) ∧ (52 : Int) < 72) = True := by simp
  have szz : sizeV 52 = 0 := rfl
  have fv : formV 52 = 9 := rfl
  simp -implicitDefEqProofs only [s20, v32, v33, s22, q22, v41, szz, q34, s34, v15, fv, q46, s46, q49, s49, q64, s64, q65, s65, tabs_gn, ↓EVdn, EVup, lp_succ, goInt, splice, okC, Fr.of, Fr.ofI, Fr.g, Nat.reduceAdd, Nat.reduceMul, Nat.reduceEqDiff, Nat.reduceLT, Nat.reduceLeDiff, Nat.reduceBEq, Int.reduceLT, Int.reduceLE, Int.reduceToNat, Int.reduceAdd, Int.reduceSub, Int.reduceMul, Int.reduceEq, Int.reduceNeg, ↓reduceIte, ↓reduceDIte, Nat.beq, reduceCtorEq, Value.int.injEq, Nat.reduceSub, flat_int, flat_bool, flat_done, regs_flat, flat_i5, flat_need, flat_t2, flat_bt, hk, upd_upd, rng, decide_true, doneT, q50, s50, q51, s51, q67, s67, v70_55, v70_56, v70_57, v71, v72, v73, flat_t2u, flat_t2w, ar, br, cr, v69_52]
theorem v69_53 (n : Nat) (H : Hp) (a b : Int) : evCall cfc (n+1) 69 [.int .i64 53, .int .u64 a, .int .u64 b] H = some (.ret (.tuple #[.int .u64 (arV 53 a b), .int .i64 0]), H) := v69 n H 53 a b (by simp)
theorem done_53 (n : Nat) (H : Hp) (R F : Nat → Int) (pc A B ld : Int) (hA : 0 ≤ A ∧ A < 8) (hB : 0 ≤ B ∧ B < 8) (hk : chkV 53 A B 0 0 = 0) :
    evCall cfc (n+14) 20 [.agg (regs R F pc).toArray, .agg #[.int .i64 53, .int .i64 A, .int .i64 B, .int .i64 0, .int .i64 0], .int .u64 ld] H =
      some (.ret (doneT (upd R 0 0) (upd F A.toNat (arV 53 (F B.toNat) (0))) (IntKind.wrap .u32 (pc + 4)) 0 0), H) := by
  rw [q20 (n+13) _ _ _ (regs_flat _ _ _) rfl rfl H]
  have ar := rg85 hA
  have br := rg85 hB
  have rng : (0 ≤ (53 : Int) ∧ (53 : Int) < 72) = True := by simp
  have szz : sizeV 53 = 0 := rfl
  have fv : formV 53 = 10 := rfl
  simp -implicitDefEqProofs only [s20, v32, v33, s22, q22, v41, szz, q34, s34, v15, fv, q46, s46, q49, s49, q64, s64, q65, s65, tabs_gn, ↓EVdn, EVup, lp_succ, goInt, splice, okC, Fr.of, Fr.ofI, Fr.g, Nat.reduceAdd, Nat.reduceMul, Nat.reduceEqDiff, Nat.reduceLT, Nat.reduceLeDiff, Nat.reduceBEq, Int.reduceLT, Int.reduceLE, Int.reduceToNat, Int.reduceAdd, Int.reduceSub, Int.reduceMul, Int.reduceEq, Int.reduceNeg, ↓reduceIte, ↓reduceDIte, Nat.beq, reduceCtorEq, Value.int.injEq, Nat.reduceSub, flat_int, flat_bool, flat_done, regs_flat, flat_i5, flat_need, flat_t2, flat_bt, hk, upd_upd, rng, decide_true, doneT, q50, s50, q51, s51, q67, s67, v70_55, v70_56, v70_57, v71, v72, v73, flat_t2u, flat_t2w, ar, br, v69_53]
theorem v69_54 (n : Nat) (H : Hp) (a b : Int) : evCall cfc (n+1) 69 [.int .i64 54, .int .u64 a, .int .u64 b] H = some (.ret (.tuple #[.int .u64 (arV 54 a b), .int .i64 0]), H) := v69 n H 54 a b (by simp)
theorem done_54 (n : Nat) (H : Hp) (R F : Nat → Int) (pc A B ld : Int) (hA : 0 ≤ A ∧ A < 8) (hB : 0 ≤ B ∧ B < 8) (hk : chkV 54 A B 0 0 = 0) :
    evCall cfc (n+14) 20 [.agg (regs R F pc).toArray, .agg #[.int .i64 54, .int .i64 A, .int .i64 B, .int .i64 0, .int .i64 0], .int .u64 ld] H =
      some (.ret (doneT (upd R 0 0) (upd F A.toNat (arV 54 (F B.toNat) (0))) (IntKind.wrap .u32 (pc + 4)) 0 0), H) := by
  rw [q20 (n+13) _ _ _ (regs_flat _ _ _) rfl rfl H]
  have ar := rg85 hA
  have br := rg85 hB
  have rng : (0 ≤ (54 : Int) ∧ (54 : Int) < 72) = True := by simp
  have szz : sizeV 54 = 0 := rfl
  have fv : formV 54 = 10 := rfl
  simp -implicitDefEqProofs only [s20, v32, v33, s22, q22, v41, szz, q34, s34, v15, fv, q46, s46, q49, s49, q64, s64, q65, s65, tabs_gn, ↓EVdn, EVup, lp_succ, goInt, splice, okC, Fr.of, Fr.ofI, Fr.g, Nat.reduceAdd, Nat.reduceMul, Nat.reduceEqDiff, Nat.reduceLT, Nat.reduceLeDiff, Nat.reduceBEq, Int.reduceLT, Int.reduceLE, Int.reduceToNat, Int.reduceAdd, Int.reduceSub, Int.reduceMul, Int.reduceEq, Int.reduceNeg, ↓reduceIte, ↓reduceDIte, Nat.beq, reduceCtorEq, Value.int.injEq, Nat.reduceSub, flat_int, flat_bool, flat_done, regs_flat, flat_i5, flat_need, flat_t2, flat_bt, hk, upd_upd, rng, decide_true, doneT, q50, s50, q51, s51, q67, s67, v70_55, v70_56, v70_57, v71, v72, v73, flat_t2u, flat_t2w, ar, br, v69_54]
theorem done_55 (n : Nat) (H : Hp) (R F : Nat → Int) (pc A B C ld : Int) (hA : 0 ≤ A ∧ A < 16) (hB : 0 ≤ B ∧ B < 8) (hC : 0 ≤ C ∧ C < 8) (hk : chkV 55 A B C 0 = 0) :
    evCall cfc (n+14) 20 [.agg (regs R F pc).toArray, .agg #[.int .i64 55, .int .i64 A, .int .i64 B, .int .i64 C, .int .i64 0], .int .u64 ld] H =
      some (.ret (doneT (upd (upd (upd R 0 0) A.toNat (b2i (Ieee.double.order (F B.toNat).toNat (F C.toNat).toNat == some .eq))) 0 0) F (IntKind.wrap .u32 (pc + 4)) 0 0), H) := by
  rw [q20 (n+13) _ _ _ (regs_flat _ _ _) rfl rfl H]
  have ar := rg165 hA
  have br := rg85 hB
  have cr := rg85 hC
  have rng : (0 ≤ (55 : Int) ∧ (55 : Int) < 72) = True := by simp
  have szz : sizeV 55 = 0 := rfl
  have fv : formV 55 = 11 := rfl
  simp -implicitDefEqProofs only [s20, v32, v33, s22, q22, v41, szz, q34, s34, v15, fv, q46, s46, q49, s49, q64, s64, q65, s65, tabs_gn, ↓EVdn, EVup, lp_succ, goInt, splice, okC, Fr.of, Fr.ofI, Fr.g, Nat.reduceAdd, Nat.reduceMul, Nat.reduceEqDiff, Nat.reduceLT, Nat.reduceLeDiff, Nat.reduceBEq, Int.reduceLT, Int.reduceLE, Int.reduceToNat, Int.reduceAdd, Int.reduceSub, Int.reduceMul, Int.reduceEq, Int.reduceNeg, ↓reduceIte, ↓reduceDIte, Nat.beq, reduceCtorEq, Value.int.injEq, Nat.reduceSub, flat_int, flat_bool, flat_done, regs_flat, flat_i5, flat_need, flat_t2, flat_bt, hk, upd_upd, rng, decide_true, doneT, q50, s50, q51, s51, q67, s67, v70_55, v70_56, v70_57, v71, v72, v73, flat_t2u, flat_t2w, ar, br, cr]
theorem done_56 (n : Nat) (H : Hp) (R F : Nat → Int) (pc A B C ld : Int) (hA : 0 ≤ A ∧ A < 16) (hB : 0 ≤ B ∧ B < 8) (hC : 0 ≤ C ∧ C < 8) (hk : chkV 56 A B C 0 = 0) :
    evCall cfc (n+14) 20 [.agg (regs R F pc).toArray, .agg #[.int .i64 56, .int .i64 A, .int .i64 B, .int .i64 C, .int .i64 0], .int .u64 ld] H =
      some (.ret (doneT (upd (upd (upd R 0 0) A.toNat (b2i (Ieee.double.order (F B.toNat).toNat (F C.toNat).toNat == some .lt))) 0 0) F (IntKind.wrap .u32 (pc + 4)) 0 0), H) := by
  rw [q20 (n+13) _ _ _ (regs_flat _ _ _) rfl rfl H]
  have ar := rg165 hA
  have br := rg85 hB
  have cr := rg85 hC
  have rng : (0 ≤ (56 : Int) ∧ (56 : Int) < 72) = True := by simp
  have szz : sizeV 56 = 0 := rfl
  have fv : formV 56 = 11 := rfl
  simp -implicitDefEqProofs only [s20, v32, v33, s22, q22, v41, szz, q34, s34, v15, fv, q46, s46, q49, s49, q64, s64, q65, s65, tabs_gn, ↓EVdn, EVup, lp_succ, goInt, splice, okC, Fr.of, Fr.ofI, Fr.g, Nat.reduceAdd, Nat.reduceMul, Nat.reduceEqDiff, Nat.reduceLT, Nat.reduceLeDiff, Nat.reduceBEq, Int.reduceLT, Int.reduceLE, Int.reduceToNat, Int.reduceAdd, Int.reduceSub, Int.reduceMul, Int.reduceEq, Int.reduceNeg, ↓reduceIte, ↓reduceDIte, Nat.beq, reduceCtorEq, Value.int.injEq, Nat.reduceSub, flat_int, flat_bool, flat_done, regs_flat, flat_i5, flat_need, flat_t2, flat_bt, hk, upd_upd, rng, decide_true, doneT, q50, s50, q51, s51, q67, s67, v70_55, v70_56, v70_57, v71, v72, v73, flat_t2u, flat_t2w, ar, br, cr]
theorem done_57 (n : Nat) (H : Hp) (R F : Nat → Int) (pc A B C ld : Int) (hA : 0 ≤ A ∧ A < 16) (hB : 0 ≤ B ∧ B < 8) (hC : 0 ≤ C ∧ C < 8) (hk : chkV 57 A B C 0 = 0) :
    evCall cfc (n+14) 20 [.agg (regs R F pc).toArray, .agg #[.int .i64 57, .int .i64 A, .int .i64 B, .int .i64 C, .int .i64 0], .int .u64 ld] H =
      some (.ret (doneT (upd (upd (upd R 0 0) A.toNat (b2i (Ieee.double.order (F B.toNat).toNat (F C.toNat).toNat == some .lt || Ieee.double.order (F B.toNat).toNat (F C.toNat).toNat == some .eq))) 0 0) F (IntKind.wrap .u32 (pc + 4)) 0 0), H) := by
  rw [q20 (n+13) _ _ _ (regs_flat _ _ _) rfl rfl H]
  have ar := rg165 hA
  have br := rg85 hB
  have cr := rg85 hC
  have rng : (0 ≤ (57 : Int) ∧ (57 : Int) < 72) = True := by simp
  have szz : sizeV 57 = 0 := rfl
  have fv : formV 57 = 11 := rfl
  simp -implicitDefEqProofs only [s20, v32, v33, s22, q22, v41, szz, q34, s34, v15, fv, q46, s46, q49, s49, q64, s64, q65, s65, tabs_gn, ↓EVdn, EVup, lp_succ, goInt, splice, okC, Fr.of, Fr.ofI, Fr.g, Nat.reduceAdd, Nat.reduceMul, Nat.reduceEqDiff, Nat.reduceLT, Nat.reduceLeDiff, Nat.reduceBEq, Int.reduceLT, Int.reduceLE, Int.reduceToNat, Int.reduceAdd, Int.reduceSub, Int.reduceMul, Int.reduceEq, Int.reduceNeg, ↓reduceIte, ↓reduceDIte, Nat.beq, reduceCtorEq, Value.int.injEq, Nat.reduceSub, flat_int, flat_bool, flat_done, regs_flat, flat_i5, flat_need, flat_t2, flat_bt, hk, upd_upd, rng, decide_true, doneT, q50, s50, q51, s51, q67, s67, v70_55, v70_56, v70_57, v71, v72, v73, flat_t2u, flat_t2w, ar, br, cr]
theorem done_58 (n : Nat) (H : Hp) (R F : Nat → Int) (pc A B ld : Int) (hA : 0 ≤ A ∧ A < 16) (hB : 0 ≤ B ∧ B < 8) (hk : chkV 58 A B 0 0 = 0) :
    evCall cfc (n+14) 20 [.agg (regs R F pc).toArray, .agg #[.int .i64 58, .int .i64 A, .int .i64 B, .int .i64 0, .int .i64 0], .int .u64 ld] H =
      some (.ret (doneT (upd (upd (upd R 0 0) A.toNat (clV (F B.toNat))) 0 0) F (IntKind.wrap .u32 (pc + 4)) 0 0), H) := by
  rw [q20 (n+13) _ _ _ (regs_flat _ _ _) rfl rfl H]
  have ar := rg165 hA
  have br := rg85 hB
  have rng : (0 ≤ (58 : Int) ∧ (58 : Int) < 72) = True := by simp
  have szz : sizeV 58 = 0 := rfl
  have fv : formV 58 = 12 := rfl
  simp -implicitDefEqProofs only [s20, v32, v33, s22, q22, v41, szz, q34, s34, v15, fv, q46, s46, q49, s49, q64, s64, q65, s65, tabs_gn, ↓EVdn, EVup, lp_succ, goInt, splice, okC, Fr.of, Fr.ofI, Fr.g, Nat.reduceAdd, Nat.reduceMul, Nat.reduceEqDiff, Nat.reduceLT, Nat.reduceLeDiff, Nat.reduceBEq, Int.reduceLT, Int.reduceLE, Int.reduceToNat, Int.reduceAdd, Int.reduceSub, Int.reduceMul, Int.reduceEq, Int.reduceNeg, ↓reduceIte, ↓reduceDIte, Nat.beq, reduceCtorEq, Value.int.injEq, Nat.reduceSub, flat_int, flat_bool, flat_done, regs_flat, flat_i5, flat_need, flat_t2, flat_bt, hk, upd_upd, rng, decide_true, doneT, q50, s50, q51, s51, q67, s67, v70_55, v70_56, v70_57, v71, v72, v73, flat_t2u, flat_t2w, ar, br]
theorem done_59 (n : Nat) (H : Hp) (R F : Nat → Int) (pc A B ld : Int) (hA : 0 ≤ A ∧ A < 8) (hB : 0 ≤ B ∧ B < 16) (hk : chkV 59 A B 0 0 = 0) :
    evCall cfc (n+14) 20 [.agg (regs R F pc).toArray, .agg #[.int .i64 59, .int .i64 A, .int .i64 B, .int .i64 0, .int .i64 0], .int .u64 ld] H =
      some (.ret (doneT (upd R 0 0) (upd F A.toNat (fiV (upd R 0 0 B.toNat))) (IntKind.wrap .u32 (pc + 4)) 0 0), H) := by
  rw [q20 (n+13) _ _ _ (regs_flat _ _ _) rfl rfl H]
  have ar := rg85 hA
  have br := rg165 hB
  have rng : (0 ≤ (59 : Int) ∧ (59 : Int) < 72) = True := by simp
  have szz : sizeV 59 = 0 := rfl
  have fv : formV 59 = 13 := rfl
  simp -implicitDefEqProofs only [s20, v32, v33, s22, q22, v41, szz, q34, s34, v15, fv, q46, s46, q49, s49, q64, s64, q65, s65, tabs_gn, ↓EVdn, EVup, lp_succ, goInt, splice, okC, Fr.of, Fr.ofI, Fr.g, Nat.reduceAdd, Nat.reduceMul, Nat.reduceEqDiff, Nat.reduceLT, Nat.reduceLeDiff, Nat.reduceBEq, Int.reduceLT, Int.reduceLE, Int.reduceToNat, Int.reduceAdd, Int.reduceSub, Int.reduceMul, Int.reduceEq, Int.reduceNeg, ↓reduceIte, ↓reduceDIte, Nat.beq, reduceCtorEq, Value.int.injEq, Nat.reduceSub, flat_int, flat_bool, flat_done, regs_flat, flat_i5, flat_need, flat_t2, flat_bt, hk, upd_upd, rng, decide_true, doneT, q50, s50, q51, s51, q67, s67, v70_55, v70_56, v70_57, v71, v72, v73, flat_t2u, flat_t2w, ar, br]
theorem done_60 (n : Nat) (H : Hp) (R F : Nat → Int) (pc A B ld : Int) (hA : 0 ≤ A ∧ A < 16) (hB : 0 ≤ B ∧ B < 8) (hk : chkV 60 A B 0 0 = 0) :
    evCall cfc (n+14) 20 [.agg (regs R F pc).toArray, .agg #[.int .i64 60, .int .i64 A, .int .i64 B, .int .i64 0, .int .i64 0], .int .u64 ld] H =
      some (.ret (doneT (upd (upd (upd R 0 0) A.toNat (tiV (F B.toNat))) 0 0) F (IntKind.wrap .u32 (pc + 4)) 0 0), H) := by
  rw [q20 (n+13) _ _ _ (regs_flat _ _ _) rfl rfl H]
  have ar := rg165 hA
  have br := rg85 hB
  have rng : (0 ≤ (60 : Int) ∧ (60 : Int) < 72) = True := by simp
  have szz : sizeV 60 = 0 := rfl
  have fv : formV 60 = 12 := rfl
  simp -implicitDefEqProofs only [s20, v32, v33, s22, q22, v41, szz, q34, s34, v15, fv, q46, s46, q49, s49, q64, s64, q65, s65, tabs_gn, ↓EVdn, EVup, lp_succ, goInt, splice, okC, Fr.of, Fr.ofI, Fr.g, Nat.reduceAdd, Nat.reduceMul, Nat.reduceEqDiff, Nat.reduceLT, Nat.reduceLeDiff, Nat.reduceBEq, Int.reduceLT, Int.reduceLE, Int.reduceToNat, Int.reduceAdd, Int.reduceSub, Int.reduceMul, Int.reduceEq, Int.reduceNeg, ↓reduceIte, ↓reduceDIte, Nat.beq, reduceCtorEq, Value.int.injEq, Nat.reduceSub, flat_int, flat_bool, flat_done, regs_flat, flat_i5, flat_need, flat_t2, flat_bt, hk, upd_upd, rng, decide_true, doneT, q50, s50, q51, s51, q67, s67, v70_55, v70_56, v70_57, v71, v72, v73, flat_t2u, flat_t2w, ar, br]
theorem done_61 (n : Nat) (H : Hp) (R F : Nat → Int) (pc A B ld : Int) (hA : 0 ≤ A ∧ A < 16) (hB : 0 ≤ B ∧ B < 8) (hk : chkV 61 A B 0 0 = 0) :
    evCall cfc (n+14) 20 [.agg (regs R F pc).toArray, .agg #[.int .i64 61, .int .i64 A, .int .i64 B, .int .i64 0, .int .i64 0], .int .u64 ld] H =
      some (.ret (doneT (upd (upd (upd R 0 0) A.toNat (IntKind.wrap .u32 (F B.toNat))) 0 0) F (IntKind.wrap .u32 (pc + 4)) 0 0), H) := by
  rw [q20 (n+13) _ _ _ (regs_flat _ _ _) rfl rfl H]
  have ar := rg165 hA
  have br := rg85 hB
  have rng : (0 ≤ (61 : Int) ∧ (61 : Int) < 72) = True := by simp
  have szz : sizeV 61 = 0 := rfl
  have fv : formV 61 = 12 := rfl
  simp -implicitDefEqProofs only [s20, v32, v33, s22, q22, v41, szz, q34, s34, v15, fv, q46, s46, q49, s49, q64, s64, q65, s65, tabs_gn, ↓EVdn, EVup, lp_succ, goInt, splice, okC, Fr.of, Fr.ofI, Fr.g, Nat.reduceAdd, Nat.reduceMul, Nat.reduceEqDiff, Nat.reduceLT, Nat.reduceLeDiff, Nat.reduceBEq, Int.reduceLT, Int.reduceLE, Int.reduceToNat, Int.reduceAdd, Int.reduceSub, Int.reduceMul, Int.reduceEq, Int.reduceNeg, ↓reduceIte, ↓reduceDIte, Nat.beq, reduceCtorEq, Value.int.injEq, Nat.reduceSub, flat_int, flat_bool, flat_done, regs_flat, flat_i5, flat_need, flat_t2, flat_bt, hk, upd_upd, rng, decide_true, doneT, q50, s50, q51, s51, q67, s67, v70_55, v70_56, v70_57, v71, v72, v73, flat_t2u, flat_t2w, ar, br]
theorem done_62 (n : Nat) (H : Hp) (R F : Nat → Int) (pc A B ld : Int) (hA : 0 ≤ A ∧ A < 16) (hB : 0 ≤ B ∧ B < 8) (hk : chkV 62 A B 0 0 = 0) :
    evCall cfc (n+14) 20 [.agg (regs R F pc).toArray, .agg #[.int .i64 62, .int .i64 A, .int .i64 B, .int .i64 0, .int .i64 0], .int .u64 ld] H =
      some (.ret (doneT (upd (upd (upd R 0 0) A.toNat (IntKind.wrap .u32 (shrK .u64 (F B.toNat) 32))) 0 0) F (IntKind.wrap .u32 (pc + 4)) 0 0), H) := by
  rw [q20 (n+13) _ _ _ (regs_flat _ _ _) rfl rfl H]
  have ar := rg165 hA
  have br := rg85 hB
  have rng : (0 ≤ (62 : Int) ∧ (62 : Int) < 72) = True := by simp
  have szz : sizeV 62 = 0 := rfl
  have fv : formV 62 = 12 := rfl
  simp -implicitDefEqProofs only [s20, v32, v33, s22, q22, v41, szz, q34, s34, v15, fv, q46, s46, q49, s49, q64, s64, q65, s65, tabs_gn, ↓EVdn, EVup, lp_succ, goInt, splice, okC, Fr.of, Fr.ofI, Fr.g, Nat.reduceAdd, Nat.reduceMul, Nat.reduceEqDiff, Nat.reduceLT, Nat.reduceLeDiff, Nat.reduceBEq, Int.reduceLT, Int.reduceLE, Int.reduceToNat, Int.reduceAdd, Int.reduceSub, Int.reduceMul, Int.reduceEq, Int.reduceNeg, ↓reduceIte, ↓reduceDIte, Nat.beq, reduceCtorEq, Value.int.injEq, Nat.reduceSub, flat_int, flat_bool, flat_done, regs_flat, flat_i5, flat_need, flat_t2, flat_bt, hk, upd_upd, rng, decide_true, doneT, q50, s50, q51, s51, q67, s67, v70_55, v70_56, v70_57, v71, v72, v73, flat_t2u, flat_t2w, ar, br]
theorem done_63 (n : Nat) (H : Hp) (R F : Nat → Int) (pc A B C ld : Int) (hA : 0 ≤ A ∧ A < 8) (hB : 0 ≤ B ∧ B < 16) (hC : 0 ≤ C ∧ C < 16) (hk : chkV 63 A B C 0 = 0) :
    evCall cfc (n+14) 20 [.agg (regs R F pc).toArray, .agg #[.int .i64 63, .int .i64 A, .int .i64 B, .int .i64 C, .int .i64 0], .int .u64 ld] H =
      some (.ret (doneT (upd R 0 0) (upd F A.toNat (orK .u64 (shlK .u64 (IntKind.wrap .u64 (upd R 0 0 C.toNat)) 32) (IntKind.wrap .u64 (upd R 0 0 B.toNat)))) (IntKind.wrap .u32 (pc + 4)) 0 0), H) := by
  rw [q20 (n+13) _ _ _ (regs_flat _ _ _) rfl rfl H]
  have ar := rg85 hA
  have br := rg165 hB
  have cr := rg165 hC
  have rng : (0 ≤ (63 : Int) ∧ (63 : Int) < 72) = True := by simp
  have szz : sizeV 63 = 0 := rfl
  have fv : formV 63 = 14 := rfl
  simp -implicitDefEqProofs only [s20, v32, v33, s22, q22, v41, szz, q34, s34, v15, fv, q46, s46, q49, s49, q64, s64, q65, s65, tabs_gn, ↓EVdn, EVup, lp_succ, goInt, splice, okC, Fr.of, Fr.ofI, Fr.g, Nat.reduceAdd, Nat.reduceMul, Nat.reduceEqDiff, Nat.reduceLT, Nat.reduceLeDiff, Nat.reduceBEq, Int.reduceLT, Int.reduceLE, Int.reduceToNat, Int.reduceAdd, Int.reduceSub, Int.reduceMul, Int.reduceEq, Int.reduceNeg, ↓reduceIte, ↓reduceDIte, Nat.beq, reduceCtorEq, Value.int.injEq, Nat.reduceSub, flat_int, flat_bool, flat_done, regs_flat, flat_i5, flat_need, flat_t2, flat_bt, hk, upd_upd, rng, decide_true, doneT, q50, s50, q51, s51, q67, s67, v70_55, v70_56, v70_57, v71, v72, v73, flat_t2u, flat_t2w, ar, br, cr]
end Go.Proofs.YthenglaoolmajaaDoor
