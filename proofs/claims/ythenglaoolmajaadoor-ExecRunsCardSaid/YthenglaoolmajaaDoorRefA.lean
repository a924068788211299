/- The document's words: what they come to. -/
import Derived.Test.YthenglaoolmajaaDoorEvBun
import Derived.Test.YthenglaoolmajaaDoorExecE
import Derived.Test.YthenglaoolmajaaDoorRefN
namespace Go.Proofs.YthenglaoolmajaaDoor
open Go Go.Ev
set_option maxRecDepth 100000
set_option linter.unusedSimpArgs false
set_option linter.unusedVariables false
set_option maxHeartbeats 4000000
set_option linter.unusedSectionVars false
variable [Xt]
attribute [local congr] bind_front callK_front jn_front ifB_front ifG_front lp_front
theorem q35 (n : Nat) (x0 : Value) (hx0 : flat x0 = true) (H : Hp) : evCall cfc (n+1) 35 [x0] H = floorR H (s35 (evCall cfc n) n x0 Hp.fl) := by
  rw [evCall_quiet (fn := Tryd.f35) (by rfl) Tryd.func35 (by rfl) (by simp [hx0])]
  exact congrArg (floorR H) (s35_eq _ _ _ _)
theorem q52 (n : Nat) (x0 : Value) (hx0 : flat x0 = true) (H : Hp) : evCall cfc (n+1) 52 [x0] H = floorR H (s52 (evCall cfc n) n x0 Hp.fl) := by
  rw [evCall_quiet (fn := Tryd.f52) (by rfl) Tryd.func52 (by rfl) (by simp [hx0])]
  exact congrArg (floorR H) (s52_eq _ _ _ _)
theorem q53 (n : Nat) (x0 x1 x2 : Value) (hx0 : flat x0 = true) (hx1 : flat x1 = true) (hx2 : flat x2 = true) (H : Hp) : evCall cfc (n+1) 53 [x0, x1, x2] H = floorR H (s53 (evCall cfc n) n x0 x1 x2 Hp.fl) := by
  rw [evCall_quiet (fn := Tryd.f53) (by rfl) Tryd.func53 (by rfl) (by simp [hx0, hx1, hx2])]
  exact congrArg (floorR H) (s53_eq _ _ _ _ _ _)
theorem q54 (n : Nat) (x0 x1 x2 : Value) (hx0 : flat x0 = true) (hx1 : flat x1 = true) (hx2 : flat x2 = true) (H : Hp) : evCall cfc (n+1) 54 [x0, x1, x2] H = floorR H (s54 (evCall cfc n) n x0 x1 x2 Hp.fl) := by
  rw [evCall_quiet (fn := Tryd.f54) (by rfl) Tryd.func54 (by rfl) (by simp [hx0, hx1, hx2])]
  exact congrArg (floorR H) (s54_eq _ _ _ _ _ _)
theorem q55 (n : Nat) (x0 : Value) (hx0 : flat x0 = true) (H : Hp) : evCall cfc (n+1) 55 [x0] H = floorR H (s55 (evCall cfc n) n x0 Hp.fl) := by
  rw [evCall_quiet (fn := Tryd.f55) (by rfl) Tryd.func55 (by rfl) (by simp [hx0])]
  exact congrArg (floorR H) (s55_eq _ _ _ _)
theorem q56 (n : Nat) (x0 x1 x2 : Value) (hx0 : flat x0 = true) (hx1 : flat x1 = true) (hx2 : flat x2 = true) (H : Hp) : evCall cfc (n+1) 56 [x0, x1, x2] H = floorR H (s56 (evCall cfc n) n x0 x1 x2 Hp.fl) := by
  rw [evCall_quiet (fn := Tryd.f56) (by rfl) Tryd.func56 (by rfl) (by simp [hx0, hx1, hx2])]
  exact congrArg (floorR H) (s56_eq _ _ _ _ _ _)
theorem q38 (n : Nat) (x0 x1 : Value) (hx0 : flat x0 = true) (hx1 : flat x1 = true) (H : Hp) : evCall cfc (n+1) 38 [x0, x1] H = floorR H (s38 (evCall cfc n) n x0 x1 Hp.fl) := by
  rw [evCall_quiet (fn := Tryd.f38) (by rfl) Tryd.func38 (by rfl) (by simp [hx0, hx1])]
  exact congrArg (floorR H) (s38_eq _ _ _ _ _)
theorem q39 (n : Nat) (x0 x1 x2 : Value) (hx0 : flat x0 = true) (hx1 : flat x1 = true) (hx2 : flat x2 = true) (H : Hp) : evCall cfc (n+1) 39 [x0, x1, x2] H = floorR H (s39 (evCall cfc n) n x0 x1 x2 Hp.fl) := by
  rw [evCall_quiet (fn := Tryd.f39) (by rfl) Tryd.func39 (by rfl) (by simp [hx0, hx1, hx2])]
  exact congrArg (floorR H) (s39_eq _ _ _ _ _ _)
theorem q36 (n : Nat) (x0 x1 x2 : Value) (hx0 : flat x0 = true) (hx1 : flat x1 = true) (hx2 : flat x2 = true) (H : Hp) : evCall cfc (n+1) 36 [x0, x1, x2] H = floorR H (s36 (evCall cfc n) n x0 x1 x2 Hp.fl) := by
  rw [evCall_quiet (fn := Tryd.f36) (by rfl) Tryd.func36 (by rfl) (by simp [hx0, hx1, hx2])]
  exact congrArg (floorR H) (s36_eq _ _ _ _ _ _)
theorem flat_r2 (a b : Int) : flat (.tuple #[.int .u32 a, .int .i64 b]) = true := rfl
theorem v35 (n : Nat) (H : Hp) (x : Int) : evCall cfc (n+1) 35 [.int .i64 x] H = some (.ret (.int .u32 (IntKind.wrap .u32 x)), H) := by
  rw [q35 n _ rfl H]
  simp -implicitDefEqProofs only [s35, word_eq, tabs_gn, ↓EVdn, EVup, lp_succ, goInt, splice, okC, Fr.of, Fr.ofI, Fr.g, Nat.reduceAdd, Nat.reduceMul, Nat.reduceEqDiff, Nat.reduceLT, Nat.reduceLeDiff, Nat.reduceBEq, Int.reduceLT, Int.reduceLE, Int.reduceToNat, Int.reduceAdd, Int.reduceSub, Int.reduceMul, Int.reduceEq, Int.reduceNeg, ↓reduceIte, ↓reduceDIte, Nat.beq, reduceCtorEq, Value.int.injEq, Nat.reduceSub, flat_int, flat_bool, flat_r2, flat_bt]
theorem sgn_in (x : Int) (h : 0 ≤ x ∧ x < 4294967296) : IntKind.wrap .i64 x = x ∧ (2147483648 ≤ x → IntKind.wrap .i64 (x - 4294967296) = IntKind.wrap .i32 x) ∧ (¬ 2147483648 ≤ x → x = IntKind.wrap .i32 x) := by
  refine ⟨IntWalk.i64_in _ (by omega), fun h2 => ?_, fun h2 => ?_⟩
  · rw [IntWalk.i64_in _ (by omega), IntKind.wrap_i32]; omega
  · rw [IntKind.wrap_i32]; omega
theorem v52 (n : Nat) (H : Hp) (x : Int) (h : (0 ≤ x ∧ x < 4294967296) = True) : evCall cfc (n+1) 52 [.int .u32 x] H = some (.ret (.int .i64 (IntKind.wrap .i32 x)), H) := by
  rw [q52 n _ rfl H]
  obtain ⟨h1, h2, h3⟩ := sgn_in x (of_eq_true h)
  by_cases hb : 2147483648 ≤ x
  · have e := h2 hb
    simp -implicitDefEqProofs only [s52, h1, hb, e, tabs_gn, ↓EVdn, EVup, lp_succ, goInt, splice, okC, Fr.of, Fr.ofI, Fr.g, Nat.reduceAdd, Nat.reduceMul, Nat.reduceEqDiff, Nat.reduceLT, Nat.reduceLeDiff, Nat.reduceBEq, Int.reduceLT, Int.reduceLE, Int.reduceToNat, Int.reduceAdd, Int.reduceSub, Int.reduceMul, Int.reduceEq, Int.reduceNeg, ↓reduceIte, ↓reduceDIte, Nat.beq, reduceCtorEq, Value.int.injEq, Nat.reduceSub, flat_int, flat_bool, flat_r2, flat_bt]
  · have e := (h3 hb).symm
    simp -implicitDefEqProofs only [s52, h1, hb, e, tabs_gn, ↓EVdn, EVup, lp_succ, goInt, splice, okC, Fr.of, Fr.ofI, Fr.g, Nat.reduceAdd, Nat.reduceMul, Nat.reduceEqDiff, Nat.reduceLT, Nat.reduceLeDiff, Nat.reduceBEq, Int.reduceLT, Int.reduceLE, Int.reduceToNat, Int.reduceAdd, Int.reduceSub, Int.reduceMul, Int.reduceEq, Int.reduceNeg, ↓reduceIte, ↓reduceDIte, Nat.beq, reduceCtorEq, Value.int.injEq, Nat.reduceSub, flat_int, flat_bool, flat_r2, flat_bt]
theorem v55 (n : Nat) (H : Hp) (p : Prop) [Decidable p] : evCall cfc (n+1) 55 [.bool (decide p)] H = some (.ret (.int .u32 (if p then 1 else 0)), H) := by
  rw [q55 n _ rfl H]
  by_cases hp : p <;> simp -implicitDefEqProofs only [s55, hp, tabs_gn, ↓EVdn, EVup, lp_succ, goInt, splice, okC, Fr.of, Fr.ofI, Fr.g, Nat.reduceAdd, Nat.reduceMul, Nat.reduceEqDiff, Nat.reduceLT, Nat.reduceLeDiff, Nat.reduceBEq, Int.reduceLT, Int.reduceLE, Int.reduceToNat, Int.reduceAdd, Int.reduceSub, Int.reduceMul, Int.reduceEq, Int.reduceNeg, ↓reduceIte, ↓reduceDIte, Nat.beq, reduceCtorEq, Value.int.injEq, Nat.reduceSub, flat_int, flat_bool, flat_r2, flat_bt]
theorem i32_in (x : Int) : -2147483648 ≤ IntKind.wrap .i32 x ∧ IntKind.wrap .i32 x ≤ 2147483647 := by rw [IntKind.wrap_i32]; omega
theorem i64_i32 (x : Int) : IntKind.wrap .i64 (IntKind.wrap .i32 x) = IntKind.wrap .i32 x := IntWalk.i64_in _ (by have := i32_in x; omega)
theorem tmod_in (x y : Int) (hx : 0 ≤ x ∧ x < 4294967296) (hy : 0 ≤ y ∧ y < 4294967296) (h0 : y ≠ 0) : 0 ≤ x.tmod y ∧ x.tmod y < 4294967296 := by
  rw [Int.tmod_eq_emod_of_nonneg hx.1]
  have h1 := Int.emod_nonneg x h0
  have h2 := Int.emod_lt_of_pos x (show 0 < y by omega)
  omega
theorem i32_ne (y : Int) (h : 0 ≤ y ∧ y < 4294967296) (h0 : y ≠ 0) : IntKind.wrap .i32 y ≠ 0 := by rw [IntKind.wrap_i32]; omega
theorem v53_6 (n : Nat) (H : Hp) (x y : Int) (hx : 0 ≤ x ∧ x < 4294967296) (hy : 0 ≤ y ∧ y < 4294967296) (h0 : y ≠ 0) : evCall cfc (n+3) 53 [.int .i64 6, .int .u32 x, .int .u32 y] H = some (.ret (.int .u32 (aluV 6 x y)), H) := by
  rw [q53 (n+2) _ _ _ rfl rfl rfl H]
  have hx2 : (0 ≤ x ∧ x < 4294967296) = True := eq_true hx
  have hy2 : (0 ≤ y ∧ y < 4294967296) = True := eq_true hy
  have hn : (IntKind.wrap .i32 y = 0) = False := eq_false (i32_ne y hy h0)
  have h02 : (y = 0) = False := eq_false h0
  have ex : IntKind.wrap .i64 x = x := IntWalk.i64_in _ (by omega)
  have ey : IntKind.wrap .i64 y = y := IntWalk.i64_in _ (by omega)
  simp -implicitDefEqProofs only [s53, v52, v35, hx2, hy2, hn, h02, ex, ey, i64_i32, aluV_6, tabs_gn, ↓EVdn, EVup, lp_succ, goInt, splice, okC, Fr.of, Fr.ofI, Fr.g, Nat.reduceAdd, Nat.reduceMul, Nat.reduceEqDiff, Nat.reduceLT, Nat.reduceLeDiff, Nat.reduceBEq, Int.reduceLT, Int.reduceLE, Int.reduceToNat, Int.reduceAdd, Int.reduceSub, Int.reduceMul, Int.reduceEq, Int.reduceNeg, ↓reduceIte, ↓reduceDIte, Nat.beq, reduceCtorEq, Value.int.injEq, Nat.reduceSub, flat_int, flat_bool, flat_r2, flat_bt]
theorem v53_7 (n : Nat) (H : Hp) (x y : Int) (hx : 0 ≤ x ∧ x < 4294967296) (hy : 0 ≤ y ∧ y < 4294967296) (h0 : y ≠ 0) : evCall cfc (n+3) 53 [.int .i64 7, .int .u32 x, .int .u32 y] H = some (.ret (.int .u32 (aluV 7 x y)), H) := by
  rw [q53 (n+2) _ _ _ rfl rfl rfl H]
  have hx2 : (0 ≤ x ∧ x < 4294967296) = True := eq_true hx
  have hy2 : (0 ≤ y ∧ y < 4294967296) = True := eq_true hy
  have hn : (IntKind.wrap .i32 y = 0) = False := eq_false (i32_ne y hy h0)
  have h02 : (y = 0) = False := eq_false h0
  have ex : IntKind.wrap .i64 x = x := IntWalk.i64_in _ (by omega)
  have ey : IntKind.wrap .i64 y = y := IntWalk.i64_in _ (by omega)
  have eq : IntKind.wrap .i64 (x.tdiv y) = x.tdiv y := by
    have h1 : 0 ≤ x.tdiv y := Int.tdiv_nonneg hx.1 hy.1
    have h2 : x.tdiv y ≤ x := Int.tdiv_le_self y hx.1
    exact IntWalk.i64_in _ (by omega)
  simp -implicitDefEqProofs only [s53, v52, v35, hx2, hy2, hn, h02, ex, ey, i64_i32, aluV_7, eq, tabs_gn, ↓EVdn, EVup, lp_succ, goInt, splice, okC, Fr.of, Fr.ofI, Fr.g, Nat.reduceAdd, Nat.reduceMul, Nat.reduceEqDiff, Nat.reduceLT, Nat.reduceLeDiff, Nat.reduceBEq, Int.reduceLT, Int.reduceLE, Int.reduceToNat, Int.reduceAdd, Int.reduceSub, Int.reduceMul, Int.reduceEq, Int.reduceNeg, ↓reduceIte, ↓reduceDIte, Nat.beq, reduceCtorEq, Value.int.injEq, Nat.reduceSub, flat_int, flat_bool, flat_r2, flat_bt]
theorem v53_8 (n : Nat) (H : Hp) (x y : Int) (hx : 0 ≤ x ∧ x < 4294967296) (hy : 0 ≤ y ∧ y < 4294967296) (h0 : y ≠ 0) : evCall cfc (n+3) 53 [.int .i64 8, .int .u32 x, .int .u32 y] H = some (.ret (.int .u32 (aluV 8 x y)), H) := by
  rw [q53 (n+2) _ _ _ rfl rfl rfl H]
  have hx2 : (0 ≤ x ∧ x < 4294967296) = True := eq_true hx
  have hy2 : (0 ≤ y ∧ y < 4294967296) = True := eq_true hy
  have hn : (IntKind.wrap .i32 y = 0) = False := eq_false (i32_ne y hy h0)
  have h02 : (y = 0) = False := eq_false h0
  have ex : IntKind.wrap .i64 x = x := IntWalk.i64_in _ (by omega)
  have ey : IntKind.wrap .i64 y = y := IntWalk.i64_in _ (by omega)
  simp -implicitDefEqProofs only [s53, v52, v35, hx2, hy2, hn, h02, ex, ey, i64_i32, aluV_8, tabs_gn, ↓EVdn, EVup, lp_succ, goInt, splice, okC, Fr.of, Fr.ofI, Fr.g, Nat.reduceAdd, Nat.reduceMul, Nat.reduceEqDiff, Nat.reduceLT, Nat.reduceLeDiff, Nat.reduceBEq, Int.reduceLT, Int.reduceLE, Int.reduceToNat, Int.reduceAdd, Int.reduceSub, Int.reduceMul, Int.reduceEq, Int.reduceNeg, ↓reduceIte, ↓reduceDIte, Nat.beq, reduceCtorEq, Value.int.injEq, Nat.reduceSub, flat_int, flat_bool, flat_r2, flat_bt]
theorem v53_9 (n : Nat) (H : Hp) (x y : Int) (hx : 0 ≤ x ∧ x < 4294967296) (hy : 0 ≤ y ∧ y < 4294967296) (h0 : y ≠ 0) : evCall cfc (n+3) 53 [.int .i64 9, .int .u32 x, .int .u32 y] H = some (.ret (.int .u32 (aluV 9 x y)), H) := by
  rw [q53 (n+2) _ _ _ rfl rfl rfl H]
  have hx2 : (0 ≤ x ∧ x < 4294967296) = True := eq_true hx
  have hy2 : (0 ≤ y ∧ y < 4294967296) = True := eq_true hy
  have hn : (IntKind.wrap .i32 y = 0) = False := eq_false (i32_ne y hy h0)
  have h02 : (y = 0) = False := eq_false h0
  have ex : IntKind.wrap .i64 x = x := IntWalk.i64_in _ (by omega)
  have ey : IntKind.wrap .i64 y = y := IntWalk.i64_in _ (by omega)
  have em : IntKind.wrap .u32 (x.tmod y) = x.tmod y := IntWalk.u32_in _ (by have := tmod_in x y hx hy h0; omega)
  simp -implicitDefEqProofs only [s53, v52, v35, hx2, hy2, hn, h02, ex, ey, i64_i32, aluV_9, em, tabs_gn, ↓EVdn, EVup, lp_succ, goInt, splice, okC, Fr.of, Fr.ofI, Fr.g, Nat.reduceAdd, Nat.reduceMul, Nat.reduceEqDiff, Nat.reduceLT, Nat.reduceLeDiff, Nat.reduceBEq, Int.reduceLT, Int.reduceLE, Int.reduceToNat, Int.reduceAdd, Int.reduceSub, Int.reduceMul, Int.reduceEq, Int.reduceNeg, ↓reduceIte, ↓reduceDIte, Nat.beq, reduceCtorEq, Value.int.injEq, Nat.reduceSub, flat_int, flat_bool, flat_r2, flat_bt]
theorem fdiv_two (n : Int) (j : Nat) : (n.fdiv 2).fdiv (2 ^ j) = n.fdiv (2 ^ (j + 1)) := by
  have hp : (0 : Int) < 2 ^ j := Int.pow_pos (by omega)
  have hp' : (0 : Int) < 2 ^ (j+1) := Int.pow_pos (by omega)
  rw [Int.fdiv_eq_ediv_of_nonneg _ (by omega : (0 : Int) ≤ 2), Int.fdiv_eq_ediv_of_nonneg _ (Int.le_of_lt hp), Int.fdiv_eq_ediv_of_nonneg _ (Int.le_of_lt hp'), Int.ediv_ediv_of_nonneg (by omega), Int.pow_succ, Int.mul_comm]
theorem lp54 (H : Hp) (kx : Nat → Fr → Hp → R) (kr : Fr → Hp → R) (m : Nat) : ∀ (j : Nat) (i k x : Int), k = i + j → 0 ≤ i → k ≤ 31 → -2147483648 ≤ x → x ≤ 2147483647 →
    lp (fun vs8 H9 kn10 kx11 kr12 =>
 (bin 0 .lss (vs8.getD 2 dead) (vs8.getD 0 dead)).bind fun t34 =>
 ifB t34 (jn ((bin 0 .rem (vs8.getD 1 dead) (.int .i64 2)).bind fun t38 =>
 (bin 0 .neq t38 (.int .i64 0)).bind fun t39 =>
 ifB t39 ((bin 0 .sub (vs8.getD 1 dead) (.int .i64 1)).bind fun t41 =>
 some (.nrm [(vs8.getD 0 dead), t41, (vs8.getD 2 dead)] H9)) (some (.nrm [(vs8.getD 0 dead), (vs8.getD 1 dead), (vs8.getD 2 dead)] H9))) pnK noX noR fun vs13 H14 =>
 (bin 0 .quo (vs13.getD 1 dead) (.int .i64 2)).bind fun t43 =>
 (bin 0 .add (vs13.getD 2 dead) (.int .i64 1)).bind fun t36 =>
 kn10 [(vs13.getD 0 dead), t43, t36] H14) (kx11 1 (Fr.of [8] [(vs8.getD 1 dead)]) H9)) (m + j + 1) [.int .i64 k, .int .i64 x, .int .i64 i] H kx kr = kx 1 (Fr.of [8] [.int .i64 (x.fdiv (2 ^ j))]) H
  | 0, i, k, x, hk, hi, hl, h1, h2 => by
    have hc : (i < k) = False := eq_false (by omega)
    rw [lp_succ]
    simp -implicitDefEqProofs only [hc, Int.pow_zero, Int.fdiv_one, tabs_gn, ↓EVdn, EVup, lp_succ, goInt, splice, okC, Fr.of, Fr.ofI, Fr.g, Nat.reduceAdd, Nat.reduceMul, Nat.reduceEqDiff, Nat.reduceLT, Nat.reduceLeDiff, Nat.reduceBEq, Int.reduceLT, Int.reduceLE, Int.reduceToNat, Int.reduceAdd, Int.reduceSub, Int.reduceMul, Int.reduceEq, Int.reduceNeg, ↓reduceIte, ↓reduceDIte, Nat.beq, reduceCtorEq, Value.int.injEq, Nat.reduceSub, flat_int, flat_bool, flat_r2, flat_bt]
  | j + 1, i, k, x, hk, hi, hl, h1, h2 => by
    have hc : (i < k) = True := eq_true (by omega)
    have hf : x.fdiv 2 = x / 2 := Int.fdiv_eq_ediv_of_nonneg _ (by omega)
    have ih := lp54 H kx kr m j (i + 1) k (x.fdiv 2) (by omega) (by omega) hl (by omega) (by omega)
    have hh := half x
    have ei : IntKind.wrap .i64 (i + 1) = i + 1 := IntWalk.i64_in _ (by omega)
    have e1 : IntKind.wrap .i64 (x - 1) = x - 1 := IntWalk.i64_in _ (by omega)
    have ef : IntKind.wrap .i64 (x.fdiv 2) = x.fdiv 2 := IntWalk.i64_in _ (by omega)
    have em : m + (j + 1) + 1 = (m + j + 1) + 1 := by omega
    rw [em, lp_succ, ← fdiv_two]
    by_cases hz : x.tmod 2 = 0
    · rw [if_pos hz] at hh
      simp -implicitDefEqProofs only [hc, hz, hh, ei, ef, ih, tabs_gn, ↓EVdn, EVup, goInt, splice, okC, Fr.of, Fr.ofI, Fr.g, Nat.reduceAdd, Nat.reduceMul, Nat.reduceEqDiff, Nat.reduceLT, Nat.reduceLeDiff, Nat.reduceBEq, Int.reduceLT, Int.reduceLE, Int.reduceToNat, Int.reduceAdd, Int.reduceSub, Int.reduceMul, Int.reduceEq, Int.reduceNeg, ↓reduceIte, ↓reduceDIte, Nat.beq, reduceCtorEq, Value.int.injEq, Nat.reduceSub, flat_int, flat_bool, flat_r2, flat_bt]
    · rw [if_neg hz] at hh
      simp -implicitDefEqProofs only [hc, hz, hh, ei, e1, ef, ih, tabs_gn, ↓EVdn, EVup, lp_succ, goInt, splice, okC, Fr.of, Fr.ofI, Fr.g, Nat.reduceAdd, Nat.reduceMul, Nat.reduceEqDiff, Nat.reduceLT, Nat.reduceLeDiff, Nat.reduceBEq, Int.reduceLT, Int.reduceLE, Int.reduceToNat, Int.reduceAdd, Int.reduceSub, Int.reduceMul, Int.reduceEq, Int.reduceNeg, ↓reduceIte, ↓reduceDIte, Nat.beq, reduceCtorEq, Value.int.injEq, Nat.reduceSub, flat_int, flat_bool, flat_r2, flat_bt]
theorem shl_in (x y : Int) (hx : 0 ≤ x ∧ x < 4294967296) : IntKind.wrap .u32 (shlK .i64 x (y % 32).toNat) = shlK .u32 x (y % 32).toNat := by
  have hk : (y % 32).toNat < 32 := by omega
  generalize (y % 32).toNat = k at hk ⊢
  unfold shlK
  rw [Nat.min_eq_left (show k ≤ IntKind.i64.bits by simp only [IntKind.bits]; omega), Nat.min_eq_left (show k ≤ IntKind.u32.bits by simp only [IntKind.bits]; omega)]
  have hp : (2 : Int) ^ k ≤ 2 ^ 31 := by exact_mod_cast Nat.pow_le_pow_right (show 0 < 2 by omega) (show k ≤ 31 by omega)
  have hp0 : (0 : Int) < 2 ^ k := Int.pow_pos (by omega)
  have h1 : 0 ≤ x * 2 ^ k := Int.mul_nonneg hx.1 (Int.le_of_lt hp0)
  have h2 : x * 2 ^ k ≤ 4294967295 * 2147483648 := Int.mul_le_mul (by omega) hp (Int.le_of_lt hp0) (by omega)
  rw [IntWalk.i64_in _ (by omega)]
theorem shr_in (x y : Int) (hx : 0 ≤ x ∧ x < 4294967296) : IntKind.wrap .u32 (shrK .i64 x (y % 32).toNat) = shrK .u32 x (y % 32).toNat := by
  have hk : (y % 32).toNat < 32 := by omega
  generalize (y % 32).toNat = k at hk ⊢
  unfold shrK
  rw [Nat.min_eq_left (show k ≤ IntKind.i64.bits by simp only [IntKind.bits]; omega), Nat.min_eq_left (show k ≤ IntKind.u32.bits by simp only [IntKind.bits]; omega)]
  have hp0 : (0 : Int) < 2 ^ k := Int.pow_pos (by omega)
  rw [Int.fdiv_eq_ediv_of_nonneg _ (Int.le_of_lt hp0)]
  have h1 : 0 ≤ x / 2 ^ k := Int.ediv_nonneg hx.1 (Int.le_of_lt hp0)
  have h2 : x / 2 ^ k ≤ x := Int.ediv_le_self _ hx.1
  rw [IntWalk.u32_in _ (by omega)]
theorem sar_in (x y : Int) : IntKind.wrap .u32 ((IntKind.wrap .i32 x).fdiv (2 ^ (y % 32).toNat)) = IntKind.wrap .u32 (shrK .i32 (IntKind.wrap .i32 x) (y % 32).toNat) := by
  have hk : (y % 32).toNat < 32 := by omega
  generalize (y % 32).toNat = k at hk ⊢
  unfold shrK
  rw [Nat.min_eq_left (show k ≤ IntKind.i32.bits by simp only [IntKind.bits]; omega)]
theorem v54_13 (n : Nat) (H : Hp) (x y : Int) (hx : 0 ≤ x ∧ x < 4294967296) (hy : 0 ≤ y ∧ y < 4294967296) : evCall cfc (n+40) 54 [.int .i64 13, .int .u32 x, .int .u32 y] H = some (.ret (.int .u32 (aluV 13 x y)), H) := by
  rw [q54 (n+39) _ _ _ rfl rfl rfl H]
  have hx2 : (0 ≤ x ∧ x < 4294967296) = True := eq_true hx
  have ey : y.tmod 32 = y % 32 := Int.tmod_eq_emod_of_nonneg hy.1
  have ek : IntKind.wrap .i64 (y % 32) = y % 32 := IntWalk.i64_in _ (by omega)
  have ex : IntKind.wrap .i64 x = x := IntWalk.i64_in _ (by omega)
  have hk : (y % 32 < 0) = False := eq_false (by omega)
  have i32 := i32_in x
  simp -implicitDefEqProofs only [s54, v52, v35, hx2, ey, ek, ex, hk, aluV_13, and31u, shl_in x y hx, tabs_gn, ↓EVdn, EVup, lp_succ, goInt, splice, okC, Fr.of, Fr.ofI, Fr.g, Nat.reduceAdd, Nat.reduceMul, Nat.reduceEqDiff, Nat.reduceLT, Nat.reduceLeDiff, Nat.reduceBEq, Int.reduceLT, Int.reduceLE, Int.reduceToNat, Int.reduceAdd, Int.reduceSub, Int.reduceMul, Int.reduceEq, Int.reduceNeg, ↓reduceIte, ↓reduceDIte, Nat.beq, reduceCtorEq, Value.int.injEq, Nat.reduceSub, flat_int, flat_bool, flat_r2, flat_bt]
theorem v54_22 (n : Nat) (H : Hp) (x y : Int) (hx : 0 ≤ x ∧ x < 4294967296) (hy : 0 ≤ y ∧ y < 4294967296) : evCall cfc (n+40) 54 [.int .i64 22, .int .u32 x, .int .u32 y] H = some (.ret (.int .u32 (aluV 22 x y)), H) := by
  rw [q54 (n+39) _ _ _ rfl rfl rfl H]
  have hx2 : (0 ≤ x ∧ x < 4294967296) = True := eq_true hx
  have ey : y.tmod 32 = y % 32 := Int.tmod_eq_emod_of_nonneg hy.1
  have ek : IntKind.wrap .i64 (y % 32) = y % 32 := IntWalk.i64_in _ (by omega)
  have ex : IntKind.wrap .i64 x = x := IntWalk.i64_in _ (by omega)
  have hk : (y % 32 < 0) = False := eq_false (by omega)
  have i32 := i32_in x
  simp -implicitDefEqProofs only [s54, v52, v35, hx2, ey, ek, ex, hk, aluV_22, and31u, shl_in x y hx, tabs_gn, ↓EVdn, EVup, lp_succ, goInt, splice, okC, Fr.of, Fr.ofI, Fr.g, Nat.reduceAdd, Nat.reduceMul, Nat.reduceEqDiff, Nat.reduceLT, Nat.reduceLeDiff, Nat.reduceBEq, Int.reduceLT, Int.reduceLE, Int.reduceToNat, Int.reduceAdd, Int.reduceSub, Int.reduceMul, Int.reduceEq, Int.reduceNeg, ↓reduceIte, ↓reduceDIte, Nat.beq, reduceCtorEq, Value.int.injEq, Nat.reduceSub, flat_int, flat_bool, flat_r2, flat_bt]
theorem v54_14 (n : Nat) (H : Hp) (x y : Int) (hx : 0 ≤ x ∧ x < 4294967296) (hy : 0 ≤ y ∧ y < 4294967296) : evCall cfc (n+40) 54 [.int .i64 14, .int .u32 x, .int .u32 y] H = some (.ret (.int .u32 (aluV 14 x y)), H) := by
  rw [q54 (n+39) _ _ _ rfl rfl rfl H]
  have hx2 : (0 ≤ x ∧ x < 4294967296) = True := eq_true hx
  have ey : y.tmod 32 = y % 32 := Int.tmod_eq_emod_of_nonneg hy.1
  have ek : IntKind.wrap .i64 (y % 32) = y % 32 := IntWalk.i64_in _ (by omega)
  have ex : IntKind.wrap .i64 x = x := IntWalk.i64_in _ (by omega)
  have hk : (y % 32 < 0) = False := eq_false (by omega)
  have i32 := i32_in x
  simp -implicitDefEqProofs only [s54, v52, v35, hx2, ey, ek, ex, hk, aluV_14, and31u, shr_in x y hx, tabs_gn, ↓EVdn, EVup, lp_succ, goInt, splice, okC, Fr.of, Fr.ofI, Fr.g, Nat.reduceAdd, Nat.reduceMul, Nat.reduceEqDiff, Nat.reduceLT, Nat.reduceLeDiff, Nat.reduceBEq, Int.reduceLT, Int.reduceLE, Int.reduceToNat, Int.reduceAdd, Int.reduceSub, Int.reduceMul, Int.reduceEq, Int.reduceNeg, ↓reduceIte, ↓reduceDIte, Nat.beq, reduceCtorEq, Value.int.injEq, Nat.reduceSub, flat_int, flat_bool, flat_r2, flat_bt]
theorem v54_23 (n : Nat) (H : Hp) (x y : Int) (hx : 0 ≤ x ∧ x < 4294967296) (hy : 0 ≤ y ∧ y < 4294967296) : evCall cfc (n+40) 54 [.int .i64 23, .int .u32 x, .int .u32 y] H = some (.ret (.int .u32 (aluV 23 x y)), H) := by
  rw [q54 (n+39) _ _ _ rfl rfl rfl H]
  have hx2 : (0 ≤ x ∧ x < 4294967296) = True := eq_true hx
  have ey : y.tmod 32 = y % 32 := Int.tmod_eq_emod_of_nonneg hy.1
  have ek : IntKind.wrap .i64 (y % 32) = y % 32 := IntWalk.i64_in _ (by omega)
  have ex : IntKind.wrap .i64 x = x := IntWalk.i64_in _ (by omega)
  have hk : (y % 32 < 0) = False := eq_false (by omega)
  have i32 := i32_in x
  simp -implicitDefEqProofs only [s54, v52, v35, hx2, ey, ek, ex, hk, aluV_23, and31u, shr_in x y hx, tabs_gn, ↓EVdn, EVup, lp_succ, goInt, splice, okC, Fr.of, Fr.ofI, Fr.g, Nat.reduceAdd, Nat.reduceMul, Nat.reduceEqDiff, Nat.reduceLT, Nat.reduceLeDiff, Nat.reduceBEq, Int.reduceLT, Int.reduceLE, Int.reduceToNat, Int.reduceAdd, Int.reduceSub, Int.reduceMul, Int.reduceEq, Int.reduceNeg, ↓reduceIte, ↓reduceDIte, Nat.beq, reduceCtorEq, Value.int.injEq, Nat.reduceSub, flat_int, flat_bool, flat_r2, flat_bt]
theorem v54_15 (n : Nat) (H : Hp) (x y : Int) (hx : 0 ≤ x ∧ x < 4294967296) (hy : 0 ≤ y ∧ y < 4294967296) : evCall cfc (n+40) 54 [.int .i64 15, .int .u32 x, .int .u32 y] H = some (.ret (.int .u32 (aluV 15 x y)), H) := by
  rw [q54 (n+39) _ _ _ rfl rfl rfl H]
  have hx2 : (0 ≤ x ∧ x < 4294967296) = True := eq_true hx
  have ey : y.tmod 32 = y % 32 := Int.tmod_eq_emod_of_nonneg hy.1
  have ek : IntKind.wrap .i64 (y % 32) = y % 32 := IntWalk.i64_in _ (by omega)
  have ex : IntKind.wrap .i64 x = x := IntWalk.i64_in _ (by omega)
  have hk : (y % 32 < 0) = False := eq_false (by omega)
  have i32 := i32_in x
  have el := fun H kx kr => lp54 H kx kr (38 + n - (y % 32).toNat) (y % 32).toNat 0 (y % 32) (IntKind.wrap .i32 x) (by omega) (by omega) (by omega) (by omega) (by omega)
  rw [show 38 + n - (y % 32).toNat + (y % 32).toNat + 1 = n + 39 by omega] at el
  simp -implicitDefEqProofs only [s54, v52, v35, hx2, ey, ek, ex, hk, aluV_15, and31u, el, sar_in, tabs_gn, ↓EVdn, EVup, goInt, splice, okC, Fr.of, Fr.ofI, Fr.g, Nat.reduceAdd, Nat.reduceMul, Nat.reduceEqDiff, Nat.reduceLT, Nat.reduceLeDiff, Nat.reduceBEq, Int.reduceLT, Int.reduceLE, Int.reduceToNat, Int.reduceAdd, Int.reduceSub, Int.reduceMul, Int.reduceEq, Int.reduceNeg, ↓reduceIte, ↓reduceDIte, Nat.beq, reduceCtorEq, Value.int.injEq, Nat.reduceSub, flat_int, flat_bool, flat_r2, flat_bt]
theorem v54_24 (n : Nat) (H : Hp) (x y : Int) (hx : 0 ≤ x ∧ x < 4294967296) (hy : 0 ≤ y ∧ y < 4294967296) : evCall cfc (n+40) 54 [.int .i64 24, .int .u32 x, .int .u32 y] H = some (.ret (.int .u32 (aluV 24 x y)), H) := by
  rw [q54 (n+39) _ _ _ rfl rfl rfl H]
  have hx2 : (0 ≤ x ∧ x < 4294967296) = True := eq_true hx
  have ey : y.tmod 32 = y % 32 := Int.tmod_eq_emod_of_nonneg hy.1
  have ek : IntKind.wrap .i64 (y % 32) = y % 32 := IntWalk.i64_in _ (by omega)
  have ex : IntKind.wrap .i64 x = x := IntWalk.i64_in _ (by omega)
  have hk : (y % 32 < 0) = False := eq_false (by omega)
  have i32 := i32_in x
  have el := fun H kx kr => lp54 H kx kr (38 + n - (y % 32).toNat) (y % 32).toNat 0 (y % 32) (IntKind.wrap .i32 x) (by omega) (by omega) (by omega) (by omega) (by omega)
  rw [show 38 + n - (y % 32).toNat + (y % 32).toNat + 1 = n + 39 by omega] at el
  simp -implicitDefEqProofs only [s54, v52, v35, hx2, ey, ek, ex, hk, aluV_24, and31u, el, sar_in, tabs_gn, ↓EVdn, EVup, goInt, splice, okC, Fr.of, Fr.ofI, Fr.g, Nat.reduceAdd, Nat.reduceMul, Nat.reduceEqDiff, Nat.reduceLT, Nat.reduceLeDiff, Nat.reduceBEq, Int.reduceLT, Int.reduceLE, Int.reduceToNat, Int.reduceAdd, Int.reduceSub, Int.reduceMul, Int.reduceEq, Int.reduceNeg, ↓reduceIte, ↓reduceDIte, Nat.beq, reduceCtorEq, Value.int.injEq, Nat.reduceSub, flat_int, flat_bool, flat_r2, flat_bt]
theorem mulh_eq (z : Int) (h : -4611686018427387904 ≤ z ∧ z ≤ 4611686018427387904) : IntKind.wrap .u32 (IntKind.wrap .i64 ((IntKind.wrap .i64 (z - z % 4294967296)).tdiv 4294967296)) = IntKind.wrap .u32 (shrK .u64 (IntKind.wrap .u64 z) 32) := by
  have e1 : IntKind.wrap .i64 (z - z % 4294967296) = 4294967296 * (z / 4294967296) := by rw [IntWalk.i64_in _ (by omega)]; omega
  rw [e1, Int.mul_tdiv_cancel_left _ (by omega), IntWalk.i64_in _ (by omega)]
  unfold shrK
  rw [Int.fdiv_eq_ediv_of_nonneg _ (by decide), IntKind.wrap_u32, IntKind.wrap_u32]
  have e2 : (2 : Int) ^ (min 32 IntKind.u64.bits) = 4294967296 := by decide
  rw [e2]
  have e3 : IntKind.wrap .u64 z = z % 18446744073709551616 := by simp [IntKind.wrap, IntKind.bits, IntKind.signed]
  rw [e3]
  omega
theorem mul_i32 (x y : Int) : -4611686018427387904 ≤ IntKind.wrap .i32 x * IntKind.wrap .i32 y ∧ IntKind.wrap .i32 x * IntKind.wrap .i32 y ≤ 4611686018427387904 := by
  have hx := i32_in x
  have hy := i32_in y
  generalize IntKind.wrap .i32 x = a at hx ⊢
  generalize IntKind.wrap .i32 y = b at hy ⊢
  have h1 : (a * b).natAbs ≤ 2147483648 * 2147483648 := by rw [Int.natAbs_mul]; exact Nat.mul_le_mul (by omega) (by omega)
  omega
theorem add_sgn (x y : Int) : IntKind.wrap .u32 (IntKind.wrap .i64 (IntKind.wrap .i32 x + IntKind.wrap .i32 y)) = IntKind.wrap .u32 (x + y) := by
  have hx := i32_in x
  have hy := i32_in y
  rw [IntWalk.i64_in _ (by omega), IntKind.wrap_i32, IntKind.wrap_i32, IntKind.wrap_u32, IntKind.wrap_u32]
  omega
theorem sub_sgn (x y : Int) : IntKind.wrap .u32 (IntKind.wrap .i64 (IntKind.wrap .i32 x - IntKind.wrap .i32 y)) = IntKind.wrap .u32 (x - y) := by
  have hx := i32_in x
  have hy := i32_in y
  rw [IntWalk.i64_in _ (by omega), IntKind.wrap_i32, IntKind.wrap_i32, IntKind.wrap_u32, IntKind.wrap_u32]
  omega
theorem mul_u (x y : Int) (hx : 0 ≤ x ∧ x < 4294967296) (hy : 0 ≤ y ∧ y < 4294967296) : IntKind.wrap .u32 ((IntKind.wrap .u64 (IntKind.wrap .u64 x * IntKind.wrap .u64 y)).tmod 4294967296) = IntKind.wrap .u32 (x * y) := by
  have e3 : ∀ z : Int, IntKind.wrap .u64 z = z % 18446744073709551616 := fun z => by simp [IntKind.wrap, IntKind.bits, IntKind.signed]
  rw [e3 x, e3 y, show x % 18446744073709551616 = x by omega, show y % 18446744073709551616 = y by omega, e3]
  generalize x * y = z
  rw [Int.tmod_eq_emod_of_nonneg (by omega), IntKind.wrap_u32, IntKind.wrap_u32]
  omega
theorem lui_eq (y : Int) (hy : 0 ≤ y ∧ y < 4294967296) : IntKind.wrap .u32 (y.tmod 65536 * 65536) = shlK .u32 y 16 := by
  rw [Int.tmod_eq_emod_of_nonneg hy.1]
  unfold shlK
  rw [IntKind.wrap_u32, IntKind.wrap_u32]
  have : (2 : Int) ^ (min 16 IntKind.u32.bits) = 65536 := by decide
  rw [this]
  omega
theorem v36_2 (n : Nat) (H : Hp) (x y : Int) (hx : 0 ≤ x ∧ x < 4294967296) (hy : 0 ≤ y ∧ y < 4294967296) : evCall cfc (n+50) 36 [.int .i64 2, .int .u32 x, .int .u32 y] H = some (.ret (.tuple #[.int .u32 (aluV 2 x y), .int .i64 0]), H) := by
  rw [q36 (n+49) _ _ _ rfl rfl rfl H]
  have hx2 : (0 ≤ x ∧ x < 4294967296) = True := eq_true hx
  have hy2 : (0 ≤ y ∧ y < 4294967296) = True := eq_true hy
  simp -implicitDefEqProofs only [s36, v52, v35, hx2, hy2, aluV_2, tabs_gn, ↓EVdn, EVup, lp_succ, goInt, splice, okC, Fr.of, Fr.ofI, Fr.g, Nat.reduceAdd, Nat.reduceMul, Nat.reduceEqDiff, Nat.reduceLT, Nat.reduceLeDiff, Nat.reduceBEq, Int.reduceLT, Int.reduceLE, Int.reduceToNat, Int.reduceAdd, Int.reduceSub, Int.reduceMul, Int.reduceEq, Int.reduceNeg, ↓reduceIte, ↓reduceDIte, Nat.beq, reduceCtorEq, Value.int.injEq, Nat.reduceSub, flat_int, flat_bool, flat_r2, flat_bt, add_sgn]
theorem v36_3 (n : Nat) (H : Hp) (x y : Int) (hx : 0 ≤ x ∧ x < 4294967296) (hy : 0 ≤ y ∧ y < 4294967296) : evCall cfc (n+50) 36 [.int .i64 3, .int .u32 x, .int .u32 y] H = some (.ret (.tuple #[.int .u32 (aluV 3 x y), .int .i64 0]), H) := by
  rw [q36 (n+49) _ _ _ rfl rfl rfl H]
  have hx2 : (0 ≤ x ∧ x < 4294967296) = True := eq_true hx
  have hy2 : (0 ≤ y ∧ y < 4294967296) = True := eq_true hy
  simp -implicitDefEqProofs only [s36, v52, v35, hx2, hy2, aluV_3, tabs_gn, ↓EVdn, EVup, lp_succ, goInt, splice, okC, Fr.of, Fr.ofI, Fr.g, Nat.reduceAdd, Nat.reduceMul, Nat.reduceEqDiff, Nat.reduceLT, Nat.reduceLeDiff, Nat.reduceBEq, Int.reduceLT, Int.reduceLE, Int.reduceToNat, Int.reduceAdd, Int.reduceSub, Int.reduceMul, Int.reduceEq, Int.reduceNeg, ↓reduceIte, ↓reduceDIte, Nat.beq, reduceCtorEq, Value.int.injEq, Nat.reduceSub, flat_int, flat_bool, flat_r2, flat_bt, sub_sgn]
theorem v36_4 (n : Nat) (H : Hp) (x y : Int) (hx : 0 ≤ x ∧ x < 4294967296) (hy : 0 ≤ y ∧ y < 4294967296) : evCall cfc (n+50) 36 [.int .i64 4, .int .u32 x, .int .u32 y] H = some (.ret (.tuple #[.int .u32 (aluV 4 x y), .int .i64 0]), H) := by
  rw [q36 (n+49) _ _ _ rfl rfl rfl H]
  have hx2 : (0 ≤ x ∧ x < 4294967296) = True := eq_true hx
  have hy2 : (0 ≤ y ∧ y < 4294967296) = True := eq_true hy
  simp -implicitDefEqProofs only [s36, v52, v35, hx2, hy2, aluV_4, tabs_gn, ↓EVdn, EVup, lp_succ, goInt, splice, okC, Fr.of, Fr.ofI, Fr.g, Nat.reduceAdd, Nat.reduceMul, Nat.reduceEqDiff, Nat.reduceLT, Nat.reduceLeDiff, Nat.reduceBEq, Int.reduceLT, Int.reduceLE, Int.reduceToNat, Int.reduceAdd, Int.reduceSub, Int.reduceMul, Int.reduceEq, Int.reduceNeg, ↓reduceIte, ↓reduceDIte, Nat.beq, reduceCtorEq, Value.int.injEq, Nat.reduceSub, flat_int, flat_bool, flat_r2, flat_bt, mul_u x y hx hy]
theorem v36_5 (n : Nat) (H : Hp) (x y : Int) (hx : 0 ≤ x ∧ x < 4294967296) (hy : 0 ≤ y ∧ y < 4294967296) : evCall cfc (n+50) 36 [.int .i64 5, .int .u32 x, .int .u32 y] H = some (.ret (.tuple #[.int .u32 (aluV 5 x y), .int .i64 0]), H) := by
  rw [q36 (n+49) _ _ _ rfl rfl rfl H]
  have hx2 : (0 ≤ x ∧ x < 4294967296) = True := eq_true hx
  have hy2 : (0 ≤ y ∧ y < 4294967296) = True := eq_true hy
  have eb := mul_i32 x y
  have e1 : IntKind.wrap .i64 (IntKind.wrap .i32 x * IntKind.wrap .i32 y) = IntKind.wrap .i32 x * IntKind.wrap .i32 y := IntWalk.i64_in _ (by omega)
  have e2 := mulh_eq _ eb
  simp -implicitDefEqProofs only [s36, v52, v35, hx2, hy2, aluV_5, tabs_gn, ↓EVdn, EVup, lp_succ, goInt, splice, okC, Fr.of, Fr.ofI, Fr.g, Nat.reduceAdd, Nat.reduceMul, Nat.reduceEqDiff, Nat.reduceLT, Nat.reduceLeDiff, Nat.reduceBEq, Int.reduceLT, Int.reduceLE, Int.reduceToNat, Int.reduceAdd, Int.reduceSub, Int.reduceMul, Int.reduceEq, Int.reduceNeg, ↓reduceIte, ↓reduceDIte, Nat.beq, reduceCtorEq, Value.int.injEq, Nat.reduceSub, flat_int, flat_bool, flat_r2, flat_bt, e1, e2, and32, i64_i32]
theorem v36_6 (n : Nat) (H : Hp) (x y : Int) (hx : 0 ≤ x ∧ x < 4294967296) (hy : 0 ≤ y ∧ y < 4294967296) (h0 : y ≠ 0) : evCall cfc (n+50) 36 [.int .i64 6, .int .u32 x, .int .u32 y] H = some (.ret (.tuple #[.int .u32 (aluV 6 x y), .int .i64 0]), H) := by
  rw [q36 (n+49) _ _ _ rfl rfl rfl H]
  have hx2 : (0 ≤ x ∧ x < 4294967296) = True := eq_true hx
  have hy2 : (0 ≤ y ∧ y < 4294967296) = True := eq_true hy
  have h02 : (y = 0) = False := eq_false h0
  simp -implicitDefEqProofs only [s36, v52, v35, hx2, hy2, v53_6 (n+46) _ x y hx hy h0, tabs_gn, ↓EVdn, EVup, lp_succ, goInt, splice, okC, Fr.of, Fr.ofI, Fr.g, Nat.reduceAdd, Nat.reduceMul, Nat.reduceEqDiff, Nat.reduceLT, Nat.reduceLeDiff, Nat.reduceBEq, Int.reduceLT, Int.reduceLE, Int.reduceToNat, Int.reduceAdd, Int.reduceSub, Int.reduceMul, Int.reduceEq, Int.reduceNeg, ↓reduceIte, ↓reduceDIte, Nat.beq, reduceCtorEq, Value.int.injEq, Nat.reduceSub, flat_int, flat_bool, flat_r2, flat_bt, h02]
theorem v36_7 (n : Nat) (H : Hp) (x y : Int) (hx : 0 ≤ x ∧ x < 4294967296) (hy : 0 ≤ y ∧ y < 4294967296) (h0 : y ≠ 0) : evCall cfc (n+50) 36 [.int .i64 7, .int .u32 x, .int .u32 y] H = some (.ret (.tuple #[.int .u32 (aluV 7 x y), .int .i64 0]), H) := by
  rw [q36 (n+49) _ _ _ rfl rfl rfl H]
  have hx2 : (0 ≤ x ∧ x < 4294967296) = True := eq_true hx
  have hy2 : (0 ≤ y ∧ y < 4294967296) = True := eq_true hy
  have h02 : (y = 0) = False := eq_false h0
  simp -implicitDefEqProofs only [s36, v52, v35, hx2, hy2, v53_7 (n+46) _ x y hx hy h0, tabs_gn, ↓EVdn, EVup, lp_succ, goInt, splice, okC, Fr.of, Fr.ofI, Fr.g, Nat.reduceAdd, Nat.reduceMul, Nat.reduceEqDiff, Nat.reduceLT, Nat.reduceLeDiff, Nat.reduceBEq, Int.reduceLT, Int.reduceLE, Int.reduceToNat, Int.reduceAdd, Int.reduceSub, Int.reduceMul, Int.reduceEq, Int.reduceNeg, ↓reduceIte, ↓reduceDIte, Nat.beq, reduceCtorEq, Value.int.injEq, Nat.reduceSub, flat_int, flat_bool, flat_r2, flat_bt, h02]
theorem v36_8 (n : Nat) (H : Hp) (x y : Int) (hx : 0 ≤ x ∧ x < 4294967296) (hy : 0 ≤ y ∧ y < 4294967296) (h0 : y ≠ 0) : evCall cfc (n+50) 36 [.int .i64 8, .int .u32 x, .int .u32 y] H = some (.ret (.tuple #[.int .u32 (aluV 8 x y), .int .i64 0]), H) := by
  rw [q36 (n+49) _ _ _ rfl rfl rfl H]
  have hx2 : (0 ≤ x ∧ x < 4294967296) = True := eq_true hx
  have hy2 : (0 ≤ y ∧ y < 4294967296) = True := eq_true hy
  have h02 : (y = 0) = False := eq_false h0
  simp -implicitDefEqProofs only [s36, v52, v35, hx2, hy2, v53_8 (n+46) _ x y hx hy h0, tabs_gn, ↓EVdn, EVup, lp_succ, goInt, splice, okC, Fr.of, Fr.ofI, Fr.g, Nat.reduceAdd, Nat.reduceMul, Nat.reduceEqDiff, Nat.reduceLT, Nat.reduceLeDiff, Nat.reduceBEq, Int.reduceLT, Int.reduceLE, Int.reduceToNat, Int.reduceAdd, Int.reduceSub, Int.reduceMul, Int.reduceEq, Int.reduceNeg, ↓reduceIte, ↓reduceDIte, Nat.beq, reduceCtorEq, Value.int.injEq, Nat.reduceSub, flat_int, flat_bool, flat_r2, flat_bt, h02]
theorem v36_9 (n : Nat) (H : Hp) (x y : Int) (hx : 0 ≤ x ∧ x < 4294967296) (hy : 0 ≤ y ∧ y < 4294967296) (h0 : y ≠ 0) : evCall cfc (n+50) 36 [.int .i64 9, .int .u32 x, .int .u32 y] H = some (.ret (.tuple #[.int .u32 (aluV 9 x y), .int .i64 0]), H) := by
  rw [q36 (n+49) _ _ _ rfl rfl rfl H]
  have hx2 : (0 ≤ x ∧ x < 4294967296) = True := eq_true hx
  have hy2 : (0 ≤ y ∧ y < 4294967296) = True := eq_true hy
  have h02 : (y = 0) = False := eq_false h0
  simp -implicitDefEqProofs only [s36, v52, v35, hx2, hy2, v53_9 (n+46) _ x y hx hy h0, tabs_gn, ↓EVdn, EVup, lp_succ, goInt, splice, okC, Fr.of, Fr.ofI, Fr.g, Nat.reduceAdd, Nat.reduceMul, Nat.reduceEqDiff, Nat.reduceLT, Nat.reduceLeDiff, Nat.reduceBEq, Int.reduceLT, Int.reduceLE, Int.reduceToNat, Int.reduceAdd, Int.reduceSub, Int.reduceMul, Int.reduceEq, Int.reduceNeg, ↓reduceIte, ↓reduceDIte, Nat.beq, reduceCtorEq, Value.int.injEq, Nat.reduceSub, flat_int, flat_bool, flat_r2, flat_bt, h02]
theorem v36_10 (n : Nat) (H : Hp) (x y : Int) (hx : 0 ≤ x ∧ x < 4294967296) (hy : 0 ≤ y ∧ y < 4294967296) : evCall cfc (n+50) 36 [.int .i64 10, .int .u32 x, .int .u32 y] H = some (.ret (.tuple #[.int .u32 (aluV 10 x y), .int .i64 0]), H) := by
  rw [q36 (n+49) _ _ _ rfl rfl rfl H]
  have hx2 : (0 ≤ x ∧ x < 4294967296) = True := eq_true hx
  have hy2 : (0 ≤ y ∧ y < 4294967296) = True := eq_true hy
  simp -implicitDefEqProofs only [s36, v52, v35, hx2, hy2, aluV_10, tabs_gn, ↓EVdn, EVup, lp_succ, goInt, splice, okC, Fr.of, Fr.ofI, Fr.g, Nat.reduceAdd, Nat.reduceMul, Nat.reduceEqDiff, Nat.reduceLT, Nat.reduceLeDiff, Nat.reduceBEq, Int.reduceLT, Int.reduceLE, Int.reduceToNat, Int.reduceAdd, Int.reduceSub, Int.reduceMul, Int.reduceEq, Int.reduceNeg, ↓reduceIte, ↓reduceDIte, Nat.beq, reduceCtorEq, Value.int.injEq, Nat.reduceSub, flat_int, flat_bool, flat_r2, flat_bt]
theorem v36_11 (n : Nat) (H : Hp) (x y : Int) (hx : 0 ≤ x ∧ x < 4294967296) (hy : 0 ≤ y ∧ y < 4294967296) : evCall cfc (n+50) 36 [.int .i64 11, .int .u32 x, .int .u32 y] H = some (.ret (.tuple #[.int .u32 (aluV 11 x y), .int .i64 0]), H) := by
  rw [q36 (n+49) _ _ _ rfl rfl rfl H]
  have hx2 : (0 ≤ x ∧ x < 4294967296) = True := eq_true hx
  have hy2 : (0 ≤ y ∧ y < 4294967296) = True := eq_true hy
  simp -implicitDefEqProofs only [s36, v52, v35, hx2, hy2, aluV_11, tabs_gn, ↓EVdn, EVup, lp_succ, goInt, splice, okC, Fr.of, Fr.ofI, Fr.g, Nat.reduceAdd, Nat.reduceMul, Nat.reduceEqDiff, Nat.reduceLT, Nat.reduceLeDiff, Nat.reduceBEq, Int.reduceLT, Int.reduceLE, Int.reduceToNat, Int.reduceAdd, Int.reduceSub, Int.reduceMul, Int.reduceEq, Int.reduceNeg, ↓reduceIte, ↓reduceDIte, Nat.beq, reduceCtorEq, Value.int.injEq, Nat.reduceSub, flat_int, flat_bool, flat_r2, flat_bt]
theorem v36_12 (n : Nat) (H : Hp) (x y : Int) (hx : 0 ≤ x ∧ x < 4294967296) (hy : 0 ≤ y ∧ y < 4294967296) : evCall cfc (n+50) 36 [.int .i64 12, .int .u32 x, .int .u32 y] H = some (.ret (.tuple #[.int .u32 (aluV 12 x y), .int .i64 0]), H) := by
  rw [q36 (n+49) _ _ _ rfl rfl rfl H]
  have hx2 : (0 ≤ x ∧ x < 4294967296) = True := eq_true hx
  have hy2 : (0 ≤ y ∧ y < 4294967296) = True := eq_true hy
  simp -implicitDefEqProofs only [s36, v52, v35, hx2, hy2, aluV_12, tabs_gn, ↓EVdn, EVup, lp_succ, goInt, splice, okC, Fr.of, Fr.ofI, Fr.g, Nat.reduceAdd, Nat.reduceMul, Nat.reduceEqDiff, Nat.reduceLT, Nat.reduceLeDiff, Nat.reduceBEq, Int.reduceLT, Int.reduceLE, Int.reduceToNat, Int.reduceAdd, Int.reduceSub, Int.reduceMul, Int.reduceEq, Int.reduceNeg, ↓reduceIte, ↓reduceDIte, Nat.beq, reduceCtorEq, Value.int.injEq, Nat.reduceSub, flat_int, flat_bool, flat_r2, flat_bt]
theorem v36_13 (n : Nat) (H : Hp) (x y : Int) (hx : 0 ≤ x ∧ x < 4294967296) (hy : 0 ≤ y ∧ y < 4294967296) : evCall cfc (n+50) 36 [.int .i64 13, .int .u32 x, .int .u32 y] H = some (.ret (.tuple #[.int .u32 (aluV 13 x y), .int .i64 0]), H) := by
  rw [q36 (n+49) _ _ _ rfl rfl rfl H]
  have hx2 : (0 ≤ x ∧ x < 4294967296) = True := eq_true hx
  have hy2 : (0 ≤ y ∧ y < 4294967296) = True := eq_true hy
  simp -implicitDefEqProofs only [s36, v52, v35, hx2, hy2, v54_13 (n+9) _ x y hx hy, tabs_gn, ↓EVdn, EVup, lp_succ, goInt, splice, okC, Fr.of, Fr.ofI, Fr.g, Nat.reduceAdd, Nat.reduceMul, Nat.reduceEqDiff, Nat.reduceLT, Nat.reduceLeDiff, Nat.reduceBEq, Int.reduceLT, Int.reduceLE, Int.reduceToNat, Int.reduceAdd, Int.reduceSub, Int.reduceMul, Int.reduceEq, Int.reduceNeg, ↓reduceIte, ↓reduceDIte, Nat.beq, reduceCtorEq, Value.int.injEq, Nat.reduceSub, flat_int, flat_bool, flat_r2, flat_bt]
theorem v36_14 (n : Nat) (H : Hp) (x y : Int) (hx : 0 ≤ x ∧ x < 4294967296) (hy : 0 ≤ y ∧ y < 4294967296) : evCall cfc (n+50) 36 [.int .i64 14, .int .u32 x, .int .u32 y] H = some (.ret (.tuple #[.int .u32 (aluV 14 x y), .int .i64 0]), H) := by
  rw [q36 (n+49) _ _ _ rfl rfl rfl H]
  have hx2 : (0 ≤ x ∧ x < 4294967296) = True := eq_true hx
  have hy2 : (0 ≤ y ∧ y < 4294967296) = True := eq_true hy
  simp -implicitDefEqProofs only [s36, v52, v35, hx2, hy2, v54_14 (n+9) _ x y hx hy, tabs_gn, ↓EVdn, EVup, lp_succ, goInt, splice, okC, Fr.of, Fr.ofI, Fr.g, Nat.reduceAdd, Nat.reduceMul, Nat.reduceEqDiff, Nat.reduceLT, Nat.reduceLeDiff, Nat.reduceBEq, Int.reduceLT, Int.reduceLE, Int.reduceToNat, Int.reduceAdd, Int.reduceSub, Int.reduceMul, Int.reduceEq, Int.reduceNeg, ↓reduceIte, ↓reduceDIte, Nat.beq, reduceCtorEq, Value.int.injEq, Nat.reduceSub, flat_int, flat_bool, flat_r2, flat_bt]
theorem v36_15 (n : Nat) (H : Hp) (x y : Int) (hx : 0 ≤ x ∧ x < 4294967296) (hy : 0 ≤ y ∧ y < 4294967296) : evCall cfc (n+50) 36 [.int .i64 15, .int .u32 x, .int .u32 y] H = some (.ret (.tuple #[.int .u32 (aluV 15 x y), .int .i64 0]), H) := by
  rw [q36 (n+49) _ _ _ rfl rfl rfl H]
  have hx2 : (0 ≤ x ∧ x < 4294967296) = True := eq_true hx
  have hy2 : (0 ≤ y ∧ y < 4294967296) = True := eq_true hy
  simp -implicitDefEqProofs only [s36, v52, v35, hx2, hy2, v54_15 (n+9) _ x y hx hy, tabs_gn, ↓EVdn, EVup, lp_succ, goInt, splice, okC, Fr.of, Fr.ofI, Fr.g, Nat.reduceAdd, Nat.reduceMul, Nat.reduceEqDiff, Nat.reduceLT, Nat.reduceLeDiff, Nat.reduceBEq, Int.reduceLT, Int.reduceLE, Int.reduceToNat, Int.reduceAdd, Int.reduceSub, Int.reduceMul, Int.reduceEq, Int.reduceNeg, ↓reduceIte, ↓reduceDIte, Nat.beq, reduceCtorEq, Value.int.injEq, Nat.reduceSub, flat_int, flat_bool, flat_r2, flat_bt]
theorem v36_16 (n : Nat) (H : Hp) (x y : Int) (hx : 0 ≤ x ∧ x < 4294967296) (hy : 0 ≤ y ∧ y < 4294967296) : evCall cfc (n+50) 36 [.int .i64 16, .int .u32 x, .int .u32 y] H = some (.ret (.tuple #[.int .u32 (aluV 16 x y), .int .i64 0]), H) := by
  rw [q36 (n+49) _ _ _ rfl rfl rfl H]
  have hx2 : (0 ≤ x ∧ x < 4294967296) = True := eq_true hx
  have hy2 : (0 ≤ y ∧ y < 4294967296) = True := eq_true hy
  simp -implicitDefEqProofs only [s36, v52, v35, hx2, hy2, aluV_16, tabs_gn, ↓EVdn, EVup, lp_succ, goInt, splice, okC, Fr.of, Fr.ofI, Fr.g, Nat.reduceAdd, Nat.reduceMul, Nat.reduceEqDiff, Nat.reduceLT, Nat.reduceLeDiff, Nat.reduceBEq, Int.reduceLT, Int.reduceLE, Int.reduceToNat, Int.reduceAdd, Int.reduceSub, Int.reduceMul, Int.reduceEq, Int.reduceNeg, ↓reduceIte, ↓reduceDIte, Nat.beq, reduceCtorEq, Value.int.injEq, Nat.reduceSub, flat_int, flat_bool, flat_r2, flat_bt, v55]
theorem v36_17 (n : Nat) (H : Hp) (x y : Int) (hx : 0 ≤ x ∧ x < 4294967296) (hy : 0 ≤ y ∧ y < 4294967296) : evCall cfc (n+50) 36 [.int .i64 17, .int .u32 x, .int .u32 y] H = some (.ret (.tuple #[.int .u32 (aluV 17 x y), .int .i64 0]), H) := by
  rw [q36 (n+49) _ _ _ rfl rfl rfl H]
  have hx2 : (0 ≤ x ∧ x < 4294967296) = True := eq_true hx
  have hy2 : (0 ≤ y ∧ y < 4294967296) = True := eq_true hy
  simp -implicitDefEqProofs only [s36, v52, v35, hx2, hy2, aluV_17, tabs_gn, ↓EVdn, EVup, lp_succ, goInt, splice, okC, Fr.of, Fr.ofI, Fr.g, Nat.reduceAdd, Nat.reduceMul, Nat.reduceEqDiff, Nat.reduceLT, Nat.reduceLeDiff, Nat.reduceBEq, Int.reduceLT, Int.reduceLE, Int.reduceToNat, Int.reduceAdd, Int.reduceSub, Int.reduceMul, Int.reduceEq, Int.reduceNeg, ↓reduceIte, ↓reduceDIte, Nat.beq, reduceCtorEq, Value.int.injEq, Nat.reduceSub, flat_int, flat_bool, flat_r2, flat_bt, v55]
theorem v36_18 (n : Nat) (H : Hp) (x y : Int) (hx : 0 ≤ x ∧ x < 4294967296) (hy : 0 ≤ y ∧ y < 4294967296) : evCall cfc (n+50) 36 [.int .i64 18, .int .u32 x, .int .u32 y] H = some (.ret (.tuple #[.int .u32 (aluV 18 x y), .int .i64 0]), H) := by
  rw [q36 (n+49) _ _ _ rfl rfl rfl H]
  have hx2 : (0 ≤ x ∧ x < 4294967296) = True := eq_true hx
  have hy2 : (0 ≤ y ∧ y < 4294967296) = True := eq_true hy
  simp -implicitDefEqProofs only [s36, v52, v35, hx2, hy2, aluV_18, tabs_gn, ↓EVdn, EVup, lp_succ, goInt, splice, okC, Fr.of, Fr.ofI, Fr.g, Nat.reduceAdd, Nat.reduceMul, Nat.reduceEqDiff, Nat.reduceLT, Nat.reduceLeDiff, Nat.reduceBEq, Int.reduceLT, Int.reduceLE, Int.reduceToNat, Int.reduceAdd, Int.reduceSub, Int.reduceMul, Int.reduceEq, Int.reduceNeg, ↓reduceIte, ↓reduceDIte, Nat.beq, reduceCtorEq, Value.int.injEq, Nat.reduceSub, flat_int, flat_bool, flat_r2, flat_bt, add_sgn]
theorem v36_19 (n : Nat) (H : Hp) (x y : Int) (hx : 0 ≤ x ∧ x < 4294967296) (hy : 0 ≤ y ∧ y < 4294967296) : evCall cfc (n+50) 36 [.int .i64 19, .int .u32 x, .int .u32 y] H = some (.ret (.tuple #[.int .u32 (aluV 19 x y), .int .i64 0]), H) := by
  rw [q36 (n+49) _ _ _ rfl rfl rfl H]
  have hx2 : (0 ≤ x ∧ x < 4294967296) = True := eq_true hx
  have hy2 : (0 ≤ y ∧ y < 4294967296) = True := eq_true hy
  simp -implicitDefEqProofs only [s36, v52, v35, hx2, hy2, aluV_19, tabs_gn, ↓EVdn, EVup, lp_succ, goInt, splice, okC, Fr.of, Fr.ofI, Fr.g, Nat.reduceAdd, Nat.reduceMul, Nat.reduceEqDiff, Nat.reduceLT, Nat.reduceLeDiff, Nat.reduceBEq, Int.reduceLT, Int.reduceLE, Int.reduceToNat, Int.reduceAdd, Int.reduceSub, Int.reduceMul, Int.reduceEq, Int.reduceNeg, ↓reduceIte, ↓reduceDIte, Nat.beq, reduceCtorEq, Value.int.injEq, Nat.reduceSub, flat_int, flat_bool, flat_r2, flat_bt]
theorem v36_20 (n : Nat) (H : Hp) (x y : Int) (hx : 0 ≤ x ∧ x < 4294967296) (hy : 0 ≤ y ∧ y < 4294967296) : evCall cfc (n+50) 36 [.int .i64 20, .int .u32 x, .int .u32 y] H = some (.ret (.tuple #[.int .u32 (aluV 20 x y), .int .i64 0]), H) := by
  rw [q36 (n+49) _ _ _ rfl rfl rfl H]
  have hx2 : (0 ≤ x ∧ x < 4294967296) = True := eq_true hx
  have hy2 : (0 ≤ y ∧ y < 4294967296) = True := eq_true hy
  simp -implicitDefEqProofs only [s36, v52, v35, hx2, hy2, aluV_20, tabs_gn, ↓EVdn, EVup, lp_succ, goInt, splice, okC, Fr.of, Fr.ofI, Fr.g, Nat.reduceAdd, Nat.reduceMul, Nat.reduceEqDiff, Nat.reduceLT, Nat.reduceLeDiff, Nat.reduceBEq, Int.reduceLT, Int.reduceLE, Int.reduceToNat, Int.reduceAdd, Int.reduceSub, Int.reduceMul, Int.reduceEq, Int.reduceNeg, ↓reduceIte, ↓reduceDIte, Nat.beq, reduceCtorEq, Value.int.injEq, Nat.reduceSub, flat_int, flat_bool, flat_r2, flat_bt]
theorem v36_21 (n : Nat) (H : Hp) (x y : Int) (hx : 0 ≤ x ∧ x < 4294967296) (hy : 0 ≤ y ∧ y < 4294967296) : evCall cfc (n+50) 36 [.int .i64 21, .int .u32 x, .int .u32 y] H = some (.ret (.tuple #[.int .u32 (aluV 21 x y), .int .i64 0]), H) := by
  rw [q36 (n+49) _ _ _ rfl rfl rfl H]
  have hx2 : (0 ≤ x ∧ x < 4294967296) = True := eq_true hx
  have hy2 : (0 ≤ y ∧ y < 4294967296) = True := eq_true hy
  simp -implicitDefEqProofs only [s36, v52, v35, hx2, hy2, aluV_21, tabs_gn, ↓EVdn, EVup, lp_succ, goInt, splice, okC, Fr.of, Fr.ofI, Fr.g, Nat.reduceAdd, Nat.reduceMul, Nat.reduceEqDiff, Nat.reduceLT, Nat.reduceLeDiff, Nat.reduceBEq, Int.reduceLT, Int.reduceLE, Int.reduceToNat, Int.reduceAdd, Int.reduceSub, Int.reduceMul, Int.reduceEq, Int.reduceNeg, ↓reduceIte, ↓reduceDIte, Nat.beq, reduceCtorEq, Value.int.injEq, Nat.reduceSub, flat_int, flat_bool, flat_r2, flat_bt]
theorem v36_22 (n : Nat) (H : Hp) (x y : Int) (hx : 0 ≤ x ∧ x < 4294967296) (hy : 0 ≤ y ∧ y < 4294967296) : evCall cfc (n+50) 36 [.int .i64 22, .int .u32 x, .int .u32 y] H = some (.ret (.tuple #[.int .u32 (aluV 22 x y), .int .i64 0]), H) := by
  rw [q36 (n+49) _ _ _ rfl rfl rfl H]
  have hx2 : (0 ≤ x ∧ x < 4294967296) = True := eq_true hx
  have hy2 : (0 ≤ y ∧ y < 4294967296) = True := eq_true hy
  simp -implicitDefEqProofs only [s36, v52, v35, hx2, hy2, v54_22 (n+9) _ x y hx hy, tabs_gn, ↓EVdn, EVup, lp_succ, goInt, splice, okC, Fr.of, Fr.ofI, Fr.g, Nat.reduceAdd, Nat.reduceMul, Nat.reduceEqDiff, Nat.reduceLT, Nat.reduceLeDiff, Nat.reduceBEq, Int.reduceLT, Int.reduceLE, Int.reduceToNat, Int.reduceAdd, Int.reduceSub, Int.reduceMul, Int.reduceEq, Int.reduceNeg, ↓reduceIte, ↓reduceDIte, Nat.beq, reduceCtorEq, Value.int.injEq, Nat.reduceSub, flat_int, flat_bool, flat_r2, flat_bt]
theorem v36_23 (n : Nat) (H : Hp) (x y : Int) (hx : 0 ≤ x ∧ x < 4294967296) (hy : 0 ≤ y ∧ y < 4294967296) : evCall cfc (n+50) 36 [.int .i64 23, .int .u32 x, .int .u32 y] H = some (.ret (.tuple #[.int .u32 (aluV 23 x y), .int .i64 0]), H) := by
  rw [q36 (n+49) _ _ _ rfl rfl rfl H]
  have hx2 : (0 ≤ x ∧ x < 4294967296) = True := eq_true hx
  have hy2 : (0 ≤ y ∧ y < 4294967296) = True := eq_true hy
  simp -implicitDefEqProofs only [s36, v52, v35, hx2, hy2, v54_23 (n+9) _ x y hx hy, tabs_gn, ↓EVdn, EVup, lp_succ, goInt, splice, okC, Fr.of, Fr.ofI, Fr.g, Nat.reduceAdd, Nat.reduceMul, Nat.reduceEqDiff, Nat.reduceLT, Nat.reduceLeDiff, Nat.reduceBEq, Int.reduceLT, Int.reduceLE, Int.reduceToNat, Int.reduceAdd, Int.reduceSub, Int.reduceMul, Int.reduceEq, Int.reduceNeg, ↓reduceIte, ↓reduceDIte, Nat.beq, reduceCtorEq, Value.int.injEq, Nat.reduceSub, flat_int, flat_bool, flat_r2, flat_bt]
theorem v36_24 (n : Nat) (H : Hp) (x y : Int) (hx : 0 ≤ x ∧ x < 4294967296) (hy : 0 ≤ y ∧ y < 4294967296) : evCall cfc (n+50) 36 [.int .i64 24, .int .u32 x, .int .u32 y] H = some (.ret (.tuple #[.int .u32 (aluV 24 x y), .int .i64 0]), H) := by
  rw [q36 (n+49) _ _ _ rfl rfl rfl H]
  have hx2 : (0 ≤ x ∧ x < 4294967296) = True := eq_true hx
  have hy2 : (0 ≤ y ∧ y < 4294967296) = True := eq_true hy
  simp -implicitDefEqProofs only [s36, v52, v35, hx2, hy2, v54_24 (n+9) _ x y hx hy, tabs_gn, ↓EVdn, EVup, lp_succ, goInt, splice, okC, Fr.of, Fr.ofI, Fr.g, Nat.reduceAdd, Nat.reduceMul, Nat.reduceEqDiff, Nat.reduceLT, Nat.reduceLeDiff, Nat.reduceBEq, Int.reduceLT, Int.reduceLE, Int.reduceToNat, Int.reduceAdd, Int.reduceSub, Int.reduceMul, Int.reduceEq, Int.reduceNeg, ↓reduceIte, ↓reduceDIte, Nat.beq, reduceCtorEq, Value.int.injEq, Nat.reduceSub, flat_int, flat_bool, flat_r2, flat_bt]
theorem v36_25 (n : Nat) (H : Hp) (x y : Int) (hx : 0 ≤ x ∧ x < 4294967296) (hy : 0 ≤ y ∧ y < 4294967296) : evCall cfc (n+50) 36 [.int .i64 25, .int .u32 x, .int .u32 y] H = some (.ret (.tuple #[.int .u32 (aluV 25 x y), .int .i64 0]), H) := by
  rw [q36 (n+49) _ _ _ rfl rfl rfl H]
  have hx2 : (0 ≤ x ∧ x < 4294967296) = True := eq_true hx
  have hy2 : (0 ≤ y ∧ y < 4294967296) = True := eq_true hy
  simp -implicitDefEqProofs only [s36, v52, v35, hx2, hy2, aluV_25, tabs_gn, ↓EVdn, EVup, lp_succ, goInt, splice, okC, Fr.of, Fr.ofI, Fr.g, Nat.reduceAdd, Nat.reduceMul, Nat.reduceEqDiff, Nat.reduceLT, Nat.reduceLeDiff, Nat.reduceBEq, Int.reduceLT, Int.reduceLE, Int.reduceToNat, Int.reduceAdd, Int.reduceSub, Int.reduceMul, Int.reduceEq, Int.reduceNeg, ↓reduceIte, ↓reduceDIte, Nat.beq, reduceCtorEq, Value.int.injEq, Nat.reduceSub, flat_int, flat_bool, flat_r2, flat_bt, v55]
theorem v36_26 (n : Nat) (H : Hp) (x y : Int) (hx : 0 ≤ x ∧ x < 4294967296) (hy : 0 ≤ y ∧ y < 4294967296) : evCall cfc (n+50) 36 [.int .i64 26, .int .u32 x, .int .u32 y] H = some (.ret (.tuple #[.int .u32 (aluV 26 x y), .int .i64 0]), H) := by
  rw [q36 (n+49) _ _ _ rfl rfl rfl H]
  have hx2 : (0 ≤ x ∧ x < 4294967296) = True := eq_true hx
  have hy2 : (0 ≤ y ∧ y < 4294967296) = True := eq_true hy
  simp -implicitDefEqProofs only [s36, v52, v35, hx2, hy2, aluV_26, tabs_gn, ↓EVdn, EVup, lp_succ, goInt, splice, okC, Fr.of, Fr.ofI, Fr.g, Nat.reduceAdd, Nat.reduceMul, Nat.reduceEqDiff, Nat.reduceLT, Nat.reduceLeDiff, Nat.reduceBEq, Int.reduceLT, Int.reduceLE, Int.reduceToNat, Int.reduceAdd, Int.reduceSub, Int.reduceMul, Int.reduceEq, Int.reduceNeg, ↓reduceIte, ↓reduceDIte, Nat.beq, reduceCtorEq, Value.int.injEq, Nat.reduceSub, flat_int, flat_bool, flat_r2, flat_bt, v55]
theorem v36_27 (n : Nat) (H : Hp) (x y : Int) (hx : 0 ≤ x ∧ x < 4294967296) (hy : 0 ≤ y ∧ y < 4294967296) : evCall cfc (n+50) 36 [.int .i64 27, .int .u32 x, .int .u32 y] H = some (.ret (.tuple #[.int .u32 (aluV 27 x y), .int .i64 0]), H) := by
  rw [q36 (n+49) _ _ _ rfl rfl rfl H]
  have hx2 : (0 ≤ x ∧ x < 4294967296) = True := eq_true hx
  have hy2 : (0 ≤ y ∧ y < 4294967296) = True := eq_true hy
  simp -implicitDefEqProofs only [s36, v52, v35, hx2, hy2, aluV_27, tabs_gn, ↓EVdn, EVup, lp_succ, goInt, splice, okC, Fr.of, Fr.ofI, Fr.g, Nat.reduceAdd, Nat.reduceMul, Nat.reduceEqDiff, Nat.reduceLT, Nat.reduceLeDiff, Nat.reduceBEq, Int.reduceLT, Int.reduceLE, Int.reduceToNat, Int.reduceAdd, Int.reduceSub, Int.reduceMul, Int.reduceEq, Int.reduceNeg, ↓reduceIte, ↓reduceDIte, Nat.beq, reduceCtorEq, Value.int.injEq, Nat.reduceSub, flat_int, flat_bool, flat_r2, flat_bt, lui_eq y hy]
theorem v36_0 (n : Nat) (H : Hp) (op x : Int) (ho : op = 6 ∨ op = 7 ∨ op = 8 ∨ op = 9) (hx : 0 ≤ x ∧ x < 4294967296) : evCall cfc (n+50) 36 [.int .i64 op, .int .u32 x, .int .u32 0] H = some (.ret (.tuple #[.int .u32 0, .int .i64 10]), H) := by
  rw [q36 (n+49) _ _ _ rfl rfl rfl H]
  have hx2 : (0 ≤ x ∧ x < 4294967296) = True := eq_true hx
  have hy2 : (0 ≤ (0:Int) ∧ (0:Int) < 4294967296) = True := eq_true (by omega)
  rcases ho with rfl | rfl | rfl | rfl <;> simp -implicitDefEqProofs only [s36, v52, hx2, hy2, tabs_gn, ↓EVdn, EVup, lp_succ, goInt, splice, okC, Fr.of, Fr.ofI, Fr.g, Nat.reduceAdd, Nat.reduceMul, Nat.reduceEqDiff, Nat.reduceLT, Nat.reduceLeDiff, Nat.reduceBEq, Int.reduceLT, Int.reduceLE, Int.reduceToNat, Int.reduceAdd, Int.reduceSub, Int.reduceMul, Int.reduceEq, Int.reduceNeg, ↓reduceIte, ↓reduceDIte, Nat.beq, reduceCtorEq, Value.int.injEq, Nat.reduceSub, flat_int, flat_bool, flat_r2, flat_bt]
end Go.Proofs.YthenglaoolmajaaDoor
