/- The document's floats, by their bits: what its functions on whole numbers come to. -/
import Derived.Test.YthenglaoolmajaaDoorEvBun
import Derived.Test.YthenglaoolmajaaDoorExecF
import Derived.Test.YthenglaoolmajaaDoorRefN
import Derived.Test.YthenglaoolmajaaDoorFlR
namespace Go.Proofs.YthenglaoolmajaaDoor
open Go Go.Ev
set_option maxRecDepth 100000
set_option linter.unusedSimpArgs false
set_option linter.unusedVariables false
set_option maxHeartbeats 4000000
set_option linter.unusedSectionVars false
variable [Xt]
attribute [local congr] bind_front callK_front jn_front ifB_front ifG_front lp_front
theorem q78 (n : Nat) (x0 : Value) (hx0 : flat x0 = true) (H : Hp) : evCall cfc (n+1) 78 [x0] H = floorR H (s78 (evCall cfc n) n x0 Hp.fl) := by
  rw [evCall_quiet (fn := Tryd.f78) (by rfl) Tryd.func78 (by rfl) (by simp [hx0])]
  exact congrArg (floorR H) (s78_eq _ _ _ _)
theorem q79 (n : Nat) (x0 : Value) (hx0 : flat x0 = true) (H : Hp) : evCall cfc (n+1) 79 [x0] H = floorR H (s79 (evCall cfc n) n x0 Hp.fl) := by
  rw [evCall_quiet (fn := Tryd.f79) (by rfl) Tryd.func79 (by rfl) (by simp [hx0])]
  exact congrArg (floorR H) (s79_eq _ _ _ _)
theorem q89 (n : Nat) (x0 : Value) (hx0 : flat x0 = true) (H : Hp) : evCall cfc (n+1) 89 [x0] H = floorR H (s89 (evCall cfc n) n x0 Hp.fl) := by
  rw [evCall_quiet (fn := Tryd.f89) (by rfl) Tryd.func89 (by rfl) (by simp [hx0])]
  exact congrArg (floorR H) (s89_eq _ _ _ _)
theorem q80 (n : Nat) (x0 x1 : Value) (hx0 : flat x0 = true) (hx1 : flat x1 = true) (H : Hp) : evCall cfc (n+1) 80 [x0, x1] H = floorR H (s80 (evCall cfc n) n x0 x1 Hp.fl) := by
  rw [evCall_quiet (fn := Tryd.f80) (by rfl) Tryd.func80 (by rfl) (by simp [hx0, hx1])]
  exact congrArg (floorR H) (s80_eq _ _ _ _ _)
theorem q77 (n : Nat) (x0 x1 x2 : Value) (hx0 : flat x0 = true) (hx1 : flat x1 = true) (hx2 : flat x2 = true) (H : Hp) : evCall cfc (n+1) 77 [x0, x1, x2] H = floorR H (s77 (evCall cfc n) n x0 x1 x2 Hp.fl) := by
  rw [evCall_quiet (fn := Tryd.f77) (by rfl) Tryd.func77 (by rfl) (by simp [hx0, hx1, hx2])]
  exact congrArg (floorR H) (s77_eq _ _ _ _ _ _)
theorem q58 (n : Nat) (x0 x1 x2 : Value) (hx0 : flat x0 = true) (hx1 : flat x1 = true) (hx2 : flat x2 = true) (H : Hp) : evCall cfc (n+1) 58 [x0, x1, x2] H = floorR H (s58 (evCall cfc n) n x0 x1 x2 Hp.fl) := by
  rw [evCall_quiet (fn := Tryd.f58) (by rfl) Tryd.func58 (by rfl) (by simp [hx0, hx1, hx2])]
  exact congrArg (floorR H) (s58_eq _ _ _ _ _ _)
theorem q59 (n : Nat) (x0 : Value) (hx0 : flat x0 = true) (H : Hp) : evCall cfc (n+1) 59 [x0] H = floorR H (s59 (evCall cfc n) n x0 Hp.fl) := by
  rw [evCall_quiet (fn := Tryd.f59) (by rfl) Tryd.func59 (by rfl) (by simp [hx0])]
  exact congrArg (floorR H) (s59_eq _ _ _ _)
theorem q76 (n : Nat) (x0 : Value) (hx0 : flat x0 = true) (H : Hp) : evCall cfc (n+1) 76 [x0] H = floorR H (s76 (evCall cfc n) n x0 Hp.fl) := by
  rw [evCall_quiet (fn := Tryd.f76) (by rfl) Tryd.func76 (by rfl) (by simp [hx0])]
  exact congrArg (floorR H) (s76_eq _ _ _ _)
theorem flat_t2w2 (a b : Int) : flat (.tuple #[.int .u32 a, .int .i64 b]) = true := rfl
theorem u64_e (x : Int) : IntKind.wrap .u64 x = x % 18446744073709551616 := by simp [IntKind.wrap, IntKind.bits, IntKind.signed]
theorem an63 (x : Int) : andNotK .u64 x 9223372036854775808 = x % 9223372036854775808 := by
  have h := andK_mask .u64 x 63 (by decide)
  have e : (2 : Int) ^ 63 - 1 = 9223372036854775807 := by decide
  rw [e, show (2 : Int) ^ 63 = 9223372036854775808 by decide] at h
  rw [← h]
  unfold andNotK andK
  have e2 : ~~~ (BitVec.ofInt IntKind.u64.bits 9223372036854775808) = BitVec.ofInt IntKind.u64.bits 9223372036854775807 := by decide
  rw [e2]
/-- is it a NaN, by its bits? -/
def nanI (x : Int) : Prop := 9218868437227405312 < x % 9223372036854775808
instance (x : Int) : Decidable (nanI x) := by unfold nanI; infer_instance
def zerI (x : Int) : Prop := x % 9223372036854775808 = 0
instance (x : Int) : Decidable (zerI x) := by unfold zerI; infer_instance
def ordV (x : Int) : Int := if 9223372036854775808 ≤ x then -(x % 9223372036854775808) - 1 else x
theorem v78 (n : Nat) (H : Hp) (x : Int) : evCall cfc (n+1) 78 [.int .u64 x] H = some (.ret (.bool (decide (nanI x))), H) := by
  rw [q78 n _ rfl H]
  simp -implicitDefEqProofs only [s78, an63, tabs_gn, ↓EVdn, EVup, lp_succ, goInt, splice, okC, Fr.of, Fr.ofI, Fr.g, Nat.reduceAdd, Nat.reduceMul, Nat.reduceEqDiff, Nat.reduceLT, Nat.reduceLeDiff, Nat.reduceBEq, Int.reduceLT, Int.reduceLE, Int.reduceToNat, Int.reduceAdd, Int.reduceSub, Int.reduceMul, Int.reduceEq, Int.reduceNeg, ↓reduceIte, ↓reduceDIte, Nat.beq, reduceCtorEq, Value.int.injEq, Nat.reduceSub, flat_int, flat_bool, flat_t2w, flat_bt]
  rfl
theorem v79 (n : Nat) (H : Hp) (x : Int) : evCall cfc (n+1) 79 [.int .u64 x] H = some (.ret (.bool (decide (zerI x))), H) := by
  rw [q79 n _ rfl H]
  simp -implicitDefEqProofs only [s79, an63, tabs_gn, ↓EVdn, EVup, lp_succ, goInt, splice, okC, Fr.of, Fr.ofI, Fr.g, Nat.reduceAdd, Nat.reduceMul, Nat.reduceEqDiff, Nat.reduceLT, Nat.reduceLeDiff, Nat.reduceBEq, Int.reduceLT, Int.reduceLE, Int.reduceToNat, Int.reduceAdd, Int.reduceSub, Int.reduceMul, Int.reduceEq, Int.reduceNeg, ↓reduceIte, ↓reduceDIte, Nat.beq, reduceCtorEq, Value.int.injEq, Nat.reduceSub, flat_int, flat_bool, flat_t2w, flat_bt]
  rfl
theorem v89 (n : Nat) (H : Hp) (x : Int) (hx : (0 ≤ x ∧ x < 18446744073709551616) = True) : evCall cfc (n+1) 89 [.int .u64 x] H = some (.ret (.int .i64 (ordV x)), H) := by
  rw [q89 n _ rfl H]
  have hx := of_eq_true hx
  by_cases h : 9223372036854775808 ≤ x
  · have e1 : IntKind.wrap .i64 (x % 9223372036854775808) = x % 9223372036854775808 := IntWalk.i64_in _ (by omega)
    have e2 : IntKind.wrap .i64 (0 - x % 9223372036854775808) = -(x % 9223372036854775808) := by rw [IntWalk.i64_in _ (by omega)]; omega
    have e3 : IntKind.wrap .i64 (-(x % 9223372036854775808) - 1) = ordV x := by rw [ordV, if_pos h]; exact IntWalk.i64_in _ (by omega)
    simp -implicitDefEqProofs only [s89, an63, h, e1, e2, e3, tabs_gn, ↓EVdn, EVup, lp_succ, goInt, splice, okC, Fr.of, Fr.ofI, Fr.g, Nat.reduceAdd, Nat.reduceMul, Nat.reduceEqDiff, Nat.reduceLT, Nat.reduceLeDiff, Nat.reduceBEq, Int.reduceLT, Int.reduceLE, Int.reduceToNat, Int.reduceAdd, Int.reduceSub, Int.reduceMul, Int.reduceEq, Int.reduceNeg, ↓reduceIte, ↓reduceDIte, Nat.beq, reduceCtorEq, Value.int.injEq, Nat.reduceSub, flat_int, flat_bool, flat_t2w, flat_bt]
  · have e1 : IntKind.wrap .i64 x = ordV x := by rw [ordV, if_neg h]; exact IntWalk.i64_in _ (by omega)
    simp -implicitDefEqProofs only [s89, an63, h, e1, tabs_gn, ↓EVdn, EVup, lp_succ, goInt, splice, okC, Fr.of, Fr.ofI, Fr.g, Nat.reduceAdd, Nat.reduceMul, Nat.reduceEqDiff, Nat.reduceLT, Nat.reduceLeDiff, Nat.reduceBEq, Int.reduceLT, Int.reduceLE, Int.reduceToNat, Int.reduceAdd, Int.reduceSub, Int.reduceMul, Int.reduceEq, Int.reduceNeg, ↓reduceIte, ↓reduceDIte, Nat.beq, reduceCtorEq, Value.int.injEq, Nat.reduceSub, flat_int, flat_bool, flat_t2w, flat_bt]
theorem v80 (n : Nat) (H : Hp) (x y : Int) (hx : (0 ≤ x ∧ x < 18446744073709551616) = True) (hy : (0 ≤ y ∧ y < 18446744073709551616) = True) : evCall cfc (n+2) 80 [.int .u64 x, .int .u64 y] H = some (.ret (.bool (decide (¬ (zerI x ∧ zerI y) ∧ ordV x < ordV y))), H) := by
  rw [q80 (n+1) _ _ rfl rfl H]
  by_cases h1 : zerI x <;> by_cases h2 : zerI y <;> by_cases h3 : ordV x < ordV y <;> simp -implicitDefEqProofs only [s80, v79, v89, hx, hy, h1, h2, h3, not_false_eq_true, and_false, false_and, tabs_gn, ↓EVdn, EVup, lp_succ, goInt, splice, okC, Fr.of, Fr.ofI, Fr.g, Nat.reduceAdd, Nat.reduceMul, Nat.reduceEqDiff, Nat.reduceLT, Nat.reduceLeDiff, Nat.reduceBEq, Int.reduceLT, Int.reduceLE, Int.reduceToNat, Int.reduceAdd, Int.reduceSub, Int.reduceMul, Int.reduceEq, Int.reduceNeg, ↓reduceIte, ↓reduceDIte, Nat.beq, reduceCtorEq, Value.int.injEq, Nat.reduceSub, flat_int, flat_bool, flat_t2w, flat_bt]
theorem bb_tt : (true == true) = true := rfl
theorem bb_tf : (true == false) = false := rfl
theorem bb_ft : (false == true) = false := rfl
theorem bb_ff : (false == false) = true := rfl
/-- the lesser, or the greater one -/
def pkV (least : Bool) (a b : Int) : Int := if nanI a ∧ nanI b then 9221120237041090560 else if nanI a then b else if nanI b then a else if least = decide (ordV a < ordV b) then a else b
theorem v77 (n : Nat) (H : Hp) (l : Bool) (x y : Int) (hx : (0 ≤ x ∧ x < 18446744073709551616) = True) (hy : (0 ≤ y ∧ y < 18446744073709551616) = True) : evCall cfc (n+2) 77 [.bool l, .int .u64 x, .int .u64 y] H = some (.ret (.int .u64 (pkV l x y)), H) := by
  rw [q77 (n+1) _ _ _ rfl rfl rfl H]
  by_cases h1 : nanI x <;> by_cases h2 : nanI y <;> by_cases h3 : ordV x < ordV y <;> cases l <;> simp -implicitDefEqProofs only [s77, pkV, v78, v89, hx, hy, h1, h2, h3, not_false_eq_true, and_false, false_and, Bool.false_eq_true, Bool.true_eq_false, bb_tt, bb_tf, bb_ft, bb_ff, tabs_gn, ↓EVdn, EVup, lp_succ, goInt, splice, okC, Fr.of, Fr.ofI, Fr.g, Nat.reduceAdd, Nat.reduceMul, Nat.reduceEqDiff, Nat.reduceLT, Nat.reduceLeDiff, Nat.reduceBEq, Int.reduceLT, Int.reduceLE, Int.reduceToNat, Int.reduceAdd, Int.reduceSub, Int.reduceMul, Int.reduceEq, Int.reduceNeg, ↓reduceIte, ↓reduceDIte, Nat.beq, reduceCtorEq, Value.int.injEq, Nat.reduceSub, flat_int, flat_bool, flat_t2w, flat_bt]
/-- what a comparison comes to, by bits -/
def cmI (op x y : Int) : Int := if nanI x ∨ nanI y then 0 else
  if op = 55 then (if x = y ∨ zerI x ∧ zerI y then 1 else 0) else if op = 56 then (if ¬ (zerI x ∧ zerI y) ∧ ordV x < ordV y then 1 else 0) else (if (x = y ∨ zerI x ∧ zerI y) ∨ ¬ (zerI x ∧ zerI y) ∧ ordV x < ordV y then 1 else 0)
theorem v58_55 (n : Nat) (H : Hp) (x y : Int) (hx : (0 ≤ x ∧ x < 18446744073709551616) = True) (hy : (0 ≤ y ∧ y < 18446744073709551616) = True) : evCall cfc (n+3) 58 [.int .i64 55, .int .u64 x, .int .u64 y] H = some (.ret (.tuple #[.int .u32 (cmI 55 x y), .int .i64 0]), H) := by
  rw [q58 (n+2) _ _ _ rfl rfl rfl H]
  by_cases h3 : x = y
  · subst h3
    have h6 : (ordV x < ordV x) = False := eq_false (Int.lt_irrefl _)
    by_cases h1 : nanI x <;> by_cases h4 : zerI x <;> simp -implicitDefEqProofs only [s58, cmI, v78, v79, v80, hx, hy, h1, h4, h6, not_false_eq_true, and_false, false_and, or_true, true_or, or_false, false_or, tabs_gn, ↓EVdn, EVup, lp_succ, goInt, splice, okC, Fr.of, Fr.ofI, Fr.g, Nat.reduceAdd, Nat.reduceMul, Nat.reduceEqDiff, Nat.reduceLT, Nat.reduceLeDiff, Nat.reduceBEq, Int.reduceLT, Int.reduceLE, Int.reduceToNat, Int.reduceAdd, Int.reduceSub, Int.reduceMul, Int.reduceEq, Int.reduceNeg, ↓reduceIte, ↓reduceDIte, Nat.beq, reduceCtorEq, Value.int.injEq, Nat.reduceSub, flat_int, flat_bool, flat_t2w, flat_bt]
  · by_cases h1 : nanI x <;> by_cases h2 : nanI y <;> by_cases h4 : zerI x <;> by_cases h5 : zerI y <;> by_cases h6 : ordV x < ordV y <;> simp -implicitDefEqProofs only [s58, cmI, v78, v79, v80, hx, hy, h1, h2, h3, h4, h5, h6, not_false_eq_true, and_false, false_and, or_true, true_or, or_false, false_or, tabs_gn, ↓EVdn, EVup, lp_succ, goInt, splice, okC, Fr.of, Fr.ofI, Fr.g, Nat.reduceAdd, Nat.reduceMul, Nat.reduceEqDiff, Nat.reduceLT, Nat.reduceLeDiff, Nat.reduceBEq, Int.reduceLT, Int.reduceLE, Int.reduceToNat, Int.reduceAdd, Int.reduceSub, Int.reduceMul, Int.reduceEq, Int.reduceNeg, ↓reduceIte, ↓reduceDIte, Nat.beq, reduceCtorEq, Value.int.injEq, Nat.reduceSub, flat_int, flat_bool, flat_t2w, flat_bt]
theorem v58_56 (n : Nat) (H : Hp) (x y : Int) (hx : (0 ≤ x ∧ x < 18446744073709551616) = True) (hy : (0 ≤ y ∧ y < 18446744073709551616) = True) : evCall cfc (n+3) 58 [.int .i64 56, .int .u64 x, .int .u64 y] H = some (.ret (.tuple #[.int .u32 (cmI 56 x y), .int .i64 0]), H) := by
  rw [q58 (n+2) _ _ _ rfl rfl rfl H]
  by_cases h3 : x = y
  · subst h3
    have h6 : (ordV x < ordV x) = False := eq_false (Int.lt_irrefl _)
    by_cases h1 : nanI x <;> by_cases h4 : zerI x <;> simp -implicitDefEqProofs only [s58, cmI, v78, v79, v80, hx, hy, h1, h4, h6, not_false_eq_true, and_false, false_and, or_true, true_or, or_false, false_or, tabs_gn, ↓EVdn, EVup, lp_succ, goInt, splice, okC, Fr.of, Fr.ofI, Fr.g, Nat.reduceAdd, Nat.reduceMul, Nat.reduceEqDiff, Nat.reduceLT, Nat.reduceLeDiff, Nat.reduceBEq, Int.reduceLT, Int.reduceLE, Int.reduceToNat, Int.reduceAdd, Int.reduceSub, Int.reduceMul, Int.reduceEq, Int.reduceNeg, ↓reduceIte, ↓reduceDIte, Nat.beq, reduceCtorEq, Value.int.injEq, Nat.reduceSub, flat_int, flat_bool, flat_t2w, flat_bt]
  · by_cases h1 : nanI x <;> by_cases h2 : nanI y <;> by_cases h4 : zerI x <;> by_cases h5 : zerI y <;> by_cases h6 : ordV x < ordV y <;> simp -implicitDefEqProofs only [s58, cmI, v78, v79, v80, hx, hy, h1, h2, h3, h4, h5, h6, not_false_eq_true, and_false, false_and, or_true, true_or, or_false, false_or, tabs_gn, ↓EVdn, EVup, lp_succ, goInt, splice, okC, Fr.of, Fr.ofI, Fr.g, Nat.reduceAdd, Nat.reduceMul, Nat.reduceEqDiff, Nat.reduceLT, Nat.reduceLeDiff, Nat.reduceBEq, Int.reduceLT, Int.reduceLE, Int.reduceToNat, Int.reduceAdd, Int.reduceSub, Int.reduceMul, Int.reduceEq, Int.reduceNeg, ↓reduceIte, ↓reduceDIte, Nat.beq, reduceCtorEq, Value.int.injEq, Nat.reduceSub, flat_int, flat_bool, flat_t2w, flat_bt]
theorem v58_57 (n : Nat) (H : Hp) (x y : Int) (hx : (0 ≤ x ∧ x < 18446744073709551616) = True) (hy : (0 ≤ y ∧ y < 18446744073709551616) = True) : evCall cfc (n+3) 58 [.int .i64 57, .int .u64 x, .int .u64 y] H = some (.ret (.tuple #[.int .u32 (cmI 57 x y), .int .i64 0]), H) := by
  rw [q58 (n+2) _ _ _ rfl rfl rfl H]
  by_cases h3 : x = y
  · subst h3
    have h6 : (ordV x < ordV x) = False := eq_false (Int.lt_irrefl _)
    by_cases h1 : nanI x <;> by_cases h4 : zerI x <;> simp -implicitDefEqProofs only [s58, cmI, v78, v79, v80, hx, hy, h1, h4, h6, not_false_eq_true, and_false, false_and, or_true, true_or, or_false, false_or, tabs_gn, ↓EVdn, EVup, lp_succ, goInt, splice, okC, Fr.of, Fr.ofI, Fr.g, Nat.reduceAdd, Nat.reduceMul, Nat.reduceEqDiff, Nat.reduceLT, Nat.reduceLeDiff, Nat.reduceBEq, Int.reduceLT, Int.reduceLE, Int.reduceToNat, Int.reduceAdd, Int.reduceSub, Int.reduceMul, Int.reduceEq, Int.reduceNeg, ↓reduceIte, ↓reduceDIte, Nat.beq, reduceCtorEq, Value.int.injEq, Nat.reduceSub, flat_int, flat_bool, flat_t2w, flat_bt]
  · by_cases h1 : nanI x <;> by_cases h2 : nanI y <;> by_cases h4 : zerI x <;> by_cases h5 : zerI y <;> by_cases h6 : ordV x < ordV y <;> simp -implicitDefEqProofs only [s58, cmI, v78, v79, v80, hx, hy, h1, h2, h3, h4, h5, h6, not_false_eq_true, and_false, false_and, or_true, true_or, or_false, false_or, tabs_gn, ↓EVdn, EVup, lp_succ, goInt, splice, okC, Fr.of, Fr.ofI, Fr.g, Nat.reduceAdd, Nat.reduceMul, Nat.reduceEqDiff, Nat.reduceLT, Nat.reduceLeDiff, Nat.reduceBEq, Int.reduceLT, Int.reduceLE, Int.reduceToNat, Int.reduceAdd, Int.reduceSub, Int.reduceMul, Int.reduceEq, Int.reduceNeg, ↓reduceIte, ↓reduceDIte, Nat.beq, reduceCtorEq, Value.int.injEq, Nat.reduceSub, flat_int, flat_bool, flat_t2w, flat_bt]
theorem and_pow_zero (m j : Nat) : m &&& 2 ^ j = 0 ↔ m / 2 ^ j % 2 = 0 := by
  have e : m.testBit j = decide (m / 2 ^ j % 2 = 1) := Nat.testBit_eq_decide_div_mod_eq
  constructor
  · intro h
    have h2 := congrArg (fun z => Nat.testBit z j) h
    simp only [Nat.testBit_and, Nat.testBit_two_pow_self, Bool.and_true, Nat.zero_testBit] at h2
    rw [e] at h2
    have := of_decide_eq_false h2
    omega
  · intro h
    apply Nat.eq_of_testBit_eq
    intro i
    rw [Nat.testBit_and, Nat.testBit_two_pow, Nat.zero_testBit]
    by_cases hi : j = i
    · subst hi
      rw [e, decide_eq_false (by omega)]; rfl
    · rw [decide_eq_false hi, Bool.and_false]
theorem wrap_zero (m : Nat) (h : m < 18446744073709551616) : IntKind.u64.wrap (m : Int) = 0 ↔ m = 0 := by rw [u64_e]; omega
theorem and51 (p : Int) (hp : 0 ≤ p ∧ p < 18446744073709551616) : andK .u64 p 2251799813685248 = 0 ↔ p / 2251799813685248 % 2 = 0 := by
  obtain ⟨m, rfl⟩ := Int.eq_ofNat_of_zero_le hp.1
  have hm : m < 2 ^ 64 := by omega
  unfold andK
  have e1 : (BitVec.ofInt IntKind.u64.bits (m : Int) &&& BitVec.ofInt IntKind.u64.bits 2251799813685248).toNat = m &&& 2 ^ 51 := by
    have e2 : (BitVec.ofInt IntKind.u64.bits (m : Int)).toNat = m := ofInt_nat m 64 hm
    rw [BitVec.toNat_and, e2]
    congr 1
  have h2 := and_pow_zero m 51
  have h3 : m &&& 2 ^ 51 ≤ m := Nat.and_le_left
  rw [e1, wrap_zero _ (by omega), h2, show (2 : Nat) ^ 51 = 2251799813685248 by decide]
  omega
theorem e_of (x : Int) (hx : 0 ≤ x ∧ x < 18446744073709551616) : andK .u64 (shrK .u64 x 52) 2047 = x / 4503599627370496 % 2048 := by
  have h := andK_mask .u64 (shrK .u64 x 52) 11 (by decide)
  rw [show (2 : Int) ^ 11 - 1 = 2047 by decide, show (2 : Int) ^ 11 = 2048 by decide] at h
  rw [h]
  unfold shrK
  rw [show (2 : Int) ^ (min 52 IntKind.u64.bits) = 4503599627370496 by decide, Int.fdiv_eq_ediv_of_nonneg _ (by omega)]
theorem r_of (x : Int) : andK .u64 x 4503599627370495 = x % 4503599627370496 := by
  have h := andK_mask .u64 x 52 (by decide)
  rw [show (2 : Int) ^ 52 - 1 = 4503599627370495 by decide, show (2 : Int) ^ 52 = 4503599627370496 by decide] at h
  exact h
theorem s_of (x : Int) (hx : 0 ≤ x ∧ x < 18446744073709551616) : andK .u64 x 9223372036854775808 = 0 ↔ ¬ 9223372036854775808 ≤ x := by
  obtain ⟨m, rfl⟩ := Int.eq_ofNat_of_zero_le hx.1
  have hm : m < 2 ^ 64 := by omega
  unfold andK
  have e1 : (BitVec.ofInt IntKind.u64.bits (m : Int) &&& BitVec.ofInt IntKind.u64.bits 9223372036854775808).toNat = m &&& 2 ^ 63 := by
    have e2 : (BitVec.ofInt IntKind.u64.bits (m : Int)).toNat = m := ofInt_nat m 64 hm
    rw [BitVec.toNat_and, e2]
    congr 1
  have h2 := and_pow_zero m 63
  have h3 : m &&& 2 ^ 63 ≤ m := Nat.and_le_left
  rw [e1, wrap_zero _ (by omega), h2, show (2 : Nat) ^ 63 = 9223372036854775808 by decide]
  omega
/-- the class, as the document finds it -/
def clR (x : Int) : Int :=
  let p := x % 9223372036854775808
  let at_ := fun n : Int => if 9223372036854775808 ≤ x then shlK .u32 1 (7 - n).toNat else shlK .u32 1 n.toNat
  if 9218868437227405312 < p then (if andK .u64 p 2251799813685248 = 0 then 256 else 512) else if p = 9218868437227405312 then at_ 7 else if 4503599627370496 ≤ p then at_ 6 else if 0 < p then at_ 5 else at_ 4
theorem clR_eq (x : Int) (hx : 0 ≤ x ∧ x < 18446744073709551616) : clR x = clV x := by
  unfold clR clV
  simp only [e_of x hx, r_of x]
  have he : x / 4503599627370496 % 2048 = x % 9223372036854775808 / 4503599627370496 := by omega
  have hrr : x % 4503599627370496 = x % 9223372036854775808 % 4503599627370496 := (Int.emod_emod_of_dvd x (by decide)).symm
  rw [he, hrr]
  have hs := s_of x hx
  have h51 := and51 (x % 9223372036854775808) (by omega)
  have hr : shrK .u64 (x % 9223372036854775808 % 4503599627370496) 51 = x % 9223372036854775808 % 4503599627370496 / 2251799813685248 := by
    unfold shrK
    rw [show (2 : Int) ^ (min 51 IntKind.u64.bits) = 2251799813685248 by decide, Int.fdiv_eq_ediv_of_nonneg _ (by omega)]
  rw [hr]
  have hpr : 0 ≤ x % 9223372036854775808 ∧ x % 9223372036854775808 < 9223372036854775808 := by omega
  clear he hrr hr
  generalize x % 9223372036854775808 = p at *
  by_cases hb : 9223372036854775808 ≤ x
  · have hs' : ¬ andK .u64 x 9223372036854775808 = 0 := fun h => (hs.1 h) hb
    simp only [if_pos hb, if_neg hs']
    by_cases h1 : 9218868437227405312 < p
    · rw [if_pos h1, if_pos (show p / 4503599627370496 = 2047 by omega)]
      by_cases h2 : andK .u64 (p) 2251799813685248 = 0
      · have := h51.1 h2
        rw [if_pos h2, if_neg (show ¬ p % 4503599627370496 / 2251799813685248 = 1 by omega), if_neg (show ¬ p % 4503599627370496 = 0 by omega)]
      · have : ¬ p / 2251799813685248 % 2 = 0 := fun h => h2 (h51.2 h)
        rw [if_neg h2, if_pos (show p % 4503599627370496 / 2251799813685248 = 1 by omega)]
    · rw [if_neg h1]
      by_cases h2 : p = 9218868437227405312
      · rw [if_pos h2, if_pos (show p / 4503599627370496 = 2047 by omega), if_neg (show ¬ p % 4503599627370496 / 2251799813685248 = 1 by omega), if_pos (show p % 4503599627370496 = 0 by omega)]; rfl
      · rw [if_neg h2]
        by_cases h3 : 4503599627370496 ≤ p
        · rw [if_pos h3, if_neg (show ¬ p / 4503599627370496 = 2047 by omega), if_neg (show ¬ p / 4503599627370496 = 0 by omega)]; rfl
        · rw [if_neg h3]
          by_cases h4 : 0 < p
          · rw [if_pos h4, if_neg (show ¬ p / 4503599627370496 = 2047 by omega), if_pos (show p / 4503599627370496 = 0 by omega), if_neg (show ¬ p % 4503599627370496 = 0 by omega)]; rfl
          · rw [if_neg h4, if_neg (show ¬ p / 4503599627370496 = 2047 by omega), if_pos (show p / 4503599627370496 = 0 by omega), if_pos (show p % 4503599627370496 = 0 by omega)]; rfl
  · have hs' : andK .u64 x 9223372036854775808 = 0 := hs.2 hb
    simp only [if_neg hb, if_pos hs']
    by_cases h1 : 9218868437227405312 < p
    · rw [if_pos h1, if_pos (show p / 4503599627370496 = 2047 by omega)]
      by_cases h2 : andK .u64 (p) 2251799813685248 = 0
      · have := h51.1 h2
        rw [if_pos h2, if_neg (show ¬ p % 4503599627370496 / 2251799813685248 = 1 by omega), if_neg (show ¬ p % 4503599627370496 = 0 by omega)]
      · have : ¬ p / 2251799813685248 % 2 = 0 := fun h => h2 (h51.2 h)
        rw [if_neg h2, if_pos (show p % 4503599627370496 / 2251799813685248 = 1 by omega)]
    · rw [if_neg h1]
      by_cases h2 : p = 9218868437227405312
      · rw [if_pos h2, if_pos (show p / 4503599627370496 = 2047 by omega), if_neg (show ¬ p % 4503599627370496 / 2251799813685248 = 1 by omega), if_pos (show p % 4503599627370496 = 0 by omega)]; rfl
      · rw [if_neg h2]
        by_cases h3 : 4503599627370496 ≤ p
        · rw [if_pos h3, if_neg (show ¬ p / 4503599627370496 = 2047 by omega), if_neg (show ¬ p / 4503599627370496 = 0 by omega)]; rfl
        · rw [if_neg h3]
          by_cases h4 : 0 < p
          · rw [if_pos h4, if_neg (show ¬ p / 4503599627370496 = 2047 by omega), if_pos (show p / 4503599627370496 = 0 by omega), if_neg (show ¬ p % 4503599627370496 = 0 by omega)]; rfl
          · rw [if_neg h4, if_neg (show ¬ p / 4503599627370496 = 2047 by omega), if_pos (show p / 4503599627370496 = 0 by omega), if_pos (show p % 4503599627370496 = 0 by omega)]; rfl
theorem v59 (n : Nat) (H : Hp) (x : Int) (hx : 0 ≤ x ∧ x < 18446744073709551616) : evCall cfc (n+1) 59 [.int .u64 x] H = some (.ret (.int .u32 (clV x)), H) := by
  rw [q59 n _ rfl H, ← clR_eq x hx]
  obtain ⟨p, hp⟩ : ∃ p, x % 9223372036854775808 = p := ⟨_, rfl⟩
  obtain ⟨g, hg⟩ : ∃ g, andK .u64 p 2251799813685248 = g := ⟨_, rfl⟩
  have hc : clR x = (let at_ := fun n : Int => if 9223372036854775808 ≤ x then shlK .u32 1 (7 - n).toNat else shlK .u32 1 n.toNat
    if 9218868437227405312 < p then (if g = 0 then 256 else 512) else if p = 9218868437227405312 then at_ 7 else if 4503599627370496 ≤ p then at_ 6 else if 0 < p then at_ 5 else at_ 4) := by
    subst hp hg; rfl
  rw [hc]
  by_cases h1 : 9218868437227405312 < p
  · by_cases h2 : g = 0 <;> simp -implicitDefEqProofs only [s59, an63, hp, hg, h1, h2, tabs_gn, ↓EVdn, EVup, lp_succ, goInt, splice, okC, Fr.of, Fr.ofI, Fr.g, Nat.reduceAdd, Nat.reduceMul, Nat.reduceEqDiff, Nat.reduceLT, Nat.reduceLeDiff, Nat.reduceBEq, Int.reduceLT, Int.reduceLE, Int.reduceToNat, Int.reduceAdd, Int.reduceSub, Int.reduceMul, Int.reduceEq, Int.reduceNeg, ↓reduceIte, ↓reduceDIte, Nat.beq, reduceCtorEq, Value.int.injEq, Nat.reduceSub, flat_int, flat_bool, flat_t2w, flat_bt]
  · by_cases h2 : p = 9218868437227405312
    · subst h2
      by_cases h6 : 9223372036854775808 ≤ x <;> simp -implicitDefEqProofs only [s59, an63, hp, hg, h6, tabs_gn, ↓EVdn, EVup, lp_succ, goInt, splice, okC, Fr.of, Fr.ofI, Fr.g, Nat.reduceAdd, Nat.reduceMul, Nat.reduceEqDiff, Nat.reduceLT, Nat.reduceLeDiff, Nat.reduceBEq, Int.reduceLT, Int.reduceLE, Int.reduceToNat, Int.reduceAdd, Int.reduceSub, Int.reduceMul, Int.reduceEq, Int.reduceNeg, ↓reduceIte, ↓reduceDIte, Nat.beq, reduceCtorEq, Value.int.injEq, Nat.reduceSub, flat_int, flat_bool, flat_t2w, flat_bt, wi_0, wi_1, wi_2, wi_3, wi_4, wi_5, wi_6, wi_7]
    · by_cases h3 : 4503599627370496 ≤ p
      · by_cases h6 : 9223372036854775808 ≤ x <;> simp -implicitDefEqProofs only [s59, an63, hp, hg, h1, h2, h3, h6, tabs_gn, ↓EVdn, EVup, lp_succ, goInt, splice, okC, Fr.of, Fr.ofI, Fr.g, Nat.reduceAdd, Nat.reduceMul, Nat.reduceEqDiff, Nat.reduceLT, Nat.reduceLeDiff, Nat.reduceBEq, Int.reduceLT, Int.reduceLE, Int.reduceToNat, Int.reduceAdd, Int.reduceSub, Int.reduceMul, Int.reduceEq, Int.reduceNeg, ↓reduceIte, ↓reduceDIte, Nat.beq, reduceCtorEq, Value.int.injEq, Nat.reduceSub, flat_int, flat_bool, flat_t2w, flat_bt, wi_0, wi_1, wi_2, wi_3, wi_4, wi_5, wi_6, wi_7]
      · by_cases h4 : 0 < p
        · by_cases h6 : 9223372036854775808 ≤ x <;> simp -implicitDefEqProofs only [s59, an63, hp, hg, h1, h2, h3, h4, h6, tabs_gn, ↓EVdn, EVup, lp_succ, goInt, splice, okC, Fr.of, Fr.ofI, Fr.g, Nat.reduceAdd, Nat.reduceMul, Nat.reduceEqDiff, Nat.reduceLT, Nat.reduceLeDiff, Nat.reduceBEq, Int.reduceLT, Int.reduceLE, Int.reduceToNat, Int.reduceAdd, Int.reduceSub, Int.reduceMul, Int.reduceEq, Int.reduceNeg, ↓reduceIte, ↓reduceDIte, Nat.beq, reduceCtorEq, Value.int.injEq, Nat.reduceSub, flat_int, flat_bool, flat_t2w, flat_bt, wi_0, wi_1, wi_2, wi_3, wi_4, wi_5, wi_6, wi_7]
        · by_cases h6 : 9223372036854775808 ≤ x <;> simp -implicitDefEqProofs only [s59, an63, hp, hg, h1, h2, h3, h4, h6, tabs_gn, ↓EVdn, EVup, lp_succ, goInt, splice, okC, Fr.of, Fr.ofI, Fr.g, Nat.reduceAdd, Nat.reduceMul, Nat.reduceEqDiff, Nat.reduceLT, Nat.reduceLeDiff, Nat.reduceBEq, Int.reduceLT, Int.reduceLE, Int.reduceToNat, Int.reduceAdd, Int.reduceSub, Int.reduceMul, Int.reduceEq, Int.reduceNeg, ↓reduceIte, ↓reduceDIte, Nat.beq, reduceCtorEq, Value.int.injEq, Nat.reduceSub, flat_int, flat_bool, flat_t2w, flat_bt, wi_0, wi_1, wi_2, wi_3, wi_4, wi_5, wi_6, wi_7]
theorem lp_step {α : Type} (B : List Value → Hp → (List Value → Hp → Option α) → (Nat → Fr → Hp → Option α) → (Fr → Hp → Option α) → Option α) (n : Nat) (vs vs' : List Value) (H : Hp) (kx : Nat → Fr → Hp → Option α) (kr : Fr → Hp → Option α) (h : ∀ kn, B vs H kn kx kr = kn vs' H) :
    lp B (n + 1) vs H kx kr = lp B n vs' H kx kr := by rw [lp_succ, h]
theorem lp_exit {α : Type} (B : List Value → Hp → (List Value → Hp → Option α) → (Nat → Fr → Hp → Option α) → (Fr → Hp → Option α) → Option α) (n : Nat) (vs : List Value) (j : Nat) (fr : Fr) (H : Hp) (kx : Nat → Fr → Hp → Option α) (kr : Fr → Hp → Option α) (h : ∀ kn, B vs H kn kx kr = kx j fr H) :
    lp B (n + 1) vs H kx kr = kx j fr H := by rw [lp_succ, h]
/-- a number is made normal -/
theorem lp76a {α : Type} (H : Hp) (kx : Nat → Fr → Hp → Option α) (kr : Fr → Hp → Option α) (f : Nat) : ∀ (k : Nat) (e : Int) (m : Nat), 4503599627370496 ≤ m * 2 ^ k → m * 2 ^ k < 9007199254740992 → -1000 ≤ e - k → e ≤ 1000 →
    lp (fun vs7 H8 kn9 kx10 kr11 =>
 (bin 0 .lss (vs7.getD 1 dead) (.int .u64 4503599627370496)).bind fun t31 =>
 ifB t31 ((bin 0 .shl (vs7.getD 1 dead) (.int .u64 1)).bind fun t33 =>
 (bin 0 .sub (vs7.getD 0 dead) (.int .i64 1)).bind fun t35 =>
 kn9 [t35, t33] H8) (kx10 1 (Fr.of [3, 4] [(vs7.getD 0 dead), (vs7.getD 1 dead)]) H8)) (f + k + 1) [.int .i64 e, .int .u64 (m : Int)] H kx kr = kx 1 (Fr.of [3, 4] [.int .i64 (e - k), .int .u64 ((m * 2 ^ k : Nat) : Int)]) H
  | 0, e, m, h1, h2, h3, h4 => by
    have hm : m * 2 ^ 0 = m := by simp
    rw [hm] at h1 h2 ⊢
    have hc : ((m : Int) < 4503599627370496) = False := eq_false (by omega)
    have he : e - ((0 : Nat) : Int) = e := by simp
    rw [he]
    refine lp_exit _ _ _ _ _ _ _ _ fun kn => ?_
    simp -implicitDefEqProofs only [hc, tabs_gn, ↓EVdn, EVup, goInt, splice, okC, Fr.of, Fr.ofI, Fr.g, Nat.reduceAdd, Nat.reduceMul, Nat.reduceEqDiff, Nat.reduceLT, Nat.reduceLeDiff, Nat.reduceBEq, Int.reduceLT, Int.reduceLE, Int.reduceToNat, Int.reduceAdd, Int.reduceSub, Int.reduceMul, Int.reduceEq, Int.reduceNeg, ↓reduceIte, ↓reduceDIte, Nat.beq, reduceCtorEq, Value.int.injEq, Nat.reduceSub, flat_int, flat_bool, flat_t2w, flat_bt]
  | k + 1, e, m, h1, h2, h3, h4 => by
    have hp : 1 ≤ 2 ^ k := Nat.pow_pos (by omega)
    have e2 : m * 2 ^ (k + 1) = (2 * m) * 2 ^ k := by rw [Nat.pow_succ, Nat.mul_comm (2 ^ k) 2, ← Nat.mul_assoc, Nat.mul_comm m 2]
    have h5 : 2 * m * 1 ≤ 2 * m * 2 ^ k := Nat.mul_le_mul_left _ hp
    rw [e2] at h1 h2
    have hc : ((m : Int) < 4503599627370496) = True := eq_true (by omega)
    have ih := lp76a H kx kr f k (e - 1) (2 * m) h1 h2 (by omega) (by omega)
    have ee : IntKind.wrap .i64 (e - 1) = e - 1 := IntWalk.i64_in _ (by omega)
    have em : shlK .u64 (m : Int) 1 = ((2 * m : Nat) : Int) := by
      unfold shlK
      rw [u64_e, show (2 : Int) ^ (min 1 IntKind.u64.bits) = 2 by decide]
      omega
    have ef : f + (k + 1) + 1 = (f + k + 1) + 1 := by omega
    have e3 : e - ((k + 1 : Nat) : Int) = e - 1 - (k : Int) := by omega
    rw [ef, e2, e3, ← ih]
    refine lp_step _ _ _ _ _ _ _ fun kn => ?_
    simp -implicitDefEqProofs only [hc, ee, em, tabs_gn, ↓EVdn, EVup, goInt, splice, okC, Fr.of, Fr.ofI, Fr.g, Nat.reduceAdd, Nat.reduceMul, Nat.reduceEqDiff, Nat.reduceLT, Nat.reduceLeDiff, Nat.reduceBEq, Int.reduceLT, Int.reduceLE, Int.reduceToNat, Int.reduceAdd, Int.reduceSub, Int.reduceMul, Int.reduceEq, Int.reduceNeg, ↓reduceIte, ↓reduceDIte, Nat.beq, reduceCtorEq, Value.int.injEq, Nat.reduceSub, flat_int, flat_bool, flat_t2w, flat_bt]
def rr (k : Nat) : Nat := 2 ^ k / 2
theorem rr_succ (k : Nat) : rr (k + 1) = 2 ^ k := by unfold rr; rw [Nat.pow_succ]; omega
/-- the bits of the root -/
theorem lp76b (H : Hp) (kx : Nat → Fr → Hp → R) (kr : Fr → Hp → R) (f : Nat) (E : Int) (N : Nat) : ∀ (k m q : Nat), m * 2 ^ k = 2 * (N - q * q) → q * q ≤ N → N < (q + 2 ^ k) * (q + 2 ^ k) → q + 2 ^ k ≤ 18014398509481984 →
    lp (fun vs17 H18 kn19 kx20 kr21 =>
 (bin 0 .neq (vs17.getD 4 dead) (.int .u64 0)).bind fun t50 =>
 ifB t50 ((bin 0 .add (vs17.getD 3 dead) (vs17.getD 4 dead)).bind fun t55 =>
 jn ((bin 0 .leq t55 (vs17.getD 1 dead)).bind fun t58 =>
 ifB t58 ((bin 0 .add t55 (vs17.getD 4 dead)).bind fun t61 =>
 (bin 0 .sub (vs17.getD 1 dead) t55).bind fun t64 =>
 (bin 0 .add (vs17.getD 2 dead) (vs17.getD 4 dead)).bind fun t67 =>
 some (.nrm [(vs17.getD 0 dead), t64, t67, t61, (vs17.getD 4 dead)] H18)) (some (.nrm [(vs17.getD 0 dead), (vs17.getD 1 dead), (vs17.getD 2 dead), (vs17.getD 3 dead), (vs17.getD 4 dead)] H18))) pnK noX noR fun vs22 H23 =>
 (bin 0 .shl (vs22.getD 1 dead) (.int .u64 1)).bind fun t69 =>
 (bin 0 .shr (vs22.getD 4 dead) (.int .u64 1)).bind fun t52 =>
 kn19 [(vs22.getD 0 dead), t69, (vs22.getD 2 dead), (vs22.getD 3 dead), t52] H23) (kx20 3 (Fr.of [3, 4, 5] [(vs17.getD 0 dead), (vs17.getD 1 dead), (vs17.getD 2 dead)]) H18)) (f + k + 1) [.int .i64 E, .int .u64 (m : Int), .int .u64 (q : Int), .int .u64 ((2 * q : Nat) : Int), .int .u64 (rr k : Int)] H kx kr = kx 3 (Fr.of [3, 4, 5] [.int .i64 E, .int .u64 ((rootL k m q).1 : Int), .int .u64 ((rootL k m q).2 : Int)]) H
  | 0, m, q, h1, h2, h3, h4 => by
    have hr : ((rr 0 : Nat) : Int) = 0 := rfl
    rw [hr]
    refine lp_exit _ _ _ _ _ _ _ _ fun kn => ?_
    simp -implicitDefEqProofs only [rootL, tabs_gn, ↓EVdn, EVup, goInt, splice, okC, Fr.of, Fr.ofI, Fr.g, Nat.reduceAdd, Nat.reduceMul, Nat.reduceEqDiff, Nat.reduceLT, Nat.reduceLeDiff, Nat.reduceBEq, Int.reduceLT, Int.reduceLE, Int.reduceToNat, Int.reduceAdd, Int.reduceSub, Int.reduceMul, Int.reduceEq, Int.reduceNeg, ↓reduceIte, ↓reduceDIte, Nat.beq, reduceCtorEq, Value.int.injEq, Nat.reduceSub, flat_int, flat_bool, flat_t2w, flat_bt]
  | k + 1, m, q, h1, h2, h3, h4 => by
    have hp : 1 ≤ 2 ^ k := Nat.pow_pos (by omega)
    have hps : 2 ^ (k + 1) = 2 * 2 ^ k := by rw [Nat.pow_succ, Nat.mul_comm]
    have ef : f + (k + 1) + 1 = (f + k + 1) + 1 := by omega
    have e1 : m * 2 ^ k = N - q * q := by
      rw [Nat.pow_succ] at h1
      have : m * (2 ^ k * 2) = 2 * (m * 2 ^ k) := by rw [Nat.mul_comm (2 ^ k) 2, Nat.mul_left_comm]
      omega
    have e2 : (q + 2 ^ k) * (q + 2 ^ k) = q * q + (2 * q + 2 ^ k) * 2 ^ k := by
      rw [Nat.add_mul, Nat.mul_add, Nat.mul_add, Nat.add_mul, Nat.mul_comm (2 ^ k) q, Nat.mul_assoc 2 q]; omega
    have e3 : (q + 2 * 2 ^ k) * (q + 2 * 2 ^ k) = q * q + 4 * (q + 2 ^ k) * 2 ^ k := by
      have a1 : 2 * 2 ^ k * q = 2 * (q * 2 ^ k) := by rw [Nat.mul_assoc, Nat.mul_comm (2 ^ k) q]
      have a2 : q * (2 * 2 ^ k) = 2 * (q * 2 ^ k) := by rw [Nat.mul_left_comm]
      have a3 : 2 * 2 ^ k * (2 * 2 ^ k) = 4 * (2 ^ k * 2 ^ k) := by rw [Nat.mul_assoc, Nat.mul_left_comm (2 ^ k)]; omega
      have a4 : 4 * (q + 2 ^ k) * 2 ^ k = 4 * (q * 2 ^ k) + 4 * (2 ^ k * 2 ^ k) := by rw [Nat.mul_assoc, Nat.add_mul]; omega
      rw [Nat.add_mul, Nat.mul_add, Nat.mul_add, a1, a2, a3, a4]; omega
    have hm : m < 4 * (q + 2 ^ k) := by
      rw [hps, e3] at h3
      have : m * 2 ^ k < 4 * (q + 2 ^ k) * 2 ^ k := by omega
      exact Nat.lt_of_mul_lt_mul_right this
    have er : ((rr (k + 1) : Nat) : Int) = ((2 ^ k : Nat) : Int) := by rw [rr_succ]
    generalize hP : 2 ^ k = P at *
    have hz : ((P : Int) = 0) = False := eq_false (by omega)
    have eT : IntKind.wrap .u64 (((2 * q : Nat) : Int) + (P : Int)) = ((2 * q + P : Nat) : Int) := by rw [u64_e]; omega
    have eS : IntKind.wrap .u64 (((2 * q + P : Nat) : Int) + (P : Int)) = ((2 * (q + P) : Nat) : Int) := by rw [u64_e]; omega
    have eQ : IntKind.wrap .u64 ((q : Int) + (P : Int)) = ((q + P : Nat) : Int) := by rw [u64_e]; omega
    have eR : shrK .u64 (P : Int) 1 = ((rr k : Nat) : Int) := by
      unfold shrK rr
      rw [show (2 : Int) ^ (min 1 IntKind.u64.bits) = 2 by decide, Int.fdiv_eq_ediv_of_nonneg _ (by omega), hP]
      omega
    rw [ef, er]
    by_cases hc : 2 * q + P ≤ m
    · have hc2 : (((2 * q + P : Nat) : Int) ≤ (m : Int)) = True := eq_true (by omega)
      have eM : IntKind.wrap .u64 ((m : Int) - ((2 * q + P : Nat) : Int)) = ((m - (2 * q + P) : Nat) : Int) := by rw [u64_e]; omega
      have eL : shlK .u64 ((m - (2 * q + P) : Nat) : Int) 1 = ((2 * (m - (2 * q + P)) : Nat) : Int) := by
        unfold shlK
        rw [u64_e, show (2 : Int) ^ (min 1 IntKind.u64.bits) = 2 by decide]
        omega
      have h6 : (2 * q + P) * P ≤ m * P := Nat.mul_le_mul_right _ hc
      have e5 : q + P + P = q + 2 * P := by omega
      have ih := lp76b H kx kr f E N k (2 * (m - (2 * q + P))) (q + P) (by rw [hP, Nat.mul_assoc, Nat.sub_mul, e1, e2]; omega) (by omega) (by rw [hP, e5, ← hps]; exact h3) (by rw [hP]; omega)
      have eL2 : rootL (k + 1) m q = rootL k (2 * (m - (2 * q + P))) (q + P) := by rw [rootL, hP, if_pos hc]
      rw [eL2, ← ih]
      refine lp_step _ _ _ _ _ _ _ fun kn => ?_
      simp -implicitDefEqProofs only [hz, eT, eS, eQ, eR, hc2, eM, eL, tabs_gn, ↓EVdn, EVup, goInt, splice, okC, Fr.of, Fr.ofI, Fr.g, Nat.reduceAdd, Nat.reduceMul, Nat.reduceEqDiff, Nat.reduceLT, Nat.reduceLeDiff, Nat.reduceBEq, Int.reduceLT, Int.reduceLE, Int.reduceToNat, Int.reduceAdd, Int.reduceSub, Int.reduceMul, Int.reduceEq, Int.reduceNeg, ↓reduceIte, ↓reduceDIte, Nat.beq, reduceCtorEq, Value.int.injEq, Nat.reduceSub, flat_int, flat_bool, flat_t2w, flat_bt]
    · have hc2 : (((2 * q + P : Nat) : Int) ≤ (m : Int)) = False := eq_false (by omega)
      have eL : shlK .u64 (m : Int) 1 = ((2 * m : Nat) : Int) := by
        unfold shlK
        rw [u64_e, show (2 : Int) ^ (min 1 IntKind.u64.bits) = 2 by decide]
        omega
      have h6 : m * P < (2 * q + P) * P := (Nat.mul_lt_mul_right (by omega)).2 (by omega)
      have ih := lp76b H kx kr f E N k (2 * m) q (by rw [hP, Nat.mul_assoc, e1]) h2 (by rw [hP]; omega) (by rw [hP]; omega)
      have eL2 : rootL (k + 1) m q = rootL k (2 * m) q := by rw [rootL, hP, if_neg hc]
      rw [eL2, ← ih]
      refine lp_step _ _ _ _ _ _ _ fun kn => ?_
      simp -implicitDefEqProofs only [hz, eT, eR, hc2, eL, tabs_gn, ↓EVdn, EVup, goInt, splice, okC, Fr.of, Fr.ofI, Fr.g, Nat.reduceAdd, Nat.reduceMul, Nat.reduceEqDiff, Nat.reduceLT, Nat.reduceLeDiff, Nat.reduceBEq, Int.reduceLT, Int.reduceLE, Int.reduceToNat, Int.reduceAdd, Int.reduceSub, Int.reduceMul, Int.reduceEq, Int.reduceNeg, ↓reduceIte, ↓reduceDIte, Nat.beq, reduceCtorEq, Value.int.injEq, Nat.reduceSub, flat_int, flat_bool, flat_t2w, flat_bt]
theorem nanB_iff (x : Int) (hx : 0 ≤ x ∧ x < 18446744073709551616) : nanB x.toNat ↔ nanI x := by unfold nanB nanI; omega
theorem nanF_iff (x : Int) (hx : 0 ≤ x ∧ x < 18446744073709551616) : nanF x.toNat = decide (nanI x) := by
  unfold nanF
  by_cases h : nanI x
  · rw [order_nan _ _ (Or.inl ((nanB_iff x hx).2 h)), decide_eq_true h]; rfl
  · have h2 : ¬ nanB x.toNat := fun h3 => h ((nanB_iff x hx).1 h3)
    rw [order_key _ _ h2 h2, decide_eq_false h]
    simp [compare, compareOfLessAndEq]
theorem fbits_id (r : Nat) (h : r ≤ 9218868437227405312 ∨ 9223372036854775808 ≤ r ∧ r ≤ 18442240474082181120) : fbits r = (r : Int) := by
  have h2 : nanF ((r : Int)).toNat = decide (nanI (r : Int)) := nanF_iff r (by omega)
  rw [Int.toNat_natCast] at h2
  unfold fbits
  rw [h2, decide_eq_false (by unfold nanI; omega)]
  simp
theorem sq_nan (x : Int) (hx : 0 ≤ x ∧ x < 18446744073709551616) (h : nanI x) : sqF x.toNat = 9221120237041090560 := by
  obtain ⟨s, f, e⟩ := read_nan x.toNat ((nanB_iff x hx).2 h)
  unfold sqF Ieee.Format.sqrt
  rw [e]; rfl
theorem sq_inf : sqF (9218868437227405312 : Int).toNat = 9218868437227405312 := by decide +kernel
theorem sq_zer (x : Int) (hx : 0 ≤ x ∧ x < 18446744073709551616) (h : zerI x) : sqF x.toNat = x := by
  unfold zerI at h
  have : x = 0 ∨ x = 9223372036854775808 := by omega
  rcases this with rfl | rfl <;> decide +kernel
theorem sq_neg (x : Int) (hx : 0 ≤ x ∧ x < 18446744073709551616) (h1 : ¬ nanI x) (h2 : ¬ zerI x) (h3 : 9223372036854775808 ≤ x) : sqF x.toNat = 9221120237041090560 := by
  unfold nanI at h1
  unfold zerI at h2
  unfold sqF Ieee.Format.sqrt
  have hs : (x.toNat / 9223372036854775808 % 2 == 1) = true := by
    have : x.toNat / 9223372036854775808 % 2 = 1 := by omega
    rw [this]; rfl
  by_cases hi : x.toNat % 9223372036854775808 = 9218868437227405312
  · rw [read_inf _ hi, hs]; rfl
  · obtain ⟨m, k, e, hm⟩ := read_num x.toNat (by omega)
    have h0 : 0 < rungV (x.toNat % 9223372036854775808) := by
      have := rungV_lt (show 0 < x.toNat % 9223372036854775808 by omega)
      rw [rungV_zero] at this; exact this
    have hm0 : m ≠ 0 := by rintro rfl; simp at hm; omega
    rw [e, hs]
    simp only [Ieee.Datum.root, if_neg hm0, if_true, Option.map_none]
theorem or52 (y : Int) (h : 0 ≤ y ∧ y < 4503599627370496) : orK .u64 y 4503599627370496 = y + 4503599627370496 := by
  obtain ⟨m, rfl⟩ := Int.eq_ofNat_of_zero_le h.1
  have hm : m < 2 ^ 52 := by omega
  unfold orK
  have e2 : (BitVec.ofInt IntKind.u64.bits (m : Int)).toNat = m := ofInt_nat m 64 (by omega)
  have e1 : (BitVec.ofInt IntKind.u64.bits (m : Int) ||| BitVec.ofInt IntKind.u64.bits 4503599627370496).toNat = 2 ^ 52 + m := by
    have e3 := Nat.two_pow_add_eq_or_of_lt hm 1
    rw [Nat.mul_one] at e3
    rw [BitVec.toNat_or, e2, e3, Nat.or_comm]
    congr 1
  rw [e1, u64_e]
  omega
/-- the root's bits, from the bits that were found -/
theorem sq_main (x : Int) (M N q : Nat) (e E : Int) (k m : Nat) (i : Int) (hr : Ieee.double.read x.toNat = .number false m i) (hm : m * 2 ^ k = M) (hi : e - 52 + k = i)
    (hM : 4503599627370496 ≤ M ∧ M < 9007199254740992) (he : -1074 ≤ e ∧ e ≤ 1023) (hE : E = e / 2) (hN : N = M * 2 ^ (54 + (e % 2).toNat)) (hq1 : q * q ≤ N) (hq2 : N < (q + 1) * (q + 1)) (hq : q < 18014398509481984) :
    IntKind.wrap .u64 (((q / 2 + q % 2 : Nat) : Int) + (((E + 1022).toNat * 4503599627370496 : Nat) : Int)) = sqF x.toNat := by
  unfold sqF
  rw [root_word M N q e E x.toNat k m i hr hm hi hM he hE hN hq1 hq2]
  have hE2 : (E + 1022).toNat ≤ 1533 := by omega
  have h9 : (E + 1022).toNat * 4503599627370496 ≤ 1533 * 4503599627370496 := Nat.mul_le_mul_right _ hE2
  simp only []
  have h10 := Nat.add_le_add h9 (show q / 2 + q % 2 ≤ 9007199254740992 by omega)
  have h11 : (E + 1022).toNat * 4503599627370496 + (q / 2 + q % 2) ≤ 9218868437227405312 := Nat.le_trans h10 (by decide)
  clear h9 h10 hN hr hm hi hE2 hq1 hq2
  generalize (E + 1022).toNat * 4503599627370496 = y at h11 ⊢
  rw [fbits_id _ (Or.inl h11), u64_e]
  omega
theorem qa (q : Nat) : (q : Int) % 2 = ((q % 2 : Nat) : Int) := by omega
theorem qb (q : Nat) (h : q < 18014398509481984) : ((q : Int) + ((q % 2 : Nat) : Int)) % 18446744073709551616 = ((q + q % 2 : Nat) : Int) := by omega
theorem qc (q : Nat) : ((q + q % 2 : Nat) : Int) / 2 = ((q / 2 + q % 2 : Nat) : Int) := by omega
theorem qd (q : Nat) (h : q % 2 = 0) : (q : Int) / 2 = ((q / 2 + q % 2 : Nat) : Int) := by omega
theorem quad (M P : Nat) : 4 * M * P = 2 * (M * (P * 2)) := by
  have h1 : 4 * M * P = 4 * (M * P) := Nat.mul_assoc _ _ _
  have h2 : M * (P * 2) = M * P * 2 := (Nat.mul_assoc _ _ _).symm
  omega
theorem v76 (n : Nat) (H : Hp) (x : Int) (hx : 0 ≤ x ∧ x < 18446744073709551616) : evCall cfc (n+150) 76 [.int .u64 x] H = some (.ret (.int .u64 (sqF x.toNat)), H) := by
  rw [q76 (n+149) _ rfl H]
  by_cases h1 : nanI x
  · have e := sq_nan x hx h1
    simp -implicitDefEqProofs only [s76, v78, v79, h1, e, tabs_gn, ↓EVdn, EVup, goInt, splice, okC, Fr.of, Fr.ofI, Fr.g, Nat.reduceAdd, Nat.reduceMul, Nat.reduceEqDiff, Nat.reduceLT, Nat.reduceLeDiff, Nat.reduceBEq, Int.reduceLT, Int.reduceLE, Int.reduceToNat, Int.reduceAdd, Int.reduceSub, Int.reduceMul, Int.reduceEq, Int.reduceNeg, ↓reduceIte, ↓reduceDIte, Nat.beq, reduceCtorEq, Value.int.injEq, Nat.reduceSub, flat_int, flat_bool, flat_t2w, flat_bt]
  by_cases h2 : zerI x
  · have e := sq_zer x hx h2
    simp -implicitDefEqProofs only [s76, v78, v79, h1, h2, e, tabs_gn, ↓EVdn, EVup, goInt, splice, okC, Fr.of, Fr.ofI, Fr.g, Nat.reduceAdd, Nat.reduceMul, Nat.reduceEqDiff, Nat.reduceLT, Nat.reduceLeDiff, Nat.reduceBEq, Int.reduceLT, Int.reduceLE, Int.reduceToNat, Int.reduceAdd, Int.reduceSub, Int.reduceMul, Int.reduceEq, Int.reduceNeg, ↓reduceIte, ↓reduceDIte, Nat.beq, reduceCtorEq, Value.int.injEq, Nat.reduceSub, flat_int, flat_bool, flat_t2w, flat_bt]
  by_cases h3 : x = 9218868437227405312
  · subst h3
    have e := sq_inf
    simp -implicitDefEqProofs only [s76, v78, v79, h1, h2, tabs_gn, ↓EVdn, EVup, goInt, splice, okC, Fr.of, Fr.ofI, Fr.g, Nat.reduceAdd, Nat.reduceMul, Nat.reduceEqDiff, Nat.reduceLT, Nat.reduceLeDiff, Nat.reduceBEq, Int.reduceLT, Int.reduceLE, Int.reduceToNat, Int.reduceAdd, Int.reduceSub, Int.reduceMul, Int.reduceEq, Int.reduceNeg, ↓reduceIte, ↓reduceDIte, Nat.beq, reduceCtorEq, Value.int.injEq, Nat.reduceSub, flat_int, flat_bool, flat_t2w, flat_bt]
    rw [show (9218868437227405312 : Int).toNat = 9218868437227405312 from rfl] at e
    rw [e]
  by_cases h4 : 9223372036854775808 ≤ x
  · have e := sq_neg x hx h1 h2 h4
    simp -implicitDefEqProofs only [s76, v78, v79, h1, h2, h3, h4, e, tabs_gn, ↓EVdn, EVup, goInt, splice, okC, Fr.of, Fr.ofI, Fr.g, Nat.reduceAdd, Nat.reduceMul, Nat.reduceEqDiff, Nat.reduceLT, Nat.reduceLeDiff, Nat.reduceBEq, Int.reduceLT, Int.reduceLE, Int.reduceToNat, Int.reduceAdd, Int.reduceSub, Int.reduceMul, Int.reduceEq, Int.reduceNeg, ↓reduceIte, ↓reduceDIte, Nat.beq, reduceCtorEq, Value.int.injEq, Nat.reduceSub, flat_int, flat_bool, flat_t2w, flat_bt]
  have hn := h1
  have hz := h2
  unfold nanI at hn
  unfold zerI at hz
  have h24 : shrK .u64 x 52 = x / 4503599627370496 := by
    unfold shrK
    rw [show (2 : Int) ^ (min 52 IntKind.u64.bits) = 4503599627370496 by decide, Int.fdiv_eq_ediv_of_nonneg _ (by omega)]
  have h25 : IntKind.wrap .i64 (x / 4503599627370496) = x / 4503599627370496 := IntWalk.i64_in _ (by omega)
  have hs : (x.toNat / 9223372036854775808 % 2 == 1) = false := by
    have : x.toNat / 9223372036854775808 % 2 = 0 := by omega
    rw [this]; rfl
  -- what is common behind the first step
  have main : ∀ (e0 : Int) (M : Nat) (k m : Nat) (i : Int), Ieee.double.read x.toNat = .number false m i → m * 2 ^ k = M → e0 - 1023 - 52 + k = i → 4503599627370496 ≤ M ∧ M < 9007199254740992 → -51 ≤ e0 ∧ e0 ≤ 2046 →
      ∃ E mf q, IntKind.wrap .i64 (e0 - 1023) = e0 - 1023 ∧ andK .i64 (e0 - 1023) 1 = (e0 - 1023) % 2 ∧ shlK .u64 (M : Int) 1 = ((2 * M : Nat) : Int) ∧ shlK .u64 ((2 * M : Nat) : Int) 1 = ((4 * M : Nat) : Int) ∧ shrK .i64 (e0 - 1023) 1 = E ∧
        (∀ H kx kr, lp (fun vs17 H18 kn19 kx20 kr21 =>
 (bin 0 .neq (vs17.getD 4 dead) (.int .u64 0)).bind fun t50 =>
 ifB t50 ((bin 0 .add (vs17.getD 3 dead) (vs17.getD 4 dead)).bind fun t55 =>
 jn ((bin 0 .leq t55 (vs17.getD 1 dead)).bind fun t58 =>
 ifB t58 ((bin 0 .add t55 (vs17.getD 4 dead)).bind fun t61 =>
 (bin 0 .sub (vs17.getD 1 dead) t55).bind fun t64 =>
 (bin 0 .add (vs17.getD 2 dead) (vs17.getD 4 dead)).bind fun t67 =>
 some (.nrm [(vs17.getD 0 dead), t64, t67, t61, (vs17.getD 4 dead)] H18)) (some (.nrm [(vs17.getD 0 dead), (vs17.getD 1 dead), (vs17.getD 2 dead), (vs17.getD 3 dead), (vs17.getD 4 dead)] H18))) pnK noX noR fun vs22 H23 =>
 (bin 0 .shl (vs22.getD 1 dead) (.int .u64 1)).bind fun t69 =>
 (bin 0 .shr (vs22.getD 4 dead) (.int .u64 1)).bind fun t52 =>
 kn19 [(vs22.getD 0 dead), t69, (vs22.getD 2 dead), (vs22.getD 3 dead), t52] H23) (kx20 3 (Fr.of [3, 4, 5] [(vs17.getD 0 dead), (vs17.getD 1 dead), (vs17.getD 2 dead)]) H18)) (n + 149) [.int .i64 E, .int .u64 ((if (e0 - 1023) % 2 = 0 then 2 * M else 4 * M : Nat) : Int), .int .u64 0, .int .u64 0, .int .u64 9007199254740992] H kx kr = kx 3 (Fr.of [3, 4, 5] [.int .i64 E, .int .u64 (mf : Nat), .int .u64 (q : Nat)]) H) ∧
        andK .u64 (q : Int) 1 = ((q % 2 : Nat) : Int) ∧ IntKind.wrap .u64 ((q : Int) + ((q % 2 : Nat) : Int)) = ((q + q % 2 : Nat) : Int) ∧ shrK .u64 ((q + q % 2 : Nat) : Int) 1 = ((q / 2 + q % 2 : Nat) : Int) ∧ ((mf : Int) = 0 → shrK .u64 (q : Int) 1 = ((q / 2 + q % 2 : Nat) : Int)) ∧
        IntKind.wrap .i64 (E + 1022) = E + 1022 ∧ IntKind.wrap .u64 (E + 1022) = E + 1022 ∧ shlK .u64 (E + 1022) 52 = (((E + 1022).toNat * 4503599627370496 : Nat) : Int) ∧
        IntKind.wrap .u64 (((q / 2 + q % 2 : Nat) : Int) + (((E + 1022).toNat * 4503599627370496 : Nat) : Int)) = sqF x.toNat := by
    intro e0 M k m i hr hm hi hM he
    generalize hd : e0 - 1023 = d at *
    have ht : (d % 2).toNat = 0 ∨ (d % 2).toNat = 1 := by omega
    generalize hN : M * 2 ^ (54 + (d % 2).toNat) = N
    generalize hM2 : (if d % 2 = 0 then 2 * M else 4 * M) = M2
    have hMN : M2 * 2 ^ 54 = 2 * N := by
      rcases ht with h | h
      · rw [if_pos (by omega)] at hM2
        rw [h] at hN
        rw [← hM2, ← hN, Nat.add_zero, Nat.mul_assoc]
      · rw [if_neg (by omega)] at hM2
        rw [h] at hN
        rw [← hM2, ← hN]
        exact quad M (2 ^ 54)
    have hNs : N < (0 + 2 ^ 54) * (0 + 2 ^ 54) := by
      have hM3 : M2 < 36028797018963968 := by split at hM2 <;> omega
      omega
    have sp := rootL_spec N 54 M2 0 (by simpa using hMN) (by omega) hNs
    have lb := fun H kx kr => lp76b H kx kr (n + 94) (d / 2) N 54 M2 0 (by simpa using hMN) (by omega) hNs (by decide)
    generalize hw : rootL 54 M2 0 = w at sp lb
    obtain ⟨mf, q⟩ := w
    obtain ⟨q1, q2, q3⟩ := sp
    simp only at q1 q2 q3 lb
    have hq : q < 18014398509481984 := by
      rcases Nat.lt_or_ge q 18014398509481984 with h | h
      · exact h
      · have := Nat.mul_le_mul h h; omega
    have hN2 : N % 2 = 0 := by omega
    have hmain := sq_main x M N q d (d / 2) k m i hr hm (by omega) hM (by omega) rfl hN.symm q1 q2 hq
    have hq0 : mf = 0 → q * q = N := fun h => by omega
    clear hNs hMN hN q1 q2 q3
    have hmask : ∀ z : Int, andK .u64 z 1 = z % 2 := fun z => andK_mask .u64 z 1 (by decide)
    have sh1 : ∀ z : Int, 0 ≤ z → shrK .u64 z 1 = z / 2 := fun z hz => by
      unfold shrK
      rw [show (2 : Int) ^ (min 1 IntKind.u64.bits) = 2 by decide, Int.fdiv_eq_ediv_of_nonneg _ (by omega)]
    have sl1 : ∀ z : Nat, z < 72057594037927936 → shlK .u64 (z : Int) 1 = ((2 * z : Nat) : Int) := fun z hz => by
      unfold shlK
      rw [u64_e, show (2 : Int) ^ (min 1 IntKind.u64.bits) = 2 by decide]
      omega
    refine ⟨d / 2, mf, q, IntWalk.i64_in _ (by omega), andK_mask .i64 d 1 (by decide), sl1 M (by omega), ?_, ?_, ?_, ?_, ?_, ?_, ?_, ?_, ?_, ?_, ?_⟩
    · rw [sl1 (2 * M) (by omega)]; congr 1; omega
    · unfold shrK
      rw [show (2 : Int) ^ (min 1 IntKind.i64.bits) = 2 by decide, Int.fdiv_eq_ediv_of_nonneg _ (by omega)]
    · intro H kx kr
      exact lb H kx kr
    · rw [hmask]; exact qa q
    · rw [u64_e]; exact qb q hq
    · rw [sh1 _ (Int.natCast_nonneg _)]; exact qc q
    · intro h0
      have hqq : q * q = N := hq0 (by omega)
      have hq2 : q % 2 = 0 := by
        have : q % 2 = 0 ∨ q % 2 = 1 := by omega
        rcases this with h | h
        · exact h
        · rw [← hqq, Nat.mul_mod, h] at hN2; omega
      rw [sh1 _ (Int.natCast_nonneg _)]; exact qd q hq2
    · exact IntWalk.i64_in _ (by omega)
    · rw [u64_e]; omega
    · unfold shlK
      rw [u64_e, show (2 : Int) ^ (min 52 IntKind.u64.bits) = 4503599627370496 by decide]
      omega
    · exact hmain
  by_cases hb : x / 4503599627370496 = 0
  · obtain ⟨m, hm⟩ := Int.eq_ofNat_of_zero_le hx.1
    have hm52 : m < 4503599627370496 := by omega
    have hm0 : m ≠ 0 := by omega
    have hlog : m.log2 ≤ 51 := by
      have := (Nat.log2_lt hm0 (k := 52)).2 (by omega)
      omega
    have hk1 : 2 ^ m.log2 ≤ m := Nat.log2_self_le hm0
    have hk2 : m < 2 ^ (m.log2 + 1) := Nat.lt_log2_self
    have hp : 0 < 2 ^ (52 - m.log2) := Nat.pow_pos (by omega)
    have f1 : (2 : Nat) ^ m.log2 * 2 ^ (52 - m.log2) = 4503599627370496 := by rw [← Nat.pow_add, show m.log2 + (52 - m.log2) = 52 by omega]
    have f2 : (2 : Nat) ^ (m.log2 + 1) * 2 ^ (52 - m.log2) = 9007199254740992 := by rw [← Nat.pow_add, show m.log2 + 1 + (52 - m.log2) = 53 by omega]
    have g1 : 4503599627370496 ≤ m * 2 ^ (52 - m.log2) := by rw [← f1]; exact Nat.mul_le_mul_right _ hk1
    have g2 : m * 2 ^ (52 - m.log2) < 9007199254740992 := by rw [← f2]; exact (Nat.mul_lt_mul_right hp).2 hk2
    generalize hkk : 52 - m.log2 = k at g1 g2
    have hk : k ≤ 52 := by omega
    have la := fun H (kx : Nat → Fr → Hp → Option (JR)) kr => lp76a H kx kr (n + 148 - k) k 1 m g1 g2 (by omega) (by omega)
    rw [show n + 148 - k + k + 1 = n + 149 by omega] at la
    have hread : Ieee.double.read x.toNat = .number false m (-1074) := by
      rw [read_dbl, hs, hm, Int.toNat_natCast, if_pos (by omega)]
      congr 1; omega
    obtain ⟨E, mf, q, e1, e2, e3, e4, e5, e6, e7, e8, e9, e10, e11, e12, e13, e14⟩ := main (1 - k) (m * 2 ^ k) k m (-1074) hread rfl (by omega) ⟨g1, g2⟩ (by omega)
    have hxm : x % 4503599627370496 = (m : Int) := by omega
    have w0 : IntKind.wrap .i64 0 = 0 := by decide
    have la1 := la
    have e61 := e6
    simp only [Fr.of] at la1 e61
    have la2 : ∀ H (kx : Nat → Fr → Hp → Option (JR)) kr, lp (fun vs7 H8 kn9 kx10 kr11 =>
 (bin 0 .lss (vs7.getD 1 dead) (.int .u64 4503599627370496)).bind fun t31 =>
 ifB t31 ((bin 0 .shl (vs7.getD 1 dead) (.int .u64 1)).bind fun t33 =>
 (bin 0 .sub (vs7.getD 0 dead) (.int .i64 1)).bind fun t35 =>
 kn9 [t35, t33] H8) (kx10 1 (Fr.cons 3 (vs7.getD 0 dead) (Fr.cons 4 (vs7.getD 1 dead) Fr.nil)) H8)) (n + 149) [.int .i64 1, .int .u64 (m : Int)] H kx kr = kx 1 (Fr.of [3, 4] [.int .i64 (1 - (k : Int)), .int .u64 ((m * 2 ^ k : Nat) : Int)]) H := la
    have e62 : ∀ H kx kr, lp (fun vs17 H18 kn19 kx20 kr21 =>
 (bin 0 .neq (vs17.getD 4 dead) (.int .u64 0)).bind fun t50 =>
 ifB t50 ((bin 0 .add (vs17.getD 3 dead) (vs17.getD 4 dead)).bind fun t55 =>
 jn ((bin 0 .leq t55 (vs17.getD 1 dead)).bind fun t58 =>
 ifB t58 ((bin 0 .add t55 (vs17.getD 4 dead)).bind fun t61 =>
 (bin 0 .sub (vs17.getD 1 dead) t55).bind fun t64 =>
 (bin 0 .add (vs17.getD 2 dead) (vs17.getD 4 dead)).bind fun t67 =>
 some (.nrm [(vs17.getD 0 dead), t64, t67, t61, (vs17.getD 4 dead)] H18)) (some (.nrm [(vs17.getD 0 dead), (vs17.getD 1 dead), (vs17.getD 2 dead), (vs17.getD 3 dead), (vs17.getD 4 dead)] H18))) pnK noX noR fun vs22 H23 =>
 (bin 0 .shl (vs22.getD 1 dead) (.int .u64 1)).bind fun t69 =>
 (bin 0 .shr (vs22.getD 4 dead) (.int .u64 1)).bind fun t52 =>
 kn19 [(vs22.getD 0 dead), t69, (vs22.getD 2 dead), (vs22.getD 3 dead), t52] H23) (kx20 3 (Fr.cons 3 (vs17.getD 0 dead) (Fr.cons 4 (vs17.getD 1 dead) (Fr.cons 5 (vs17.getD 2 dead) Fr.nil))) H18)) (n + 149) [.int .i64 E, .int .u64 ((if (1 - (k : Int) - 1023) % 2 = 0 then 2 * (m * 2 ^ k) else 4 * (m * 2 ^ k) : Nat) : Int), .int .u64 0, .int .u64 0, .int .u64 9007199254740992] H kx kr = kx 3 (Fr.of [3, 4, 5] [.int .i64 E, .int .u64 (mf : Nat), .int .u64 (q : Nat)]) H := e6
    by_cases hpar : (1 - (k : Int) - 1023) % 2 = 0
    · rw [if_pos hpar] at e6 e61 e62
      by_cases hf : (mf : Int) = 0
      · have e10 := e10 hf
        simp -implicitDefEqProofs only [s76, v78, v79, h1, h2, h3, h4, h24, h25, r_of, hxm, hb, w0, la, la1, la2, e1, e2, hpar, e3, e5, e6, e61, e62, hf, e10, e11, e12, e13, e14, tabs_gn, ↓EVdn, EVup, goInt, splice, okC, Fr.of, Fr.ofI, Fr.g, Nat.reduceAdd, Nat.reduceMul, Nat.reduceEqDiff, Nat.reduceLT, Nat.reduceLeDiff, Nat.reduceBEq, Int.reduceLT, Int.reduceLE, Int.reduceToNat, Int.reduceAdd, Int.reduceSub, Int.reduceMul, Int.reduceEq, Int.reduceNeg, ↓reduceIte, ↓reduceDIte, Nat.beq, reduceCtorEq, Value.int.injEq, Nat.reduceSub, flat_int, flat_bool, flat_t2w, flat_bt]
      · simp -implicitDefEqProofs only [s76, v78, v79, h1, h2, h3, h4, h24, h25, r_of, hxm, hb, w0, la, la1, la2, e1, e2, hpar, e3, e5, e6, e61, e62, hf, e7, e8, e9, e11, e12, e13, e14, tabs_gn, ↓EVdn, EVup, goInt, splice, okC, Fr.of, Fr.ofI, Fr.g, Nat.reduceAdd, Nat.reduceMul, Nat.reduceEqDiff, Nat.reduceLT, Nat.reduceLeDiff, Nat.reduceBEq, Int.reduceLT, Int.reduceLE, Int.reduceToNat, Int.reduceAdd, Int.reduceSub, Int.reduceMul, Int.reduceEq, Int.reduceNeg, ↓reduceIte, ↓reduceDIte, Nat.beq, reduceCtorEq, Value.int.injEq, Nat.reduceSub, flat_int, flat_bool, flat_t2w, flat_bt]
    · rw [if_neg hpar] at e6 e61 e62
      by_cases hf : (mf : Int) = 0
      · have e10 := e10 hf
        simp -implicitDefEqProofs only [s76, v78, v79, h1, h2, h3, h4, h24, h25, r_of, hxm, hb, w0, la, la1, la2, e1, e2, hpar, e3, e4, e5, e6, e61, e62, hf, e10, e11, e12, e13, e14, tabs_gn, ↓EVdn, EVup, goInt, splice, okC, Fr.of, Fr.ofI, Fr.g, Nat.reduceAdd, Nat.reduceMul, Nat.reduceEqDiff, Nat.reduceLT, Nat.reduceLeDiff, Nat.reduceBEq, Int.reduceLT, Int.reduceLE, Int.reduceToNat, Int.reduceAdd, Int.reduceSub, Int.reduceMul, Int.reduceEq, Int.reduceNeg, ↓reduceIte, ↓reduceDIte, Nat.beq, reduceCtorEq, Value.int.injEq, Nat.reduceSub, flat_int, flat_bool, flat_t2w, flat_bt]
      · simp -implicitDefEqProofs only [s76, v78, v79, h1, h2, h3, h4, h24, h25, r_of, hxm, hb, w0, la, la1, la2, e1, e2, hpar, e3, e4, e5, e6, e61, e62, hf, e7, e8, e9, e11, e12, e13, e14, tabs_gn, ↓EVdn, EVup, goInt, splice, okC, Fr.of, Fr.ofI, Fr.g, Nat.reduceAdd, Nat.reduceMul, Nat.reduceEqDiff, Nat.reduceLT, Nat.reduceLeDiff, Nat.reduceBEq, Int.reduceLT, Int.reduceLE, Int.reduceToNat, Int.reduceAdd, Int.reduceSub, Int.reduceMul, Int.reduceEq, Int.reduceNeg, ↓reduceIte, ↓reduceDIte, Nat.beq, reduceCtorEq, Value.int.injEq, Nat.reduceSub, flat_int, flat_bool, flat_t2w, flat_bt]
  · obtain ⟨M, hM⟩ := Int.eq_ofNat_of_zero_le (show 0 ≤ x % 4503599627370496 + 4503599627370496 by omega)
    have h37 : orK .u64 (x % 4503599627370496) 4503599627370496 = (M : Int) := by rw [or52 _ (by omega), hM]
    have hread : Ieee.double.read x.toNat = .number false M (x / 4503599627370496 - 1023 - 52) := by
      rw [read_dbl, hs, if_neg (by omega), if_pos (by omega)]
      congr 1 <;> omega
    obtain ⟨E, mf, q, e1, e2, e3, e4, e5, e6, e7, e8, e9, e10, e11, e12, e13, e14⟩ := main (x / 4503599627370496) M 0 M (x / 4503599627370496 - 1023 - 52) hread (by omega) (by omega) (by omega) (by omega)
    have e61 := e6
    have e62 : ∀ H kx kr, lp (fun vs17 H18 kn19 kx20 kr21 =>
 (bin 0 .neq (vs17.getD 4 dead) (.int .u64 0)).bind fun t50 =>
 ifB t50 ((bin 0 .add (vs17.getD 3 dead) (vs17.getD 4 dead)).bind fun t55 =>
 jn ((bin 0 .leq t55 (vs17.getD 1 dead)).bind fun t58 =>
 ifB t58 ((bin 0 .add t55 (vs17.getD 4 dead)).bind fun t61 =>
 (bin 0 .sub (vs17.getD 1 dead) t55).bind fun t64 =>
 (bin 0 .add (vs17.getD 2 dead) (vs17.getD 4 dead)).bind fun t67 =>
 some (.nrm [(vs17.getD 0 dead), t64, t67, t61, (vs17.getD 4 dead)] H18)) (some (.nrm [(vs17.getD 0 dead), (vs17.getD 1 dead), (vs17.getD 2 dead), (vs17.getD 3 dead), (vs17.getD 4 dead)] H18))) pnK noX noR fun vs22 H23 =>
 (bin 0 .shl (vs22.getD 1 dead) (.int .u64 1)).bind fun t69 =>
 (bin 0 .shr (vs22.getD 4 dead) (.int .u64 1)).bind fun t52 =>
 kn19 [(vs22.getD 0 dead), t69, (vs22.getD 2 dead), (vs22.getD 3 dead), t52] H23) (kx20 3 (Fr.cons 3 (vs17.getD 0 dead) (Fr.cons 4 (vs17.getD 1 dead) (Fr.cons 5 (vs17.getD 2 dead) Fr.nil))) H18)) (n + 149) [.int .i64 E, .int .u64 ((if (x / 4503599627370496 - 1023) % 2 = 0 then 2 * M else 4 * M : Nat) : Int), .int .u64 0, .int .u64 0, .int .u64 9007199254740992] H kx kr = kx 3 (Fr.of [3, 4, 5] [.int .i64 E, .int .u64 (mf : Nat), .int .u64 (q : Nat)]) H := e6
    simp only [Fr.of] at e61
    by_cases hpar : (x / 4503599627370496 - 1023) % 2 = 0
    · rw [if_pos hpar] at e6 e61 e62
      by_cases hf : (mf : Int) = 0
      · have e10 := e10 hf
        simp -implicitDefEqProofs only [s76, v78, v79, h1, h2, h3, h4, h24, h25, r_of, h37, hb, e1, e2, hpar, e3, e5, e6, e61, e62, hf, e10, e11, e12, e13, e14, tabs_gn, ↓EVdn, EVup, goInt, splice, okC, Fr.of, Fr.ofI, Fr.g, Nat.reduceAdd, Nat.reduceMul, Nat.reduceEqDiff, Nat.reduceLT, Nat.reduceLeDiff, Nat.reduceBEq, Int.reduceLT, Int.reduceLE, Int.reduceToNat, Int.reduceAdd, Int.reduceSub, Int.reduceMul, Int.reduceEq, Int.reduceNeg, ↓reduceIte, ↓reduceDIte, Nat.beq, reduceCtorEq, Value.int.injEq, Nat.reduceSub, flat_int, flat_bool, flat_t2w, flat_bt]
      · simp -implicitDefEqProofs only [s76, v78, v79, h1, h2, h3, h4, h24, h25, r_of, h37, hb, e1, e2, hpar, e3, e5, e6, e61, e62, hf, e7, e8, e9, e11, e12, e13, e14, tabs_gn, ↓EVdn, EVup, goInt, splice, okC, Fr.of, Fr.ofI, Fr.g, Nat.reduceAdd, Nat.reduceMul, Nat.reduceEqDiff, Nat.reduceLT, Nat.reduceLeDiff, Nat.reduceBEq, Int.reduceLT, Int.reduceLE, Int.reduceToNat, Int.reduceAdd, Int.reduceSub, Int.reduceMul, Int.reduceEq, Int.reduceNeg, ↓reduceIte, ↓reduceDIte, Nat.beq, reduceCtorEq, Value.int.injEq, Nat.reduceSub, flat_int, flat_bool, flat_t2w, flat_bt]
    · rw [if_neg hpar] at e6 e61 e62
      by_cases hf : (mf : Int) = 0
      · have e10 := e10 hf
        simp -implicitDefEqProofs only [s76, v78, v79, h1, h2, h3, h4, h24, h25, r_of, h37, hb, e1, e2, hpar, e3, e4, e5, e6, e61, e62, hf, e10, e11, e12, e13, e14, tabs_gn, ↓EVdn, EVup, goInt, splice, okC, Fr.of, Fr.ofI, Fr.g, Nat.reduceAdd, Nat.reduceMul, Nat.reduceEqDiff, Nat.reduceLT, Nat.reduceLeDiff, Nat.reduceBEq, Int.reduceLT, Int.reduceLE, Int.reduceToNat, Int.reduceAdd, Int.reduceSub, Int.reduceMul, Int.reduceEq, Int.reduceNeg, ↓reduceIte, ↓reduceDIte, Nat.beq, reduceCtorEq, Value.int.injEq, Nat.reduceSub, flat_int, flat_bool, flat_t2w, flat_bt]
      · simp -implicitDefEqProofs only [s76, v78, v79, h1, h2, h3, h4, h24, h25, r_of, h37, hb, e1, e2, hpar, e3, e4, e5, e6, e61, e62, hf, e7, e8, e9, e11, e12, e13, e14, tabs_gn, ↓EVdn, EVup, goInt, splice, okC, Fr.of, Fr.ofI, Fr.g, Nat.reduceAdd, Nat.reduceMul, Nat.reduceEqDiff, Nat.reduceLT, Nat.reduceLeDiff, Nat.reduceBEq, Int.reduceLT, Int.reduceLE, Int.reduceToNat, Int.reduceAdd, Int.reduceSub, Int.reduceMul, Int.reduceEq, Int.reduceNeg, ↓reduceIte, ↓reduceDIte, Nat.beq, reduceCtorEq, Value.int.injEq, Nat.reduceSub, flat_int, flat_bool, flat_t2w, flat_bt]
end Go.Proofs.YthenglaoolmajaaDoor
