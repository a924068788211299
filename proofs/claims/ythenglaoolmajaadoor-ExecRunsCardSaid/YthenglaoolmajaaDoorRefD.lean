/- The document's doing of an instruction: the parts. -/
import Derived.Test.YthenglaoolmajaaDoorEvBun
import Derived.Test.YthenglaoolmajaaDoorRefA
import Derived.Test.YthenglaoolmajaaDoorRefF
import Derived.Test.YthenglaoolmajaaDoorCodeC
namespace Go.Proofs.YthenglaoolmajaaDoor
open Go Go.Ev
set_option maxRecDepth 100000
set_option linter.unusedSimpArgs false
set_option linter.unusedVariables false
set_option maxHeartbeats 4000000
set_option linter.unusedSectionVars false
variable [Xt]
attribute [local congr] bind_front callK_front jn_front ifB_front ifG_front lp_front
theorem q42 (n : Nat) (x0 : Value) (hx0 : flat x0 = true) (H : Hp) : evCall cfc (n+1) 42 [x0] H = floorR H (s42 (evCall cfc n) n x0 Hp.fl) := by
  rw [evCall_quiet (fn := Tryd.f42) (by rfl) Tryd.func42 (by rfl) (by simp [hx0])]
  exact congrArg (floorR H) (s42_eq _ _ _ _)
theorem q23 (n : Nat) (x0 x1 : Value) (hx0 : flat x0 = true) (hx1 : flat x1 = true) (H : Hp) : evCall cfc (n+1) 23 [x0, x1] H = floorR H (s23 (evCall cfc n) n x0 x1 Hp.fl) := by
  rw [evCall_quiet (fn := Tryd.f23) (by rfl) Tryd.func23 (by rfl) (by simp [hx0, hx1])]
  exact congrArg (floorR H) (s23_eq _ _ _ _ _)
theorem q37 (n : Nat) (x0 x1 x2 x3 : Value) (hx0 : flat x0 = true) (hx1 : flat x1 = true) (hx2 : flat x2 = true) (hx3 : flat x3 = true) (H : Hp) : evCall cfc (n+1) 37 [x0, x1, x2, x3] H = floorR H (s37 (evCall cfc n) n x0 x1 x2 x3 Hp.fl) := by
  rw [evCall_quiet (fn := Tryd.f37) (by rfl) Tryd.func37 (by rfl) (by simp [hx0, hx1, hx2, hx3])]
  exact congrArg (floorR H) (s37_eq _ _ _ _ _ _ _)
theorem q40 (n : Nat) (x0 x1 : Value) (hx0 : flat x0 = true) (hx1 : flat x1 = true) (H : Hp) : evCall cfc (n+1) 40 [x0, x1] H = floorR H (s40 (evCall cfc n) n x0 x1 Hp.fl) := by
  rw [evCall_quiet (fn := Tryd.f40) (by rfl) Tryd.func40 (by rfl) (by simp [hx0, hx1])]
  exact congrArg (floorR H) (s40_eq _ _ _ _ _)
theorem q21 (n : Nat) (x0 x1 x2 : Value) (hx0 : flat x0 = true) (hx1 : flat x1 = true) (hx2 : flat x2 = true) (H : Hp) : evCall cfc (n+1) 21 [x0, x1, x2] H = floorR H (s21 (evCall cfc n) n x0 x1 x2 Hp.fl) := by
  rw [evCall_quiet (fn := Tryd.f21) (by rfl) Tryd.func21 (by rfl) (by simp [hx0, hx1, hx2])]
  exact congrArg (floorR H) (s21_eq _ _ _ _ _ _)
theorem v42 (n : Nat) (H : Hp) (op : Int) (h : 0 ≤ op ∧ op < 72) : evCall cfc (n+2) 42 [.int .i64 op] H = some (.ret (.int .i64 (sizeV op)), H) := by
  rw [q42 (n+1) _ rfl H]
  exact okR_range (F := fun op => s42 (evCall cfc (n+1)) (n+1) (.int .i64 op) Hp.fl) (T := fun op => .int .i64 (sizeV op)) 72 (by kernel_rfl) op h H
theorem sh16 : shlK .i64 1 16 = 65536 := by decide
theorem sh8 : shlK .i64 1 8 = 256 := by decide
theorem hf16 : IntKind.wrap .i64 (Int.tdiv 65536 2) = 32768 := by decide
theorem hf8 : IntKind.wrap .i64 (Int.tdiv 256 2) = 128 := by decide
theorem shl_u (x : Int) (k : Nat) (hk : k ≤ 32) : shlK .u32 x k = (x * 2 ^ k) % 4294967296 := by
  unfold shlK
  rw [IntKind.wrap_u32, Nat.min_eq_left (show k ≤ IntKind.u32.bits by simpa [IntKind.bits] using hk)]
theorem shr_u (x : Int) (k : Nat) (hk : k ≤ 32) : shrK .u32 x k = x / (2 ^ k) := by
  unfold shrK
  rw [Nat.min_eq_left (show k ≤ IntKind.u32.bits by simpa [IntKind.bits] using hk), Int.fdiv_eq_ediv_of_nonneg _ (Int.le_of_lt (Int.pow_pos (by omega)))]
theorem shr_i (x : Int) (k : Nat) (hk : k ≤ 32) : shrK .i32 x k = x / (2 ^ k) := by
  unfold shrK
  rw [Nat.min_eq_left (show k ≤ IntKind.i32.bits by simpa [IntKind.bits] using hk), Int.fdiv_eq_ediv_of_nonneg _ (Int.le_of_lt (Int.pow_pos (by omega)))]
theorem ext16f (x : Int) (h : 0 ≤ x ∧ x < 4294967296) : IntKind.wrap .u32 (x % 65536) = shrK .u32 (shlK .u32 x 16) 16 := by
  rw [shr_u _ _ (by omega), shl_u _ _ (by omega), IntKind.wrap_u32]
  omega
theorem ext16t (x : Int) (h : 0 ≤ x ∧ x < 4294967296) : (32768 ≤ x % 65536 → IntKind.wrap .u32 (IntKind.wrap .i64 (x % 65536 - 65536)) = IntKind.wrap .u32 (shrK .i32 (IntKind.wrap .i32 (shlK .u32 x 16)) 16)) ∧ (¬ 32768 ≤ x % 65536 → IntKind.wrap .u32 (x % 65536) = IntKind.wrap .u32 (shrK .i32 (IntKind.wrap .i32 (shlK .u32 x 16)) 16)) := by
  rw [shr_i _ _ (by omega), shl_u _ _ (by omega), IntKind.wrap_u32, IntKind.wrap_u32, IntKind.wrap_u32, IntKind.wrap_i32]
  refine ⟨fun h2 => ?_, fun h2 => ?_⟩
  · rw [IntWalk.i64_in _ (by omega)]
    omega
  · omega
theorem v56_16f (n : Nat) (H : Hp) (x : Int) (h : (0 ≤ x ∧ x < 4294967296) = True) : evCall cfc (n+2) 56 [.int .u32 x, .int .i64 16, .bool false] H = some (.ret (.int .u32 (shrK .u32 (shlK .u32 x 16) 16)), H) := by
  rw [q56 (n+1) _ _ _ rfl rfl rfl H]
  have h := of_eq_true h
  have ex : IntKind.wrap .i64 x = x := IntWalk.i64_in _ (by omega)
  have em : x.tmod 65536 = x % 65536 := Int.tmod_eq_emod_of_nonneg h.1
  have ee := ext16f x h
  simp -implicitDefEqProofs only [s56, v35, sh16, hf16, ex, em, ee, tabs_gn, ↓EVdn, EVup, lp_succ, goInt, splice, okC, Fr.of, Fr.ofI, Fr.g, Nat.reduceAdd, Nat.reduceMul, Nat.reduceEqDiff, Nat.reduceLT, Nat.reduceLeDiff, Nat.reduceBEq, Int.reduceLT, Int.reduceLE, Int.reduceToNat, Int.reduceAdd, Int.reduceSub, Int.reduceMul, Int.reduceEq, Int.reduceNeg, ↓reduceIte, ↓reduceDIte, Nat.beq, reduceCtorEq, Value.int.injEq, Nat.reduceSub, flat_int, flat_bool, flat_t2w, flat_bt, flat_done, regs_flat, flat_i5, flat_need, upd_upd, decide_true]
theorem v56_16t (n : Nat) (H : Hp) (x : Int) (h : (0 ≤ x ∧ x < 4294967296) = True) : evCall cfc (n+2) 56 [.int .u32 x, .int .i64 16, .bool true] H = some (.ret (.int .u32 (IntKind.wrap .u32 (shrK .i32 (IntKind.wrap .i32 (shlK .u32 x 16)) 16))), H) := by
  rw [q56 (n+1) _ _ _ rfl rfl rfl H]
  have h := of_eq_true h
  have ex : IntKind.wrap .i64 x = x := IntWalk.i64_in _ (by omega)
  have em : x.tmod 65536 = x % 65536 := Int.tmod_eq_emod_of_nonneg h.1
  obtain ⟨e1, e2⟩ := ext16t x h
  by_cases hc : 32768 ≤ x % 65536
  · have e := e1 hc
    simp -implicitDefEqProofs only [s56, v35, sh16, hf16, ex, em, hc, e, tabs_gn, ↓EVdn, EVup, lp_succ, goInt, splice, okC, Fr.of, Fr.ofI, Fr.g, Nat.reduceAdd, Nat.reduceMul, Nat.reduceEqDiff, Nat.reduceLT, Nat.reduceLeDiff, Nat.reduceBEq, Int.reduceLT, Int.reduceLE, Int.reduceToNat, Int.reduceAdd, Int.reduceSub, Int.reduceMul, Int.reduceEq, Int.reduceNeg, ↓reduceIte, ↓reduceDIte, Nat.beq, reduceCtorEq, Value.int.injEq, Nat.reduceSub, flat_int, flat_bool, flat_t2w, flat_bt, flat_done, regs_flat, flat_i5, flat_need, upd_upd, decide_true]
  · have e := e2 hc
    simp -implicitDefEqProofs only [s56, v35, sh16, hf16, ex, em, hc, e, tabs_gn, ↓EVdn, EVup, lp_succ, goInt, splice, okC, Fr.of, Fr.ofI, Fr.g, Nat.reduceAdd, Nat.reduceMul, Nat.reduceEqDiff, Nat.reduceLT, Nat.reduceLeDiff, Nat.reduceBEq, Int.reduceLT, Int.reduceLE, Int.reduceToNat, Int.reduceAdd, Int.reduceSub, Int.reduceMul, Int.reduceEq, Int.reduceNeg, ↓reduceIte, ↓reduceDIte, Nat.beq, reduceCtorEq, Value.int.injEq, Nat.reduceSub, flat_int, flat_bool, flat_t2w, flat_bt, flat_done, regs_flat, flat_i5, flat_need, upd_upd, decide_true]
theorem ext8f (x : Int) (h : 0 ≤ x ∧ x < 4294967296) : IntKind.wrap .u32 (x % 256) = shrK .u32 (shlK .u32 x 24) 24 := by
  rw [shr_u _ _ (by omega), shl_u _ _ (by omega), IntKind.wrap_u32]
  omega
theorem ext8t (x : Int) (h : 0 ≤ x ∧ x < 4294967296) : (128 ≤ x % 256 → IntKind.wrap .u32 (IntKind.wrap .i64 (x % 256 - 256)) = IntKind.wrap .u32 (shrK .i32 (IntKind.wrap .i32 (shlK .u32 x 24)) 24)) ∧ (¬ 128 ≤ x % 256 → IntKind.wrap .u32 (x % 256) = IntKind.wrap .u32 (shrK .i32 (IntKind.wrap .i32 (shlK .u32 x 24)) 24)) := by
  rw [shr_i _ _ (by omega), shl_u _ _ (by omega), IntKind.wrap_u32, IntKind.wrap_u32, IntKind.wrap_u32, IntKind.wrap_i32]
  refine ⟨fun h2 => ?_, fun h2 => ?_⟩
  · rw [IntWalk.i64_in _ (by omega)]
    omega
  · omega
theorem v56_8f (n : Nat) (H : Hp) (x : Int) (h : (0 ≤ x ∧ x < 4294967296) = True) : evCall cfc (n+2) 56 [.int .u32 x, .int .i64 8, .bool false] H = some (.ret (.int .u32 (shrK .u32 (shlK .u32 x 24) 24)), H) := by
  rw [q56 (n+1) _ _ _ rfl rfl rfl H]
  have h := of_eq_true h
  have ex : IntKind.wrap .i64 x = x := IntWalk.i64_in _ (by omega)
  have em : x.tmod 256 = x % 256 := Int.tmod_eq_emod_of_nonneg h.1
  have ee := ext8f x h
  simp -implicitDefEqProofs only [s56, v35, sh8, hf8, ex, em, ee, tabs_gn, ↓EVdn, EVup, lp_succ, goInt, splice, okC, Fr.of, Fr.ofI, Fr.g, Nat.reduceAdd, Nat.reduceMul, Nat.reduceEqDiff, Nat.reduceLT, Nat.reduceLeDiff, Nat.reduceBEq, Int.reduceLT, Int.reduceLE, Int.reduceToNat, Int.reduceAdd, Int.reduceSub, Int.reduceMul, Int.reduceEq, Int.reduceNeg, ↓reduceIte, ↓reduceDIte, Nat.beq, reduceCtorEq, Value.int.injEq, Nat.reduceSub, flat_int, flat_bool, flat_t2w, flat_bt, flat_done, regs_flat, flat_i5, flat_need, upd_upd, decide_true]
theorem v56_8t (n : Nat) (H : Hp) (x : Int) (h : (0 ≤ x ∧ x < 4294967296) = True) : evCall cfc (n+2) 56 [.int .u32 x, .int .i64 8, .bool true] H = some (.ret (.int .u32 (IntKind.wrap .u32 (shrK .i32 (IntKind.wrap .i32 (shlK .u32 x 24)) 24))), H) := by
  rw [q56 (n+1) _ _ _ rfl rfl rfl H]
  have h := of_eq_true h
  have ex : IntKind.wrap .i64 x = x := IntWalk.i64_in _ (by omega)
  have em : x.tmod 256 = x % 256 := Int.tmod_eq_emod_of_nonneg h.1
  obtain ⟨e1, e2⟩ := ext8t x h
  by_cases hc : 128 ≤ x % 256
  · have e := e1 hc
    simp -implicitDefEqProofs only [s56, v35, sh8, hf8, ex, em, hc, e, tabs_gn, ↓EVdn, EVup, lp_succ, goInt, splice, okC, Fr.of, Fr.ofI, Fr.g, Nat.reduceAdd, Nat.reduceMul, Nat.reduceEqDiff, Nat.reduceLT, Nat.reduceLeDiff, Nat.reduceBEq, Int.reduceLT, Int.reduceLE, Int.reduceToNat, Int.reduceAdd, Int.reduceSub, Int.reduceMul, Int.reduceEq, Int.reduceNeg, ↓reduceIte, ↓reduceDIte, Nat.beq, reduceCtorEq, Value.int.injEq, Nat.reduceSub, flat_int, flat_bool, flat_t2w, flat_bt, flat_done, regs_flat, flat_i5, flat_need, upd_upd, decide_true]
  · have e := e2 hc
    simp -implicitDefEqProofs only [s56, v35, sh8, hf8, ex, em, hc, e, tabs_gn, ↓EVdn, EVup, lp_succ, goInt, splice, okC, Fr.of, Fr.ofI, Fr.g, Nat.reduceAdd, Nat.reduceMul, Nat.reduceEqDiff, Nat.reduceLT, Nat.reduceLeDiff, Nat.reduceBEq, Int.reduceLT, Int.reduceLE, Int.reduceToNat, Int.reduceAdd, Int.reduceSub, Int.reduceMul, Int.reduceEq, Int.reduceNeg, ↓reduceIte, ↓reduceDIte, Nat.beq, reduceCtorEq, Value.int.injEq, Nat.reduceSub, flat_int, flat_bool, flat_t2w, flat_bt, flat_done, regs_flat, flat_i5, flat_need, upd_upd, decide_true]
theorem wu32_in (x : Int) : (0 ≤ IntKind.wrap .u32 x ∧ IntKind.wrap .u32 x < 4294967296) = True := eq_true (wrap_u32_range x)
theorem v38_28 (n : Nat) (H : Hp) (ld : Int) : evCall cfc (n+3) 38 [.int .i64 28, .int .u64 ld] H = some (.ret (.int .u32 (IntKind.wrap .u32 ld)), H) := by
  rw [q38 (n+2) _ _ rfl rfl H]
  simp -implicitDefEqProofs only [s38, v56_16t, v56_16f, v56_8t, v56_8f, wu32_in, tabs_gn, ↓EVdn, EVup, lp_succ, goInt, splice, okC, Fr.of, Fr.ofI, Fr.g, Nat.reduceAdd, Nat.reduceMul, Nat.reduceEqDiff, Nat.reduceLT, Nat.reduceLeDiff, Nat.reduceBEq, Int.reduceLT, Int.reduceLE, Int.reduceToNat, Int.reduceAdd, Int.reduceSub, Int.reduceMul, Int.reduceEq, Int.reduceNeg, ↓reduceIte, ↓reduceDIte, Nat.beq, reduceCtorEq, Value.int.injEq, Nat.reduceSub, flat_int, flat_bool, flat_t2w, flat_bt, flat_done, regs_flat, flat_i5, flat_need, upd_upd, decide_true]
theorem v38_29 (n : Nat) (H : Hp) (ld : Int) : evCall cfc (n+3) 38 [.int .i64 29, .int .u64 ld] H = some (.ret (.int .u32 (IntKind.wrap .u32 (shrK .i32 (IntKind.wrap .i32 (shlK .u32 (IntKind.wrap .u32 ld) 16)) 16))), H) := by
  rw [q38 (n+2) _ _ rfl rfl H]
  simp -implicitDefEqProofs only [s38, v56_16t, v56_16f, v56_8t, v56_8f, wu32_in, tabs_gn, ↓EVdn, EVup, lp_succ, goInt, splice, okC, Fr.of, Fr.ofI, Fr.g, Nat.reduceAdd, Nat.reduceMul, Nat.reduceEqDiff, Nat.reduceLT, Nat.reduceLeDiff, Nat.reduceBEq, Int.reduceLT, Int.reduceLE, Int.reduceToNat, Int.reduceAdd, Int.reduceSub, Int.reduceMul, Int.reduceEq, Int.reduceNeg, ↓reduceIte, ↓reduceDIte, Nat.beq, reduceCtorEq, Value.int.injEq, Nat.reduceSub, flat_int, flat_bool, flat_t2w, flat_bt, flat_done, regs_flat, flat_i5, flat_need, upd_upd, decide_true]
theorem v38_30 (n : Nat) (H : Hp) (ld : Int) : evCall cfc (n+3) 38 [.int .i64 30, .int .u64 ld] H = some (.ret (.int .u32 (shrK .u32 (shlK .u32 (IntKind.wrap .u32 ld) 16) 16)), H) := by
  rw [q38 (n+2) _ _ rfl rfl H]
  simp -implicitDefEqProofs only [s38, v56_16t, v56_16f, v56_8t, v56_8f, wu32_in, tabs_gn, ↓EVdn, EVup, lp_succ, goInt, splice, okC, Fr.of, Fr.ofI, Fr.g, Nat.reduceAdd, Nat.reduceMul, Nat.reduceEqDiff, Nat.reduceLT, Nat.reduceLeDiff, Nat.reduceBEq, Int.reduceLT, Int.reduceLE, Int.reduceToNat, Int.reduceAdd, Int.reduceSub, Int.reduceMul, Int.reduceEq, Int.reduceNeg, ↓reduceIte, ↓reduceDIte, Nat.beq, reduceCtorEq, Value.int.injEq, Nat.reduceSub, flat_int, flat_bool, flat_t2w, flat_bt, flat_done, regs_flat, flat_i5, flat_need, upd_upd, decide_true]
theorem v38_31 (n : Nat) (H : Hp) (ld : Int) : evCall cfc (n+3) 38 [.int .i64 31, .int .u64 ld] H = some (.ret (.int .u32 (IntKind.wrap .u32 (shrK .i32 (IntKind.wrap .i32 (shlK .u32 (IntKind.wrap .u32 ld) 24)) 24))), H) := by
  rw [q38 (n+2) _ _ rfl rfl H]
  simp -implicitDefEqProofs only [s38, v56_16t, v56_16f, v56_8t, v56_8f, wu32_in, tabs_gn, ↓EVdn, EVup, lp_succ, goInt, splice, okC, Fr.of, Fr.ofI, Fr.g, Nat.reduceAdd, Nat.reduceMul, Nat.reduceEqDiff, Nat.reduceLT, Nat.reduceLeDiff, Nat.reduceBEq, Int.reduceLT, Int.reduceLE, Int.reduceToNat, Int.reduceAdd, Int.reduceSub, Int.reduceMul, Int.reduceEq, Int.reduceNeg, ↓reduceIte, ↓reduceDIte, Nat.beq, reduceCtorEq, Value.int.injEq, Nat.reduceSub, flat_int, flat_bool, flat_t2w, flat_bt, flat_done, regs_flat, flat_i5, flat_need, upd_upd, decide_true]
theorem v38_32 (n : Nat) (H : Hp) (ld : Int) : evCall cfc (n+3) 38 [.int .i64 32, .int .u64 ld] H = some (.ret (.int .u32 (shrK .u32 (shlK .u32 (IntKind.wrap .u32 ld) 24) 24)), H) := by
  rw [q38 (n+2) _ _ rfl rfl H]
  simp -implicitDefEqProofs only [s38, v56_16t, v56_16f, v56_8t, v56_8f, wu32_in, tabs_gn, ↓EVdn, EVup, lp_succ, goInt, splice, okC, Fr.of, Fr.ofI, Fr.g, Nat.reduceAdd, Nat.reduceMul, Nat.reduceEqDiff, Nat.reduceLT, Nat.reduceLeDiff, Nat.reduceBEq, Int.reduceLT, Int.reduceLE, Int.reduceToNat, Int.reduceAdd, Int.reduceSub, Int.reduceMul, Int.reduceEq, Int.reduceNeg, ↓reduceIte, ↓reduceDIte, Nat.beq, reduceCtorEq, Value.int.injEq, Nat.reduceSub, flat_int, flat_bool, flat_t2w, flat_bt, flat_done, regs_flat, flat_i5, flat_need, upd_upd, decide_true]
theorem v39_38 (n : Nat) (H : Hp) (x y : Int) (hx : (0 ≤ x ∧ x < 4294967296) = True) (hy : (0 ≤ y ∧ y < 4294967296) = True) : evCall cfc (n+3) 39 [.int .i64 38, .int .u32 x, .int .u32 y] H = some (.ret (.tuple #[.bool (decide (x = y)), .int .i64 0]), H) := by
  rw [q39 (n+2) _ _ _ rfl rfl rfl H]
  simp -implicitDefEqProofs only [s39, v52, hx, hy, tabs_gn, ↓EVdn, EVup, lp_succ, goInt, splice, okC, Fr.of, Fr.ofI, Fr.g, Nat.reduceAdd, Nat.reduceMul, Nat.reduceEqDiff, Nat.reduceLT, Nat.reduceLeDiff, Nat.reduceBEq, Int.reduceLT, Int.reduceLE, Int.reduceToNat, Int.reduceAdd, Int.reduceSub, Int.reduceMul, Int.reduceEq, Int.reduceNeg, ↓reduceIte, ↓reduceDIte, Nat.beq, reduceCtorEq, Value.int.injEq, Nat.reduceSub, flat_int, flat_bool, flat_t2w, flat_bt, flat_done, regs_flat, flat_i5, flat_need, upd_upd, decide_true]
theorem v39_39 (n : Nat) (H : Hp) (x y : Int) (hx : (0 ≤ x ∧ x < 4294967296) = True) (hy : (0 ≤ y ∧ y < 4294967296) = True) : evCall cfc (n+3) 39 [.int .i64 39, .int .u32 x, .int .u32 y] H = some (.ret (.tuple #[.bool (decide (¬ x = y)), .int .i64 0]), H) := by
  rw [q39 (n+2) _ _ _ rfl rfl rfl H]
  simp -implicitDefEqProofs only [s39, v52, hx, hy, tabs_gn, ↓EVdn, EVup, lp_succ, goInt, splice, okC, Fr.of, Fr.ofI, Fr.g, Nat.reduceAdd, Nat.reduceMul, Nat.reduceEqDiff, Nat.reduceLT, Nat.reduceLeDiff, Nat.reduceBEq, Int.reduceLT, Int.reduceLE, Int.reduceToNat, Int.reduceAdd, Int.reduceSub, Int.reduceMul, Int.reduceEq, Int.reduceNeg, ↓reduceIte, ↓reduceDIte, Nat.beq, reduceCtorEq, Value.int.injEq, Nat.reduceSub, flat_int, flat_bool, flat_t2w, flat_bt, flat_done, regs_flat, flat_i5, flat_need, upd_upd, decide_true]
theorem v39_40 (n : Nat) (H : Hp) (x y : Int) (hx : (0 ≤ x ∧ x < 4294967296) = True) (hy : (0 ≤ y ∧ y < 4294967296) = True) : evCall cfc (n+3) 39 [.int .i64 40, .int .u32 x, .int .u32 y] H = some (.ret (.tuple #[.bool (decide (IntKind.wrap .i32 x < IntKind.wrap .i32 y)), .int .i64 0]), H) := by
  rw [q39 (n+2) _ _ _ rfl rfl rfl H]
  simp -implicitDefEqProofs only [s39, v52, hx, hy, tabs_gn, ↓EVdn, EVup, lp_succ, goInt, splice, okC, Fr.of, Fr.ofI, Fr.g, Nat.reduceAdd, Nat.reduceMul, Nat.reduceEqDiff, Nat.reduceLT, Nat.reduceLeDiff, Nat.reduceBEq, Int.reduceLT, Int.reduceLE, Int.reduceToNat, Int.reduceAdd, Int.reduceSub, Int.reduceMul, Int.reduceEq, Int.reduceNeg, ↓reduceIte, ↓reduceDIte, Nat.beq, reduceCtorEq, Value.int.injEq, Nat.reduceSub, flat_int, flat_bool, flat_t2w, flat_bt, flat_done, regs_flat, flat_i5, flat_need, upd_upd, decide_true]
theorem v39_41 (n : Nat) (H : Hp) (x y : Int) (hx : (0 ≤ x ∧ x < 4294967296) = True) (hy : (0 ≤ y ∧ y < 4294967296) = True) : evCall cfc (n+3) 39 [.int .i64 41, .int .u32 x, .int .u32 y] H = some (.ret (.tuple #[.bool (decide (IntKind.wrap .i32 y ≤ IntKind.wrap .i32 x)), .int .i64 0]), H) := by
  rw [q39 (n+2) _ _ _ rfl rfl rfl H]
  simp -implicitDefEqProofs only [s39, v52, hx, hy, tabs_gn, ↓EVdn, EVup, lp_succ, goInt, splice, okC, Fr.of, Fr.ofI, Fr.g, Nat.reduceAdd, Nat.reduceMul, Nat.reduceEqDiff, Nat.reduceLT, Nat.reduceLeDiff, Nat.reduceBEq, Int.reduceLT, Int.reduceLE, Int.reduceToNat, Int.reduceAdd, Int.reduceSub, Int.reduceMul, Int.reduceEq, Int.reduceNeg, ↓reduceIte, ↓reduceDIte, Nat.beq, reduceCtorEq, Value.int.injEq, Nat.reduceSub, flat_int, flat_bool, flat_t2w, flat_bt, flat_done, regs_flat, flat_i5, flat_need, upd_upd, decide_true]
theorem v39_42 (n : Nat) (H : Hp) (x y : Int) (hx : (0 ≤ x ∧ x < 4294967296) = True) (hy : (0 ≤ y ∧ y < 4294967296) = True) : evCall cfc (n+3) 39 [.int .i64 42, .int .u32 x, .int .u32 y] H = some (.ret (.tuple #[.bool (decide (x < y)), .int .i64 0]), H) := by
  rw [q39 (n+2) _ _ _ rfl rfl rfl H]
  simp -implicitDefEqProofs only [s39, v52, hx, hy, tabs_gn, ↓EVdn, EVup, lp_succ, goInt, splice, okC, Fr.of, Fr.ofI, Fr.g, Nat.reduceAdd, Nat.reduceMul, Nat.reduceEqDiff, Nat.reduceLT, Nat.reduceLeDiff, Nat.reduceBEq, Int.reduceLT, Int.reduceLE, Int.reduceToNat, Int.reduceAdd, Int.reduceSub, Int.reduceMul, Int.reduceEq, Int.reduceNeg, ↓reduceIte, ↓reduceDIte, Nat.beq, reduceCtorEq, Value.int.injEq, Nat.reduceSub, flat_int, flat_bool, flat_t2w, flat_bt, flat_done, regs_flat, flat_i5, flat_need, upd_upd, decide_true]
theorem v39_43 (n : Nat) (H : Hp) (x y : Int) (hx : (0 ≤ x ∧ x < 4294967296) = True) (hy : (0 ≤ y ∧ y < 4294967296) = True) : evCall cfc (n+3) 39 [.int .i64 43, .int .u32 x, .int .u32 y] H = some (.ret (.tuple #[.bool (decide (y ≤ x)), .int .i64 0]), H) := by
  rw [q39 (n+2) _ _ _ rfl rfl rfl H]
  simp -implicitDefEqProofs only [s39, v52, hx, hy, tabs_gn, ↓EVdn, EVup, lp_succ, goInt, splice, okC, Fr.of, Fr.ofI, Fr.g, Nat.reduceAdd, Nat.reduceMul, Nat.reduceEqDiff, Nat.reduceLT, Nat.reduceLeDiff, Nat.reduceBEq, Int.reduceLT, Int.reduceLE, Int.reduceToNat, Int.reduceAdd, Int.reduceSub, Int.reduceMul, Int.reduceEq, Int.reduceNeg, ↓reduceIte, ↓reduceDIte, Nat.beq, reduceCtorEq, Value.int.injEq, Nat.reduceSub, flat_int, flat_bool, flat_t2w, flat_bt, flat_done, regs_flat, flat_i5, flat_need, upd_upd, decide_true]
theorem v37_n (n : Nat) (H : Hp) (R F : Nat → Int) (pc op A B C I to : Int) (b : Bool) (ht : (to.tmod 4 = 0) = False) : evCall cfc (n+1) 37 [.agg (regs R F pc).toArray, .agg #[.int .i64 op, .int .i64 A, .int .i64 B, .int .i64 C, .int .i64 I], .int .u32 to, .bool b] H = some (.ret (.tuple #[.agg (regs R F pc).toArray, .int .i64 5, .int .u32 to]), H) := by
  rw [q37 n _ _ _ _ (regs_flat _ _ _) rfl rfl rfl H]
  simp -implicitDefEqProofs only [s37, ht, tabs_gn, ↓EVdn, EVup, lp_succ, goInt, splice, okC, Fr.of, Fr.ofI, Fr.g, Nat.reduceAdd, Nat.reduceMul, Nat.reduceEqDiff, Nat.reduceLT, Nat.reduceLeDiff, Nat.reduceBEq, Int.reduceLT, Int.reduceLE, Int.reduceToNat, Int.reduceAdd, Int.reduceSub, Int.reduceMul, Int.reduceEq, Int.reduceNeg, ↓reduceIte, ↓reduceDIte, Nat.beq, reduceCtorEq, Value.int.injEq, Nat.reduceSub, flat_int, flat_bool, flat_t2w, flat_bt, flat_done, regs_flat, flat_i5, flat_need, upd_upd, decide_true]
theorem v37_l (n : Nat) (H : Hp) (R F : Nat → Int) (pc op A B C I to : Int) (hA : (0 ≤ A ∧ A < 16) = True) (ht : (to.tmod 4 = 0) = True) : evCall cfc (n+1) 37 [.agg (regs R F pc).toArray, .agg #[.int .i64 op, .int .i64 A, .int .i64 B, .int .i64 C, .int .i64 I], .int .u32 to, .bool true] H = some (.ret (.tuple #[.agg (regs (upd (upd R A.toNat (IntKind.wrap .u32 (pc + 4))) 0 0) F to).toArray, .int .i64 0, .int .u32 0]), H) := by
  rw [q37 n _ _ _ _ (regs_flat _ _ _) rfl rfl rfl H]
  have hA := of_eq_true hA
  have ar := rg166 hA
  simp -implicitDefEqProofs only [s37, ht, ar, wrap_0, tabs_gn, ↓EVdn, EVup, lp_succ, goInt, splice, okC, Fr.of, Fr.ofI, Fr.g, Nat.reduceAdd, Nat.reduceMul, Nat.reduceEqDiff, Nat.reduceLT, Nat.reduceLeDiff, Nat.reduceBEq, Int.reduceLT, Int.reduceLE, Int.reduceToNat, Int.reduceAdd, Int.reduceSub, Int.reduceMul, Int.reduceEq, Int.reduceNeg, ↓reduceIte, ↓reduceDIte, Nat.beq, reduceCtorEq, Value.int.injEq, Nat.reduceSub, flat_int, flat_bool, flat_t2w, flat_bt, flat_done, regs_flat, flat_i5, flat_need, upd_upd, decide_true]
theorem v37_b (n : Nat) (H : Hp) (R F : Nat → Int) (pc op A B C I to : Int) (ht : (to.tmod 4 = 0) = True) : evCall cfc (n+1) 37 [.agg (regs R F pc).toArray, .agg #[.int .i64 op, .int .i64 A, .int .i64 B, .int .i64 C, .int .i64 I], .int .u32 to, .bool false] H = some (.ret (.tuple #[.agg (regs R F to).toArray, .int .i64 0, .int .u32 0]), H) := by
  rw [q37 n _ _ _ _ (regs_flat _ _ _) rfl rfl rfl H]
  simp -implicitDefEqProofs only [s37, ht, tabs_gn, ↓EVdn, EVup, lp_succ, goInt, splice, okC, Fr.of, Fr.ofI, Fr.g, Nat.reduceAdd, Nat.reduceMul, Nat.reduceEqDiff, Nat.reduceLT, Nat.reduceLeDiff, Nat.reduceBEq, Int.reduceLT, Int.reduceLE, Int.reduceToNat, Int.reduceAdd, Int.reduceSub, Int.reduceMul, Int.reduceEq, Int.reduceNeg, ↓reduceIte, ↓reduceDIte, Nat.beq, reduceCtorEq, Value.int.injEq, Nat.reduceSub, flat_int, flat_bool, flat_t2w, flat_bt, flat_done, regs_flat, flat_i5, flat_need, upd_upd, decide_true]
theorem chk_op {op A B C I : Int} (h : chkV op A B C I = 0) : 0 ≤ op ∧ op < 72 := by
  by_cases ho : 0 ≤ op ∧ op < 72
  · exact ho
  · have : formV op = 0 := by simp only [formV, tabI, if_neg ho]
    rw [chkV, if_pos this] at h
    exact absurd h (by decide)
theorem v41_out (n : Nat) (H : Hp) (op : Int) (ho : ¬ (0 ≤ op ∧ op < 72)) : evCall cfc (n+2) 41 [.int .i64 op] H = some (.ret (.int .i64 0), H) := by
  rw [q41 (n+1) _ rfl H]
  have n28 : (op = 28) = False := eq_false (by omega)
  have n29 : (op = 29) = False := eq_false (by omega)
  have n30 : (op = 30) = False := eq_false (by omega)
  have n31 : (op = 31) = False := eq_false (by omega)
  have n32 : (op = 32) = False := eq_false (by omega)
  have n33 : (op = 33) = False := eq_false (by omega)
  have n34 : (op = 34) = False := eq_false (by omega)
  have n35 : (op = 35) = False := eq_false (by omega)
  have n36 : (op = 36) = False := eq_false (by omega)
  have n37 : (op = 37) = False := eq_false (by omega)
  simp -implicitDefEqProofs only [s41, n28, n29, n30, n31, n32, n33, n34, n35, n36, n37, tabs_gn, ↓EVdn, EVup, lp_succ, goInt, splice, okC, Fr.of, Fr.ofI, Fr.g, Nat.reduceAdd, Nat.reduceMul, Nat.reduceEqDiff, Nat.reduceLT, Nat.reduceLeDiff, Nat.reduceBEq, Int.reduceLT, Int.reduceLE, Int.reduceToNat, Int.reduceAdd, Int.reduceSub, Int.reduceMul, Int.reduceEq, Int.reduceNeg, ↓reduceIte, ↓reduceDIte, Nat.beq, reduceCtorEq, Value.int.injEq, Nat.reduceSub, flat_int, flat_bool, flat_t2w, flat_bt, flat_done, regs_flat, flat_i5, flat_need, upd_upd, decide_true]
theorem need_bad (n : Nat) (H : Hp) (R F : Nat → Int) (pc op A B C I : Int) (h : sizeV op = 0 ∨ ¬ chkV op A B C I = 0) : evCall cfc (n+12) 22 [.agg (regs R F pc).toArray, .agg #[.int .i64 op, .int .i64 A, .int .i64 B, .int .i64 C, .int .i64 I]] H = some (.ret (needT false 0 0 0), H) := by
  rw [q22 (n+11) _ _ (regs_flat _ _ _) rfl H]
  by_cases ho : 0 ≤ op ∧ op < 72
  · by_cases hs : sizeV op = 0
    · simp -implicitDefEqProofs only [s22, v41, ho, hs, needT, tabs_gn, ↓EVdn, EVup, lp_succ, goInt, splice, okC, Fr.of, Fr.ofI, Fr.g, Nat.reduceAdd, Nat.reduceMul, Nat.reduceEqDiff, Nat.reduceLT, Nat.reduceLeDiff, Nat.reduceBEq, Int.reduceLT, Int.reduceLE, Int.reduceToNat, Int.reduceAdd, Int.reduceSub, Int.reduceMul, Int.reduceEq, Int.reduceNeg, ↓reduceIte, ↓reduceDIte, Nat.beq, reduceCtorEq, Value.int.injEq, Nat.reduceSub, flat_int, flat_bool, flat_t2w, flat_bt, flat_done, regs_flat, flat_i5, flat_need, upd_upd, decide_true]
    · have hk : (chkV op A B C I = 0) = False := eq_false (h.resolve_left hs)
      simp -implicitDefEqProofs only [s22, v41, v33, ho, hs, hk, needT, tabs_gn, ↓EVdn, EVup, lp_succ, goInt, splice, okC, Fr.of, Fr.ofI, Fr.g, Nat.reduceAdd, Nat.reduceMul, Nat.reduceEqDiff, Nat.reduceLT, Nat.reduceLeDiff, Nat.reduceBEq, Int.reduceLT, Int.reduceLE, Int.reduceToNat, Int.reduceAdd, Int.reduceSub, Int.reduceMul, Int.reduceEq, Int.reduceNeg, ↓reduceIte, ↓reduceDIte, Nat.beq, reduceCtorEq, Value.int.injEq, Nat.reduceSub, flat_int, flat_bool, flat_t2w, flat_bt, flat_done, regs_flat, flat_i5, flat_need, upd_upd, decide_true]
  · have e1 : ∀ n H, evCall cfc (n+2) 41 [.int .i64 op] H = some (.ret (.int .i64 0), H) := fun n H => v41_out n H op ho
    simp -implicitDefEqProofs only [s22, e1, needT, tabs_gn, ↓EVdn, EVup, lp_succ, goInt, splice, okC, Fr.of, Fr.ofI, Fr.g, Nat.reduceAdd, Nat.reduceMul, Nat.reduceEqDiff, Nat.reduceLT, Nat.reduceLeDiff, Nat.reduceBEq, Int.reduceLT, Int.reduceLE, Int.reduceToNat, Int.reduceAdd, Int.reduceSub, Int.reduceMul, Int.reduceEq, Int.reduceNeg, ↓reduceIte, ↓reduceDIte, Nat.beq, reduceCtorEq, Value.int.injEq, Nat.reduceSub, flat_int, flat_bool, flat_t2w, flat_bt, flat_done, regs_flat, flat_i5, flat_need, upd_upd, decide_true]
theorem rneed_bad (n : Nat) (H : Hp) (R F : Nat → Int) (pc op A B C I : Int) (h : sizeV op = 0 ∨ ¬ chkV op A B C I = 0) : evCall cfc (n+12) 23 [.agg (regs R F pc).toArray, .agg #[.int .i64 op, .int .i64 A, .int .i64 B, .int .i64 C, .int .i64 I]] H = some (.ret (needT false 0 0 0), H) := by
  rw [q23 (n+11) _ _ (regs_flat _ _ _) rfl H]
  by_cases hk : chkV op A B C I = 0
  · have ho : 0 ≤ op ∧ op < 72 := chk_op hk
    have hs : sizeV op = 0 := h.resolve_right (fun h => h hk)
    simp -implicitDefEqProofs only [s23, v27, v42, ho, hs, hk, needT, tabs_gn, ↓EVdn, EVup, lp_succ, goInt, splice, okC, Fr.of, Fr.ofI, Fr.g, Nat.reduceAdd, Nat.reduceMul, Nat.reduceEqDiff, Nat.reduceLT, Nat.reduceLeDiff, Nat.reduceBEq, Int.reduceLT, Int.reduceLE, Int.reduceToNat, Int.reduceAdd, Int.reduceSub, Int.reduceMul, Int.reduceEq, Int.reduceNeg, ↓reduceIte, ↓reduceDIte, Nat.beq, reduceCtorEq, Value.int.injEq, Nat.reduceSub, flat_int, flat_bool, flat_t2w, flat_bt, flat_done, regs_flat, flat_i5, flat_need, upd_upd, decide_true]
  · simp -implicitDefEqProofs only [s23, v27, v42, hk, needT, tabs_gn, ↓EVdn, EVup, lp_succ, goInt, splice, okC, Fr.of, Fr.ofI, Fr.g, Nat.reduceAdd, Nat.reduceMul, Nat.reduceEqDiff, Nat.reduceLT, Nat.reduceLeDiff, Nat.reduceBEq, Int.reduceLT, Int.reduceLE, Int.reduceToNat, Int.reduceAdd, Int.reduceSub, Int.reduceMul, Int.reduceEq, Int.reduceNeg, ↓reduceIte, ↓reduceDIte, Nat.beq, reduceCtorEq, Value.int.injEq, Nat.reduceSub, flat_int, flat_bool, flat_t2w, flat_bt, flat_done, regs_flat, flat_i5, flat_need, upd_upd, decide_true]
theorem rneed_28 (n : Nat) (H : Hp) (R F : Nat → Int) (pc A B I : Int) (hA : 0 ≤ A ∧ A < 16) (hB : 0 ≤ B ∧ B < 16) (hk : chkV 28 A B 0 I = 0) :
    evCall cfc (n+12) 23 [.agg (regs R F pc).toArray, .agg #[.int .i64 28, .int .i64 A, .int .i64 B, .int .i64 0, .int .i64 I]] H = some (.ret (needT false (adV R B I) 4 (0)), H) := by
  rw [q23 (n+11) _ _ (regs_flat _ _ _) rfl H]
  have ar := rg165 hA
  have br := rg165 hB
  have rng : (0 ≤ (28 : Int) ∧ (28 : Int) < 72) = True := by simp
  have szz : sizeV 28 = 4 := rfl
  have ea : IntKind.wrap .u32 (upd R 0 0 B.toNat + IntKind.wrap .u32 I) = adV R B I := rfl
  simp -implicitDefEqProofs only [s23, v27, v42, v35, rng, szz, hk, needT, ea, ar, br, wrap_0, w32, w16, w8, w64, w24, tabs_gn, ↓EVdn, EVup, lp_succ, goInt, splice, okC, Fr.of, Fr.ofI, Fr.g, Nat.reduceAdd, Nat.reduceMul, Nat.reduceEqDiff, Nat.reduceLT, Nat.reduceLeDiff, Nat.reduceBEq, Int.reduceLT, Int.reduceLE, Int.reduceToNat, Int.reduceAdd, Int.reduceSub, Int.reduceMul, Int.reduceEq, Int.reduceNeg, ↓reduceIte, ↓reduceDIte, Nat.beq, reduceCtorEq, Value.int.injEq, Nat.reduceSub, flat_int, flat_bool, flat_t2w, flat_bt, flat_done, regs_flat, flat_i5, flat_need, upd_upd, decide_true]
theorem rneed_29 (n : Nat) (H : Hp) (R F : Nat → Int) (pc A B I : Int) (hA : 0 ≤ A ∧ A < 16) (hB : 0 ≤ B ∧ B < 16) (hk : chkV 29 A B 0 I = 0) :
    evCall cfc (n+12) 23 [.agg (regs R F pc).toArray, .agg #[.int .i64 29, .int .i64 A, .int .i64 B, .int .i64 0, .int .i64 I]] H = some (.ret (needT false (adV R B I) 2 (0)), H) := by
  rw [q23 (n+11) _ _ (regs_flat _ _ _) rfl H]
  have ar := rg165 hA
  have br := rg165 hB
  have rng : (0 ≤ (29 : Int) ∧ (29 : Int) < 72) = True := by simp
  have szz : sizeV 29 = 2 := rfl
  have ea : IntKind.wrap .u32 (upd R 0 0 B.toNat + IntKind.wrap .u32 I) = adV R B I := rfl
  simp -implicitDefEqProofs only [s23, v27, v42, v35, rng, szz, hk, needT, ea, ar, br, wrap_0, w32, w16, w8, w64, w24, tabs_gn, ↓EVdn, EVup, lp_succ, goInt, splice, okC, Fr.of, Fr.ofI, Fr.g, Nat.reduceAdd, Nat.reduceMul, Nat.reduceEqDiff, Nat.reduceLT, Nat.reduceLeDiff, Nat.reduceBEq, Int.reduceLT, Int.reduceLE, Int.reduceToNat, Int.reduceAdd, Int.reduceSub, Int.reduceMul, Int.reduceEq, Int.reduceNeg, ↓reduceIte, ↓reduceDIte, Nat.beq, reduceCtorEq, Value.int.injEq, Nat.reduceSub, flat_int, flat_bool, flat_t2w, flat_bt, flat_done, regs_flat, flat_i5, flat_need, upd_upd, decide_true]
theorem rneed_30 (n : Nat) (H : Hp) (R F : Nat → Int) (pc A B I : Int) (hA : 0 ≤ A ∧ A < 16) (hB : 0 ≤ B ∧ B < 16) (hk : chkV 30 A B 0 I = 0) :
    evCall cfc (n+12) 23 [.agg (regs R F pc).toArray, .agg #[.int .i64 30, .int .i64 A, .int .i64 B, .int .i64 0, .int .i64 I]] H = some (.ret (needT false (adV R B I) 2 (0)), H) := by
  rw [q23 (n+11) _ _ (regs_flat _ _ _) rfl H]
  have ar := rg165 hA
  have br := rg165 hB
  have rng : (0 ≤ (30 : Int) ∧ (30 : Int) < 72) = True := by simp
  have szz : sizeV 30 = 2 := rfl
  have ea : IntKind.wrap .u32 (upd R 0 0 B.toNat + IntKind.wrap .u32 I) = adV R B I := rfl
  simp -implicitDefEqProofs only [s23, v27, v42, v35, rng, szz, hk, needT, ea, ar, br, wrap_0, w32, w16, w8, w64, w24, tabs_gn, ↓EVdn, EVup, lp_succ, goInt, splice, okC, Fr.of, Fr.ofI, Fr.g, Nat.reduceAdd, Nat.reduceMul, Nat.reduceEqDiff, Nat.reduceLT, Nat.reduceLeDiff, Nat.reduceBEq, Int.reduceLT, Int.reduceLE, Int.reduceToNat, Int.reduceAdd, Int.reduceSub, Int.reduceMul, Int.reduceEq, Int.reduceNeg, ↓reduceIte, ↓reduceDIte, Nat.beq, reduceCtorEq, Value.int.injEq, Nat.reduceSub, flat_int, flat_bool, flat_t2w, flat_bt, flat_done, regs_flat, flat_i5, flat_need, upd_upd, decide_true]
theorem rneed_31 (n : Nat) (H : Hp) (R F : Nat → Int) (pc A B I : Int) (hA : 0 ≤ A ∧ A < 16) (hB : 0 ≤ B ∧ B < 16) (hk : chkV 31 A B 0 I = 0) :
    evCall cfc (n+12) 23 [.agg (regs R F pc).toArray, .agg #[.int .i64 31, .int .i64 A, .int .i64 B, .int .i64 0, .int .i64 I]] H = some (.ret (needT false (adV R B I) 1 (0)), H) := by
  rw [q23 (n+11) _ _ (regs_flat _ _ _) rfl H]
  have ar := rg165 hA
  have br := rg165 hB
  have rng : (0 ≤ (31 : Int) ∧ (31 : Int) < 72) = True := by simp
  have szz : sizeV 31 = 1 := rfl
  have ea : IntKind.wrap .u32 (upd R 0 0 B.toNat + IntKind.wrap .u32 I) = adV R B I := rfl
  simp -implicitDefEqProofs only [s23, v27, v42, v35, rng, szz, hk, needT, ea, ar, br, wrap_0, w32, w16, w8, w64, w24, tabs_gn, ↓EVdn, EVup, lp_succ, goInt, splice, okC, Fr.of, Fr.ofI, Fr.g, Nat.reduceAdd, Nat.reduceMul, Nat.reduceEqDiff, Nat.reduceLT, Nat.reduceLeDiff, Nat.reduceBEq, Int.reduceLT, Int.reduceLE, Int.reduceToNat, Int.reduceAdd, Int.reduceSub, Int.reduceMul, Int.reduceEq, Int.reduceNeg, ↓reduceIte, ↓reduceDIte, Nat.beq, reduceCtorEq, Value.int.injEq, Nat.reduceSub, flat_int, flat_bool, flat_t2w, flat_bt, flat_done, regs_flat, flat_i5, flat_need, upd_upd, decide_true]
theorem rneed_32 (n : Nat) (H : Hp) (R F : Nat → Int) (pc A B I : Int) (hA : 0 ≤ A ∧ A < 16) (hB : 0 ≤ B ∧ B < 16) (hk : chkV 32 A B 0 I = 0) :
    evCall cfc (n+12) 23 [.agg (regs R F pc).toArray, .agg #[.int .i64 32, .int .i64 A, .int .i64 B, .int .i64 0, .int .i64 I]] H = some (.ret (needT false (adV R B I) 1 (0)), H) := by
  rw [q23 (n+11) _ _ (regs_flat _ _ _) rfl H]
  have ar := rg165 hA
  have br := rg165 hB
  have rng : (0 ≤ (32 : Int) ∧ (32 : Int) < 72) = True := by simp
  have szz : sizeV 32 = 1 := rfl
  have ea : IntKind.wrap .u32 (upd R 0 0 B.toNat + IntKind.wrap .u32 I) = adV R B I := rfl
  simp -implicitDefEqProofs only [s23, v27, v42, v35, rng, szz, hk, needT, ea, ar, br, wrap_0, w32, w16, w8, w64, w24, tabs_gn, ↓EVdn, EVup, lp_succ, goInt, splice, okC, Fr.of, Fr.ofI, Fr.g, Nat.reduceAdd, Nat.reduceMul, Nat.reduceEqDiff, Nat.reduceLT, Nat.reduceLeDiff, Nat.reduceBEq, Int.reduceLT, Int.reduceLE, Int.reduceToNat, Int.reduceAdd, Int.reduceSub, Int.reduceMul, Int.reduceEq, Int.reduceNeg, ↓reduceIte, ↓reduceDIte, Nat.beq, reduceCtorEq, Value.int.injEq, Nat.reduceSub, flat_int, flat_bool, flat_t2w, flat_bt, flat_done, regs_flat, flat_i5, flat_need, upd_upd, decide_true]
theorem rneed_33 (n : Nat) (H : Hp) (R F : Nat → Int) (pc A B I : Int) (hA : 0 ≤ A ∧ A < 16) (hB : 0 ≤ B ∧ B < 16) (hk : chkV 33 A B 0 I = 0) :
    evCall cfc (n+12) 23 [.agg (regs R F pc).toArray, .agg #[.int .i64 33, .int .i64 A, .int .i64 B, .int .i64 0, .int .i64 I]] H = some (.ret (needT true (adV R B I) 4 (IntKind.wrap .u64 (upd R 0 0 A.toNat))), H) := by
  rw [q23 (n+11) _ _ (regs_flat _ _ _) rfl H]
  have ar := rg165 hA
  have br := rg165 hB
  have rng : (0 ≤ (33 : Int) ∧ (33 : Int) < 72) = True := by simp
  have szz : sizeV 33 = 4 := rfl
  have ea : IntKind.wrap .u32 (upd R 0 0 B.toNat + IntKind.wrap .u32 I) = adV R B I := rfl
  simp -implicitDefEqProofs only [s23, v27, v42, v35, rng, szz, hk, needT, ea, ar, br, wrap_0, w32, w16, w8, w64, w24, tabs_gn, ↓EVdn, EVup, lp_succ, goInt, splice, okC, Fr.of, Fr.ofI, Fr.g, Nat.reduceAdd, Nat.reduceMul, Nat.reduceEqDiff, Nat.reduceLT, Nat.reduceLeDiff, Nat.reduceBEq, Int.reduceLT, Int.reduceLE, Int.reduceToNat, Int.reduceAdd, Int.reduceSub, Int.reduceMul, Int.reduceEq, Int.reduceNeg, ↓reduceIte, ↓reduceDIte, Nat.beq, reduceCtorEq, Value.int.injEq, Nat.reduceSub, flat_int, flat_bool, flat_t2w, flat_bt, flat_done, regs_flat, flat_i5, flat_need, upd_upd, decide_true]
theorem rneed_34 (n : Nat) (H : Hp) (R F : Nat → Int) (pc A B I : Int) (hA : 0 ≤ A ∧ A < 16) (hB : 0 ≤ B ∧ B < 16) (hk : chkV 34 A B 0 I = 0) :
    evCall cfc (n+12) 23 [.agg (regs R F pc).toArray, .agg #[.int .i64 34, .int .i64 A, .int .i64 B, .int .i64 0, .int .i64 I]] H = some (.ret (needT true (adV R B I) 2 (IntKind.wrap .u64 (andK .u32 (upd R 0 0 A.toNat) 65535))), H) := by
  rw [q23 (n+11) _ _ (regs_flat _ _ _) rfl H]
  have ar := rg165 hA
  have br := rg165 hB
  have rng : (0 ≤ (34 : Int) ∧ (34 : Int) < 72) = True := by simp
  have szz : sizeV 34 = 2 := rfl
  have ea : IntKind.wrap .u32 (upd R 0 0 B.toNat + IntKind.wrap .u32 I) = adV R B I := rfl
  simp -implicitDefEqProofs only [s23, v27, v42, v35, rng, szz, hk, needT, ea, ar, br, wrap_0, w32, w16, w8, w64, w24, tabs_gn, ↓EVdn, EVup, lp_succ, goInt, splice, okC, Fr.of, Fr.ofI, Fr.g, Nat.reduceAdd, Nat.reduceMul, Nat.reduceEqDiff, Nat.reduceLT, Nat.reduceLeDiff, Nat.reduceBEq, Int.reduceLT, Int.reduceLE, Int.reduceToNat, Int.reduceAdd, Int.reduceSub, Int.reduceMul, Int.reduceEq, Int.reduceNeg, ↓reduceIte, ↓reduceDIte, Nat.beq, reduceCtorEq, Value.int.injEq, Nat.reduceSub, flat_int, flat_bool, flat_t2w, flat_bt, flat_done, regs_flat, flat_i5, flat_need, upd_upd, decide_true]
theorem rneed_35 (n : Nat) (H : Hp) (R F : Nat → Int) (pc A B I : Int) (hA : 0 ≤ A ∧ A < 16) (hB : 0 ≤ B ∧ B < 16) (hk : chkV 35 A B 0 I = 0) :
    evCall cfc (n+12) 23 [.agg (regs R F pc).toArray, .agg #[.int .i64 35, .int .i64 A, .int .i64 B, .int .i64 0, .int .i64 I]] H = some (.ret (needT true (adV R B I) 1 (IntKind.wrap .u64 (andK .u32 (upd R 0 0 A.toNat) 255))), H) := by
  rw [q23 (n+11) _ _ (regs_flat _ _ _) rfl H]
  have ar := rg165 hA
  have br := rg165 hB
  have rng : (0 ≤ (35 : Int) ∧ (35 : Int) < 72) = True := by simp
  have szz : sizeV 35 = 1 := rfl
  have ea : IntKind.wrap .u32 (upd R 0 0 B.toNat + IntKind.wrap .u32 I) = adV R B I := rfl
  simp -implicitDefEqProofs only [s23, v27, v42, v35, rng, szz, hk, needT, ea, ar, br, wrap_0, w32, w16, w8, w64, w24, tabs_gn, ↓EVdn, EVup, lp_succ, goInt, splice, okC, Fr.of, Fr.ofI, Fr.g, Nat.reduceAdd, Nat.reduceMul, Nat.reduceEqDiff, Nat.reduceLT, Nat.reduceLeDiff, Nat.reduceBEq, Int.reduceLT, Int.reduceLE, Int.reduceToNat, Int.reduceAdd, Int.reduceSub, Int.reduceMul, Int.reduceEq, Int.reduceNeg, ↓reduceIte, ↓reduceDIte, Nat.beq, reduceCtorEq, Value.int.injEq, Nat.reduceSub, flat_int, flat_bool, flat_t2w, flat_bt, flat_done, regs_flat, flat_i5, flat_need, upd_upd, decide_true]
theorem rneed_36 (n : Nat) (H : Hp) (R F : Nat → Int) (pc A B I : Int) (hA : 0 ≤ A ∧ A < 8) (hB : 0 ≤ B ∧ B < 16) (hk : chkV 36 A B 0 I = 0) :
    evCall cfc (n+12) 23 [.agg (regs R F pc).toArray, .agg #[.int .i64 36, .int .i64 A, .int .i64 B, .int .i64 0, .int .i64 I]] H = some (.ret (needT false (adV R B I) 8 (0)), H) := by
  rw [q23 (n+11) _ _ (regs_flat _ _ _) rfl H]
  have ar := rg85 hA
  have br := rg165 hB
  have rng : (0 ≤ (36 : Int) ∧ (36 : Int) < 72) = True := by simp
  have szz : sizeV 36 = 8 := rfl
  have ea : IntKind.wrap .u32 (upd R 0 0 B.toNat + IntKind.wrap .u32 I) = adV R B I := rfl
  simp -implicitDefEqProofs only [s23, v27, v42, v35, rng, szz, hk, needT, ea, ar, br, wrap_0, w32, w16, w8, w64, w24, tabs_gn, ↓EVdn, EVup, lp_succ, goInt, splice, okC, Fr.of, Fr.ofI, Fr.g, Nat.reduceAdd, Nat.reduceMul, Nat.reduceEqDiff, Nat.reduceLT, Nat.reduceLeDiff, Nat.reduceBEq, Int.reduceLT, Int.reduceLE, Int.reduceToNat, Int.reduceAdd, Int.reduceSub, Int.reduceMul, Int.reduceEq, Int.reduceNeg, ↓reduceIte, ↓reduceDIte, Nat.beq, reduceCtorEq, Value.int.injEq, Nat.reduceSub, flat_int, flat_bool, flat_t2w, flat_bt, flat_done, regs_flat, flat_i5, flat_need, upd_upd, decide_true]
theorem rneed_37 (n : Nat) (H : Hp) (R F : Nat → Int) (pc A B I : Int) (hA : 0 ≤ A ∧ A < 8) (hB : 0 ≤ B ∧ B < 16) (hk : chkV 37 A B 0 I = 0) :
    evCall cfc (n+12) 23 [.agg (regs R F pc).toArray, .agg #[.int .i64 37, .int .i64 A, .int .i64 B, .int .i64 0, .int .i64 I]] H = some (.ret (needT true (adV R B I) 8 (F A.toNat)), H) := by
  rw [q23 (n+11) _ _ (regs_flat _ _ _) rfl H]
  have ar := rg85 hA
  have br := rg165 hB
  have rng : (0 ≤ (37 : Int) ∧ (37 : Int) < 72) = True := by simp
  have szz : sizeV 37 = 8 := rfl
  have ea : IntKind.wrap .u32 (upd R 0 0 B.toNat + IntKind.wrap .u32 I) = adV R B I := rfl
  simp -implicitDefEqProofs only [s23, v27, v42, v35, rng, szz, hk, needT, ea, ar, br, wrap_0, w32, w16, w8, w64, w24, tabs_gn, ↓EVdn, EVup, lp_succ, goInt, splice, okC, Fr.of, Fr.ofI, Fr.g, Nat.reduceAdd, Nat.reduceMul, Nat.reduceEqDiff, Nat.reduceLT, Nat.reduceLeDiff, Nat.reduceBEq, Int.reduceLT, Int.reduceLE, Int.reduceToNat, Int.reduceAdd, Int.reduceSub, Int.reduceMul, Int.reduceEq, Int.reduceNeg, ↓reduceIte, ↓reduceDIte, Nat.beq, reduceCtorEq, Value.int.injEq, Nat.reduceSub, flat_int, flat_bool, flat_t2w, flat_bt, flat_done, regs_flat, flat_i5, flat_need, upd_upd, decide_true]
end Go.Proofs.YthenglaoolmajaaDoor
