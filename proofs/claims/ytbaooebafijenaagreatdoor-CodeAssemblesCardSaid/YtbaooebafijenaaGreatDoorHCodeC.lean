/- The document's check of an instruction. -/
import Derived.Test.YtbaooebafijenaaGreatDoorHCodeP
import Derived.Test.YtbaooebafijenaaGreatDoorHvBn2
namespace Go.Proofs.YtbaooebafijenaaGreatDoor
open Go Go.Ev
set_option maxRecDepth 100000
set_option linter.unusedSimpArgs false
set_option linter.unusedVariables false
set_option maxHeartbeats 2000000
set_option linter.unusedSectionVars false
variable [Mx]
attribute [local congr] bind_front callK_front jn_front ifB_front ifG_front lp_front
theorem q55 (n : Nat) (x0 : Value) (hx0 : flat x0 = true) (H : Hp) : evCall cfc (n+1) 55 [x0] H = movR [] H (s55 (evCall cfc n) n x0 Hp.fl) := by
 rw [evCall_quiet (fn := Tryz.f55) (by rfl) (by rfl) Tryz.func55 (by rfl) (by simp [hx0])]
 exact congrArg (movR [] H) (s55_eq _ _ _ _)
theorem q56 (n : Nat) (x0 : Value) (hx0 : flat x0 = true) (H : Hp) : evCall cfc (n+1) 56 [x0] H = movR [] H (s56 (evCall cfc n) n x0 Hp.fl) := by
 rw [evCall_quiet (fn := Tryz.f56) (by rfl) (by rfl) Tryz.func56 (by rfl) (by simp [hx0])]
 exact congrArg (movR [] H) (s56_eq _ _ _ _)
theorem q33 (n : Nat) (x0 : Value) (hx0 : flat x0 = true) (H : Hp) : evCall cfc (n+1) 33 [x0] H = movR [] H (s33 (evCall cfc n) n x0 Hp.fl) := by
 rw [evCall_quiet (fn := Tryz.f33) (by rfl) (by rfl) Tryz.func33 (by rfl) (by simp [hx0])]
 exact congrArg (movR [] H) (s33_eq _ _ _ _)
theorem q57 (n : Nat) (x0 x1 : Value) (hx0 : flat x0 = true) (hx1 : flat x1 = true) (H : Hp) : evCall cfc (n+1) 57 [x0, x1] H = movR [] H (s57 (evCall cfc n) n x0 x1 Hp.fl) := by
 rw [evCall_quiet (fn := Tryz.f57) (by rfl) (by rfl) Tryz.func57 (by rfl) (by simp [hx0, hx1])]
 exact congrArg (movR [] H) (s57_eq _ _ _ _ _)
theorem v55 (n : Nat) (H : Hp) (op : Int) : evCall cfc (n+2) 55 [.int .i64 op] H = some (.ret (.int .i64 (formV op)), H) := by
 rw [q55 (n+1) _ rfl H]
 by_cases h : 0 ≤ op ∧ op < 72
 · exact okR_range (F := fun op => s55 (evCall cfc (n+1)) (n+1) (.int .i64 op) Hp.fl) (T := fun op => .int .i64 (formV op)) 72 (by kernel_rfl) op h H
 · have e : ∀ k : Int, 0 ≤ k → k < 72 → (op = k) = False := by intro k h1 h2; simp only [eq_iff_iff, iff_false]; omega
   have h2 : (0 ≤ op ∧ op < 72) = False := by simp only [eq_iff_iff, iff_false]; exact h
   simp -implicitDefEqProofs only [s55, v75, ↓HEdn, HEup, goInt, splice, okC, Fr.of, Fr.ofI, Fr.g, Nat.reduceAdd, Nat.reduceMul, Nat.reduceEqDiff, Nat.reduceLT, Nat.reduceLeDiff, Nat.reduceBEq, Int.reduceLT, Int.reduceLE, Int.reduceToNat, Int.reduceAdd, Int.reduceSub, Int.reduceMul, Int.reduceEq, Int.reduceNeg, ↓reduceIte, ↓reduceDIte, Nat.beq, reduceCtorEq, Value.int.injEq, e, tabs_gn, flat_int, flat_str, flat_bool, formV, h2, tabI]
theorem sz_e : ByteArray.size ⟨#[]⟩ = 0 := (rfl)
theorem sz_ff : ByteArray.size ⟨#[102, 102]⟩ = 2 := (rfl)
theorem sx_ff_0 : sx (.string ⟨#[102, 102]⟩) (.int .i64 0) = some (.int .u8 102) := (rfl)
theorem sx_ff_1 : sx (.string ⟨#[102, 102]⟩) (.int .i64 1) = some (.int .u8 102) := (rfl)
theorem sz_fff : ByteArray.size ⟨#[102, 102, 102]⟩ = 3 := (rfl)
theorem sx_fff_0 : sx (.string ⟨#[102, 102, 102]⟩) (.int .i64 0) = some (.int .u8 102) := (rfl)
theorem sx_fff_1 : sx (.string ⟨#[102, 102, 102]⟩) (.int .i64 1) = some (.int .u8 102) := (rfl)
theorem sx_fff_2 : sx (.string ⟨#[102, 102, 102]⟩) (.int .i64 2) = some (.int .u8 102) := (rfl)
theorem sz_fr : ByteArray.size ⟨#[102, 114]⟩ = 2 := (rfl)
theorem sx_fr_0 : sx (.string ⟨#[102, 114]⟩) (.int .i64 0) = some (.int .u8 102) := (rfl)
theorem sx_fr_1 : sx (.string ⟨#[102, 114]⟩) (.int .i64 1) = some (.int .u8 114) := (rfl)
theorem sz_fri : ByteArray.size ⟨#[102, 114, 105]⟩ = 3 := (rfl)
theorem sx_fri_0 : sx (.string ⟨#[102, 114, 105]⟩) (.int .i64 0) = some (.int .u8 102) := (rfl)
theorem sx_fri_1 : sx (.string ⟨#[102, 114, 105]⟩) (.int .i64 1) = some (.int .u8 114) := (rfl)
theorem sx_fri_2 : sx (.string ⟨#[102, 114, 105]⟩) (.int .i64 2) = some (.int .u8 105) := (rfl)
theorem sz_frr : ByteArray.size ⟨#[102, 114, 114]⟩ = 3 := (rfl)
theorem sx_frr_0 : sx (.string ⟨#[102, 114, 114]⟩) (.int .i64 0) = some (.int .u8 102) := (rfl)
theorem sx_frr_1 : sx (.string ⟨#[102, 114, 114]⟩) (.int .i64 1) = some (.int .u8 114) := (rfl)
theorem sx_frr_2 : sx (.string ⟨#[102, 114, 114]⟩) (.int .i64 2) = some (.int .u8 114) := (rfl)
theorem sz_rf : ByteArray.size ⟨#[114, 102]⟩ = 2 := (rfl)
theorem sx_rf_0 : sx (.string ⟨#[114, 102]⟩) (.int .i64 0) = some (.int .u8 114) := (rfl)
theorem sx_rf_1 : sx (.string ⟨#[114, 102]⟩) (.int .i64 1) = some (.int .u8 102) := (rfl)
theorem sz_rff : ByteArray.size ⟨#[114, 102, 102]⟩ = 3 := (rfl)
theorem sx_rff_0 : sx (.string ⟨#[114, 102, 102]⟩) (.int .i64 0) = some (.int .u8 114) := (rfl)
theorem sx_rff_1 : sx (.string ⟨#[114, 102, 102]⟩) (.int .i64 1) = some (.int .u8 102) := (rfl)
theorem sx_rff_2 : sx (.string ⟨#[114, 102, 102]⟩) (.int .i64 2) = some (.int .u8 102) := (rfl)
theorem sz_ri : ByteArray.size ⟨#[114, 105]⟩ = 2 := (rfl)
theorem sx_ri_0 : sx (.string ⟨#[114, 105]⟩) (.int .i64 0) = some (.int .u8 114) := (rfl)
theorem sx_ri_1 : sx (.string ⟨#[114, 105]⟩) (.int .i64 1) = some (.int .u8 105) := (rfl)
theorem sz_rri : ByteArray.size ⟨#[114, 114, 105]⟩ = 3 := (rfl)
theorem sx_rri_0 : sx (.string ⟨#[114, 114, 105]⟩) (.int .i64 0) = some (.int .u8 114) := (rfl)
theorem sx_rri_1 : sx (.string ⟨#[114, 114, 105]⟩) (.int .i64 1) = some (.int .u8 114) := (rfl)
theorem sx_rri_2 : sx (.string ⟨#[114, 114, 105]⟩) (.int .i64 2) = some (.int .u8 105) := (rfl)
theorem sz_rrr : ByteArray.size ⟨#[114, 114, 114]⟩ = 3 := (rfl)
theorem sx_rrr_0 : sx (.string ⟨#[114, 114, 114]⟩) (.int .i64 0) = some (.int .u8 114) := (rfl)
theorem sx_rrr_1 : sx (.string ⟨#[114, 114, 114]⟩) (.int .i64 1) = some (.int .u8 114) := (rfl)
theorem sx_rrr_2 : sx (.string ⟨#[114, 114, 114]⟩) (.int .i64 2) = some (.int .u8 114) := (rfl)
def rOps (f : Int) : ByteArray := if 0 ≤ f ∧ f < 16 then [(⟨#[]⟩ : ByteArray), (⟨#[]⟩ : ByteArray), (⟨#[114, 114, 114]⟩ : ByteArray), (⟨#[114, 114, 105]⟩ : ByteArray), (⟨#[114, 105]⟩ : ByteArray), (⟨#[114, 114, 105]⟩ : ByteArray), (⟨#[102, 114, 105]⟩ : ByteArray), (⟨#[114, 114, 105]⟩ : ByteArray), (⟨#[114, 105]⟩ : ByteArray), (⟨#[102, 102, 102]⟩ : ByteArray), (⟨#[102, 102]⟩ : ByteArray), (⟨#[114, 102, 102]⟩ : ByteArray), (⟨#[114, 102]⟩ : ByteArray), (⟨#[102, 114]⟩ : ByteArray), (⟨#[102, 114, 114]⟩ : ByteArray), (⟨#[114, 105]⟩ : ByteArray)].getD f.toNat ⟨#[]⟩ else ⟨#[]⟩
theorem rOps_0 : rOps 0 = ⟨#[]⟩ := (rfl)
theorem rOps_1 : rOps 1 = ⟨#[]⟩ := (rfl)
theorem rOps_2 : rOps 2 = ⟨#[114, 114, 114]⟩ := (rfl)
theorem rOps_3 : rOps 3 = ⟨#[114, 114, 105]⟩ := (rfl)
theorem rOps_4 : rOps 4 = ⟨#[114, 105]⟩ := (rfl)
theorem rOps_5 : rOps 5 = ⟨#[114, 114, 105]⟩ := (rfl)
theorem rOps_6 : rOps 6 = ⟨#[102, 114, 105]⟩ := (rfl)
theorem rOps_7 : rOps 7 = ⟨#[114, 114, 105]⟩ := (rfl)
theorem rOps_8 : rOps 8 = ⟨#[114, 105]⟩ := (rfl)
theorem rOps_9 : rOps 9 = ⟨#[102, 102, 102]⟩ := (rfl)
theorem rOps_10 : rOps 10 = ⟨#[102, 102]⟩ := (rfl)
theorem rOps_11 : rOps 11 = ⟨#[114, 102, 102]⟩ := (rfl)
theorem rOps_12 : rOps 12 = ⟨#[114, 102]⟩ := (rfl)
theorem rOps_13 : rOps 13 = ⟨#[102, 114]⟩ := (rfl)
theorem rOps_14 : rOps 14 = ⟨#[102, 114, 114]⟩ := (rfl)
theorem rOps_15 : rOps 15 = ⟨#[114, 105]⟩ := (rfl)
theorem v56 (n : Nat) (H : Hp) (f : Int) (h : 0 ≤ f ∧ f < 16) : evCall cfc (n+2) 56 [.int .i64 f] H = some (.ret (.string (rOps f)), H) := by
 rw [q56 (n+1) _ rfl H]
 exact okR_range (F := fun op => s56 (evCall cfc (n+1)) (n+1) (.int .i64 op) Hp.fl) (T := fun op => .string (rOps op)) 16 (by kernel_rfl) f h H
theorem v28f (n : Nat) (H : Hp) (op : Int) : evCall cfc (n+2) 56 [.int .i64 (formV op)] H = some (.ret (.string (rOps (formV op))), H) := v56 n H _ (form_range op)
theorem v57 (n : Nat) (H : Hp) (op I : Int) : evCall cfc (n+2) 57 [.int .i64 op, .int .i64 I] H = some (.ret (.bool (decide (lowV op ≤ I ∧ I ≤ highV op))), H) := by
 rw [q57 (n+1) _ _ rfl rfl H]
 by_cases h19 : op = 19
 · subst h19
   have hl : lowV 19 = 0 := rfl
   have hh : highV 19 = 65535 := rfl
   by_cases a : 0 ≤ I <;> by_cases b : I ≤ 65535
   all_goals simp -implicitDefEqProofs only [s57, ↓HEdn, HEup, goInt, splice, okC, Fr.of, Fr.ofI, Fr.g, Nat.reduceAdd, Nat.reduceMul, Nat.reduceEqDiff, Nat.reduceLT, Nat.reduceLeDiff, Nat.reduceBEq, Int.reduceLT, Int.reduceLE, Int.reduceToNat, Int.reduceAdd, Int.reduceSub, Int.reduceMul, Int.reduceEq, Int.reduceNeg, ↓reduceIte, ↓reduceDIte, Nat.beq, reduceCtorEq, Value.int.injEq, flat_bool, hl, hh, a, b]
 by_cases h20 : op = 20
 · subst h20
   have hl : lowV 20 = 0 := rfl
   have hh : highV 20 = 65535 := rfl
   by_cases a : 0 ≤ I <;> by_cases b : I ≤ 65535
   all_goals simp -implicitDefEqProofs only [s57, ↓HEdn, HEup, goInt, splice, okC, Fr.of, Fr.ofI, Fr.g, Nat.reduceAdd, Nat.reduceMul, Nat.reduceEqDiff, Nat.reduceLT, Nat.reduceLeDiff, Nat.reduceBEq, Int.reduceLT, Int.reduceLE, Int.reduceToNat, Int.reduceAdd, Int.reduceSub, Int.reduceMul, Int.reduceEq, Int.reduceNeg, ↓reduceIte, ↓reduceDIte, Nat.beq, reduceCtorEq, Value.int.injEq, flat_bool, hl, hh, a, b]
 by_cases h21 : op = 21
 · subst h21
   have hl : lowV 21 = 0 := rfl
   have hh : highV 21 = 65535 := rfl
   by_cases a : 0 ≤ I <;> by_cases b : I ≤ 65535
   all_goals simp -implicitDefEqProofs only [s57, ↓HEdn, HEup, goInt, splice, okC, Fr.of, Fr.ofI, Fr.g, Nat.reduceAdd, Nat.reduceMul, Nat.reduceEqDiff, Nat.reduceLT, Nat.reduceLeDiff, Nat.reduceBEq, Int.reduceLT, Int.reduceLE, Int.reduceToNat, Int.reduceAdd, Int.reduceSub, Int.reduceMul, Int.reduceEq, Int.reduceNeg, ↓reduceIte, ↓reduceDIte, Nat.beq, reduceCtorEq, Value.int.injEq, flat_bool, hl, hh, a, b]
 by_cases h27 : op = 27
 · subst h27
   have hl : lowV 27 = 0 := rfl
   have hh : highV 27 = 65535 := rfl
   by_cases a : 0 ≤ I <;> by_cases b : I ≤ 65535
   all_goals simp -implicitDefEqProofs only [s57, ↓HEdn, HEup, goInt, splice, okC, Fr.of, Fr.ofI, Fr.g, Nat.reduceAdd, Nat.reduceMul, Nat.reduceEqDiff, Nat.reduceLT, Nat.reduceLeDiff, Nat.reduceBEq, Int.reduceLT, Int.reduceLE, Int.reduceToNat, Int.reduceAdd, Int.reduceSub, Int.reduceMul, Int.reduceEq, Int.reduceNeg, ↓reduceIte, ↓reduceDIte, Nat.beq, reduceCtorEq, Value.int.injEq, flat_bool, hl, hh, a, b]
 by_cases h22 : op = 22
 · subst h22
   have hl : lowV 22 = 0 := rfl
   have hh : highV 22 = 31 := rfl
   by_cases a : 0 ≤ I <;> by_cases b : I ≤ 31
   all_goals simp -implicitDefEqProofs only [s57, ↓HEdn, HEup, goInt, splice, okC, Fr.of, Fr.ofI, Fr.g, Nat.reduceAdd, Nat.reduceMul, Nat.reduceEqDiff, Nat.reduceLT, Nat.reduceLeDiff, Nat.reduceBEq, Int.reduceLT, Int.reduceLE, Int.reduceToNat, Int.reduceAdd, Int.reduceSub, Int.reduceMul, Int.reduceEq, Int.reduceNeg, ↓reduceIte, ↓reduceDIte, Nat.beq, reduceCtorEq, Value.int.injEq, flat_bool, hl, hh, a, b]
 by_cases h23 : op = 23
 · subst h23
   have hl : lowV 23 = 0 := rfl
   have hh : highV 23 = 31 := rfl
   by_cases a : 0 ≤ I <;> by_cases b : I ≤ 31
   all_goals simp -implicitDefEqProofs only [s57, ↓HEdn, HEup, goInt, splice, okC, Fr.of, Fr.ofI, Fr.g, Nat.reduceAdd, Nat.reduceMul, Nat.reduceEqDiff, Nat.reduceLT, Nat.reduceLeDiff, Nat.reduceBEq, Int.reduceLT, Int.reduceLE, Int.reduceToNat, Int.reduceAdd, Int.reduceSub, Int.reduceMul, Int.reduceEq, Int.reduceNeg, ↓reduceIte, ↓reduceDIte, Nat.beq, reduceCtorEq, Value.int.injEq, flat_bool, hl, hh, a, b]
 by_cases h24 : op = 24
 · subst h24
   have hl : lowV 24 = 0 := rfl
   have hh : highV 24 = 31 := rfl
   by_cases a : 0 ≤ I <;> by_cases b : I ≤ 31
   all_goals simp -implicitDefEqProofs only [s57, ↓HEdn, HEup, goInt, splice, okC, Fr.of, Fr.ofI, Fr.g, Nat.reduceAdd, Nat.reduceMul, Nat.reduceEqDiff, Nat.reduceLT, Nat.reduceLeDiff, Nat.reduceBEq, Int.reduceLT, Int.reduceLE, Int.reduceToNat, Int.reduceAdd, Int.reduceSub, Int.reduceMul, Int.reduceEq, Int.reduceNeg, ↓reduceIte, ↓reduceDIte, Nat.beq, reduceCtorEq, Value.int.injEq, flat_bool, hl, hh, a, b]
 by_cases h68 : op = 68
 · subst h68
   have hl : lowV 68 = 0 := rfl
   have hh : highV 68 = 9 := rfl
   by_cases a : 0 ≤ I <;> by_cases b : I ≤ 9
   all_goals simp -implicitDefEqProofs only [s57, ↓HEdn, HEup, goInt, splice, okC, Fr.of, Fr.ofI, Fr.g, Nat.reduceAdd, Nat.reduceMul, Nat.reduceEqDiff, Nat.reduceLT, Nat.reduceLeDiff, Nat.reduceBEq, Int.reduceLT, Int.reduceLE, Int.reduceToNat, Int.reduceAdd, Int.reduceSub, Int.reduceMul, Int.reduceEq, Int.reduceNeg, ↓reduceIte, ↓reduceDIte, Nat.beq, reduceCtorEq, Value.int.injEq, flat_bool, hl, hh, a, b, show (I < 10) = (I ≤ 9) by simp only [eq_iff_iff]; omega]
 by_cases h69 : op = 69
 · subst h69
   have hl : lowV 69 = 0 := rfl
   have hh : highV 69 = 9 := rfl
   by_cases a : 0 ≤ I <;> by_cases b : I ≤ 9
   all_goals simp -implicitDefEqProofs only [s57, ↓HEdn, HEup, goInt, splice, okC, Fr.of, Fr.ofI, Fr.g, Nat.reduceAdd, Nat.reduceMul, Nat.reduceEqDiff, Nat.reduceLT, Nat.reduceLeDiff, Nat.reduceBEq, Int.reduceLT, Int.reduceLE, Int.reduceToNat, Int.reduceAdd, Int.reduceSub, Int.reduceMul, Int.reduceEq, Int.reduceNeg, ↓reduceIte, ↓reduceDIte, Nat.beq, reduceCtorEq, Value.int.injEq, flat_bool, hl, hh, a, b, show (I < 10) = (I ≤ 9) by simp only [eq_iff_iff]; omega]
 have hl := low_other op ⟨h19, h20, h21, h27, h22, h23, h24, h68, h69⟩
 by_cases a : -32768 ≤ I <;> by_cases b : I ≤ 32767
 all_goals simp -implicitDefEqProofs only [s57, ↓HEdn, HEup, goInt, splice, okC, Fr.of, Fr.ofI, Fr.g, Nat.reduceAdd, Nat.reduceMul, Nat.reduceEqDiff, Nat.reduceLT, Nat.reduceLeDiff, Nat.reduceBEq, Int.reduceLT, Int.reduceLE, Int.reduceToNat, Int.reduceAdd, Int.reduceSub, Int.reduceMul, Int.reduceEq, Int.reduceNeg, ↓reduceIte, ↓reduceDIte, Nat.beq, reduceCtorEq, Value.int.injEq, flat_bool, hl.1, hl.2, a, b, h19, h20, h21, h27, h22, h23, h24, h68, h69]
theorem v33 (n : Nat) (H : Hp) (op A B C I : Int) : evCall cfc (n+6) 33 [.agg #[.int .i64 op, .int .i64 A, .int .i64 B, .int .i64 C, .int .i64 I]] H = some (.ret (.int .i64 (chkV op A B C I)), H) := by
 rw [q33 (n+5) _ rfl H]
 rcases form_cases op with hf | hf | hf | hf | hf | hf | hf | hf | hf | hf | hf | hf | hf | hf | hf | hf
 · have hk : chkV op A B C I = 5 := by simp only [chkV, hf, if_true]
   simp -implicitDefEqProofs only [s33, s33_b1, v55, v56, v57, wrap_0, wrap_1, wrap_2, wrap_3, rOps_0, rOps_1, rOps_2, rOps_3, rOps_4, rOps_5, rOps_6, rOps_7, rOps_8, rOps_9, rOps_10, rOps_11, rOps_12, rOps_13, rOps_14, rOps_15, sz_e, sz_ff, sx_ff_0, sx_ff_1, sz_fff, sx_fff_0, sx_fff_1, sx_fff_2, sz_fr, sx_fr_0, sx_fr_1, sz_fri, sx_fri_0, sx_fri_1, sx_fri_2, sz_frr, sx_frr_0, sx_frr_1, sx_frr_2, sz_rf, sx_rf_0, sx_rf_1, sz_rff, sx_rff_0, sx_rff_1, sx_rff_2, sz_ri, sx_ri_0, sx_ri_1, sz_rri, sx_rri_0, sx_rri_1, sx_rri_2, sz_rrr, sx_rrr_0, sx_rrr_1, sx_rrr_2, tabs_gn, ↓HEdn, HEup, goInt, splice, okC, Fr.of, Fr.ofI, Fr.g, Nat.reduceAdd, Nat.reduceMul, Nat.reduceEqDiff, Nat.reduceLT, Nat.reduceLeDiff, Nat.reduceBEq, Int.reduceLT, Int.reduceLE, Int.reduceToNat, Int.reduceAdd, Int.reduceSub, Int.reduceMul, Int.reduceEq, Int.reduceNeg, ↓reduceIte, ↓reduceDIte, Nat.beq, reduceCtorEq, Value.int.injEq, flat_int, hf, hk]
 · -- form 1
   have hc : ((A = 0) = False ∧ chkV op A B C I = 6) ∨ ((A = 0) = True ∧ (B = 0) = False ∧ chkV op A B C I = 6) ∨ ((A = 0) = True ∧ (B = 0) = True ∧ (C = 0) = False ∧ chkV op A B C I = 6) ∨ ((A = 0) = True ∧ (B = 0) = True ∧ (C = 0) = True ∧ (I = 0) = False ∧ chkV op A B C I = 6) ∨ ((A = 0) = True ∧ (B = 0) = True ∧ (C = 0) = True ∧ (I = 0) = True ∧ chkV op A B C I = 0) := by
     simp only [chkV, okF, hf, mxA_1, mxB_1, mxC_1, hasF_1, cond_true, cond_false, eq_iff_iff, iff_true, iff_false]
     rw [if_neg (by omega)]
     split <;> omega
   rcases hc with ⟨a2, hk⟩ | ⟨a2, b2, hk⟩ | ⟨a2, b2, c2, hk⟩ | ⟨a2, b2, c2, i2, hk⟩ | ⟨a2, b2, c2, i2, hk⟩
   all_goals simp -implicitDefEqProofs only [s33, s33_b1, v55, v56, v57, wrap_0, wrap_1, wrap_2, wrap_3, rOps_0, rOps_1, rOps_2, rOps_3, rOps_4, rOps_5, rOps_6, rOps_7, rOps_8, rOps_9, rOps_10, rOps_11, rOps_12, rOps_13, rOps_14, rOps_15, sz_e, sz_ff, sx_ff_0, sx_ff_1, sz_fff, sx_fff_0, sx_fff_1, sx_fff_2, sz_fr, sx_fr_0, sx_fr_1, sz_fri, sx_fri_0, sx_fri_1, sx_fri_2, sz_frr, sx_frr_0, sx_frr_1, sx_frr_2, sz_rf, sx_rf_0, sx_rf_1, sz_rff, sx_rff_0, sx_rff_1, sx_rff_2, sz_ri, sx_ri_0, sx_ri_1, sz_rri, sx_rri_0, sx_rri_1, sx_rri_2, sz_rrr, sx_rrr_0, sx_rrr_1, sx_rrr_2, tabs_gn, ↓HEdn, HEup, goInt, splice, okC, Fr.of, Fr.ofI, Fr.g, Nat.reduceAdd, Nat.reduceMul, Nat.reduceEqDiff, Nat.reduceLT, Nat.reduceLeDiff, Nat.reduceBEq, Int.reduceLT, Int.reduceLE, Int.reduceToNat, Int.reduceAdd, Int.reduceSub, Int.reduceMul, Int.reduceEq, Int.reduceNeg, ↓reduceIte, ↓reduceDIte, Nat.beq, reduceCtorEq, Value.int.injEq, flat_int, *]
 · -- form 2
   have hc : ((A < 0) = True ∧ chkV op A B C I = 6) ∨ ((A < 0) = False ∧ (15 < A) = True ∧ chkV op A B C I = 6) ∨ ((A < 0) = False ∧ (15 < A) = False ∧ (B < 0) = True ∧ chkV op A B C I = 6) ∨ ((A < 0) = False ∧ (15 < A) = False ∧ (B < 0) = False ∧ (15 < B) = True ∧ chkV op A B C I = 6) ∨ ((A < 0) = False ∧ (15 < A) = False ∧ (B < 0) = False ∧ (15 < B) = False ∧ (C < 0) = True ∧ chkV op A B C I = 6) ∨ ((A < 0) = False ∧ (15 < A) = False ∧ (B < 0) = False ∧ (15 < B) = False ∧ (C < 0) = False ∧ (15 < C) = True ∧ chkV op A B C I = 6) ∨ ((A < 0) = False ∧ (15 < A) = False ∧ (B < 0) = False ∧ (15 < B) = False ∧ (C < 0) = False ∧ (15 < C) = False ∧ (I = 0) = False ∧ chkV op A B C I = 6) ∨ ((A < 0) = False ∧ (15 < A) = False ∧ (B < 0) = False ∧ (15 < B) = False ∧ (C < 0) = False ∧ (15 < C) = False ∧ (I = 0) = True ∧ chkV op A B C I = 0) := by
     simp only [chkV, okF, hf, mxA_2, mxB_2, mxC_2, hasF_2, cond_true, cond_false, eq_iff_iff, iff_true, iff_false]
     rw [if_neg (by omega)]
     split <;> omega
   rcases hc with ⟨a0, hk⟩ | ⟨a0, a1, hk⟩ | ⟨a0, a1, b0, hk⟩ | ⟨a0, a1, b0, b1, hk⟩ | ⟨a0, a1, b0, b1, c0, hk⟩ | ⟨a0, a1, b0, b1, c0, c1, hk⟩ | ⟨a0, a1, b0, b1, c0, c1, i2, hk⟩ | ⟨a0, a1, b0, b1, c0, c1, i2, hk⟩
   all_goals simp -implicitDefEqProofs only [s33, s33_b1, v55, v56, v57, wrap_0, wrap_1, wrap_2, wrap_3, rOps_0, rOps_1, rOps_2, rOps_3, rOps_4, rOps_5, rOps_6, rOps_7, rOps_8, rOps_9, rOps_10, rOps_11, rOps_12, rOps_13, rOps_14, rOps_15, sz_e, sz_ff, sx_ff_0, sx_ff_1, sz_fff, sx_fff_0, sx_fff_1, sx_fff_2, sz_fr, sx_fr_0, sx_fr_1, sz_fri, sx_fri_0, sx_fri_1, sx_fri_2, sz_frr, sx_frr_0, sx_frr_1, sx_frr_2, sz_rf, sx_rf_0, sx_rf_1, sz_rff, sx_rff_0, sx_rff_1, sx_rff_2, sz_ri, sx_ri_0, sx_ri_1, sz_rri, sx_rri_0, sx_rri_1, sx_rri_2, sz_rrr, sx_rrr_0, sx_rrr_1, sx_rrr_2, tabs_gn, ↓HEdn, HEup, goInt, splice, okC, Fr.of, Fr.ofI, Fr.g, Nat.reduceAdd, Nat.reduceMul, Nat.reduceEqDiff, Nat.reduceLT, Nat.reduceLeDiff, Nat.reduceBEq, Int.reduceLT, Int.reduceLE, Int.reduceToNat, Int.reduceAdd, Int.reduceSub, Int.reduceMul, Int.reduceEq, Int.reduceNeg, ↓reduceIte, ↓reduceDIte, Nat.beq, reduceCtorEq, Value.int.injEq, flat_int, *]
 · -- form 3
   have hc : ((A < 0) = True ∧ chkV op A B C I = 6) ∨ ((A < 0) = False ∧ (15 < A) = True ∧ chkV op A B C I = 6) ∨ ((A < 0) = False ∧ (15 < A) = False ∧ (B < 0) = True ∧ chkV op A B C I = 6) ∨ ((A < 0) = False ∧ (15 < A) = False ∧ (B < 0) = False ∧ (15 < B) = True ∧ chkV op A B C I = 6) ∨ ((A < 0) = False ∧ (15 < A) = False ∧ (B < 0) = False ∧ (15 < B) = False ∧ (C = 0) = False ∧ chkV op A B C I = 6) ∨ ((A < 0) = False ∧ (15 < A) = False ∧ (B < 0) = False ∧ (15 < B) = False ∧ (C = 0) = True ∧ (lowV op ≤ I ∧ I ≤ highV op) = False ∧ chkV op A B C I = 6) ∨ ((A < 0) = False ∧ (15 < A) = False ∧ (B < 0) = False ∧ (15 < B) = False ∧ (C = 0) = True ∧ (lowV op ≤ I ∧ I ≤ highV op) = True ∧ chkV op A B C I = 0) := by
     simp only [chkV, okF, hf, mxA_3, mxB_3, mxC_3, hasF_3, cond_true, cond_false, eq_iff_iff, iff_true, iff_false]
     rw [if_neg (by omega)]
     split <;> omega
   rcases hc with ⟨a0, hk⟩ | ⟨a0, a1, hk⟩ | ⟨a0, a1, b0, hk⟩ | ⟨a0, a1, b0, b1, hk⟩ | ⟨a0, a1, b0, b1, c2, hk⟩ | ⟨a0, a1, b0, b1, c2, i3, hk⟩ | ⟨a0, a1, b0, b1, c2, i3, hk⟩
   all_goals simp -implicitDefEqProofs only [s33, s33_b1, v55, v56, v57, wrap_0, wrap_1, wrap_2, wrap_3, rOps_0, rOps_1, rOps_2, rOps_3, rOps_4, rOps_5, rOps_6, rOps_7, rOps_8, rOps_9, rOps_10, rOps_11, rOps_12, rOps_13, rOps_14, rOps_15, sz_e, sz_ff, sx_ff_0, sx_ff_1, sz_fff, sx_fff_0, sx_fff_1, sx_fff_2, sz_fr, sx_fr_0, sx_fr_1, sz_fri, sx_fri_0, sx_fri_1, sx_fri_2, sz_frr, sx_frr_0, sx_frr_1, sx_frr_2, sz_rf, sx_rf_0, sx_rf_1, sz_rff, sx_rff_0, sx_rff_1, sx_rff_2, sz_ri, sx_ri_0, sx_ri_1, sz_rri, sx_rri_0, sx_rri_1, sx_rri_2, sz_rrr, sx_rrr_0, sx_rrr_1, sx_rrr_2, tabs_gn, ↓HEdn, HEup, goInt, splice, okC, Fr.of, Fr.ofI, Fr.g, Nat.reduceAdd, Nat.reduceMul, Nat.reduceEqDiff, Nat.reduceLT, Nat.reduceLeDiff, Nat.reduceBEq, Int.reduceLT, Int.reduceLE, Int.reduceToNat, Int.reduceAdd, Int.reduceSub, Int.reduceMul, Int.reduceEq, Int.reduceNeg, ↓reduceIte, ↓reduceDIte, Nat.beq, reduceCtorEq, Value.int.injEq, flat_int, *]
 · -- form 4
   have hc : ((A < 0) = True ∧ chkV op A B C I = 6) ∨ ((A < 0) = False ∧ (15 < A) = True ∧ chkV op A B C I = 6) ∨ ((A < 0) = False ∧ (15 < A) = False ∧ (B = 0) = False ∧ chkV op A B C I = 6) ∨ ((A < 0) = False ∧ (15 < A) = False ∧ (B = 0) = True ∧ (C = 0) = False ∧ chkV op A B C I = 6) ∨ ((A < 0) = False ∧ (15 < A) = False ∧ (B = 0) = True ∧ (C = 0) = True ∧ (lowV op ≤ I ∧ I ≤ highV op) = False ∧ chkV op A B C I = 6) ∨ ((A < 0) = False ∧ (15 < A) = False ∧ (B = 0) = True ∧ (C = 0) = True ∧ (lowV op ≤ I ∧ I ≤ highV op) = True ∧ chkV op A B C I = 0) := by
     simp only [chkV, okF, hf, mxA_4, mxB_4, mxC_4, hasF_4, cond_true, cond_false, eq_iff_iff, iff_true, iff_false]
     rw [if_neg (by omega)]
     split <;> omega
   rcases hc with ⟨a0, hk⟩ | ⟨a0, a1, hk⟩ | ⟨a0, a1, b2, hk⟩ | ⟨a0, a1, b2, c2, hk⟩ | ⟨a0, a1, b2, c2, i3, hk⟩ | ⟨a0, a1, b2, c2, i3, hk⟩
   all_goals simp -implicitDefEqProofs only [s33, s33_b1, v55, v56, v57, wrap_0, wrap_1, wrap_2, wrap_3, rOps_0, rOps_1, rOps_2, rOps_3, rOps_4, rOps_5, rOps_6, rOps_7, rOps_8, rOps_9, rOps_10, rOps_11, rOps_12, rOps_13, rOps_14, rOps_15, sz_e, sz_ff, sx_ff_0, sx_ff_1, sz_fff, sx_fff_0, sx_fff_1, sx_fff_2, sz_fr, sx_fr_0, sx_fr_1, sz_fri, sx_fri_0, sx_fri_1, sx_fri_2, sz_frr, sx_frr_0, sx_frr_1, sx_frr_2, sz_rf, sx_rf_0, sx_rf_1, sz_rff, sx_rff_0, sx_rff_1, sx_rff_2, sz_ri, sx_ri_0, sx_ri_1, sz_rri, sx_rri_0, sx_rri_1, sx_rri_2, sz_rrr, sx_rrr_0, sx_rrr_1, sx_rrr_2, tabs_gn, ↓HEdn, HEup, goInt, splice, okC, Fr.of, Fr.ofI, Fr.g, Nat.reduceAdd, Nat.reduceMul, Nat.reduceEqDiff, Nat.reduceLT, Nat.reduceLeDiff, Nat.reduceBEq, Int.reduceLT, Int.reduceLE, Int.reduceToNat, Int.reduceAdd, Int.reduceSub, Int.reduceMul, Int.reduceEq, Int.reduceNeg, ↓reduceIte, ↓reduceDIte, Nat.beq, reduceCtorEq, Value.int.injEq, flat_int, *]
 · -- form 5
   have hc : ((A < 0) = True ∧ chkV op A B C I = 6) ∨ ((A < 0) = False ∧ (15 < A) = True ∧ chkV op A B C I = 6) ∨ ((A < 0) = False ∧ (15 < A) = False ∧ (B < 0) = True ∧ chkV op A B C I = 6) ∨ ((A < 0) = False ∧ (15 < A) = False ∧ (B < 0) = False ∧ (15 < B) = True ∧ chkV op A B C I = 6) ∨ ((A < 0) = False ∧ (15 < A) = False ∧ (B < 0) = False ∧ (15 < B) = False ∧ (C = 0) = False ∧ chkV op A B C I = 6) ∨ ((A < 0) = False ∧ (15 < A) = False ∧ (B < 0) = False ∧ (15 < B) = False ∧ (C = 0) = True ∧ (lowV op ≤ I ∧ I ≤ highV op) = False ∧ chkV op A B C I = 6) ∨ ((A < 0) = False ∧ (15 < A) = False ∧ (B < 0) = False ∧ (15 < B) = False ∧ (C = 0) = True ∧ (lowV op ≤ I ∧ I ≤ highV op) = True ∧ chkV op A B C I = 0) := by
     simp only [chkV, okF, hf, mxA_5, mxB_5, mxC_5, hasF_5, cond_true, cond_false, eq_iff_iff, iff_true, iff_false]
     rw [if_neg (by omega)]
     split <;> omega
   rcases hc with ⟨a0, hk⟩ | ⟨a0, a1, hk⟩ | ⟨a0, a1, b0, hk⟩ | ⟨a0, a1, b0, b1, hk⟩ | ⟨a0, a1, b0, b1, c2, hk⟩ | ⟨a0, a1, b0, b1, c2, i3, hk⟩ | ⟨a0, a1, b0, b1, c2, i3, hk⟩
   all_goals simp -implicitDefEqProofs only [s33, s33_b1, v55, v56, v57, wrap_0, wrap_1, wrap_2, wrap_3, rOps_0, rOps_1, rOps_2, rOps_3, rOps_4, rOps_5, rOps_6, rOps_7, rOps_8, rOps_9, rOps_10, rOps_11, rOps_12, rOps_13, rOps_14, rOps_15, sz_e, sz_ff, sx_ff_0, sx_ff_1, sz_fff, sx_fff_0, sx_fff_1, sx_fff_2, sz_fr, sx_fr_0, sx_fr_1, sz_fri, sx_fri_0, sx_fri_1, sx_fri_2, sz_frr, sx_frr_0, sx_frr_1, sx_frr_2, sz_rf, sx_rf_0, sx_rf_1, sz_rff, sx_rff_0, sx_rff_1, sx_rff_2, sz_ri, sx_ri_0, sx_ri_1, sz_rri, sx_rri_0, sx_rri_1, sx_rri_2, sz_rrr, sx_rrr_0, sx_rrr_1, sx_rrr_2, tabs_gn, ↓HEdn, HEup, goInt, splice, okC, Fr.of, Fr.ofI, Fr.g, Nat.reduceAdd, Nat.reduceMul, Nat.reduceEqDiff, Nat.reduceLT, Nat.reduceLeDiff, Nat.reduceBEq, Int.reduceLT, Int.reduceLE, Int.reduceToNat, Int.reduceAdd, Int.reduceSub, Int.reduceMul, Int.reduceEq, Int.reduceNeg, ↓reduceIte, ↓reduceDIte, Nat.beq, reduceCtorEq, Value.int.injEq, flat_int, *]
 · -- form 6
   have hc : ((A < 0) = True ∧ chkV op A B C I = 6) ∨ ((A < 0) = False ∧ (7 < A) = True ∧ chkV op A B C I = 6) ∨ ((A < 0) = False ∧ (7 < A) = False ∧ (B < 0) = True ∧ chkV op A B C I = 6) ∨ ((A < 0) = False ∧ (7 < A) = False ∧ (B < 0) = False ∧ (15 < B) = True ∧ chkV op A B C I = 6) ∨ ((A < 0) = False ∧ (7 < A) = False ∧ (B < 0) = False ∧ (15 < B) = False ∧ (C = 0) = False ∧ chkV op A B C I = 6) ∨ ((A < 0) = False ∧ (7 < A) = False ∧ (B < 0) = False ∧ (15 < B) = False ∧ (C = 0) = True ∧ (lowV op ≤ I ∧ I ≤ highV op) = False ∧ chkV op A B C I = 6) ∨ ((A < 0) = False ∧ (7 < A) = False ∧ (B < 0) = False ∧ (15 < B) = False ∧ (C = 0) = True ∧ (lowV op ≤ I ∧ I ≤ highV op) = True ∧ chkV op A B C I = 0) := by
     simp only [chkV, okF, hf, mxA_6, mxB_6, mxC_6, hasF_6, cond_true, cond_false, eq_iff_iff, iff_true, iff_false]
     rw [if_neg (by omega)]
     split <;> omega
   rcases hc with ⟨a0, hk⟩ | ⟨a0, a1, hk⟩ | ⟨a0, a1, b0, hk⟩ | ⟨a0, a1, b0, b1, hk⟩ | ⟨a0, a1, b0, b1, c2, hk⟩ | ⟨a0, a1, b0, b1, c2, i3, hk⟩ | ⟨a0, a1, b0, b1, c2, i3, hk⟩
   all_goals simp -implicitDefEqProofs only [s33, s33_b1, v55, v56, v57, wrap_0, wrap_1, wrap_2, wrap_3, rOps_0, rOps_1, rOps_2, rOps_3, rOps_4, rOps_5, rOps_6, rOps_7, rOps_8, rOps_9, rOps_10, rOps_11, rOps_12, rOps_13, rOps_14, rOps_15, sz_e, sz_ff, sx_ff_0, sx_ff_1, sz_fff, sx_fff_0, sx_fff_1, sx_fff_2, sz_fr, sx_fr_0, sx_fr_1, sz_fri, sx_fri_0, sx_fri_1, sx_fri_2, sz_frr, sx_frr_0, sx_frr_1, sx_frr_2, sz_rf, sx_rf_0, sx_rf_1, sz_rff, sx_rff_0, sx_rff_1, sx_rff_2, sz_ri, sx_ri_0, sx_ri_1, sz_rri, sx_rri_0, sx_rri_1, sx_rri_2, sz_rrr, sx_rrr_0, sx_rrr_1, sx_rrr_2, tabs_gn, ↓HEdn, HEup, goInt, splice, okC, Fr.of, Fr.ofI, Fr.g, Nat.reduceAdd, Nat.reduceMul, Nat.reduceEqDiff, Nat.reduceLT, Nat.reduceLeDiff, Nat.reduceBEq, Int.reduceLT, Int.reduceLE, Int.reduceToNat, Int.reduceAdd, Int.reduceSub, Int.reduceMul, Int.reduceEq, Int.reduceNeg, ↓reduceIte, ↓reduceDIte, Nat.beq, reduceCtorEq, Value.int.injEq, flat_int, *]
 · -- form 7
   have hc : ((A < 0) = True ∧ chkV op A B C I = 6) ∨ ((A < 0) = False ∧ (15 < A) = True ∧ chkV op A B C I = 6) ∨ ((A < 0) = False ∧ (15 < A) = False ∧ (B < 0) = True ∧ chkV op A B C I = 6) ∨ ((A < 0) = False ∧ (15 < A) = False ∧ (B < 0) = False ∧ (15 < B) = True ∧ chkV op A B C I = 6) ∨ ((A < 0) = False ∧ (15 < A) = False ∧ (B < 0) = False ∧ (15 < B) = False ∧ (C = 0) = False ∧ chkV op A B C I = 6) ∨ ((A < 0) = False ∧ (15 < A) = False ∧ (B < 0) = False ∧ (15 < B) = False ∧ (C = 0) = True ∧ (lowV op ≤ I ∧ I ≤ highV op) = False ∧ chkV op A B C I = 6) ∨ ((A < 0) = False ∧ (15 < A) = False ∧ (B < 0) = False ∧ (15 < B) = False ∧ (C = 0) = True ∧ (lowV op ≤ I ∧ I ≤ highV op) = True ∧ chkV op A B C I = 0) := by
     simp only [chkV, okF, hf, mxA_7, mxB_7, mxC_7, hasF_7, cond_true, cond_false, eq_iff_iff, iff_true, iff_false]
     rw [if_neg (by omega)]
     split <;> omega
   rcases hc with ⟨a0, hk⟩ | ⟨a0, a1, hk⟩ | ⟨a0, a1, b0, hk⟩ | ⟨a0, a1, b0, b1, hk⟩ | ⟨a0, a1, b0, b1, c2, hk⟩ | ⟨a0, a1, b0, b1, c2, i3, hk⟩ | ⟨a0, a1, b0, b1, c2, i3, hk⟩
   all_goals simp -implicitDefEqProofs only [s33, s33_b1, v55, v56, v57, wrap_0, wrap_1, wrap_2, wrap_3, rOps_0, rOps_1, rOps_2, rOps_3, rOps_4, rOps_5, rOps_6, rOps_7, rOps_8, rOps_9, rOps_10, rOps_11, rOps_12, rOps_13, rOps_14, rOps_15, sz_e, sz_ff, sx_ff_0, sx_ff_1, sz_fff, sx_fff_0, sx_fff_1, sx_fff_2, sz_fr, sx_fr_0, sx_fr_1, sz_fri, sx_fri_0, sx_fri_1, sx_fri_2, sz_frr, sx_frr_0, sx_frr_1, sx_frr_2, sz_rf, sx_rf_0, sx_rf_1, sz_rff, sx_rff_0, sx_rff_1, sx_rff_2, sz_ri, sx_ri_0, sx_ri_1, sz_rri, sx_rri_0, sx_rri_1, sx_rri_2, sz_rrr, sx_rrr_0, sx_rrr_1, sx_rrr_2, tabs_gn, ↓HEdn, HEup, goInt, splice, okC, Fr.of, Fr.ofI, Fr.g, Nat.reduceAdd, Nat.reduceMul, Nat.reduceEqDiff, Nat.reduceLT, Nat.reduceLeDiff, Nat.reduceBEq, Int.reduceLT, Int.reduceLE, Int.reduceToNat, Int.reduceAdd, Int.reduceSub, Int.reduceMul, Int.reduceEq, Int.reduceNeg, ↓reduceIte, ↓reduceDIte, Nat.beq, reduceCtorEq, Value.int.injEq, flat_int, *]
 · -- form 8
   have hc : ((A < 0) = True ∧ chkV op A B C I = 6) ∨ ((A < 0) = False ∧ (15 < A) = True ∧ chkV op A B C I = 6) ∨ ((A < 0) = False ∧ (15 < A) = False ∧ (B = 0) = False ∧ chkV op A B C I = 6) ∨ ((A < 0) = False ∧ (15 < A) = False ∧ (B = 0) = True ∧ (C = 0) = False ∧ chkV op A B C I = 6) ∨ ((A < 0) = False ∧ (15 < A) = False ∧ (B = 0) = True ∧ (C = 0) = True ∧ (lowV op ≤ I ∧ I ≤ highV op) = False ∧ chkV op A B C I = 6) ∨ ((A < 0) = False ∧ (15 < A) = False ∧ (B = 0) = True ∧ (C = 0) = True ∧ (lowV op ≤ I ∧ I ≤ highV op) = True ∧ chkV op A B C I = 0) := by
     simp only [chkV, okF, hf, mxA_8, mxB_8, mxC_8, hasF_8, cond_true, cond_false, eq_iff_iff, iff_true, iff_false]
     rw [if_neg (by omega)]
     split <;> omega
   rcases hc with ⟨a0, hk⟩ | ⟨a0, a1, hk⟩ | ⟨a0, a1, b2, hk⟩ | ⟨a0, a1, b2, c2, hk⟩ | ⟨a0, a1, b2, c2, i3, hk⟩ | ⟨a0, a1, b2, c2, i3, hk⟩
   all_goals simp -implicitDefEqProofs only [s33, s33_b1, v55, v56, v57, wrap_0, wrap_1, wrap_2, wrap_3, rOps_0, rOps_1, rOps_2, rOps_3, rOps_4, rOps_5, rOps_6, rOps_7, rOps_8, rOps_9, rOps_10, rOps_11, rOps_12, rOps_13, rOps_14, rOps_15, sz_e, sz_ff, sx_ff_0, sx_ff_1, sz_fff, sx_fff_0, sx_fff_1, sx_fff_2, sz_fr, sx_fr_0, sx_fr_1, sz_fri, sx_fri_0, sx_fri_1, sx_fri_2, sz_frr, sx_frr_0, sx_frr_1, sx_frr_2, sz_rf, sx_rf_0, sx_rf_1, sz_rff, sx_rff_0, sx_rff_1, sx_rff_2, sz_ri, sx_ri_0, sx_ri_1, sz_rri, sx_rri_0, sx_rri_1, sx_rri_2, sz_rrr, sx_rrr_0, sx_rrr_1, sx_rrr_2, tabs_gn, ↓HEdn, HEup, goInt, splice, okC, Fr.of, Fr.ofI, Fr.g, Nat.reduceAdd, Nat.reduceMul, Nat.reduceEqDiff, Nat.reduceLT, Nat.reduceLeDiff, Nat.reduceBEq, Int.reduceLT, Int.reduceLE, Int.reduceToNat, Int.reduceAdd, Int.reduceSub, Int.reduceMul, Int.reduceEq, Int.reduceNeg, ↓reduceIte, ↓reduceDIte, Nat.beq, reduceCtorEq, Value.int.injEq, flat_int, *]
 · -- form 9
   have hc : ((A < 0) = True ∧ chkV op A B C I = 6) ∨ ((A < 0) = False ∧ (7 < A) = True ∧ chkV op A B C I = 6) ∨ ((A < 0) = False ∧ (7 < A) = False ∧ (B < 0) = True ∧ chkV op A B C I = 6) ∨ ((A < 0) = False ∧ (7 < A) = False ∧ (B < 0) = False ∧ (7 < B) = True ∧ chkV op A B C I = 6) ∨ ((A < 0) = False ∧ (7 < A) = False ∧ (B < 0) = False ∧ (7 < B) = False ∧ (C < 0) = True ∧ chkV op A B C I = 6) ∨ ((A < 0) = False ∧ (7 < A) = False ∧ (B < 0) = False ∧ (7 < B) = False ∧ (C < 0) = False ∧ (7 < C) = True ∧ chkV op A B C I = 6) ∨ ((A < 0) = False ∧ (7 < A) = False ∧ (B < 0) = False ∧ (7 < B) = False ∧ (C < 0) = False ∧ (7 < C) = False ∧ (I = 0) = False ∧ chkV op A B C I = 6) ∨ ((A < 0) = False ∧ (7 < A) = False ∧ (B < 0) = False ∧ (7 < B) = False ∧ (C < 0) = False ∧ (7 < C) = False ∧ (I = 0) = True ∧ chkV op A B C I = 0) := by
     simp only [chkV, okF, hf, mxA_9, mxB_9, mxC_9, hasF_9, cond_true, cond_false, eq_iff_iff, iff_true, iff_false]
     rw [if_neg (by omega)]
     split <;> omega
   rcases hc with ⟨a0, hk⟩ | ⟨a0, a1, hk⟩ | ⟨a0, a1, b0, hk⟩ | ⟨a0, a1, b0, b1, hk⟩ | ⟨a0, a1, b0, b1, c0, hk⟩ | ⟨a0, a1, b0, b1, c0, c1, hk⟩ | ⟨a0, a1, b0, b1, c0, c1, i2, hk⟩ | ⟨a0, a1, b0, b1, c0, c1, i2, hk⟩
   all_goals simp -implicitDefEqProofs only [s33, s33_b1, v55, v56, v57, wrap_0, wrap_1, wrap_2, wrap_3, rOps_0, rOps_1, rOps_2, rOps_3, rOps_4, rOps_5, rOps_6, rOps_7, rOps_8, rOps_9, rOps_10, rOps_11, rOps_12, rOps_13, rOps_14, rOps_15, sz_e, sz_ff, sx_ff_0, sx_ff_1, sz_fff, sx_fff_0, sx_fff_1, sx_fff_2, sz_fr, sx_fr_0, sx_fr_1, sz_fri, sx_fri_0, sx_fri_1, sx_fri_2, sz_frr, sx_frr_0, sx_frr_1, sx_frr_2, sz_rf, sx_rf_0, sx_rf_1, sz_rff, sx_rff_0, sx_rff_1, sx_rff_2, sz_ri, sx_ri_0, sx_ri_1, sz_rri, sx_rri_0, sx_rri_1, sx_rri_2, sz_rrr, sx_rrr_0, sx_rrr_1, sx_rrr_2, tabs_gn, ↓HEdn, HEup, goInt, splice, okC, Fr.of, Fr.ofI, Fr.g, Nat.reduceAdd, Nat.reduceMul, Nat.reduceEqDiff, Nat.reduceLT, Nat.reduceLeDiff, Nat.reduceBEq, Int.reduceLT, Int.reduceLE, Int.reduceToNat, Int.reduceAdd, Int.reduceSub, Int.reduceMul, Int.reduceEq, Int.reduceNeg, ↓reduceIte, ↓reduceDIte, Nat.beq, reduceCtorEq, Value.int.injEq, flat_int, *]
 · -- form 10
   have hc : ((A < 0) = True ∧ chkV op A B C I = 6) ∨ ((A < 0) = False ∧ (7 < A) = True ∧ chkV op A B C I = 6) ∨ ((A < 0) = False ∧ (7 < A) = False ∧ (B < 0) = True ∧ chkV op A B C I = 6) ∨ ((A < 0) = False ∧ (7 < A) = False ∧ (B < 0) = False ∧ (7 < B) = True ∧ chkV op A B C I = 6) ∨ ((A < 0) = False ∧ (7 < A) = False ∧ (B < 0) = False ∧ (7 < B) = False ∧ (C = 0) = False ∧ chkV op A B C I = 6) ∨ ((A < 0) = False ∧ (7 < A) = False ∧ (B < 0) = False ∧ (7 < B) = False ∧ (C = 0) = True ∧ (I = 0) = False ∧ chkV op A B C I = 6) ∨ ((A < 0) = False ∧ (7 < A) = False ∧ (B < 0) = False ∧ (7 < B) = False ∧ (C = 0) = True ∧ (I = 0) = True ∧ chkV op A B C I = 0) := by
     simp only [chkV, okF, hf, mxA_10, mxB_10, mxC_10, hasF_10, cond_true, cond_false, eq_iff_iff, iff_true, iff_false]
     rw [if_neg (by omega)]
     split <;> omega
   rcases hc with ⟨a0, hk⟩ | ⟨a0, a1, hk⟩ | ⟨a0, a1, b0, hk⟩ | ⟨a0, a1, b0, b1, hk⟩ | ⟨a0, a1, b0, b1, c2, hk⟩ | ⟨a0, a1, b0, b1, c2, i2, hk⟩ | ⟨a0, a1, b0, b1, c2, i2, hk⟩
   all_goals simp -implicitDefEqProofs only [s33, s33_b1, v55, v56, v57, wrap_0, wrap_1, wrap_2, wrap_3, rOps_0, rOps_1, rOps_2, rOps_3, rOps_4, rOps_5, rOps_6, rOps_7, rOps_8, rOps_9, rOps_10, rOps_11, rOps_12, rOps_13, rOps_14, rOps_15, sz_e, sz_ff, sx_ff_0, sx_ff_1, sz_fff, sx_fff_0, sx_fff_1, sx_fff_2, sz_fr, sx_fr_0, sx_fr_1, sz_fri, sx_fri_0, sx_fri_1, sx_fri_2, sz_frr, sx_frr_0, sx_frr_1, sx_frr_2, sz_rf, sx_rf_0, sx_rf_1, sz_rff, sx_rff_0, sx_rff_1, sx_rff_2, sz_ri, sx_ri_0, sx_ri_1, sz_rri, sx_rri_0, sx_rri_1, sx_rri_2, sz_rrr, sx_rrr_0, sx_rrr_1, sx_rrr_2, tabs_gn, ↓HEdn, HEup, goInt, splice, okC, Fr.of, Fr.ofI, Fr.g, Nat.reduceAdd, Nat.reduceMul, Nat.reduceEqDiff, Nat.reduceLT, Nat.reduceLeDiff, Nat.reduceBEq, Int.reduceLT, Int.reduceLE, Int.reduceToNat, Int.reduceAdd, Int.reduceSub, Int.reduceMul, Int.reduceEq, Int.reduceNeg, ↓reduceIte, ↓reduceDIte, Nat.beq, reduceCtorEq, Value.int.injEq, flat_int, *]
 · -- form 11
   have hc : ((A < 0) = True ∧ chkV op A B C I = 6) ∨ ((A < 0) = False ∧ (15 < A) = True ∧ chkV op A B C I = 6) ∨ ((A < 0) = False ∧ (15 < A) = False ∧ (B < 0) = True ∧ chkV op A B C I = 6) ∨ ((A < 0) = False ∧ (15 < A) = False ∧ (B < 0) = False ∧ (7 < B) = True ∧ chkV op A B C I = 6) ∨ ((A < 0) = False ∧ (15 < A) = False ∧ (B < 0) = False ∧ (7 < B) = False ∧ (C < 0) = True ∧ chkV op A B C I = 6) ∨ ((A < 0) = False ∧ (15 < A) = False ∧ (B < 0) = False ∧ (7 < B) = False ∧ (C < 0) = False ∧ (7 < C) = True ∧ chkV op A B C I = 6) ∨ ((A < 0) = False ∧ (15 < A) = False ∧ (B < 0) = False ∧ (7 < B) = False ∧ (C < 0) = False ∧ (7 < C) = False ∧ (I = 0) = False ∧ chkV op A B C I = 6) ∨ ((A < 0) = False ∧ (15 < A) = False ∧ (B < 0) = False ∧ (7 < B) = False ∧ (C < 0) = False ∧ (7 < C) = False ∧ (I = 0) = True ∧ chkV op A B C I = 0) := by
     simp only [chkV, okF, hf, mxA_11, mxB_11, mxC_11, hasF_11, cond_true, cond_false, eq_iff_iff, iff_true, iff_false]
     rw [if_neg (by omega)]
     split <;> omega
   rcases hc with ⟨a0, hk⟩ | ⟨a0, a1, hk⟩ | ⟨a0, a1, b0, hk⟩ | ⟨a0, a1, b0, b1, hk⟩ | ⟨a0, a1, b0, b1, c0, hk⟩ | ⟨a0, a1, b0, b1, c0, c1, hk⟩ | ⟨a0, a1, b0, b1, c0, c1, i2, hk⟩ | ⟨a0, a1, b0, b1, c0, c1, i2, hk⟩
   all_goals simp -implicitDefEqProofs only [s33, s33_b1, v55, v56, v57, wrap_0, wrap_1, wrap_2, wrap_3, rOps_0, rOps_1, rOps_2, rOps_3, rOps_4, rOps_5, rOps_6, rOps_7, rOps_8, rOps_9, rOps_10, rOps_11, rOps_12, rOps_13, rOps_14, rOps_15, sz_e, sz_ff, sx_ff_0, sx_ff_1, sz_fff, sx_fff_0, sx_fff_1, sx_fff_2, sz_fr, sx_fr_0, sx_fr_1, sz_fri, sx_fri_0, sx_fri_1, sx_fri_2, sz_frr, sx_frr_0, sx_frr_1, sx_frr_2, sz_rf, sx_rf_0, sx_rf_1, sz_rff, sx_rff_0, sx_rff_1, sx_rff_2, sz_ri, sx_ri_0, sx_ri_1, sz_rri, sx_rri_0, sx_rri_1, sx_rri_2, sz_rrr, sx_rrr_0, sx_rrr_1, sx_rrr_2, tabs_gn, ↓HEdn, HEup, goInt, splice, okC, Fr.of, Fr.ofI, Fr.g, Nat.reduceAdd, Nat.reduceMul, Nat.reduceEqDiff, Nat.reduceLT, Nat.reduceLeDiff, Nat.reduceBEq, Int.reduceLT, Int.reduceLE, Int.reduceToNat, Int.reduceAdd, Int.reduceSub, Int.reduceMul, Int.reduceEq, Int.reduceNeg, ↓reduceIte, ↓reduceDIte, Nat.beq, reduceCtorEq, Value.int.injEq, flat_int, *]
 · -- form 12
   have hc : ((A < 0) = True ∧ chkV op A B C I = 6) ∨ ((A < 0) = False ∧ (15 < A) = True ∧ chkV op A B C I = 6) ∨ ((A < 0) = False ∧ (15 < A) = False ∧ (B < 0) = True ∧ chkV op A B C I = 6) ∨ ((A < 0) = False ∧ (15 < A) = False ∧ (B < 0) = False ∧ (7 < B) = True ∧ chkV op A B C I = 6) ∨ ((A < 0) = False ∧ (15 < A) = False ∧ (B < 0) = False ∧ (7 < B) = False ∧ (C = 0) = False ∧ chkV op A B C I = 6) ∨ ((A < 0) = False ∧ (15 < A) = False ∧ (B < 0) = False ∧ (7 < B) = False ∧ (C = 0) = True ∧ (I = 0) = False ∧ chkV op A B C I = 6) ∨ ((A < 0) = False ∧ (15 < A) = False ∧ (B < 0) = False ∧ (7 < B) = False ∧ (C = 0) = True ∧ (I = 0) = True ∧ chkV op A B C I = 0) := by
     simp only [chkV, okF, hf, mxA_12, mxB_12, mxC_12, hasF_12, cond_true, cond_false, eq_iff_iff, iff_true, iff_false]
     rw [if_neg (by omega)]
     split <;> omega
   rcases hc with ⟨a0, hk⟩ | ⟨a0, a1, hk⟩ | ⟨a0, a1, b0, hk⟩ | ⟨a0, a1, b0, b1, hk⟩ | ⟨a0, a1, b0, b1, c2, hk⟩ | ⟨a0, a1, b0, b1, c2, i2, hk⟩ | ⟨a0, a1, b0, b1, c2, i2, hk⟩
   all_goals simp -implicitDefEqProofs only [s33, s33_b1, v55, v56, v57, wrap_0, wrap_1, wrap_2, wrap_3, rOps_0, rOps_1, rOps_2, rOps_3, rOps_4, rOps_5, rOps_6, rOps_7, rOps_8, rOps_9, rOps_10, rOps_11, rOps_12, rOps_13, rOps_14, rOps_15, sz_e, sz_ff, sx_ff_0, sx_ff_1, sz_fff, sx_fff_0, sx_fff_1, sx_fff_2, sz_fr, sx_fr_0, sx_fr_1, sz_fri, sx_fri_0, sx_fri_1, sx_fri_2, sz_frr, sx_frr_0, sx_frr_1, sx_frr_2, sz_rf, sx_rf_0, sx_rf_1, sz_rff, sx_rff_0, sx_rff_1, sx_rff_2, sz_ri, sx_ri_0, sx_ri_1, sz_rri, sx_rri_0, sx_rri_1, sx_rri_2, sz_rrr, sx_rrr_0, sx_rrr_1, sx_rrr_2, tabs_gn, ↓HEdn, HEup, goInt, splice, okC, Fr.of, Fr.ofI, Fr.g, Nat.reduceAdd, Nat.reduceMul, Nat.reduceEqDiff, Nat.reduceLT, Nat.reduceLeDiff, Nat.reduceBEq, Int.reduceLT, Int.reduceLE, Int.reduceToNat, Int.reduceAdd, Int.reduceSub, Int.reduceMul, Int.reduceEq, Int.reduceNeg, ↓reduceIte, ↓reduceDIte, Nat.beq, reduceCtorEq, Value.int.injEq, flat_int, *]
 · -- form 13
   have hc : ((A < 0) = True ∧ chkV op A B C I = 6) ∨ ((A < 0) = False ∧ (7 < A) = True ∧ chkV op A B C I = 6) ∨ ((A < 0) = False ∧ (7 < A) = False ∧ (B < 0) = True ∧ chkV op A B C I = 6) ∨ ((A < 0) = False ∧ (7 < A) = False ∧ (B < 0) = False ∧ (15 < B) = True ∧ chkV op A B C I = 6) ∨ ((A < 0) = False ∧ (7 < A) = False ∧ (B < 0) = False ∧ (15 < B) = False ∧ (C = 0) = False ∧ chkV op A B C I = 6) ∨ ((A < 0) = False ∧ (7 < A) = False ∧ (B < 0) = False ∧ (15 < B) = False ∧ (C = 0) = True ∧ (I = 0) = False ∧ chkV op A B C I = 6) ∨ ((A < 0) = False ∧ (7 < A) = False ∧ (B < 0) = False ∧ (15 < B) = False ∧ (C = 0) = True ∧ (I = 0) = True ∧ chkV op A B C I = 0) := by
     simp only [chkV, okF, hf, mxA_13, mxB_13, mxC_13, hasF_13, cond_true, cond_false, eq_iff_iff, iff_true, iff_false]
     rw [if_neg (by omega)]
     split <;> omega
   rcases hc with ⟨a0, hk⟩ | ⟨a0, a1, hk⟩ | ⟨a0, a1, b0, hk⟩ | ⟨a0, a1, b0, b1, hk⟩ | ⟨a0, a1, b0, b1, c2, hk⟩ | ⟨a0, a1, b0, b1, c2, i2, hk⟩ | ⟨a0, a1, b0, b1, c2, i2, hk⟩
   all_goals simp -implicitDefEqProofs only [s33, s33_b1, v55, v56, v57, wrap_0, wrap_1, wrap_2, wrap_3, rOps_0, rOps_1, rOps_2, rOps_3, rOps_4, rOps_5, rOps_6, rOps_7, rOps_8, rOps_9, rOps_10, rOps_11, rOps_12, rOps_13, rOps_14, rOps_15, sz_e, sz_ff, sx_ff_0, sx_ff_1, sz_fff, sx_fff_0, sx_fff_1, sx_fff_2, sz_fr, sx_fr_0, sx_fr_1, sz_fri, sx_fri_0, sx_fri_1, sx_fri_2, sz_frr, sx_frr_0, sx_frr_1, sx_frr_2, sz_rf, sx_rf_0, sx_rf_1, sz_rff, sx_rff_0, sx_rff_1, sx_rff_2, sz_ri, sx_ri_0, sx_ri_1, sz_rri, sx_rri_0, sx_rri_1, sx_rri_2, sz_rrr, sx_rrr_0, sx_rrr_1, sx_rrr_2, tabs_gn, ↓HEdn, HEup, goInt, splice, okC, Fr.of, Fr.ofI, Fr.g, Nat.reduceAdd, Nat.reduceMul, Nat.reduceEqDiff, Nat.reduceLT, Nat.reduceLeDiff, Nat.reduceBEq, Int.reduceLT, Int.reduceLE, Int.reduceToNat, Int.reduceAdd, Int.reduceSub, Int.reduceMul, Int.reduceEq, Int.reduceNeg, ↓reduceIte, ↓reduceDIte, Nat.beq, reduceCtorEq, Value.int.injEq, flat_int, *]
 · -- form 14
   have hc : ((A < 0) = True ∧ chkV op A B C I = 6) ∨ ((A < 0) = False ∧ (7 < A) = True ∧ chkV op A B C I = 6) ∨ ((A < 0) = False ∧ (7 < A) = False ∧ (B < 0) = True ∧ chkV op A B C I = 6) ∨ ((A < 0) = False ∧ (7 < A) = False ∧ (B < 0) = False ∧ (15 < B) = True ∧ chkV op A B C I = 6) ∨ ((A < 0) = False ∧ (7 < A) = False ∧ (B < 0) = False ∧ (15 < B) = False ∧ (C < 0) = True ∧ chkV op A B C I = 6) ∨ ((A < 0) = False ∧ (7 < A) = False ∧ (B < 0) = False ∧ (15 < B) = False ∧ (C < 0) = False ∧ (15 < C) = True ∧ chkV op A B C I = 6) ∨ ((A < 0) = False ∧ (7 < A) = False ∧ (B < 0) = False ∧ (15 < B) = False ∧ (C < 0) = False ∧ (15 < C) = False ∧ (I = 0) = False ∧ chkV op A B C I = 6) ∨ ((A < 0) = False ∧ (7 < A) = False ∧ (B < 0) = False ∧ (15 < B) = False ∧ (C < 0) = False ∧ (15 < C) = False ∧ (I = 0) = True ∧ chkV op A B C I = 0) := by
     simp only [chkV, okF, hf, mxA_14, mxB_14, mxC_14, hasF_14, cond_true, cond_false, eq_iff_iff, iff_true, iff_false]
     rw [if_neg (by omega)]
     split <;> omega
   rcases hc with ⟨a0, hk⟩ | ⟨a0, a1, hk⟩ | ⟨a0, a1, b0, hk⟩ | ⟨a0, a1, b0, b1, hk⟩ | ⟨a0, a1, b0, b1, c0, hk⟩ | ⟨a0, a1, b0, b1, c0, c1, hk⟩ | ⟨a0, a1, b0, b1, c0, c1, i2, hk⟩ | ⟨a0, a1, b0, b1, c0, c1, i2, hk⟩
   all_goals simp -implicitDefEqProofs only [s33, s33_b1, v55, v56, v57, wrap_0, wrap_1, wrap_2, wrap_3, rOps_0, rOps_1, rOps_2, rOps_3, rOps_4, rOps_5, rOps_6, rOps_7, rOps_8, rOps_9, rOps_10, rOps_11, rOps_12, rOps_13, rOps_14, rOps_15, sz_e, sz_ff, sx_ff_0, sx_ff_1, sz_fff, sx_fff_0, sx_fff_1, sx_fff_2, sz_fr, sx_fr_0, sx_fr_1, sz_fri, sx_fri_0, sx_fri_1, sx_fri_2, sz_frr, sx_frr_0, sx_frr_1, sx_frr_2, sz_rf, sx_rf_0, sx_rf_1, sz_rff, sx_rff_0, sx_rff_1, sx_rff_2, sz_ri, sx_ri_0, sx_ri_1, sz_rri, sx_rri_0, sx_rri_1, sx_rri_2, sz_rrr, sx_rrr_0, sx_rrr_1, sx_rrr_2, tabs_gn, ↓HEdn, HEup, goInt, splice, okC, Fr.of, Fr.ofI, Fr.g, Nat.reduceAdd, Nat.reduceMul, Nat.reduceEqDiff, Nat.reduceLT, Nat.reduceLeDiff, Nat.reduceBEq, Int.reduceLT, Int.reduceLE, Int.reduceToNat, Int.reduceAdd, Int.reduceSub, Int.reduceMul, Int.reduceEq, Int.reduceNeg, ↓reduceIte, ↓reduceDIte, Nat.beq, reduceCtorEq, Value.int.injEq, flat_int, *]
 · -- form 15
   have hc : ((A < 0) = True ∧ chkV op A B C I = 6) ∨ ((A < 0) = False ∧ (15 < A) = True ∧ chkV op A B C I = 6) ∨ ((A < 0) = False ∧ (15 < A) = False ∧ (B = 0) = False ∧ chkV op A B C I = 6) ∨ ((A < 0) = False ∧ (15 < A) = False ∧ (B = 0) = True ∧ (C = 0) = False ∧ chkV op A B C I = 6) ∨ ((A < 0) = False ∧ (15 < A) = False ∧ (B = 0) = True ∧ (C = 0) = True ∧ (lowV op ≤ I ∧ I ≤ highV op) = False ∧ chkV op A B C I = 6) ∨ ((A < 0) = False ∧ (15 < A) = False ∧ (B = 0) = True ∧ (C = 0) = True ∧ (lowV op ≤ I ∧ I ≤ highV op) = True ∧ chkV op A B C I = 0) := by
     simp only [chkV, okF, hf, mxA_15, mxB_15, mxC_15, hasF_15, cond_true, cond_false, eq_iff_iff, iff_true, iff_false]
     rw [if_neg (by omega)]
     split <;> omega
   rcases hc with ⟨a0, hk⟩ | ⟨a0, a1, hk⟩ | ⟨a0, a1, b2, hk⟩ | ⟨a0, a1, b2, c2, hk⟩ | ⟨a0, a1, b2, c2, i3, hk⟩ | ⟨a0, a1, b2, c2, i3, hk⟩
   all_goals simp -implicitDefEqProofs only [s33, s33_b1, v55, v56, v57, wrap_0, wrap_1, wrap_2, wrap_3, rOps_0, rOps_1, rOps_2, rOps_3, rOps_4, rOps_5, rOps_6, rOps_7, rOps_8, rOps_9, rOps_10, rOps_11, rOps_12, rOps_13, rOps_14, rOps_15, sz_e, sz_ff, sx_ff_0, sx_ff_1, sz_fff, sx_fff_0, sx_fff_1, sx_fff_2, sz_fr, sx_fr_0, sx_fr_1, sz_fri, sx_fri_0, sx_fri_1, sx_fri_2, sz_frr, sx_frr_0, sx_frr_1, sx_frr_2, sz_rf, sx_rf_0, sx_rf_1, sz_rff, sx_rff_0, sx_rff_1, sx_rff_2, sz_ri, sx_ri_0, sx_ri_1, sz_rri, sx_rri_0, sx_rri_1, sx_rri_2, sz_rrr, sx_rrr_0, sx_rrr_1, sx_rrr_2, tabs_gn, ↓HEdn, HEup, goInt, splice, okC, Fr.of, Fr.ofI, Fr.g, Nat.reduceAdd, Nat.reduceMul, Nat.reduceEqDiff, Nat.reduceLT, Nat.reduceLeDiff, Nat.reduceBEq, Int.reduceLT, Int.reduceLE, Int.reduceToNat, Int.reduceAdd, Int.reduceSub, Int.reduceMul, Int.reduceEq, Int.reduceNeg, ↓reduceIte, ↓reduceDIte, Nat.beq, reduceCtorEq, Value.int.injEq, flat_int, *]
end Go.Proofs.YtbaooebafijenaaGreatDoor
