/- What the parts of an instruction's doing answer. -/
import Derived.Test.YthenglaoolmajabDoorCodeW
import Derived.Test.YthenglaoolmajabDoorEvMem
namespace Go.Proofs.YthenglaoolmajabDoor
open Go Go.Ev
set_option maxRecDepth 100000
set_option linter.unusedSimpArgs false
set_option linter.unusedVariables false
set_option maxHeartbeats 2000000
set_option linter.unusedSectionVars false
variable [Xt]
attribute [local congr] bind_front callK_front jn_front ifB_front ifG_front lp_front
theorem q5 (n : Nat) (x0 x1 x2 : Value) (hx0 : flat x0 = true) (hx1 : flat x1 = true) (hx2 : flat x2 = true) (H : Hp) : evCall cfc (n+1) 5 [x0, x1, x2] H = floorR H (s5 (evCall cfc n) n x0 x1 x2 Hp.fl) := by
  rw [evCall_quiet (fn := Tryd.f5) (by rfl) Tryd.func5 (by rfl) (by simp [hx0, hx1, hx2])]
  exact congrArg (floorR H) (s5_eq _ _ _ _ _ _)
theorem q8 (n : Nat) (x0 x1 : Value) (hx0 : flat x0 = true) (hx1 : flat x1 = true) (H : Hp) : evCall cfc (n+1) 8 [x0, x1] H = floorR H (s8 (evCall cfc n) n x0 x1 Hp.fl) := by
  rw [evCall_quiet (fn := Tryd.f8) (by rfl) Tryd.func8 (by rfl) (by simp [hx0, hx1])]
  exact congrArg (floorR H) (s8_eq _ _ _ _ _)
theorem q6 (n : Nat) (x0 : Value) (hx0 : flat x0 = true) (H : Hp) : evCall cfc (n+1) 6 [x0] H = floorR H (s6 (evCall cfc n) n x0 Hp.fl) := by
  rw [evCall_quiet (fn := Tryd.f6) (by rfl) Tryd.func6 (by rfl) (by simp [hx0])]
  exact congrArg (floorR H) (s6_eq _ _ _ _)
theorem q7 (n : Nat) (x0 : Value) (hx0 : flat x0 = true) (H : Hp) : evCall cfc (n+1) 7 [x0] H = floorR H (s7 (evCall cfc n) n x0 Hp.fl) := by
  rw [evCall_quiet (fn := Tryd.f7) (by rfl) Tryd.func7 (by rfl) (by simp [hx0])]
  exact congrArg (floorR H) (s7_eq _ _ _ _)
theorem q11 (n : Nat) (x0 : Value) (hx0 : flat x0 = true) (H : Hp) : evCall cfc (n+1) 11 [x0] H = floorR H (s11 (evCall cfc n) n x0 Hp.fl) := by
  rw [evCall_quiet (fn := Tryd.f11) (by rfl) Tryd.func11 (by rfl) (by simp [hx0])]
  exact congrArg (floorR H) (s11_eq _ _ _ _)
theorem q22 (n : Nat) (x0 x1 x2 : Value) (hx0 : flat x0 = true) (hx1 : flat x1 = true) (hx2 : flat x2 = true) (H : Hp) : evCall cfc (n+1) 22 [x0, x1, x2] H = floorR H (s22 (evCall cfc n) n x0 x1 x2 Hp.fl) := by
  rw [evCall_quiet (fn := Tryd.f22) (by rfl) Tryd.func22 (by rfl) (by simp [hx0, hx1, hx2])]
  exact congrArg (floorR H) (s22_eq _ _ _ _ _ _)
theorem q25 (n : Nat) (x0 x1 x2 : Value) (hx0 : flat x0 = true) (hx1 : flat x1 = true) (hx2 : flat x2 = true) (H : Hp) : evCall cfc (n+1) 25 [x0, x1, x2] H = floorR H (s25 (evCall cfc n) n x0 x1 x2 Hp.fl) := by
  rw [evCall_quiet (fn := Tryd.f25) (by rfl) Tryd.func25 (by rfl) (by simp [hx0, hx1, hx2])]
  exact congrArg (floorR H) (s25_eq _ _ _ _ _ _)
theorem q27 (n : Nat) (x0 x1 x2 : Value) (hx0 : flat x0 = true) (hx1 : flat x1 = true) (hx2 : flat x2 = true) (H : Hp) : evCall cfc (n+1) 27 [x0, x1, x2] H = floorR H (s27 (evCall cfc n) n x0 x1 x2 Hp.fl) := by
  rw [evCall_quiet (fn := Tryd.f27) (by rfl) Tryd.func27 (by rfl) (by simp [hx0, hx1, hx2])]
  exact congrArg (floorR H) (s27_eq _ _ _ _ _ _)
theorem q36 (n : Nat) (x0 x1 x2 : Value) (hx0 : flat x0 = true) (hx1 : flat x1 = true) (hx2 : flat x2 = true) (H : Hp) : evCall cfc (n+1) 36 [x0, x1, x2] H = floorR H (s36 (evCall cfc n) n x0 x1 x2 Hp.fl) := by
  rw [evCall_quiet (fn := Tryd.f36) (by rfl) Tryd.func36 (by rfl) (by simp [hx0, hx1, hx2])]
  exact congrArg (floorR H) (s36_eq _ _ _ _ _ _)
theorem q37 (n : Nat) (x0 : Value) (hx0 : flat x0 = true) (H : Hp) : evCall cfc (n+1) 37 [x0] H = floorR H (s37 (evCall cfc n) n x0 Hp.fl) := by
  rw [evCall_quiet (fn := Tryd.f37) (by rfl) Tryd.func37 (by rfl) (by simp [hx0])]
  exact congrArg (floorR H) (s37_eq _ _ _ _)
theorem q4 (n : Nat)   (H : Hp) : evCall cfc (n+1) 4 [] H = floorR H (s4 (evCall cfc n) n  Hp.fl) := by
  rw [evCall_quiet (fn := Tryd.f4) (by rfl) Tryd.func4 (by rfl) (by simp [])]
  exact congrArg (floorR H) (s4_eq _ _  _)
theorem q9 (n : Nat) (x0 : Value) (H : Hp) : evCall cfc (n+1) 9 [x0] H = s9 (evCall cfc n) n x0 H := by
  rw [evCall_open (fn := Tryd.f9) (by rfl) Tryd.func9 (by rfl)]
  exact s9_eq _ _ _ _
theorem q13 (n : Nat) (x0 x1 x2 : Value) (H : Hp) : evCall cfc (n+1) 13 [x0, x1, x2] H = s13 (evCall cfc n) n x0 x1 x2 H := by
  rw [evCall_open (fn := Tryd.f13) (by rfl) Tryd.func13 (by rfl)]
  exact s13_eq _ _ _ _ _ _
theorem q14 (n : Nat) (x0 x1 : Value) (H : Hp) : evCall cfc (n+1) 14 [x0, x1] H = s14 (evCall cfc n) n x0 x1 H := by
  rw [evCall_open (fn := Tryd.f14) (by rfl) Tryd.func14 (by rfl)]
  exact s14_eq _ _ _ _ _
theorem q15 (n : Nat) (x0 x1 : Value) (H : Hp) : evCall cfc (n+1) 15 [x0, x1] H = s15 (evCall cfc n) n x0 x1 H := by
  rw [evCall_open (fn := Tryd.f15) (by rfl) Tryd.func15 (by rfl)]
  exact s15_eq _ _ _ _ _
theorem q16 (n : Nat) (x0 x1 : Value) (H : Hp) : evCall cfc (n+1) 16 [x0, x1] H = s16 (evCall cfc n) n x0 x1 H := by
  rw [evCall_open (fn := Tryd.f16) (by rfl) Tryd.func16 (by rfl)]
  exact s16_eq _ _ _ _ _
theorem q17 (n : Nat) (x0 x1 : Value) (H : Hp) : evCall cfc (n+1) 17 [x0, x1] H = s17 (evCall cfc n) n x0 x1 H := by
  rw [evCall_open (fn := Tryd.f17) (by rfl) Tryd.func17 (by rfl)]
  exact s17_eq _ _ _ _ _
theorem q18 (n : Nat) (x0 : Value) (H : Hp) : evCall cfc (n+1) 18 [x0] H = s18 (evCall cfc n) n x0 H := by
  rw [evCall_open (fn := Tryd.f18) (by rfl) Tryd.func18 (by rfl)]
  exact s18_eq _ _ _ _
theorem q23 (n : Nat) (x0 x1 x2 : Value) (H : Hp) : evCall cfc (n+1) 23 [x0, x1, x2] H = s23 (evCall cfc n) n x0 x1 x2 H := by
  rw [evCall_open (fn := Tryd.f23) (by rfl) Tryd.func23 (by rfl)]
  exact s23_eq _ _ _ _ _ _
theorem q24 (n : Nat) (x0 x1 : Value) (H : Hp) : evCall cfc (n+1) 24 [x0, x1] H = s24 (evCall cfc n) n x0 x1 H := by
  rw [evCall_open (fn := Tryd.f24) (by rfl) Tryd.func24 (by rfl)]
  exact s24_eq _ _ _ _ _
theorem q26 (n : Nat) (x0 x1 : Value) (H : Hp) : evCall cfc (n+1) 26 [x0, x1] H = s26 (evCall cfc n) n x0 x1 H := by
  rw [evCall_open (fn := Tryd.f26) (by rfl) Tryd.func26 (by rfl)]
  exact s26_eq _ _ _ _ _
def sizeV (op : Int) : Int := tabI [0, 0, 0, 0, 0, 0, 0, 0, 0, 0, 0, 0, 0, 0, 0, 0, 0, 0, 0, 0, 0, 0, 0, 0, 0, 0, 0, 0, 4, 2, 2, 1, 1, 4, 2, 1, 8, 8, 0, 0, 0, 0, 0, 0, 0, 0, 0, 0, 0, 0, 0, 0, 0, 0, 0, 0, 0, 0, 0, 0, 0, 0, 0, 0, 0, 0, 0, 0, 0, 0, 0, 0] op
theorem v11 (n : Nat) (H : Hp) (op : Int) (h : 0 ≤ op ∧ op < 72) : evCall cfc (n+2) 11 [.int .i64 op] H = some (.ret (.int .i64 (sizeV op)), H) := by
  rw [q11 (n+1) _ rfl H]
  exact okR_range (F := fun op => s11 (evCall cfc (n+1)) (n+1) (.int .i64 op) Hp.fl) (T := fun op => .int .i64 (sizeV op)) 72 (by kernel_rfl) op h H
theorem v6 (n : Nat) (H : Hp) (R F : Nat → Int) (pc : Int) : evCall cfc (n+1) 6 [.agg (regs R F pc).toArray] H = some (.ret (.agg (regs (upd R 0 0) F pc).toArray), H) := by
  rw [q6 n _ (regs_flat _ _ _) H]
  simp -implicitDefEqProofs only [s6, tabs_gn, ↓someB, ↓callK_ret, ↓ifB_t, ↓ifB_f, ↓ifB_dec, ↓ifG_tt, ↓ifG_ff, ↓ifG_tf, ↓ifG_ft, ↓ifG_undef, ↓ifG_dt, ↓ifG_df, ↓jn_nrm, ↓jn_ex, ↓jn_rt, ↓jn_ite, ↓callK_ite, ↓bind_ite, bin_add, bin_sub, bin_mul, bin_quo, bin_rem, kin_and, kin_or, kin_xor, kin_andNot, bin_eql, bin_neq, bin_lss, bin_leq, bin_gtr, bin_geq, kin_shl, kin_shr, bin_beq, bin_bne, bin_seq, bin_sne, un_not, un_neg, cvI_int, ptr_def, fa_ptr, nilc_ptr, ia_ptr, sa_ptr, fld_agg, fld_one, ix_one, ix_agg, ext1_tuple, ld_ptr, ldN_ptr, pick_t, pick_f, pick_dec, bx_int, bx_bool, bx_str, bx_agg, ifB_t, ifB_f, ifB_dec, ifG_tt, ifG_ff, ifG_tf, ifG_ft, ifG_undef, ifG_dt, ifG_df, not_dec, jn_nrm, jn_ex, jn_rt, jn_ite, lp_succ, callK_ret, callK_ite, bind_ite, someB, len_str, len_sl, pl_get, plA_get, beqA_eql, beqA_neq, seqS_nil, seqS_int, seqS_bool, fillL_nil, fillL_cons, cells_new, cells_set, next_fl, lim_fl, floorR_ret, floorR_ite, Hp.next_new, Hp.next_set, Hp.lim_new, Hp.lim_set, goInt, splice, okC, List.getD_cons_zero, List.getD_cons_succ, List.getElem?_cons_zero, List.getElem?_cons_succ, List.length_cons, List.length_nil, List.set_cons_zero, List.set_cons_succ, List.all_cons, List.all_nil, List.getElem?_toArray, Option.bind_some, Option.bind_none, Fr.of, Fr.ofI, Fr.g, cond_true, cond_false, if_true, if_false, Nat.reduceAdd, Nat.reduceMul, Nat.reduceEqDiff, Nat.reduceLT, Nat.reduceLeDiff, Nat.reduceBEq, Int.reduceLT, Int.reduceLE, Int.reduceToNat, Int.reduceAdd, Int.reduceSub, Int.reduceMul, Int.reduceEq, Int.reduceNeg, Int.cast_ofNat_Int, Nat.zero_add, Nat.add_zero, Nat.mul_one, decide_true, decide_false, and_true, true_and, and_self, ↓reduceIte, ↓reduceDIte, Bool.true_and, Bool.and_true, Bool.false_and, Bool.and_false, Bool.not_true, Bool.not_false, not_true_eq_false, not_false_eq_true, Nat.beq, reduceCtorEq, Value.int.injEq, List.drop_zero, List.drop_succ_cons, List.take_succ_cons, List.take_zero, List.take_nil, List.size_toArray, toL_toA, cl_opn, new_opn, set_opn, opn_opn, fl_opn, next_opn, lim_opn, cells_opn, rwc_opn, rwc_new, rwc_set, sto_ptr, app_get, app_R, app_F, app_pc, app_set, app_setR, app_setF, app_setPc, app_length, app_take, app_drop, app_all, rdA_ptr, memN_nil, memN_cons, List.nil_append, List.cons_append, Option.map_some, regs_take, regs_drop, regs_take16, app_take16, row16_self, regs_self, splice_regs, regs_append_nil, regs_length, regs_R, regs_F, regs_pc, regs_setR, regs_setF, regs_setPc, regs_okC, regs_flat, Nat.reduceSub]
theorem v7 (n : Nat) (H : Hp) (op A B C I : Int) : evCall cfc (n+9) 7 [.agg #[.int .i64 op, .int .i64 A, .int .i64 B, .int .i64 C, .int .i64 I]] H = some (.ret (.bool (decide (chkV op A B C I = 0))), H) := by
  rw [q7 (n+8) _ rfl H]
  by_cases hk : chkV op A B C I = 0
  all_goals simp -implicitDefEqProofs only [s7, v10, tabs_gn, ↓someB, ↓callK_ret, ↓ifB_t, ↓ifB_f, ↓ifB_dec, ↓ifG_tt, ↓ifG_ff, ↓ifG_tf, ↓ifG_ft, ↓ifG_undef, ↓ifG_dt, ↓ifG_df, ↓jn_nrm, ↓jn_ex, ↓jn_rt, ↓jn_ite, ↓callK_ite, ↓bind_ite, bin_add, bin_sub, bin_mul, bin_quo, bin_rem, kin_and, kin_or, kin_xor, kin_andNot, bin_eql, bin_neq, bin_lss, bin_leq, bin_gtr, bin_geq, kin_shl, kin_shr, bin_beq, bin_bne, bin_seq, bin_sne, un_not, un_neg, cvI_int, ptr_def, fa_ptr, nilc_ptr, ia_ptr, sa_ptr, fld_agg, fld_one, ix_one, ix_agg, ext1_tuple, ld_ptr, ldN_ptr, pick_t, pick_f, pick_dec, bx_int, bx_bool, bx_str, bx_agg, ifB_t, ifB_f, ifB_dec, ifG_tt, ifG_ff, ifG_tf, ifG_ft, ifG_undef, ifG_dt, ifG_df, not_dec, jn_nrm, jn_ex, jn_rt, jn_ite, lp_succ, callK_ret, callK_ite, bind_ite, someB, len_str, len_sl, pl_get, plA_get, beqA_eql, beqA_neq, seqS_nil, seqS_int, seqS_bool, fillL_nil, fillL_cons, cells_new, cells_set, next_fl, lim_fl, floorR_ret, floorR_ite, Hp.next_new, Hp.next_set, Hp.lim_new, Hp.lim_set, goInt, splice, okC, List.getD_cons_zero, List.getD_cons_succ, List.getElem?_cons_zero, List.getElem?_cons_succ, List.length_cons, List.length_nil, List.set_cons_zero, List.set_cons_succ, List.all_cons, List.all_nil, List.getElem?_toArray, Option.bind_some, Option.bind_none, Fr.of, Fr.ofI, Fr.g, cond_true, cond_false, if_true, if_false, Nat.reduceAdd, Nat.reduceMul, Nat.reduceEqDiff, Nat.reduceLT, Nat.reduceLeDiff, Nat.reduceBEq, Int.reduceLT, Int.reduceLE, Int.reduceToNat, Int.reduceAdd, Int.reduceSub, Int.reduceMul, Int.reduceEq, Int.reduceNeg, Int.cast_ofNat_Int, Nat.zero_add, Nat.add_zero, Nat.mul_one, decide_true, decide_false, and_true, true_and, and_self, ↓reduceIte, ↓reduceDIte, Bool.true_and, Bool.and_true, Bool.false_and, Bool.and_false, Bool.not_true, Bool.not_false, not_true_eq_false, not_false_eq_true, Nat.beq, reduceCtorEq, Value.int.injEq, List.drop_zero, List.drop_succ_cons, List.take_succ_cons, List.take_zero, List.take_nil, List.size_toArray, toL_toA, cl_opn, new_opn, set_opn, opn_opn, fl_opn, next_opn, lim_opn, cells_opn, rwc_opn, rwc_new, rwc_set, sto_ptr, app_get, app_R, app_F, app_pc, app_set, app_setR, app_setF, app_setPc, app_length, app_take, app_drop, app_all, rdA_ptr, memN_nil, memN_cons, List.nil_append, List.cons_append, Option.map_some, regs_take, regs_drop, regs_take16, app_take16, row16_self, regs_self, splice_regs, regs_append_nil, regs_length, regs_R, regs_F, regs_pc, regs_setR, regs_setF, regs_setPc, regs_okC, regs_flat, Nat.reduceSub, flat_bool, hk, encR]

end Go.Proofs.YthenglaoolmajabDoor
