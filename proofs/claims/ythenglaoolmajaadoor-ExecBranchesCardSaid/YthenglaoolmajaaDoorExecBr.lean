/- The law ExecBranches: of opposite branches one is taken. -/
import Derived.Test.YthenglaoolmajaaDoorExecB
namespace Go.Proofs.YthenglaoolmajaaDoor
open Go Go.Ev
set_option maxRecDepth 100000
set_option linter.unusedSimpArgs false
set_option linter.unusedVariables false
set_option maxHeartbeats 4000000
set_option linter.unusedSectionVars false
variable [Xt]
attribute [local congr] bind_front callK_front jn_front ifB_front ifG_front lp_front
theorem v24 (n : Nat) (H : Hp) : evCall cfc (n+30) 24 [] H = some (.ret (.bool true), H) := by
  rw [q24 (n+29) H]
  exact okR_floor (v := .bool true) (by kernel_rfl) H
theorem q8 (n : Nat) (x0 x1 x2 x3 : Value) (hx0 : flat x0 = true) (hx1 : flat x1 = true) (hx2 : flat x2 = true) (hx3 : flat x3 = true) (H : Hp) : evCall cfc (n+1) 8 [x0, x1, x2, x3] H = floorR H (s8 (evCall cfc n) n x0 x1 x2 x3 Hp.fl) := by
  rw [evCall_quiet (fn := Tryd.f8) (by rfl) Tryd.func8 (by rfl) (by simp [hx0, hx1, hx2, hx3])]
  exact congrArg (floorR H) (s8_eq _ _ _ _ _ _ _)
theorem wrap_u64_range (x : Int) : 0 ≤ IntKind.u64.wrap x ∧ IntKind.u64.wrap x < 18446744073709551616 := by
  simp only [IntKind.wrap, IntKind.bits, IntKind.signed]
  simp
  omega
theorem low_field (x m : Int) (hm : 0 < m ∧ m < 100000) : 0 ≤ IntKind.wrap .i64 ((IntKind.wrap .u64 x).tmod m) ∧ IntKind.wrap .i64 ((IntKind.wrap .u64 x).tmod m) < m := by
  have h := wrap_u64_range x
  have e : (IntKind.wrap .u64 x).tmod m = (IntKind.wrap .u64 x) % m := Int.tmod_eq_emod_of_nonneg h.1
  rw [e]
  have h1 := Int.emod_nonneg (IntKind.wrap .u64 x) (show m ≠ 0 by omega)
  have h2 := Int.emod_lt_of_pos (IntKind.wrap .u64 x) hm.1
  rw [IntWalk.i64_in _ (by omega)]
  exact ⟨h1, h2⟩
theorem imm_field (x : Int) : -32768 ≤ IntKind.wrap .i64 (IntKind.wrap .i64 ((IntKind.wrap .u64 x).tmod 65536) - 32768) ∧ IntKind.wrap .i64 (IntKind.wrap .i64 ((IntKind.wrap .u64 x).tmod 65536) - 32768) ≤ 32767 := by
  have h := low_field x 65536 (by omega)
  rw [IntWalk.i64_in (IntKind.wrap .i64 ((IntKind.wrap .u64 x).tmod 65536) - 32768) (by omega)]
  omega
theorem andNot3 (x : Int) (h : 0 ≤ x ∧ x < 4294967296) : andNotK .u32 x 3 = x - x % 4 := by
  obtain ⟨m, rfl⟩ := Int.eq_ofNat_of_zero_le h.1
  have hm : m < 2 ^ 32 := by omega
  have h1 : (BitVec.ofInt 32 (m : Int)) = BitVec.ofNat 32 m := by rw [BitVec.ofInt_natCast]
  show IntKind.u32.wrap (((BitVec.ofInt 32 (m : Int) &&& ~~~ (BitVec.ofInt 32 3)).toNat : Nat) : Int) = _
  have h2 : (BitVec.ofInt 32 (m : Int) &&& ~~~ (BitVec.ofInt 32 3)) = (BitVec.ofNat 32 m >>> 2) <<< 2 := by
    rw [h1]
    apply BitVec.eq_of_getElem_eq
    intro i hi
    simp only [BitVec.getElem_and, BitVec.getElem_not, BitVec.getElem_shiftLeft]
    have h3 : (BitVec.ofInt 32 3 : BitVec 32)[i] = decide (i < 2) := by
      revert i
      decide
    rw [h3]
    by_cases hlt : i < 2
    · simp [hlt]
    · simp [hlt, BitVec.getElem_ushiftRight, show 2 + (i - 2) = i by omega, BitVec.getLsbD_eq_getElem hi]
  rw [h2]
  have h4 : ((BitVec.ofNat 32 m >>> 2) <<< 2).toNat = m / 4 * 4 := by
    simp [BitVec.toNat_shiftLeft, BitVec.toNat_ushiftRight, Nat.shiftRight_eq_div_pow, Nat.shiftLeft_eq]
    omega
  rw [h4]
  rw [IntWalk.u32_in _ (by omega)]
  omega
theorem toV_aligned (pc I : Int) (h : pc % 4 = 0) : (toV pc I).tmod 4 = 0 := by
  unfold toV
  have h1 := wrap_u32_range (pc + IntKind.wrap .u32 (4 * IntKind.wrap .u32 I))
  rw [Int.tmod_eq_emod_of_nonneg h1.1]
  rw [IntKind.wrap_u32, IntKind.wrap_u32]
  omega
theorem chk_br (op A B I : Int) (hf : formV op = 7) (hl : lowV op = -32768) (hh : highV op = 32767) (hA : 0 ≤ A ∧ A < 16) (hB : 0 ≤ B ∧ B < 16) (hI : -32768 ≤ I ∧ I ≤ 32767) : chkV op A B 0 I = 0 := by
  simp only [chkV, okF, hf, hl, hh, mxA_7, mxB_7, mxC_7, hasF_7, cond_true]
  rw [if_neg (by omega), if_pos (by omega)]
theorem v8 (n : Nat) (H : Hp) (R F : Nat → Int) (pc a b m : Int) (hpc : 0 ≤ pc ∧ pc < 4294967296) : evCall cfc (n+40) 8 [.agg (regs R F pc).toArray, .int .i64 a, .int .i64 b, .int .i64 m] H = some (.ret (.bool true), H) := by
  rw [q8 (n+39) _ _ _ _ (regs_flat _ _ _) rfl rfl rfl H]
  obtain ⟨A, eA⟩ : ∃ A, IntKind.wrap .i64 ((IntKind.wrap .u64 a).tmod 16) = A := ⟨_, rfl⟩
  obtain ⟨B, eB⟩ : ∃ B, IntKind.wrap .i64 ((IntKind.wrap .u64 b).tmod 16) = B := ⟨_, rfl⟩
  obtain ⟨I, eI⟩ : ∃ I, IntKind.wrap .i64 (IntKind.wrap .i64 ((IntKind.wrap .u64 m).tmod 65536) - 32768) = I := ⟨_, rfl⟩
  obtain ⟨p, ep⟩ : ∃ p, andNotK .u32 pc 3 = p := ⟨_, rfl⟩
  have hA : 0 ≤ A ∧ A < 16 := eA ▸ low_field a 16 (by omega)
  have hB : 0 ≤ B ∧ B < 16 := eB ▸ low_field b 16 (by omega)
  have hI : -32768 ≤ I ∧ I ≤ 32767 := eI ▸ imm_field m
  have hp : p % 4 = 0 := by rw [← ep, andNot3 pc hpc]; omega
  have ht : (toV p I).tmod 4 = 0 := toV_aligned p I hp
  have et : IntKind.wrap .u32 (p + IntKind.wrap .u32 (4 * IntKind.wrap .u32 I)) = toV p I := rfl
  have d38 := fun n H R => done_38 n H R F p A B I 0 hA hB (chk_br 38 A B I rfl rfl rfl hA hB hI)
  have d39 := fun n H R => done_39 n H R F p A B I 0 hA hB (chk_br 39 A B I rfl rfl rfl hA hB hI)
  have d40 := fun n H R => done_40 n H R F p A B I 0 hA hB (chk_br 40 A B I rfl rfl rfl hA hB hI)
  have d41 := fun n H R => done_41 n H R F p A B I 0 hA hB (chk_br 41 A B I rfl rfl rfl hA hB hI)
  have d42 := fun n H R => done_42 n H R F p A B I 0 hA hB (chk_br 42 A B I rfl rfl rfl hA hB hI)
  have d43 := fun n H R => done_43 n H R F p A B I 0 hA hB (chk_br 43 A B I rfl rfl rfl hA hB hI)
  by_cases hi : I = 1
  · simp -implicitDefEqProofs only [s8, v24, tabs_gn, ↓someB, ↓callK_ret, ↓ifB_t, ↓ifB_f, ↓ifB_dec, ↓ifG_tt, ↓ifG_ff, ↓ifG_tf, ↓ifG_ft, ↓ifG_undef, ↓ifG_dt, ↓ifG_df, ↓jn_nrm, ↓jn_ex, ↓jn_rt, ↓jn_ite, ↓callK_ite, ↓bind_ite, bin_add, bin_sub, bin_mul, bin_quo, bin_rem, kin_and, kin_or, kin_xor, kin_andNot, bin_eql, bin_neq, bin_lss, bin_leq, bin_gtr, bin_geq, kin_shl, kin_shr, bin_beq, bin_bne, bin_seq, bin_sne, un_not, un_neg, cvI_int, ptr_def, fa_ptr, nilc_ptr, ia_ptr, sa_ptr, fld_agg, fld_one, ix_one, ix_agg, ext1_tuple, ld_ptr, ldN_ptr, pick_t, pick_f, pick_dec, bx_int, bx_bool, bx_str, bx_agg, ifB_t, ifB_f, ifB_dec, ifG_tt, ifG_ff, ifG_tf, ifG_ft, ifG_undef, ifG_dt, ifG_df, not_dec, jn_nrm, jn_ex, jn_rt, jn_ite, lp_succ, callK_ret, callK_ite, bind_ite, someB, len_str, len_sl, pl_get, plA_get, beqA_eql, beqA_neq, seqS_nil, seqS_int, seqS_bool, fillL_nil, fillL_cons, cells_new, cells_set, next_fl, lim_fl, floorR_ret, floorR_ite, Hp.next_new, Hp.next_set, Hp.lim_new, Hp.lim_set, goInt, splice, okC, List.getD_cons_zero, List.getD_cons_succ, List.getElem?_cons_zero, List.getElem?_cons_succ, List.length_cons, List.length_nil, List.set_cons_zero, List.set_cons_succ, List.all_cons, List.all_nil, List.getElem?_toArray, Option.bind_some, Option.bind_none, Fr.of, Fr.ofI, Fr.g, cond_true, cond_false, if_true, if_false, Nat.reduceAdd, Nat.reduceMul, Nat.reduceEqDiff, Nat.reduceLT, Nat.reduceLeDiff, Nat.reduceBEq, Int.reduceLT, Int.reduceLE, Int.reduceToNat, Int.reduceAdd, Int.reduceSub, Int.reduceMul, Int.reduceEq, Int.reduceNeg, Int.cast_ofNat_Int, Nat.zero_add, Nat.add_zero, Nat.mul_one, decide_true, decide_false, and_true, true_and, and_self, ↓reduceIte, ↓reduceDIte, Bool.true_and, Bool.and_true, Bool.false_and, Bool.and_false, Bool.not_true, Bool.not_false, not_true_eq_false, not_false_eq_true, Nat.beq, reduceCtorEq, Value.int.injEq, List.drop_zero, List.drop_succ_cons, List.take_succ_cons, List.take_zero, List.take_nil, List.size_toArray, toL_toA, cl_opn, new_opn, set_opn, opn_opn, fl_opn, next_opn, lim_opn, cells_opn, rwc_opn, rwc_new, rwc_set, sto_ptr, app_get, app_R, app_F, app_pc, app_set, app_setR, app_setF, app_setPc, app_length, app_take, app_drop, app_all, rdA_ptr, memN_nil, memN_cons, List.nil_append, List.cons_append, Option.map_some, regs_take, regs_drop, regs_take16, app_take16, row16_self, regs_self, splice_regs, regs_append_nil, regs_length, regs_R, regs_F, regs_pc, regs_setR, regs_setF, regs_setPc, regs_okC, regs_flat, Nat.reduceSub, flat_bool, eA, eB, eI, hi]
  have n1 : (toV p I = IntKind.wrap .u32 (p + 4)) = False := by
    simp only [eq_iff_iff, iff_false, toV]
    rw [IntKind.wrap_u32, IntKind.wrap_u32, IntKind.wrap_u32, IntKind.wrap_u32]
    omega
  have n2 : (IntKind.wrap .u32 (p + 4) = toV p I) = False := by
    rw [← n1]; simp only [eq_iff_iff]; exact ⟨Eq.symm, Eq.symm⟩
  obtain ⟨x, ex⟩ : ∃ x, upd R 0 0 A.toNat = x := ⟨_, rfl⟩
  obtain ⟨y, ey⟩ : ∃ y, upd R 0 0 B.toNat = y := ⟨_, rfl⟩
  by_cases hxy : x = y
  · subst hxy
    have l1 : (IntKind.wrap .i32 x < IntKind.wrap .i32 x) = False := by simp
    have l2 : (x < x) = False := by simp
    have l3 : (IntKind.wrap .i32 x ≤ IntKind.wrap .i32 x) = True := by simp
    have l4 : (x ≤ x) = True := by simp
    simp -implicitDefEqProofs only [s8, v24, tabs_gn, ↓someB, ↓callK_ret, ↓ifB_t, ↓ifB_f, ↓ifB_dec, ↓ifG_tt, ↓ifG_ff, ↓ifG_tf, ↓ifG_ft, ↓ifG_undef, ↓ifG_dt, ↓ifG_df, ↓jn_nrm, ↓jn_ex, ↓jn_rt, ↓jn_ite, ↓callK_ite, ↓bind_ite, bin_add, bin_sub, bin_mul, bin_quo, bin_rem, kin_and, kin_or, kin_xor, kin_andNot, bin_eql, bin_neq, bin_lss, bin_leq, bin_gtr, bin_geq, kin_shl, kin_shr, bin_beq, bin_bne, bin_seq, bin_sne, un_not, un_neg, cvI_int, ptr_def, fa_ptr, nilc_ptr, ia_ptr, sa_ptr, fld_agg, fld_one, ix_one, ix_agg, ext1_tuple, ld_ptr, ldN_ptr, pick_t, pick_f, pick_dec, bx_int, bx_bool, bx_str, bx_agg, ifB_t, ifB_f, ifB_dec, ifG_tt, ifG_ff, ifG_tf, ifG_ft, ifG_undef, ifG_dt, ifG_df, not_dec, jn_nrm, jn_ex, jn_rt, jn_ite, lp_succ, callK_ret, callK_ite, bind_ite, someB, len_str, len_sl, pl_get, plA_get, beqA_eql, beqA_neq, seqS_nil, seqS_int, seqS_bool, fillL_nil, fillL_cons, cells_new, cells_set, next_fl, lim_fl, floorR_ret, floorR_ite, Hp.next_new, Hp.next_set, Hp.lim_new, Hp.lim_set, goInt, splice, okC, List.getD_cons_zero, List.getD_cons_succ, List.getElem?_cons_zero, List.getElem?_cons_succ, List.length_cons, List.length_nil, List.set_cons_zero, List.set_cons_succ, List.all_cons, List.all_nil, List.getElem?_toArray, Option.bind_some, Option.bind_none, Fr.of, Fr.ofI, Fr.g, cond_true, cond_false, if_true, if_false, Nat.reduceAdd, Nat.reduceMul, Nat.reduceEqDiff, Nat.reduceLT, Nat.reduceLeDiff, Nat.reduceBEq, Int.reduceLT, Int.reduceLE, Int.reduceToNat, Int.reduceAdd, Int.reduceSub, Int.reduceMul, Int.reduceEq, Int.reduceNeg, Int.cast_ofNat_Int, Nat.zero_add, Nat.add_zero, Nat.mul_one, decide_true, decide_false, and_true, true_and, and_self, ↓reduceIte, ↓reduceDIte, Bool.true_and, Bool.and_true, Bool.false_and, Bool.and_false, Bool.not_true, Bool.not_false, not_true_eq_false, not_false_eq_true, Nat.beq, reduceCtorEq, Value.int.injEq, List.drop_zero, List.drop_succ_cons, List.take_succ_cons, List.take_zero, List.take_nil, List.size_toArray, toL_toA, cl_opn, new_opn, set_opn, opn_opn, fl_opn, next_opn, lim_opn, cells_opn, rwc_opn, rwc_new, rwc_set, sto_ptr, app_get, app_R, app_F, app_pc, app_set, app_setR, app_setF, app_setPc, app_length, app_take, app_drop, app_all, rdA_ptr, memN_nil, memN_cons, List.nil_append, List.cons_append, Option.map_some, regs_take, regs_drop, regs_take16, app_take16, row16_self, regs_self, splice_regs, regs_append_nil, regs_length, regs_R, regs_F, regs_pc, regs_setR, regs_setF, regs_setPc, regs_okC, regs_flat, Nat.reduceSub, flat_bool, eA, eB, eI, ep, et, hi, d38, d39, d40, d41, d42, d43, upd_upd, ex, ey, l1, l2, l3, l4, ht, n1, n2, doneT, wrap_1, wrap_2, wrap_3]
  have c1 : (x = y) = False := eq_false hxy
  rcases Classical.propComplete (IntKind.wrap .i32 x < IntKind.wrap .i32 y) with c2 | c2 <;> rcases Classical.propComplete (x < y) with c3 | c3
  all_goals
    have c2' : (IntKind.wrap .i32 y ≤ IntKind.wrap .i32 x) = ¬ (IntKind.wrap .i32 x < IntKind.wrap .i32 y) := by simp only [eq_iff_iff]; omega
    have c3' : (y ≤ x) = ¬ (x < y) := by simp only [eq_iff_iff]; omega
    simp -implicitDefEqProofs only [s8, v24, tabs_gn, ↓someB, ↓callK_ret, ↓ifB_t, ↓ifB_f, ↓ifB_dec, ↓ifG_tt, ↓ifG_ff, ↓ifG_tf, ↓ifG_ft, ↓ifG_undef, ↓ifG_dt, ↓ifG_df, ↓jn_nrm, ↓jn_ex, ↓jn_rt, ↓jn_ite, ↓callK_ite, ↓bind_ite, bin_add, bin_sub, bin_mul, bin_quo, bin_rem, kin_and, kin_or, kin_xor, kin_andNot, bin_eql, bin_neq, bin_lss, bin_leq, bin_gtr, bin_geq, kin_shl, kin_shr, bin_beq, bin_bne, bin_seq, bin_sne, un_not, un_neg, cvI_int, ptr_def, fa_ptr, nilc_ptr, ia_ptr, sa_ptr, fld_agg, fld_one, ix_one, ix_agg, ext1_tuple, ld_ptr, ldN_ptr, pick_t, pick_f, pick_dec, bx_int, bx_bool, bx_str, bx_agg, ifB_t, ifB_f, ifB_dec, ifG_tt, ifG_ff, ifG_tf, ifG_ft, ifG_undef, ifG_dt, ifG_df, not_dec, jn_nrm, jn_ex, jn_rt, jn_ite, lp_succ, callK_ret, callK_ite, bind_ite, someB, len_str, len_sl, pl_get, plA_get, beqA_eql, beqA_neq, seqS_nil, seqS_int, seqS_bool, fillL_nil, fillL_cons, cells_new, cells_set, next_fl, lim_fl, floorR_ret, floorR_ite, Hp.next_new, Hp.next_set, Hp.lim_new, Hp.lim_set, goInt, splice, okC, List.getD_cons_zero, List.getD_cons_succ, List.getElem?_cons_zero, List.getElem?_cons_succ, List.length_cons, List.length_nil, List.set_cons_zero, List.set_cons_succ, List.all_cons, List.all_nil, List.getElem?_toArray, Option.bind_some, Option.bind_none, Fr.of, Fr.ofI, Fr.g, cond_true, cond_false, if_true, if_false, Nat.reduceAdd, Nat.reduceMul, Nat.reduceEqDiff, Nat.reduceLT, Nat.reduceLeDiff, Nat.reduceBEq, Int.reduceLT, Int.reduceLE, Int.reduceToNat, Int.reduceAdd, Int.reduceSub, Int.reduceMul, Int.reduceEq, Int.reduceNeg, Int.cast_ofNat_Int, Nat.zero_add, Nat.add_zero, Nat.mul_one, decide_true, decide_false, and_true, true_and, and_self, ↓reduceIte, ↓reduceDIte, Bool.true_and, Bool.and_true, Bool.false_and, Bool.and_false, Bool.not_true, Bool.not_false, not_true_eq_false, not_false_eq_true, Nat.beq, reduceCtorEq, Value.int.injEq, List.drop_zero, List.drop_succ_cons, List.take_succ_cons, List.take_zero, List.take_nil, List.size_toArray, toL_toA, cl_opn, new_opn, set_opn, opn_opn, fl_opn, next_opn, lim_opn, cells_opn, rwc_opn, rwc_new, rwc_set, sto_ptr, app_get, app_R, app_F, app_pc, app_set, app_setR, app_setF, app_setPc, app_length, app_take, app_drop, app_all, rdA_ptr, memN_nil, memN_cons, List.nil_append, List.cons_append, Option.map_some, regs_take, regs_drop, regs_take16, app_take16, row16_self, regs_self, splice_regs, regs_append_nil, regs_length, regs_R, regs_F, regs_pc, regs_setR, regs_setF, regs_setPc, regs_okC, regs_flat, Nat.reduceSub, flat_bool, eA, eB, eI, ep, et, hi, d38, d39, d40, d41, d42, d43, upd_upd, ex, ey, c1, c2, c3, c2', c3', ht, n1, n2, doneT, wrap_1, wrap_2, wrap_3]
end Go.Proofs.YthenglaoolmajaaDoor
