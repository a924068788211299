/- What cannot be is refused: the law CodeRefused over the evaluator. -/
import Derived.Test.YtbaooebafijenaaDoorGCodeD
import Derived.Test.YtbaooebafijenaaDoorGWorks
import Derived.Test.YtbaooebafijenaaDoorGvStr
namespace Go.Proofs.YtbaooebafijenaaDoor
open Go Go.Ev
set_option maxRecDepth 100000
set_option linter.unusedSimpArgs false
set_option linter.unusedVariables false
set_option maxHeartbeats 2000000
set_option linter.unusedSectionVars false
variable [Mx]
attribute [local congr] bind_front callK_front jn_front ifB_front ifG_front lp_front
def i5 (op A B C I : Int) : Value := .agg #[.int .i64 op, .int .i64 A, .int .i64 B, .int .i64 C, .int .i64 I]
theorem q15 (n : Nat) (x0 : Value) (hx0 : flat x0 = true) (H : Hp) : evCall cfc (n+1) 15 [x0] H = movR [] H (s15 (evCall cfc n) n x0 Hp.fl) := by
  rw [evCall_quiet (fn := Tryd.f15) (by rfl) (by rfl) Tryd.func15 (by rfl) (by simp [hx0])]
  exact congrArg (movR [] H) (s15_eq _ _ _ _)
theorem v15 (n : Nat) (H : Hp) (e : Int) : evCall cfc (n+1) 15 [.int .i64 e] H = some (.ret (.int .i64 e), H) := by
  rw [q15 n _ rfl H]
  simp -implicitDefEqProofs only [s15, ↓someB, ↓callK_ret, ↓ifB_t, ↓ifB_f, ↓ifB_dec, ↓ifG_tt, ↓ifG_ff, ↓ifG_tf, ↓ifG_ft, ↓ifG_undef, ↓ifG_dt, ↓ifG_df, ↓jn_nrm, ↓jn_ex, ↓jn_rt, ↓jn_ite, ↓callK_ite, ↓bind_ite, bin_add, bin_sub, bin_mul, bin_quo, bin_rem, kin_and, kin_or, kin_xor, kin_andNot, bin_eql, bin_neq, bin_lss, bin_leq, bin_gtr, bin_geq, kin_shl, kin_shr, bin_beq, bin_bne, bin_sq, bin_sn, bin_in, bin_ic, sx_str, slS_lh, slS_l, slS_h, slV_lh, slV_l, slV_h, slV_n, int_nonneg, int_le_self, Int.toNat_natCast, un_not, un_neg, cvI_int, ptr_def, fa_ptr, nilc_ptr, ia_ptr, sa_ptr, fld_agg, fld_one, ix_one, ix_agg, ext1_tuple, ld_ptr, ldN_ptr, pick_t, pick_f, pick_dec, bx_int, bx_bool, bx_str, bx_agg, ifB_t, ifB_f, ifB_dec, ifG_tt, ifG_ff, ifG_tf, ifG_ft, ifG_undef, ifG_dt, ifG_df, not_dec, jn_nrm, jn_ex, jn_rt, jn_ite, lp_succ, callK_ret, callK_ite, bind_ite, someB, len_str, len_sl, pl_get, plA_get, beqA_eql, beqA_neq, seqS_nil, seqS_int, seqS_bool, fillL_nil, fillL_cons, cells_new, cells_set, next_fl, lim_fl, movR_ret, movR_ite, Hp.next_new, Hp.next_set, Hp.lim_new, Hp.lim_set, goInt, splice, okC, List.getD_cons_zero, List.getD_cons_succ, List.getElem?_cons_zero, List.getElem?_cons_succ, List.length_cons, List.length_nil, List.set_cons_zero, List.set_cons_succ, List.all_cons, List.all_nil, List.getElem?_toArray, Option.bind_some, Option.bind_none, Fr.of, Fr.ofI, Fr.g, cond_true, cond_false, if_true, if_false, Nat.reduceAdd, Nat.reduceMul, Nat.reduceEqDiff, Nat.reduceLT, Nat.reduceLeDiff, Nat.reduceBEq, Int.reduceLT, Int.reduceLE, Int.reduceToNat, Int.reduceAdd, Int.reduceSub, Int.reduceMul, Int.reduceEq, Int.reduceNeg, Int.cast_ofNat_Int, Nat.zero_add, Nat.add_zero, Nat.mul_one, decide_true, decide_false, and_true, true_and, and_self, ↓reduceIte, ↓reduceDIte, Bool.true_and, Bool.and_true, Bool.false_and, Bool.and_false, Bool.not_true, Bool.not_false, not_true_eq_false, not_false_eq_true, Nat.beq, reduceCtorEq, Value.int.injEq, List.drop_zero, List.drop_succ_cons, List.take_succ_cons, List.take_zero, List.take_nil, List.size_toArray, toL_toA, cl_opn, new_opn, set_opn, opn_opn, fl_opn, next_opn, lim_opn, cells_opn, rwc_opn, rwc_new, rwc_set, sto_ptr, app_get, app_R, app_F, app_pc, app_set, app_setR, app_setF, app_setPc, app_length, app_take, app_drop, app_all, rdA_ptr, memN_nil, memN_cons, List.nil_append, List.cons_append, Option.map_some, regs_take, regs_drop, regs_take16, app_take16, row16_self, regs_self, splice_regs, regs_append_nil, regs_length, regs_R, regs_F, regs_pc, regs_setR, regs_setF, regs_setPc, regs_okC, regs_flat, Nat.reduceSub, flat_int]
theorem q8 (n : Nat) (x0 : Value) (hx0 : flat x0 = true) (H : Hp) : evCall cfc (n+1) 8 [x0] H = movR [] H (s8 (evCall cfc n) n x0 Hp.fl) := by
  rw [evCall_quiet (fn := Tryd.f8) (by rfl) (by rfl) Tryd.func8 (by rfl) (by simp [hx0])]
  exact congrArg (movR [] H) (s8_eq _ _ _ _)
theorem flat_si (s : ByteArray) (k : IntKind) (e : Int) : flat (.tuple #[.string s, .int k e]) = true := rfl
theorem v8e (n : Nat) (H : Hp) (op A B C I : Int) (h : ¬ chkV op A B C I = 0) : evCall cfc (n+7) 8 [.agg #[.int .i64 op, .int .i64 A, .int .i64 B, .int .i64 C, .int .i64 I]] H = some (.ret (.tuple #[.string ⟨#[]⟩, .int .i64 (chkV op A B C I)]), H) := by
  rw [q8 (n+6) _ rfl H]
  have h21 := fun H => v21 n H op A B C I
  simp -implicitDefEqProofs only [s8, h21, tabs_gn, ↓someB, ↓callK_ret, ↓ifB_t, ↓ifB_f, ↓ifB_dec, ↓ifG_tt, ↓ifG_ff, ↓ifG_tf, ↓ifG_ft, ↓ifG_undef, ↓ifG_dt, ↓ifG_df, ↓jn_nrm, ↓jn_ex, ↓jn_rt, ↓jn_ite, ↓callK_ite, ↓bind_ite, bin_add, bin_sub, bin_mul, bin_quo, bin_rem, kin_and, kin_or, kin_xor, kin_andNot, bin_eql, bin_neq, bin_lss, bin_leq, bin_gtr, bin_geq, kin_shl, kin_shr, bin_beq, bin_bne, bin_sq, bin_sn, bin_in, bin_ic, sx_str, slS_lh, slS_l, slS_h, slV_lh, slV_l, slV_h, slV_n, int_nonneg, int_le_self, Int.toNat_natCast, un_not, un_neg, cvI_int, ptr_def, fa_ptr, nilc_ptr, ia_ptr, sa_ptr, fld_agg, fld_one, ix_one, ix_agg, ext1_tuple, ld_ptr, ldN_ptr, pick_t, pick_f, pick_dec, bx_int, bx_bool, bx_str, bx_agg, ifB_t, ifB_f, ifB_dec, ifG_tt, ifG_ff, ifG_tf, ifG_ft, ifG_undef, ifG_dt, ifG_df, not_dec, jn_nrm, jn_ex, jn_rt, jn_ite, lp_succ, callK_ret, callK_ite, bind_ite, someB, len_str, len_sl, pl_get, plA_get, beqA_eql, beqA_neq, seqS_nil, seqS_int, seqS_bool, fillL_nil, fillL_cons, cells_new, cells_set, next_fl, lim_fl, movR_ret, movR_ite, Hp.next_new, Hp.next_set, Hp.lim_new, Hp.lim_set, goInt, splice, okC, List.getD_cons_zero, List.getD_cons_succ, List.getElem?_cons_zero, List.getElem?_cons_succ, List.length_cons, List.length_nil, List.set_cons_zero, List.set_cons_succ, List.all_cons, List.all_nil, List.getElem?_toArray, Option.bind_some, Option.bind_none, Fr.of, Fr.ofI, Fr.g, cond_true, cond_false, if_true, if_false, Nat.reduceAdd, Nat.reduceMul, Nat.reduceEqDiff, Nat.reduceLT, Nat.reduceLeDiff, Nat.reduceBEq, Int.reduceLT, Int.reduceLE, Int.reduceToNat, Int.reduceAdd, Int.reduceSub, Int.reduceMul, Int.reduceEq, Int.reduceNeg, Int.cast_ofNat_Int, Nat.zero_add, Nat.add_zero, Nat.mul_one, decide_true, decide_false, and_true, true_and, and_self, ↓reduceIte, ↓reduceDIte, Bool.true_and, Bool.and_true, Bool.false_and, Bool.and_false, Bool.not_true, Bool.not_false, not_true_eq_false, not_false_eq_true, Nat.beq, reduceCtorEq, Value.int.injEq, List.drop_zero, List.drop_succ_cons, List.take_succ_cons, List.take_zero, List.take_nil, List.size_toArray, toL_toA, cl_opn, new_opn, set_opn, opn_opn, fl_opn, next_opn, lim_opn, cells_opn, rwc_opn, rwc_new, rwc_set, sto_ptr, app_get, app_R, app_F, app_pc, app_set, app_setR, app_setF, app_setPc, app_length, app_take, app_drop, app_all, rdA_ptr, memN_nil, memN_cons, List.nil_append, List.cons_append, Option.map_some, regs_take, regs_drop, regs_take16, app_take16, row16_self, regs_self, splice_regs, regs_append_nil, regs_length, regs_R, regs_F, regs_pc, regs_setR, regs_setF, regs_setPc, regs_okC, regs_flat, Nat.reduceSub, h, flat_si]
theorem chk_cases (op A B C I : Int) : chkV op A B C I = 0 ∨ (chkV op A B C I = 5 ∧ formV op = 0) ∨ (chkV op A B C I = 6 ∧ ¬ formV op = 0) := by
  unfold chkV
  split
  · rename_i h; exact .inr (.inl ⟨rfl, h⟩)
  · rename_i h
    split
    · exact .inl rfl
    · exact .inr (.inr ⟨rfl, h⟩)
theorem mxA_le (f : Int) : mxA f ≤ 15 := by
  unfold mxA
  split
  · rename_i h
    have : f = 0 ∨ f = 1 ∨ f = 2 ∨ f = 3 ∨ f = 4 ∨ f = 5 ∨ f = 6 ∨ f = 7 ∨ f = 8 ∨ f = 9 ∨ f = 10 ∨ f = 11 ∨ f = 12 ∨ f = 13 ∨ f = 14 ∨ f = 15 := by omega
    rcases this with rfl | rfl | rfl | rfl | rfl | rfl | rfl | rfl | rfl | rfl | rfl | rfl | rfl | rfl | rfl | rfl <;> decide
  · decide
theorem high_le (op : Int) : highV op ≤ 65535 := by
  by_cases h : op ≠ 19 ∧ op ≠ 20 ∧ op ≠ 21 ∧ op ≠ 27 ∧ op ≠ 22 ∧ op ≠ 23 ∧ op ≠ 24 ∧ op ≠ 68 ∧ op ≠ 69
  · rw [(low_other op h).2]; decide
  · have : op = 19 ∨ op = 20 ∨ op = 21 ∨ op = 27 ∨ op = 22 ∨ op = 23 ∨ op = 24 ∨ op = 68 ∨ op = 69 := by omega
    rcases this with rfl | rfl | rfl | rfl | rfl | rfl | rfl | rfl | rfl <;> decide
theorem chk_form {op A B C I : Int} (h : chkV op A B C I = 0) : ¬ formV op = 0 := by
  rcases chk_cases op A B C I with h1 | ⟨h1, _⟩ | ⟨h1, h2⟩
  · intro hf
    unfold chkV at h
    rw [if_pos hf] at h
    exact absurd h (by decide)
  · rw [h1] at h; exact absurd h (by decide)
  · exact h2
theorem chk_A {op A B C I : Int} (h : chkV op A B C I = 0) (z : Int) (hz : 15 < z) : chkV op z B C I = 6 := by
  unfold chkV
  rw [if_neg (chk_form h), if_neg]
  rintro ⟨⟨_, h1⟩, _⟩
  have := mxA_le (formV op)
  omega
theorem chk_I {op A B C I : Int} (h : chkV op A B C I = 0) (z : Int) (hz : 65535 < z) : chkV op A B C z = 6 := by
  unfold chkV
  rw [if_neg (chk_form h), if_neg]
  rintro ⟨_, _, _, _, h1⟩
  have := high_le op
  cases hh : hasF (formV op) with
  | true => rw [hh] at h1; simp only [cond_true] at h1; omega
  | false => rw [hh] at h1; simp only [cond_false] at h1; omega
theorem form_in {op : Int} (h : ¬ formV op = 0) : 0 < op ∧ op < 72 := by
  by_cases h1 : 0 ≤ op ∧ op < 72
  · refine ⟨?_, h1.2⟩
    rcases Int.lt_or_eq_of_le h1.1 with h2 | h2
    · exact h2
    · subst h2; exact absurd rfl h
  · exact absurd (by unfold formV tabI; rw [if_neg h1]) h
theorem chk_op {op A B C I : Int} (h : chkV op A B C I = 0) : chkV (IntKind.wrap .i64 (0 - op)) A B C I = 5 := by
  have := form_in (chk_form h)
  have e : IntKind.wrap .i64 (0 - op) = 0 - op := IntWalk.i64_in _ (by omega)
  rw [e]
  unfold chkV
  rw [if_pos]
  unfold formV tabI
  rw [if_neg (by omega)]
theorem u64_range (z : Int) : 0 ≤ IntKind.wrap .u64 z ∧ IntKind.wrap .u64 z < 18446744073709551616 := by
  simp only [IntKind.wrap, IntKind.bits, IntKind.signed]
  simp
  omega
theorem rem_range (z m : Int) (hm : 0 < m) : 0 ≤ (IntKind.wrap .u64 z).tmod m ∧ (IntKind.wrap .u64 z).tmod m < m := by
  have := (u64_range z).1
  exact ⟨Int.tmod_nonneg m this, Int.tmod_lt_of_pos _ hm⟩
theorem dec_bit (t : Int) (h : 0 ≤ t ∧ t < 12) : decR (orK .u32 34746368 (shlK .u32 1 t.toNat)) = .tuple #[zero5, .int .i64 6] := by
  have : t = 0 ∨ t = 1 ∨ t = 2 ∨ t = 3 ∨ t = 4 ∨ t = 5 ∨ t = 6 ∨ t = 7 ∨ t = 8 ∨ t = 9 ∨ t = 10 ∨ t = 11 := by omega
  rcases this with rfl | rfl | rfl | rfl | rfl | rfl | rfl | rfl | rfl | rfl | rfl | rfl <;> (show _ = _; kernel_rfl)
theorem enc_add : encR 2 1 2 3 0 = .tuple #[.int .u32 34746368, .int .i64 0] := by kernel_rfl
theorem q6 (n : Nat) (x y z : Value) (hx : flat x = true) (hy : flat y = true) (hz : flat z = true) (H : Hp) : evCall cfc (n+1) 6 [x, y, z] H = movR [] H (s6 (evCall cfc n) n x y z Hp.fl) := by
  rw [evCall_quiet (fn := Tryd.f6) (by rfl) (by rfl) Tryd.func6 (by rfl) (by simp [hx, hy, hz])]
  exact congrArg (movR [] H) (s6_eq _ _ _ _ _ _)
theorem v6 (n : Nat) (H : Hp) (op A B C I reg imm : Int) : evCall cfc (n+302) 6 [.agg #[.int .i64 op, .int .i64 A, .int .i64 B, .int .i64 C, .int .i64 I], .int .i64 reg, .int .i64 imm] H = some (.ret (.bool true), H) := by
  rw [q6 (n+301) _ _ _ rfl rfl rfl H]
  have h12 := v12 n
  have h15 := v15 (n+300)
  have h16 := v16 (n+293)
  have h18 := v18 (n+298)
  have h14 := v14 (n+292)
  rcases chk_cases op A B C I with hk | ⟨hk, hf⟩ | ⟨hk, hf⟩
  · have r1 := rem_range reg 1000 (by decide)
    have r2 := rem_range imm 1000000 (by decide)
    have r3 := rem_range reg 12 (by decide)
    have w1 : IntKind.wrap .i64 ((IntKind.wrap .u64 reg).tmod 1000) = (IntKind.wrap .u64 reg).tmod 1000 := IntWalk.i64_in _ (by omega)
    have w2 : IntKind.wrap .i64 (16 + (IntKind.wrap .u64 reg).tmod 1000) = 16 + (IntKind.wrap .u64 reg).tmod 1000 := IntWalk.i64_in _ (by omega)
    have w3 : IntKind.wrap .i64 ((IntKind.wrap .u64 imm).tmod 1000000) = (IntKind.wrap .u64 imm).tmod 1000000 := IntWalk.i64_in _ (by omega)
    have w4 : IntKind.wrap .i64 (65536 + (IntKind.wrap .u64 imm).tmod 1000000) = 65536 + (IntKind.wrap .u64 imm).tmod 1000000 := IntWalk.i64_in _ (by omega)
    have k1 := chk_A hk (16 + (IntKind.wrap .u64 reg).tmod 1000) (by omega)
    have k2 := chk_I hk (65536 + (IntKind.wrap .u64 imm).tmod 1000000) (by omega)
    have k3 := chk_op hk
    have n12 : ((IntKind.wrap .u64 reg).tmod 12 < 0) = False := eq_false (by omega)
    have hd := dec_bit _ r3
    have en0 : encR op A B C I = .tuple #[.int .u32 (encV op A B C I), .int .i64 0] := if_pos hk
    have en1 : encR op (16 + (IntKind.wrap .u64 reg).tmod 1000) B C I = .tuple #[.int .u32 0, .int .i64 6] := by unfold encR; rw [k1]; rfl
    have en2 : encR op A B C (65536 + (IntKind.wrap .u64 imm).tmod 1000000) = .tuple #[.int .u32 0, .int .i64 6] := by unfold encR; rw [k2]; rfl
    have en3 : encR (IntKind.wrap .i64 (0 - op)) A B C I = .tuple #[.int .u32 0, .int .i64 5] := by unfold encR; rw [k3]; rfl
    simp -implicitDefEqProofs only [s6, h12, h15, h16, h18, h14, tabs_gn, ↓someB, ↓callK_ret, ↓ifB_t, ↓ifB_f, ↓ifB_dec, ↓ifG_tt, ↓ifG_ff, ↓ifG_tf, ↓ifG_ft, ↓ifG_undef, ↓ifG_dt, ↓ifG_df, ↓jn_nrm, ↓jn_ex, ↓jn_rt, ↓jn_ite, ↓callK_ite, ↓bind_ite, bin_add, bin_sub, bin_mul, bin_quo, bin_rem, kin_and, kin_or, kin_xor, kin_andNot, bin_eql, bin_neq, bin_lss, bin_leq, bin_gtr, bin_geq, kin_shl, kin_shr, bin_beq, bin_bne, bin_sq, bin_sn, bin_in, bin_ic, sx_str, slS_lh, slS_l, slS_h, slV_lh, slV_l, slV_h, slV_n, int_nonneg, int_le_self, Int.toNat_natCast, un_not, un_neg, cvI_int, ptr_def, fa_ptr, nilc_ptr, ia_ptr, sa_ptr, fld_agg, fld_one, ix_one, ix_agg, ext1_tuple, ld_ptr, ldN_ptr, pick_t, pick_f, pick_dec, bx_int, bx_bool, bx_str, bx_agg, ifB_t, ifB_f, ifB_dec, ifG_tt, ifG_ff, ifG_tf, ifG_ft, ifG_undef, ifG_dt, ifG_df, not_dec, jn_nrm, jn_ex, jn_rt, jn_ite, lp_succ, callK_ret, callK_ite, bind_ite, someB, len_str, len_sl, pl_get, plA_get, beqA_eql, beqA_neq, seqS_nil, seqS_int, seqS_bool, fillL_nil, fillL_cons, cells_new, cells_set, next_fl, lim_fl, movR_ret, movR_ite, Hp.next_new, Hp.next_set, Hp.lim_new, Hp.lim_set, goInt, splice, okC, List.getD_cons_zero, List.getD_cons_succ, List.getElem?_cons_zero, List.getElem?_cons_succ, List.length_cons, List.length_nil, List.set_cons_zero, List.set_cons_succ, List.all_cons, List.all_nil, List.getElem?_toArray, Option.bind_some, Option.bind_none, Fr.of, Fr.ofI, Fr.g, cond_true, cond_false, if_true, if_false, Nat.reduceAdd, Nat.reduceMul, Nat.reduceEqDiff, Nat.reduceLT, Nat.reduceLeDiff, Nat.reduceBEq, Int.reduceLT, Int.reduceLE, Int.reduceToNat, Int.reduceAdd, Int.reduceSub, Int.reduceMul, Int.reduceEq, Int.reduceNeg, Int.cast_ofNat_Int, Nat.zero_add, Nat.add_zero, Nat.mul_one, decide_true, decide_false, and_true, true_and, and_self, ↓reduceIte, ↓reduceDIte, Bool.true_and, Bool.and_true, Bool.false_and, Bool.and_false, Bool.not_true, Bool.not_false, not_true_eq_false, not_false_eq_true, Nat.beq, reduceCtorEq, Value.int.injEq, List.drop_zero, List.drop_succ_cons, List.take_succ_cons, List.take_zero, List.take_nil, List.size_toArray, toL_toA, cl_opn, new_opn, set_opn, opn_opn, fl_opn, next_opn, lim_opn, cells_opn, rwc_opn, rwc_new, rwc_set, sto_ptr, app_get, app_R, app_F, app_pc, app_set, app_setR, app_setF, app_setPc, app_length, app_take, app_drop, app_all, rdA_ptr, memN_nil, memN_cons, List.nil_append, List.cons_append, Option.map_some, regs_take, regs_drop, regs_take16, app_take16, row16_self, regs_self, splice_regs, regs_append_nil, regs_length, regs_R, regs_F, regs_pc, regs_setR, regs_setF, regs_setPc, regs_okC, regs_flat, Nat.reduceSub, flat_bool, en0, en1, en2, en3, enc_add, w1, w2, w3, w4, n12, hd, zero5]
  · have hn : ¬ chkV op A B C I = 0 := by rw [hk]; decide
    have h8 := fun H => v8e (n+294) H op A B C I hn
    have en : encR op A B C I = .tuple #[.int .u32 0, .int .i64 5] := by unfold encR; rw [hk]; rfl
    rw [hk] at h8
    simp -implicitDefEqProofs only [s6, h12, h15, h16, h18, h8, tabs_gn, ↓someB, ↓callK_ret, ↓ifB_t, ↓ifB_f, ↓ifB_dec, ↓ifG_tt, ↓ifG_ff, ↓ifG_tf, ↓ifG_ft, ↓ifG_undef, ↓ifG_dt, ↓ifG_df, ↓jn_nrm, ↓jn_ex, ↓jn_rt, ↓jn_ite, ↓callK_ite, ↓bind_ite, bin_add, bin_sub, bin_mul, bin_quo, bin_rem, kin_and, kin_or, kin_xor, kin_andNot, bin_eql, bin_neq, bin_lss, bin_leq, bin_gtr, bin_geq, kin_shl, kin_shr, bin_beq, bin_bne, bin_sq, bin_sn, bin_in, bin_ic, sx_str, slS_lh, slS_l, slS_h, slV_lh, slV_l, slV_h, slV_n, int_nonneg, int_le_self, Int.toNat_natCast, un_not, un_neg, cvI_int, ptr_def, fa_ptr, nilc_ptr, ia_ptr, sa_ptr, fld_agg, fld_one, ix_one, ix_agg, ext1_tuple, ld_ptr, ldN_ptr, pick_t, pick_f, pick_dec, bx_int, bx_bool, bx_str, bx_agg, ifB_t, ifB_f, ifB_dec, ifG_tt, ifG_ff, ifG_tf, ifG_ft, ifG_undef, ifG_dt, ifG_df, not_dec, jn_nrm, jn_ex, jn_rt, jn_ite, lp_succ, callK_ret, callK_ite, bind_ite, someB, len_str, len_sl, pl_get, plA_get, beqA_eql, beqA_neq, seqS_nil, seqS_int, seqS_bool, fillL_nil, fillL_cons, cells_new, cells_set, next_fl, lim_fl, movR_ret, movR_ite, Hp.next_new, Hp.next_set, Hp.lim_new, Hp.lim_set, goInt, splice, okC, List.getD_cons_zero, List.getD_cons_succ, List.getElem?_cons_zero, List.getElem?_cons_succ, List.length_cons, List.length_nil, List.set_cons_zero, List.set_cons_succ, List.all_cons, List.all_nil, List.getElem?_toArray, Option.bind_some, Option.bind_none, Fr.of, Fr.ofI, Fr.g, cond_true, cond_false, if_true, if_false, Nat.reduceAdd, Nat.reduceMul, Nat.reduceEqDiff, Nat.reduceLT, Nat.reduceLeDiff, Nat.reduceBEq, Int.reduceLT, Int.reduceLE, Int.reduceToNat, Int.reduceAdd, Int.reduceSub, Int.reduceMul, Int.reduceEq, Int.reduceNeg, Int.cast_ofNat_Int, Nat.zero_add, Nat.add_zero, Nat.mul_one, decide_true, decide_false, and_true, true_and, and_self, ↓reduceIte, ↓reduceDIte, Bool.true_and, Bool.and_true, Bool.false_and, Bool.and_false, Bool.not_true, Bool.not_false, not_true_eq_false, not_false_eq_true, Nat.beq, reduceCtorEq, Value.int.injEq, List.drop_zero, List.drop_succ_cons, List.take_succ_cons, List.take_zero, List.take_nil, List.size_toArray, toL_toA, cl_opn, new_opn, set_opn, opn_opn, fl_opn, next_opn, lim_opn, cells_opn, rwc_opn, rwc_new, rwc_set, sto_ptr, app_get, app_R, app_F, app_pc, app_set, app_setR, app_setF, app_setPc, app_length, app_take, app_drop, app_all, rdA_ptr, memN_nil, memN_cons, List.nil_append, List.cons_append, Option.map_some, regs_take, regs_drop, regs_take16, app_take16, row16_self, regs_self, splice_regs, regs_append_nil, regs_length, regs_R, regs_F, regs_pc, regs_setR, regs_setF, regs_setPc, regs_okC, regs_flat, Nat.reduceSub, flat_bool, en, hf]
    rfl
  · have hn : ¬ chkV op A B C I = 0 := by rw [hk]; decide
    have h8 := fun H => v8e (n+294) H op A B C I hn
    have en : encR op A B C I = .tuple #[.int .u32 0, .int .i64 6] := by unfold encR; rw [hk]; rfl
    rw [hk] at h8
    simp -implicitDefEqProofs only [s6, h12, h15, h16, h18, h8, tabs_gn, ↓someB, ↓callK_ret, ↓ifB_t, ↓ifB_f, ↓ifB_dec, ↓ifG_tt, ↓ifG_ff, ↓ifG_tf, ↓ifG_ft, ↓ifG_undef, ↓ifG_dt, ↓ifG_df, ↓jn_nrm, ↓jn_ex, ↓jn_rt, ↓jn_ite, ↓callK_ite, ↓bind_ite, bin_add, bin_sub, bin_mul, bin_quo, bin_rem, kin_and, kin_or, kin_xor, kin_andNot, bin_eql, bin_neq, bin_lss, bin_leq, bin_gtr, bin_geq, kin_shl, kin_shr, bin_beq, bin_bne, bin_sq, bin_sn, bin_in, bin_ic, sx_str, slS_lh, slS_l, slS_h, slV_lh, slV_l, slV_h, slV_n, int_nonneg, int_le_self, Int.toNat_natCast, un_not, un_neg, cvI_int, ptr_def, fa_ptr, nilc_ptr, ia_ptr, sa_ptr, fld_agg, fld_one, ix_one, ix_agg, ext1_tuple, ld_ptr, ldN_ptr, pick_t, pick_f, pick_dec, bx_int, bx_bool, bx_str, bx_agg, ifB_t, ifB_f, ifB_dec, ifG_tt, ifG_ff, ifG_tf, ifG_ft, ifG_undef, ifG_dt, ifG_df, not_dec, jn_nrm, jn_ex, jn_rt, jn_ite, lp_succ, callK_ret, callK_ite, bind_ite, someB, len_str, len_sl, pl_get, plA_get, beqA_eql, beqA_neq, seqS_nil, seqS_int, seqS_bool, fillL_nil, fillL_cons, cells_new, cells_set, next_fl, lim_fl, movR_ret, movR_ite, Hp.next_new, Hp.next_set, Hp.lim_new, Hp.lim_set, goInt, splice, okC, List.getD_cons_zero, List.getD_cons_succ, List.getElem?_cons_zero, List.getElem?_cons_succ, List.length_cons, List.length_nil, List.set_cons_zero, List.set_cons_succ, List.all_cons, List.all_nil, List.getElem?_toArray, Option.bind_some, Option.bind_none, Fr.of, Fr.ofI, Fr.g, cond_true, cond_false, if_true, if_false, Nat.reduceAdd, Nat.reduceMul, Nat.reduceEqDiff, Nat.reduceLT, Nat.reduceLeDiff, Nat.reduceBEq, Int.reduceLT, Int.reduceLE, Int.reduceToNat, Int.reduceAdd, Int.reduceSub, Int.reduceMul, Int.reduceEq, Int.reduceNeg, Int.cast_ofNat_Int, Nat.zero_add, Nat.add_zero, Nat.mul_one, decide_true, decide_false, and_true, true_and, and_self, ↓reduceIte, ↓reduceDIte, Bool.true_and, Bool.and_true, Bool.false_and, Bool.and_false, Bool.not_true, Bool.not_false, not_true_eq_false, not_false_eq_true, Nat.beq, reduceCtorEq, Value.int.injEq, List.drop_zero, List.drop_succ_cons, List.take_succ_cons, List.take_zero, List.take_nil, List.size_toArray, toL_toA, cl_opn, new_opn, set_opn, opn_opn, fl_opn, next_opn, lim_opn, cells_opn, rwc_opn, rwc_new, rwc_set, sto_ptr, app_get, app_R, app_F, app_pc, app_set, app_setR, app_setF, app_setPc, app_length, app_take, app_drop, app_all, rdA_ptr, memN_nil, memN_cons, List.nil_append, List.cons_append, Option.map_some, regs_take, regs_drop, regs_take16, app_take16, row16_self, regs_self, splice_regs, regs_append_nil, regs_length, regs_R, regs_F, regs_pc, regs_setR, regs_setF, regs_setPc, regs_okC, regs_flat, Nat.reduceSub, flat_bool, en, hf]
    rfl
end Go.Proofs.YtbaooebafijenaaDoor
