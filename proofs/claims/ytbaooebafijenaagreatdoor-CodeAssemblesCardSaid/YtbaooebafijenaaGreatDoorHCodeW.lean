/- The word of an instruction. -/
import Derived.Test.YtbaooebafijenaaGreatDoorHCodeB
import Derived.Test.YtbaooebafijenaaGreatDoorHvBits
namespace Go.Proofs.YtbaooebafijenaaGreatDoor
open Go Go.Ev
set_option maxRecDepth 100000
set_option linter.unusedSimpArgs false
set_option linter.unusedVariables false
set_option maxHeartbeats 2000000
set_option linter.unusedSectionVars false
variable [Mx]
attribute [local congr] bind_front callK_front jn_front ifB_front ifG_front lp_front
def baseV (op A B : Int) : Int := orK .u32 (orK .u32 (shlK .u32 (IntKind.wrap .u32 op) 24) (shlK .u32 (IntKind.wrap .u32 A) 20)) (shlK .u32 (IntKind.wrap .u32 B) 16)
def encV (op A B C I : Int) : Int := if hasV op = true then orK .u32 (baseV op A B) (andK .u32 (IntKind.wrap .u32 I) 65535) else orK .u32 (baseV op A B) (shlK .u32 (IntKind.wrap .u32 C) 12)
def encR (op A B C I : Int) : Value := if chkV op A B C I = 0 then .tuple #[.int .u32 (encV op A B C I), .int .i64 0] else .tuple #[.int .u32 0, .int .i64 (chkV op A B C I)]
theorem flat_t2 (k k' : IntKind) (a b : Int) : flat (.tuple #[.int k a, .int k' b]) = true := rfl
theorem v20 (n : Nat) (H : Hp) (op A B C I : Int) : evCall cfc (n+8) 20 [.agg #[.int .i64 op, .int .i64 A, .int .i64 B, .int .i64 C, .int .i64 I]] H = some (.ret (encR op A B C I), H) := by
 rw [q20 (n+7) _ rfl H]
 by_cases hk : chkV op A B C I = 0
 · by_cases hh : hasV op = true
   · simp -implicitDefEqProofs only [s20, v38, v39, tabs_gn, ↓someB, ↓callK_ret, ↓ifB_t, ↓ifB_f, ↓ifB_dec, ↓ifG_tt, ↓ifG_ff, ↓ifG_tf, ↓ifG_ft, ↓ifG_undef, ↓ifG_dt, ↓ifG_df, ↓jn_nrm, ↓jn_ex, ↓jn_rt, ↓jn_ite, ↓callK_ite, ↓bind_ite, bin_add, bin_sub, bin_mul, bin_quo, bin_rem, kin_and, kin_or, kin_xor, kin_andNot, bin_eql, bin_neq, bin_lss, bin_leq, bin_gtr, bin_geq, kin_shl, kin_shr, bin_beq, bin_bne, bin_seq, bin_sne, un_not, un_neg, cvI_int, ptr_def, fa_ptr, nilc_ptr, ia_ptr, sa_ptr, fld_agg, fld_one, ix_one, ix_agg, ext1_tuple, ld_ptr, ldN_ptr, st_ptr, pick_t, pick_f, pick_dec, bx_int, bx_bool, bx_str, bx_agg, ifB_t, ifB_f, ifB_dec, ifG_tt, ifG_ff, ifG_tf, ifG_ft, ifG_undef, ifG_dt, ifG_df, not_dec, jn_nrm, jn_ex, jn_rt, jn_ite, lp_succ, callK_ret, callK_ite, bind_ite, someB, len_str, len_sl, pl_get, plA_get, beqA_eql, beqA_neq, seqS_nil, seqS_int, seqS_bool, fillL_nil, fillL_cons, cells_new, cells_set, wc_new, wc_set, next_fl, lim_fl, movR_ret, movR_ite, Hp.next_new, Hp.next_set, Hp.lim_new, Hp.lim_set, goInt, splice, okC, List.getD_cons_zero, List.getD_cons_succ, List.getElem?_cons_zero, List.getElem?_cons_succ, List.length_cons, List.length_nil, List.set_cons_zero, List.set_cons_succ, List.all_cons, List.all_nil, List.getElem?_toArray, Option.bind_some, Option.bind_none, Fr.of, Fr.ofI, Fr.g, cond_true, cond_false, if_true, if_false, Nat.reduceAdd, Nat.reduceMul, Nat.reduceEqDiff, Nat.reduceLT, Nat.reduceLeDiff, Nat.reduceBEq, Int.reduceLT, Int.reduceLE, Int.reduceToNat, Int.reduceAdd, Int.reduceSub, Int.reduceMul, Int.reduceEq, Int.reduceNeg, Int.cast_ofNat_Int, Nat.zero_add, Nat.add_zero, Nat.mul_one, decide_true, decide_false, and_true, true_and, and_self, ↓reduceIte, ↓reduceDIte, Bool.true_and, Bool.and_true, Bool.false_and, Bool.and_false, Bool.not_true, Bool.not_false, not_true_eq_false, not_false_eq_true, Nat.beq, reduceCtorEq, Value.int.injEq, List.drop_zero, List.drop_succ_cons, List.take_succ_cons, List.take_zero, List.take_nil, List.size_toArray, toL_toA, flat_t2, hk, hh, encR, encV, baseV]
   · simp only [Bool.not_eq_true] at hh
     simp -implicitDefEqProofs only [s20, v38, v39, tabs_gn, ↓someB, ↓callK_ret, ↓ifB_t, ↓ifB_f, ↓ifB_dec, ↓ifG_tt, ↓ifG_ff, ↓ifG_tf, ↓ifG_ft, ↓ifG_undef, ↓ifG_dt, ↓ifG_df, ↓jn_nrm, ↓jn_ex, ↓jn_rt, ↓jn_ite, ↓callK_ite, ↓bind_ite, bin_add, bin_sub, bin_mul, bin_quo, bin_rem, kin_and, kin_or, kin_xor, kin_andNot, bin_eql, bin_neq, bin_lss, bin_leq, bin_gtr, bin_geq, kin_shl, kin_shr, bin_beq, bin_bne, bin_seq, bin_sne, un_not, un_neg, cvI_int, ptr_def, fa_ptr, nilc_ptr, ia_ptr, sa_ptr, fld_agg, fld_one, ix_one, ix_agg, ext1_tuple, ld_ptr, ldN_ptr, st_ptr, pick_t, pick_f, pick_dec, bx_int, bx_bool, bx_str, bx_agg, ifB_t, ifB_f, ifB_dec, ifG_tt, ifG_ff, ifG_tf, ifG_ft, ifG_undef, ifG_dt, ifG_df, not_dec, jn_nrm, jn_ex, jn_rt, jn_ite, lp_succ, callK_ret, callK_ite, bind_ite, someB, len_str, len_sl, pl_get, plA_get, beqA_eql, beqA_neq, seqS_nil, seqS_int, seqS_bool, fillL_nil, fillL_cons, cells_new, cells_set, wc_new, wc_set, next_fl, lim_fl, movR_ret, movR_ite, Hp.next_new, Hp.next_set, Hp.lim_new, Hp.lim_set, goInt, splice, okC, List.getD_cons_zero, List.getD_cons_succ, List.getElem?_cons_zero, List.getElem?_cons_succ, List.length_cons, List.length_nil, List.set_cons_zero, List.set_cons_succ, List.all_cons, List.all_nil, List.getElem?_toArray, Option.bind_some, Option.bind_none, Fr.of, Fr.ofI, Fr.g, cond_true, cond_false, if_true, if_false, Nat.reduceAdd, Nat.reduceMul, Nat.reduceEqDiff, Nat.reduceLT, Nat.reduceLeDiff, Nat.reduceBEq, Int.reduceLT, Int.reduceLE, Int.reduceToNat, Int.reduceAdd, Int.reduceSub, Int.reduceMul, Int.reduceEq, Int.reduceNeg, Int.cast_ofNat_Int, Nat.zero_add, Nat.add_zero, Nat.mul_one, decide_true, decide_false, and_true, true_and, and_self, ↓reduceIte, ↓reduceDIte, Bool.true_and, Bool.and_true, Bool.false_and, Bool.and_false, Bool.not_true, Bool.not_false, not_true_eq_false, not_false_eq_true, Nat.beq, reduceCtorEq, Value.int.injEq, List.drop_zero, List.drop_succ_cons, List.take_succ_cons, List.take_zero, List.take_nil, List.size_toArray, toL_toA, flat_t2, hk, hh, encR, encV, baseV]
 · simp -implicitDefEqProofs only [s20, v38, v39, tabs_gn, ↓someB, ↓callK_ret, ↓ifB_t, ↓ifB_f, ↓ifB_dec, ↓ifG_tt, ↓ifG_ff, ↓ifG_tf, ↓ifG_ft, ↓ifG_undef, ↓ifG_dt, ↓ifG_df, ↓jn_nrm, ↓jn_ex, ↓jn_rt, ↓jn_ite, ↓callK_ite, ↓bind_ite, bin_add, bin_sub, bin_mul, bin_quo, bin_rem, kin_and, kin_or, kin_xor, kin_andNot, bin_eql, bin_neq, bin_lss, bin_leq, bin_gtr, bin_geq, kin_shl, kin_shr, bin_beq, bin_bne, bin_seq, bin_sne, un_not, un_neg, cvI_int, ptr_def, fa_ptr, nilc_ptr, ia_ptr, sa_ptr, fld_agg, fld_one, ix_one, ix_agg, ext1_tuple, ld_ptr, ldN_ptr, st_ptr, pick_t, pick_f, pick_dec, bx_int, bx_bool, bx_str, bx_agg, ifB_t, ifB_f, ifB_dec, ifG_tt, ifG_ff, ifG_tf, ifG_ft, ifG_undef, ifG_dt, ifG_df, not_dec, jn_nrm, jn_ex, jn_rt, jn_ite, lp_succ, callK_ret, callK_ite, bind_ite, someB, len_str, len_sl, pl_get, plA_get, beqA_eql, beqA_neq, seqS_nil, seqS_int, seqS_bool, fillL_nil, fillL_cons, cells_new, cells_set, wc_new, wc_set, next_fl, lim_fl, movR_ret, movR_ite, Hp.next_new, Hp.next_set, Hp.lim_new, Hp.lim_set, goInt, splice, okC, List.getD_cons_zero, List.getD_cons_succ, List.getElem?_cons_zero, List.getElem?_cons_succ, List.length_cons, List.length_nil, List.set_cons_zero, List.set_cons_succ, List.all_cons, List.all_nil, List.getElem?_toArray, Option.bind_some, Option.bind_none, Fr.of, Fr.ofI, Fr.g, cond_true, cond_false, if_true, if_false, Nat.reduceAdd, Nat.reduceMul, Nat.reduceEqDiff, Nat.reduceLT, Nat.reduceLeDiff, Nat.reduceBEq, Int.reduceLT, Int.reduceLE, Int.reduceToNat, Int.reduceAdd, Int.reduceSub, Int.reduceMul, Int.reduceEq, Int.reduceNeg, Int.cast_ofNat_Int, Nat.zero_add, Nat.add_zero, Nat.mul_one, decide_true, decide_false, and_true, true_and, and_self, ↓reduceIte, ↓reduceDIte, Bool.true_and, Bool.and_true, Bool.false_and, Bool.and_false, Bool.not_true, Bool.not_false, not_true_eq_false, not_false_eq_true, Nat.beq, reduceCtorEq, Value.int.injEq, List.drop_zero, List.drop_succ_cons, List.take_succ_cons, List.take_zero, List.take_nil, List.size_toArray, toL_toA, flat_t2, hk, encR]
theorem chk_okF {op A B C I : Int} (h : chkV op A B C I = 0) : okF (formV op) A B C I (lowV op) (highV op) := by
 unfold chkV at h
 split at h
 · cases h
 · split at h
   · assumption
   · cases h
theorem mxC_has : ∀ f : Int, hasF f = true → mxC f = 0 := by
 intro f h
 simp only [hasF, decide_eq_true_eq] at h
 rcases h with rfl | rfl | rfl | rfl | rfl | rfl | rfl <;> rfl
theorem chk_has {op A B C I : Int} (h : chkV op A B C I = 0) (hh : hasV op = true) : C = 0 ∧ lowV op ≤ I ∧ I ≤ highV op := by
 obtain ⟨_, _, h3, h4⟩ := chk_okF h
 have e : hasF (formV op) = true := hh
 rw [mxC_has _ e] at h3
 rw [e] at h4
 exact ⟨by omega, h4⟩
theorem chk_not {op A B C I : Int} (h : chkV op A B C I = 0) (hh : hasV op = false) : I = 0 := by
 obtain ⟨_, _, _, h4⟩ := chk_okF h
 have e : hasF (formV op) = false := hh
 rw [e] at h4
 simp only [cond_false] at h4
 omega
theorem base_range (op A B : Int) : 0 ≤ baseV op A B ∧ baseV op A B < 4294967296 := orK_range _ _
end Go.Proofs.YtbaooebafijenaaGreatDoor
