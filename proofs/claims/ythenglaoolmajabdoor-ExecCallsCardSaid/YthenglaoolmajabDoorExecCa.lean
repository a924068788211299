/- The law ExecCalls: a call comes back. -/
import Derived.Test.YthenglaoolmajabDoorExecD
import Derived.Test.YthenglaoolmajabDoorExecLa
namespace Go.Proofs.YthenglaoolmajabDoor
open Go Go.Ev
set_option maxRecDepth 100000
set_option linter.unusedSimpArgs false
set_option linter.unusedVariables false
set_option maxHeartbeats 4000000
set_option linter.unusedSectionVars false
variable [Xt]
attribute [local congr] bind_front callK_front jn_front ifB_front ifG_front lp_front
theorem q3 (n : Nat) (x0 x1 x2 : Value) (hx0 : flat x0 = true) (hx1 : flat x1 = true) (hx2 : flat x2 = true) (H : Hp) : evCall cfc (n+1) 3 [x0, x1, x2] H = floorR H (s3 (evCall cfc n) n x0 x1 x2 Hp.fl) := by
  rw [evCall_quiet (fn := Tryd.f3) (by rfl) Tryd.func3 (by rfl) (by simp [hx0, hx1, hx2])]
  exact congrArg (floorR H) (s3_eq _ _ _ _ _ _)
theorem chk_jal (A I : Int) (hA : 0 ≤ A ∧ A < 16) (hI : -32768 ≤ I ∧ I ≤ 32767) : chkV 44 A 0 0 I = 0 := by
  simp only [chkV, okF, show formV 44 = 8 from rfl, show lowV 44 = -32768 from rfl, show highV 44 = 32767 from rfl, mxA_8, mxB_8, mxC_8, hasF_8, cond_true]
  rw [if_neg (by omega), if_pos (by omega)]
theorem chk_jalr (B : Int) (hB : 0 ≤ B ∧ B < 16) : chkV 45 0 B 0 0 = 0 := by
  simp only [chkV, okF, show formV 45 = 5 from rfl, show lowV 45 = -32768 from rfl, show highV 45 = 32767 from rfl, mxA_5, mxB_5, mxC_5, hasF_5, cond_true]
  rw [if_neg (by omega), if_pos (by omega)]
theorem v3 (n : Nat) (H : Hp) (R F : Nat → Int) (pc a m : Int) (hpc : 0 ≤ pc ∧ pc < 4294967296) : evCall cfc (n+40) 3 [.agg (regs R F pc).toArray, .int .i64 a, .int .i64 m] H = some (.ret (.bool true), H) := by
  rw [q3 (n+39) _ _ _ (regs_flat _ _ _) rfl rfl H]
  obtain ⟨L, eL⟩ : ∃ L, IntKind.wrap .i64 (1 + IntKind.wrap .i64 ((IntKind.wrap .u64 a).tmod 15)) = L := ⟨_, rfl⟩
  obtain ⟨I, eI⟩ : ∃ I, IntKind.wrap .i64 (IntKind.wrap .i64 ((IntKind.wrap .u64 m).tmod 65536) - 32768) = I := ⟨_, rfl⟩
  obtain ⟨p, ep⟩ : ∃ p, andNotK .u32 pc 3 = p := ⟨_, rfl⟩
  have hL0 := low_field a 15 (by omega)
  have hL1 : 1 ≤ L ∧ L < 16 := by
    rw [← eL, IntWalk.i64_in _ (by omega)]
    omega
  have hL : 0 ≤ L ∧ L < 16 := by omega
  have hI : -32768 ≤ I ∧ I ≤ 32767 := eI ▸ imm_field m
  have hp : p % 4 = 0 := by rw [← ep, andNot3 pc hpc]; omega
  have ht : (toV p I).tmod 4 = 0 := toV_aligned p I hp
  have et : IntKind.wrap .u32 (p + IntKind.wrap .u32 (4 * IntKind.wrap .u32 I)) = toV p I := rfl
  obtain ⟨w, ew⟩ : ∃ w, IntKind.wrap .u32 (p + 4) = w := ⟨_, rfl⟩
  obtain ⟨R2, e2⟩ : ∃ R2, upd (upd (upd R 0 0) L.toNat w) 0 0 = R2 := ⟨_, rfl⟩
  have rL : R2 L.toNat = w := by
    rw [← e2]
    simp only [upd]
    rw [if_neg (by omega)]
    simp
  have r0 : ∀ v, upd (upd R2 0 v) 0 0 = R2 := fun v => by rw [upd_upd, ← e2, upd_upd]
  have r00 : upd R2 0 0 = R2 := by rw [← e2, upd_upd]
  have ad : adV R2 L 0 = w := by
    unfold adV
    rw [r00, rL, ← ew]
    simp only [IntKind.wrap_u32]
    omega
  have al : (w.tmod 4 = 0) = True := by
    refine eq_true ?_
    have h1 := wrap_u32_range (p + 4)
    rw [← ew, Int.tmod_eq_emod_of_nonneg h1.1, IntKind.wrap_u32]
    omega
  have d44 := fun n H => done_44 n H R F p L I 0 hL (chk_jal L I hL hI)
  have d45 := fun n H => done_45 n H R2 F (toV p I) 0 L 0 0 (by omega) hL (chk_jalr L hL)
  have l0 : (0 ≤ L) = True := eq_true hL.1
  have l1 : (L < 16) = True := eq_true hL.2
  have l2 : (L.toNat < 16) = True := eq_true (by omega)
  simp -implicitDefEqProofs only [s3, v4, tabs_gn, ↓someB, ↓callK_ret, ↓ifB_t, ↓ifB_f, ↓ifB_dec, ↓ifG_tt, ↓ifG_ff, ↓ifG_tf, ↓ifG_ft, ↓ifG_undef, ↓ifG_dt, ↓ifG_df, ↓jn_nrm, ↓jn_ex, ↓jn_rt, ↓jn_ite, ↓callK_ite, ↓bind_ite, bin_add, bin_sub, bin_mul, bin_quo, bin_rem, kin_and, kin_or, kin_xor, kin_andNot, bin_eql, bin_neq, bin_lss, bin_leq, bin_gtr, bin_geq, kin_shl, kin_shr, bin_beq, bin_bne, bin_seq, bin_sne, un_not, un_neg, cvI_int, ptr_def, fa_ptr, nilc_ptr, ia_ptr, sa_ptr, fld_agg, fld_one, ix_one, ix_agg, ext1_tuple, ld_ptr, ldN_ptr, pick_t, pick_f, pick_dec, bx_int, bx_bool, bx_str, bx_agg, ifB_t, ifB_f, ifB_dec, ifG_tt, ifG_ff, ifG_tf, ifG_ft, ifG_undef, ifG_dt, ifG_df, not_dec, jn_nrm, jn_ex, jn_rt, jn_ite, lp_succ, callK_ret, callK_ite, bind_ite, someB, len_str, len_sl, pl_get, plA_get, beqA_eql, beqA_neq, seqS_nil, seqS_int, seqS_bool, fillL_nil, fillL_cons, cells_new, cells_set, next_fl, lim_fl, floorR_ret, floorR_ite, Hp.next_new, Hp.next_set, Hp.lim_new, Hp.lim_set, goInt, splice, okC, List.getD_cons_zero, List.getD_cons_succ, List.getElem?_cons_zero, List.getElem?_cons_succ, List.length_cons, List.length_nil, List.set_cons_zero, List.set_cons_succ, List.all_cons, List.all_nil, List.getElem?_toArray, Option.bind_some, Option.bind_none, Fr.of, Fr.ofI, Fr.g, cond_true, cond_false, if_true, if_false, Nat.reduceAdd, Nat.reduceMul, Nat.reduceEqDiff, Nat.reduceLT, Nat.reduceLeDiff, Nat.reduceBEq, Int.reduceLT, Int.reduceLE, Int.reduceToNat, Int.reduceAdd, Int.reduceSub, Int.reduceMul, Int.reduceEq, Int.reduceNeg, Int.cast_ofNat_Int, Nat.zero_add, Nat.add_zero, Nat.mul_one, decide_true, decide_false, and_true, true_and, and_self, ↓reduceIte, ↓reduceDIte, Bool.true_and, Bool.and_true, Bool.false_and, Bool.and_false, Bool.not_true, Bool.not_false, not_true_eq_false, not_false_eq_true, Nat.beq, reduceCtorEq, Value.int.injEq, List.drop_zero, List.drop_succ_cons, List.take_succ_cons, List.take_zero, List.take_nil, List.size_toArray, toL_toA, cl_opn, new_opn, set_opn, opn_opn, fl_opn, next_opn, lim_opn, cells_opn, rwc_opn, rwc_new, rwc_set, sto_ptr, app_get, app_R, app_F, app_pc, app_set, app_setR, app_setF, app_setPc, app_length, app_take, app_drop, app_all, rdA_ptr, memN_nil, memN_cons, List.nil_append, List.cons_append, Option.map_some, regs_take, regs_drop, regs_take16, app_take16, row16_self, regs_self, splice_regs, regs_append_nil, regs_length, regs_R, regs_F, regs_pc, regs_setR, regs_setF, regs_setPc, regs_okC, regs_flat, Nat.reduceSub, flat_bool, eL, eI, ep, et, ew, e2, d44, d45, r0, r00, rL, ad, al, ht, l0, l1, l2, doneT, upd_upd]
end Go.Proofs.YthenglaoolmajabDoor
