/- The law ExecOne answers true, whatever the instruction. -/
import Derived.Test.YthenglaoolmajaaDoorExecO
import Derived.Test.YthenglaoolmajaaDoorExecE
import Derived.Test.YthenglaoolmajaaDoorExecF
namespace Go.Proofs.YthenglaoolmajaaDoor
open Go Go.Ev
set_option maxRecDepth 100000
set_option linter.unusedSimpArgs false
set_option linter.unusedVariables false
set_option maxHeartbeats 2000000
set_option linter.unusedSectionVars false
attribute [local congr] bind_front callK_front jn_front ifB_front ifG_front lp_front
theorem done_bad (n : Nat) (H : Hp) (R F : Nat → Int) (pc op A B C I ld : Int) (hk : ¬ chkV op A B C I = 0) :
    evCall cfc (n+14) 20 [.agg (regs R F pc).toArray, .agg #[.int .i64 op, .int .i64 A, .int .i64 B, .int .i64 C, .int .i64 I], .int .u64 ld] H = some (.ret (doneT (upd R 0 0) F pc 1 0), H) := by
  rw [q20 (n+13) _ _ _ (regs_flat _ _ _) rfl rfl H]
  have hk2 : (chkV op A B C I = 0) = False := eq_false hk
  simp -implicitDefEqProofs only [s20, v32, v33, tabs_gn, ↓someB, ↓callK_ret, ↓ifB_t, ↓ifB_f, ↓ifB_dec, ↓ifG_tt, ↓ifG_ff, ↓ifG_tf, ↓ifG_ft, ↓ifG_undef, ↓ifG_dt, ↓ifG_df, ↓jn_nrm, ↓jn_ex, ↓jn_rt, ↓jn_ite, ↓callK_ite, ↓bind_ite, bin_add, bin_sub, bin_mul, bin_quo, bin_rem, kin_and, kin_or, kin_xor, kin_andNot, bin_eql, bin_neq, bin_lss, bin_leq, bin_gtr, bin_geq, kin_shl, kin_shr, bin_beq, bin_bne, bin_seq, bin_sne, un_not, un_neg, cvI_int, ptr_def, fa_ptr, nilc_ptr, ia_ptr, sa_ptr, fld_agg, fld_one, ix_one, ix_agg, ext1_tuple, ld_ptr, ldN_ptr, pick_t, pick_f, pick_dec, bx_int, bx_bool, bx_str, bx_agg, ifB_t, ifB_f, ifB_dec, ifG_tt, ifG_ff, ifG_tf, ifG_ft, ifG_undef, ifG_dt, ifG_df, not_dec, jn_nrm, jn_ex, jn_rt, jn_ite, lp_succ, callK_ret, callK_ite, bind_ite, someB, len_str, len_sl, pl_get, plA_get, beqA_eql, beqA_neq, seqS_nil, seqS_int, seqS_bool, fillL_nil, fillL_cons, cells_new, cells_set, next_fl, lim_fl, floorR_ret, floorR_ite, Hp.next_new, Hp.next_set, Hp.lim_new, Hp.lim_set, goInt, splice, okC, List.getD_cons_zero, List.getD_cons_succ, List.getElem?_cons_zero, List.getElem?_cons_succ, List.length_cons, List.length_nil, List.set_cons_zero, List.set_cons_succ, List.all_cons, List.all_nil, List.getElem?_toArray, Option.bind_some, Option.bind_none, Fr.of, Fr.ofI, Fr.g, cond_true, cond_false, if_true, if_false, Nat.reduceAdd, Nat.reduceMul, Nat.reduceEqDiff, Nat.reduceLT, Nat.reduceLeDiff, Nat.reduceBEq, Int.reduceLT, Int.reduceLE, Int.reduceToNat, Int.reduceAdd, Int.reduceSub, Int.reduceMul, Int.reduceEq, Int.reduceNeg, Int.cast_ofNat_Int, Nat.zero_add, Nat.add_zero, Nat.mul_one, decide_true, decide_false, and_true, true_and, and_self, ↓reduceIte, ↓reduceDIte, Bool.true_and, Bool.and_true, Bool.false_and, Bool.and_false, Bool.not_true, Bool.not_false, not_true_eq_false, not_false_eq_true, Nat.beq, reduceCtorEq, Value.int.injEq, List.drop_zero, List.drop_succ_cons, List.take_succ_cons, List.take_zero, List.take_nil, List.size_toArray, toL_toA, cl_opn, new_opn, set_opn, opn_opn, fl_opn, next_opn, lim_opn, cells_opn, rwc_opn, rwc_new, rwc_set, sto_ptr, app_get, app_R, app_F, app_pc, app_set, app_setR, app_setF, app_setPc, app_length, app_take, app_drop, app_all, rdA_ptr, memN_nil, memN_cons, List.nil_append, List.cons_append, Option.map_some, regs_take, regs_drop, regs_take16, app_take16, row16_self, regs_self, splice_regs, regs_append_nil, regs_length, regs_R, regs_F, regs_pc, regs_setR, regs_setF, regs_setPc, regs_okC, regs_flat, Nat.reduceSub, flat_int, flat_bool, flat_done, regs_flat, flat_i5, hk2, upd_upd, decide_true, doneT]
theorem goOn_mono {op A pc pc2 : Int} {R2 : Nat → Int} (h : goOn op A pc pc2 R2 False) : goOn op A pc pc2 R2 True := by
  rcases h with ⟨_, h, _⟩ | h | ⟨_, _, _, _, h, _⟩ | h
  · exact h.elim
  · exact Or.inr (Or.inl h)
  · exact h.elim
  · exact Or.inr (Or.inr (Or.inr h))
theorem upd_ne (R : Nat → Int) (k j : Nat) (v : Int) (h : j ≠ k) : upd (upd (upd R 0 0) k v) 0 0 j = upd R 0 0 j := by
  simp only [upd, if_neg h]
  by_cases h0 : j = 0 <;> simp [h0]
theorem upd_at (R : Nat → Int) (k : Nat) (v : Int) (h : k ≠ 0) : upd (upd (upd R 0 0) k v) 0 0 k = v := by
  simp only [upd, if_neg h, if_pos]
theorem upd_zero (R : Nat → Int) : upd R 0 0 0 = 0 := by simp [upd]
theorem upd_same (R : Nat → Int) (k : Nat) (v : Int) (h : k = 0 ∨ v = upd R 0 0 k) : upd (upd (upd R 0 0) k v) 0 0 = upd R 0 0 := by
  funext j
  by_cases h0 : j = 0
  · simp [upd, h0]
  · by_cases hj : j = k
    · subst hj
      rcases h with h | h
      · exact absurd h h0
      · subst h; simp [upd, h0]
    · exact upd_ne R k j v hj
def ARGS (R F : Nat → Int) (pc op A B C I ld : Int) : List Value := [.agg (regs R F pc).toArray, .agg #[.int .i64 op, .int .i64 A, .int .i64 B, .int .i64 C, .int .i64 I], .int .u64 ld]
/-- nothing is changed -/
theorem one_same (n : Nat) (H : Hp) (R F : Nat → Int) (pc op A B C I ld pc2 : Int) (hA : 0 ≤ A ∧ A < 16) (hd : ∀ n H, evCall cfc (n+20) 20 [.agg (regs R F pc).toArray, .agg #[.int .i64 op, .int .i64 A, .int .i64 B, .int .i64 C, .int .i64 I], .int .u64 ld] H = some (.ret (doneT (upd R 0 0) F pc2 0 0), H)) (hg : goOn op A pc pc2 (upd R 0 0) True) : evCall cfc (n+40) 6 [.agg (regs R F pc).toArray, .agg #[.int .i64 op, .int .i64 A, .int .i64 B, .int .i64 C, .int .i64 I], .int .u64 ld] H = some (.ret (.bool true), H) :=
  one_none n H R F pc op A B C I ld pc2 (upd R 0 0) F hd (eq_self _) (eq_self _) (eq_self _) (eq_self _) (eq_self _) (eq_self _) (eq_self _) (eq_self _) (eq_self _) (eq_self _) (eq_self _) (eq_self _) (eq_self _) (eq_self _) (eq_self _) (eq_self _) (eq_self _) (eq_self _) (eq_self _) (eq_self _) (eq_self _) (eq_self _) (eq_self _) (eq_self _) (eq_true (upd_zero R)) hA hg
/-- a word register is written -/
theorem one_reg (n : Nat) (H : Hp) (R F : Nat → Int) (pc op A B C I ld v pc2 : Int) (hA : 0 ≤ A ∧ A < 16) (hd : ∀ n H, evCall cfc (n+20) 20 [.agg (regs R F pc).toArray, .agg #[.int .i64 op, .int .i64 A, .int .i64 B, .int .i64 C, .int .i64 I], .int .u64 ld] H = some (.ret (doneT (upd (upd (upd R 0 0) A.toNat v) 0 0) F pc2 0 0), H)) (hg : goOn op A pc pc2 (upd (upd (upd R 0 0) A.toNat v) 0 0) False) : evCall cfc (n+40) 6 [.agg (regs R F pc).toArray, .agg #[.int .i64 op, .int .i64 A, .int .i64 B, .int .i64 C, .int .i64 I], .int .u64 ld] H = some (.ret (.bool true), H) := by
  by_cases hz : A.toNat = 0 ∨ v = upd R 0 0 A.toNat
  · rw [upd_same R A.toNat v hz] at hd hg
    exact one_same n H R F pc op A B C I ld pc2 hA hd (goOn_mono hg)
  · have h0 : A.toNat ≠ 0 := fun h => hz (Or.inl h)
    have h1 : v ≠ upd R 0 0 A.toNat := fun h => hz (Or.inr h)
    have h2 : A = 1 ∨ A = 2 ∨ A = 3 ∨ A = 4 ∨ A = 5 ∨ A = 6 ∨ A = 7 ∨ A = 8 ∨ A = 9 ∨ A = 10 ∨ A = 11 ∨ A = 12 ∨ A = 13 ∨ A = 14 ∨ A = 15 := by omega
    rcases h2 with rfl | rfl | rfl | rfl | rfl | rfl | rfl | rfl | rfl | rfl | rfl | rfl | rfl | rfl | rfl
    · exact one_r1 n H R F pc op 1 B C I ld pc2 _ F hd (eq_true (upd_ne R _ 0 v (by decide))) (eq_false (by rw [show upd (upd (upd R 0 0) (1 : Int).toNat v) 0 0 1 = v from upd_at R 1 v (by decide)]; exact h1)) (eq_true (upd_ne R _ 2 v (by decide))) (eq_true (upd_ne R _ 3 v (by decide))) (eq_true (upd_ne R _ 4 v (by decide))) (eq_true (upd_ne R _ 5 v (by decide))) (eq_true (upd_ne R _ 6 v (by decide))) (eq_true (upd_ne R _ 7 v (by decide))) (eq_true (upd_ne R _ 8 v (by decide))) (eq_true (upd_ne R _ 9 v (by decide))) (eq_true (upd_ne R _ 10 v (by decide))) (eq_true (upd_ne R _ 11 v (by decide))) (eq_true (upd_ne R _ 12 v (by decide))) (eq_true (upd_ne R _ 13 v (by decide))) (eq_true (upd_ne R _ 14 v (by decide))) (eq_true (upd_ne R _ 15 v (by decide))) (eq_self _) (eq_self _) (eq_self _) (eq_self _) (eq_self _) (eq_self _) (eq_self _) (eq_self _) (eq_true ((upd_ne R _ 0 v (by decide)).trans (upd_zero R))) rfl hg
    · exact one_r2 n H R F pc op 2 B C I ld pc2 _ F hd (eq_true (upd_ne R _ 0 v (by decide))) (eq_true (upd_ne R _ 1 v (by decide))) (eq_false (by rw [show upd (upd (upd R 0 0) (2 : Int).toNat v) 0 0 2 = v from upd_at R 2 v (by decide)]; exact h1)) (eq_true (upd_ne R _ 3 v (by decide))) (eq_true (upd_ne R _ 4 v (by decide))) (eq_true (upd_ne R _ 5 v (by decide))) (eq_true (upd_ne R _ 6 v (by decide))) (eq_true (upd_ne R _ 7 v (by decide))) (eq_true (upd_ne R _ 8 v (by decide))) (eq_true (upd_ne R _ 9 v (by decide))) (eq_true (upd_ne R _ 10 v (by decide))) (eq_true (upd_ne R _ 11 v (by decide))) (eq_true (upd_ne R _ 12 v (by decide))) (eq_true (upd_ne R _ 13 v (by decide))) (eq_true (upd_ne R _ 14 v (by decide))) (eq_true (upd_ne R _ 15 v (by decide))) (eq_self _) (eq_self _) (eq_self _) (eq_self _) (eq_self _) (eq_self _) (eq_self _) (eq_self _) (eq_true ((upd_ne R _ 0 v (by decide)).trans (upd_zero R))) rfl hg
    · exact one_r3 n H R F pc op 3 B C I ld pc2 _ F hd (eq_true (upd_ne R _ 0 v (by decide))) (eq_true (upd_ne R _ 1 v (by decide))) (eq_true (upd_ne R _ 2 v (by decide))) (eq_false (by rw [show upd (upd (upd R 0 0) (3 : Int).toNat v) 0 0 3 = v from upd_at R 3 v (by decide)]; exact h1)) (eq_true (upd_ne R _ 4 v (by decide))) (eq_true (upd_ne R _ 5 v (by decide))) (eq_true (upd_ne R _ 6 v (by decide))) (eq_true (upd_ne R _ 7 v (by decide))) (eq_true (upd_ne R _ 8 v (by decide))) (eq_true (upd_ne R _ 9 v (by decide))) (eq_true (upd_ne R _ 10 v (by decide))) (eq_true (upd_ne R _ 11 v (by decide))) (eq_true (upd_ne R _ 12 v (by decide))) (eq_true (upd_ne R _ 13 v (by decide))) (eq_true (upd_ne R _ 14 v (by decide))) (eq_true (upd_ne R _ 15 v (by decide))) (eq_self _) (eq_self _) (eq_self _) (eq_self _) (eq_self _) (eq_self _) (eq_self _) (eq_self _) (eq_true ((upd_ne R _ 0 v (by decide)).trans (upd_zero R))) rfl hg
    · exact one_r4 n H R F pc op 4 B C I ld pc2 _ F hd (eq_true (upd_ne R _ 0 v (by decide))) (eq_true (upd_ne R _ 1 v (by decide))) (eq_true (upd_ne R _ 2 v (by decide))) (eq_true (upd_ne R _ 3 v (by decide))) (eq_false (by rw [show upd (upd (upd R 0 0) (4 : Int).toNat v) 0 0 4 = v from upd_at R 4 v (by decide)]; exact h1)) (eq_true (upd_ne R _ 5 v (by decide))) (eq_true (upd_ne R _ 6 v (by decide))) (eq_true (upd_ne R _ 7 v (by decide))) (eq_true (upd_ne R _ 8 v (by decide))) (eq_true (upd_ne R _ 9 v (by decide))) (eq_true (upd_ne R _ 10 v (by decide))) (eq_true (upd_ne R _ 11 v (by decide))) (eq_true (upd_ne R _ 12 v (by decide))) (eq_true (upd_ne R _ 13 v (by decide))) (eq_true (upd_ne R _ 14 v (by decide))) (eq_true (upd_ne R _ 15 v (by decide))) (eq_self _) (eq_self _) (eq_self _) (eq_self _) (eq_self _) (eq_self _) (eq_self _) (eq_self _) (eq_true ((upd_ne R _ 0 v (by decide)).trans (upd_zero R))) rfl hg
    · exact one_r5 n H R F pc op 5 B C I ld pc2 _ F hd (eq_true (upd_ne R _ 0 v (by decide))) (eq_true (upd_ne R _ 1 v (by decide))) (eq_true (upd_ne R _ 2 v (by decide))) (eq_true (upd_ne R _ 3 v (by decide))) (eq_true (upd_ne R _ 4 v (by decide))) (eq_false (by rw [show upd (upd (upd R 0 0) (5 : Int).toNat v) 0 0 5 = v from upd_at R 5 v (by decide)]; exact h1)) (eq_true (upd_ne R _ 6 v (by decide))) (eq_true (upd_ne R _ 7 v (by decide))) (eq_true (upd_ne R _ 8 v (by decide))) (eq_true (upd_ne R _ 9 v (by decide))) (eq_true (upd_ne R _ 10 v (by decide))) (eq_true (upd_ne R _ 11 v (by decide))) (eq_true (upd_ne R _ 12 v (by decide))) (eq_true (upd_ne R _ 13 v (by decide))) (eq_true (upd_ne R _ 14 v (by decide))) (eq_true (upd_ne R _ 15 v (by decide))) (eq_self _) (eq_self _) (eq_self _) (eq_self _) (eq_self _) (eq_self _) (eq_self _) (eq_self _) (eq_true ((upd_ne R _ 0 v (by decide)).trans (upd_zero R))) rfl hg
    · exact one_r6 n H R F pc op 6 B C I ld pc2 _ F hd (eq_true (upd_ne R _ 0 v (by decide))) (eq_true (upd_ne R _ 1 v (by decide))) (eq_true (upd_ne R _ 2 v (by decide))) (eq_true (upd_ne R _ 3 v (by decide))) (eq_true (upd_ne R _ 4 v (by decide))) (eq_true (upd_ne R _ 5 v (by decide))) (eq_false (by rw [show upd (upd (upd R 0 0) (6 : Int).toNat v) 0 0 6 = v from upd_at R 6 v (by decide)]; exact h1)) (eq_true (upd_ne R _ 7 v (by decide))) (eq_true (upd_ne R _ 8 v (by decide))) (eq_true (upd_ne R _ 9 v (by decide))) (eq_true (upd_ne R _ 10 v (by decide))) (eq_true (upd_ne R _ 11 v (by decide))) (eq_true (upd_ne R _ 12 v (by decide))) (eq_true (upd_ne R _ 13 v (by decide))) (eq_true (upd_ne R _ 14 v (by decide))) (eq_true (upd_ne R _ 15 v (by decide))) (eq_self _) (eq_self _) (eq_self _) (eq_self _) (eq_self _) (eq_self _) (eq_self _) (eq_self _) (eq_true ((upd_ne R _ 0 v (by decide)).trans (upd_zero R))) rfl hg
    · exact one_r7 n H R F pc op 7 B C I ld pc2 _ F hd (eq_true (upd_ne R _ 0 v (by decide))) (eq_true (upd_ne R _ 1 v (by decide))) (eq_true (upd_ne R _ 2 v (by decide))) (eq_true (upd_ne R _ 3 v (by decide))) (eq_true (upd_ne R _ 4 v (by decide))) (eq_true (upd_ne R _ 5 v (by decide))) (eq_true (upd_ne R _ 6 v (by decide))) (eq_false (by rw [show upd (upd (upd R 0 0) (7 : Int).toNat v) 0 0 7 = v from upd_at R 7 v (by decide)]; exact h1)) (eq_true (upd_ne R _ 8 v (by decide))) (eq_true (upd_ne R _ 9 v (by decide))) (eq_true (upd_ne R _ 10 v (by decide))) (eq_true (upd_ne R _ 11 v (by decide))) (eq_true (upd_ne R _ 12 v (by decide))) (eq_true (upd_ne R _ 13 v (by decide))) (eq_true (upd_ne R _ 14 v (by decide))) (eq_true (upd_ne R _ 15 v (by decide))) (eq_self _) (eq_self _) (eq_self _) (eq_self _) (eq_self _) (eq_self _) (eq_self _) (eq_self _) (eq_true ((upd_ne R _ 0 v (by decide)).trans (upd_zero R))) rfl hg
    · exact one_r8 n H R F pc op 8 B C I ld pc2 _ F hd (eq_true (upd_ne R _ 0 v (by decide))) (eq_true (upd_ne R _ 1 v (by decide))) (eq_true (upd_ne R _ 2 v (by decide))) (eq_true (upd_ne R _ 3 v (by decide))) (eq_true (upd_ne R _ 4 v (by decide))) (eq_true (upd_ne R _ 5 v (by decide))) (eq_true (upd_ne R _ 6 v (by decide))) (eq_true (upd_ne R _ 7 v (by decide))) (eq_false (by rw [show upd (upd (upd R 0 0) (8 : Int).toNat v) 0 0 8 = v from upd_at R 8 v (by decide)]; exact h1)) (eq_true (upd_ne R _ 9 v (by decide))) (eq_true (upd_ne R _ 10 v (by decide))) (eq_true (upd_ne R _ 11 v (by decide))) (eq_true (upd_ne R _ 12 v (by decide))) (eq_true (upd_ne R _ 13 v (by decide))) (eq_true (upd_ne R _ 14 v (by decide))) (eq_true (upd_ne R _ 15 v (by decide))) (eq_self _) (eq_self _) (eq_self _) (eq_self _) (eq_self _) (eq_self _) (eq_self _) (eq_self _) (eq_true ((upd_ne R _ 0 v (by decide)).trans (upd_zero R))) rfl hg
    · exact one_r9 n H R F pc op 9 B C I ld pc2 _ F hd (eq_true (upd_ne R _ 0 v (by decide))) (eq_true (upd_ne R _ 1 v (by decide))) (eq_true (upd_ne R _ 2 v (by decide))) (eq_true (upd_ne R _ 3 v (by decide))) (eq_true (upd_ne R _ 4 v (by decide))) (eq_true (upd_ne R _ 5 v (by decide))) (eq_true (upd_ne R _ 6 v (by decide))) (eq_true (upd_ne R _ 7 v (by decide))) (eq_true (upd_ne R _ 8 v (by decide))) (eq_false (by rw [show upd (upd (upd R 0 0) (9 : Int).toNat v) 0 0 9 = v from upd_at R 9 v (by decide)]; exact h1)) (eq_true (upd_ne R _ 10 v (by decide))) (eq_true (upd_ne R _ 11 v (by decide))) (eq_true (upd_ne R _ 12 v (by decide))) (eq_true (upd_ne R _ 13 v (by decide))) (eq_true (upd_ne R _ 14 v (by decide))) (eq_true (upd_ne R _ 15 v (by decide))) (eq_self _) (eq_self _) (eq_self _) (eq_self _) (eq_self _) (eq_self _) (eq_self _) (eq_self _) (eq_true ((upd_ne R _ 0 v (by decide)).trans (upd_zero R))) rfl hg
    · exact one_r10 n H R F pc op 10 B C I ld pc2 _ F hd (eq_true (upd_ne R _ 0 v (by decide))) (eq_true (upd_ne R _ 1 v (by decide))) (eq_true (upd_ne R _ 2 v (by decide))) (eq_true (upd_ne R _ 3 v (by decide))) (eq_true (upd_ne R _ 4 v (by decide))) (eq_true (upd_ne R _ 5 v (by decide))) (eq_true (upd_ne R _ 6 v (by decide))) (eq_true (upd_ne R _ 7 v (by decide))) (eq_true (upd_ne R _ 8 v (by decide))) (eq_true (upd_ne R _ 9 v (by decide))) (eq_false (by rw [show upd (upd (upd R 0 0) (10 : Int).toNat v) 0 0 10 = v from upd_at R 10 v (by decide)]; exact h1)) (eq_true (upd_ne R _ 11 v (by decide))) (eq_true (upd_ne R _ 12 v (by decide))) (eq_true (upd_ne R _ 13 v (by decide))) (eq_true (upd_ne R _ 14 v (by decide))) (eq_true (upd_ne R _ 15 v (by decide))) (eq_self _) (eq_self _) (eq_self _) (eq_self _) (eq_self _) (eq_self _) (eq_self _) (eq_self _) (eq_true ((upd_ne R _ 0 v (by decide)).trans (upd_zero R))) rfl hg
    · exact one_r11 n H R F pc op 11 B C I ld pc2 _ F hd (eq_true (upd_ne R _ 0 v (by decide))) (eq_true (upd_ne R _ 1 v (by decide))) (eq_true (upd_ne R _ 2 v (by decide))) (eq_true (upd_ne R _ 3 v (by decide))) (eq_true (upd_ne R _ 4 v (by decide))) (eq_true (upd_ne R _ 5 v (by decide))) (eq_true (upd_ne R _ 6 v (by decide))) (eq_true (upd_ne R _ 7 v (by decide))) (eq_true (upd_ne R _ 8 v (by decide))) (eq_true (upd_ne R _ 9 v (by decide))) (eq_true (upd_ne R _ 10 v (by decide))) (eq_false (by rw [show upd (upd (upd R 0 0) (11 : Int).toNat v) 0 0 11 = v from upd_at R 11 v (by decide)]; exact h1)) (eq_true (upd_ne R _ 12 v (by decide))) (eq_true (upd_ne R _ 13 v (by decide))) (eq_true (upd_ne R _ 14 v (by decide))) (eq_true (upd_ne R _ 15 v (by decide))) (eq_self _) (eq_self _) (eq_self _) (eq_self _) (eq_self _) (eq_self _) (eq_self _) (eq_self _) (eq_true ((upd_ne R _ 0 v (by decide)).trans (upd_zero R))) rfl hg
    · exact one_r12 n H R F pc op 12 B C I ld pc2 _ F hd (eq_true (upd_ne R _ 0 v (by decide))) (eq_true (upd_ne R _ 1 v (by decide))) (eq_true (upd_ne R _ 2 v (by decide))) (eq_true (upd_ne R _ 3 v (by decide))) (eq_true (upd_ne R _ 4 v (by decide))) (eq_true (upd_ne R _ 5 v (by decide))) (eq_true (upd_ne R _ 6 v (by decide))) (eq_true (upd_ne R _ 7 v (by decide))) (eq_true (upd_ne R _ 8 v (by decide))) (eq_true (upd_ne R _ 9 v (by decide))) (eq_true (upd_ne R _ 10 v (by decide))) (eq_true (upd_ne R _ 11 v (by decide))) (eq_false (by rw [show upd (upd (upd R 0 0) (12 : Int).toNat v) 0 0 12 = v from upd_at R 12 v (by decide)]; exact h1)) (eq_true (upd_ne R _ 13 v (by decide))) (eq_true (upd_ne R _ 14 v (by decide))) (eq_true (upd_ne R _ 15 v (by decide))) (eq_self _) (eq_self _) (eq_self _) (eq_self _) (eq_self _) (eq_self _) (eq_self _) (eq_self _) (eq_true ((upd_ne R _ 0 v (by decide)).trans (upd_zero R))) rfl hg
    · exact one_r13 n H R F pc op 13 B C I ld pc2 _ F hd (eq_true (upd_ne R _ 0 v (by decide))) (eq_true (upd_ne R _ 1 v (by decide))) (eq_true (upd_ne R _ 2 v (by decide))) (eq_true (upd_ne R _ 3 v (by decide))) (eq_true (upd_ne R _ 4 v (by decide))) (eq_true (upd_ne R _ 5 v (by decide))) (eq_true (upd_ne R _ 6 v (by decide))) (eq_true (upd_ne R _ 7 v (by decide))) (eq_true (upd_ne R _ 8 v (by decide))) (eq_true (upd_ne R _ 9 v (by decide))) (eq_true (upd_ne R _ 10 v (by decide))) (eq_true (upd_ne R _ 11 v (by decide))) (eq_true (upd_ne R _ 12 v (by decide))) (eq_false (by rw [show upd (upd (upd R 0 0) (13 : Int).toNat v) 0 0 13 = v from upd_at R 13 v (by decide)]; exact h1)) (eq_true (upd_ne R _ 14 v (by decide))) (eq_true (upd_ne R _ 15 v (by decide))) (eq_self _) (eq_self _) (eq_self _) (eq_self _) (eq_self _) (eq_self _) (eq_self _) (eq_self _) (eq_true ((upd_ne R _ 0 v (by decide)).trans (upd_zero R))) rfl hg
    · exact one_r14 n H R F pc op 14 B C I ld pc2 _ F hd (eq_true (upd_ne R _ 0 v (by decide))) (eq_true (upd_ne R _ 1 v (by decide))) (eq_true (upd_ne R _ 2 v (by decide))) (eq_true (upd_ne R _ 3 v (by decide))) (eq_true (upd_ne R _ 4 v (by decide))) (eq_true (upd_ne R _ 5 v (by decide))) (eq_true (upd_ne R _ 6 v (by decide))) (eq_true (upd_ne R _ 7 v (by decide))) (eq_true (upd_ne R _ 8 v (by decide))) (eq_true (upd_ne R _ 9 v (by decide))) (eq_true (upd_ne R _ 10 v (by decide))) (eq_true (upd_ne R _ 11 v (by decide))) (eq_true (upd_ne R _ 12 v (by decide))) (eq_true (upd_ne R _ 13 v (by decide))) (eq_false (by rw [show upd (upd (upd R 0 0) (14 : Int).toNat v) 0 0 14 = v from upd_at R 14 v (by decide)]; exact h1)) (eq_true (upd_ne R _ 15 v (by decide))) (eq_self _) (eq_self _) (eq_self _) (eq_self _) (eq_self _) (eq_self _) (eq_self _) (eq_self _) (eq_true ((upd_ne R _ 0 v (by decide)).trans (upd_zero R))) rfl hg
    · exact one_r15 n H R F pc op 15 B C I ld pc2 _ F hd (eq_true (upd_ne R _ 0 v (by decide))) (eq_true (upd_ne R _ 1 v (by decide))) (eq_true (upd_ne R _ 2 v (by decide))) (eq_true (upd_ne R _ 3 v (by decide))) (eq_true (upd_ne R _ 4 v (by decide))) (eq_true (upd_ne R _ 5 v (by decide))) (eq_true (upd_ne R _ 6 v (by decide))) (eq_true (upd_ne R _ 7 v (by decide))) (eq_true (upd_ne R _ 8 v (by decide))) (eq_true (upd_ne R _ 9 v (by decide))) (eq_true (upd_ne R _ 10 v (by decide))) (eq_true (upd_ne R _ 11 v (by decide))) (eq_true (upd_ne R _ 12 v (by decide))) (eq_true (upd_ne R _ 13 v (by decide))) (eq_true (upd_ne R _ 14 v (by decide))) (eq_false (by rw [show upd (upd (upd R 0 0) (15 : Int).toNat v) 0 0 15 = v from upd_at R 15 v (by decide)]; exact h1)) (eq_self _) (eq_self _) (eq_self _) (eq_self _) (eq_self _) (eq_self _) (eq_self _) (eq_self _) (eq_true ((upd_ne R _ 0 v (by decide)).trans (upd_zero R))) rfl hg
theorem updF_ne (F : Nat → Int) (k j : Nat) (v : Int) (h : j ≠ k) : upd F k v j = F j := by simp only [upd, if_neg h]
theorem updF_at (F : Nat → Int) (k : Nat) (v : Int) : upd F k v k = v := by simp only [upd, if_pos]
theorem updF_same (F : Nat → Int) (k : Nat) : upd F k (F k) = F := by
  funext j
  by_cases hj : j = k
  · subst hj; simp [upd]
  · simp [upd, hj]
/-- a float register is written -/
theorem one_flt (n : Nat) (H : Hp) (R F : Nat → Int) (pc op A B C I ld v : Int) (hA : 0 ≤ A ∧ A < 8) (g1 : ¬ formV op = 7) (g2 : ¬ formV op = 8) (g3 : ¬ op = 45) (g4 : ¬ 64 ≤ op) (hd : ∀ n H, evCall cfc (n+20) 20 [.agg (regs R F pc).toArray, .agg #[.int .i64 op, .int .i64 A, .int .i64 B, .int .i64 C, .int .i64 I], .int .u64 ld] H = some (.ret (doneT (upd R 0 0) (upd F A.toNat v) (IntKind.wrap .u32 (pc + 4)) 0 0), H)) : evCall cfc (n+40) 6 [.agg (regs R F pc).toArray, .agg #[.int .i64 op, .int .i64 A, .int .i64 B, .int .i64 C, .int .i64 I], .int .u64 ld] H = some (.ret (.bool true), H) := by
  by_cases hz : v = F A.toNat
  · rw [hz, updF_same] at hd
    exact one_same n H R F pc op A B C I ld _ (by omega) hd (Or.inr (Or.inr (Or.inr ⟨g1, g2, g3, g4, rfl⟩)))
  · have h2 : A = 0 ∨ A = 1 ∨ A = 2 ∨ A = 3 ∨ A = 4 ∨ A = 5 ∨ A = 6 ∨ A = 7 := by omega
    rcases h2 with rfl | rfl | rfl | rfl | rfl | rfl | rfl | rfl
    · exact one_f0 n H R F pc op 0 B C I ld (IntKind.wrap .u32 (pc + 4)) _ _ hd (eq_self _) (eq_self _) (eq_self _) (eq_self _) (eq_self _) (eq_self _) (eq_self _) (eq_self _) (eq_self _) (eq_self _) (eq_self _) (eq_self _) (eq_self _) (eq_self _) (eq_self _) (eq_self _) (eq_false (by rw [show upd F (0 : Int).toNat v 0 = v from updF_at F 0 v]; exact hz)) (eq_true (updF_ne F _ 1 v (by decide))) (eq_true (updF_ne F _ 2 v (by decide))) (eq_true (updF_ne F _ 3 v (by decide))) (eq_true (updF_ne F _ 4 v (by decide))) (eq_true (updF_ne F _ 5 v (by decide))) (eq_true (updF_ne F _ 6 v (by decide))) (eq_true (updF_ne F _ 7 v (by decide))) (eq_true (upd_zero R)) rfl g1 g2 g3 g4 rfl
    · exact one_f1 n H R F pc op 1 B C I ld (IntKind.wrap .u32 (pc + 4)) _ _ hd (eq_self _) (eq_self _) (eq_self _) (eq_self _) (eq_self _) (eq_self _) (eq_self _) (eq_self _) (eq_self _) (eq_self _) (eq_self _) (eq_self _) (eq_self _) (eq_self _) (eq_self _) (eq_self _) (eq_true (updF_ne F _ 0 v (by decide))) (eq_false (by rw [show upd F (1 : Int).toNat v 1 = v from updF_at F 1 v]; exact hz)) (eq_true (updF_ne F _ 2 v (by decide))) (eq_true (updF_ne F _ 3 v (by decide))) (eq_true (updF_ne F _ 4 v (by decide))) (eq_true (updF_ne F _ 5 v (by decide))) (eq_true (updF_ne F _ 6 v (by decide))) (eq_true (updF_ne F _ 7 v (by decide))) (eq_true (upd_zero R)) rfl g1 g2 g3 g4 rfl
    · exact one_f2 n H R F pc op 2 B C I ld (IntKind.wrap .u32 (pc + 4)) _ _ hd (eq_self _) (eq_self _) (eq_self _) (eq_self _) (eq_self _) (eq_self _) (eq_self _) (eq_self _) (eq_self _) (eq_self _) (eq_self _) (eq_self _) (eq_self _) (eq_self _) (eq_self _) (eq_self _) (eq_true (updF_ne F _ 0 v (by decide))) (eq_true (updF_ne F _ 1 v (by decide))) (eq_false (by rw [show upd F (2 : Int).toNat v 2 = v from updF_at F 2 v]; exact hz)) (eq_true (updF_ne F _ 3 v (by decide))) (eq_true (updF_ne F _ 4 v (by decide))) (eq_true (updF_ne F _ 5 v (by decide))) (eq_true (updF_ne F _ 6 v (by decide))) (eq_true (updF_ne F _ 7 v (by decide))) (eq_true (upd_zero R)) rfl g1 g2 g3 g4 rfl
    · exact one_f3 n H R F pc op 3 B C I ld (IntKind.wrap .u32 (pc + 4)) _ _ hd (eq_self _) (eq_self _) (eq_self _) (eq_self _) (eq_self _) (eq_self _) (eq_self _) (eq_self _) (eq_self _) (eq_self _) (eq_self _) (eq_self _) (eq_self _) (eq_self _) (eq_self _) (eq_self _) (eq_true (updF_ne F _ 0 v (by decide))) (eq_true (updF_ne F _ 1 v (by decide))) (eq_true (updF_ne F _ 2 v (by decide))) (eq_false (by rw [show upd F (3 : Int).toNat v 3 = v from updF_at F 3 v]; exact hz)) (eq_true (updF_ne F _ 4 v (by decide))) (eq_true (updF_ne F _ 5 v (by decide))) (eq_true (updF_ne F _ 6 v (by decide))) (eq_true (updF_ne F _ 7 v (by decide))) (eq_true (upd_zero R)) rfl g1 g2 g3 g4 rfl
    · exact one_f4 n H R F pc op 4 B C I ld (IntKind.wrap .u32 (pc + 4)) _ _ hd (eq_self _) (eq_self _) (eq_self _) (eq_self _) (eq_self _) (eq_self _) (eq_self _) (eq_self _) (eq_self _) (eq_self _) (eq_self _) (eq_self _) (eq_self _) (eq_self _) (eq_self _) (eq_self _) (eq_true (updF_ne F _ 0 v (by decide))) (eq_true (updF_ne F _ 1 v (by decide))) (eq_true (updF_ne F _ 2 v (by decide))) (eq_true (updF_ne F _ 3 v (by decide))) (eq_false (by rw [show upd F (4 : Int).toNat v 4 = v from updF_at F 4 v]; exact hz)) (eq_true (updF_ne F _ 5 v (by decide))) (eq_true (updF_ne F _ 6 v (by decide))) (eq_true (updF_ne F _ 7 v (by decide))) (eq_true (upd_zero R)) rfl g1 g2 g3 g4 rfl
    · exact one_f5 n H R F pc op 5 B C I ld (IntKind.wrap .u32 (pc + 4)) _ _ hd (eq_self _) (eq_self _) (eq_self _) (eq_self _) (eq_self _) (eq_self _) (eq_self _) (eq_self _) (eq_self _) (eq_self _) (eq_self _) (eq_self _) (eq_self _) (eq_self _) (eq_self _) (eq_self _) (eq_true (updF_ne F _ 0 v (by decide))) (eq_true (updF_ne F _ 1 v (by decide))) (eq_true (updF_ne F _ 2 v (by decide))) (eq_true (updF_ne F _ 3 v (by decide))) (eq_true (updF_ne F _ 4 v (by decide))) (eq_false (by rw [show upd F (5 : Int).toNat v 5 = v from updF_at F 5 v]; exact hz)) (eq_true (updF_ne F _ 6 v (by decide))) (eq_true (updF_ne F _ 7 v (by decide))) (eq_true (upd_zero R)) rfl g1 g2 g3 g4 rfl
    · exact one_f6 n H R F pc op 6 B C I ld (IntKind.wrap .u32 (pc + 4)) _ _ hd (eq_self _) (eq_self _) (eq_self _) (eq_self _) (eq_self _) (eq_self _) (eq_self _) (eq_self _) (eq_self _) (eq_self _) (eq_self _) (eq_self _) (eq_self _) (eq_self _) (eq_self _) (eq_self _) (eq_true (updF_ne F _ 0 v (by decide))) (eq_true (updF_ne F _ 1 v (by decide))) (eq_true (updF_ne F _ 2 v (by decide))) (eq_true (updF_ne F _ 3 v (by decide))) (eq_true (updF_ne F _ 4 v (by decide))) (eq_true (updF_ne F _ 5 v (by decide))) (eq_false (by rw [show upd F (6 : Int).toNat v 6 = v from updF_at F 6 v]; exact hz)) (eq_true (updF_ne F _ 7 v (by decide))) (eq_true (upd_zero R)) rfl g1 g2 g3 g4 rfl
    · exact one_f7 n H R F pc op 7 B C I ld (IntKind.wrap .u32 (pc + 4)) _ _ hd (eq_self _) (eq_self _) (eq_self _) (eq_self _) (eq_self _) (eq_self _) (eq_self _) (eq_self _) (eq_self _) (eq_self _) (eq_self _) (eq_self _) (eq_self _) (eq_self _) (eq_self _) (eq_self _) (eq_true (updF_ne F _ 0 v (by decide))) (eq_true (updF_ne F _ 1 v (by decide))) (eq_true (updF_ne F _ 2 v (by decide))) (eq_true (updF_ne F _ 3 v (by decide))) (eq_true (updF_ne F _ 4 v (by decide))) (eq_true (updF_ne F _ 5 v (by decide))) (eq_true (updF_ne F _ 6 v (by decide))) (eq_false (by rw [show upd F (7 : Int).toNat v 7 = v from updF_at F 7 v]; exact hz)) (eq_true (upd_zero R)) rfl g1 g2 g3 g4 rfl
theorem chk_rng {op A B C I : Int} {f a b c : Int} (hf : formV op = f) (ha : mxA f = a) (hb : mxB f = b) (hc : mxC f = c) (h : chkV op A B C I = 0) : (0 ≤ A ∧ A ≤ a) ∧ (0 ≤ B ∧ B ≤ b) ∧ (0 ≤ C ∧ C ≤ c) ∧ (hasF f = false → I = 0) := by
  obtain ⟨h1, h2, h3, h4⟩ := chk_okF h
  rw [hf] at h1 h2 h3 h4
  rw [ha] at h1
  rw [hb] at h2
  rw [hc] at h3
  refine ⟨h1, h2, h3, fun hh => ?_⟩
  rw [hh] at h4
  simp only [cond_false] at h4
  omega
theorem ex_1 (n : Nat) (H : Hp) (R F : Nat → Int) (pc A B C I ld : Int) (hR : ∀ i, i < 16 → inK .u32 (R i)) (hk : chkV 1 A B C I = 0) : evCall cfc (n+40) 6 [.agg (regs R F pc).toArray, .agg #[.int .i64 1, .int .i64 A, .int .i64 B, .int .i64 C, .int .i64 I], .int .u64 ld] H = some (.ret (.bool true), H) := by
  obtain ⟨hA, hB, hC, hI⟩ := chk_rng (f := 1) (a := 0) (b := 0) (c := 0) rfl rfl rfl rfl hk
  obtain rfl : A = 0 := by omega
  obtain rfl : B = 0 := by omega
  obtain rfl : C = 0 := by omega
  obtain rfl := hI rfl
  exact one_same n H R F pc 1 0 0 0 0 ld _ (by omega) (fun n H => done_1 (n+6) H R F pc ld) (Or.inr (Or.inr (Or.inr ⟨by decide, by decide, by decide, by decide, rfl⟩)))
theorem ex_2 (n : Nat) (H : Hp) (R F : Nat → Int) (pc A B C I ld : Int) (hR : ∀ i, i < 16 → inK .u32 (R i)) (hk : chkV 2 A B C I = 0) : evCall cfc (n+40) 6 [.agg (regs R F pc).toArray, .agg #[.int .i64 2, .int .i64 A, .int .i64 B, .int .i64 C, .int .i64 I], .int .u64 ld] H = some (.ret (.bool true), H) := by
  obtain ⟨hA, hB, hC, hI⟩ := chk_rng (f := 2) (a := 15) (b := 15) (c := 15) rfl rfl rfl rfl hk
  have hA2 : 0 ≤ A ∧ A < 16 := by omega
  have hB2 : 0 ≤ B ∧ B < 16 := by omega
  have hC2 : 0 ≤ C ∧ C < 16 := by omega
  obtain rfl := hI rfl
  exact one_reg n H R F pc 2 A B C 0 ld _ _ hA2 (fun n H => done_2 (n+4) H R F pc ld A B C hR hA2 hB2 hC2 hk) (Or.inr (Or.inr (Or.inr ⟨by decide, by decide, by decide, by decide, rfl⟩)))
theorem ex_3 (n : Nat) (H : Hp) (R F : Nat → Int) (pc A B C I ld : Int) (hR : ∀ i, i < 16 → inK .u32 (R i)) (hk : chkV 3 A B C I = 0) : evCall cfc (n+40) 6 [.agg (regs R F pc).toArray, .agg #[.int .i64 3, .int .i64 A, .int .i64 B, .int .i64 C, .int .i64 I], .int .u64 ld] H = some (.ret (.bool true), H) := by
  obtain ⟨hA, hB, hC, hI⟩ := chk_rng (f := 2) (a := 15) (b := 15) (c := 15) rfl rfl rfl rfl hk
  have hA2 : 0 ≤ A ∧ A < 16 := by omega
  have hB2 : 0 ≤ B ∧ B < 16 := by omega
  have hC2 : 0 ≤ C ∧ C < 16 := by omega
  obtain rfl := hI rfl
  exact one_reg n H R F pc 3 A B C 0 ld _ _ hA2 (fun n H => done_3 (n+4) H R F pc ld A B C hR hA2 hB2 hC2 hk) (Or.inr (Or.inr (Or.inr ⟨by decide, by decide, by decide, by decide, rfl⟩)))
theorem ex_4 (n : Nat) (H : Hp) (R F : Nat → Int) (pc A B C I ld : Int) (hR : ∀ i, i < 16 → inK .u32 (R i)) (hk : chkV 4 A B C I = 0) : evCall cfc (n+40) 6 [.agg (regs R F pc).toArray, .agg #[.int .i64 4, .int .i64 A, .int .i64 B, .int .i64 C, .int .i64 I], .int .u64 ld] H = some (.ret (.bool true), H) := by
  obtain ⟨hA, hB, hC, hI⟩ := chk_rng (f := 2) (a := 15) (b := 15) (c := 15) rfl rfl rfl rfl hk
  have hA2 : 0 ≤ A ∧ A < 16 := by omega
  have hB2 : 0 ≤ B ∧ B < 16 := by omega
  have hC2 : 0 ≤ C ∧ C < 16 := by omega
  obtain rfl := hI rfl
  exact one_reg n H R F pc 4 A B C 0 ld _ _ hA2 (fun n H => done_4 (n+4) H R F pc ld A B C hR hA2 hB2 hC2 hk) (Or.inr (Or.inr (Or.inr ⟨by decide, by decide, by decide, by decide, rfl⟩)))
theorem ex_5 (n : Nat) (H : Hp) (R F : Nat → Int) (pc A B C I ld : Int) (hR : ∀ i, i < 16 → inK .u32 (R i)) (hk : chkV 5 A B C I = 0) : evCall cfc (n+40) 6 [.agg (regs R F pc).toArray, .agg #[.int .i64 5, .int .i64 A, .int .i64 B, .int .i64 C, .int .i64 I], .int .u64 ld] H = some (.ret (.bool true), H) := by
  obtain ⟨hA, hB, hC, hI⟩ := chk_rng (f := 2) (a := 15) (b := 15) (c := 15) rfl rfl rfl rfl hk
  have hA2 : 0 ≤ A ∧ A < 16 := by omega
  have hB2 : 0 ≤ B ∧ B < 16 := by omega
  have hC2 : 0 ≤ C ∧ C < 16 := by omega
  obtain rfl := hI rfl
  exact one_reg n H R F pc 5 A B C 0 ld _ _ hA2 (fun n H => done_5 (n+4) H R F pc ld A B C hR hA2 hB2 hC2 hk) (Or.inr (Or.inr (Or.inr ⟨by decide, by decide, by decide, by decide, rfl⟩)))
theorem ex_6 (n : Nat) (H : Hp) (R F : Nat → Int) (pc A B C I ld : Int) (hR : ∀ i, i < 16 → inK .u32 (R i)) (hk : chkV 6 A B C I = 0) : evCall cfc (n+40) 6 [.agg (regs R F pc).toArray, .agg #[.int .i64 6, .int .i64 A, .int .i64 B, .int .i64 C, .int .i64 I], .int .u64 ld] H = some (.ret (.bool true), H) := by
  obtain ⟨hA, hB, hC, hI⟩ := chk_rng (f := 2) (a := 15) (b := 15) (c := 15) rfl rfl rfl rfl hk
  have hA2 : 0 ≤ A ∧ A < 16 := by omega
  have hB2 : 0 ≤ B ∧ B < 16 := by omega
  have hC2 : 0 ≤ C ∧ C < 16 := by omega
  obtain rfl := hI rfl
  by_cases hz : upd R 0 0 C.toNat = 0
  · exact one_trap n H R F pc 6 A B C 0 ld 6 (0) (fun n H => (done_6 (n+4) H R F pc ld A B C hR hA2 hB2 hC2 hk).trans (by rw [if_pos hz]; rfl)) (Or.inr (Or.inl ⟨rfl, rfl⟩))
  · exact one_reg n H R F pc 6 A B C 0 ld _ _ hA2 (fun n H => (done_6 (n+4) H R F pc ld A B C hR hA2 hB2 hC2 hk).trans (by rw [if_neg hz])) (Or.inr (Or.inr (Or.inr ⟨by decide, by decide, by decide, by decide, rfl⟩)))
theorem ex_7 (n : Nat) (H : Hp) (R F : Nat → Int) (pc A B C I ld : Int) (hR : ∀ i, i < 16 → inK .u32 (R i)) (hk : chkV 7 A B C I = 0) : evCall cfc (n+40) 6 [.agg (regs R F pc).toArray, .agg #[.int .i64 7, .int .i64 A, .int .i64 B, .int .i64 C, .int .i64 I], .int .u64 ld] H = some (.ret (.bool true), H) := by
  obtain ⟨hA, hB, hC, hI⟩ := chk_rng (f := 2) (a := 15) (b := 15) (c := 15) rfl rfl rfl rfl hk
  have hA2 : 0 ≤ A ∧ A < 16 := by omega
  have hB2 : 0 ≤ B ∧ B < 16 := by omega
  have hC2 : 0 ≤ C ∧ C < 16 := by omega
  obtain rfl := hI rfl
  by_cases hz : upd R 0 0 C.toNat = 0
  · exact one_trap n H R F pc 7 A B C 0 ld 6 (0) (fun n H => (done_7 (n+4) H R F pc ld A B C hR hA2 hB2 hC2 hk).trans (by rw [if_pos hz]; rfl)) (Or.inr (Or.inl ⟨rfl, rfl⟩))
  · exact one_reg n H R F pc 7 A B C 0 ld _ _ hA2 (fun n H => (done_7 (n+4) H R F pc ld A B C hR hA2 hB2 hC2 hk).trans (by rw [if_neg hz])) (Or.inr (Or.inr (Or.inr ⟨by decide, by decide, by decide, by decide, rfl⟩)))
theorem ex_8 (n : Nat) (H : Hp) (R F : Nat → Int) (pc A B C I ld : Int) (hR : ∀ i, i < 16 → inK .u32 (R i)) (hk : chkV 8 A B C I = 0) : evCall cfc (n+40) 6 [.agg (regs R F pc).toArray, .agg #[.int .i64 8, .int .i64 A, .int .i64 B, .int .i64 C, .int .i64 I], .int .u64 ld] H = some (.ret (.bool true), H) := by
  obtain ⟨hA, hB, hC, hI⟩ := chk_rng (f := 2) (a := 15) (b := 15) (c := 15) rfl rfl rfl rfl hk
  have hA2 : 0 ≤ A ∧ A < 16 := by omega
  have hB2 : 0 ≤ B ∧ B < 16 := by omega
  have hC2 : 0 ≤ C ∧ C < 16 := by omega
  obtain rfl := hI rfl
  by_cases hz : upd R 0 0 C.toNat = 0
  · exact one_trap n H R F pc 8 A B C 0 ld 6 (0) (fun n H => (done_8 (n+4) H R F pc ld A B C hR hA2 hB2 hC2 hk).trans (by rw [if_pos hz]; rfl)) (Or.inr (Or.inl ⟨rfl, rfl⟩))
  · exact one_reg n H R F pc 8 A B C 0 ld _ _ hA2 (fun n H => (done_8 (n+4) H R F pc ld A B C hR hA2 hB2 hC2 hk).trans (by rw [if_neg hz])) (Or.inr (Or.inr (Or.inr ⟨by decide, by decide, by decide, by decide, rfl⟩)))
theorem ex_9 (n : Nat) (H : Hp) (R F : Nat → Int) (pc A B C I ld : Int) (hR : ∀ i, i < 16 → inK .u32 (R i)) (hk : chkV 9 A B C I = 0) : evCall cfc (n+40) 6 [.agg (regs R F pc).toArray, .agg #[.int .i64 9, .int .i64 A, .int .i64 B, .int .i64 C, .int .i64 I], .int .u64 ld] H = some (.ret (.bool true), H) := by
  obtain ⟨hA, hB, hC, hI⟩ := chk_rng (f := 2) (a := 15) (b := 15) (c := 15) rfl rfl rfl rfl hk
  have hA2 : 0 ≤ A ∧ A < 16 := by omega
  have hB2 : 0 ≤ B ∧ B < 16 := by omega
  have hC2 : 0 ≤ C ∧ C < 16 := by omega
  obtain rfl := hI rfl
  by_cases hz : upd R 0 0 C.toNat = 0
  · exact one_trap n H R F pc 9 A B C 0 ld 6 (0) (fun n H => (done_9 (n+4) H R F pc ld A B C hR hA2 hB2 hC2 hk).trans (by rw [if_pos hz]; rfl)) (Or.inr (Or.inl ⟨rfl, rfl⟩))
  · exact one_reg n H R F pc 9 A B C 0 ld _ _ hA2 (fun n H => (done_9 (n+4) H R F pc ld A B C hR hA2 hB2 hC2 hk).trans (by rw [if_neg hz])) (Or.inr (Or.inr (Or.inr ⟨by decide, by decide, by decide, by decide, rfl⟩)))
theorem ex_10 (n : Nat) (H : Hp) (R F : Nat → Int) (pc A B C I ld : Int) (hR : ∀ i, i < 16 → inK .u32 (R i)) (hk : chkV 10 A B C I = 0) : evCall cfc (n+40) 6 [.agg (regs R F pc).toArray, .agg #[.int .i64 10, .int .i64 A, .int .i64 B, .int .i64 C, .int .i64 I], .int .u64 ld] H = some (.ret (.bool true), H) := by
  obtain ⟨hA, hB, hC, hI⟩ := chk_rng (f := 2) (a := 15) (b := 15) (c := 15) rfl rfl rfl rfl hk
  have hA2 : 0 ≤ A ∧ A < 16 := by omega
  have hB2 : 0 ≤ B ∧ B < 16 := by omega
  have hC2 : 0 ≤ C ∧ C < 16 := by omega
  obtain rfl := hI rfl
  exact one_reg n H R F pc 10 A B C 0 ld _ _ hA2 (fun n H => done_10 (n+4) H R F pc ld A B C hR hA2 hB2 hC2 hk) (Or.inr (Or.inr (Or.inr ⟨by decide, by decide, by decide, by decide, rfl⟩)))
theorem ex_11 (n : Nat) (H : Hp) (R F : Nat → Int) (pc A B C I ld : Int) (hR : ∀ i, i < 16 → inK .u32 (R i)) (hk : chkV 11 A B C I = 0) : evCall cfc (n+40) 6 [.agg (regs R F pc).toArray, .agg #[.int .i64 11, .int .i64 A, .int .i64 B, .int .i64 C, .int .i64 I], .int .u64 ld] H = some (.ret (.bool true), H) := by
  obtain ⟨hA, hB, hC, hI⟩ := chk_rng (f := 2) (a := 15) (b := 15) (c := 15) rfl rfl rfl rfl hk
  have hA2 : 0 ≤ A ∧ A < 16 := by omega
  have hB2 : 0 ≤ B ∧ B < 16 := by omega
  have hC2 : 0 ≤ C ∧ C < 16 := by omega
  obtain rfl := hI rfl
  exact one_reg n H R F pc 11 A B C 0 ld _ _ hA2 (fun n H => done_11 (n+4) H R F pc ld A B C hR hA2 hB2 hC2 hk) (Or.inr (Or.inr (Or.inr ⟨by decide, by decide, by decide, by decide, rfl⟩)))
theorem ex_12 (n : Nat) (H : Hp) (R F : Nat → Int) (pc A B C I ld : Int) (hR : ∀ i, i < 16 → inK .u32 (R i)) (hk : chkV 12 A B C I = 0) : evCall cfc (n+40) 6 [.agg (regs R F pc).toArray, .agg #[.int .i64 12, .int .i64 A, .int .i64 B, .int .i64 C, .int .i64 I], .int .u64 ld] H = some (.ret (.bool true), H) := by
  obtain ⟨hA, hB, hC, hI⟩ := chk_rng (f := 2) (a := 15) (b := 15) (c := 15) rfl rfl rfl rfl hk
  have hA2 : 0 ≤ A ∧ A < 16 := by omega
  have hB2 : 0 ≤ B ∧ B < 16 := by omega
  have hC2 : 0 ≤ C ∧ C < 16 := by omega
  obtain rfl := hI rfl
  exact one_reg n H R F pc 12 A B C 0 ld _ _ hA2 (fun n H => done_12 (n+4) H R F pc ld A B C hR hA2 hB2 hC2 hk) (Or.inr (Or.inr (Or.inr ⟨by decide, by decide, by decide, by decide, rfl⟩)))
theorem ex_13 (n : Nat) (H : Hp) (R F : Nat → Int) (pc A B C I ld : Int) (hR : ∀ i, i < 16 → inK .u32 (R i)) (hk : chkV 13 A B C I = 0) : evCall cfc (n+40) 6 [.agg (regs R F pc).toArray, .agg #[.int .i64 13, .int .i64 A, .int .i64 B, .int .i64 C, .int .i64 I], .int .u64 ld] H = some (.ret (.bool true), H) := by
  obtain ⟨hA, hB, hC, hI⟩ := chk_rng (f := 2) (a := 15) (b := 15) (c := 15) rfl rfl rfl rfl hk
  have hA2 : 0 ≤ A ∧ A < 16 := by omega
  have hB2 : 0 ≤ B ∧ B < 16 := by omega
  have hC2 : 0 ≤ C ∧ C < 16 := by omega
  obtain rfl := hI rfl
  exact one_reg n H R F pc 13 A B C 0 ld _ _ hA2 (fun n H => done_13 (n+4) H R F pc ld A B C hR hA2 hB2 hC2 hk) (Or.inr (Or.inr (Or.inr ⟨by decide, by decide, by decide, by decide, rfl⟩)))
theorem ex_14 (n : Nat) (H : Hp) (R F : Nat → Int) (pc A B C I ld : Int) (hR : ∀ i, i < 16 → inK .u32 (R i)) (hk : chkV 14 A B C I = 0) : evCall cfc (n+40) 6 [.agg (regs R F pc).toArray, .agg #[.int .i64 14, .int .i64 A, .int .i64 B, .int .i64 C, .int .i64 I], .int .u64 ld] H = some (.ret (.bool true), H) := by
  obtain ⟨hA, hB, hC, hI⟩ := chk_rng (f := 2) (a := 15) (b := 15) (c := 15) rfl rfl rfl rfl hk
  have hA2 : 0 ≤ A ∧ A < 16 := by omega
  have hB2 : 0 ≤ B ∧ B < 16 := by omega
  have hC2 : 0 ≤ C ∧ C < 16 := by omega
  obtain rfl := hI rfl
  exact one_reg n H R F pc 14 A B C 0 ld _ _ hA2 (fun n H => done_14 (n+4) H R F pc ld A B C hR hA2 hB2 hC2 hk) (Or.inr (Or.inr (Or.inr ⟨by decide, by decide, by decide, by decide, rfl⟩)))
theorem ex_15 (n : Nat) (H : Hp) (R F : Nat → Int) (pc A B C I ld : Int) (hR : ∀ i, i < 16 → inK .u32 (R i)) (hk : chkV 15 A B C I = 0) : evCall cfc (n+40) 6 [.agg (regs R F pc).toArray, .agg #[.int .i64 15, .int .i64 A, .int .i64 B, .int .i64 C, .int .i64 I], .int .u64 ld] H = some (.ret (.bool true), H) := by
  obtain ⟨hA, hB, hC, hI⟩ := chk_rng (f := 2) (a := 15) (b := 15) (c := 15) rfl rfl rfl rfl hk
  have hA2 : 0 ≤ A ∧ A < 16 := by omega
  have hB2 : 0 ≤ B ∧ B < 16 := by omega
  have hC2 : 0 ≤ C ∧ C < 16 := by omega
  obtain rfl := hI rfl
  exact one_reg n H R F pc 15 A B C 0 ld _ _ hA2 (fun n H => done_15 (n+4) H R F pc ld A B C hR hA2 hB2 hC2 hk) (Or.inr (Or.inr (Or.inr ⟨by decide, by decide, by decide, by decide, rfl⟩)))
theorem ex_16 (n : Nat) (H : Hp) (R F : Nat → Int) (pc A B C I ld : Int) (hR : ∀ i, i < 16 → inK .u32 (R i)) (hk : chkV 16 A B C I = 0) : evCall cfc (n+40) 6 [.agg (regs R F pc).toArray, .agg #[.int .i64 16, .int .i64 A, .int .i64 B, .int .i64 C, .int .i64 I], .int .u64 ld] H = some (.ret (.bool true), H) := by
  obtain ⟨hA, hB, hC, hI⟩ := chk_rng (f := 2) (a := 15) (b := 15) (c := 15) rfl rfl rfl rfl hk
  have hA2 : 0 ≤ A ∧ A < 16 := by omega
  have hB2 : 0 ≤ B ∧ B < 16 := by omega
  have hC2 : 0 ≤ C ∧ C < 16 := by omega
  obtain rfl := hI rfl
  exact one_reg n H R F pc 16 A B C 0 ld _ _ hA2 (fun n H => done_16 (n+4) H R F pc ld A B C hR hA2 hB2 hC2 hk) (Or.inr (Or.inr (Or.inr ⟨by decide, by decide, by decide, by decide, rfl⟩)))
theorem ex_17 (n : Nat) (H : Hp) (R F : Nat → Int) (pc A B C I ld : Int) (hR : ∀ i, i < 16 → inK .u32 (R i)) (hk : chkV 17 A B C I = 0) : evCall cfc (n+40) 6 [.agg (regs R F pc).toArray, .agg #[.int .i64 17, .int .i64 A, .int .i64 B, .int .i64 C, .int .i64 I], .int .u64 ld] H = some (.ret (.bool true), H) := by
  obtain ⟨hA, hB, hC, hI⟩ := chk_rng (f := 2) (a := 15) (b := 15) (c := 15) rfl rfl rfl rfl hk
  have hA2 : 0 ≤ A ∧ A < 16 := by omega
  have hB2 : 0 ≤ B ∧ B < 16 := by omega
  have hC2 : 0 ≤ C ∧ C < 16 := by omega
  obtain rfl := hI rfl
  exact one_reg n H R F pc 17 A B C 0 ld _ _ hA2 (fun n H => done_17 (n+4) H R F pc ld A B C hR hA2 hB2 hC2 hk) (Or.inr (Or.inr (Or.inr ⟨by decide, by decide, by decide, by decide, rfl⟩)))
theorem ex_18 (n : Nat) (H : Hp) (R F : Nat → Int) (pc A B C I ld : Int) (hR : ∀ i, i < 16 → inK .u32 (R i)) (hk : chkV 18 A B C I = 0) : evCall cfc (n+40) 6 [.agg (regs R F pc).toArray, .agg #[.int .i64 18, .int .i64 A, .int .i64 B, .int .i64 C, .int .i64 I], .int .u64 ld] H = some (.ret (.bool true), H) := by
  obtain ⟨hA, hB, hC, hI⟩ := chk_rng (f := 3) (a := 15) (b := 15) (c := 0) rfl rfl rfl rfl hk
  have hA2 : 0 ≤ A ∧ A < 16 := by omega
  have hB2 : 0 ≤ B ∧ B < 16 := by omega
  obtain rfl : C = 0 := by omega
  exact one_reg n H R F pc 18 A B 0 I ld _ _ hA2 (fun n H => done_18 (n+4) H R F pc ld A B I hR hA2 hB2 hk) (Or.inr (Or.inr (Or.inr ⟨by decide, by decide, by decide, by decide, rfl⟩)))
theorem ex_19 (n : Nat) (H : Hp) (R F : Nat → Int) (pc A B C I ld : Int) (hR : ∀ i, i < 16 → inK .u32 (R i)) (hk : chkV 19 A B C I = 0) : evCall cfc (n+40) 6 [.agg (regs R F pc).toArray, .agg #[.int .i64 19, .int .i64 A, .int .i64 B, .int .i64 C, .int .i64 I], .int .u64 ld] H = some (.ret (.bool true), H) := by
  obtain ⟨hA, hB, hC, hI⟩ := chk_rng (f := 3) (a := 15) (b := 15) (c := 0) rfl rfl rfl rfl hk
  have hA2 : 0 ≤ A ∧ A < 16 := by omega
  have hB2 : 0 ≤ B ∧ B < 16 := by omega
  obtain rfl : C = 0 := by omega
  exact one_reg n H R F pc 19 A B 0 I ld _ _ hA2 (fun n H => done_19 (n+4) H R F pc ld A B I hR hA2 hB2 hk) (Or.inr (Or.inr (Or.inr ⟨by decide, by decide, by decide, by decide, rfl⟩)))
theorem ex_20 (n : Nat) (H : Hp) (R F : Nat → Int) (pc A B C I ld : Int) (hR : ∀ i, i < 16 → inK .u32 (R i)) (hk : chkV 20 A B C I = 0) : evCall cfc (n+40) 6 [.agg (regs R F pc).toArray, .agg #[.int .i64 20, .int .i64 A, .int .i64 B, .int .i64 C, .int .i64 I], .int .u64 ld] H = some (.ret (.bool true), H) := by
  obtain ⟨hA, hB, hC, hI⟩ := chk_rng (f := 3) (a := 15) (b := 15) (c := 0) rfl rfl rfl rfl hk
  have hA2 : 0 ≤ A ∧ A < 16 := by omega
  have hB2 : 0 ≤ B ∧ B < 16 := by omega
  obtain rfl : C = 0 := by omega
  exact one_reg n H R F pc 20 A B 0 I ld _ _ hA2 (fun n H => done_20 (n+4) H R F pc ld A B I hR hA2 hB2 hk) (Or.inr (Or.inr (Or.inr ⟨by decide, by decide, by decide, by decide, rfl⟩)))
theorem ex_21 (n : Nat) (H : Hp) (R F : Nat → Int) (pc A B C I ld : Int) (hR : ∀ i, i < 16 → inK .u32 (R i)) (hk : chkV 21 A B C I = 0) : evCall cfc (n+40) 6 [.agg (regs R F pc).toArray, .agg #[.int .i64 21, .int .i64 A, .int .i64 B, .int .i64 C, .int .i64 I], .int .u64 ld] H = some (.ret (.bool true), H) := by
  obtain ⟨hA, hB, hC, hI⟩ := chk_rng (f := 3) (a := 15) (b := 15) (c := 0) rfl rfl rfl rfl hk
  have hA2 : 0 ≤ A ∧ A < 16 := by omega
  have hB2 : 0 ≤ B ∧ B < 16 := by omega
  obtain rfl : C = 0 := by omega
  exact one_reg n H R F pc 21 A B 0 I ld _ _ hA2 (fun n H => done_21 (n+4) H R F pc ld A B I hR hA2 hB2 hk) (Or.inr (Or.inr (Or.inr ⟨by decide, by decide, by decide, by decide, rfl⟩)))
theorem ex_22 (n : Nat) (H : Hp) (R F : Nat → Int) (pc A B C I ld : Int) (hR : ∀ i, i < 16 → inK .u32 (R i)) (hk : chkV 22 A B C I = 0) : evCall cfc (n+40) 6 [.agg (regs R F pc).toArray, .agg #[.int .i64 22, .int .i64 A, .int .i64 B, .int .i64 C, .int .i64 I], .int .u64 ld] H = some (.ret (.bool true), H) := by
  obtain ⟨hA, hB, hC, hI⟩ := chk_rng (f := 3) (a := 15) (b := 15) (c := 0) rfl rfl rfl rfl hk
  have hA2 : 0 ≤ A ∧ A < 16 := by omega
  have hB2 : 0 ≤ B ∧ B < 16 := by omega
  obtain rfl : C = 0 := by omega
  exact one_reg n H R F pc 22 A B 0 I ld _ _ hA2 (fun n H => done_22 (n+4) H R F pc ld A B I hR hA2 hB2 hk) (Or.inr (Or.inr (Or.inr ⟨by decide, by decide, by decide, by decide, rfl⟩)))
theorem ex_23 (n : Nat) (H : Hp) (R F : Nat → Int) (pc A B C I ld : Int) (hR : ∀ i, i < 16 → inK .u32 (R i)) (hk : chkV 23 A B C I = 0) : evCall cfc (n+40) 6 [.agg (regs R F pc).toArray, .agg #[.int .i64 23, .int .i64 A, .int .i64 B, .int .i64 C, .int .i64 I], .int .u64 ld] H = some (.ret (.bool true), H) := by
  obtain ⟨hA, hB, hC, hI⟩ := chk_rng (f := 3) (a := 15) (b := 15) (c := 0) rfl rfl rfl rfl hk
  have hA2 : 0 ≤ A ∧ A < 16 := by omega
  have hB2 : 0 ≤ B ∧ B < 16 := by omega
  obtain rfl : C = 0 := by omega
  exact one_reg n H R F pc 23 A B 0 I ld _ _ hA2 (fun n H => done_23 (n+4) H R F pc ld A B I hR hA2 hB2 hk) (Or.inr (Or.inr (Or.inr ⟨by decide, by decide, by decide, by decide, rfl⟩)))
theorem ex_24 (n : Nat) (H : Hp) (R F : Nat → Int) (pc A B C I ld : Int) (hR : ∀ i, i < 16 → inK .u32 (R i)) (hk : chkV 24 A B C I = 0) : evCall cfc (n+40) 6 [.agg (regs R F pc).toArray, .agg #[.int .i64 24, .int .i64 A, .int .i64 B, .int .i64 C, .int .i64 I], .int .u64 ld] H = some (.ret (.bool true), H) := by
  obtain ⟨hA, hB, hC, hI⟩ := chk_rng (f := 3) (a := 15) (b := 15) (c := 0) rfl rfl rfl rfl hk
  have hA2 : 0 ≤ A ∧ A < 16 := by omega
  have hB2 : 0 ≤ B ∧ B < 16 := by omega
  obtain rfl : C = 0 := by omega
  exact one_reg n H R F pc 24 A B 0 I ld _ _ hA2 (fun n H => done_24 (n+4) H R F pc ld A B I hR hA2 hB2 hk) (Or.inr (Or.inr (Or.inr ⟨by decide, by decide, by decide, by decide, rfl⟩)))
theorem ex_25 (n : Nat) (H : Hp) (R F : Nat → Int) (pc A B C I ld : Int) (hR : ∀ i, i < 16 → inK .u32 (R i)) (hk : chkV 25 A B C I = 0) : evCall cfc (n+40) 6 [.agg (regs R F pc).toArray, .agg #[.int .i64 25, .int .i64 A, .int .i64 B, .int .i64 C, .int .i64 I], .int .u64 ld] H = some (.ret (.bool true), H) := by
  obtain ⟨hA, hB, hC, hI⟩ := chk_rng (f := 3) (a := 15) (b := 15) (c := 0) rfl rfl rfl rfl hk
  have hA2 : 0 ≤ A ∧ A < 16 := by omega
  have hB2 : 0 ≤ B ∧ B < 16 := by omega
  obtain rfl : C = 0 := by omega
  exact one_reg n H R F pc 25 A B 0 I ld _ _ hA2 (fun n H => done_25 (n+4) H R F pc ld A B I hR hA2 hB2 hk) (Or.inr (Or.inr (Or.inr ⟨by decide, by decide, by decide, by decide, rfl⟩)))
theorem ex_26 (n : Nat) (H : Hp) (R F : Nat → Int) (pc A B C I ld : Int) (hR : ∀ i, i < 16 → inK .u32 (R i)) (hk : chkV 26 A B C I = 0) : evCall cfc (n+40) 6 [.agg (regs R F pc).toArray, .agg #[.int .i64 26, .int .i64 A, .int .i64 B, .int .i64 C, .int .i64 I], .int .u64 ld] H = some (.ret (.bool true), H) := by
  obtain ⟨hA, hB, hC, hI⟩ := chk_rng (f := 3) (a := 15) (b := 15) (c := 0) rfl rfl rfl rfl hk
  have hA2 : 0 ≤ A ∧ A < 16 := by omega
  have hB2 : 0 ≤ B ∧ B < 16 := by omega
  obtain rfl : C = 0 := by omega
  exact one_reg n H R F pc 26 A B 0 I ld _ _ hA2 (fun n H => done_26 (n+4) H R F pc ld A B I hR hA2 hB2 hk) (Or.inr (Or.inr (Or.inr ⟨by decide, by decide, by decide, by decide, rfl⟩)))
theorem ex_27 (n : Nat) (H : Hp) (R F : Nat → Int) (pc A B C I ld : Int) (hR : ∀ i, i < 16 → inK .u32 (R i)) (hk : chkV 27 A B C I = 0) : evCall cfc (n+40) 6 [.agg (regs R F pc).toArray, .agg #[.int .i64 27, .int .i64 A, .int .i64 B, .int .i64 C, .int .i64 I], .int .u64 ld] H = some (.ret (.bool true), H) := by
  obtain ⟨hA, hB, hC, hI⟩ := chk_rng (f := 4) (a := 15) (b := 0) (c := 0) rfl rfl rfl rfl hk
  have hA2 : 0 ≤ A ∧ A < 16 := by omega
  obtain rfl : B = 0 := by omega
  obtain rfl : C = 0 := by omega
  exact one_reg n H R F pc 27 A 0 0 I ld _ _ hA2 (fun n H => done_27 (n+4) H R F pc ld A I hR hA2 hk) (Or.inr (Or.inr (Or.inr ⟨by decide, by decide, by decide, by decide, rfl⟩)))
theorem ex_28 (n : Nat) (H : Hp) (R F : Nat → Int) (pc A B C I ld : Int) (hR : ∀ i, i < 16 → inK .u32 (R i)) (hk : chkV 28 A B C I = 0) : evCall cfc (n+40) 6 [.agg (regs R F pc).toArray, .agg #[.int .i64 28, .int .i64 A, .int .i64 B, .int .i64 C, .int .i64 I], .int .u64 ld] H = some (.ret (.bool true), H) := by
  obtain ⟨hA, hB, hC, hI⟩ := chk_rng (f := 5) (a := 15) (b := 15) (c := 0) rfl rfl rfl rfl hk
  have hA2 : 0 ≤ A ∧ A < 16 := by omega
  have hB2 : 0 ≤ B ∧ B < 16 := by omega
  obtain rfl : C = 0 := by omega
  by_cases hz : (adV R B I).tmod 4 = 0
  · exact one_reg n H R F pc 28 A B 0 I ld _ _ hA2 (fun n H => (done_28 (n+6) H R F pc A B I ld hA2 hB2 hk).trans (by rw [if_pos hz])) (Or.inr (Or.inr (Or.inr ⟨by decide, by decide, by decide, by decide, rfl⟩)))
  · exact one_trap n H R F pc 28 A B 0 I ld 5 (adV R B I) (fun n H => (done_28 (n+6) H R F pc A B I ld hA2 hB2 hk).trans (by rw [if_neg hz]; rfl)) (Or.inr (Or.inr rfl))
theorem ex_29 (n : Nat) (H : Hp) (R F : Nat → Int) (pc A B C I ld : Int) (hR : ∀ i, i < 16 → inK .u32 (R i)) (hk : chkV 29 A B C I = 0) : evCall cfc (n+40) 6 [.agg (regs R F pc).toArray, .agg #[.int .i64 29, .int .i64 A, .int .i64 B, .int .i64 C, .int .i64 I], .int .u64 ld] H = some (.ret (.bool true), H) := by
  obtain ⟨hA, hB, hC, hI⟩ := chk_rng (f := 5) (a := 15) (b := 15) (c := 0) rfl rfl rfl rfl hk
  have hA2 : 0 ≤ A ∧ A < 16 := by omega
  have hB2 : 0 ≤ B ∧ B < 16 := by omega
  obtain rfl : C = 0 := by omega
  by_cases hz : (adV R B I).tmod 2 = 0
  · exact one_reg n H R F pc 29 A B 0 I ld _ _ hA2 (fun n H => (done_29 (n+6) H R F pc A B I ld hA2 hB2 hk).trans (by rw [if_pos hz])) (Or.inr (Or.inr (Or.inr ⟨by decide, by decide, by decide, by decide, rfl⟩)))
  · exact one_trap n H R F pc 29 A B 0 I ld 5 (adV R B I) (fun n H => (done_29 (n+6) H R F pc A B I ld hA2 hB2 hk).trans (by rw [if_neg hz]; rfl)) (Or.inr (Or.inr rfl))
theorem ex_30 (n : Nat) (H : Hp) (R F : Nat → Int) (pc A B C I ld : Int) (hR : ∀ i, i < 16 → inK .u32 (R i)) (hk : chkV 30 A B C I = 0) : evCall cfc (n+40) 6 [.agg (regs R F pc).toArray, .agg #[.int .i64 30, .int .i64 A, .int .i64 B, .int .i64 C, .int .i64 I], .int .u64 ld] H = some (.ret (.bool true), H) := by
  obtain ⟨hA, hB, hC, hI⟩ := chk_rng (f := 5) (a := 15) (b := 15) (c := 0) rfl rfl rfl rfl hk
  have hA2 : 0 ≤ A ∧ A < 16 := by omega
  have hB2 : 0 ≤ B ∧ B < 16 := by omega
  obtain rfl : C = 0 := by omega
  by_cases hz : (adV R B I).tmod 2 = 0
  · exact one_reg n H R F pc 30 A B 0 I ld _ _ hA2 (fun n H => (done_30 (n+6) H R F pc A B I ld hA2 hB2 hk).trans (by rw [if_pos hz])) (Or.inr (Or.inr (Or.inr ⟨by decide, by decide, by decide, by decide, rfl⟩)))
  · exact one_trap n H R F pc 30 A B 0 I ld 5 (adV R B I) (fun n H => (done_30 (n+6) H R F pc A B I ld hA2 hB2 hk).trans (by rw [if_neg hz]; rfl)) (Or.inr (Or.inr rfl))
theorem ex_31 (n : Nat) (H : Hp) (R F : Nat → Int) (pc A B C I ld : Int) (hR : ∀ i, i < 16 → inK .u32 (R i)) (hk : chkV 31 A B C I = 0) : evCall cfc (n+40) 6 [.agg (regs R F pc).toArray, .agg #[.int .i64 31, .int .i64 A, .int .i64 B, .int .i64 C, .int .i64 I], .int .u64 ld] H = some (.ret (.bool true), H) := by
  obtain ⟨hA, hB, hC, hI⟩ := chk_rng (f := 5) (a := 15) (b := 15) (c := 0) rfl rfl rfl rfl hk
  have hA2 : 0 ≤ A ∧ A < 16 := by omega
  have hB2 : 0 ≤ B ∧ B < 16 := by omega
  obtain rfl : C = 0 := by omega
  by_cases hz : (adV R B I).tmod 1 = 0
  · exact one_reg n H R F pc 31 A B 0 I ld _ _ hA2 (fun n H => (done_31 (n+6) H R F pc A B I ld hA2 hB2 hk).trans (by rw [if_pos hz])) (Or.inr (Or.inr (Or.inr ⟨by decide, by decide, by decide, by decide, rfl⟩)))
  · exact one_trap n H R F pc 31 A B 0 I ld 5 (adV R B I) (fun n H => (done_31 (n+6) H R F pc A B I ld hA2 hB2 hk).trans (by rw [if_neg hz]; rfl)) (Or.inr (Or.inr rfl))
theorem ex_32 (n : Nat) (H : Hp) (R F : Nat → Int) (pc A B C I ld : Int) (hR : ∀ i, i < 16 → inK .u32 (R i)) (hk : chkV 32 A B C I = 0) : evCall cfc (n+40) 6 [.agg (regs R F pc).toArray, .agg #[.int .i64 32, .int .i64 A, .int .i64 B, .int .i64 C, .int .i64 I], .int .u64 ld] H = some (.ret (.bool true), H) := by
  obtain ⟨hA, hB, hC, hI⟩ := chk_rng (f := 5) (a := 15) (b := 15) (c := 0) rfl rfl rfl rfl hk
  have hA2 : 0 ≤ A ∧ A < 16 := by omega
  have hB2 : 0 ≤ B ∧ B < 16 := by omega
  obtain rfl : C = 0 := by omega
  by_cases hz : (adV R B I).tmod 1 = 0
  · exact one_reg n H R F pc 32 A B 0 I ld _ _ hA2 (fun n H => (done_32 (n+6) H R F pc A B I ld hA2 hB2 hk).trans (by rw [if_pos hz])) (Or.inr (Or.inr (Or.inr ⟨by decide, by decide, by decide, by decide, rfl⟩)))
  · exact one_trap n H R F pc 32 A B 0 I ld 5 (adV R B I) (fun n H => (done_32 (n+6) H R F pc A B I ld hA2 hB2 hk).trans (by rw [if_neg hz]; rfl)) (Or.inr (Or.inr rfl))
theorem ex_33 (n : Nat) (H : Hp) (R F : Nat → Int) (pc A B C I ld : Int) (hR : ∀ i, i < 16 → inK .u32 (R i)) (hk : chkV 33 A B C I = 0) : evCall cfc (n+40) 6 [.agg (regs R F pc).toArray, .agg #[.int .i64 33, .int .i64 A, .int .i64 B, .int .i64 C, .int .i64 I], .int .u64 ld] H = some (.ret (.bool true), H) := by
  obtain ⟨hA, hB, hC, hI⟩ := chk_rng (f := 5) (a := 15) (b := 15) (c := 0) rfl rfl rfl rfl hk
  have hA2 : 0 ≤ A ∧ A < 16 := by omega
  have hB2 : 0 ≤ B ∧ B < 16 := by omega
  obtain rfl : C = 0 := by omega
  by_cases hz : (adV R B I).tmod 4 = 0
  · exact one_same n H R F pc 33 A B 0 I ld _ (by omega) (fun n H => (done_33 (n+6) H R F pc A B I ld hA2 hB2 hk).trans (by rw [if_pos hz])) (Or.inr (Or.inr (Or.inr ⟨by decide, by decide, by decide, by decide, rfl⟩)))
  · exact one_trap n H R F pc 33 A B 0 I ld 5 (adV R B I) (fun n H => (done_33 (n+6) H R F pc A B I ld hA2 hB2 hk).trans (by rw [if_neg hz]; rfl)) (Or.inr (Or.inr rfl))
theorem ex_34 (n : Nat) (H : Hp) (R F : Nat → Int) (pc A B C I ld : Int) (hR : ∀ i, i < 16 → inK .u32 (R i)) (hk : chkV 34 A B C I = 0) : evCall cfc (n+40) 6 [.agg (regs R F pc).toArray, .agg #[.int .i64 34, .int .i64 A, .int .i64 B, .int .i64 C, .int .i64 I], .int .u64 ld] H = some (.ret (.bool true), H) := by
  obtain ⟨hA, hB, hC, hI⟩ := chk_rng (f := 5) (a := 15) (b := 15) (c := 0) rfl rfl rfl rfl hk
  have hA2 : 0 ≤ A ∧ A < 16 := by omega
  have hB2 : 0 ≤ B ∧ B < 16 := by omega
  obtain rfl : C = 0 := by omega
  by_cases hz : (adV R B I).tmod 2 = 0
  · exact one_same n H R F pc 34 A B 0 I ld _ (by omega) (fun n H => (done_34 (n+6) H R F pc A B I ld hA2 hB2 hk).trans (by rw [if_pos hz])) (Or.inr (Or.inr (Or.inr ⟨by decide, by decide, by decide, by decide, rfl⟩)))
  · exact one_trap n H R F pc 34 A B 0 I ld 5 (adV R B I) (fun n H => (done_34 (n+6) H R F pc A B I ld hA2 hB2 hk).trans (by rw [if_neg hz]; rfl)) (Or.inr (Or.inr rfl))
theorem ex_35 (n : Nat) (H : Hp) (R F : Nat → Int) (pc A B C I ld : Int) (hR : ∀ i, i < 16 → inK .u32 (R i)) (hk : chkV 35 A B C I = 0) : evCall cfc (n+40) 6 [.agg (regs R F pc).toArray, .agg #[.int .i64 35, .int .i64 A, .int .i64 B, .int .i64 C, .int .i64 I], .int .u64 ld] H = some (.ret (.bool true), H) := by
  obtain ⟨hA, hB, hC, hI⟩ := chk_rng (f := 5) (a := 15) (b := 15) (c := 0) rfl rfl rfl rfl hk
  have hA2 : 0 ≤ A ∧ A < 16 := by omega
  have hB2 : 0 ≤ B ∧ B < 16 := by omega
  obtain rfl : C = 0 := by omega
  by_cases hz : (adV R B I).tmod 1 = 0
  · exact one_same n H R F pc 35 A B 0 I ld _ (by omega) (fun n H => (done_35 (n+6) H R F pc A B I ld hA2 hB2 hk).trans (by rw [if_pos hz])) (Or.inr (Or.inr (Or.inr ⟨by decide, by decide, by decide, by decide, rfl⟩)))
  · exact one_trap n H R F pc 35 A B 0 I ld 5 (adV R B I) (fun n H => (done_35 (n+6) H R F pc A B I ld hA2 hB2 hk).trans (by rw [if_neg hz]; rfl)) (Or.inr (Or.inr rfl))
theorem ex_36 (n : Nat) (H : Hp) (R F : Nat → Int) (pc A B C I ld : Int) (hR : ∀ i, i < 16 → inK .u32 (R i)) (hk : chkV 36 A B C I = 0) : evCall cfc (n+40) 6 [.agg (regs R F pc).toArray, .agg #[.int .i64 36, .int .i64 A, .int .i64 B, .int .i64 C, .int .i64 I], .int .u64 ld] H = some (.ret (.bool true), H) := by
  obtain ⟨hA, hB, hC, hI⟩ := chk_rng (f := 6) (a := 7) (b := 15) (c := 0) rfl rfl rfl rfl hk
  have hA2 : 0 ≤ A ∧ A < 8 := by omega
  have hB2 : 0 ≤ B ∧ B < 16 := by omega
  obtain rfl : C = 0 := by omega
  by_cases hz : (adV R B I).tmod 8 = 0
  · exact one_flt n H R F pc 36 A B 0 I ld _ hA2 (by decide) (by decide) (by decide) (by decide) (fun n H => (done_36 (n+6) H R F pc A B I ld hA2 hB2 hk).trans (by rw [if_pos hz]))
  · exact one_trap n H R F pc 36 A B 0 I ld 5 (adV R B I) (fun n H => (done_36 (n+6) H R F pc A B I ld hA2 hB2 hk).trans (by rw [if_neg hz]; rfl)) (Or.inr (Or.inr rfl))
theorem ex_37 (n : Nat) (H : Hp) (R F : Nat → Int) (pc A B C I ld : Int) (hR : ∀ i, i < 16 → inK .u32 (R i)) (hk : chkV 37 A B C I = 0) : evCall cfc (n+40) 6 [.agg (regs R F pc).toArray, .agg #[.int .i64 37, .int .i64 A, .int .i64 B, .int .i64 C, .int .i64 I], .int .u64 ld] H = some (.ret (.bool true), H) := by
  obtain ⟨hA, hB, hC, hI⟩ := chk_rng (f := 6) (a := 7) (b := 15) (c := 0) rfl rfl rfl rfl hk
  have hA2 : 0 ≤ A ∧ A < 8 := by omega
  have hB2 : 0 ≤ B ∧ B < 16 := by omega
  obtain rfl : C = 0 := by omega
  by_cases hz : (adV R B I).tmod 8 = 0
  · exact one_same n H R F pc 37 A B 0 I ld _ (by omega) (fun n H => (done_37 (n+6) H R F pc A B I ld hA2 hB2 hk).trans (by rw [if_pos hz])) (Or.inr (Or.inr (Or.inr ⟨by decide, by decide, by decide, by decide, rfl⟩)))
  · exact one_trap n H R F pc 37 A B 0 I ld 5 (adV R B I) (fun n H => (done_37 (n+6) H R F pc A B I ld hA2 hB2 hk).trans (by rw [if_neg hz]; rfl)) (Or.inr (Or.inr rfl))
theorem ex_38 (n : Nat) (H : Hp) (R F : Nat → Int) (pc A B C I ld : Int) (hR : ∀ i, i < 16 → inK .u32 (R i)) (hk : chkV 38 A B C I = 0) : evCall cfc (n+40) 6 [.agg (regs R F pc).toArray, .agg #[.int .i64 38, .int .i64 A, .int .i64 B, .int .i64 C, .int .i64 I], .int .u64 ld] H = some (.ret (.bool true), H) := by
  obtain ⟨hA, hB, hC, hI⟩ := chk_rng (f := 7) (a := 15) (b := 15) (c := 0) rfl rfl rfl rfl hk
  have hA2 : 0 ≤ A ∧ A < 16 := by omega
  have hB2 : 0 ≤ B ∧ B < 16 := by omega
  obtain rfl : C = 0 := by omega
  by_cases hc : upd R 0 0 A.toNat = upd R 0 0 B.toNat
  · by_cases hz : (toV pc I).tmod 4 = 0
    · by_cases he : toV pc I = IntKind.wrap .u32 (pc + 4)
      · exact one_same n H R F pc 38 A B 0 I ld _ hA2 (fun n H => (done_38 (n+6) H R F pc A B I ld hA2 hB2 hk).trans (by rw [if_pos hc, if_pos hz])) (Or.inl ⟨rfl, trivial, Or.inl he⟩)
      · exact one_same n H R F pc 38 A B 0 I ld _ hA2 (fun n H => (done_38 (n+6) H R F pc A B I ld hA2 hB2 hk).trans (by rw [if_pos hc, if_pos hz])) (Or.inl ⟨rfl, trivial, Or.inr ⟨he, hz⟩⟩)
    · exact one_trap n H R F pc 38 A B 0 I ld 5 (toV pc I) (fun n H => (done_38 (n+6) H R F pc A B I ld hA2 hB2 hk).trans (by rw [if_pos hc, if_neg hz]; rfl)) (Or.inr (Or.inr rfl))
  · exact one_same n H R F pc 38 A B 0 I ld _ hA2 (fun n H => (done_38 (n+6) H R F pc A B I ld hA2 hB2 hk).trans (by rw [if_neg hc])) (Or.inl ⟨rfl, trivial, Or.inl rfl⟩)
theorem ex_39 (n : Nat) (H : Hp) (R F : Nat → Int) (pc A B C I ld : Int) (hR : ∀ i, i < 16 → inK .u32 (R i)) (hk : chkV 39 A B C I = 0) : evCall cfc (n+40) 6 [.agg (regs R F pc).toArray, .agg #[.int .i64 39, .int .i64 A, .int .i64 B, .int .i64 C, .int .i64 I], .int .u64 ld] H = some (.ret (.bool true), H) := by
  obtain ⟨hA, hB, hC, hI⟩ := chk_rng (f := 7) (a := 15) (b := 15) (c := 0) rfl rfl rfl rfl hk
  have hA2 : 0 ≤ A ∧ A < 16 := by omega
  have hB2 : 0 ≤ B ∧ B < 16 := by omega
  obtain rfl : C = 0 := by omega
  by_cases hc : ¬ upd R 0 0 A.toNat = upd R 0 0 B.toNat
  · by_cases hz : (toV pc I).tmod 4 = 0
    · by_cases he : toV pc I = IntKind.wrap .u32 (pc + 4)
      · exact one_same n H R F pc 39 A B 0 I ld _ hA2 (fun n H => (done_39 (n+6) H R F pc A B I ld hA2 hB2 hk).trans (by rw [if_pos hc, if_pos hz])) (Or.inl ⟨rfl, trivial, Or.inl he⟩)
      · exact one_same n H R F pc 39 A B 0 I ld _ hA2 (fun n H => (done_39 (n+6) H R F pc A B I ld hA2 hB2 hk).trans (by rw [if_pos hc, if_pos hz])) (Or.inl ⟨rfl, trivial, Or.inr ⟨he, hz⟩⟩)
    · exact one_trap n H R F pc 39 A B 0 I ld 5 (toV pc I) (fun n H => (done_39 (n+6) H R F pc A B I ld hA2 hB2 hk).trans (by rw [if_pos hc, if_neg hz]; rfl)) (Or.inr (Or.inr rfl))
  · exact one_same n H R F pc 39 A B 0 I ld _ hA2 (fun n H => (done_39 (n+6) H R F pc A B I ld hA2 hB2 hk).trans (by rw [if_neg hc])) (Or.inl ⟨rfl, trivial, Or.inl rfl⟩)
theorem ex_40 (n : Nat) (H : Hp) (R F : Nat → Int) (pc A B C I ld : Int) (hR : ∀ i, i < 16 → inK .u32 (R i)) (hk : chkV 40 A B C I = 0) : evCall cfc (n+40) 6 [.agg (regs R F pc).toArray, .agg #[.int .i64 40, .int .i64 A, .int .i64 B, .int .i64 C, .int .i64 I], .int .u64 ld] H = some (.ret (.bool true), H) := by
  obtain ⟨hA, hB, hC, hI⟩ := chk_rng (f := 7) (a := 15) (b := 15) (c := 0) rfl rfl rfl rfl hk
  have hA2 : 0 ≤ A ∧ A < 16 := by omega
  have hB2 : 0 ≤ B ∧ B < 16 := by omega
  obtain rfl : C = 0 := by omega
  by_cases hc : IntKind.wrap .i32 (upd R 0 0 A.toNat) < IntKind.wrap .i32 (upd R 0 0 B.toNat)
  · by_cases hz : (toV pc I).tmod 4 = 0
    · by_cases he : toV pc I = IntKind.wrap .u32 (pc + 4)
      · exact one_same n H R F pc 40 A B 0 I ld _ hA2 (fun n H => (done_40 (n+6) H R F pc A B I ld hA2 hB2 hk).trans (by rw [if_pos hc, if_pos hz])) (Or.inl ⟨rfl, trivial, Or.inl he⟩)
      · exact one_same n H R F pc 40 A B 0 I ld _ hA2 (fun n H => (done_40 (n+6) H R F pc A B I ld hA2 hB2 hk).trans (by rw [if_pos hc, if_pos hz])) (Or.inl ⟨rfl, trivial, Or.inr ⟨he, hz⟩⟩)
    · exact one_trap n H R F pc 40 A B 0 I ld 5 (toV pc I) (fun n H => (done_40 (n+6) H R F pc A B I ld hA2 hB2 hk).trans (by rw [if_pos hc, if_neg hz]; rfl)) (Or.inr (Or.inr rfl))
  · exact one_same n H R F pc 40 A B 0 I ld _ hA2 (fun n H => (done_40 (n+6) H R F pc A B I ld hA2 hB2 hk).trans (by rw [if_neg hc])) (Or.inl ⟨rfl, trivial, Or.inl rfl⟩)
theorem ex_41 (n : Nat) (H : Hp) (R F : Nat → Int) (pc A B C I ld : Int) (hR : ∀ i, i < 16 → inK .u32 (R i)) (hk : chkV 41 A B C I = 0) : evCall cfc (n+40) 6 [.agg (regs R F pc).toArray, .agg #[.int .i64 41, .int .i64 A, .int .i64 B, .int .i64 C, .int .i64 I], .int .u64 ld] H = some (.ret (.bool true), H) := by
  obtain ⟨hA, hB, hC, hI⟩ := chk_rng (f := 7) (a := 15) (b := 15) (c := 0) rfl rfl rfl rfl hk
  have hA2 : 0 ≤ A ∧ A < 16 := by omega
  have hB2 : 0 ≤ B ∧ B < 16 := by omega
  obtain rfl : C = 0 := by omega
  by_cases hc : IntKind.wrap .i32 (upd R 0 0 B.toNat) ≤ IntKind.wrap .i32 (upd R 0 0 A.toNat)
  · by_cases hz : (toV pc I).tmod 4 = 0
    · by_cases he : toV pc I = IntKind.wrap .u32 (pc + 4)
      · exact one_same n H R F pc 41 A B 0 I ld _ hA2 (fun n H => (done_41 (n+6) H R F pc A B I ld hA2 hB2 hk).trans (by rw [if_pos hc, if_pos hz])) (Or.inl ⟨rfl, trivial, Or.inl he⟩)
      · exact one_same n H R F pc 41 A B 0 I ld _ hA2 (fun n H => (done_41 (n+6) H R F pc A B I ld hA2 hB2 hk).trans (by rw [if_pos hc, if_pos hz])) (Or.inl ⟨rfl, trivial, Or.inr ⟨he, hz⟩⟩)
    · exact one_trap n H R F pc 41 A B 0 I ld 5 (toV pc I) (fun n H => (done_41 (n+6) H R F pc A B I ld hA2 hB2 hk).trans (by rw [if_pos hc, if_neg hz]; rfl)) (Or.inr (Or.inr rfl))
  · exact one_same n H R F pc 41 A B 0 I ld _ hA2 (fun n H => (done_41 (n+6) H R F pc A B I ld hA2 hB2 hk).trans (by rw [if_neg hc])) (Or.inl ⟨rfl, trivial, Or.inl rfl⟩)
theorem ex_42 (n : Nat) (H : Hp) (R F : Nat → Int) (pc A B C I ld : Int) (hR : ∀ i, i < 16 → inK .u32 (R i)) (hk : chkV 42 A B C I = 0) : evCall cfc (n+40) 6 [.agg (regs R F pc).toArray, .agg #[.int .i64 42, .int .i64 A, .int .i64 B, .int .i64 C, .int .i64 I], .int .u64 ld] H = some (.ret (.bool true), H) := by
  obtain ⟨hA, hB, hC, hI⟩ := chk_rng (f := 7) (a := 15) (b := 15) (c := 0) rfl rfl rfl rfl hk
  have hA2 : 0 ≤ A ∧ A < 16 := by omega
  have hB2 : 0 ≤ B ∧ B < 16 := by omega
  obtain rfl : C = 0 := by omega
  by_cases hc : upd R 0 0 A.toNat < upd R 0 0 B.toNat
  · by_cases hz : (toV pc I).tmod 4 = 0
    · by_cases he : toV pc I = IntKind.wrap .u32 (pc + 4)
      · exact one_same n H R F pc 42 A B 0 I ld _ hA2 (fun n H => (done_42 (n+6) H R F pc A B I ld hA2 hB2 hk).trans (by rw [if_pos hc, if_pos hz])) (Or.inl ⟨rfl, trivial, Or.inl he⟩)
      · exact one_same n H R F pc 42 A B 0 I ld _ hA2 (fun n H => (done_42 (n+6) H R F pc A B I ld hA2 hB2 hk).trans (by rw [if_pos hc, if_pos hz])) (Or.inl ⟨rfl, trivial, Or.inr ⟨he, hz⟩⟩)
    · exact one_trap n H R F pc 42 A B 0 I ld 5 (toV pc I) (fun n H => (done_42 (n+6) H R F pc A B I ld hA2 hB2 hk).trans (by rw [if_pos hc, if_neg hz]; rfl)) (Or.inr (Or.inr rfl))
  · exact one_same n H R F pc 42 A B 0 I ld _ hA2 (fun n H => (done_42 (n+6) H R F pc A B I ld hA2 hB2 hk).trans (by rw [if_neg hc])) (Or.inl ⟨rfl, trivial, Or.inl rfl⟩)
theorem ex_43 (n : Nat) (H : Hp) (R F : Nat → Int) (pc A B C I ld : Int) (hR : ∀ i, i < 16 → inK .u32 (R i)) (hk : chkV 43 A B C I = 0) : evCall cfc (n+40) 6 [.agg (regs R F pc).toArray, .agg #[.int .i64 43, .int .i64 A, .int .i64 B, .int .i64 C, .int .i64 I], .int .u64 ld] H = some (.ret (.bool true), H) := by
  obtain ⟨hA, hB, hC, hI⟩ := chk_rng (f := 7) (a := 15) (b := 15) (c := 0) rfl rfl rfl rfl hk
  have hA2 : 0 ≤ A ∧ A < 16 := by omega
  have hB2 : 0 ≤ B ∧ B < 16 := by omega
  obtain rfl : C = 0 := by omega
  by_cases hc : upd R 0 0 B.toNat ≤ upd R 0 0 A.toNat
  · by_cases hz : (toV pc I).tmod 4 = 0
    · by_cases he : toV pc I = IntKind.wrap .u32 (pc + 4)
      · exact one_same n H R F pc 43 A B 0 I ld _ hA2 (fun n H => (done_43 (n+6) H R F pc A B I ld hA2 hB2 hk).trans (by rw [if_pos hc, if_pos hz])) (Or.inl ⟨rfl, trivial, Or.inl he⟩)
      · exact one_same n H R F pc 43 A B 0 I ld _ hA2 (fun n H => (done_43 (n+6) H R F pc A B I ld hA2 hB2 hk).trans (by rw [if_pos hc, if_pos hz])) (Or.inl ⟨rfl, trivial, Or.inr ⟨he, hz⟩⟩)
    · exact one_trap n H R F pc 43 A B 0 I ld 5 (toV pc I) (fun n H => (done_43 (n+6) H R F pc A B I ld hA2 hB2 hk).trans (by rw [if_pos hc, if_neg hz]; rfl)) (Or.inr (Or.inr rfl))
  · exact one_same n H R F pc 43 A B 0 I ld _ hA2 (fun n H => (done_43 (n+6) H R F pc A B I ld hA2 hB2 hk).trans (by rw [if_neg hc])) (Or.inl ⟨rfl, trivial, Or.inl rfl⟩)
theorem ex_44 (n : Nat) (H : Hp) (R F : Nat → Int) (pc A B C I ld : Int) (hR : ∀ i, i < 16 → inK .u32 (R i)) (hk : chkV 44 A B C I = 0) : evCall cfc (n+40) 6 [.agg (regs R F pc).toArray, .agg #[.int .i64 44, .int .i64 A, .int .i64 B, .int .i64 C, .int .i64 I], .int .u64 ld] H = some (.ret (.bool true), H) := by
  obtain ⟨hA, hB, hC, hI⟩ := chk_rng (f := 8) (a := 15) (b := 0) (c := 0) rfl rfl rfl rfl hk
  have hA2 : 0 ≤ A ∧ A < 16 := by omega
  obtain rfl : B = 0 := by omega
  obtain rfl : C = 0 := by omega
  by_cases hz : (toV pc I).tmod 4 = 0
  · refine one_reg n H R F pc 44 A 0 0 I ld _ _ hA2 (fun n H => (done_44 (n+6) H R F pc A I ld hA2 hk).trans (by rw [if_pos hz])) (Or.inr (Or.inl ⟨by decide, Or.inl rfl, hz, ?_⟩))
    by_cases h0 : A = 0
    · exact Or.inl h0
    · exact Or.inr ⟨h0, upd_at R _ _ (by omega)⟩
  · exact one_trap n H R F pc 44 A 0 0 I ld 5 (toV pc I) (fun n H => (done_44 (n+6) H R F pc A I ld hA2 hk).trans (by rw [if_neg hz]; rfl)) (Or.inr (Or.inr rfl))
theorem ex_45 (n : Nat) (H : Hp) (R F : Nat → Int) (pc A B C I ld : Int) (hR : ∀ i, i < 16 → inK .u32 (R i)) (hk : chkV 45 A B C I = 0) : evCall cfc (n+40) 6 [.agg (regs R F pc).toArray, .agg #[.int .i64 45, .int .i64 A, .int .i64 B, .int .i64 C, .int .i64 I], .int .u64 ld] H = some (.ret (.bool true), H) := by
  obtain ⟨hA, hB, hC, hI⟩ := chk_rng (f := 5) (a := 15) (b := 15) (c := 0) rfl rfl rfl rfl hk
  have hA2 : 0 ≤ A ∧ A < 16 := by omega
  have hB2 : 0 ≤ B ∧ B < 16 := by omega
  obtain rfl : C = 0 := by omega
  by_cases hz : (adV R B I).tmod 4 = 0
  · refine one_reg n H R F pc 45 A B 0 I ld _ _ hA2 (fun n H => (done_45 (n+6) H R F pc A B I ld hA2 hB2 hk).trans (by rw [if_pos hz])) (Or.inr (Or.inl ⟨by decide, Or.inr ⟨by decide, rfl⟩, hz, ?_⟩))
    by_cases h0 : A = 0
    · exact Or.inl h0
    · exact Or.inr ⟨h0, upd_at R _ _ (by omega)⟩
  · exact one_trap n H R F pc 45 A B 0 I ld 5 (adV R B I) (fun n H => (done_45 (n+6) H R F pc A B I ld hA2 hB2 hk).trans (by rw [if_neg hz]; rfl)) (Or.inr (Or.inr rfl))
theorem ex_46 (n : Nat) (H : Hp) (R F : Nat → Int) (pc A B C I ld : Int) (hR : ∀ i, i < 16 → inK .u32 (R i)) (hk : chkV 46 A B C I = 0) : evCall cfc (n+40) 6 [.agg (regs R F pc).toArray, .agg #[.int .i64 46, .int .i64 A, .int .i64 B, .int .i64 C, .int .i64 I], .int .u64 ld] H = some (.ret (.bool true), H) := by
  obtain ⟨hA, hB, hC, hI⟩ := chk_rng (f := 9) (a := 7) (b := 7) (c := 7) rfl rfl rfl rfl hk
  have hA2 : 0 ≤ A ∧ A < 8 := by omega
  have hB2 : 0 ≤ B ∧ B < 8 := by omega
  have hC2 : 0 ≤ C ∧ C < 8 := by omega
  obtain rfl := hI rfl
  exact one_flt n H R F pc 46 A B C 0 ld _ hA2 (by decide) (by decide) (by decide) (by decide) (fun n H => done_46 (n+6) H R F pc A B C ld hA2 hB2 hC2 hk)
theorem ex_47 (n : Nat) (H : Hp) (R F : Nat → Int) (pc A B C I ld : Int) (hR : ∀ i, i < 16 → inK .u32 (R i)) (hk : chkV 47 A B C I = 0) : evCall cfc (n+40) 6 [.agg (regs R F pc).toArray, .agg #[.int .i64 47, .int .i64 A, .int .i64 B, .int .i64 C, .int .i64 I], .int .u64 ld] H = some (.ret (.bool true), H) := by
  obtain ⟨hA, hB, hC, hI⟩ := chk_rng (f := 9) (a := 7) (b := 7) (c := 7) rfl rfl rfl rfl hk
  have hA2 : 0 ≤ A ∧ A < 8 := by omega
  have hB2 : 0 ≤ B ∧ B < 8 := by omega
  have hC2 : 0 ≤ C ∧ C < 8 := by omega
  obtain rfl := hI rfl
  exact one_flt n H R F pc 47 A B C 0 ld _ hA2 (by decide) (by decide) (by decide) (by decide) (fun n H => done_47 (n+6) H R F pc A B C ld hA2 hB2 hC2 hk)
theorem ex_48 (n : Nat) (H : Hp) (R F : Nat → Int) (pc A B C I ld : Int) (hR : ∀ i, i < 16 → inK .u32 (R i)) (hk : chkV 48 A B C I = 0) : evCall cfc (n+40) 6 [.agg (regs R F pc).toArray, .agg #[.int .i64 48, .int .i64 A, .int .i64 B, .int .i64 C, .int .i64 I], .int .u64 ld] H = some (.ret (.bool true), H) := by
  obtain ⟨hA, hB, hC, hI⟩ := chk_rng (f := 9) (a := 7) (b := 7) (c := 7) rfl rfl rfl rfl hk
  have hA2 : 0 ≤ A ∧ A < 8 := by omega
  have hB2 : 0 ≤ B ∧ B < 8 := by omega
  have hC2 : 0 ≤ C ∧ C < 8 := by omega
  obtain rfl := hI rfl
  exact one_flt n H R F pc 48 A B C 0 ld _ hA2 (by decide) (by decide) (by decide) (by decide) (fun n H => done_48 (n+6) H R F pc A B C ld hA2 hB2 hC2 hk)
theorem ex_49 (n : Nat) (H : Hp) (R F : Nat → Int) (pc A B C I ld : Int) (hR : ∀ i, i < 16 → inK .u32 (R i)) (hk : chkV 49 A B C I = 0) : evCall cfc (n+40) 6 [.agg (regs R F pc).toArray, .agg #[.int .i64 49, .int .i64 A, .int .i64 B, .int .i64 C, .int .i64 I], .int .u64 ld] H = some (.ret (.bool true), H) := by
  obtain ⟨hA, hB, hC, hI⟩ := chk_rng (f := 9) (a := 7) (b := 7) (c := 7) rfl rfl rfl rfl hk
  have hA2 : 0 ≤ A ∧ A < 8 := by omega
  have hB2 : 0 ≤ B ∧ B < 8 := by omega
  have hC2 : 0 ≤ C ∧ C < 8 := by omega
  obtain rfl := hI rfl
  exact one_flt n H R F pc 49 A B C 0 ld _ hA2 (by decide) (by decide) (by decide) (by decide) (fun n H => done_49 (n+6) H R F pc A B C ld hA2 hB2 hC2 hk)
theorem ex_50 (n : Nat) (H : Hp) (R F : Nat → Int) (pc A B C I ld : Int) (hR : ∀ i, i < 16 → inK .u32 (R i)) (hk : chkV 50 A B C I = 0) : evCall cfc (n+40) 6 [.agg (regs R F pc).toArray, .agg #[.int .i64 50, .int .i64 A, .int .i64 B, .int .i64 C, .int .i64 I], .int .u64 ld] H = some (.ret (.bool true), H) := by
  obtain ⟨hA, hB, hC, hI⟩ := chk_rng (f := 10) (a := 7) (b := 7) (c := 0) rfl rfl rfl rfl hk
  have hA2 : 0 ≤ A ∧ A < 8 := by omega
  have hB2 : 0 ≤ B ∧ B < 8 := by omega
  obtain rfl : C = 0 := by omega
  obtain rfl := hI rfl
  exact one_flt n H R F pc 50 A B 0 0 ld _ hA2 (by decide) (by decide) (by decide) (by decide) (fun n H => done_50 (n+6) H R F pc A B ld hA2 hB2 hk)
theorem ex_51 (n : Nat) (H : Hp) (R F : Nat → Int) (pc A B C I ld : Int) (hR : ∀ i, i < 16 → inK .u32 (R i)) (hk : chkV 51 A B C I = 0) : evCall cfc (n+40) 6 [.agg (regs R F pc).toArray, .agg #[.int .i64 51, .int .i64 A, .int .i64 B, .int .i64 C, .int .i64 I], .int .u64 ld] H = some (.ret (.bool true), H) := by
  obtain ⟨hA, hB, hC, hI⟩ := chk_rng (f := 9) (a := 7) (b := 7) (c := 7) rfl rfl rfl rfl hk
  have hA2 : 0 ≤ A ∧ A < 8 := by omega
  have hB2 : 0 ≤ B ∧ B < 8 := by omega
  have hC2 : 0 ≤ C ∧ C < 8 := by omega
  obtain rfl := hI rfl
  exact one_flt n H R F pc 51 A B C 0 ld _ hA2 (by decide) (by decide) (by decide) (by decide) (fun n H => done_51 (n+6) H R F pc A B C ld hA2 hB2 hC2 hk)
theorem ex_52 (n : Nat) (H : Hp) (R F : Nat → Int) (pc A B C I ld : Int) (hR : ∀ i, i < 16 → inK .u32 (R i)) (hk : chkV 52 A B C I = 0) : evCall cfc (n+40) 6 [.agg (regs R F pc).toArray, .agg #[.int .i64 52, .int .i64 A, .int .i64 B, .int .i64 C, .int .i64 I], .int .u64 ld] H = some (.ret (.bool true), H) := by
  obtain ⟨hA, hB, hC, hI⟩ := chk_rng (f := 9) (a := 7) (b := 7) (c := 7) rfl rfl rfl rfl hk
  have hA2 : 0 ≤ A ∧ A < 8 := by omega
  have hB2 : 0 ≤ B ∧ B < 8 := by omega
  have hC2 : 0 ≤ C ∧ C < 8 := by omega
  obtain rfl := hI rfl
  exact one_flt n H R F pc 52 A B C 0 ld _ hA2 (by decide) (by decide) (by decide) (by decide) (fun n H => done_52 (n+6) H R F pc A B C ld hA2 hB2 hC2 hk)
theorem ex_53 (n : Nat) (H : Hp) (R F : Nat → Int) (pc A B C I ld : Int) (hR : ∀ i, i < 16 → inK .u32 (R i)) (hk : chkV 53 A B C I = 0) : evCall cfc (n+40) 6 [.agg (regs R F pc).toArray, .agg #[.int .i64 53, .int .i64 A, .int .i64 B, .int .i64 C, .int .i64 I], .int .u64 ld] H = some (.ret (.bool true), H) := by
  obtain ⟨hA, hB, hC, hI⟩ := chk_rng (f := 10) (a := 7) (b := 7) (c := 0) rfl rfl rfl rfl hk
  have hA2 : 0 ≤ A ∧ A < 8 := by omega
  have hB2 : 0 ≤ B ∧ B < 8 := by omega
  obtain rfl : C = 0 := by omega
  obtain rfl := hI rfl
  exact one_flt n H R F pc 53 A B 0 0 ld _ hA2 (by decide) (by decide) (by decide) (by decide) (fun n H => done_53 (n+6) H R F pc A B ld hA2 hB2 hk)
theorem ex_54 (n : Nat) (H : Hp) (R F : Nat → Int) (pc A B C I ld : Int) (hR : ∀ i, i < 16 → inK .u32 (R i)) (hk : chkV 54 A B C I = 0) : evCall cfc (n+40) 6 [.agg (regs R F pc).toArray, .agg #[.int .i64 54, .int .i64 A, .int .i64 B, .int .i64 C, .int .i64 I], .int .u64 ld] H = some (.ret (.bool true), H) := by
  obtain ⟨hA, hB, hC, hI⟩ := chk_rng (f := 10) (a := 7) (b := 7) (c := 0) rfl rfl rfl rfl hk
  have hA2 : 0 ≤ A ∧ A < 8 := by omega
  have hB2 : 0 ≤ B ∧ B < 8 := by omega
  obtain rfl : C = 0 := by omega
  obtain rfl := hI rfl
  exact one_flt n H R F pc 54 A B 0 0 ld _ hA2 (by decide) (by decide) (by decide) (by decide) (fun n H => done_54 (n+6) H R F pc A B ld hA2 hB2 hk)
theorem ex_55 (n : Nat) (H : Hp) (R F : Nat → Int) (pc A B C I ld : Int) (hR : ∀ i, i < 16 → inK .u32 (R i)) (hk : chkV 55 A B C I = 0) : evCall cfc (n+40) 6 [.agg (regs R F pc).toArray, .agg #[.int .i64 55, .int .i64 A, .int .i64 B, .int .i64 C, .int .i64 I], .int .u64 ld] H = some (.ret (.bool true), H) := by
  obtain ⟨hA, hB, hC, hI⟩ := chk_rng (f := 11) (a := 15) (b := 7) (c := 7) rfl rfl rfl rfl hk
  have hA2 : 0 ≤ A ∧ A < 16 := by omega
  have hB2 : 0 ≤ B ∧ B < 8 := by omega
  have hC2 : 0 ≤ C ∧ C < 8 := by omega
  obtain rfl := hI rfl
  exact one_reg n H R F pc 55 A B C 0 ld _ _ hA2 (fun n H => done_55 (n+6) H R F pc A B C ld hA2 hB2 hC2 hk) (Or.inr (Or.inr (Or.inr ⟨by decide, by decide, by decide, by decide, rfl⟩)))
theorem ex_56 (n : Nat) (H : Hp) (R F : Nat → Int) (pc A B C I ld : Int) (hR : ∀ i, i < 16 → inK .u32 (R i)) (hk : chkV 56 A B C I = 0) : evCall cfc (n+40) 6 [.agg (regs R F pc).toArray, .agg #[.int .i64 56, .int .i64 A, .int .i64 B, .int .i64 C, .int .i64 I], .int .u64 ld] H = some (.ret (.bool true), H) := by
  obtain ⟨hA, hB, hC, hI⟩ := chk_rng (f := 11) (a := 15) (b := 7) (c := 7) rfl rfl rfl rfl hk
  have hA2 : 0 ≤ A ∧ A < 16 := by omega
  have hB2 : 0 ≤ B ∧ B < 8 := by omega
  have hC2 : 0 ≤ C ∧ C < 8 := by omega
  obtain rfl := hI rfl
  exact one_reg n H R F pc 56 A B C 0 ld _ _ hA2 (fun n H => done_56 (n+6) H R F pc A B C ld hA2 hB2 hC2 hk) (Or.inr (Or.inr (Or.inr ⟨by decide, by decide, by decide, by decide, rfl⟩)))
theorem ex_57 (n : Nat) (H : Hp) (R F : Nat → Int) (pc A B C I ld : Int) (hR : ∀ i, i < 16 → inK .u32 (R i)) (hk : chkV 57 A B C I = 0) : evCall cfc (n+40) 6 [.agg (regs R F pc).toArray, .agg #[.int .i64 57, .int .i64 A, .int .i64 B, .int .i64 C, .int .i64 I], .int .u64 ld] H = some (.ret (.bool true), H) := by
  obtain ⟨hA, hB, hC, hI⟩ := chk_rng (f := 11) (a := 15) (b := 7) (c := 7) rfl rfl rfl rfl hk
  have hA2 : 0 ≤ A ∧ A < 16 := by omega
  have hB2 : 0 ≤ B ∧ B < 8 := by omega
  have hC2 : 0 ≤ C ∧ C < 8 := by omega
  obtain rfl := hI rfl
  exact one_reg n H R F pc 57 A B C 0 ld _ _ hA2 (fun n H => done_57 (n+6) H R F pc A B C ld hA2 hB2 hC2 hk) (Or.inr (Or.inr (Or.inr ⟨by decide, by decide, by decide, by decide, rfl⟩)))
theorem ex_58 (n : Nat) (H : Hp) (R F : Nat → Int) (pc A B C I ld : Int) (hR : ∀ i, i < 16 → inK .u32 (R i)) (hk : chkV 58 A B C I = 0) : evCall cfc (n+40) 6 [.agg (regs R F pc).toArray, .agg #[.int .i64 58, .int .i64 A, .int .i64 B, .int .i64 C, .int .i64 I], .int .u64 ld] H = some (.ret (.bool true), H) := by
  obtain ⟨hA, hB, hC, hI⟩ := chk_rng (f := 12) (a := 15) (b := 7) (c := 0) rfl rfl rfl rfl hk
  have hA2 : 0 ≤ A ∧ A < 16 := by omega
  have hB2 : 0 ≤ B ∧ B < 8 := by omega
  obtain rfl : C = 0 := by omega
  obtain rfl := hI rfl
  exact one_reg n H R F pc 58 A B 0 0 ld _ _ hA2 (fun n H => done_58 (n+6) H R F pc A B ld hA2 hB2 hk) (Or.inr (Or.inr (Or.inr ⟨by decide, by decide, by decide, by decide, rfl⟩)))
theorem ex_59 (n : Nat) (H : Hp) (R F : Nat → Int) (pc A B C I ld : Int) (hR : ∀ i, i < 16 → inK .u32 (R i)) (hk : chkV 59 A B C I = 0) : evCall cfc (n+40) 6 [.agg (regs R F pc).toArray, .agg #[.int .i64 59, .int .i64 A, .int .i64 B, .int .i64 C, .int .i64 I], .int .u64 ld] H = some (.ret (.bool true), H) := by
  obtain ⟨hA, hB, hC, hI⟩ := chk_rng (f := 13) (a := 7) (b := 15) (c := 0) rfl rfl rfl rfl hk
  have hA2 : 0 ≤ A ∧ A < 8 := by omega
  have hB2 : 0 ≤ B ∧ B < 16 := by omega
  obtain rfl : C = 0 := by omega
  obtain rfl := hI rfl
  exact one_flt n H R F pc 59 A B 0 0 ld _ hA2 (by decide) (by decide) (by decide) (by decide) (fun n H => done_59 (n+6) H R F pc A B ld hA2 hB2 hk)
theorem ex_60 (n : Nat) (H : Hp) (R F : Nat → Int) (pc A B C I ld : Int) (hR : ∀ i, i < 16 → inK .u32 (R i)) (hk : chkV 60 A B C I = 0) : evCall cfc (n+40) 6 [.agg (regs R F pc).toArray, .agg #[.int .i64 60, .int .i64 A, .int .i64 B, .int .i64 C, .int .i64 I], .int .u64 ld] H = some (.ret (.bool true), H) := by
  obtain ⟨hA, hB, hC, hI⟩ := chk_rng (f := 12) (a := 15) (b := 7) (c := 0) rfl rfl rfl rfl hk
  have hA2 : 0 ≤ A ∧ A < 16 := by omega
  have hB2 : 0 ≤ B ∧ B < 8 := by omega
  obtain rfl : C = 0 := by omega
  obtain rfl := hI rfl
  exact one_reg n H R F pc 60 A B 0 0 ld _ _ hA2 (fun n H => done_60 (n+6) H R F pc A B ld hA2 hB2 hk) (Or.inr (Or.inr (Or.inr ⟨by decide, by decide, by decide, by decide, rfl⟩)))
theorem ex_61 (n : Nat) (H : Hp) (R F : Nat → Int) (pc A B C I ld : Int) (hR : ∀ i, i < 16 → inK .u32 (R i)) (hk : chkV 61 A B C I = 0) : evCall cfc (n+40) 6 [.agg (regs R F pc).toArray, .agg #[.int .i64 61, .int .i64 A, .int .i64 B, .int .i64 C, .int .i64 I], .int .u64 ld] H = some (.ret (.bool true), H) := by
  obtain ⟨hA, hB, hC, hI⟩ := chk_rng (f := 12) (a := 15) (b := 7) (c := 0) rfl rfl rfl rfl hk
  have hA2 : 0 ≤ A ∧ A < 16 := by omega
  have hB2 : 0 ≤ B ∧ B < 8 := by omega
  obtain rfl : C = 0 := by omega
  obtain rfl := hI rfl
  exact one_reg n H R F pc 61 A B 0 0 ld _ _ hA2 (fun n H => done_61 (n+6) H R F pc A B ld hA2 hB2 hk) (Or.inr (Or.inr (Or.inr ⟨by decide, by decide, by decide, by decide, rfl⟩)))
theorem ex_62 (n : Nat) (H : Hp) (R F : Nat → Int) (pc A B C I ld : Int) (hR : ∀ i, i < 16 → inK .u32 (R i)) (hk : chkV 62 A B C I = 0) : evCall cfc (n+40) 6 [.agg (regs R F pc).toArray, .agg #[.int .i64 62, .int .i64 A, .int .i64 B, .int .i64 C, .int .i64 I], .int .u64 ld] H = some (.ret (.bool true), H) := by
  obtain ⟨hA, hB, hC, hI⟩ := chk_rng (f := 12) (a := 15) (b := 7) (c := 0) rfl rfl rfl rfl hk
  have hA2 : 0 ≤ A ∧ A < 16 := by omega
  have hB2 : 0 ≤ B ∧ B < 8 := by omega
  obtain rfl : C = 0 := by omega
  obtain rfl := hI rfl
  exact one_reg n H R F pc 62 A B 0 0 ld _ _ hA2 (fun n H => done_62 (n+6) H R F pc A B ld hA2 hB2 hk) (Or.inr (Or.inr (Or.inr ⟨by decide, by decide, by decide, by decide, rfl⟩)))
theorem ex_63 (n : Nat) (H : Hp) (R F : Nat → Int) (pc A B C I ld : Int) (hR : ∀ i, i < 16 → inK .u32 (R i)) (hk : chkV 63 A B C I = 0) : evCall cfc (n+40) 6 [.agg (regs R F pc).toArray, .agg #[.int .i64 63, .int .i64 A, .int .i64 B, .int .i64 C, .int .i64 I], .int .u64 ld] H = some (.ret (.bool true), H) := by
  obtain ⟨hA, hB, hC, hI⟩ := chk_rng (f := 14) (a := 7) (b := 15) (c := 15) rfl rfl rfl rfl hk
  have hA2 : 0 ≤ A ∧ A < 8 := by omega
  have hB2 : 0 ≤ B ∧ B < 16 := by omega
  have hC2 : 0 ≤ C ∧ C < 16 := by omega
  obtain rfl := hI rfl
  exact one_flt n H R F pc 63 A B C 0 ld _ hA2 (by decide) (by decide) (by decide) (by decide) (fun n H => done_63 (n+6) H R F pc A B C ld hA2 hB2 hC2 hk)
theorem ex_64 (n : Nat) (H : Hp) (R F : Nat → Int) (pc A B C I ld : Int) (hR : ∀ i, i < 16 → inK .u32 (R i)) (hk : chkV 64 A B C I = 0) : evCall cfc (n+40) 6 [.agg (regs R F pc).toArray, .agg #[.int .i64 64, .int .i64 A, .int .i64 B, .int .i64 C, .int .i64 I], .int .u64 ld] H = some (.ret (.bool true), H) := by
  obtain ⟨hA, hB, hC, hI⟩ := chk_rng (f := 1) (a := 0) (b := 0) (c := 0) rfl rfl rfl rfl hk
  obtain rfl : A = 0 := by omega
  obtain rfl : B = 0 := by omega
  obtain rfl : C = 0 := by omega
  obtain rfl := hI rfl
  exact one_same n H R F pc 64 0 0 0 0 ld _ (by omega) (fun n H => done_64 (n+6) H R F pc ld) (Or.inr (Or.inr (Or.inl ⟨by decide, by decide, by decide, by decide, trivial, rfl⟩)))
theorem ex_65 (n : Nat) (H : Hp) (R F : Nat → Int) (pc A B C I ld : Int) (hR : ∀ i, i < 16 → inK .u32 (R i)) (hk : chkV 65 A B C I = 0) : evCall cfc (n+40) 6 [.agg (regs R F pc).toArray, .agg #[.int .i64 65, .int .i64 A, .int .i64 B, .int .i64 C, .int .i64 I], .int .u64 ld] H = some (.ret (.bool true), H) := by
  obtain ⟨hA, hB, hC, hI⟩ := chk_rng (f := 1) (a := 0) (b := 0) (c := 0) rfl rfl rfl rfl hk
  obtain rfl : A = 0 := by omega
  obtain rfl : B = 0 := by omega
  obtain rfl : C = 0 := by omega
  obtain rfl := hI rfl
  exact one_same n H R F pc 65 0 0 0 0 ld _ (by omega) (fun n H => done_65 (n+6) H R F pc ld) (Or.inr (Or.inr (Or.inl ⟨by decide, by decide, by decide, by decide, trivial, rfl⟩)))
theorem ex_66 (n : Nat) (H : Hp) (R F : Nat → Int) (pc A B C I ld : Int) (hR : ∀ i, i < 16 → inK .u32 (R i)) (hk : chkV 66 A B C I = 0) : evCall cfc (n+40) 6 [.agg (regs R F pc).toArray, .agg #[.int .i64 66, .int .i64 A, .int .i64 B, .int .i64 C, .int .i64 I], .int .u64 ld] H = some (.ret (.bool true), H) := by
  obtain ⟨hA, hB, hC, hI⟩ := chk_rng (f := 1) (a := 0) (b := 0) (c := 0) rfl rfl rfl rfl hk
  obtain rfl : A = 0 := by omega
  obtain rfl : B = 0 := by omega
  obtain rfl : C = 0 := by omega
  obtain rfl := hI rfl
  exact one_same n H R F pc 66 0 0 0 0 ld _ (by omega) (fun n H => done_66 (n+6) H R F pc ld) (Or.inr (Or.inr (Or.inl ⟨by decide, by decide, by decide, by decide, trivial, rfl⟩)))
theorem ex_67 (n : Nat) (H : Hp) (R F : Nat → Int) (pc A B C I ld : Int) (hR : ∀ i, i < 16 → inK .u32 (R i)) (hk : chkV 67 A B C I = 0) : evCall cfc (n+40) 6 [.agg (regs R F pc).toArray, .agg #[.int .i64 67, .int .i64 A, .int .i64 B, .int .i64 C, .int .i64 I], .int .u64 ld] H = some (.ret (.bool true), H) := by
  obtain ⟨hA, hB, hC, hI⟩ := chk_rng (f := 1) (a := 0) (b := 0) (c := 0) rfl rfl rfl rfl hk
  obtain rfl : A = 0 := by omega
  obtain rfl : B = 0 := by omega
  obtain rfl : C = 0 := by omega
  obtain rfl := hI rfl
  exact one_same n H R F pc 67 0 0 0 0 ld _ (by omega) (fun n H => done_67 (n+6) H R F pc ld) (Or.inr (Or.inr (Or.inl ⟨by decide, by decide, by decide, by decide, trivial, rfl⟩)))
theorem ex_68 (n : Nat) (H : Hp) (R F : Nat → Int) (pc A B C I ld : Int) (hR : ∀ i, i < 16 → inK .u32 (R i)) (hk : chkV 68 A B C I = 0) : evCall cfc (n+40) 6 [.agg (regs R F pc).toArray, .agg #[.int .i64 68, .int .i64 A, .int .i64 B, .int .i64 C, .int .i64 I], .int .u64 ld] H = some (.ret (.bool true), H) := by
  obtain ⟨hA, hB, hC, hI⟩ := chk_rng (f := 15) (a := 15) (b := 0) (c := 0) rfl rfl rfl rfl hk
  have hA2 : 0 ≤ A ∧ A < 16 := by omega
  obtain rfl : B = 0 := by omega
  obtain rfl : C = 0 := by omega
  exact one_same n H R F pc 68 A 0 0 I ld _ (by omega) (fun n H => done_68 (n+6) H R F pc A I ld hk) (Or.inr (Or.inr (Or.inl ⟨by decide, by decide, by decide, by decide, trivial, rfl⟩)))
theorem ex_69 (n : Nat) (H : Hp) (R F : Nat → Int) (pc A B C I ld : Int) (hR : ∀ i, i < 16 → inK .u32 (R i)) (hk : chkV 69 A B C I = 0) : evCall cfc (n+40) 6 [.agg (regs R F pc).toArray, .agg #[.int .i64 69, .int .i64 A, .int .i64 B, .int .i64 C, .int .i64 I], .int .u64 ld] H = some (.ret (.bool true), H) := by
  obtain ⟨hA, hB, hC, hI⟩ := chk_rng (f := 15) (a := 15) (b := 0) (c := 0) rfl rfl rfl rfl hk
  have hA2 : 0 ≤ A ∧ A < 16 := by omega
  obtain rfl : B = 0 := by omega
  obtain rfl : C = 0 := by omega
  exact one_same n H R F pc 69 A 0 0 I ld _ (by omega) (fun n H => done_69 (n+6) H R F pc A I ld hk) (Or.inr (Or.inr (Or.inl ⟨by decide, by decide, by decide, by decide, trivial, rfl⟩)))
theorem ex_70 (n : Nat) (H : Hp) (R F : Nat → Int) (pc A B C I ld : Int) (hR : ∀ i, i < 16 → inK .u32 (R i)) (hk : chkV 70 A B C I = 0) : evCall cfc (n+40) 6 [.agg (regs R F pc).toArray, .agg #[.int .i64 70, .int .i64 A, .int .i64 B, .int .i64 C, .int .i64 I], .int .u64 ld] H = some (.ret (.bool true), H) := by
  obtain ⟨hA, hB, hC, hI⟩ := chk_rng (f := 1) (a := 0) (b := 0) (c := 0) rfl rfl rfl rfl hk
  obtain rfl : A = 0 := by omega
  obtain rfl : B = 0 := by omega
  obtain rfl : C = 0 := by omega
  obtain rfl := hI rfl
  exact one_same n H R F pc 70 0 0 0 0 ld _ (by omega) (fun n H => done_70 (n+6) H R F pc ld) (Or.inr (Or.inr (Or.inl ⟨by decide, by decide, by decide, by decide, trivial, rfl⟩)))
theorem ex_71 (n : Nat) (H : Hp) (R F : Nat → Int) (pc A B C I ld : Int) (hR : ∀ i, i < 16 → inK .u32 (R i)) (hk : chkV 71 A B C I = 0) : evCall cfc (n+40) 6 [.agg (regs R F pc).toArray, .agg #[.int .i64 71, .int .i64 A, .int .i64 B, .int .i64 C, .int .i64 I], .int .u64 ld] H = some (.ret (.bool true), H) := by
  obtain ⟨hA, hB, hC, hI⟩ := chk_rng (f := 1) (a := 0) (b := 0) (c := 0) rfl rfl rfl rfl hk
  obtain rfl : A = 0 := by omega
  obtain rfl : B = 0 := by omega
  obtain rfl : C = 0 := by omega
  obtain rfl := hI rfl
  exact one_same n H R F pc 71 0 0 0 0 ld _ (by omega) (fun n H => done_71 (n+6) H R F pc ld) (Or.inr (Or.inr (Or.inl ⟨by decide, by decide, by decide, by decide, trivial, rfl⟩)))
theorem v6 (n : Nat) (H : Hp) (R F : Nat → Int) (pc op A B C I ld : Int) (hR : ∀ i, i < 16 → inK .u32 (R i)) (hF : ∀ i, i < 8 → inK .u64 (F i)) (hpc : 0 ≤ pc ∧ pc < 4294967296) (hld : inK .u64 ld) : evCall cfc (n+40) 6 [.agg (regs R F pc).toArray, .agg #[.int .i64 op, .int .i64 A, .int .i64 B, .int .i64 C, .int .i64 I], .int .u64 ld] H = some (.ret (.bool true), H) := by
  by_cases hk : chkV op A B C I = 0
  · by_cases ho : 0 ≤ op ∧ op < 72
    · revert hk
      refine all72 (P := fun op => chkV op A B C I = 0 → evCall cfc (n+40) 6 [.agg (regs R F pc).toArray, .agg #[.int .i64 op, .int .i64 A, .int .i64 B, .int .i64 C, .int .i64 I], .int .u64 ld] H = some (.ret (.bool true), H)) (fun hk => ?_) (ex_1 n H R F pc A B C I ld hR) (ex_2 n H R F pc A B C I ld hR) (ex_3 n H R F pc A B C I ld hR) (ex_4 n H R F pc A B C I ld hR) (ex_5 n H R F pc A B C I ld hR) (ex_6 n H R F pc A B C I ld hR) (ex_7 n H R F pc A B C I ld hR) (ex_8 n H R F pc A B C I ld hR) (ex_9 n H R F pc A B C I ld hR) (ex_10 n H R F pc A B C I ld hR) (ex_11 n H R F pc A B C I ld hR) (ex_12 n H R F pc A B C I ld hR) (ex_13 n H R F pc A B C I ld hR) (ex_14 n H R F pc A B C I ld hR) (ex_15 n H R F pc A B C I ld hR) (ex_16 n H R F pc A B C I ld hR) (ex_17 n H R F pc A B C I ld hR) (ex_18 n H R F pc A B C I ld hR) (ex_19 n H R F pc A B C I ld hR) (ex_20 n H R F pc A B C I ld hR) (ex_21 n H R F pc A B C I ld hR) (ex_22 n H R F pc A B C I ld hR) (ex_23 n H R F pc A B C I ld hR) (ex_24 n H R F pc A B C I ld hR) (ex_25 n H R F pc A B C I ld hR) (ex_26 n H R F pc A B C I ld hR) (ex_27 n H R F pc A B C I ld hR) (ex_28 n H R F pc A B C I ld hR) (ex_29 n H R F pc A B C I ld hR) (ex_30 n H R F pc A B C I ld hR) (ex_31 n H R F pc A B C I ld hR) (ex_32 n H R F pc A B C I ld hR) (ex_33 n H R F pc A B C I ld hR) (ex_34 n H R F pc A B C I ld hR) (ex_35 n H R F pc A B C I ld hR) (ex_36 n H R F pc A B C I ld hR) (ex_37 n H R F pc A B C I ld hR) (ex_38 n H R F pc A B C I ld hR) (ex_39 n H R F pc A B C I ld hR) (ex_40 n H R F pc A B C I ld hR) (ex_41 n H R F pc A B C I ld hR) (ex_42 n H R F pc A B C I ld hR) (ex_43 n H R F pc A B C I ld hR) (ex_44 n H R F pc A B C I ld hR) (ex_45 n H R F pc A B C I ld hR) (ex_46 n H R F pc A B C I ld hR) (ex_47 n H R F pc A B C I ld hR) (ex_48 n H R F pc A B C I ld hR) (ex_49 n H R F pc A B C I ld hR) (ex_50 n H R F pc A B C I ld hR) (ex_51 n H R F pc A B C I ld hR) (ex_52 n H R F pc A B C I ld hR) (ex_53 n H R F pc A B C I ld hR) (ex_54 n H R F pc A B C I ld hR) (ex_55 n H R F pc A B C I ld hR) (ex_56 n H R F pc A B C I ld hR) (ex_57 n H R F pc A B C I ld hR) (ex_58 n H R F pc A B C I ld hR) (ex_59 n H R F pc A B C I ld hR) (ex_60 n H R F pc A B C I ld hR) (ex_61 n H R F pc A B C I ld hR) (ex_62 n H R F pc A B C I ld hR) (ex_63 n H R F pc A B C I ld hR) (ex_64 n H R F pc A B C I ld hR) (ex_65 n H R F pc A B C I ld hR) (ex_66 n H R F pc A B C I ld hR) (ex_67 n H R F pc A B C I ld hR) (ex_68 n H R F pc A B C I ld hR) (ex_69 n H R F pc A B C I ld hR) (ex_70 n H R F pc A B C I ld hR) (ex_71 n H R F pc A B C I ld hR) op ho
      exact absurd hk (by rw [chkV, if_pos (show formV 0 = 0 from rfl)]; decide)
    · have : formV op = 0 := by simp only [formV, tabI, if_neg ho]
      rw [chkV, if_pos this] at hk
      exact absurd hk (by decide)
  · exact one_trap n H R F pc op A B C I ld 1 0 (fun n H => done_bad (n+6) H R F pc op A B C I ld hk) (Or.inl ⟨rfl, rfl⟩)
end Go.Proofs.YthenglaoolmajaaDoor
