/- The law ExecStores: what is stored comes back. -/
import Derived.Test.YthenglaoolmajaaDoorExecC
import Derived.Test.YthenglaoolmajaaDoorExecLa
import Derived.Test.YthenglaoolmajaaDoorEvRegs
namespace Go.Proofs.YthenglaoolmajaaDoor
open Go Go.Ev
set_option maxRecDepth 100000
set_option linter.unusedSimpArgs false
set_option linter.unusedVariables false
set_option maxHeartbeats 4000000
set_option linter.unusedSectionVars false
variable [Xt]
attribute [local congr] bind_front callK_front jn_front ifB_front ifG_front lp_front
theorem q7 (n : Nat) (x0 x1 x2 x3 : Value) (hx0 : flat x0 = true) (hx1 : flat x1 = true) (hx2 : flat x2 = true) (hx3 : flat x3 = true) (H : Hp) : evCall cfc (n+1) 7 [x0, x1, x2, x3] H = floorR H (s7 (evCall cfc n) n x0 x1 x2 x3 Hp.fl) := by
  rw [evCall_quiet (fn := Tryd.f7) (by rfl) Tryd.func7 (by rfl) (by simp [hx0, hx1, hx2, hx3])]
  exact congrArg (floorR H) (s7_eq _ _ _ _ _ _ _)
theorem ofInt_nat64 (n : Nat) (h : n < 18446744073709551616) : (BitVec.ofInt 64 (n : Int)).toNat = n := ofInt_nat n 64 h
theorem andK64_low (x : Int) (k : Nat) (hk : k < 64) (h : 0 ≤ x ∧ x < 18446744073709551616) : andK .u64 x (2 ^ k - 1) = x % 2 ^ k := by
  obtain ⟨n, rfl⟩ := Int.eq_ofNat_of_zero_le h.1
  have h1 := ofInt_nat64 n (by omega)
  have hp : (2 : Nat) ^ k < 2 ^ 64 := Nat.pow_lt_pow_right (by decide) hk
  have hp0 : (0 : Nat) < 2 ^ k := Nat.two_pow_pos k
  have e : (2 : Int) ^ k - 1 = ((2 ^ k - 1 : Nat) : Int) := by
    rw [Int.natCast_sub (by omega)]
    simp
  have h2 := ofInt_nat64 (2 ^ k - 1) (by omega)
  show IntKind.u64.wrap (((BitVec.ofInt 64 (n : Int) &&& BitVec.ofInt 64 ((2 : Int) ^ k - 1)).toNat : Nat) : Int) = _
  rw [BitVec.toNat_and, e, h1, h2, Nat.and_two_pow_sub_one_eq_mod]
  have h3 : n % 2 ^ k ≤ n := Nat.mod_le _ _
  rw [IntWalk.u64_in _ (by omega)]
  simp
theorem andK32_low (x : Int) (k : Nat) (hk : k ≤ 32) (h : 0 ≤ x ∧ x < 4294967296) : andK .u32 x (2 ^ k - 1) = x % 2 ^ k := by
  obtain ⟨n, rfl⟩ := Int.eq_ofNat_of_zero_le h.1
  have hp : (2 : Nat) ^ k ≤ 2 ^ 32 := Nat.pow_le_pow_right (by decide) hk
  have hp0 : (0 : Nat) < 2 ^ k := Nat.two_pow_pos k
  have e : (2 : Int) ^ k - 1 = ((2 ^ k - 1 : Nat) : Int) := by
    rw [Int.natCast_sub (by omega)]
    simp
  rw [e, andK_nat _ _ (by omega) (by omega), Nat.and_two_pow_sub_one_eq_mod]
  simp
theorem chk_mem (op A B I m f : Int) (hf : formV op = f) (hm : f = 5 ∧ m = 16 ∨ f = 6 ∧ m = 8) (hl : lowV op = -32768) (hh : highV op = 32767) (hA : 0 ≤ A ∧ A < m) (hB : 0 ≤ B ∧ B < 16) (hI : -32768 ≤ I ∧ I ≤ 32767) : chkV op A B 0 I = 0 := by
  rcases hm with ⟨rfl, rfl⟩ | ⟨rfl, rfl⟩
  · simp only [chkV, okF, hf, hl, hh, mxA_5, mxB_5, mxC_5, hasF_5, cond_true]
    rw [if_neg (by omega), if_pos (by omega)]
  · simp only [chkV, okF, hf, hl, hh, mxA_6, mxB_6, mxC_6, hasF_6, cond_true]
    rw [if_neg (by omega), if_pos (by omega)]
theorem st_word (x : Int) (h : 0 ≤ x ∧ x < 4294967296) : IntKind.wrap .u32 (andK .u64 (IntKind.wrap .u64 x) (IntKind.wrap .u64 (shlK .u64 1 32 - 1))) = andK .u32 x 4294967295 := by
  rw [show IntKind.wrap .u64 (shlK .u64 1 32 - 1) = 2 ^ 32 - 1 from by decide, show (4294967295 : Int) = 2 ^ 32 - 1 from by decide, IntWalk.u64_in x (by omega), andK64_low x 32 (by decide) (by omega), andK32_low x 32 (by decide) h]
  exact IntWalk.u32_in _ (by omega)
theorem st_half (x : Int) (h : 0 ≤ x ∧ x < 4294967296) : shrK .u32 (shlK .u32 (IntKind.wrap .u32 (andK .u64 (IntKind.wrap .u64 x) (IntKind.wrap .u64 (shlK .u64 1 16 - 1)))) 16) 16 = andK .u32 x 65535 := by
  rw [show IntKind.wrap .u64 (shlK .u64 1 16 - 1) = 2 ^ 16 - 1 from by decide, show (65535 : Int) = 2 ^ 16 - 1 from by decide, IntWalk.u64_in x (by omega), andK64_low x 16 (by decide) (by omega), andK32_low x 16 (by decide) h]
  have e : (2 : Int) ^ 16 = 65536 := by decide
  rw [e, IntWalk.u32_in _ (by omega)]
  show ((IntKind.u32.wrap ((x % 65536) * 2 ^ 16)).fdiv (2 ^ 16)) = _
  rw [e, IntWalk.u32_in _ (by omega), Int.fdiv_eq_ediv_of_nonneg _ (by decide)]
  omega
theorem st_byte (x : Int) (h : 0 ≤ x ∧ x < 4294967296) : shrK .u32 (shlK .u32 (IntKind.wrap .u32 (andK .u64 (IntKind.wrap .u64 x) (IntKind.wrap .u64 (shlK .u64 1 8 - 1)))) 24) 24 = andK .u32 x 255 := by
  rw [show IntKind.wrap .u64 (shlK .u64 1 8 - 1) = 2 ^ 8 - 1 from by decide, show (255 : Int) = 2 ^ 8 - 1 from by decide, IntWalk.u64_in x (by omega), andK64_low x 8 (by decide) (by omega), andK32_low x 8 (by decide) h]
  have e : (2 : Int) ^ 8 = 256 := by decide
  have e2 : (2 : Int) ^ 24 = 16777216 := by decide
  rw [e, IntWalk.u32_in _ (by omega)]
  show ((IntKind.u32.wrap ((x % 256) * 2 ^ 24)).fdiv (2 ^ 24)) = _
  rw [e2, IntWalk.u32_in _ (by omega), Int.fdiv_eq_ediv_of_nonneg _ (by decide)]
  omega
theorem v7 (n : Nat) (H : Hp) (R F : Nat → Int) (pc a f m : Int) (hR : ∀ i, i < 16 → inK .u32 (R i)) (hF : ∀ i, i < 8 → inK .u64 (F i)) (hpc : 0 ≤ pc ∧ pc < 4294967296) : evCall cfc (n+40) 7 [.agg (regs R F pc).toArray, .int .i64 a, .int .i64 f, .int .i64 m] H = some (.ret (.bool true), H) := by
  rw [q7 (n+39) _ _ _ _ (regs_flat _ _ _) rfl rfl rfl H]
  obtain ⟨A, eA⟩ : ∃ A, IntKind.wrap .i64 ((IntKind.wrap .u64 a).tmod 16) = A := ⟨_, rfl⟩
  obtain ⟨G, eG⟩ : ∃ G, IntKind.wrap .i64 ((IntKind.wrap .u64 f).tmod 8) = G := ⟨_, rfl⟩
  obtain ⟨I, eI⟩ : ∃ I, IntKind.wrap .i64 (IntKind.wrap .i64 ((IntKind.wrap .u64 m).tmod 65536) - 32768) = I := ⟨_, rfl⟩
  have hA : 0 ≤ A ∧ A < 16 := eA ▸ low_field a 16 (by omega)
  have hG : 0 ≤ G ∧ G < 8 := eG ▸ low_field f 8 (by omega)
  have hI : -32768 ≤ I ∧ I ≤ 32767 := eI ▸ imm_field m
  obtain ⟨b, eb⟩ : ∃ b, (IntKind.wrap .i64 (A + 1)).tmod 16 = b := ⟨_, rfl⟩
  have hb' : b = (A + 1) % 16 := by
    rw [← eb, IntWalk.i64_in _ (by omega), Int.tmod_eq_emod_of_nonneg (by omega)]
  have hb : 0 ≤ b ∧ b < 16 := by omega
  have b0 : (0 ≤ b) = True := eq_true hb.1
  have b1 : (b < 16) = True := eq_true hb.2
  have b2 : (b.toNat < 16) = True := eq_true (by omega)
  have b3 : (b.toNat + 1 ≤ 25) = True := eq_true (by omega)
  have b4 : (b.toNat + 1 ≤ 33) = True := eq_true (by omega)
  have a0 : (0 ≤ A) = True := eq_true hA.1
  have a1 : (A < 16) = True := eq_true hA.2
  have a2 : (A.toNat < 16) = True := eq_true (by omega)
  have g0 : (0 ≤ G) = True := eq_true hG.1
  have g1 : (G < 8) = True := eq_true hG.2
  have g2 : (G.toNat < 8) = True := eq_true (by omega)
  by_cases hz : b = 0
  · simp -implicitDefEqProofs only [s7, v24, tabs_gn, ↓someB, ↓callK_ret, ↓ifB_t, ↓ifB_f, ↓ifB_dec, ↓ifG_tt, ↓ifG_ff, ↓ifG_tf, ↓ifG_ft, ↓ifG_undef, ↓ifG_dt, ↓ifG_df, ↓jn_nrm, ↓jn_ex, ↓jn_rt, ↓jn_ite, ↓callK_ite, ↓bind_ite, bin_add, bin_sub, bin_mul, bin_quo, bin_rem, kin_and, kin_or, kin_xor, kin_andNot, bin_eql, bin_neq, bin_lss, bin_leq, bin_gtr, bin_geq, kin_shl, kin_shr, bin_beq, bin_bne, bin_seq, bin_sne, un_not, un_neg, cvI_int, ptr_def, fa_ptr, nilc_ptr, ia_ptr, sa_ptr, fld_agg, fld_one, ix_one, ix_agg, ext1_tuple, ld_ptr, ldN_ptr, pick_t, pick_f, pick_dec, bx_int, bx_bool, bx_str, bx_agg, ifB_t, ifB_f, ifB_dec, ifG_tt, ifG_ff, ifG_tf, ifG_ft, ifG_undef, ifG_dt, ifG_df, not_dec, jn_nrm, jn_ex, jn_rt, jn_ite, lp_succ, callK_ret, callK_ite, bind_ite, someB, len_str, len_sl, pl_get, plA_get, beqA_eql, beqA_neq, seqS_nil, seqS_int, seqS_bool, fillL_nil, fillL_cons, cells_new, cells_set, next_fl, lim_fl, floorR_ret, floorR_ite, Hp.next_new, Hp.next_set, Hp.lim_new, Hp.lim_set, goInt, splice, okC, List.getD_cons_zero, List.getD_cons_succ, List.getElem?_cons_zero, List.getElem?_cons_succ, List.length_cons, List.length_nil, List.set_cons_zero, List.set_cons_succ, List.all_cons, List.all_nil, List.getElem?_toArray, Option.bind_some, Option.bind_none, Fr.of, Fr.ofI, Fr.g, cond_true, cond_false, if_true, if_false, Nat.reduceAdd, Nat.reduceMul, Nat.reduceEqDiff, Nat.reduceLT, Nat.reduceLeDiff, Nat.reduceBEq, Int.reduceLT, Int.reduceLE, Int.reduceToNat, Int.reduceAdd, Int.reduceSub, Int.reduceMul, Int.reduceEq, Int.reduceNeg, Int.cast_ofNat_Int, Nat.zero_add, Nat.add_zero, Nat.mul_one, decide_true, decide_false, and_true, true_and, and_self, ↓reduceIte, ↓reduceDIte, Bool.true_and, Bool.and_true, Bool.false_and, Bool.and_false, Bool.not_true, Bool.not_false, not_true_eq_false, not_false_eq_true, Nat.beq, reduceCtorEq, Value.int.injEq, List.drop_zero, List.drop_succ_cons, List.take_succ_cons, List.take_zero, List.take_nil, List.size_toArray, toL_toA, cl_opn, new_opn, set_opn, opn_opn, fl_opn, next_opn, lim_opn, cells_opn, rwc_opn, rwc_new, rwc_set, sto_ptr, app_get, app_R, app_F, app_pc, app_set, app_setR, app_setF, app_setPc, app_length, app_take, app_drop, app_all, rdA_ptr, memN_nil, memN_cons, List.nil_append, List.cons_append, Option.map_some, regs_take, regs_drop, regs_take16, app_take16, row16_self, regs_self, splice_regs, regs_append_nil, regs_length, regs_R, regs_F, regs_pc, regs_setR, regs_setF, regs_setPc, regs_okC, regs_flat, Nat.reduceSub, flat_bool, eA, eG, eI, eb, hz]
  have hz' : (b = 0) = False := eq_false hz
  obtain ⟨R1, e1⟩ : ∃ R1, upd (upd R 0 0) b.toNat (IntKind.wrap .u32 (IntKind.wrap .u32 (0 - IntKind.wrap .u32 I) + 64)) = R1 := ⟨_, rfl⟩
  have hR0 : R1 0 = 0 := by
    rw [← e1]
    simp only [upd]
    rw [if_neg (by omega)]
    simp
  have eR : upd R1 0 0 = R1 := by
    funext j
    simp only [upd]
    split
    · rename_i h; subst h; exact hR0.symm
    · rfl
  have hRA : 0 ≤ R1 A.toNat ∧ R1 A.toNat < 4294967296 := by
    rw [← e1]
    simp only [upd]
    rw [if_neg (by omega)]
    split
    · omega
    · have := hR A.toNat (by omega)
      have h1 : 0 ≤ R A.toNat := this.1
      have h2 : R A.toNat ≤ 4294967295 := this.2
      omega
  have ad : adV R1 b I = 64 := by
    unfold adV
    rw [eR, ← e1]
    have : upd (upd R 0 0) b.toNat (IntKind.wrap .u32 (IntKind.wrap .u32 (0 - IntKind.wrap .u32 I) + 64)) b.toNat = IntKind.wrap .u32 (IntKind.wrap .u32 (0 - IntKind.wrap .u32 I) + 64) := upd_same _ _ _
    rw [this]
    simp only [IntKind.wrap_u32]
    omega
  have cmp : ∀ V M : Int, V = andK .u32 (R1 A.toNat) M → (upd (upd R1 A.toNat V) 0 0 A.toNat = andK .u32 (R1 A.toNat) M) = True := by
    intro V M h
    refine eq_true ?_
    by_cases h0 : A.toNat = 0
    · rw [h0] at h ⊢
      rw [upd_same, hR0]
      rw [hR0] at h
      have : ∀ M : Int, andK .u32 0 M = 0 := fun M => by
        show IntKind.u32.wrap (((BitVec.ofInt 32 0 &&& BitVec.ofInt 32 M).toNat : Nat) : Int) = 0
        have : BitVec.ofInt 32 0 = 0#32 := by decide
        rw [this, BitVec.zero_and]
        decide
      rw [this]
    · simp only [upd, h0, if_false, if_true]
      exact h
  have k0 := cmp _ _ (st_word _ hRA)
  have k1 := cmp _ _ (st_half _ hRA)
  have k2 := cmp _ _ (st_byte _ hRA)
  have k3 : (upd F G.toNat (F G.toNat) G.toNat = F G.toNat) = True := eq_true (upd_same _ _ _)
  have al : ∀ k : Int, k = 4 ∨ k = 2 ∨ k = 1 ∨ k = 8 → ((64 : Int).tmod k = 0) = True := by
    intro k hk
    rcases hk with rfl | rfl | rfl | rfl <;> decide
  have w4 : IntKind.wrap .i64 4 = 4 := by decide
  have al4 := al 4 (by simp)
  have al2 := al 2 (by simp)
  have al1 := al 1 (by simp)
  have al8 := al 8 (by simp)
  have c33 := chk_mem 33 A b I 16 5 rfl (by simp) rfl rfl hA hb hI
  have c28 := chk_mem 28 A b I 16 5 rfl (by simp) rfl rfl hA hb hI
  have c34 := chk_mem 34 A b I 16 5 rfl (by simp) rfl rfl hA hb hI
  have c30 := chk_mem 30 A b I 16 5 rfl (by simp) rfl rfl hA hb hI
  have c35 := chk_mem 35 A b I 16 5 rfl (by simp) rfl rfl hA hb hI
  have c32 := chk_mem 32 A b I 16 5 rfl (by simp) rfl rfl hA hb hI
  have c37 := chk_mem 37 G b I 8 6 rfl (by simp) rfl rfl hG hb hI
  have c36 := chk_mem 36 G b I 8 6 rfl (by simp) rfl rfl hG hb hI
  have n33 := fun n H => need_33 n H R1 F pc A b I hA hb c33
  have n28 := fun n H => need_28 n H R1 F pc A b I hA hb c28
  have n34 := fun n H => need_34 n H R1 F pc A b I hA hb c34
  have n30 := fun n H => need_30 n H R1 F pc A b I hA hb c30
  have n35 := fun n H => need_35 n H R1 F pc A b I hA hb c35
  have n32 := fun n H => need_32 n H R1 F pc A b I hA hb c32
  have n37 := fun n H => need_37 n H R1 F pc G b I hG hb c37
  have n36 := fun n H => need_36 n H R1 F pc G b I hG hb c36
  have d28 := fun n H ld => done_28 n H R1 F pc A b I ld hA hb c28
  have d30 := fun n H ld => done_30 n H R1 F pc A b I ld hA hb c30
  have d32 := fun n H ld => done_32 n H R1 F pc A b I ld hA hb c32
  have d36 := fun n H ld => done_36 n H R1 F pc G b I ld hG hb c36
  simp -implicitDefEqProofs only [s7, v24, tabs_gn, ↓someB, ↓callK_ret, ↓ifB_t, ↓ifB_f, ↓ifB_dec, ↓ifG_tt, ↓ifG_ff, ↓ifG_tf, ↓ifG_ft, ↓ifG_undef, ↓ifG_dt, ↓ifG_df, ↓jn_nrm, ↓jn_ex, ↓jn_rt, ↓jn_ite, ↓callK_ite, ↓bind_ite, bin_add, bin_sub, bin_mul, bin_quo, bin_rem, kin_and, kin_or, kin_xor, kin_andNot, bin_eql, bin_neq, bin_lss, bin_leq, bin_gtr, bin_geq, kin_shl, kin_shr, bin_beq, bin_bne, bin_seq, bin_sne, un_not, un_neg, cvI_int, ptr_def, fa_ptr, nilc_ptr, ia_ptr, sa_ptr, fld_agg, fld_one, ix_one, ix_agg, ext1_tuple, ld_ptr, ldN_ptr, pick_t, pick_f, pick_dec, bx_int, bx_bool, bx_str, bx_agg, ifB_t, ifB_f, ifB_dec, ifG_tt, ifG_ff, ifG_tf, ifG_ft, ifG_undef, ifG_dt, ifG_df, not_dec, jn_nrm, jn_ex, jn_rt, jn_ite, lp_succ, callK_ret, callK_ite, bind_ite, someB, len_str, len_sl, pl_get, plA_get, beqA_eql, beqA_neq, seqS_nil, seqS_int, seqS_bool, fillL_nil, fillL_cons, cells_new, cells_set, next_fl, lim_fl, floorR_ret, floorR_ite, Hp.next_new, Hp.next_set, Hp.lim_new, Hp.lim_set, goInt, splice, okC, List.getD_cons_zero, List.getD_cons_succ, List.getElem?_cons_zero, List.getElem?_cons_succ, List.length_cons, List.length_nil, List.set_cons_zero, List.set_cons_succ, List.all_cons, List.all_nil, List.getElem?_toArray, Option.bind_some, Option.bind_none, Fr.of, Fr.ofI, Fr.g, cond_true, cond_false, if_true, if_false, Nat.reduceAdd, Nat.reduceMul, Nat.reduceEqDiff, Nat.reduceLT, Nat.reduceLeDiff, Nat.reduceBEq, Int.reduceLT, Int.reduceLE, Int.reduceToNat, Int.reduceAdd, Int.reduceSub, Int.reduceMul, Int.reduceEq, Int.reduceNeg, Int.cast_ofNat_Int, Nat.zero_add, Nat.add_zero, Nat.mul_one, decide_true, decide_false, and_true, true_and, and_self, ↓reduceIte, ↓reduceDIte, Bool.true_and, Bool.and_true, Bool.false_and, Bool.and_false, Bool.not_true, Bool.not_false, not_true_eq_false, not_false_eq_true, Nat.beq, reduceCtorEq, Value.int.injEq, List.drop_zero, List.drop_succ_cons, List.take_succ_cons, List.take_zero, List.take_nil, List.size_toArray, toL_toA, cl_opn, new_opn, set_opn, opn_opn, fl_opn, next_opn, lim_opn, cells_opn, rwc_opn, rwc_new, rwc_set, sto_ptr, app_get, app_R, app_F, app_pc, app_set, app_setR, app_setF, app_setPc, app_length, app_take, app_drop, app_all, rdA_ptr, memN_nil, memN_cons, List.nil_append, List.cons_append, Option.map_some, regs_take, regs_drop, regs_take16, app_take16, row16_self, regs_self, splice_regs, regs_append_nil, regs_length, regs_R, regs_F, regs_pc, regs_setR, regs_setF, regs_setPc, regs_okC, regs_flat, Nat.reduceSub, flat_bool, eA, eG, eI, eb, hz', e1, b0, b1, b2, b3, b4, a0, a1, a2, g0, g1, g2, n33, n28, n34, n30, n35, n32, n37, n36, d28, d30, d32, d36, eR, ad, al4, al2, al1, al8, k0, k1, k2, k3, needT, doneT, wrap_1, wrap_2, wrap_3, w64, w4]

end Go.Proofs.YthenglaoolmajaaDoor
