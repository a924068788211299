/- The checks of an instruction. -/
import Derived.Test.YtbaooebafijenaaGreatDoorHCodeA
namespace Go.Proofs.YtbaooebafijenaaGreatDoor
open Go Go.Ev
set_option maxRecDepth 100000
set_option linter.unusedSimpArgs false
set_option linter.unusedVariables false
set_option maxHeartbeats 2000000
set_option linter.unusedSectionVars false
variable [Mx]
attribute [local congr] bind_front callK_front jn_front ifB_front ifG_front lp_front
theorem tab1 : (Hp.fl).cells 1 = some shapesC := by kernel_rfl
theorem wrap_0 : IntKind.wrap .i64 0 = 0 := by decide
theorem wrap_1 : IntKind.wrap .i64 1 = 1 := by decide
theorem wrap_2 : IntKind.wrap .i64 2 = 2 := by decide
theorem wrap_3 : IntKind.wrap .i64 3 = 3 := by decide
theorem q62 (n : Nat) (x y : Value) (H : Hp) : evCall cfc (n+1) 62 [x, y] H = s62 (evCall cfc n) n x y H := by
 rw [evCall_open (fn := Tryz.f62) (by rfl) (by rfl) Tryz.func62 (by rfl)]
 exact s62_eq _ _ _ _ _
theorem cvB_e (H : Hp) : cvB (.string ⟨#[]⟩) H = some (.slice (some ⟨H.next, 0, none⟩) 0 1, H.new (.rw [])) := (rfl)
theorem cvB_AB (H : Hp) : cvB (.string ⟨#[65, 66]⟩) H = some (.slice (some ⟨H.next, 0, none⟩) 2 1, H.new (.rw [.int .u8 65, .int .u8 66])) := (rfl)
theorem cvB_ABC (H : Hp) : cvB (.string ⟨#[65, 66, 67]⟩) H = some (.slice (some ⟨H.next, 0, none⟩) 3 1, H.new (.rw [.int .u8 65, .int .u8 66, .int .u8 67])) := (rfl)
theorem cvB_Ab (H : Hp) : cvB (.string ⟨#[65, 98]⟩) H = some (.slice (some ⟨H.next, 0, none⟩) 2 1, H.new (.rw [.int .u8 65, .int .u8 98])) := (rfl)
theorem cvB_Abc (H : Hp) : cvB (.string ⟨#[65, 98, 99]⟩) H = some (.slice (some ⟨H.next, 0, none⟩) 3 1, H.new (.rw [.int .u8 65, .int .u8 98, .int .u8 99])) := (rfl)
theorem cvB_Aib (H : Hp) : cvB (.string ⟨#[65, 105, 98]⟩) H = some (.slice (some ⟨H.next, 0, none⟩) 3 1, H.new (.rw [.int .u8 65, .int .u8 105, .int .u8 98])) := (rfl)
theorem cvB_aB (H : Hp) : cvB (.string ⟨#[97, 66]⟩) H = some (.slice (some ⟨H.next, 0, none⟩) 2 1, H.new (.rw [.int .u8 97, .int .u8 66])) := (rfl)
theorem cvB_aBC (H : Hp) : cvB (.string ⟨#[97, 66, 67]⟩) H = some (.slice (some ⟨H.next, 0, none⟩) 3 1, H.new (.rw [.int .u8 97, .int .u8 66, .int .u8 67])) := (rfl)
theorem cvB_abc (H : Hp) : cvB (.string ⟨#[97, 98, 99]⟩) H = some (.slice (some ⟨H.next, 0, none⟩) 3 1, H.new (.rw [.int .u8 97, .int .u8 98, .int .u8 99])) := (rfl)
theorem cvB_abi (H : Hp) : cvB (.string ⟨#[97, 98, 105]⟩) H = some (.slice (some ⟨H.next, 0, none⟩) 3 1, H.new (.rw [.int .u8 97, .int .u8 98, .int .u8 105])) := (rfl)
theorem cvB_ai (H : Hp) : cvB (.string ⟨#[97, 105]⟩) H = some (.slice (some ⟨H.next, 0, none⟩) 2 1, H.new (.rw [.int .u8 97, .int .u8 105])) := (rfl)
theorem cvB_aib (H : Hp) : cvB (.string ⟨#[97, 105, 98]⟩) H = some (.slice (some ⟨H.next, 0, none⟩) 3 1, H.new (.rw [.int .u8 97, .int .u8 105, .int .u8 98])) := (rfl)
theorem form_range (op : Int) : 0 ≤ formV op ∧ formV op < 16 := by
 by_cases h : 0 ≤ op ∧ op < 72
 · obtain ⟨k, rfl⟩ := Int.eq_ofNat_of_zero_le h.1
   have hk : k < 72 := by omega
   exact of_decide_eq_true (List.all_eq_true.1 (show (List.range 72).all (fun k => decide (0 ≤ formV (k : Int) ∧ formV (k : Int) < 16)) = true by kernel_rfl) k (List.mem_range.2 hk))
 · have h2 : (0 ≤ op ∧ op < 72) = False := by simp only [eq_iff_iff, iff_false]; exact h
   simp only [formV, tabI, h2, if_false]
   decide
theorem form_cases (op : Int) : formV op = 0 ∨ formV op = 1 ∨ formV op = 2 ∨ formV op = 3 ∨ formV op = 4 ∨ formV op = 5 ∨ formV op = 6 ∨ formV op = 7 ∨ formV op = 8 ∨ formV op = 9 ∨ formV op = 10 ∨ formV op = 11 ∨ formV op = 12 ∨ formV op = 13 ∨ formV op = 14 ∨ formV op = 15 := by
 have := form_range op
 omega
theorem low_other (op : Int) (h : op ≠ 19 ∧ op ≠ 20 ∧ op ≠ 21 ∧ op ≠ 27 ∧ op ≠ 22 ∧ op ≠ 23 ∧ op ≠ 24 ∧ op ≠ 68 ∧ op ≠ 69) : lowV op = -32768 ∧ highV op = 32767 := by
 by_cases h1 : 0 ≤ op ∧ op < 72
 · obtain ⟨k, rfl⟩ := Int.eq_ofNat_of_zero_le h1.1
   have hk : k < 72 := by omega
   have := of_decide_eq_true (List.all_eq_true.1 (show (List.range 72).all (fun k => decide (k = 19 ∨ k = 20 ∨ k = 21 ∨ k = 27 ∨ k = 22 ∨ k = 23 ∨ k = 24 ∨ k = 68 ∨ k = 69 ∨ lowV (k : Int) = -32768 ∧ highV (k : Int) = 32767)) = true by kernel_rfl) k (List.mem_range.2 hk))
   omega
 · have h2 : (0 ≤ op ∧ op < 72) = False := by simp only [eq_iff_iff, iff_false]; exact h1
   simp only [lowV, highV, h2, if_false, and_self]
def hasV (op : Int) : Bool := decide (formV op = 3 ∨ formV op = 4 ∨ formV op = 5 ∨ formV op = 6 ∨ formV op = 7 ∨ formV op = 8 ∨ formV op = 15)
theorem ct_e (n : Nat) (H : Hp) : evCall cfc (n+1) 63 [.string ⟨#[]⟩, .string ⟨#[105]⟩] H = some (.ret (.bool false), H) := by kernel_rfl
theorem ct_AB (n : Nat) (H : Hp) : evCall cfc (n+1) 63 [.string ⟨#[65, 66]⟩, .string ⟨#[105]⟩] H = some (.ret (.bool false), H) := by kernel_rfl
theorem ct_ABC (n : Nat) (H : Hp) : evCall cfc (n+1) 63 [.string ⟨#[65, 66, 67]⟩, .string ⟨#[105]⟩] H = some (.ret (.bool false), H) := by kernel_rfl
theorem ct_Ab (n : Nat) (H : Hp) : evCall cfc (n+1) 63 [.string ⟨#[65, 98]⟩, .string ⟨#[105]⟩] H = some (.ret (.bool false), H) := by kernel_rfl
theorem ct_Abc (n : Nat) (H : Hp) : evCall cfc (n+1) 63 [.string ⟨#[65, 98, 99]⟩, .string ⟨#[105]⟩] H = some (.ret (.bool false), H) := by kernel_rfl
theorem ct_Aib (n : Nat) (H : Hp) : evCall cfc (n+1) 63 [.string ⟨#[65, 105, 98]⟩, .string ⟨#[105]⟩] H = some (.ret (.bool true), H) := by kernel_rfl
theorem ct_aB (n : Nat) (H : Hp) : evCall cfc (n+1) 63 [.string ⟨#[97, 66]⟩, .string ⟨#[105]⟩] H = some (.ret (.bool false), H) := by kernel_rfl
theorem ct_aBC (n : Nat) (H : Hp) : evCall cfc (n+1) 63 [.string ⟨#[97, 66, 67]⟩, .string ⟨#[105]⟩] H = some (.ret (.bool false), H) := by kernel_rfl
theorem ct_abc (n : Nat) (H : Hp) : evCall cfc (n+1) 63 [.string ⟨#[97, 98, 99]⟩, .string ⟨#[105]⟩] H = some (.ret (.bool false), H) := by kernel_rfl
theorem ct_abi (n : Nat) (H : Hp) : evCall cfc (n+1) 63 [.string ⟨#[97, 98, 105]⟩, .string ⟨#[105]⟩] H = some (.ret (.bool true), H) := by kernel_rfl
theorem ct_ai (n : Nat) (H : Hp) : evCall cfc (n+1) 63 [.string ⟨#[97, 105]⟩, .string ⟨#[105]⟩] H = some (.ret (.bool true), H) := by kernel_rfl
theorem ct_aib (n : Nat) (H : Hp) : evCall cfc (n+1) 63 [.string ⟨#[97, 105, 98]⟩, .string ⟨#[105]⟩] H = some (.ret (.bool true), H) := by kernel_rfl
theorem v39 (n : Nat) (H : Hp) (op : Int) : evCall cfc (n+4) 39 [.int .i64 op] H = some (.ret (.bool (hasV op)), H) := by
 rw [q39 (n+3) _ rfl H]
 rcases form_cases op with h | h | h | h | h | h | h | h | h | h | h | h | h | h | h | h
 all_goals simp -implicitDefEqProofs only [s39, v61, tab1, shapesC, ct_e, ct_AB, ct_ABC, ct_Ab, ct_Abc, ct_Aib, ct_aB, ct_aBC, ct_abc, ct_abi, ct_ai, ct_aib, ↓someB, ↓callK_ret, ↓ifB_t, ↓ifB_f, ↓ifB_dec, ↓ifG_tt, ↓ifG_ff, ↓ifG_tf, ↓ifG_ft, ↓ifG_undef, ↓ifG_dt, ↓ifG_df, ↓jn_nrm, ↓jn_ex, ↓jn_rt, ↓jn_ite, ↓callK_ite, ↓bind_ite, bin_add, bin_sub, bin_mul, bin_quo, bin_rem, bin_and, bin_or, bin_xor, bin_andNot, bin_eql, bin_neq, bin_lss, bin_leq, bin_gtr, bin_geq, bin_shl, bin_shr, bin_beq, bin_bne, bin_seq, bin_sne, un_not, un_neg, cvI_int, ptr_def, fa_ptr, nilc_ptr, ia_ptr, sa_ptr, fld_agg, fld_one, ix_one, ix_agg, ext1_tuple, ld_ptr, ldN_ptr, st_ptr, pick_t, pick_f, pick_dec, bx_int, bx_bool, bx_str, bx_agg, ifB_t, ifB_f, ifB_dec, ifG_tt, ifG_ff, ifG_tf, ifG_ft, ifG_undef, ifG_dt, ifG_df, not_dec, jn_nrm, jn_ex, jn_rt, jn_ite, lp_succ, callK_ret, callK_ite, bind_ite, someB, len_str, len_sl, pl_get, plA_get, beqA_eql, beqA_neq, seqS_nil, seqS_int, seqS_bool, fillL_nil, fillL_cons, cells_new, cells_set, wc_new, wc_set, next_fl, lim_fl, movR_ret, movR_ite, Hp.next_new, Hp.next_set, Hp.lim_new, Hp.lim_set, goInt, splice, okC, List.getD_cons_zero, List.getD_cons_succ, List.getElem?_cons_zero, List.getElem?_cons_succ, List.length_cons, List.length_nil, List.set_cons_zero, List.set_cons_succ, List.all_cons, List.all_nil, List.getElem?_toArray, Option.bind_some, Option.bind_none, Fr.of, Fr.ofI, Fr.g, cond_true, cond_false, if_true, if_false, Nat.reduceAdd, Nat.reduceMul, Nat.reduceEqDiff, Nat.reduceLT, Nat.reduceLeDiff, Nat.reduceBEq, Int.reduceLT, Int.reduceLE, Int.reduceToNat, Int.reduceAdd, Int.reduceSub, Int.reduceMul, Int.reduceEq, Int.reduceNeg, Int.cast_ofNat_Int, Nat.zero_add, Nat.add_zero, Nat.mul_one, decide_true, decide_false, and_true, true_and, and_self, ↓reduceIte, ↓reduceDIte, Bool.true_and, Bool.and_true, Bool.false_and, Bool.and_false, Bool.not_true, Bool.not_false, not_true_eq_false, not_false_eq_true, Nat.beq, reduceCtorEq, Value.int.injEq, List.drop_zero, List.drop_succ_cons, List.take_succ_cons, List.take_zero, List.take_nil, List.size_toArray, toL_toA, flat_bool, hasV, h, or_false, or_true, false_or, true_or]
def mxA (f : Int) : Int := if 0 ≤ f ∧ f < 16 then [0, 0, 15, 15, 15, 15, 7, 15, 15, 7, 7, 15, 15, 7, 7, 15].getD f.toNat 0 else 0
def mxB (f : Int) : Int := if 0 ≤ f ∧ f < 16 then [0, 0, 15, 15, 0, 15, 15, 15, 0, 7, 7, 7, 7, 15, 15, 0].getD f.toNat 0 else 0
def mxC (f : Int) : Int := if 0 ≤ f ∧ f < 16 then [0, 0, 15, 0, 0, 0, 0, 0, 0, 7, 0, 7, 0, 0, 15, 0].getD f.toNat 0 else 0
def hasF (f : Int) : Bool := decide (f = 3 ∨ f = 4 ∨ f = 5 ∨ f = 6 ∨ f = 7 ∨ f = 8 ∨ f = 15)
theorem mxA_1 : mxA 1 = 0 := rfl
theorem mxB_1 : mxB 1 = 0 := rfl
theorem mxC_1 : mxC 1 = 0 := rfl
theorem hasF_1 : hasF 1 = false := rfl
theorem mxA_2 : mxA 2 = 15 := rfl
theorem mxB_2 : mxB 2 = 15 := rfl
theorem mxC_2 : mxC 2 = 15 := rfl
theorem hasF_2 : hasF 2 = false := rfl
theorem mxA_3 : mxA 3 = 15 := rfl
theorem mxB_3 : mxB 3 = 15 := rfl
theorem mxC_3 : mxC 3 = 0 := rfl
theorem hasF_3 : hasF 3 = true := rfl
theorem mxA_4 : mxA 4 = 15 := rfl
theorem mxB_4 : mxB 4 = 0 := rfl
theorem mxC_4 : mxC 4 = 0 := rfl
theorem hasF_4 : hasF 4 = true := rfl
theorem mxA_5 : mxA 5 = 15 := rfl
theorem mxB_5 : mxB 5 = 15 := rfl
theorem mxC_5 : mxC 5 = 0 := rfl
theorem hasF_5 : hasF 5 = true := rfl
theorem mxA_6 : mxA 6 = 7 := rfl
theorem mxB_6 : mxB 6 = 15 := rfl
theorem mxC_6 : mxC 6 = 0 := rfl
theorem hasF_6 : hasF 6 = true := rfl
theorem mxA_7 : mxA 7 = 15 := rfl
theorem mxB_7 : mxB 7 = 15 := rfl
theorem mxC_7 : mxC 7 = 0 := rfl
theorem hasF_7 : hasF 7 = true := rfl
theorem mxA_8 : mxA 8 = 15 := rfl
theorem mxB_8 : mxB 8 = 0 := rfl
theorem mxC_8 : mxC 8 = 0 := rfl
theorem hasF_8 : hasF 8 = true := rfl
theorem mxA_9 : mxA 9 = 7 := rfl
theorem mxB_9 : mxB 9 = 7 := rfl
theorem mxC_9 : mxC 9 = 7 := rfl
theorem hasF_9 : hasF 9 = false := rfl
theorem mxA_10 : mxA 10 = 7 := rfl
theorem mxB_10 : mxB 10 = 7 := rfl
theorem mxC_10 : mxC 10 = 0 := rfl
theorem hasF_10 : hasF 10 = false := rfl
theorem mxA_11 : mxA 11 = 15 := rfl
theorem mxB_11 : mxB 11 = 7 := rfl
theorem mxC_11 : mxC 11 = 7 := rfl
theorem hasF_11 : hasF 11 = false := rfl
theorem mxA_12 : mxA 12 = 15 := rfl
theorem mxB_12 : mxB 12 = 7 := rfl
theorem mxC_12 : mxC 12 = 0 := rfl
theorem hasF_12 : hasF 12 = false := rfl
theorem mxA_13 : mxA 13 = 7 := rfl
theorem mxB_13 : mxB 13 = 15 := rfl
theorem mxC_13 : mxC 13 = 0 := rfl
theorem hasF_13 : hasF 13 = false := rfl
theorem mxA_14 : mxA 14 = 7 := rfl
theorem mxB_14 : mxB 14 = 15 := rfl
theorem mxC_14 : mxC 14 = 15 := rfl
theorem hasF_14 : hasF 14 = false := rfl
theorem mxA_15 : mxA 15 = 15 := rfl
theorem mxB_15 : mxB 15 = 0 := rfl
theorem mxC_15 : mxC 15 = 0 := rfl
theorem hasF_15 : hasF 15 = true := rfl
def okF (f A B C I lo hi : Int) : Prop := (0 ≤ A ∧ A ≤ mxA f) ∧ (0 ≤ B ∧ B ≤ mxB f) ∧ (0 ≤ C ∧ C ≤ mxC f) ∧ ((bif hasF f then lo else 0) ≤ I ∧ I ≤ (bif hasF f then hi else 0))
instance (f A B C I lo hi : Int) : Decidable (okF f A B C I lo hi) := by unfold okF; infer_instance
def chkV (op A B C I : Int) : Int := if formV op = 0 then 5 else if okF (formV op) A B C I (lowV op) (highV op) then 0 else 6
end Go.Proofs.YtbaooebafijenaaGreatDoor
