/- Registers set; what a bad instruction comes to. -/
import Derived.Test.YthenglaoolmajaaDoorEvBun
import Derived.Test.YthenglaoolmajaaDoorExecE
import Derived.Test.YthenglaoolmajaaDoorExecF
namespace Go.Proofs.YthenglaoolmajaaDoor
open Go Go.Ev
set_option maxRecDepth 100000
set_option linter.unusedSimpArgs false
set_option linter.unusedVariables false
set_option maxHeartbeats 2000000
set_option linter.unusedSectionVars false
attribute [local congr] bind_front callK_front jn_front ifB_front ifG_front lp_front
theorem done_bad (n : Nat) (H : Hp) (R F : Nat → Int) (pc op A B C I ld : Int) (hk : ¬ chkV op A B C I = 0) :
    evCall cfc (n+14) 20 [.agg (regs R F pc).toArray, .agg #[.int .i64 op, .int .i64 A, .int .i64 B, .int .i64 C, .int .i64 I], .int .u64 ld] H = some (.ret (doneT (upd R 0 0) F pc 1 0), H) := by
  rw [q20 (n+13) _ _ _ (regs_flat _ _ _) rfl rfl H]
  have hk2 : (chkV op A B C I = 0) = False := eq_false hk
  simp -implicitDefEqProofs only [s20, v32, v33, tabs_gn, ↓EVdn, EVup, lp_succ, goInt, splice, okC, Fr.of, Fr.ofI, Fr.g, Nat.reduceAdd, Nat.reduceMul, Nat.reduceEqDiff, Nat.reduceLT, Nat.reduceLeDiff, Nat.reduceBEq, Int.reduceLT, Int.reduceLE, Int.reduceToNat, Int.reduceAdd, Int.reduceSub, Int.reduceMul, Int.reduceEq, Int.reduceNeg, ↓reduceIte, ↓reduceDIte, Nat.beq, reduceCtorEq, Value.int.injEq, Nat.reduceSub, flat_int, flat_bool, flat_done, regs_flat, flat_i5, hk2, upd_upd, decide_true, doneT]
theorem upd_ne (R : Nat → Int) (k j : Nat) (v : Int) (h : j ≠ k) : upd (upd (upd R 0 0) k v) 0 0 j = upd R 0 0 j := by
  simp only [upd, if_neg h]
  by_cases h0 : j = 0 <;> simp [h0]
theorem upd_at (R : Nat → Int) (k : Nat) (v : Int) (h : k ≠ 0) : upd (upd (upd R 0 0) k v) 0 0 k = v := by
  simp only [upd, if_neg h, if_pos]
theorem upd_zero (R : Nat → Int) : upd R 0 0 0 = 0 := by simp [upd]
theorem upd_same (R : Nat → Int) (k : Nat) (v : Int) (h : k = 0 ∨ v = upd R 0 0 k) : upd (upd (upd R 0 0) k v) 0 0 = upd R 0 0 := by
  funext j
  by_cases h0 : j = 0
  · simp [upd, h0]
  · by_cases hj : j = k
    · subst hj
      rcases h with h | h
      · exact absurd h h0
      · subst h; simp [upd, h0]
    · exact upd_ne R k j v hj
theorem updF_ne (F : Nat → Int) (k j : Nat) (v : Int) (h : j ≠ k) : upd F k v j = F j := by simp only [upd, if_neg h]
theorem updF_at (F : Nat → Int) (k : Nat) (v : Int) : upd F k v k = v := by simp only [upd, if_pos]
theorem updF_same (F : Nat → Int) (k : Nat) : upd F k (F k) = F := by
  funext j
  by_cases hj : j = k
  · subst hj; simp [upd]
  · simp [upd, hj]
theorem chk_rng {op A B C I : Int} {f a b c : Int} (hf : formV op = f) (ha : mxA f = a) (hb : mxB f = b) (hc : mxC f = c) (h : chkV op A B C I = 0) : (0 ≤ A ∧ A ≤ a) ∧ (0 ≤ B ∧ B ≤ b) ∧ (0 ≤ C ∧ C ≤ c) ∧ (hasF f = false → I = 0) := by
  obtain ⟨h1, h2, h3, h4⟩ := chk_okF h
  rw [hf] at h1 h2 h3 h4
  rw [ha] at h1
  rw [hb] at h2
  rw [hc] at h3
  refine ⟨h1, h2, h3, fun hh => ?_⟩
  rw [hh] at h4
  simp only [cond_false] at h4
  omega
end Go.Proofs.YthenglaoolmajaaDoor
