/- The law ExecDoes answers true. -/
import Derived.Test.YthenglaoolmajaaDoorEvBun
import Derived.Test.YthenglaoolmajaaDoorRefH
namespace Go.Proofs.YthenglaoolmajaaDoor
open Go Go.Ev
set_option maxRecDepth 100000
set_option linter.unusedSimpArgs false
set_option linter.unusedVariables false
set_option maxHeartbeats 4000000
set_option linter.unusedSectionVars false
attribute [local congr] bind_front callK_front jn_front ifB_front ifG_front lp_front
theorem nv_m (x : Int) (hx : U32 x) : andK .u64 (IntKind.wrap .u64 x) (IntKind.wrap .u64 (shlK .u64 1 32 - 1)) = IntKind.wrap .u64 x := by
  rw [show IntKind.wrap .u64 (shlK .u64 1 32 - 1) = (2 : Int) ^ 32 - 1 by decide, andK_mask .u64 _ 32 (by decide), u64_e]
  have := hx.1; have := hx.2
  omega
theorem nv_s (x : Int) (hx : U32 x) : andK .u64 (IntKind.wrap .u64 x) (IntKind.wrap .u64 (shlK .u64 1 16 - 1)) = IntKind.wrap .u64 (andK .u32 x 65535) := by
  have e := andK_mask .u32 x 16 (by decide)
  rw [show (2 : Int) ^ 16 - 1 = 65535 by decide] at e
  rw [show IntKind.wrap .u64 (shlK .u64 1 16 - 1) = (2 : Int) ^ 16 - 1 by decide, andK_mask .u64 _ 16 (by decide), e, u64_e, u64_e]
  have := hx.1; have := hx.2
  omega
theorem nv_b (x : Int) (hx : U32 x) : andK .u64 (IntKind.wrap .u64 x) (IntKind.wrap .u64 (shlK .u64 1 8 - 1)) = IntKind.wrap .u64 (andK .u32 x 255) := by
  have e := andK_mask .u32 x 8 (by decide)
  rw [show (2 : Int) ^ 8 - 1 = 255 by decide] at e
  rw [show IntKind.wrap .u64 (shlK .u64 1 8 - 1) = (2 : Int) ^ 8 - 1 by decide, andK_mask .u64 _ 8 (by decide), e, u64_e, u64_e]
  have := hx.1; have := hx.2
  omega
/-- both need the same -/
def BothNeed (R F : Nat → Int) (pc op A B C I : Int) : Prop := ∃ b x y z,
  (∀ n H, evCall cfc (n+12) 22 [.agg (regs R F pc).toArray, .agg #[.int .i64 op, .int .i64 A, .int .i64 B, .int .i64 C, .int .i64 I]] H = some (.ret (.agg #[.bool b, .int .u32 x, .int .i64 y, .int .u64 z]), H)) ∧
  (∀ n H, evCall cfc (n+12) 23 [.agg (regs R F pc).toArray, .agg #[.int .i64 op, .int .i64 A, .int .i64 B, .int .i64 C, .int .i64 I]] H = some (.ret (.agg #[.bool b, .int .u32 x, .int .i64 y, .int .u64 z]), H))
theorem both_need (R F : Nat → Int) (pc op A B C I : Int) (hR : ∀ i, i < 16 → inK .u32 (R i)) : BothNeed R F pc op A B C I := by
  by_cases hb : sizeV op = 0 ∨ ¬ chkV op A B C I = 0
  · exact ⟨false, 0, 0, 0, fun n H => need_bad n H R F pc op A B C I hb, fun n H => rneed_bad n H R F pc op A B C I hb⟩
  · have hs : ¬ sizeV op = 0 := fun h => hb (Or.inl h)
    have hk : chkV op A B C I = 0 := Classical.byContradiction fun h => hb (Or.inr h)
    have ho := chk_op hk
    have hop : op = 28 ∨ op = 29 ∨ op = 30 ∨ op = 31 ∨ op = 32 ∨ op = 33 ∨ op = 34 ∨ op = 35 ∨ op = 36 ∨ op = 37 := by
      apply Classical.byContradiction
      intro hc
      apply hs
      revert hc
      refine all72 (P := fun op => ¬ (op = 28 ∨ op = 29 ∨ op = 30 ∨ op = 31 ∨ op = 32 ∨ op = 33 ∨ op = 34 ∨ op = 35 ∨ op = 36 ∨ op = 37) → sizeV op = 0) (fun _ => rfl) (fun _ => rfl) (fun _ => rfl) (fun _ => rfl) (fun _ => rfl) (fun _ => rfl) (fun _ => rfl) (fun _ => rfl) (fun _ => rfl) (fun _ => rfl) (fun _ => rfl) (fun _ => rfl) (fun _ => rfl) (fun _ => rfl) (fun _ => rfl) (fun _ => rfl) (fun _ => rfl) (fun _ => rfl) (fun _ => rfl) (fun _ => rfl) (fun _ => rfl) (fun _ => rfl) (fun _ => rfl) (fun _ => rfl) (fun _ => rfl) (fun _ => rfl) (fun _ => rfl) (fun _ => rfl) (fun h => absurd (by omega) h) (fun h => absurd (by omega) h) (fun h => absurd (by omega) h) (fun h => absurd (by omega) h) (fun h => absurd (by omega) h) (fun h => absurd (by omega) h) (fun h => absurd (by omega) h) (fun h => absurd (by omega) h) (fun h => absurd (by omega) h) (fun h => absurd (by omega) h) (fun _ => rfl) (fun _ => rfl) (fun _ => rfl) (fun _ => rfl) (fun _ => rfl) (fun _ => rfl) (fun _ => rfl) (fun _ => rfl) (fun _ => rfl) (fun _ => rfl) (fun _ => rfl) (fun _ => rfl) (fun _ => rfl) (fun _ => rfl) (fun _ => rfl) (fun _ => rfl) (fun _ => rfl) (fun _ => rfl) (fun _ => rfl) (fun _ => rfl) (fun _ => rfl) (fun _ => rfl) (fun _ => rfl) (fun _ => rfl) (fun _ => rfl) (fun _ => rfl) (fun _ => rfl) (fun _ => rfl) (fun _ => rfl) (fun _ => rfl) (fun _ => rfl) (fun _ => rfl) (fun _ => rfl) (fun _ => rfl) op ho
    rcases hop with rfl | rfl | rfl | rfl | rfl | rfl | rfl | rfl | rfl | rfl
    · obtain ⟨hA, hB, hC, hI⟩ := chk_rng (f := 5) (a := 15) (b := 15) (c := 0) rfl rfl rfl rfl hk
      obtain rfl : C = 0 := by omega
      have hA2 : 0 ≤ A ∧ A < 16 := by omega
      have hB2 : 0 ≤ B ∧ B < 16 := by omega
      exact ⟨_, _, _, _, fun n H => need_28 n H R F pc A B I hA2 hB2 hk, fun n H => (rneed_28 n H R F pc A B I hA2 hB2 hk).trans (by rfl)⟩
    · obtain ⟨hA, hB, hC, hI⟩ := chk_rng (f := 5) (a := 15) (b := 15) (c := 0) rfl rfl rfl rfl hk
      obtain rfl : C = 0 := by omega
      have hA2 : 0 ≤ A ∧ A < 16 := by omega
      have hB2 : 0 ≤ B ∧ B < 16 := by omega
      exact ⟨_, _, _, _, fun n H => need_29 n H R F pc A B I hA2 hB2 hk, fun n H => (rneed_29 n H R F pc A B I hA2 hB2 hk).trans (by rfl)⟩
    · obtain ⟨hA, hB, hC, hI⟩ := chk_rng (f := 5) (a := 15) (b := 15) (c := 0) rfl rfl rfl rfl hk
      obtain rfl : C = 0 := by omega
      have hA2 : 0 ≤ A ∧ A < 16 := by omega
      have hB2 : 0 ≤ B ∧ B < 16 := by omega
      exact ⟨_, _, _, _, fun n H => need_30 n H R F pc A B I hA2 hB2 hk, fun n H => (rneed_30 n H R F pc A B I hA2 hB2 hk).trans (by rfl)⟩
    · obtain ⟨hA, hB, hC, hI⟩ := chk_rng (f := 5) (a := 15) (b := 15) (c := 0) rfl rfl rfl rfl hk
      obtain rfl : C = 0 := by omega
      have hA2 : 0 ≤ A ∧ A < 16 := by omega
      have hB2 : 0 ≤ B ∧ B < 16 := by omega
      exact ⟨_, _, _, _, fun n H => need_31 n H R F pc A B I hA2 hB2 hk, fun n H => (rneed_31 n H R F pc A B I hA2 hB2 hk).trans (by rfl)⟩
    · obtain ⟨hA, hB, hC, hI⟩ := chk_rng (f := 5) (a := 15) (b := 15) (c := 0) rfl rfl rfl rfl hk
      obtain rfl : C = 0 := by omega
      have hA2 : 0 ≤ A ∧ A < 16 := by omega
      have hB2 : 0 ≤ B ∧ B < 16 := by omega
      exact ⟨_, _, _, _, fun n H => need_32 n H R F pc A B I hA2 hB2 hk, fun n H => (rneed_32 n H R F pc A B I hA2 hB2 hk).trans (by rfl)⟩
    · obtain ⟨hA, hB, hC, hI⟩ := chk_rng (f := 5) (a := 15) (b := 15) (c := 0) rfl rfl rfl rfl hk
      obtain rfl : C = 0 := by omega
      have hA2 : 0 ≤ A ∧ A < 16 := by omega
      have hB2 : 0 ≤ B ∧ B < 16 := by omega
      exact ⟨_, _, _, _, fun n H => need_33 n H R F pc A B I hA2 hB2 hk, fun n H => (rneed_33 n H R F pc A B I hA2 hB2 hk).trans (by rw [nv_m _ (updR_range hR _ (by omega))]; rfl)⟩
    · obtain ⟨hA, hB, hC, hI⟩ := chk_rng (f := 5) (a := 15) (b := 15) (c := 0) rfl rfl rfl rfl hk
      obtain rfl : C = 0 := by omega
      have hA2 : 0 ≤ A ∧ A < 16 := by omega
      have hB2 : 0 ≤ B ∧ B < 16 := by omega
      exact ⟨_, _, _, _, fun n H => need_34 n H R F pc A B I hA2 hB2 hk, fun n H => (rneed_34 n H R F pc A B I hA2 hB2 hk).trans (by rw [nv_s _ (updR_range hR _ (by omega))]; rfl)⟩
    · obtain ⟨hA, hB, hC, hI⟩ := chk_rng (f := 5) (a := 15) (b := 15) (c := 0) rfl rfl rfl rfl hk
      obtain rfl : C = 0 := by omega
      have hA2 : 0 ≤ A ∧ A < 16 := by omega
      have hB2 : 0 ≤ B ∧ B < 16 := by omega
      exact ⟨_, _, _, _, fun n H => need_35 n H R F pc A B I hA2 hB2 hk, fun n H => (rneed_35 n H R F pc A B I hA2 hB2 hk).trans (by rw [nv_b _ (updR_range hR _ (by omega))]; rfl)⟩
    · obtain ⟨hA, hB, hC, hI⟩ := chk_rng (f := 6) (a := 7) (b := 15) (c := 0) rfl rfl rfl rfl hk
      obtain rfl : C = 0 := by omega
      have hA2 : 0 ≤ A ∧ A < 8 := by omega
      have hB2 : 0 ≤ B ∧ B < 16 := by omega
      exact ⟨_, _, _, _, fun n H => need_36 n H R F pc A B I hA2 hB2 hk, fun n H => (rneed_36 n H R F pc A B I hA2 hB2 hk).trans (by rfl)⟩
    · obtain ⟨hA, hB, hC, hI⟩ := chk_rng (f := 6) (a := 7) (b := 15) (c := 0) rfl rfl rfl rfl hk
      obtain rfl : C = 0 := by omega
      have hA2 : 0 ≤ A ∧ A < 8 := by omega
      have hB2 : 0 ≤ B ∧ B < 16 := by omega
      exact ⟨_, _, _, _, fun n H => need_37 n H R F pc A B I hA2 hB2 hk, fun n H => (rneed_37 n H R F pc A B I hA2 hB2 hk).trans (by rfl)⟩
theorem q4 (n : Nat) (x0 x1 x2 : Value) (hx0 : flat x0 = true) (hx1 : flat x1 = true) (hx2 : flat x2 = true) (H : Hp) : evCall cfc (n+1) 4 [x0, x1, x2] H = floorR H (s4 (evCall cfc n) n x0 x1 x2 Hp.fl) := by
  rw [evCall_quiet (fn := Tryd.f4) (by rfl) Tryd.func4 (by rfl) (by simp [hx0, hx1, hx2])]
  exact congrArg (floorR H) (s4_eq _ _ _ _ _ _)
theorem v4 (n : Nat) (H : Hp) (R F : Nat → Int) (pc op A B C I ld : Int) (hR : ∀ i, i < 16 → inK .u32 (R i)) (hF : ∀ i, i < 8 → inK .u64 (F i)) (hpc : 0 ≤ pc ∧ pc < 4294967296) (hld : inK .u64 ld) : evCall cfc (n+90) 4 [.agg (regs R F pc).toArray, .agg #[.int .i64 op, .int .i64 A, .int .i64 B, .int .i64 C, .int .i64 I], .int .u64 ld] H = some (.ret (.bool true), H) := by
  have hl : U64 ld := ⟨hld.1, Int.lt_add_one_of_le hld.2⟩
  obtain ⟨R2, F2, pc2, c, t, e20, e21, _⟩ := both R F pc op A B C I ld hR hF hpc hl
  obtain ⟨b, x, y, z, e22, e23⟩ := both_need R F pc op A B C I hR
  rw [q4 (n+89) _ _ _ (regs_flat _ _ _) rfl rfl H]
  simp -implicitDefEqProofs only [s4, e20, e21, e22, e23, tabs_gn, ↓EVdn, EVup, lp_succ, goInt, splice, okC, Fr.of, Fr.ofI, Fr.g, Nat.reduceAdd, Nat.reduceMul, Nat.reduceEqDiff, Nat.reduceLT, Nat.reduceLeDiff, Nat.reduceBEq, Int.reduceLT, Int.reduceLE, Int.reduceToNat, Int.reduceAdd, Int.reduceSub, Int.reduceMul, Int.reduceEq, Int.reduceNeg, ↓reduceIte, ↓reduceDIte, Nat.beq, reduceCtorEq, Value.int.injEq, Nat.reduceSub, flat_bool, upd_upd, beq_self_eq_true]
end Go.Proofs.YthenglaoolmajaaDoor
