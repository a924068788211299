/- What the parts of an instruction's doing answer. -/
import Derived.Test.YthenglaoolmajaaDoorEvBun
import Derived.Test.YthenglaoolmajaaDoorCodeW
import Derived.Test.YthenglaoolmajaaDoorEvMem
namespace Go.Proofs.YthenglaoolmajaaDoor
open Go Go.Ev
set_option maxRecDepth 100000
set_option linter.unusedSimpArgs false
set_option linter.unusedVariables false
set_option maxHeartbeats 2000000
set_option linter.unusedSectionVars false
variable [Xt]
attribute [local congr] bind_front callK_front jn_front ifB_front ifG_front lp_front
theorem q20 (n : Nat) (x0 x1 x2 : Value) (hx0 : flat x0 = true) (hx1 : flat x1 = true) (hx2 : flat x2 = true) (H : Hp) : evCall cfc (n+1) 20 [x0, x1, x2] H = floorR H (s20 (evCall cfc n) n x0 x1 x2 Hp.fl) := by
  rw [evCall_quiet (fn := Tryd.f20) (by rfl) Tryd.func20 (by rfl) (by simp [hx0, hx1, hx2])]
  exact congrArg (floorR H) (s20_eq _ _ _ _ _ _)
theorem q22 (n : Nat) (x0 x1 : Value) (hx0 : flat x0 = true) (hx1 : flat x1 = true) (H : Hp) : evCall cfc (n+1) 22 [x0, x1] H = floorR H (s22 (evCall cfc n) n x0 x1 Hp.fl) := by
  rw [evCall_quiet (fn := Tryd.f22) (by rfl) Tryd.func22 (by rfl) (by simp [hx0, hx1])]
  exact congrArg (floorR H) (s22_eq _ _ _ _ _)
theorem q32 (n : Nat) (x0 : Value) (hx0 : flat x0 = true) (H : Hp) : evCall cfc (n+1) 32 [x0] H = floorR H (s32 (evCall cfc n) n x0 Hp.fl) := by
  rw [evCall_quiet (fn := Tryd.f32) (by rfl) Tryd.func32 (by rfl) (by simp [hx0])]
  exact congrArg (floorR H) (s32_eq _ _ _ _)
theorem q33 (n : Nat) (x0 : Value) (hx0 : flat x0 = true) (H : Hp) : evCall cfc (n+1) 33 [x0] H = floorR H (s33 (evCall cfc n) n x0 Hp.fl) := by
  rw [evCall_quiet (fn := Tryd.f33) (by rfl) Tryd.func33 (by rfl) (by simp [hx0])]
  exact congrArg (floorR H) (s33_eq _ _ _ _)
theorem q41 (n : Nat) (x0 : Value) (hx0 : flat x0 = true) (H : Hp) : evCall cfc (n+1) 41 [x0] H = floorR H (s41 (evCall cfc n) n x0 Hp.fl) := by
  rw [evCall_quiet (fn := Tryd.f41) (by rfl) Tryd.func41 (by rfl) (by simp [hx0])]
  exact congrArg (floorR H) (s41_eq _ _ _ _)
theorem q63 (n : Nat) (x0 x1 x2 : Value) (hx0 : flat x0 = true) (hx1 : flat x1 = true) (hx2 : flat x2 = true) (H : Hp) : evCall cfc (n+1) 63 [x0, x1, x2] H = floorR H (s63 (evCall cfc n) n x0 x1 x2 Hp.fl) := by
  rw [evCall_quiet (fn := Tryd.f63) (by rfl) Tryd.func63 (by rfl) (by simp [hx0, hx1, hx2])]
  exact congrArg (floorR H) (s63_eq _ _ _ _ _ _)
theorem q66 (n : Nat) (x0 x1 x2 : Value) (hx0 : flat x0 = true) (hx1 : flat x1 = true) (hx2 : flat x2 = true) (H : Hp) : evCall cfc (n+1) 66 [x0, x1, x2] H = floorR H (s66 (evCall cfc n) n x0 x1 x2 Hp.fl) := by
  rw [evCall_quiet (fn := Tryd.f66) (by rfl) Tryd.func66 (by rfl) (by simp [hx0, hx1, hx2])]
  exact congrArg (floorR H) (s66_eq _ _ _ _ _ _)
theorem q68 (n : Nat) (x0 x1 x2 : Value) (hx0 : flat x0 = true) (hx1 : flat x1 = true) (hx2 : flat x2 = true) (H : Hp) : evCall cfc (n+1) 68 [x0, x1, x2] H = floorR H (s68 (evCall cfc n) n x0 x1 x2 Hp.fl) := by
  rw [evCall_quiet (fn := Tryd.f68) (by rfl) Tryd.func68 (by rfl) (by simp [hx0, hx1, hx2])]
  exact congrArg (floorR H) (s68_eq _ _ _ _ _ _)
theorem q83 (n : Nat) (x0 x1 x2 : Value) (hx0 : flat x0 = true) (hx1 : flat x1 = true) (hx2 : flat x2 = true) (H : Hp) : evCall cfc (n+1) 83 [x0, x1, x2] H = floorR H (s83 (evCall cfc n) n x0 x1 x2 Hp.fl) := by
  rw [evCall_quiet (fn := Tryd.f83) (by rfl) Tryd.func83 (by rfl) (by simp [hx0, hx1, hx2])]
  exact congrArg (floorR H) (s83_eq _ _ _ _ _ _)
theorem q84 (n : Nat) (x0 : Value) (hx0 : flat x0 = true) (H : Hp) : evCall cfc (n+1) 84 [x0] H = floorR H (s84 (evCall cfc n) n x0 Hp.fl) := by
  rw [evCall_quiet (fn := Tryd.f84) (by rfl) Tryd.func84 (by rfl) (by simp [hx0])]
  exact congrArg (floorR H) (s84_eq _ _ _ _)
theorem q24 (n : Nat)   (H : Hp) : evCall cfc (n+1) 24 [] H = floorR H (s24 (evCall cfc n) n  Hp.fl) := by
  rw [evCall_quiet (fn := Tryd.f24) (by rfl) Tryd.func24 (by rfl) (by simp [])]
  exact congrArg (floorR H) (s24_eq _ _  _)
theorem q34 (n : Nat) (x0 : Value) (H : Hp) : evCall cfc (n+1) 34 [x0] H = s34 (evCall cfc n) n x0 H := by
  rw [evCall_open (fn := Tryd.f34) (by rfl) Tryd.func34 (by rfl)]
  exact s34_eq _ _ _ _
theorem q46 (n : Nat) (x0 x1 x2 : Value) (H : Hp) : evCall cfc (n+1) 46 [x0, x1, x2] H = s46 (evCall cfc n) n x0 x1 x2 H := by
  rw [evCall_open (fn := Tryd.f46) (by rfl) Tryd.func46 (by rfl)]
  exact s46_eq _ _ _ _ _ _
theorem q47 (n : Nat) (x0 x1 : Value) (H : Hp) : evCall cfc (n+1) 47 [x0, x1] H = s47 (evCall cfc n) n x0 x1 H := by
  rw [evCall_open (fn := Tryd.f47) (by rfl) Tryd.func47 (by rfl)]
  exact s47_eq _ _ _ _ _
theorem q48 (n : Nat) (x0 x1 : Value) (H : Hp) : evCall cfc (n+1) 48 [x0, x1] H = s48 (evCall cfc n) n x0 x1 H := by
  rw [evCall_open (fn := Tryd.f48) (by rfl) Tryd.func48 (by rfl)]
  exact s48_eq _ _ _ _ _
theorem q49 (n : Nat) (x0 x1 : Value) (H : Hp) : evCall cfc (n+1) 49 [x0, x1] H = s49 (evCall cfc n) n x0 x1 H := by
  rw [evCall_open (fn := Tryd.f49) (by rfl) Tryd.func49 (by rfl)]
  exact s49_eq _ _ _ _ _
theorem q50 (n : Nat) (x0 x1 : Value) (H : Hp) : evCall cfc (n+1) 50 [x0, x1] H = s50 (evCall cfc n) n x0 x1 H := by
  rw [evCall_open (fn := Tryd.f50) (by rfl) Tryd.func50 (by rfl)]
  exact s50_eq _ _ _ _ _
theorem q51 (n : Nat) (x0 : Value) (H : Hp) : evCall cfc (n+1) 51 [x0] H = s51 (evCall cfc n) n x0 H := by
  rw [evCall_open (fn := Tryd.f51) (by rfl) Tryd.func51 (by rfl)]
  exact s51_eq _ _ _ _
theorem q64 (n : Nat) (x0 x1 x2 : Value) (H : Hp) : evCall cfc (n+1) 64 [x0, x1, x2] H = s64 (evCall cfc n) n x0 x1 x2 H := by
  rw [evCall_open (fn := Tryd.f64) (by rfl) Tryd.func64 (by rfl)]
  exact s64_eq _ _ _ _ _ _
theorem q65 (n : Nat) (x0 x1 : Value) (H : Hp) : evCall cfc (n+1) 65 [x0, x1] H = s65 (evCall cfc n) n x0 x1 H := by
  rw [evCall_open (fn := Tryd.f65) (by rfl) Tryd.func65 (by rfl)]
  exact s65_eq _ _ _ _ _
theorem q67 (n : Nat) (x0 x1 : Value) (H : Hp) : evCall cfc (n+1) 67 [x0, x1] H = s67 (evCall cfc n) n x0 x1 H := by
  rw [evCall_open (fn := Tryd.f67) (by rfl) Tryd.func67 (by rfl)]
  exact s67_eq _ _ _ _ _
def sizeV (op : Int) : Int := tabI [0, 0, 0, 0, 0, 0, 0, 0, 0, 0, 0, 0, 0, 0, 0, 0, 0, 0, 0, 0, 0, 0, 0, 0, 0, 0, 0, 0, 4, 2, 2, 1, 1, 4, 2, 1, 8, 8, 0, 0, 0, 0, 0, 0, 0, 0, 0, 0, 0, 0, 0, 0, 0, 0, 0, 0, 0, 0, 0, 0, 0, 0, 0, 0, 0, 0, 0, 0, 0, 0, 0, 0] op
theorem v41 (n : Nat) (H : Hp) (op : Int) (h : 0 ≤ op ∧ op < 72) : evCall cfc (n+2) 41 [.int .i64 op] H = some (.ret (.int .i64 (sizeV op)), H) := by
  rw [q41 (n+1) _ rfl H]
  exact okR_range (F := fun op => s41 (evCall cfc (n+1)) (n+1) (.int .i64 op) Hp.fl) (T := fun op => .int .i64 (sizeV op)) 72 (by kernel_rfl) op h H
theorem v32 (n : Nat) (H : Hp) (R F : Nat → Int) (pc : Int) : evCall cfc (n+1) 32 [.agg (regs R F pc).toArray] H = some (.ret (.agg (regs (upd R 0 0) F pc).toArray), H) := by
  rw [q32 n _ (regs_flat _ _ _) H]
  simp -implicitDefEqProofs only [s32, tabs_gn, ↓EVdn, EVup, lp_succ, goInt, splice, okC, Fr.of, Fr.ofI, Fr.g, Nat.reduceAdd, Nat.reduceMul, Nat.reduceEqDiff, Nat.reduceLT, Nat.reduceLeDiff, Nat.reduceBEq, Int.reduceLT, Int.reduceLE, Int.reduceToNat, Int.reduceAdd, Int.reduceSub, Int.reduceMul, Int.reduceEq, Int.reduceNeg, ↓reduceIte, ↓reduceDIte, Nat.beq, reduceCtorEq, Value.int.injEq, Nat.reduceSub]
theorem v33 (n : Nat) (H : Hp) (op A B C I : Int) : evCall cfc (n+9) 33 [.agg #[.int .i64 op, .int .i64 A, .int .i64 B, .int .i64 C, .int .i64 I]] H = some (.ret (.bool (decide (chkV op A B C I = 0))), H) := by
  rw [q33 (n+8) _ rfl H]
  by_cases hk : chkV op A B C I = 0
  all_goals simp -implicitDefEqProofs only [s33, v9, tabs_gn, ↓EVdn, EVup, lp_succ, goInt, splice, okC, Fr.of, Fr.ofI, Fr.g, Nat.reduceAdd, Nat.reduceMul, Nat.reduceEqDiff, Nat.reduceLT, Nat.reduceLeDiff, Nat.reduceBEq, Int.reduceLT, Int.reduceLE, Int.reduceToNat, Int.reduceAdd, Int.reduceSub, Int.reduceMul, Int.reduceEq, Int.reduceNeg, ↓reduceIte, ↓reduceDIte, Nat.beq, reduceCtorEq, Value.int.injEq, Nat.reduceSub, flat_bool, hk, encR]

end Go.Proofs.YthenglaoolmajaaDoor
