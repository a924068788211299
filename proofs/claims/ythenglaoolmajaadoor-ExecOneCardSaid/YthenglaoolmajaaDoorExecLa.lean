/- Numbers in the laws of the exec layer. -/
import Derived.Test.YthenglaoolmajaaDoorExecB
namespace Go.Proofs.YthenglaoolmajaaDoor
open Go Go.Ev
set_option maxRecDepth 100000
set_option linter.unusedSimpArgs false
set_option linter.unusedVariables false
set_option maxHeartbeats 4000000
set_option linter.unusedSectionVars false
variable [Xt]
attribute [local congr] bind_front callK_front jn_front ifB_front ifG_front lp_front
theorem v24 (n : Nat) (H : Hp) : evCall cfc (n+30) 24 [] H = some (.ret (.bool true), H) := by
  rw [q24 (n+29) H]
  exact okR_floor (v := .bool true) (by kernel_rfl) H
theorem wrap_u64_range (x : Int) : 0 ≤ IntKind.u64.wrap x ∧ IntKind.u64.wrap x < 18446744073709551616 := by
  simp only [IntKind.wrap, IntKind.bits, IntKind.signed]
  simp
  omega
theorem low_field (x m : Int) (hm : 0 < m ∧ m < 100000) : 0 ≤ IntKind.wrap .i64 ((IntKind.wrap .u64 x).tmod m) ∧ IntKind.wrap .i64 ((IntKind.wrap .u64 x).tmod m) < m := by
  have h := wrap_u64_range x
  have e : (IntKind.wrap .u64 x).tmod m = (IntKind.wrap .u64 x) % m := Int.tmod_eq_emod_of_nonneg h.1
  rw [e]
  have h1 := Int.emod_nonneg (IntKind.wrap .u64 x) (show m ≠ 0 by omega)
  have h2 := Int.emod_lt_of_pos (IntKind.wrap .u64 x) hm.1
  rw [IntWalk.i64_in _ (by omega)]
  exact ⟨h1, h2⟩
theorem imm_field (x : Int) : -32768 ≤ IntKind.wrap .i64 (IntKind.wrap .i64 ((IntKind.wrap .u64 x).tmod 65536) - 32768) ∧ IntKind.wrap .i64 (IntKind.wrap .i64 ((IntKind.wrap .u64 x).tmod 65536) - 32768) ≤ 32767 := by
  have h := low_field x 65536 (by omega)
  rw [IntWalk.i64_in (IntKind.wrap .i64 ((IntKind.wrap .u64 x).tmod 65536) - 32768) (by omega)]
  omega
theorem andNot3 (x : Int) (h : 0 ≤ x ∧ x < 4294967296) : andNotK .u32 x 3 = x - x % 4 := by
  obtain ⟨m, rfl⟩ := Int.eq_ofNat_of_zero_le h.1
  have hm : m < 2 ^ 32 := by omega
  have h1 : (BitVec.ofInt 32 (m : Int)) = BitVec.ofNat 32 m := by rw [BitVec.ofInt_natCast]
  show IntKind.u32.wrap (((BitVec.ofInt 32 (m : Int) &&& ~~~ (BitVec.ofInt 32 3)).toNat : Nat) : Int) = _
  have h2 : (BitVec.ofInt 32 (m : Int) &&& ~~~ (BitVec.ofInt 32 3)) = (BitVec.ofNat 32 m >>> 2) <<< 2 := by
    rw [h1]
    apply BitVec.eq_of_getElem_eq
    intro i hi
    simp only [BitVec.getElem_and, BitVec.getElem_not, BitVec.getElem_shiftLeft]
    have h3 : (BitVec.ofInt 32 3 : BitVec 32)[i] = decide (i < 2) := by
      revert i
      decide
    rw [h3]
    by_cases hlt : i < 2
    · simp [hlt]
    · simp [hlt, BitVec.getElem_ushiftRight, show 2 + (i - 2) = i by omega, BitVec.getLsbD_eq_getElem hi]
  rw [h2]
  have h4 : ((BitVec.ofNat 32 m >>> 2) <<< 2).toNat = m / 4 * 4 := by
    simp [BitVec.toNat_shiftLeft, BitVec.toNat_ushiftRight, Nat.shiftRight_eq_div_pow, Nat.shiftLeft_eq]
    omega
  rw [h4]
  rw [IntWalk.u32_in _ (by omega)]
  omega
theorem toV_aligned (pc I : Int) (h : pc % 4 = 0) : (toV pc I).tmod 4 = 0 := by
  unfold toV
  have h1 := wrap_u32_range (pc + IntKind.wrap .u32 (4 * IntKind.wrap .u32 I))
  rw [Int.tmod_eq_emod_of_nonneg h1.1]
  rw [IntKind.wrap_u32, IntKind.wrap_u32]
  omega
end Go.Proofs.YthenglaoolmajaaDoor
