/- Numbers: what the document's words come to is what the program's come to. -/
import Derived.Test.YthenglaoolmajaaDoorEvBits
import Derived.IntWalk
namespace Go.Ev
open Go
theorem wrap_id (k : IntKind) (a : Int) (h0 : 0 ≤ a) (h1 : a < 2 ^ (k.bits - 1)) : k.wrap a = a := by
  cases k <;> simp only [IntKind.bits] at h1 <;> simp [IntKind.wrap, IntKind.bits, IntKind.signed] at h1 ⊢ <;> omega
theorem andK_mask (k : IntKind) (a : Int) (j : Nat) (hj : j < k.bits) : andK k a (2 ^ j - 1) = a % 2 ^ j := by
  unfold andK
  have h2 : (2 : Nat) ^ j < 2 ^ k.bits := Nat.pow_lt_pow_right (by omega) hj
  have hp : 0 < (2 : Nat) ^ j := Nat.pow_pos (by omega)
  have e1 : (BitVec.ofInt k.bits a &&& BitVec.ofInt k.bits (2 ^ j - 1)).toNat = (a % 2 ^ j).toNat := by
    rw [BitVec.toNat_and]
    have e2 : (BitVec.ofInt k.bits (2 ^ j - 1 : Int)).toNat = 2 ^ j - 1 := by
      have : (2 ^ j - 1 : Int) = ((2 ^ j - 1 : Nat) : Int) := by rw [Int.ofNat_sub hp]; simp
      rw [this, ofInt_nat _ _ (by omega)]
    rw [e2, Nat.and_two_pow_sub_one_eq_mod, BitVec.toNat_ofInt]
    have hc : ((2 ^ k.bits : Nat) : Int) = (2 : Int) ^ j * 2 ^ (k.bits - j) := by
      rw [← Int.pow_add, show j + (k.bits - j) = k.bits by omega]; simp
    have h3 : (a % ((2 ^ k.bits : Nat) : Int)) % 2 ^ j = a % 2 ^ j := by
      rw [hc]
      exact Int.emod_emod_of_dvd a ⟨_, rfl⟩
    have h4 : 0 ≤ a % ((2 ^ k.bits : Nat) : Int) := Int.emod_nonneg _ (by have : 0 < ((2 ^ k.bits : Nat) : Int) := by exact_mod_cast Nat.pow_pos (by omega)
                                                                          omega)
    rw [← h3]
    obtain ⟨z, hz⟩ := Int.eq_ofNat_of_zero_le h4
    rw [hz]
    have : ((z : Int) % 2 ^ j) = ((z % 2 ^ j : Nat) : Int) := by simp
    rw [this, Int.toNat_natCast, Int.toNat_natCast]
  rw [e1]
  have h5 : 0 ≤ a % (2 : Int) ^ j := Int.emod_nonneg _ (by have : 0 < (2 : Int) ^ j := by exact_mod_cast hp
                                                           omega)
  have h6 : a % (2 : Int) ^ j < 2 ^ j := Int.emod_lt_of_pos _ (by exact_mod_cast hp)
  rw [Int.toNat_of_nonneg h5]
  refine wrap_id k _ h5 (Int.lt_of_lt_of_le h6 ?_)
  have : (2 : Nat) ^ j ≤ 2 ^ (k.bits - 1) := Nat.pow_le_pow_right (by omega) (by omega)
  exact_mod_cast this
theorem and32 (x : Int) : andK .i64 x 4294967295 = x % 4294967296 := andK_mask .i64 x 32 (by decide)
theorem word_eq (x : Int) : IntKind.wrap .u32 (andK .i64 x 4294967295) = IntKind.wrap .u32 x := by
  rw [and32, IntKind.wrap_u32, IntKind.wrap_u32]; omega
theorem and31u (y : Int) : andK .u32 y 31 = y % 32 := andK_mask .u32 y 5 (by decide)
theorem fdiv_pow (n : Int) (k : Nat) : shrK .i32 n k = n.fdiv (2 ^ (min k 32)) := rfl
theorem half (n : Int) : (if n.tmod 2 = 0 then n else n - 1).tdiv 2 = n.fdiv 2 := by
  rw [Int.fdiv_eq_ediv_of_nonneg _ (by omega)]
  have hd : (2 : Int) * (n / 2) + n % 2 = n := Int.mul_ediv_add_emod n 2
  have ht : n.tmod 2 = 0 ↔ n % 2 = 0 := by
    rw [← Int.dvd_iff_tmod_eq_zero, Int.dvd_iff_emod_eq_zero]
  split
  · rename_i h
    have h2 := ht.1 h
    have : n = 2 * (n / 2) := by omega
    conv => lhs; rw [this]
    exact Int.mul_tdiv_cancel_left _ (by omega)
  · rename_i h
    have h2 : n % 2 = 1 := by have : ¬ n % 2 = 0 := fun h3 => h (ht.2 h3); omega
    have : n - 1 = 2 * (n / 2) := by omega
    rw [this]
    exact Int.mul_tdiv_cancel_left _ (by omega)
end Go.Ev
