/- Whole numbers by their bits. -/
import Derived.Test.YtbaooebafijenaaGreatDoorHvSimp
import Derived.IntWalk
namespace Go.Ev
open Go
def orK (k : IntKind) (a b : Int) : Int := k.wrap (BitVec.ofInt k.bits a ||| BitVec.ofInt k.bits b).toNat
def andK (k : IntKind) (a b : Int) : Int := k.wrap (BitVec.ofInt k.bits a &&& BitVec.ofInt k.bits b).toNat
def xorK (k : IntKind) (a b : Int) : Int := k.wrap (BitVec.ofInt k.bits a ^^^ BitVec.ofInt k.bits b).toNat
def andNotK (k : IntKind) (a b : Int) : Int := k.wrap (BitVec.ofInt k.bits a &&& ~~~BitVec.ofInt k.bits b).toNat
def shlK (k : IntKind) (a : Int) (n : Nat) : Int := k.wrap (a * 2 ^ (min n k.bits))
def shrK (k : IntKind) (a : Int) (n : Nat) : Int := a.fdiv (2 ^ (min n k.bits))
theorem kin_and (q : Nat) (k : IntKind) (a b : Int) : bin q .and (.int k a) (.int k b) = some (.int k (andK k a b)) := by simp [bin, binI, bits, andK]
theorem kin_or (q : Nat) (k : IntKind) (a b : Int) : bin q .or (.int k a) (.int k b) = some (.int k (orK k a b)) := by simp [bin, binI, bits, orK]
theorem kin_xor (q : Nat) (k : IntKind) (a b : Int) : bin q .xor (.int k a) (.int k b) = some (.int k (xorK k a b)) := by simp [bin, binI, bits, xorK]
theorem kin_andNot (q : Nat) (k : IntKind) (a b : Int) : bin q .andNot (.int k a) (.int k b) = some (.int k (andNotK k a b)) := by simp [bin, binI, bits, andNotK]
theorem kin_shl (q : Nat) (k k' : IntKind) (a b : Int) : bin q .shl (.int k a) (.int k' b) = if b < 0 then none else some (.int k (shlK k a b.toNat)) := by
 by_cases h : b < 0 <;> simp [bin, shift, h, shlK]
theorem kin_shr (q : Nat) (k k' : IntKind) (a b : Int) : bin q .shr (.int k a) (.int k' b) = if b < 0 then none else some (.int k (shrK k a b.toNat)) := by
 by_cases h : b < 0 <;> simp [bin, shift, h, shrK]
theorem ofInt_nat (n k : Nat) (h : n < 2 ^ k) : (BitVec.ofInt k (n : Int)).toNat = n := by
 rw [BitVec.ofInt_natCast, BitVec.toNat_ofNat, Nat.mod_eq_of_lt h]
theorem orK_nat (a b : Nat) (ha : a < 4294967296) (hb : b < 4294967296) : orK .u32 a b = ((a ||| b : Nat) : Int) := by
 have h1 := ofInt_nat a 32 ha
 have h2 := ofInt_nat b 32 hb
 have h3 : a ||| b < 2 ^ 32 := Nat.or_lt_two_pow ha hb
 show IntKind.u32.wrap (((BitVec.ofInt 32 (a : Int) ||| BitVec.ofInt 32 (b : Int)).toNat : Nat) : Int) = _
 rw [BitVec.toNat_or, h1, h2]
 exact IntWalk.u32_in _ ⟨by omega, by omega⟩
theorem wrap_u32_range (x : Int) : 0 ≤ IntKind.u32.wrap x ∧ IntKind.u32.wrap x < 4294967296 := by
 rw [IntKind.wrap_u32]; omega
theorem orK_range (a b : Int) : 0 ≤ orK .u32 a b ∧ orK .u32 a b < 4294967296 := wrap_u32_range _
theorem orK_zero (a : Int) (h : 0 ≤ a ∧ a < 4294967296) : orK .u32 a 0 = a := by
 obtain ⟨n, rfl⟩ := Int.eq_ofNat_of_zero_le h.1
 have := orK_nat n 0 (by omega) (by omega)
 simpa using this
end Go.Ev
