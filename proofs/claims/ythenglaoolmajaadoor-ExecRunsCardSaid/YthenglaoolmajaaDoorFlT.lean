/- A float between -2^31 and 2^31, cut towards nought, is a 32-bit integer. -/
import Derived.WalkLawsBesides
namespace Go.Ev
open Ieee
theorem read_dbl (x : Nat) : Ieee.double.read x =
    (if x % 9223372036854775808 < 4503599627370496 then .number (x / 9223372036854775808 % 2 == 1) (x % 9223372036854775808) (-1074)
    else if x % 9223372036854775808 < 9218868437227405312 then .number (x / 9223372036854775808 % 2 == 1) (4503599627370496 + x % 9223372036854775808 % 4503599627370496) (-1074 + (x % 9223372036854775808 / 4503599627370496 - 1 : Nat))
    else if x % 9223372036854775808 = 9218868437227405312 then .infinity (x / 9223372036854775808 % 2 == 1)
    else .nan (x / 9223372036854775808 % 2 == 1) (x % 9223372036854775808 - 9218868437227405312)) := by
  unfold Ieee.Format.read
  have e1 : Ieee.double.signWeight = 9223372036854775808 := by decide
  have e2 : Ieee.double.binade = 4503599627370496 := by decide
  have e3 : Ieee.double.infRung = 9218868437227405312 := by decide
  have e4 : Ieee.double.leastPlace = -1074 := by decide
  rw [e1, e2, e3, e4]
/-- a size below 2^31 -/
theorem cut_small (neg : Bool) (m : Nat) (i : Int) (h : m <<< (i - min i (-21)).toNat < 4503599627370496 <<< (-21 - min i (-21)).toNat) :
    Toward.zero.cut neg (m <<< i.toNat) (-i).toNat < 2147483648 := by
  simp only [Nat.shiftLeft_eq] at h ⊢
  have key : ∀ n drop : Nat, n < 2147483648 * 2 ^ drop → Toward.zero.cut neg n drop < 2147483648 := by
    intro n drop hn
    simp only [Toward.cut, Bool.toNat_false, Nat.add_zero, Nat.shiftLeft_eq, Nat.one_mul]
    rcases Nat.le_total drop (n.log2 + 2) with hd | hd
    · rw [Nat.min_eq_left hd]
      exact Nat.div_lt_of_lt_mul (by rw [Nat.mul_comm]; exact hn)
    · rw [Nat.min_eq_right hd]
      have h1 : n < 2 ^ (n.log2 + 2) := by
        have := Nat.lt_log2_self (n := n)
        calc n < 2 ^ (n.log2 + 1) := this
          _ ≤ 2 ^ (n.log2 + 2) := Nat.pow_le_pow_right (by omega) (by omega)
      rw [Nat.div_eq_of_lt h1]
      omega
  apply key
  by_cases h0 : 0 ≤ i
  · obtain ⟨j, rfl⟩ := Int.eq_ofNat_of_zero_le h0
    have e1 : min (j : Int) (-21) = -21 := by omega
    rw [e1] at h
    have e2 : ((j : Int) - -21).toNat = j + 21 := by omega
    have e3 : ((-21 : Int) - -21).toNat = 0 := by decide
    have e4 : (-(j : Int)).toNat = 0 := by omega
    rw [e2, e3, Nat.pow_add] at h
    rw [e4, Int.toNat_natCast]
    have : m * (2 ^ j * 2 ^ 21) = m * 2 ^ j * 2 ^ 21 := by rw [Nat.mul_assoc]
    rw [this] at h
    generalize m * 2 ^ j = z at h ⊢
    omega
  · have e0 : i.toNat = 0 := by omega
    rw [e0]
    obtain ⟨d, hd⟩ := Int.eq_ofNat_of_zero_le (show 0 ≤ -i by omega)
    have ei : i = -(d : Int) := by omega
    subst ei
    have e4 : (- -(d : Int)).toNat = d := by omega
    rw [e4]
    simp only [Nat.pow_zero, Nat.mul_one]
    by_cases h21 : d ≤ 21
    · have e1 : min (-(d : Int)) (-21) = -21 := by omega
      rw [e1] at h
      have e2 : (-(d : Int) - -21).toNat = 21 - d := by omega
      have e3 : ((-21 : Int) - -21).toNat = 0 := by decide
      rw [e2, e3] at h
      have h5 : m * 2 ^ (21 - d) * 2 ^ d < 4503599627370496 * 2 ^ 0 * 2 ^ d := (Nat.mul_lt_mul_right (Nat.pow_pos (by omega))).2 h
      rw [Nat.mul_assoc, ← Nat.pow_add, show 21 - d + d = 21 by omega] at h5
      generalize 2 ^ d = z at h5 ⊢
      omega
    · have e1 : min (-(d : Int)) (-21) = -(d : Int) := by omega
      rw [e1] at h
      have e2 : (-(d : Int) - -(d : Int)).toNat = 0 := by omega
      have e3 : ((-21 : Int) - -(d : Int)).toNat = d - 21 := by omega
      rw [e2, e3] at h
      have h5 : 2 ^ d = 2 ^ (d - 21) * 2 ^ 21 := by rw [← Nat.pow_add, show d - 21 + 21 = d by omega]
      rw [h5]
      generalize 2 ^ (d - 21) = z at h ⊢
      omega
theorem cmp_lt {x y : Int} (h1 : compare x y ≠ .gt) (h2 : compare x y ≠ .eq) : x < y := by
  show x < y
  simp only [compare, compareOfLessAndEq] at h1 h2
  by_cases hx : x < y
  · exact hx
  · rw [if_neg hx] at h1 h2
    by_cases he : x = y
    · rw [if_pos he] at h2; exact absurd rfl h2
    · rw [if_neg he] at h1; exact absurd rfl h1
theorem cmp_gt {x y : Int} (h1 : compare x y ≠ .lt) (h2 : compare x y ≠ .eq) : y < x := by
  simp only [compare, compareOfLessAndEq] at h1 h2
  by_cases hx : x < y
  · rw [if_pos hx] at h1; exact absurd rfl h1
  · rw [if_neg hx] at h2
    by_cases he : x = y
    · rw [if_pos he] at h2; exact absurd rfl h2
    · omega
theorem order_num (s t : Bool) (m n : Nat) (i j : Int) : (Datum.number s m i).order (.number t n j) = some (compare (Ieee.signed s m (i - min i j).toNat) (Ieee.signed t n (j - min i j).toNat)) := rfl
theorem toInt_in (a : Nat) (h1 : (Ieee.double.order a a != some .eq) = false) (h2 : (Ieee.double.order a 4746794007248502784 == some .gt || Ieee.double.order a 4746794007248502784 == some .eq) = false)
    (h3 : (Ieee.double.order a 13970166044103278592 == some .lt || Ieee.double.order a 13970166044103278592 == some .eq) = false) : ∃ n, Go.floatToIntVal .f64 a .i32 = some n := by
  unfold Ieee.Format.order at h1 h2 h3
  have c1 : Ieee.double.read 4746794007248502784 = .number false 4503599627370496 (-21) := by rw [read_dbl]; simp
  have c2 : Ieee.double.read 13970166044103278592 = .number true 4503599627370496 (-21) := by rw [read_dbl]; simp
  rw [c1] at h2
  rw [c2] at h3
  unfold Go.floatToIntVal Go.FloatKind.decode
  change ∃ n, (match Datum.toInt Toward.zero (Ieee.double.read a) with | some n => if Go.IntKind.min .i32 ≤ n ∧ n ≤ Go.IntKind.max .i32 then some n else none | none => none) = some n
  generalize Ieee.double.read a = d at h1 h2 h3 ⊢
  match d with
  | .nan s f => simp [Datum.order] at h1
  | .infinity s => cases s <;> simp [Datum.order] at h2 h3
  | .number s m i =>
    have hc : m <<< (i - min i (-21)).toNat < 4503599627370496 <<< (-21 - min i (-21)).toNat := by
      rw [order_num] at h2 h3
      simp only [Bool.or_eq_false_iff, beq_eq_false_iff_ne, ne_eq, Option.some.injEq] at h2 h3
      cases s
      · have := cmp_lt h2.1 h2.2
        simp only [Ieee.signed] at this
        exact Int.ofNat_lt.1 this
      · have := cmp_gt h3.1 h3.2
        simp only [Ieee.signed] at this
        exact Int.ofNat_lt.1 (Int.neg_lt_neg_iff.1 this)
    have := cut_small s m i hc
    simp only [Datum.toInt, Datum.integral]
    generalize Toward.zero.cut s (m <<< i.toNat) (-i).toNat = z at this
    refine ⟨Ieee.signed s z 0, ?_⟩
    rw [if_pos]
    have e1 : Go.IntKind.min .i32 = -2147483648 := by decide
    have e2 : Go.IntKind.max .i32 = 2147483647 := by decide
    rw [e1, e2]
    cases s <;> simp [Ieee.signed] <;> omega
end Go.Ev
