/- Floats in their order: a float that is no NaN stands as its bits stand. -/
import Derived.Test.YthenglaoolmajaaDoorFlT
namespace Go.Ev
open Ieee
/-- the value of a rung, in the least unit -/
def rungV (p : Nat) : Nat := if p < 4503599627370496 then p else (4503599627370496 + p % 4503599627370496) * 2 ^ (p / 4503599627370496 - 1)
theorem rungV_lt {p q : Nat} (h : p < q) : rungV p < rungV q := by
  unfold rungV
  by_cases hp : p < 4503599627370496
  · rw [if_pos hp]
    by_cases hq : q < 4503599627370496
    · rw [if_pos hq]; exact h
    · rw [if_neg hq]
      have : 4503599627370496 + q % 4503599627370496 ≤ (4503599627370496 + q % 4503599627370496) * 2 ^ (q / 4503599627370496 - 1) := Nat.le_mul_of_pos_right _ (Nat.pow_pos (by omega))
      omega
  · rw [if_neg hp, if_neg (by omega)]
    generalize ha : p / 4503599627370496 - 1 = a
    generalize hb : q / 4503599627370496 - 1 = b
    by_cases hab : a = b
    · subst hab
      exact (Nat.mul_lt_mul_right (Nat.pow_pos (by omega))).2 (by omega)
    · have hlt : a < b := by omega
      have h1 : (4503599627370496 + p % 4503599627370496) * 2 ^ a < 9007199254740992 * 2 ^ a := (Nat.mul_lt_mul_right (Nat.pow_pos (by omega))).2 (by omega)
      have h2 : 9007199254740992 * 2 ^ a = 4503599627370496 * 2 ^ (a + 1) := by rw [Nat.pow_succ]; omega
      have h3 : 4503599627370496 * 2 ^ (a + 1) ≤ 4503599627370496 * 2 ^ b := Nat.mul_le_mul_left _ (Nat.pow_le_pow_right (by omega) (by omega))
      have h4 : 4503599627370496 * 2 ^ b ≤ (4503599627370496 + q % 4503599627370496) * 2 ^ b := Nat.mul_le_mul_right _ (by omega)
      omega
theorem rungV_zero : rungV 0 = 0 := rfl
theorem rungV_iff {p q : Nat} : rungV p < rungV q ↔ p < q := by
  refine ⟨fun h => ?_, rungV_lt⟩
  rcases Nat.lt_trichotomy p q with h1 | h1 | h1
  · exact h1
  · subst h1; omega
  · have := rungV_lt h1; omega
/-- the value of a float's bits as a whole number that keeps the order: the two zeros are one -/
def keyV (x : Nat) : Int := if x / 9223372036854775808 % 2 = 1 then -((x % 9223372036854775808 : Nat) : Int) else ((x % 9223372036854775808 : Nat) : Int)
def sgnV (x : Nat) : Int := if x / 9223372036854775808 % 2 = 1 then -(rungV (x % 9223372036854775808) : Int) else (rungV (x % 9223372036854775808) : Int)
theorem compare_iff {a b c d : Int} (h1 : a < b ↔ c < d) (h2 : b < a ↔ d < c) : compare a b = compare c d := by
  simp only [compare, compareOfLessAndEq]
  by_cases h3 : a < b
  · rw [if_pos h3, if_pos (h1.1 h3)]
  · rw [if_neg h3, if_neg (fun h => h3 (h1.2 h))]
    by_cases h4 : a = b
    · rw [if_pos h4, if_pos (by have := fun h => h3 (h1.2 h); have := fun h => (show ¬ b < a by omega) (h2.2 h); omega)]
    · rw [if_neg h4, if_neg (by have : b < a := by omega
                                have := h2.1 this; omega)]
theorem key_compare (x y : Nat) : compare (sgnV x) (sgnV y) = compare (keyV x) (keyV y) := by
  have z0 : ∀ p, 0 < p → 0 < rungV p := fun p h => by have := rungV_lt h; rw [rungV_zero] at this; exact this
  have hz : rungV 0 = 0 := rungV_zero
  unfold sgnV keyV
  generalize x % 9223372036854775808 = p
  generalize y % 9223372036854775808 = q
  have a1 := rungV_iff (p := p) (q := q)
  have a2 := rungV_iff (p := q) (q := p)
  have b1 : 0 < rungV p ↔ 0 < p := by have := rungV_iff (p := 0) (q := p); rwa [hz] at this
  have b2 : 0 < rungV q ↔ 0 < q := by have := rungV_iff (p := 0) (q := q); rwa [hz] at this
  apply compare_iff <;> split <;> split <;> omega
def nanB (x : Nat) : Prop := 9218868437227405312 < x % 9223372036854775808
/-- a number's bits, read -/
theorem read_num (x : Nat) (h : x % 9223372036854775808 < 9218868437227405312) : ∃ m k : Nat, Ieee.double.read x = .number (x / 9223372036854775808 % 2 == 1) m (-1074 + (k : Int)) ∧ m * 2 ^ k = rungV (x % 9223372036854775808) := by
  rw [read_dbl]
  by_cases h1 : x % 9223372036854775808 < 4503599627370496
  · rw [if_pos h1]
    exact ⟨_, 0, rfl, by rw [rungV, if_pos h1]; simp⟩
  · rw [if_neg h1, if_pos h]
    exact ⟨_, _, rfl, by rw [rungV, if_neg h1]⟩
theorem read_inf (x : Nat) (h : x % 9223372036854775808 = 9218868437227405312) : Ieee.double.read x = .infinity (x / 9223372036854775808 % 2 == 1) := by
  rw [read_dbl, if_neg (by omega), if_neg (by omega), if_pos h]
theorem read_nan (x : Nat) (h : nanB x) : ∃ s f, Ieee.double.read x = .nan s f := by
  unfold nanB at h
  rw [read_dbl, if_neg (by omega), if_neg (by omega), if_neg (by omega)]
  exact ⟨_, _, rfl⟩
theorem signed_scale (s : Bool) (m : Nat) (k c : Nat) (h : c ≤ k) : Ieee.signed s m (k - c) * 2 ^ c = if s then -((m * 2 ^ k : Nat) : Int) else ((m * 2 ^ k : Nat) : Int) := by
  have e : m * 2 ^ k = m <<< (k - c) * 2 ^ c := by
    rw [Nat.shiftLeft_eq, Nat.mul_assoc, ← Nat.pow_add, show k - c + c = k by omega]
  unfold Ieee.signed
  rw [e]
  cases s <;> simp [Int.neg_mul]
theorem order_key (x y : Nat) (hx : ¬ nanB x) (hy : ¬ nanB y) : Ieee.double.order x y = some (compare (keyV x) (keyV y)) := by
  unfold nanB at hx hy
  unfold Ieee.Format.order
  by_cases h1 : x % 9223372036854775808 = 9218868437227405312
  · rw [read_inf x h1]
    by_cases h2 : y % 9223372036854775808 = 9218868437227405312
    · rw [read_inf y h2]
      simp only [Datum.order, keyV, h1, h2]
      have c1 : x / 9223372036854775808 % 2 = 0 ∨ x / 9223372036854775808 % 2 = 1 := by omega
      have c2 : y / 9223372036854775808 % 2 = 0 ∨ y / 9223372036854775808 % 2 = 1 := by omega
      rcases c1 with c1 | c1 <;> rcases c2 with c2 | c2 <;> rw [c1, c2] <;> decide
    · obtain ⟨m, k, e, _⟩ := read_num y (by omega)
      rw [e]
      simp only [Datum.order, keyV, h1, compare, compareOfLessAndEq]
      have c1 : x / 9223372036854775808 % 2 = 0 ∨ x / 9223372036854775808 % 2 = 1 := by omega
      rcases c1 with c1 | c1 <;> rw [c1] <;> simp <;> split <;> (first | (intro h; exfalso; omega) | rw [if_pos (by omega)] | rw [if_neg (by omega), if_neg (by omega)])
  · obtain ⟨m, k, e, hm⟩ := read_num x (by omega)
    rw [e]
    by_cases h2 : y % 9223372036854775808 = 9218868437227405312
    · rw [read_inf y h2]
      simp only [Datum.order, keyV, h2, compare, compareOfLessAndEq]
      have c1 : y / 9223372036854775808 % 2 = 0 ∨ y / 9223372036854775808 % 2 = 1 := by omega
      rcases c1 with c1 | c1 <;> rw [c1] <;> simp <;> split <;> (first | (intro h; exfalso; omega) | rw [if_pos (by omega)] | rw [if_neg (by omega), if_neg (by omega)])
    · obtain ⟨n, l, e2, hn⟩ := read_num y (by omega)
      rw [e2, order_num, ← key_compare]
      congr 1
      have d1 : (-1074 + (k : Int) - min (-1074 + (k : Int)) (-1074 + (l : Int))).toNat = k - min k l := by omega
      have d2 : (-1074 + (l : Int) - min (-1074 + (k : Int)) (-1074 + (l : Int))).toNat = l - min k l := by omega
      rw [d1, d2]
      have s1 := signed_scale (x / 9223372036854775808 % 2 == 1) m k (min k l) (Nat.min_le_left _ _)
      have s2 := signed_scale (y / 9223372036854775808 % 2 == 1) n l (min k l) (Nat.min_le_right _ _)
      have f1 : Ieee.signed (x / 9223372036854775808 % 2 == 1) m (k - min k l) * 2 ^ (min k l) = sgnV x := by rw [s1, hm]; simp only [sgnV, beq_iff_eq]
      have f2 : Ieee.signed (y / 9223372036854775808 % 2 == 1) n (l - min k l) * 2 ^ (min k l) = sgnV y := by rw [s2, hn]; simp only [sgnV, beq_iff_eq]
      have hp : (0 : Int) < 2 ^ (min k l) := Int.pow_pos (by omega)
      rw [← f1, ← f2]
      refine compare_iff ⟨fun h => Int.mul_lt_mul_of_pos_right h hp, fun h => Int.lt_of_mul_lt_mul_right h (Int.le_of_lt hp)⟩ ⟨fun h => Int.mul_lt_mul_of_pos_right h hp, fun h => Int.lt_of_mul_lt_mul_right h (Int.le_of_lt hp)⟩
theorem order_nan (x y : Nat) (h : nanB x ∨ nanB y) : Ieee.double.order x y = none := by
  unfold Ieee.Format.order
  rcases h with h | h
  · obtain ⟨s, f, e⟩ := read_nan x h
    rw [e]; rfl
  · obtain ⟨s, f, e⟩ := read_nan y h
    rw [e]
    cases Ieee.double.read x <;> rfl
end Go.Ev
