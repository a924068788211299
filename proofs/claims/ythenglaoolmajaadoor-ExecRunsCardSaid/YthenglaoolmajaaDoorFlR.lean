/- The root, bit by bit, is the root. -/
import Derived.Test.YthenglaoolmajaaDoorFlO
namespace Go.Ev
open Ieee
set_option maxRecDepth 10000
theorem rootFrom_spec (n : Nat) : ∀ (todo root : Nat), root * root ≤ n → n < (root + 2 ^ todo) * (root + 2 ^ todo) → (Datum.rootFrom n todo root) * (Datum.rootFrom n todo root) ≤ n ∧ n < (Datum.rootFrom n todo root + 1) * (Datum.rootFrom n todo root + 1)
  | 0, root, h1, h2 => by simpa [Datum.rootFrom] using ⟨h1, h2⟩
  | t + 1, root, h1, h2 => by
    unfold Datum.rootFrom
    simp only [Nat.shiftLeft_eq, Nat.one_mul]
    by_cases hc : (root + 2 ^ t) * (root + 2 ^ t) ≤ n
    · rw [if_pos hc]
      refine rootFrom_spec n t _ hc ?_
      have : root + 2 ^ t + 2 ^ t = root + 2 ^ (t + 1) := by rw [Nat.pow_succ]; omega
      rw [this]; exact h2
    · rw [if_neg hc]
      exact rootFrom_spec n t root h1 (by omega)
theorem sq_unique {n a b : Nat} (h1 : a * a ≤ n) (h2 : n < (a + 1) * (a + 1)) (h3 : b * b ≤ n) (h4 : n < (b + 1) * (b + 1)) : a = b := by
  rcases Nat.lt_trichotomy a b with h | h | h
  · have := Nat.mul_le_mul (show a + 1 ≤ b from h) (show a + 1 ≤ b from h); omega
  · exact h
  · have := Nat.mul_le_mul (show b + 1 ≤ a from h) (show b + 1 ≤ a from h); omega
theorem rootFrom_log (n : Nat) : (Datum.rootFrom n (n.log2 / 2 + 1) 0) * (Datum.rootFrom n (n.log2 / 2 + 1) 0) ≤ n ∧ n < (Datum.rootFrom n (n.log2 / 2 + 1) 0 + 1) * (Datum.rootFrom n (n.log2 / 2 + 1) 0 + 1) := by
  apply rootFrom_spec
  · omega
  · have h1 : n < 2 ^ (n.log2 + 1) := Nat.lt_log2_self
    have h2 : (2 : Nat) ^ (n.log2 + 1) ≤ 2 ^ ((n.log2 / 2 + 1) + (n.log2 / 2 + 1)) := Nat.pow_le_pow_right (by omega) (by omega)
    rw [Nat.pow_add 2 (n.log2 / 2 + 1) (n.log2 / 2 + 1)] at h2
    simp only [Nat.zero_add]
    exact Nat.lt_of_lt_of_le h1 h2
/-- the bits that are found one by one: what is left (doubled), and the root -/
def rootL : Nat → Nat → Nat → Nat × Nat
  | 0, m, q => (m, q)
  | k + 1, m, q => if 2 * q + 2 ^ k ≤ m then rootL k (2 * (m - (2 * q + 2 ^ k))) (q + 2 ^ k) else rootL k (2 * m) q
theorem rootL_spec (N : Nat) : ∀ (k m q : Nat), m * 2 ^ k = 2 * (N - q * q) → q * q ≤ N → N < (q + 2 ^ k) * (q + 2 ^ k) →
    (rootL k m q).2 * (rootL k m q).2 ≤ N ∧ N < ((rootL k m q).2 + 1) * ((rootL k m q).2 + 1) ∧ (rootL k m q).1 = 2 * (N - (rootL k m q).2 * (rootL k m q).2)
  | 0, m, q, h1, h2, h3 => by simp [rootL] at *; exact ⟨h2, h3, h1⟩
  | k + 1, m, q, h1, h2, h3 => by
    unfold rootL
    have hp : 0 < 2 ^ k := Nat.pow_pos (by omega)
    have e1 : m * 2 ^ k = N - q * q := by
      rw [Nat.pow_succ] at h1
      have : m * (2 ^ k * 2) = 2 * (m * 2 ^ k) := by rw [Nat.mul_comm (2 ^ k) 2, Nat.mul_left_comm]
      omega
    have e2 : (q + 2 ^ k) * (q + 2 ^ k) = q * q + (2 * q + 2 ^ k) * 2 ^ k := by
      rw [Nat.add_mul, Nat.mul_add, Nat.mul_add, Nat.add_mul, Nat.mul_comm (2 ^ k) q, Nat.mul_assoc 2 q]; omega
    by_cases hc : 2 * q + 2 ^ k ≤ m
    · rw [if_pos hc]
      have h4 : (2 * q + 2 ^ k) * 2 ^ k ≤ m * 2 ^ k := Nat.mul_le_mul_right _ hc
      refine rootL_spec N k _ _ ?_ (by omega) ?_
      · rw [Nat.mul_assoc, Nat.sub_mul, e1, e2]; omega
      · have : q + 2 ^ k + 2 ^ k = q + 2 ^ (k + 1) := by rw [Nat.pow_succ]; omega
        rw [this]; exact h3
    · rw [if_neg hc]
      have h4 : m * 2 ^ k < (2 * q + 2 ^ k) * 2 ^ k := (Nat.mul_lt_mul_right hp).2 (by omega)
      refine rootL_spec N k _ _ ?_ h2 (by omega)
      rw [Nat.mul_assoc, e1]
theorem root_word (M N q : Nat) (e E : Int) (a k m : Nat) (i : Int) (hr : Ieee.double.read a = .number false m i) (hm : m * 2 ^ k = M) (hi : e - 52 + k = i)
    (hM : 4503599627370496 ≤ M ∧ M < 9007199254740992) (he : -1074 ≤ e ∧ e ≤ 1023) (hE : E = e / 2) (hN : N = M * 2 ^ (54 + (e % 2).toNat)) (hq1 : q * q ≤ N) (hq2 : N < (q + 1) * (q + 1)) :
    Ieee.double.sqrt a = some (((E + 1022).toNat) * 4503599627370496 + (q / 2 + q % 2)) := by
  unfold Ieee.Format.sqrt
  rw [hr]
  have hm0 : m ≠ 0 := by rintro rfl; simp at hm; omega
  have hp : 0 < 2 ^ k := Nat.pow_pos (by omega)
  have hk : k ≤ 52 := by
    rcases Nat.lt_or_ge k 53 with h | h
    · omega
    · have h1 : (2 : Nat) ^ 53 ≤ 2 ^ k := Nat.pow_le_pow_right (by omega) h
      have h2 : 1 * 2 ^ k ≤ m * 2 ^ k := Nat.mul_le_mul_right _ (by omega)
      omega
  have hlog : m.log2 = 52 - k := by
    rw [Nat.log2_eq_iff hm0]
    have h1 : (2 : Nat) ^ (52 - k) * 2 ^ k = 4503599627370496 := by rw [← Nat.pow_add, show 52 - k + k = 52 by omega]
    have h2 : (2 : Nat) ^ (52 - k + 1) * 2 ^ k = 9007199254740992 := by rw [← Nat.pow_add, show 52 - k + 1 + k = 53 by omega]
    constructor
    · apply Nat.le_of_mul_le_mul_right _ hp; omega
    · apply Nat.lt_of_mul_lt_mul_right (a := 2 ^ k); omega
  simp only [Datum.root, if_neg hm0, hlog, Bool.false_eq_true, if_false]
  have hf : Ieee.double.fractionBits = 52 := rfl
  rw [hf]
  have em : 2 * (52 + 2) - (52 - k) = 56 + k := by omega
  rw [em]
  have ei : ((i - ((56 + k : Nat) : Int)) % 2).toNat = (e % 2).toNat := by omega
  rw [ei]
  generalize ht : (e % 2).toNat = t at *
  have en : m <<< (56 + k + t) = 4 * N := by
    rw [Nat.shiftLeft_eq, hN, ← hm, show 56 + k + t = k + (54 + t) + 2 by omega, Nat.pow_add, Nat.pow_add, ← Nat.mul_assoc, ← Nat.mul_assoc]; omega
  rw [en]
  obtain ⟨w1, w2⟩ := rootFrom_log (4 * N)
  generalize Datum.rootFrom (4 * N) ((4 * N).log2 / 2 + 1) 0 = w at w1 w2 ⊢
  have hqw : w / 2 = q := by
    apply sq_unique (n := N) _ _ hq1 hq2
    · have h1 : (2 * (w / 2)) * (2 * (w / 2)) ≤ w * w := Nat.mul_le_mul (by omega) (by omega)
      have h2 : (2 * (w / 2)) * (2 * (w / 2)) = 4 * ((w / 2) * (w / 2)) := by rw [Nat.mul_assoc, Nat.mul_left_comm (w/2)]; omega
      omega
    · have h1 : (w + 1) * (w + 1) ≤ (2 * (w / 2 + 1)) * (2 * (w / 2 + 1)) := Nat.mul_le_mul (by omega) (by omega)
      have h2 : (2 * (w / 2 + 1)) * (2 * (w / 2 + 1)) = 4 * ((w / 2 + 1) * (w / 2 + 1)) := by rw [Nat.mul_assoc, Nat.mul_left_comm (w/2+1)]; omega
      omega
  have hNlo : 4503599627370496 * 18014398509481984 ≤ N := by
    rw [hN, Nat.pow_add]
    have h1 : (1 : Nat) ≤ 2 ^ t := Nat.pow_pos (by omega)
    have h2 : 4503599627370496 * (2 ^ 54 * 1) ≤ M * (2 ^ 54 * 2 ^ t) := Nat.mul_le_mul hM.1 (Nat.mul_le_mul_left _ h1)
    omega
  have htl : t ≤ 1 := by omega
  have hNhi : N < 9007199254740992 * 36028797018963968 := by
    rw [hN]
    have h1 : (2 : Nat) ^ (54 + t) ≤ 2 ^ 55 := Nat.pow_le_pow_right (by omega) (by omega)
    have h2 : M * 2 ^ (54 + t) ≤ M * 2 ^ 55 := Nat.mul_le_mul_left _ h1
    have h3 : M * 2 ^ 55 < 9007199254740992 * 2 ^ 55 := (Nat.mul_lt_mul_right (by decide)).2 hM.2
    omega
  have hwlo : 18014398509481984 ≤ w := by
    rcases Nat.lt_or_ge w 18014398509481984 with h | h
    · have := Nat.mul_le_mul (show w + 1 ≤ 18014398509481984 from h) (show w + 1 ≤ 18014398509481984 from h); omega
    · exact h
  have hwhi : w < 36028797018963968 := by
    rcases Nat.lt_or_ge w 36028797018963968 with h | h
    · exact h
    · have := Nat.mul_le_mul h h; omega
  have hodd : q % 2 = 1 → ¬ (w % 2 = 0 ∧ w * w = 4 * N) := by
    rintro hq ⟨h1, h2⟩
    have h3 : w = 2 * q := by omega
    have h4 : q * q = N := by
      rw [h3] at h2
      have : 2 * q * (2 * q) = 4 * (q * q) := by rw [Nat.mul_assoc, Nat.mul_left_comm q]; omega
      omega
    have h5 : N % 2 = 0 := by rw [hN, show 54 + t = 53 + t + 1 by omega, Nat.pow_succ, ← Nat.mul_assoc]; omega
    rw [← h4, Nat.mul_mod, hq] at h5
    omega
  simp only [Option.map_some, Ieee.Format.write]
  congr 1
  have hst : (w * w != 4 * N).toNat = if w * w = 4 * N then 0 else 1 := by
    by_cases h : w * w = 4 * N <;> simp [h]
  rw [hst]
  generalize hv : 2 * w + (if w * w = 4 * N then 0 else 1) = V
  have hV : 36028797018963968 ≤ V ∧ V < 72057594037927936 := by
    split at hv <;> omega
  have hVlog : V.log2 = 55 := by rw [Nat.log2_eq_iff (by omega)]; constructor <;> omega
  have hplace : (i - ((56 + k + t : Nat) : Int)) / 2 - 1 = E - 55 := by omega
  rw [hplace]
  unfold Ieee.Format.nearest
  rw [if_neg (by omega), hVlog, hf]
  have hlast : max (E - 55 + ((55 : Nat) : Int) - ((52 : Nat) : Int)) (-1074) = E - 52 := by omega
  have hb : Ieee.double.binade = 4503599627370496 := by decide
  have hl : Ieee.double.leastPlace = -1074 := by decide
  have hir : Ieee.double.infRung = 9218868437227405312 := by decide
  simp only [hb, hl, hir]
  rw [hlast]
  have d1 : (E - 55 - (E - 52)).toNat = 0 := by omega
  have d2 : (E - 52 - (E - 55)).toNat = 3 := by omega
  have d3 : (E - 52 - -1074).toNat = (E + 1022).toNat := by omega
  rw [d1, d2, d3, Nat.shiftLeft_zero]
  have hcut : Toward.even.cut false V 3 = q / 2 + q % 2 := by
    unfold Toward.cut
    rw [hVlog]
    simp only [show min 3 (55 + 2) = 3 by decide, Nat.shiftLeft_eq, Nat.one_mul, show (2 : Nat) ^ 3 = 8 by decide]
    have h8 : V / 8 = q / 2 := by split at hv <;> omega
    rw [h8]
    congr 1
    have hq2 : q % 2 = 0 ∨ q % 2 = 1 := by omega
    rcases hq2 with h | h
    · have : V % 8 ≤ 3 := by split at hv <;> omega
      rw [h]
      have h5 : ¬ 8 < 2 * (V % 8) := by omega
      have h6 : ¬ 8 = 2 * (V % 8) := by omega
      simp [h5, h6]
    · have h4 : 4 < V % 8 := by
        have := hodd h
        split at hv <;> omega
      rw [h]
      have h5 : 8 < 2 * (V % 8) := by omega
      simp [h5]
  rw [hcut]
  unfold Ieee.Format.word
  simp only [Bool.false_eq_true, if_false]
  rw [Nat.min_eq_left]
  have : (E + 1022).toNat ≤ 1533 := by omega
  have hq3 : q / 2 + q % 2 ≤ 9007199254740992 := by omega
  have h9 : (E + 1022).toNat * 4503599627370496 ≤ 1533 * 4503599627370496 := Nat.mul_le_mul_right _ this
  exact Nat.le_trans (Nat.add_le_add h9 hq3) (by decide)
end Go.Ev
