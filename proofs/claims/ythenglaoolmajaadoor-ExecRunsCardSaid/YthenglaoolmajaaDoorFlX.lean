/- What is told of the float functions: by their walks. -/
import Derived.Test.YthenglaoolmajaaDoorFlA
import Derived.Test.YthenglaoolmajaaDoorCodeA
namespace Go.Proofs.YthenglaoolmajaaDoor
open Go Go.Ev
def extF (f : FuncId) (args : List Value) : Option Value :=
  match f, args with
  | 69, [.int .i64 op, .int .u64 a, .int .u64 b] => if 46 ≤ op ∧ op ≤ 54 then some (.tuple #[.int .u64 (arV op a b), .int .i64 0]) else none
  | 70, [.int .i64 op, .int .u64 a, .int .u64 b] => some (cmV op a b)
  | 72, [.int .u64 a] => some (.int .u32 (tiV a))
  | 73, [.int .u32 a] => some (.int .u64 (fiV a))
  | 57, [.int .i64 op, .int .u64 a, .int .u64 b] => if (46 ≤ op ∧ op ≤ 54) ∧ (0 ≤ a ∧ a < 18446744073709551616) ∧ (0 ≤ b ∧ b < 18446744073709551616) then some (.tuple #[.int .u64 (arV op a b), .int .i64 0]) else none
  | 60, [.int .u32 a] => some (.int .u64 (fiV a))
  | 61, [.int .u64 a] => if 0 ≤ a ∧ a < 18446744073709551616 then some (.int .u32 (tiV a)) else none
  | _, _ => none
instance xtF : Xt := ⟨extF⟩
theorem v69 (n : Nat) (H : Hp) (op a b : Int) (h : (46 ≤ op ∧ op ≤ 54) = True) : evCall cfc (n+1) 69 [.int .i64 op, .int .u64 a, .int .u64 b] H = some (.ret (.tuple #[.int .u64 (arV op a b), .int .i64 0]), H) := by
  have e : cfc.ext 69 [.int .i64 op, .int .u64 a, .int .u64 b] = some (.tuple #[.int .u64 (arV op a b), .int .i64 0]) := by
    show (if 46 ≤ op ∧ op ≤ 54 then some _ else none) = _
    rw [if_pos (of_eq_true h)]
  simp only [evCall, e]
theorem v70 (n : Nat) (H : Hp) (op a b : Int) : evCall cfc (n+1) 70 [.int .i64 op, .int .u64 a, .int .u64 b] H = some (.ret (cmV op a b), H) := rfl
theorem v70_55 (n : Nat) (H : Hp) (a b : Int) : evCall cfc (n+1) 70 [.int .i64 55, .int .u64 a, .int .u64 b] H = some (.ret (.tuple #[.int .u32 (b2i (Ieee.double.order a.toNat b.toNat == some .eq)), .int .i64 0]), H) := rfl
theorem v70_56 (n : Nat) (H : Hp) (a b : Int) : evCall cfc (n+1) 70 [.int .i64 56, .int .u64 a, .int .u64 b] H = some (.ret (.tuple #[.int .u32 (b2i (Ieee.double.order a.toNat b.toNat == some .lt)), .int .i64 0]), H) := rfl
theorem v70_57 (n : Nat) (H : Hp) (a b : Int) : evCall cfc (n+1) 70 [.int .i64 57, .int .u64 a, .int .u64 b] H = some (.ret (.tuple #[.int .u32 (b2i (Ieee.double.order a.toNat b.toNat == some .lt || Ieee.double.order a.toNat b.toNat == some .eq)), .int .i64 0]), H) := rfl
theorem v72 (n : Nat) (H : Hp) (a : Int) : evCall cfc (n+1) 72 [.int .u64 a] H = some (.ret (.int .u32 (tiV a)), H) := rfl
theorem v73 (n : Nat) (H : Hp) (a : Int) : evCall cfc (n+1) 73 [.int .u32 a] H = some (.ret (.int .u64 (fiV a)), H) := rfl
theorem v57 (n : Nat) (H : Hp) (op a b : Int) (h : (46 ≤ op ∧ op ≤ 54) = True) (ha : (0 ≤ a ∧ a < 18446744073709551616) = True) (hb : (0 ≤ b ∧ b < 18446744073709551616) = True) : evCall cfc (n+1) 57 [.int .i64 op, .int .u64 a, .int .u64 b] H = some (.ret (.tuple #[.int .u64 (arV op a b), .int .i64 0]), H) := by
  have e : cfc.ext 57 [.int .i64 op, .int .u64 a, .int .u64 b] = some (.tuple #[.int .u64 (arV op a b), .int .i64 0]) := by
    show (if (46 ≤ op ∧ op ≤ 54) ∧ (0 ≤ a ∧ a < 18446744073709551616) ∧ (0 ≤ b ∧ b < 18446744073709551616) then some _ else none) = _
    rw [if_pos ⟨of_eq_true h, of_eq_true ha, of_eq_true hb⟩]
  simp only [evCall, e]
theorem v60 (n : Nat) (H : Hp) (a : Int) : evCall cfc (n+1) 60 [.int .u32 a] H = some (.ret (.int .u64 (fiV a)), H) := rfl
theorem v61 (n : Nat) (H : Hp) (a : Int) (ha : (0 ≤ a ∧ a < 18446744073709551616) = True) : evCall cfc (n+1) 61 [.int .u64 a] H = some (.ret (.int .u32 (tiV a)), H) := by
  have e : cfc.ext 61 [.int .u64 a] = some (.int .u32 (tiV a)) := by
    show (if (0 ≤ a ∧ a < 18446744073709551616) then some _ else none) = _
    rw [if_pos (of_eq_true ha)]
  simp only [evCall, e]
end Go.Proofs.YthenglaoolmajaaDoor
