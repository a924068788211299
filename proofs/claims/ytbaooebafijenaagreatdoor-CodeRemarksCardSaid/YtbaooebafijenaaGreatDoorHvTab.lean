/- Functions of a small number, all at once. -/
import Derived.Test.YtbaooebafijenaaGreatDoorHvSimp
namespace Go.Ev
open Go
set_option linter.unusedSectionVars false
variable [Tabs]
def all2 {α : Type} (f : α → α → Bool) : List α → List α → Bool
  | [], [] => true
  | x :: xs, y :: ys => f x y && all2 f xs ys
  | _, _ => false
theorem all2_eq {α : Type} {f : α → α → Bool} (hf : ∀ x y, f x y = true → x = y) : ∀ l l', all2 f l l' = true → l = l'
  | [], [], _ => rfl
  | x :: xs, y :: ys, h => by
    simp only [all2, Bool.and_eq_true] at h
    rw [hf x y h.1, all2_eq hf xs ys h.2]
  | [], _ :: _, h => by cases h
  | _ :: _, [], h => by cases h
def beqV : Nat → Value → Value → Bool
  | _, .int k a, .int k' b => decide (k = k') && decide (a = b)
  | _, .bool a, .bool b => decide (a = b)
  | _, .string a, .string b => decide (a.data.toList = b.data.toList)
  | n + 1, .agg a, .agg b => all2 (beqV n) a.toList b.toList
  | n + 1, .tuple a, .tuple b => all2 (beqV n) a.toList b.toList
  | _, _, _ => false
theorem beqV_eq : ∀ (n : Nat) (x y : Value), beqV n x y = true → x = y := by
  intro n
  induction n with
  | zero =>
    intro x y h
    cases x <;> cases y <;> simp [beqV] at h ⊢
    · exact h
    · exact h
    · rename_i a b
      cases a; cases b; rename_i a b
      simp only [ByteArray.mk.injEq]
      simp only [Array.toList_inj] at h; exact h
  | succ n ih =>
    intro x y h
    cases x <;> cases y <;> simp [beqV] at h ⊢
    · exact h
    · exact h
    · rename_i a b
      cases a; cases b; rename_i a b
      simp only [ByteArray.mk.injEq]
      simp only [Array.toList_inj] at h; exact h
    · exact Array.toList_inj.1 (all2_eq ih _ _ h)
    · exact Array.toList_inj.1 (all2_eq ih _ _ h)
def okR (r : R) (v : Value) : Bool :=
  match r with
  | some (.ret x, _) => beqV 3 x v && flat x
  | _ => false
theorem okR_floor {r : R} {v : Value} (h : okR r v = true) (H : Hp) : movR [] H r = some (.ret v, H) := by
  unfold okR at h
  split at h
  · simp only [Bool.and_eq_true] at h
    have := beqV_eq _ _ _ h.1
    subst this
    exact movR_flat h.2
  · cases h
theorem okR_range {F : Int → R} {T : Int → Value} (m : Nat) (h : (List.range m).all (fun i => okR (F i) (T i)) = true) (op : Int) (h0 : 0 ≤ op ∧ op < m) (H : Hp) : movR [] H (F op) = some (.ret (T op), H) := by
  obtain ⟨k, rfl⟩ := Int.eq_ofNat_of_zero_le h0.1
  have hk : k < m := by omega
  exact okR_floor (List.all_eq_true.1 h k (List.mem_range.2 hk)) H
end Go.Ev
