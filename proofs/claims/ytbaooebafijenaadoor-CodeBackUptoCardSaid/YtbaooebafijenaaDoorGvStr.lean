/- Strings as rewriting rules. -/
import Derived.Test.YtbaooebafijenaaDoorGvMem
import Derived.Test.YtbaooebafijenaaDoorGvLib
import Derived.Lib.Strings
import Derived.Lib.IndexBytes
import Derived.IntWalk
namespace Go.Ev
open Go
set_option linter.unusedSectionVars false
theorem bin_in : bin 5 .eql .nilIface .nilIface = some (.bool true) := rfl
theorem bin_ic (t : TypeId) (v : Value) : bin 5 .eql (.iface t v) .nilIface = some (.bool false) := rfl
theorem bytes_inj {a b : ByteArray} (h : a.data.toList = b.data.toList) : a = b := by
  obtain ⟨⟨x⟩⟩ := a
  obtain ⟨⟨y⟩⟩ := b
  simp at h
  rw [h]
theorem str_eq (a b : ByteArray) : (a.toList == b.toList) = decide (a = b) := by
  rw [Lib.toList_data, Lib.toList_data]
  by_cases h : a = b
  · simp [h]
  · have : ¬ a.data.toList = b.data.toList := fun e => h (bytes_inj e)
    rw [decide_eq_false h]
    exact beq_false_of_ne this
theorem bin_sq (q : Nat) (a b : ByteArray) : bin q .eql (.string a) (.string b) = some (.bool (decide (a = b))) := by
  rw [bin_seq, str_eq]
theorem bin_sn (q : Nat) (a b : ByteArray) : bin q .neq (.string a) (.string b) = some (.bool (decide (¬ a = b))) := by
  rw [bin_sne, str_eq, not_dec]
theorem str_at (s : ByteArray) (i : Nat) (h : i < s.size) : ∃ c, s[i]? = some c ∧ s.data.toList.drop i = c :: s.data.toList.drop (i + 1) := by
  refine ⟨s[i], getElem?_pos s i h, ?_⟩
  have h2 := Lib.data_getElem? s i h
  have h' : i < s.data.toList.length := by rw [← Lib.size_eq]; exact h
  rw [List.drop_eq_getElem_cons h']
  rw [List.getElem?_eq_getElem h'] at h2
  rw [Option.some.inj h2]
theorem slS_lh (s : ByteArray) (k k' : IntKind) (l h : Int) : slS (.string s) (some (.int k l)) (some (.int k' h)) = if 0 ≤ l ∧ l ≤ h ∧ h ≤ (s.size : Int) then some (.string (s.extract l.toNat h.toNat)) else none := rfl
theorem slS_l (s : ByteArray) (k : IntKind) (l : Int) : slS (.string s) (some (.int k l)) none = if 0 ≤ l ∧ l ≤ (s.size : Int) ∧ (s.size : Int) ≤ (s.size : Int) then some (.string (s.extract l.toNat s.size)) else none := rfl
theorem slS_h (s : ByteArray) (k : IntKind) (h : Int) : slS (.string s) none (some (.int k h)) = if (0 : Int) ≤ 0 ∧ 0 ≤ h ∧ h ≤ (s.size : Int) then some (.string (s.extract 0 h.toNat)) else none := rfl
theorem slV_lh (sz b o n c : Nat) (k k' : IntKind) (l h : Int) : slV sz (.slice (some ⟨b, o, none⟩) n c) (some (.int k l)) (some (.int k' h)) =
    if c = sz ∧ 0 ≤ l ∧ l ≤ h ∧ h ≤ (n : Int) then some (.slice (some ⟨b, o + l.toNat * sz, none⟩) (h.toNat - l.toNat) sz) else none := rfl
theorem slV_l (sz b o n c : Nat) (k : IntKind) (l : Int) : slV sz (.slice (some ⟨b, o, none⟩) n c) (some (.int k l)) none =
    if c = sz ∧ 0 ≤ l ∧ l ≤ (n : Int) ∧ (n : Int) ≤ (n : Int) then some (.slice (some ⟨b, o + l.toNat * sz, none⟩) (n - l.toNat) sz) else none := rfl
theorem slV_h (sz b o n c : Nat) (k : IntKind) (h : Int) : slV sz (.slice (some ⟨b, o, none⟩) n c) none (some (.int k h)) =
    if c = sz ∧ (0 : Int) ≤ 0 ∧ 0 ≤ h ∧ h ≤ (n : Int) then some (.slice (some ⟨b, o + 0 * sz, none⟩) (h.toNat - 0) sz) else none := rfl
theorem slV_n (sz b o n c : Nat) : slV sz (.slice (some ⟨b, o, none⟩) n c) none none =
    if c = sz ∧ (0 : Int) ≤ 0 ∧ (0 : Int) ≤ (n : Int) ∧ (n : Int) ≤ (n : Int) then some (.slice (some ⟨b, o + 0 * sz, none⟩) (n - 0) sz) else none := rfl
theorem int_nonneg (n : Nat) : (0 ≤ (n : Int)) = True := eq_true (by omega)
theorem int_le_self (n : Nat) : ((n : Int) ≤ (n : Int)) = True := eq_true (Int.le_refl _)
end Go.Ev
