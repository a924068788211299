/- What is told of the float functions is so. -/
import Derived.Test.YthenglaoolmajaaDoorFlX
import Derived.Test.YthenglaoolmajaaDoorExecY
namespace Go.Proofs.YthenglaoolmajaaDoor
open Go Go.Ev
theorem xtOKF : XtOK := by
  intro f args v hf h
  have hb : ∀ g, (g = 57 ∨ g = 60 ∨ g = 61 ∨ g = 69 ∨ g = 70 ∨ g = 72 ∨ g = 73) → ∃ fn, Tryd.prog.funcs[g]? = some fn ∧ fn.name ≠ "runtime.NumGoroutine" ∧ fn.body.isSome = true := by
    intro g hg
    rcases hg with rfl | rfl | rfl | rfl | rfl | rfl | rfl
    · exact ⟨_, Tryd.func57, noNum _ _ Tryd.func57, by kernel_rfl⟩
    · exact ⟨_, Tryd.func60, noNum _ _ Tryd.func60, by kernel_rfl⟩
    · exact ⟨_, Tryd.func61, noNum _ _ Tryd.func61, by kernel_rfl⟩
    · exact ⟨_, Tryd.func69, noNum _ _ Tryd.func69, by kernel_rfl⟩
    · exact ⟨_, Tryd.func70, noNum _ _ Tryd.func70, by kernel_rfl⟩
    · exact ⟨_, Tryd.func72, noNum _ _ Tryd.func72, by kernel_rfl⟩
    · exact ⟨_, Tryd.func73, noNum _ _ Tryd.func73, by kernel_rfl⟩
  have hq : ∀ {w w' : World}, QW w w' → (∀ b, b < w.heap.size → w'.heap[b]? = w.heap[b]?) ∧ w.heap.size ≤ w'.heap.size ∧ w'.tape = w.tape ∧ w'.os = w.os ∧ w'.output = w.output := by
    intro w w' q
    exact ⟨fun b _ => by rw [q.1], by rw [q.1]; exact Nat.le_refl _, q.2.1, q.2.2.1, q.2.2.2⟩
  refine And.intro ?_ (And.intro (hb f hf) ?_)
  · change extF f args = some v at h
    unfold extF at h
    split at h
    · split at h
      · cases h; exact ⟨rfl, rfl⟩
      · cases h
    · cases h
      refine ⟨rfl, ?_⟩
      unfold cmV
      split
      · rfl
      · split
        · rfl
        · split <;> rfl
    · cases h; exact ⟨rfl, rfl⟩
    · cases h; exact ⟨rfl, rfl⟩
    · cases h
  · intro w _
    change extF f args = some v at h
    unfold extF at h
    split at h
    · split at h
      · rename_i hop
        cases h
        exact (t69 _ _ _ hop w).mono fun e w' h => ⟨h.1, hq h.2⟩
      · cases h
    · cases h
      exact (t70 _ _ _ w).mono fun e w' h => ⟨h.1, by rw [h.2]; exact hq QW.refl⟩
    · cases h
      exact (t72 _ w).mono fun e w' h => ⟨h.1, by rw [h.2]; exact hq QW.refl⟩
    · cases h
      exact (t73 _ w).mono fun e w' h => ⟨h.1, by rw [h.2]; exact hq QW.refl⟩
    · cases h
end Go.Proofs.YthenglaoolmajaaDoor
