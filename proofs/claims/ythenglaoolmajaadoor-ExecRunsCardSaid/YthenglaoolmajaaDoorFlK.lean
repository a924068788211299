/- What is told of the float functions is so. -/
import Derived.Test.YthenglaoolmajaaDoorFlX
import Derived.Test.YthenglaoolmajaaDoorExecY
import Derived.Test.YthenglaoolmajaaDoorFlB
namespace Go.Proofs.YthenglaoolmajaaDoor
open Go Go.Ev
@[reducible] def xtN : Xt := ⟨fun _ _ => none⟩
theorem xtOKN : @XtOK xtN := fun f args v _ h => by cases h
theorem cc76 (a : Int) (ha : 0 ≤ a ∧ a < 18446744073709551616) (w : World) (hw : ∃ ρ H, Sim Tryd.prog ρ H w) : Calls Tryd.prog 76 #[.int .u64 a] w fun e w' => e = .returned (.int .u64 (sqF a.toNat)) ∧ PW w w' :=
  (tells (@okc xtN xtOKN _) (f := 76) rfl rfl (@v76 xtN 0 Hp.fl a ha)).2.2 w hw
theorem cc77 (l : Bool) (a b : Int) (ha : 0 ≤ a ∧ a < 18446744073709551616) (hb : 0 ≤ b ∧ b < 18446744073709551616) (w : World) (hw : ∃ ρ H, Sim Tryd.prog ρ H w) : Calls Tryd.prog 77 #[.bool l, .int .u64 a, .int .u64 b] w fun e w' => e = .returned (.int .u64 (pkV l a b)) ∧ PW w w' :=
  (tells (@okc xtN xtOKN _) (f := 77) rfl rfl (@v77 xtN 0 Hp.fl l a b (eq_true ha) (eq_true hb))).2.2 w hw
theorem qw_pw {w w' : World} (q : QW w w') : PW w w' := ⟨fun b _ => by rw [q.1], by rw [q.1]; exact Nat.le_refl _, q.2.1, q.2.2.1, q.2.2.2⟩
theorem t57 (op a b : Int) (h : 46 ≤ op ∧ op ≤ 54) (ha : 0 ≤ a ∧ a < 18446744073709551616) (hb : 0 ≤ b ∧ b < 18446744073709551616) (w : World) (hw : ∃ ρ H, Sim Tryd.prog ρ H w) : Calls Tryd.prog 57 #[.int .i64 op, .int .u64 a, .int .u64 b] w fun e w' => e = .returned (.tuple #[.int .u64 (arV op a b), .int .i64 0]) ∧ PW w w' := by
  have hw1 : ∀ {v}, (∀ e (w' : World), e = Ending.returned v ∧ w' = w → e = Ending.returned v ∧ PW w w') := fun e w' h => by obtain ⟨h1, rfl⟩ := h; exact ⟨h1, PW.refl⟩
  have hw2 : ∀ {v}, (∀ e (w' : World), e = Ending.returned v ∧ QW w w' → e = Ending.returned v ∧ PW w w') := fun e w' h => ⟨h.1, qw_pw h.2⟩
  have : op = 46 ∨ op = 47 ∨ op = 48 ∨ op = 49 ∨ op = 50 ∨ op = 51 ∨ op = 52 ∨ op = 53 ∨ op = 54 := by omega
  rcases this with rfl | rfl | rfl | rfl | rfl | rfl | rfl | rfl | rfl
  · exact (t57_46 a b w).mono hw2
  · exact (t57_47 a b w).mono hw2
  · exact (t57_48 a b w).mono hw2
  · exact (t57_49 a b w).mono hw2
  · exact t57_50 a b w (cc76 a ha w hw)
  · have := t57_51 a b w (cc77 true a b ha hb w hw)
    rw [pk_min a b ha hb] at this
    exact this
  · have := t57_52 a b w (cc77 false a b ha hb w hw)
    rw [pk_max a b ha hb] at this
    exact this
  · exact (t57_53 a b w).mono hw1
  · exact (t57_54 a b w).mono hw1
theorem xtOKF : XtOK := by
  intro f args v hf h
  have hb : ∀ g, (g = 57 ∨ g = 60 ∨ g = 61 ∨ g = 69 ∨ g = 70 ∨ g = 72 ∨ g = 73) → ∃ fn, Tryd.prog.funcs[g]? = some fn ∧ fn.name ≠ "runtime.NumGoroutine" ∧ fn.body.isSome = true := by
    intro g hg
    rcases hg with rfl | rfl | rfl | rfl | rfl | rfl | rfl
    · exact ⟨_, Tryd.func57, noNum _ _ Tryd.func57, by kernel_rfl⟩
    · exact ⟨_, Tryd.func60, noNum _ _ Tryd.func60, by kernel_rfl⟩
    · exact ⟨_, Tryd.func61, noNum _ _ Tryd.func61, by kernel_rfl⟩
    · exact ⟨_, Tryd.func69, noNum _ _ Tryd.func69, by kernel_rfl⟩
    · exact ⟨_, Tryd.func70, noNum _ _ Tryd.func70, by kernel_rfl⟩
    · exact ⟨_, Tryd.func72, noNum _ _ Tryd.func72, by kernel_rfl⟩
    · exact ⟨_, Tryd.func73, noNum _ _ Tryd.func73, by kernel_rfl⟩
  have hq : ∀ {w w' : World}, QW w w' → (∀ b, b < w.heap.size → w'.heap[b]? = w.heap[b]?) ∧ w.heap.size ≤ w'.heap.size ∧ w'.tape = w.tape ∧ w'.os = w.os ∧ w'.output = w.output := by
    intro w w' q
    exact ⟨fun b _ => by rw [q.1], by rw [q.1]; exact Nat.le_refl _, q.2.1, q.2.2.1, q.2.2.2⟩
  refine And.intro ?_ (And.intro (hb f hf) ?_)
  · change extF f args = some v at h
    unfold extF at h
    split at h
    · split at h
      · cases h; exact ⟨rfl, rfl⟩
      · cases h
    · cases h
      refine ⟨rfl, ?_⟩
      unfold cmV
      split
      · rfl
      · split
        · rfl
        · split <;> rfl
    · cases h; exact ⟨rfl, rfl⟩
    · cases h; exact ⟨rfl, rfl⟩
    · split at h
      · cases h; exact ⟨rfl, rfl⟩
      · cases h
    · cases h; exact ⟨rfl, rfl⟩
    · split at h
      · cases h; exact ⟨rfl, rfl⟩
      · cases h
    · cases h
  · intro w hw
    change extF f args = some v at h
    unfold extF at h
    split at h
    · split at h
      · rename_i hop
        cases h
        exact (t69 _ _ _ hop w).mono fun e w' h => ⟨h.1, hq h.2⟩
      · cases h
    · cases h
      exact (t70 _ _ _ w).mono fun e w' h => ⟨h.1, by rw [h.2]; exact hq QW.refl⟩
    · cases h
      exact (t72 _ w).mono fun e w' h => ⟨h.1, by rw [h.2]; exact hq QW.refl⟩
    · cases h
      exact (t73 _ w).mono fun e w' h => ⟨h.1, by rw [h.2]; exact hq QW.refl⟩
    · split at h
      · rename_i hop
        cases h
        exact t57 _ _ _ hop.1 hop.2.1 hop.2.2 w hw
      · cases h
    · cases h
      exact (t60 _ w).mono fun e w' h => ⟨h.1, by rw [h.2]; exact hq QW.refl⟩
    · split at h
      · rename_i ha
        cases h
        exact (t61 _ ha w).mono fun e w' h => ⟨h.1, by rw [h.2]; exact hq QW.refl⟩
      · cases h
    · cases h
end Go.Proofs.YthenglaoolmajaaDoor
