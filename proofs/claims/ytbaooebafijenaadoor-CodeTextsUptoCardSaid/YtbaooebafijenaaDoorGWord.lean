/- Words of a text: numbers without needless noughts, labels. -/
import Derived.Test.YtbaooebafijenaaDoorGCodeA
import Derived.Test.YtbaooebafijenaaDoorGvBun
namespace Go.Proofs.YtbaooebafijenaaDoor
open Go Go.Ev
set_option maxRecDepth 100000
set_option linter.unusedSimpArgs false
set_option linter.unusedVariables false
set_option maxHeartbeats 2000000
set_option linter.unusedSectionVars false
variable [Mx]
attribute [local congr] bind_front callK_front jn_front ifB_front ifG_front lp_front
/-- a number without needless noughts: the number, and is it one? -/
def wholeV (s : ByteArray) : Int × Bool :=
  match Lib.atoiAll s.data.toList with
  | .ok v => (v, decide (itoaB v = s))
  | .range => (Lib.atoiSat s.data.toList, false)
  | _ => (0, false)
theorem e86 (n : Nat) (s : ByteArray) (hs : s.size ≤ 281474976710656) (H : Hp) : evCall cfc (n+1) 86 [.string s] H = some (.ret (atoiV s), H) :=
  evCall_ext (show extL 86 [.string s] = some (atoiV s) from if_pos hs) n H
theorem e24 (n : Nat) (z : Int) (hz : -9223372036854775808 ≤ z ∧ z ≤ 9223372036854775807) (H : Hp) : evCall cfc (n+1) 24 [.int .i64 z] H = some (.ret (.string (itoaB z)), H) :=
  evCall_ext (show extL 24 [.int .i64 z] = some (.string (itoaB z)) from if_pos hz) n H
theorem q73 (n : Nat) (x0 : Value) (hx0 : flat x0 = true) (H : Hp) : evCall cfc (n+1) 73 [x0] H = movR [] H (s73 (evCall cfc n) n x0 Hp.fl) := by
  rw [evCall_quiet (fn := Tryd.f73) (by rfl) (by rfl) Tryd.func73 (by rfl) (by simp [hx0])]
  exact congrArg (movR [] H) (s73_eq _ _ _ _)
theorem flat_ib (k : IntKind) (a : Int) (b : Bool) : flat (.tuple #[.int k a, .bool b]) = true := rfl
theorem v73 (n : Nat) (s : ByteArray) (hs : s.size ≤ 281474976710656) (H : Hp) : evCall cfc (n+2) 73 [.string s] H = some (.ret (.tuple #[.int .i64 (wholeV s).1, .bool (wholeV s).2]), H) := by
  rw [q73 (n+1) _ rfl H]
  have h := e86 n s hs
  unfold atoiV at h
  unfold wholeV
  cases hat : Lib.atoiAll s.data.toList with
  | ok v =>
    rw [hat] at h
    have hz := Lib.atoiAll_bounds hat
    have h2 := e24 n v hz
    simp -implicitDefEqProofs only [s73, h, h2, ↓GVdn, GVup, goInt, splice, okC, Fr.of, Fr.ofI, Fr.g, Nat.reduceAdd, Nat.reduceMul, Nat.reduceEqDiff, Nat.reduceLT, Nat.reduceLeDiff, Nat.reduceBEq, Int.reduceLT, Int.reduceLE, Int.reduceToNat, Int.reduceAdd, Int.reduceSub, Int.reduceMul, Int.reduceEq, Int.reduceNeg, ↓reduceIte, ↓reduceDIte, Nat.beq, reduceCtorEq, Value.int.injEq, Nat.reduceSub, sto_ptr, lp_succ, flat_ib]
  | range =>
    rw [hat] at h
    simp -implicitDefEqProofs only [s73, h, ↓GVdn, GVup, goInt, splice, okC, Fr.of, Fr.ofI, Fr.g, Nat.reduceAdd, Nat.reduceMul, Nat.reduceEqDiff, Nat.reduceLT, Nat.reduceLeDiff, Nat.reduceBEq, Int.reduceLT, Int.reduceLE, Int.reduceToNat, Int.reduceAdd, Int.reduceSub, Int.reduceMul, Int.reduceEq, Int.reduceNeg, ↓reduceIte, ↓reduceDIte, Nat.beq, reduceCtorEq, Value.int.injEq, Nat.reduceSub, sto_ptr, lp_succ, flat_ib]
  | _ =>
    rw [hat] at h
    simp -implicitDefEqProofs only [s73, h, ↓GVdn, GVup, goInt, splice, okC, Fr.of, Fr.ofI, Fr.g, Nat.reduceAdd, Nat.reduceMul, Nat.reduceEqDiff, Nat.reduceLT, Nat.reduceLeDiff, Nat.reduceBEq, Int.reduceLT, Int.reduceLE, Int.reduceToNat, Int.reduceAdd, Int.reduceSub, Int.reduceMul, Int.reduceEq, Int.reduceNeg, ↓reduceIte, ↓reduceDIte, Nat.beq, reduceCtorEq, Value.int.injEq, Nat.reduceSub, sto_ptr, lp_succ, flat_ib]
theorem q78 (n : Nat) (x0 : Value) (hx0 : flat x0 = true) (H : Hp) : evCall cfc (n+1) 78 [x0] H = movR [] H (s78 (evCall cfc n) n x0 Hp.fl) := by
  rw [evCall_quiet (fn := Tryd.f78) (by rfl) (by rfl) Tryd.func78 (by rfl) (by simp [hx0])]
  exact congrArg (movR [] H) (s78_eq _ _ _ _)
/-- a number of 32 bits, with a sign or without -/
def valueV (s : ByteArray) : Int × Bool := (IntKind.wrap .u32 (wholeV s).1, (wholeV s).2 && decide (-2147483648 ≤ (wholeV s).1 ∧ (wholeV s).1 < 4294967296))
theorem v78 (n : Nat) (s : ByteArray) (hs : s.size ≤ 281474976710656) (H : Hp) : evCall cfc (n+3) 78 [.string s] H = some (.ret (.tuple #[.int .u32 (valueV s).1, .bool (valueV s).2]), H) := by
  rw [q78 (n+2) _ rfl H]
  have h := v73 n s hs
  unfold valueV
  generalize wholeV s = p at h ⊢
  obtain ⟨z, b⟩ := p
  cases b with
  | false => simp -implicitDefEqProofs only [s78, h, ↓GVdn, GVup, goInt, splice, okC, Fr.of, Fr.ofI, Fr.g, Nat.reduceAdd, Nat.reduceMul, Nat.reduceEqDiff, Nat.reduceLT, Nat.reduceLeDiff, Nat.reduceBEq, Int.reduceLT, Int.reduceLE, Int.reduceToNat, Int.reduceAdd, Int.reduceSub, Int.reduceMul, Int.reduceEq, Int.reduceNeg, ↓reduceIte, ↓reduceDIte, Nat.beq, reduceCtorEq, Value.int.injEq, Nat.reduceSub, sto_ptr, lp_succ, flat_ib]
  | true =>
    by_cases h1 : -2147483648 ≤ z
    · by_cases h2 : z < 4294967296 <;> simp -implicitDefEqProofs only [s78, h, ↓GVdn, GVup, goInt, splice, okC, Fr.of, Fr.ofI, Fr.g, Nat.reduceAdd, Nat.reduceMul, Nat.reduceEqDiff, Nat.reduceLT, Nat.reduceLeDiff, Nat.reduceBEq, Int.reduceLT, Int.reduceLE, Int.reduceToNat, Int.reduceAdd, Int.reduceSub, Int.reduceMul, Int.reduceEq, Int.reduceNeg, ↓reduceIte, ↓reduceDIte, Nat.beq, reduceCtorEq, Value.int.injEq, Nat.reduceSub, sto_ptr, lp_succ, flat_ib, h1, h2]
    · simp -implicitDefEqProofs only [s78, h, ↓GVdn, GVup, goInt, splice, okC, Fr.of, Fr.ofI, Fr.g, Nat.reduceAdd, Nat.reduceMul, Nat.reduceEqDiff, Nat.reduceLT, Nat.reduceLeDiff, Nat.reduceBEq, Int.reduceLT, Int.reduceLE, Int.reduceToNat, Int.reduceAdd, Int.reduceSub, Int.reduceMul, Int.reduceEq, Int.reduceNeg, ↓reduceIte, ↓reduceDIte, Nat.beq, reduceCtorEq, Value.int.injEq, Nat.reduceSub, sto_ptr, lp_succ, flat_ib, h1, false_and]

/-- may this letter stand in a label, not ahead of it? -/
def letB (c : UInt8) : Bool := decide (97 ≤ c.toNat ∧ c.toNat ≤ 122) || decide (c.toNat = 95)
def digB (c : UInt8) : Bool := decide (48 ≤ c.toNat ∧ c.toNat ≤ 57)
def labC (i : Nat) (c : UInt8) : Bool := letB c || (decide (i ≠ 0) && digB c)
def labL : Nat → List UInt8 → Bool
  | _, [] => true
  | i, c :: l => labC i c && labL (i + 1) l
def labelV (s : ByteArray) : Bool := labL 0 s.data.toList && decide (¬ s = ⟨#[]⟩) && decide (s.size ≤ 16)
theorem lab_loop (C : Cl) (n : Nat) (s : ByteArray) (kx : Nat → Fr → Hp → Option (Out × Hp)) (kr : Fr → Hp → Option (Out × Hp)) (H : Hp) : ∀ (k i m : Nat), i + k = s.size → k < m → s.size ≤ 9223372036854775807 →
    lp (s52_b1 C n) m [.string s, .int .i64 s.size, .int .i64 i] H kx kr = if labL i (s.data.toList.drop i) = true then kx 0 (Fr.of [0, 2] [.string s, dead]) H else kr (Fr.of [0, 2] [.string s, .bool false]) H := by
  intro k
  induction k with
  | zero =>
    intro i m hi hm hs
    obtain ⟨m, rfl⟩ : ∃ q, m = q + 1 := ⟨m - 1, by omega⟩
    have e : s.data.toList.drop i = [] := List.drop_eq_nil_of_le (by rw [← Lib.size_eq]; omega)
    have hlt : ¬ ((i : Int) < (s.size : Int)) := by omega
    rw [lp_succ]
    simp -implicitDefEqProofs only [s52_b1, ↓GVdn, GVup, goInt, splice, okC, Fr.of, Fr.ofI, Fr.g, Nat.reduceAdd, Nat.reduceMul, Nat.reduceEqDiff, Nat.reduceLT, Nat.reduceLeDiff, Nat.reduceBEq, Int.reduceLT, Int.reduceLE, Int.reduceToNat, Int.reduceAdd, Int.reduceSub, Int.reduceMul, Int.reduceEq, Int.reduceNeg, ↓reduceIte, ↓reduceDIte, Nat.beq, reduceCtorEq, Value.int.injEq, Nat.reduceSub, sto_ptr, hlt, e, labL]
  | succ k ih =>
    intro i m hi hm hs
    obtain ⟨m, rfl⟩ : ∃ q, m = q + 1 := ⟨m - 1, by omega⟩
    have hlt : ((i : Int) < (s.size : Int)) := by omega
    obtain ⟨c, hc, hd⟩ := str_at s i (by omega)
    have ih := ih (i + 1) m (by omega) (by omega) hs
    have hw : IntKind.wrap .i64 ((i : Int) + 1) = ((i + 1 : Nat) : Int) := by rw [IntWalk.i64_in _ (by omega)]; rfl
    have hi0 : (0 : Int) ≤ (i : Int) := by omega
    rw [lp_succ, hd]
    simp only [labL]
    have hL : ((97 ≤ (c.toNat : Int)) = True ∧ ((c.toNat : Int) ≤ 122) = True ∧ labC i c = true) ∨ ((97 ≤ (c.toNat : Int)) = False ∧ ((c.toNat : Int) = 95) = True ∧ labC i c = true) ∨
        ((97 ≤ (c.toNat : Int)) = True ∧ ((c.toNat : Int) ≤ 122) = False ∧ ((c.toNat : Int) = 95) = False ∧ letB c = false) ∨ ((97 ≤ (c.toNat : Int)) = False ∧ ((c.toNat : Int) = 95) = False ∧ letB c = false) := by
      have e : letB c = decide ((97 ≤ c.toNat ∧ c.toNat ≤ 122) ∨ c.toNat = 95) := by unfold letB; by_cases h1 : 97 ≤ c.toNat ∧ c.toNat ≤ 122 <;> by_cases h2 : c.toNat = 95 <;> simp [h1, h2]
      simp only [labC, e, eq_iff_iff, iff_true, iff_false, Bool.or_eq_true, decide_eq_true_eq, decide_eq_false_iff_not]
      omega
    have hR : letB c = false → ((((i : Int) = 0) = True ∧ labC i c = false) ∨ (((i : Int) = 0) = False ∧ ((c.toNat : Int) < 48) = True ∧ labC i c = false) ∨ (((i : Int) = 0) = False ∧ ((c.toNat : Int) < 48) = False ∧ (57 < (c.toNat : Int)) = True ∧ labC i c = false) ∨
        (((i : Int) = 0) = False ∧ ((c.toNat : Int) < 48) = False ∧ (57 < (c.toNat : Int)) = False ∧ labC i c = true)) := by
      intro hl
      simp only [labC, hl, digB, Bool.false_or, Bool.and_eq_false_iff, Bool.and_eq_true, decide_eq_false_iff_not, decide_eq_true_eq, eq_iff_iff, iff_true, iff_false]
      omega
    rcases hL with ⟨a1, a2, hlab⟩ | ⟨a1, a3, hlab⟩ | ⟨a1, a2, a3, hlb⟩ | ⟨a1, a3, hlb⟩
    · simp -implicitDefEqProofs only [s52_b1, ↓GVdn, GVup, goInt, splice, okC, Fr.of, Fr.ofI, Fr.g, Nat.reduceAdd, Nat.reduceMul, Nat.reduceEqDiff, Nat.reduceLT, Nat.reduceLeDiff, Nat.reduceBEq, Int.reduceLT, Int.reduceLE, Int.reduceToNat, Int.reduceAdd, Int.reduceSub, Int.reduceMul, Int.reduceEq, Int.reduceNeg, ↓reduceIte, ↓reduceDIte, Nat.beq, reduceCtorEq, Value.int.injEq, Nat.reduceSub, sto_ptr, hlt, hi0, hc, hw, ih, a1, a2, hlab]
    · simp -implicitDefEqProofs only [s52_b1, ↓GVdn, GVup, goInt, splice, okC, Fr.of, Fr.ofI, Fr.g, Nat.reduceAdd, Nat.reduceMul, Nat.reduceEqDiff, Nat.reduceLT, Nat.reduceLeDiff, Nat.reduceBEq, Int.reduceLT, Int.reduceLE, Int.reduceToNat, Int.reduceAdd, Int.reduceSub, Int.reduceMul, Int.reduceEq, Int.reduceNeg, ↓reduceIte, ↓reduceDIte, Nat.beq, reduceCtorEq, Value.int.injEq, Nat.reduceSub, sto_ptr, hlt, hi0, hc, hw, ih, a1, a3, hlab]
    · rcases hR hlb with ⟨b1, hlab⟩ | ⟨b1, b2, hlab⟩ | ⟨b1, b2, b3, hlab⟩ | ⟨b1, b2, b3, hlab⟩
      all_goals simp -implicitDefEqProofs only [s52_b1, ↓GVdn, GVup, goInt, splice, okC, Fr.of, Fr.ofI, Fr.g, Nat.reduceAdd, Nat.reduceMul, Nat.reduceEqDiff, Nat.reduceLT, Nat.reduceLeDiff, Nat.reduceBEq, Int.reduceLT, Int.reduceLE, Int.reduceToNat, Int.reduceAdd, Int.reduceSub, Int.reduceMul, Int.reduceEq, Int.reduceNeg, ↓reduceIte, ↓reduceDIte, Nat.beq, reduceCtorEq, Value.int.injEq, Nat.reduceSub, sto_ptr, hlt, hi0, hc, hw, ih, *]
    · rcases hR hlb with ⟨b1, hlab⟩ | ⟨b1, b2, hlab⟩ | ⟨b1, b2, b3, hlab⟩ | ⟨b1, b2, b3, hlab⟩
      all_goals simp -implicitDefEqProofs only [s52_b1, ↓GVdn, GVup, goInt, splice, okC, Fr.of, Fr.ofI, Fr.g, Nat.reduceAdd, Nat.reduceMul, Nat.reduceEqDiff, Nat.reduceLT, Nat.reduceLeDiff, Nat.reduceBEq, Int.reduceLT, Int.reduceLE, Int.reduceToNat, Int.reduceAdd, Int.reduceSub, Int.reduceMul, Int.reduceEq, Int.reduceNeg, ↓reduceIte, ↓reduceDIte, Nat.beq, reduceCtorEq, Value.int.injEq, Nat.reduceSub, sto_ptr, hlt, hi0, hc, hw, ih, *]
theorem q52 (n : Nat) (x0 : Value) (hx0 : flat x0 = true) (H : Hp) : evCall cfc (n+1) 52 [x0] H = movR [] H (s52 (evCall cfc n) n x0 Hp.fl) := by
  rw [evCall_quiet (fn := Tryd.f52) (by rfl) (by rfl) Tryd.func52 (by rfl) (by simp [hx0])]
  exact congrArg (movR [] H) (s52_eq _ _ _ _)
theorem v52 (n : Nat) (s : ByteArray) (hs : s.size ≤ 9223372036854775807) (hn : s.size < n) (H : Hp) : evCall cfc (n+1) 52 [.string s] H = some (.ret (.bool (labelV s)), H) := by
  rw [q52 n _ rfl H]
  have hl := lab_loop (evCall cfc n) n s
  have h0 : ∀ kx kr H, lp (s52_b1 (evCall cfc n) n) n [.string s, .int .i64 s.size, .int .i64 0] H kx kr = if labL 0 s.data.toList = true then kx 0 (Fr.of [0, 2] [.string s, dead]) H else kr (Fr.of [0, 2] [.string s, .bool false]) H :=
    fun kx kr H => hl kx kr H s.size 0 n (by omega) hn hs
  unfold labelV
  cases hb : labL 0 s.data.toList with
  | false =>
    rw [hb] at h0
    simp -implicitDefEqProofs only [s52, ↓GVdn, GVup, goInt, splice, okC, Fr.of, Fr.ofI, Fr.g, Nat.reduceAdd, Nat.reduceMul, Nat.reduceEqDiff, Nat.reduceLT, Nat.reduceLeDiff, Nat.reduceBEq, Int.reduceLT, Int.reduceLE, Int.reduceToNat, Int.reduceAdd, Int.reduceSub, Int.reduceMul, Int.reduceEq, Int.reduceNeg, ↓reduceIte, ↓reduceDIte, Nat.beq, reduceCtorEq, Value.int.injEq, Nat.reduceSub, sto_ptr, h0, flat_bool]
  | true =>
    rw [hb] at h0
    by_cases he : s = ⟨#[]⟩
    · subst he
      simp -implicitDefEqProofs only [s52, ↓GVdn, GVup, goInt, splice, okC, Fr.of, Fr.ofI, Fr.g, Nat.reduceAdd, Nat.reduceMul, Nat.reduceEqDiff, Nat.reduceLT, Nat.reduceLeDiff, Nat.reduceBEq, Int.reduceLT, Int.reduceLE, Int.reduceToNat, Int.reduceAdd, Int.reduceSub, Int.reduceMul, Int.reduceEq, Int.reduceNeg, ↓reduceIte, ↓reduceDIte, Nat.beq, reduceCtorEq, Value.int.injEq, Nat.reduceSub, sto_ptr, h0, flat_bool]
    · by_cases h16 : (s.size : Int) ≤ 16
      · have h17 : s.size ≤ 16 := by omega
        simp -implicitDefEqProofs only [s52, ↓GVdn, GVup, goInt, splice, okC, Fr.of, Fr.ofI, Fr.g, Nat.reduceAdd, Nat.reduceMul, Nat.reduceEqDiff, Nat.reduceLT, Nat.reduceLeDiff, Nat.reduceBEq, Int.reduceLT, Int.reduceLE, Int.reduceToNat, Int.reduceAdd, Int.reduceSub, Int.reduceMul, Int.reduceEq, Int.reduceNeg, ↓reduceIte, ↓reduceDIte, Nat.beq, reduceCtorEq, Value.int.injEq, Nat.reduceSub, sto_ptr, h0, flat_bool, he, h16, h17]
      · have h17 : ¬ s.size ≤ 16 := by omega
        simp -implicitDefEqProofs only [s52, ↓GVdn, GVup, goInt, splice, okC, Fr.of, Fr.ofI, Fr.g, Nat.reduceAdd, Nat.reduceMul, Nat.reduceEqDiff, Nat.reduceLT, Nat.reduceLeDiff, Nat.reduceBEq, Int.reduceLT, Int.reduceLE, Int.reduceToNat, Int.reduceAdd, Int.reduceSub, Int.reduceMul, Int.reduceEq, Int.reduceNeg, ↓reduceIte, ↓reduceDIte, Nat.beq, reduceCtorEq, Value.int.injEq, Nat.reduceSub, sto_ptr, h0, flat_bool, he, h16, h17]
end Go.Proofs.YtbaooebafijenaaDoor
