/- The operation that has a name. -/
import Derived.Test.YtbaooebafijenaaGreatDoorHCodeA
import Derived.Test.YtbaooebafijenaaGreatDoorHvBun
namespace Go.Proofs.YtbaooebafijenaaGreatDoor
open Go Go.Ev
set_option maxRecDepth 100000
set_option linter.unusedSimpArgs false
set_option linter.unusedVariables false
set_option maxHeartbeats 2000000
set_option linter.unusedSectionVars false
variable [Mx]
attribute [local congr] bind_front callK_front jn_front ifB_front ifG_front lp_front
def wholeV (s : ByteArray) : Int × Bool :=
 match Lib.atoiAll s.data.toList with
 | .ok v => (v, decide (itoaB v = s))
 | .range => (Lib.atoiSat s.data.toList, false)
 | _ => (0, false)
theorem e86 (n : Nat) (s : ByteArray) (hs : s.size ≤ 281474976710656) (H : Hp) : evCall cfc (n+1) 79 [.string s] H = some (.ret (atoiV s), H) :=
 evCall_ext (show extL 79 [.string s] = some (atoiV s) from if_pos hs) n H
theorem e24 (n : Nat) (z : Int) (hz : -9223372036854775808 ≤ z ∧ z ≤ 9223372036854775807) (H : Hp) : evCall cfc (n+1) 80 [.int .i64 z] H = some (.ret (.string (itoaB z)), H) :=
 evCall_ext (show extL 80 [.int .i64 z] = some (.string (itoaB z)) from if_pos hz) n H
theorem q71 (n : Nat) (x0 : Value) (hx0 : flat x0 = true) (H : Hp) : evCall cfc (n+1) 71 [x0] H = movR [] H (s71 (evCall cfc n) n x0 Hp.fl) := by
 rw [evCall_quiet (fn := Tryz.f71) (by rfl) (by rfl) Tryz.func71 (by rfl) (by simp [hx0])]
 exact congrArg (movR [] H) (s71_eq _ _ _ _)
theorem flat_ib (k : IntKind) (a : Int) (b : Bool) : flat (.tuple #[.int k a, .bool b]) = true := rfl
theorem v71 (n : Nat) (s : ByteArray) (hs : s.size ≤ 281474976710656) (H : Hp) : evCall cfc (n+2) 71 [.string s] H = some (.ret (.tuple #[.int .i64 (wholeV s).1, .bool (wholeV s).2]), H) := by
 rw [q71 (n+1) _ rfl H]
 have h := e86 n s hs
 unfold atoiV at h
 unfold wholeV
 cases hat : Lib.atoiAll s.data.toList with
 | ok v =>
   rw [hat] at h
   have hz := Lib.atoiAll_bounds hat
   have h2 := e24 n v hz
   simp -implicitDefEqProofs only [s71, h, h2, ↓GVdn, GVup, goInt, splice, okC, Fr.of, Fr.ofI, Fr.g, Nat.reduceAdd, Nat.reduceMul, Nat.reduceEqDiff, Nat.reduceLT, Nat.reduceLeDiff, Nat.reduceBEq, Int.reduceLT, Int.reduceLE, Int.reduceToNat, Int.reduceAdd, Int.reduceSub, Int.reduceMul, Int.reduceEq, Int.reduceNeg, ↓reduceIte, ↓reduceDIte, Nat.beq, reduceCtorEq, Value.int.injEq, Nat.reduceSub, sto_ptr, lp_succ, flat_ib]
 | range =>
   rw [hat] at h
   simp -implicitDefEqProofs only [s71, h, ↓GVdn, GVup, goInt, splice, okC, Fr.of, Fr.ofI, Fr.g, Nat.reduceAdd, Nat.reduceMul, Nat.reduceEqDiff, Nat.reduceLT, Nat.reduceLeDiff, Nat.reduceBEq, Int.reduceLT, Int.reduceLE, Int.reduceToNat, Int.reduceAdd, Int.reduceSub, Int.reduceMul, Int.reduceEq, Int.reduceNeg, ↓reduceIte, ↓reduceDIte, Nat.beq, reduceCtorEq, Value.int.injEq, Nat.reduceSub, sto_ptr, lp_succ, flat_ib]
 | _ =>
   rw [hat] at h
   simp -implicitDefEqProofs only [s71, h, ↓GVdn, GVup, goInt, splice, okC, Fr.of, Fr.ofI, Fr.g, Nat.reduceAdd, Nat.reduceMul, Nat.reduceEqDiff, Nat.reduceLT, Nat.reduceLeDiff, Nat.reduceBEq, Int.reduceLT, Int.reduceLE, Int.reduceToNat, Int.reduceAdd, Int.reduceSub, Int.reduceMul, Int.reduceEq, Int.reduceNeg, ↓reduceIte, ↓reduceDIte, Nat.beq, reduceCtorEq, Value.int.injEq, Nat.reduceSub, sto_ptr, lp_succ, flat_ib]
theorem q46 (n : Nat) (x0 : Value) (hx0 : flat x0 = true) (H : Hp) : evCall cfc (n+1) 46 [x0] H = movR [] H (s46 (evCall cfc n) n x0 Hp.fl) := by
 rw [evCall_quiet (fn := Tryz.f46) (by rfl) (by rfl) Tryz.func46 (by rfl) (by simp [hx0])]
 exact congrArg (movR [] H) (s46_eq _ _ _ _)
def valueV (s : ByteArray) : Int × Bool := (IntKind.wrap .u32 (wholeV s).1, (wholeV s).2 && decide (-2147483648 ≤ (wholeV s).1 ∧ (wholeV s).1 < 4294967296))
theorem v46 (n : Nat) (s : ByteArray) (hs : s.size ≤ 281474976710656) (H : Hp) : evCall cfc (n+3) 46 [.string s] H = some (.ret (.tuple #[.int .u32 (valueV s).1, .bool (valueV s).2]), H) := by
 rw [q46 (n+2) _ rfl H]
 have h := v71 n s hs
 unfold valueV
 generalize wholeV s = p at h ⊢
 obtain ⟨z, b⟩ := p
 cases b with
 | false => simp -implicitDefEqProofs only [s46, h, ↓GVdn, GVup, goInt, splice, okC, Fr.of, Fr.ofI, Fr.g, Nat.reduceAdd, Nat.reduceMul, Nat.reduceEqDiff, Nat.reduceLT, Nat.reduceLeDiff, Nat.reduceBEq, Int.reduceLT, Int.reduceLE, Int.reduceToNat, Int.reduceAdd, Int.reduceSub, Int.reduceMul, Int.reduceEq, Int.reduceNeg, ↓reduceIte, ↓reduceDIte, Nat.beq, reduceCtorEq, Value.int.injEq, Nat.reduceSub, sto_ptr, lp_succ, flat_ib]
 | true =>
   by_cases h1 : -2147483648 ≤ z
   · by_cases h2 : z < 4294967296 <;> simp -implicitDefEqProofs only [s46, h, ↓GVdn, GVup, goInt, splice, okC, Fr.of, Fr.ofI, Fr.g, Nat.reduceAdd, Nat.reduceMul, Nat.reduceEqDiff, Nat.reduceLT, Nat.reduceLeDiff, Nat.reduceBEq, Int.reduceLT, Int.reduceLE, Int.reduceToNat, Int.reduceAdd, Int.reduceSub, Int.reduceMul, Int.reduceEq, Int.reduceNeg, ↓reduceIte, ↓reduceDIte, Nat.beq, reduceCtorEq, Value.int.injEq, Nat.reduceSub, sto_ptr, lp_succ, flat_ib, h1, h2]
   · simp -implicitDefEqProofs only [s46, h, ↓GVdn, GVup, goInt, splice, okC, Fr.of, Fr.ofI, Fr.g, Nat.reduceAdd, Nat.reduceMul, Nat.reduceEqDiff, Nat.reduceLT, Nat.reduceLeDiff, Nat.reduceBEq, Int.reduceLT, Int.reduceLE, Int.reduceToNat, Int.reduceAdd, Int.reduceSub, Int.reduceMul, Int.reduceEq, Int.reduceNeg, ↓reduceIte, ↓reduceDIte, Nat.beq, reduceCtorEq, Value.int.injEq, Nat.reduceSub, sto_ptr, lp_succ, flat_ib, h1, false_and]
def letB (c : UInt8) : Bool := decide (97 ≤ c.toNat ∧ c.toNat ≤ 122) || decide (c.toNat = 95)
def digB (c : UInt8) : Bool := decide (48 ≤ c.toNat ∧ c.toNat ≤ 57)
def labC (i : Nat) (c : UInt8) : Bool := letB c || (decide (i ≠ 0) && digB c)
def labL : Nat → List UInt8 → Bool
 | _, [] => true
 | i, c :: l => labC i c && labL (i + 1) l
def labelV (s : ByteArray) : Bool := labL 0 s.data.toList && decide (¬ s = ⟨#[]⟩) && decide (s.size ≤ 16)
theorem lab_loop (C : Cl) (n : Nat) (s : ByteArray) (kx : Nat → Fr → Hp → Option (Out × Hp)) (kr : Fr → Hp → Option (Out × Hp)) (H : Hp) : ∀ (k i m : Nat), i + k = s.size → k < m → s.size ≤ 9223372036854775807 →
   lp (s25_b1 C n) m [.string s, .int .i64 s.size, .int .i64 i] H kx kr = if labL i (s.data.toList.drop i) = true then kx 0 (Fr.of [0, 2] [.string s, dead]) H else kr (Fr.of [0, 2] [.string s, .bool false]) H := by
 intro k
 induction k with
 | zero =>
   intro i m hi hm hs
   obtain ⟨m, rfl⟩ : ∃ q, m = q + 1 := ⟨m - 1, by omega⟩
   have e : s.data.toList.drop i = [] := List.drop_eq_nil_of_le (by rw [← Lib.size_eq]; omega)
   have hlt : ¬ ((i : Int) < (s.size : Int)) := by omega
   rw [lp_succ]
   simp -implicitDefEqProofs only [s25_b1, ↓GVdn, GVup, goInt, splice, okC, Fr.of, Fr.ofI, Fr.g, Nat.reduceAdd, Nat.reduceMul, Nat.reduceEqDiff, Nat.reduceLT, Nat.reduceLeDiff, Nat.reduceBEq, Int.reduceLT, Int.reduceLE, Int.reduceToNat, Int.reduceAdd, Int.reduceSub, Int.reduceMul, Int.reduceEq, Int.reduceNeg, ↓reduceIte, ↓reduceDIte, Nat.beq, reduceCtorEq, Value.int.injEq, Nat.reduceSub, sto_ptr, hlt, e, labL]
 | succ k ih =>
   intro i m hi hm hs
   obtain ⟨m, rfl⟩ : ∃ q, m = q + 1 := ⟨m - 1, by omega⟩
   have hlt : ((i : Int) < (s.size : Int)) := by omega
   obtain ⟨c, hc, hd⟩ := str_at s i (by omega)
   have ih := ih (i + 1) m (by omega) (by omega) hs
   have hw : IntKind.wrap .i64 ((i : Int) + 1) = ((i + 1 : Nat) : Int) := by rw [IntWalk.i64_in _ (by omega)]; rfl
   have hi0 : (0 : Int) ≤ (i : Int) := by omega
   rw [lp_succ, hd]
   simp only [labL]
   have hL : ((97 ≤ (c.toNat : Int)) = True ∧ ((c.toNat : Int) ≤ 122) = True ∧ labC i c = true) ∨ ((97 ≤ (c.toNat : Int)) = False ∧ ((c.toNat : Int) = 95) = True ∧ labC i c = true) ∨
       ((97 ≤ (c.toNat : Int)) = True ∧ ((c.toNat : Int) ≤ 122) = False ∧ ((c.toNat : Int) = 95) = False ∧ letB c = false) ∨ ((97 ≤ (c.toNat : Int)) = False ∧ ((c.toNat : Int) = 95) = False ∧ letB c = false) := by
     have e : letB c = decide ((97 ≤ c.toNat ∧ c.toNat ≤ 122) ∨ c.toNat = 95) := by unfold letB; by_cases h1 : 97 ≤ c.toNat ∧ c.toNat ≤ 122 <;> by_cases h2 : c.toNat = 95 <;> simp [h1, h2]
     simp only [labC, e, eq_iff_iff, iff_true, iff_false, Bool.or_eq_true, decide_eq_true_eq, decide_eq_false_iff_not]
     omega
   have hR : letB c = false → ((((i : Int) = 0) = True ∧ labC i c = false) ∨ (((i : Int) = 0) = False ∧ ((c.toNat : Int) < 48) = True ∧ labC i c = false) ∨ (((i : Int) = 0) = False ∧ ((c.toNat : Int) < 48) = False ∧ (57 < (c.toNat : Int)) = True ∧ labC i c = false) ∨
       (((i : Int) = 0) = False ∧ ((c.toNat : Int) < 48) = False ∧ (57 < (c.toNat : Int)) = False ∧ labC i c = true)) := by
     intro hl
     simp only [labC, hl, digB, Bool.false_or, Bool.and_eq_false_iff, Bool.and_eq_true, decide_eq_false_iff_not, decide_eq_true_eq, eq_iff_iff, iff_true, iff_false]
     omega
   rcases hL with ⟨a1, a2, hlab⟩ | ⟨a1, a3, hlab⟩ | ⟨a1, a2, a3, hlb⟩ | ⟨a1, a3, hlb⟩
   · simp -implicitDefEqProofs only [s25_b1, ↓GVdn, GVup, goInt, splice, okC, Fr.of, Fr.ofI, Fr.g, Nat.reduceAdd, Nat.reduceMul, Nat.reduceEqDiff, Nat.reduceLT, Nat.reduceLeDiff, Nat.reduceBEq, Int.reduceLT, Int.reduceLE, Int.reduceToNat, Int.reduceAdd, Int.reduceSub, Int.reduceMul, Int.reduceEq, Int.reduceNeg, ↓reduceIte, ↓reduceDIte, Nat.beq, reduceCtorEq, Value.int.injEq, Nat.reduceSub, sto_ptr, hlt, hi0, hc, hw, ih, a1, a2, hlab]
   · simp -implicitDefEqProofs only [s25_b1, ↓GVdn, GVup, goInt, splice, okC, Fr.of, Fr.ofI, Fr.g, Nat.reduceAdd, Nat.reduceMul, Nat.reduceEqDiff, Nat.reduceLT, Nat.reduceLeDiff, Nat.reduceBEq, Int.reduceLT, Int.reduceLE, Int.reduceToNat, Int.reduceAdd, Int.reduceSub, Int.reduceMul, Int.reduceEq, Int.reduceNeg, ↓reduceIte, ↓reduceDIte, Nat.beq, reduceCtorEq, Value.int.injEq, Nat.reduceSub, sto_ptr, hlt, hi0, hc, hw, ih, a1, a3, hlab]
   · rcases hR hlb with ⟨b1, hlab⟩ | ⟨b1, b2, hlab⟩ | ⟨b1, b2, b3, hlab⟩ | ⟨b1, b2, b3, hlab⟩
     all_goals simp -implicitDefEqProofs only [s25_b1, ↓GVdn, GVup, goInt, splice, okC, Fr.of, Fr.ofI, Fr.g, Nat.reduceAdd, Nat.reduceMul, Nat.reduceEqDiff, Nat.reduceLT, Nat.reduceLeDiff, Nat.reduceBEq, Int.reduceLT, Int.reduceLE, Int.reduceToNat, Int.reduceAdd, Int.reduceSub, Int.reduceMul, Int.reduceEq, Int.reduceNeg, ↓reduceIte, ↓reduceDIte, Nat.beq, reduceCtorEq, Value.int.injEq, Nat.reduceSub, sto_ptr, hlt, hi0, hc, hw, ih, *]
   · rcases hR hlb with ⟨b1, hlab⟩ | ⟨b1, b2, hlab⟩ | ⟨b1, b2, b3, hlab⟩ | ⟨b1, b2, b3, hlab⟩
     all_goals simp -implicitDefEqProofs only [s25_b1, ↓GVdn, GVup, goInt, splice, okC, Fr.of, Fr.ofI, Fr.g, Nat.reduceAdd, Nat.reduceMul, Nat.reduceEqDiff, Nat.reduceLT, Nat.reduceLeDiff, Nat.reduceBEq, Int.reduceLT, Int.reduceLE, Int.reduceToNat, Int.reduceAdd, Int.reduceSub, Int.reduceMul, Int.reduceEq, Int.reduceNeg, ↓reduceIte, ↓reduceDIte, Nat.beq, reduceCtorEq, Value.int.injEq, Nat.reduceSub, sto_ptr, hlt, hi0, hc, hw, ih, *]
theorem q25 (n : Nat) (x0 : Value) (hx0 : flat x0 = true) (H : Hp) : evCall cfc (n+1) 25 [x0] H = movR [] H (s25 (evCall cfc n) n x0 Hp.fl) := by
 rw [evCall_quiet (fn := Tryz.f25) (by rfl) (by rfl) Tryz.func25 (by rfl) (by simp [hx0])]
 exact congrArg (movR [] H) (s25_eq _ _ _ _)
theorem v25 (n : Nat) (s : ByteArray) (hs : s.size ≤ 9223372036854775807) (hn : s.size < n) (H : Hp) : evCall cfc (n+1) 25 [.string s] H = some (.ret (.bool (labelV s)), H) := by
 rw [q25 n _ rfl H]
 have hl := lab_loop (evCall cfc n) n s
 have h0 : ∀ kx kr H, lp (s25_b1 (evCall cfc n) n) n [.string s, .int .i64 s.size, .int .i64 0] H kx kr = if labL 0 s.data.toList = true then kx 0 (Fr.of [0, 2] [.string s, dead]) H else kr (Fr.of [0, 2] [.string s, .bool false]) H :=
   fun kx kr H => hl kx kr H s.size 0 n (by omega) hn hs
 unfold labelV
 cases hb : labL 0 s.data.toList with
 | false =>
   rw [hb] at h0
   simp -implicitDefEqProofs only [s25, ↓GVdn, GVup, goInt, splice, okC, Fr.of, Fr.ofI, Fr.g, Nat.reduceAdd, Nat.reduceMul, Nat.reduceEqDiff, Nat.reduceLT, Nat.reduceLeDiff, Nat.reduceBEq, Int.reduceLT, Int.reduceLE, Int.reduceToNat, Int.reduceAdd, Int.reduceSub, Int.reduceMul, Int.reduceEq, Int.reduceNeg, ↓reduceIte, ↓reduceDIte, Nat.beq, reduceCtorEq, Value.int.injEq, Nat.reduceSub, sto_ptr, h0, flat_bool]
 | true =>
   rw [hb] at h0
   by_cases he : s = ⟨#[]⟩
   · subst he
     simp -implicitDefEqProofs only [s25, ↓GVdn, GVup, goInt, splice, okC, Fr.of, Fr.ofI, Fr.g, Nat.reduceAdd, Nat.reduceMul, Nat.reduceEqDiff, Nat.reduceLT, Nat.reduceLeDiff, Nat.reduceBEq, Int.reduceLT, Int.reduceLE, Int.reduceToNat, Int.reduceAdd, Int.reduceSub, Int.reduceMul, Int.reduceEq, Int.reduceNeg, ↓reduceIte, ↓reduceDIte, Nat.beq, reduceCtorEq, Value.int.injEq, Nat.reduceSub, sto_ptr, h0, flat_bool]
   · by_cases h16 : (s.size : Int) ≤ 16
     · have h17 : s.size ≤ 16 := by omega
       simp -implicitDefEqProofs only [s25, ↓GVdn, GVup, goInt, splice, okC, Fr.of, Fr.ofI, Fr.g, Nat.reduceAdd, Nat.reduceMul, Nat.reduceEqDiff, Nat.reduceLT, Nat.reduceLeDiff, Nat.reduceBEq, Int.reduceLT, Int.reduceLE, Int.reduceToNat, Int.reduceAdd, Int.reduceSub, Int.reduceMul, Int.reduceEq, Int.reduceNeg, ↓reduceIte, ↓reduceDIte, Nat.beq, reduceCtorEq, Value.int.injEq, Nat.reduceSub, sto_ptr, h0, flat_bool, he, h16, h17]
     · have h17 : ¬ s.size ≤ 16 := by omega
       simp -implicitDefEqProofs only [s25, ↓GVdn, GVup, goInt, splice, okC, Fr.of, Fr.ofI, Fr.g, Nat.reduceAdd, Nat.reduceMul, Nat.reduceEqDiff, Nat.reduceLT, Nat.reduceLeDiff, Nat.reduceBEq, Int.reduceLT, Int.reduceLE, Int.reduceToNat, Int.reduceAdd, Int.reduceSub, Int.reduceMul, Int.reduceEq, Int.reduceNeg, ↓reduceIte, ↓reduceDIte, Nat.beq, reduceCtorEq, Value.int.injEq, Nat.reduceSub, sto_ptr, h0, flat_bool, he, h16, h17]
end Go.Proofs.YtbaooebafijenaaGreatDoor
namespace Go.Proofs.YtbaooebafijenaaGreatDoor
open Go Go.Ev
set_option maxRecDepth 100000
set_option linter.unusedSimpArgs false
set_option linter.unusedVariables false
set_option maxHeartbeats 2000000
set_option linter.unusedSectionVars false
variable [Mx]
attribute [local congr] bind_front callK_front jn_front ifB_front ifG_front lp_front
def emp : ByteArray := ⟨#[]⟩
theorem q84 (n : Nat) (x y : Value) (H : Hp) : evCall cfc (n+1) 84 [x, y] H = s84 (evCall cfc n) n x y H := by
 rw [evCall_open (fn := Tryz.f84) (by rfl) (by rfl) Tryz.func84 (by rfl)]
 exact s84_eq _ _ _ _ _
theorem q82 (n : Nat) (x y : Value) (H : Hp) : evCall cfc (n+1) 82 [x, y] H = s82 (evCall cfc n) n x y H := by
 rw [evCall_open (fn := Tryz.f82) (by rfl) (by rfl) Tryz.func82 (by rfl)]
 exact s82_eq _ _ _ _ _
theorem q83 (n : Nat) (H : Hp) : evCall cfc (n+1) 83 [] H = s83 (evCall cfc n) n H := by
 rw [evCall_open (fn := Tryz.f83) (by rfl) (by rfl) Tryz.func83 (by rfl)]
 exact s83_eq _ _ _
theorem q73 (n : Nat) (x0 : Value) (hx0 : flat x0 = true) (H : Hp) : evCall cfc (n+1) 73 [x0] H = movR [] H (s73 (evCall cfc n) n x0 Hp.fl) := by
 rw [evCall_quiet (fn := Tryz.f73) (by rfl) (by rfl) Tryz.func73 (by rfl) (by simp [hx0])]
 exact congrArg (movR [] H) (s73_eq _ _ _ _)
theorem v84 (n : Nat) (H : Hp) (a s : ByteArray) (f c : Int) (fb : Nat) (hfb : H.cells fb = some [.string s]) (hlt : fb < H.next) :
   evCall cfc (n+1) 84 [.agg #[.string a, .int .i64 f, .int .i64 c], ptr fb 0] H = some (.ret (.bool (decide (a = s ∧ ¬ s = emp))), H.new (.rw [.string a, .int .i64 f, .int .i64 c])) := by
 rw [q84]
 have h1 : (fb = H.next) = False := eq_false (by omega)
 by_cases e : a = s
 · subst e
   by_cases e2 : a = ⟨#[]⟩
   · have e3 : a = emp := e2
     simp -implicitDefEqProofs only [s84, ↓GVdn, GVup, goInt, splice, okC, Fr.of, Fr.ofI, Fr.g, Nat.reduceAdd, Nat.reduceMul, Nat.reduceEqDiff, Nat.reduceLT, Nat.reduceLeDiff, Nat.reduceBEq, Int.reduceLT, Int.reduceLE, Int.reduceToNat, Int.reduceAdd, Int.reduceSub, Int.reduceMul, Int.reduceEq, Int.reduceNeg, ↓reduceIte, ↓reduceDIte, Nat.beq, reduceCtorEq, Value.int.injEq, Nat.reduceSub, sto_ptr, lp_succ, h1, hfb, e2, e3, emp]
   · have e3 : ¬ a = emp := e2
     simp -implicitDefEqProofs only [s84, ↓GVdn, GVup, goInt, splice, okC, Fr.of, Fr.ofI, Fr.g, Nat.reduceAdd, Nat.reduceMul, Nat.reduceEqDiff, Nat.reduceLT, Nat.reduceLeDiff, Nat.reduceBEq, Int.reduceLT, Int.reduceLE, Int.reduceToNat, Int.reduceAdd, Int.reduceSub, Int.reduceMul, Int.reduceEq, Int.reduceNeg, ↓reduceIte, ↓reduceDIte, Nat.beq, reduceCtorEq, Value.int.injEq, Nat.reduceSub, sto_ptr, lp_succ, h1, hfb, e2, e3]
 · simp -implicitDefEqProofs only [s84, ↓GVdn, GVup, goInt, splice, okC, Fr.of, Fr.ofI, Fr.g, Nat.reduceAdd, Nat.reduceMul, Nat.reduceEqDiff, Nat.reduceLT, Nat.reduceLeDiff, Nat.reduceBEq, Int.reduceLT, Int.reduceLE, Int.reduceToNat, Int.reduceAdd, Int.reduceSub, Int.reduceMul, Int.reduceEq, Int.reduceNeg, ↓reduceIte, ↓reduceDIte, Nat.beq, reduceCtorEq, Value.int.injEq, Nat.reduceSub, sto_ptr, lp_succ, h1, hfb, e, false_and]
def FL : List Value := FA.toList
theorem fa_at (i : Nat) (h : i < 72) : ((FL.drop (i * 3)).take 3) = [.string (nmL.getD i emp), .int .i64 (formV i), .int .i64 (costV i)] := by
 have := List.all_eq_true.1 (show (List.range 72).all (fun i => beqV 1 (.agg ((FL.drop (i * 3)).take 3).toArray) (.agg #[.string (nmL.getD i emp), .int .i64 (formV i), .int .i64 (costV i)])) = true by kernel_rfl) i (List.mem_range.2 h)
 have e := beqV_eq _ _ _ this
 simp only [Value.agg.injEq] at e
 have e2 := congrArg Array.toList e
 simpa using e2
theorem FL_len : FL.length = 216 := by kernel_rfl
def findN (s : ByteArray) : List ByteArray → Nat → Option Nat
 | [], _ => none
 | x :: l, i => if x = s ∧ ¬ s = emp then some i else findN s l (i + 1)
def namedV (s : ByteArray) : Int := match findN s nmL 0 with | some i => (i : Int) | none => -1
theorem nmL_len : nmL.length = 72 := by kernel_rfl
theorem named_loop (C : Cl) (n : Nat) (s : ByteArray) (b fb : Nat) (kx : Nat → Fr → Hp → Option (Out × Hp)) (kr : Fr → Hp → Option (Out × Hp)) (hC : ∀ (H : Hp) (a : ByteArray) (f c : Int), H.cells fb = some [.string s] → fb < H.next →
     C 84 [.agg #[.string a, .int .i64 f, .int .i64 c], ptr fb 0] H = some (.ret (.bool (decide (a = s ∧ ¬ s = emp))), H.new (.rw [.string a, .int .i64 f, .int .i64 c]))) :
   ∀ (k i m : Nat), i + k = 72 → k < m → ∀ H : Hp, H.cells b = some FL → H.cells fb = some [.string s] → b < H.next → fb < H.next →
   ∃ H', lp (s82_b1 C n) m [.slice (some ⟨b, 0, none⟩) 72 3, .func (.func 84) #[] #[ptr fb 0], .int .i64 72, .int .i64 i] H kx kr = match findN s (nmL.drop i) i with | some j => kr (Fr.of [4] [.int .i64 j]) H' | none => kx 0 (Fr.of [4] [dead]) H' := by
 intro k
 induction k with
 | zero =>
   intro i m hi hm H hb hf hbn hfn
   obtain ⟨m, rfl⟩ : ∃ q, m = q + 1 := ⟨m - 1, by omega⟩
   have hi : i = 72 := by omega
   subst hi
   have e : nmL.drop 72 = [] := List.drop_eq_nil_of_le (by rw [nmL_len]; decide)
   refine ⟨H, ?_⟩
   rw [lp_succ, e]
   simp only [findN]
   have hlt : (((72 : Nat) : Int) < 72) = False := by decide
   simp -implicitDefEqProofs only [s82_b1, ↓GVdn, GVup, goInt, splice, okC, Fr.of, Fr.ofI, Fr.g, Nat.reduceAdd, Nat.reduceMul, Nat.reduceEqDiff, Nat.reduceLT, Nat.reduceLeDiff, Nat.reduceBEq, Int.reduceLT, Int.reduceLE, Int.reduceToNat, Int.reduceAdd, Int.reduceSub, Int.reduceMul, Int.reduceEq, Int.reduceNeg, ↓reduceIte, ↓reduceDIte, Nat.beq, reduceCtorEq, Value.int.injEq, Nat.reduceSub, sto_ptr, hlt]
 | succ k ih =>
   intro i m hi hm H hb hf hbn hfn
   obtain ⟨m, rfl⟩ : ∃ q, m = q + 1 := ⟨m - 1, by omega⟩
   have hlt : ((i : Int) < 72) = True := eq_true (by omega)
   have h72 : i < 72 := by omega
   have hd : nmL.drop i = nmL.getD i emp :: nmL.drop (i + 1) := by
     rw [List.drop_eq_getElem_cons (by rw [nmL_len]; exact h72)]
     simp [List.getD_eq_getElem?_getD, nmL_len, h72]
   have hw : IntKind.wrap .i64 ((i : Int) + 1) = ((i + 1 : Nat) : Int) := by rw [IntWalk.i64_in _ (by omega)]; rfl
   have hcall := hC H (nmL.getD i emp) (formV i) (costV i) hf hfn
   obtain ⟨H', ih⟩ := ih (i + 1) m (by omega) (by omega) (H.new (.rw [.string (nmL.getD i emp), .int .i64 (formV i), .int .i64 (costV i)])) (by rw [cells_new, if_neg (by omega)]; exact hb) (by rw [cells_new, if_neg (by omega)]; exact hf) (by simp; omega) (by simp; omega)
   have hin : (0 ≤ (i : Int) ∧ (i : Int) < ((72 : Nat) : Int)) = True := eq_true (by omega)
   have hle : (0 + i * 3 + 3 ≤ FL.length) = True := eq_true (by rw [FL_len]; omega)
   have hle2 : (i * 3 + 3 ≤ FL.length) = True := eq_true (by rw [FL_len]; omega)
   have hfa := fa_at i h72
   rw [lp_succ, hd]
   simp only [findN]
   by_cases hc : nmL.getD i emp = s ∧ ¬ s = emp
   · refine ⟨H.new (.rw [.string (nmL.getD i emp), .int .i64 (formV i), .int .i64 (costV i)]), ?_⟩
     rw [if_pos hc]
     have hcall' : C 84 [.agg #[.string (nmL.getD i emp), .int .i64 (formV i), .int .i64 (costV i)], ptr fb 0] H = some (.ret (.bool true), H.new (.rw [.string (nmL.getD i emp), .int .i64 (formV i), .int .i64 (costV i)])) := by rw [hcall, decide_eq_true hc]
     simp -implicitDefEqProofs only [s82_b1, ↓GVdn, GVup, goInt, splice, okC, Fr.of, Fr.ofI, Fr.g, Nat.reduceAdd, Nat.reduceMul, Nat.reduceEqDiff, Nat.reduceLT, Nat.reduceLeDiff, Nat.reduceBEq, Int.reduceLT, Int.reduceLE, Int.reduceToNat, Int.reduceAdd, Int.reduceSub, Int.reduceMul, Int.reduceEq, Int.reduceNeg, ↓reduceIte, ↓reduceDIte, Nat.beq, reduceCtorEq, Value.int.injEq, Nat.reduceSub, sto_ptr, hlt, hin, hb, hle, hle2, hfa, clV, List.append_nil, hcall']
   · refine ⟨H', ?_⟩
     rw [if_neg hc, ← ih]
     have hcall' : C 84 [.agg #[.string (nmL.getD i emp), .int .i64 (formV i), .int .i64 (costV i)], ptr fb 0] H = some (.ret (.bool false), H.new (.rw [.string (nmL.getD i emp), .int .i64 (formV i), .int .i64 (costV i)])) := by rw [hcall, decide_eq_false hc]
     simp -implicitDefEqProofs only [s82_b1, ↓GVdn, GVup, goInt, splice, okC, Fr.of, Fr.ofI, Fr.g, Nat.reduceAdd, Nat.reduceMul, Nat.reduceEqDiff, Nat.reduceLT, Nat.reduceLeDiff, Nat.reduceBEq, Int.reduceLT, Int.reduceLE, Int.reduceToNat, Int.reduceAdd, Int.reduceSub, Int.reduceMul, Int.reduceEq, Int.reduceNeg, ↓reduceIte, ↓reduceDIte, Nat.beq, reduceCtorEq, Value.int.injEq, Nat.reduceSub, sto_ptr, hlt, hin, hb, hle, hle2, hfa, clV, List.append_nil, hcall', hw]
theorem st_whole {n : Nat} {H : Hp} {Z vs : List Value} {v : Value} (hbx : bx v = some vs) (hn : vs.length = n) (hz : Z.length = n) (hok : vs.all okC = true) (hl : H.lim ≤ H.next) :
   st n (ptr H.next 0) v (H.new (.rw Z)) = some ((H.new (.rw Z)).set H.next (.rw vs)) := by
 rw [st_ptr, wc_new, if_pos rfl, if_pos hl]
 simp only [Option.bind_some, hbx]
 rw [if_pos ⟨hn, by omega, hok⟩, splice_eq _ _ _ (by omega)]
 have : Z.drop (0 + vs.length) = [] := List.drop_eq_nil_of_le (by omega)
 rw [this]
 simp
theorem FA_bx : bx FORMS = some FL := rfl
theorem FL_ok : FL.all okC = true := by kernel_rfl
def Z216 : List Value := rep 72 [.string ⟨#[]⟩, .int .i64 0, .int .i64 0]
theorem s70_form (C : Cl) (n : Nat) (H : Hp) : s83 C n H = callK (C 75 [] H) pnK fun t2 H1 => (st 216 (ptr H1.next 0) t2 (H1.new (.rw Z216))).bind fun H3 => (slA 72 3 (ptr H1.next 0) none none H3).bind fun t3 => some (.ret t3, H3) := by kernel_rfl
theorem v83 (n : Nat) (H : Hp) (hl : H.lim ≤ H.next) : evCall cfc (n+2) 83 [] H = some (.ret (.slice (some ⟨H.next, 0, none⟩) 72 3), (H.new (.rw Z216)).set H.next (.rw FL)) := by
 rw [q83, s70_form, v75 n H, callK_ret]
 rw [st_whole FA_bx FL_len (by kernel_rfl) FL_ok hl]
 simp only [Option.bind_some]
 have : slA 72 3 (ptr H.next 0) none none ((H.new (.rw Z216)).set H.next (.rw FL)) = some (.slice (some ⟨H.next, 0, none⟩) 72 3) := by
   have h1 : ((H.new (.rw Z216)).set H.next (.rw FL)).cells H.next = some FL := by rw [cells_set, if_pos rfl]
   simp [slA, ptr, h1, FL_len, optInt]
 rw [this]
 rfl
theorem v73 (n : Nat) (hn : 73 ≤ n) (s : ByteArray) (H : Hp) : evCall cfc (n+3) 73 [.string s] H = some (.ret (.tuple #[.int .i64 (namedV s), .bool (decide (0 ≤ namedV s))]), H) := by
 rw [q73 (n+2) _ rfl H]
 unfold s73
 simp only [bx_str, Option.bind_some]
 have hl : (Hp.fl.new (.rw [.string s])).lim ≤ (Hp.fl.new (.rw [.string s])).next := by simp only [Hp.lim_new, Hp.next_new, lim_fl, next_fl]; omega
 have h70 := v83 n (Hp.fl.new (.rw [.string s])) hl
 rw [h70, callK_ret]
 have hsl : slV 3 (.slice (some ⟨(Hp.fl.new (.rw [.string s])).next, 0, none⟩) 72 3) none none = some (.slice (some ⟨(Hp.fl.new (.rw [.string s])).next, 0, none⟩) 72 3) := rfl
 rw [hsl]
 simp only [Option.bind_some]
 rw [q82]
 unfold s82
 have hlen : ∀ b H, len 1 (.slice (some ⟨b, 0, none⟩) 72 3) H = some (.int .i64 72) := fun _ _ => rfl
 rw [hlen]
 simp only [Option.bind_some]
 generalize hH : (((Hp.fl.new (.rw [.string s])).new (.rw Z216)).set (Hp.fl.new (.rw [.string s])).next (.rw FL)) = H3
 obtain ⟨H', hloop⟩ := named_loop (evCall cfc (n+1)) (n+1) s 12 11 (fun j7 f8 H9 => if j7 = 0 then some (.ret (.int .i64 (-1)), H9) else none) (fun f10 H11 => some (.ret (f10.g 4), H11))
   (fun H a f c h1 h2 => v84 n H a s f c 11 h1 h2) 72 0 (n+1) (by omega) (by omega) H3 (by subst hH; rw [cells_set, if_pos (by rfl)])
     (by subst hH; rw [cells_set, if_neg (by show ¬ (11 = 12); decide), cells_new, if_neg (by show ¬ (11 = 12); decide), cells_new, if_pos (by rfl)]) (by subst hH; show 12 < 13; decide) (by subst hH; show 11 < 13; decide)
 have e1 : (Hp.fl.new (.rw [.string s])).next = 12 := rfl
 have e2 : (Hp.fl).next = 11 := rfl
 rw [e1, e2]
 have e3 : (.func (.func 84) [].toArray [ptr 11 0].toArray : Value) = .func (.func 84) #[] #[ptr 11 0] := rfl
 rw [e3]
 refine (congrArg (fun r => movR [] H (callK r pnK _)) hloop).trans ?_
 have e4 : nmL.drop 0 = nmL := rfl
 rw [e4]
 unfold namedV
 cases findN s nmL 0 with
 | some j =>
   have h0 : (0 : Int) ≤ (j : Int) := by omega
   simp -implicitDefEqProofs only [↓GVdn, GVup, goInt, splice, okC, Fr.of, Fr.ofI, Fr.g, Nat.reduceAdd, Nat.reduceMul, Nat.reduceEqDiff, Nat.reduceLT, Nat.reduceLeDiff, Nat.reduceBEq, Int.reduceLT, Int.reduceLE, Int.reduceToNat, Int.reduceAdd, Int.reduceSub, Int.reduceMul, Int.reduceEq, Int.reduceNeg, ↓reduceIte, ↓reduceDIte, Nat.beq, reduceCtorEq, Value.int.injEq, Nat.reduceSub, sto_ptr, lp_succ, h0, flat_ib]
 | none =>
   simp -implicitDefEqProofs only [↓GVdn, GVup, goInt, splice, okC, Fr.of, Fr.ofI, Fr.g, Nat.reduceAdd, Nat.reduceMul, Nat.reduceEqDiff, Nat.reduceLT, Nat.reduceLeDiff, Nat.reduceBEq, Int.reduceLT, Int.reduceLE, Int.reduceToNat, Int.reduceAdd, Int.reduceSub, Int.reduceMul, Int.reduceEq, Int.reduceNeg, ↓reduceIte, ↓reduceDIte, Nat.beq, reduceCtorEq, Value.int.injEq, Nat.reduceSub, sto_ptr, lp_succ, flat_ib]
end Go.Proofs.YtbaooebafijenaaGreatDoor
