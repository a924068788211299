/- The document's numbers as texts; its blanks and marks. -/
import Derived.Test.YtbaooebafijenaaDoorGMin
import Derived.Test.YtbaooebafijenaaDoorGBk
import Derived.Test.YtbaooebafijenaaDoorGvBun
namespace Go.Proofs.YtbaooebafijenaaDoor
open Go Go.Ev
set_option maxRecDepth 100000
set_option linter.unusedSimpArgs false
set_option linter.unusedVariables false
set_option maxHeartbeats 4000000
set_option linter.unusedSectionVars false
variable [Mx]
attribute [local congr] bind_front callK_front jn_front ifB_front ifG_front lp_front
theorem q57 (n : Nat) (x0 : Value) (hx0 : flat x0 = true) (H : Hp) : evCall cfc (n+1) 57 [x0] H = movR [] H (s57 (evCall cfc n) n x0 Hp.fl) := by
  rw [evCall_quiet (fn := Tryd.f57) (by rfl) (by rfl) Tryd.func57 (by rfl) (by simp [hx0])]
  exact congrArg (movR [] H) (s57_eq _ _ _ _)
theorem q58 (n : Nat) (x0 : Value) (hx0 : flat x0 = true) (H : Hp) : evCall cfc (n+1) 58 [x0] H = movR [] H (s58 (evCall cfc n) n x0 Hp.fl) := by
  rw [evCall_quiet (fn := Tryd.f58) (by rfl) (by rfl) Tryd.func58 (by rfl) (by simp [hx0])]
  exact congrArg (movR [] H) (s58_eq _ _ _ _)
theorem v57 (n : Nat) (c : UInt8) (H : Hp) : evCall cfc (n+1) 57 [.int .u8 c.toNat] H = some (.ret (.bool (blB c)), H) := by
  rw [q57 n _ rfl H]
  by_cases h1 : (c.toNat : Int) = 32
  · have e : blB c = true := decide_eq_true (by omega)
    simp -implicitDefEqProofs only [s57, ↓GVdn, GVup, goInt, splice, okC, Fr.of, Fr.ofI, Fr.g, Nat.reduceAdd, Nat.reduceMul, Nat.reduceEqDiff, Nat.reduceLT, Nat.reduceLeDiff, Nat.reduceBEq, Int.reduceLT, Int.reduceLE, Int.reduceToNat, Int.reduceAdd, Int.reduceSub, Int.reduceMul, Int.reduceEq, Int.reduceNeg, ↓reduceIte, ↓reduceDIte, Nat.beq, reduceCtorEq, Value.int.injEq, Nat.reduceSub, sto_ptr, lp_succ, flat_bool, h1, e]
  · by_cases h2 : (c.toNat : Int) = 9
    · have e : blB c = true := decide_eq_true (by omega)
      simp -implicitDefEqProofs only [s57, ↓GVdn, GVup, goInt, splice, okC, Fr.of, Fr.ofI, Fr.g, Nat.reduceAdd, Nat.reduceMul, Nat.reduceEqDiff, Nat.reduceLT, Nat.reduceLeDiff, Nat.reduceBEq, Int.reduceLT, Int.reduceLE, Int.reduceToNat, Int.reduceAdd, Int.reduceSub, Int.reduceMul, Int.reduceEq, Int.reduceNeg, ↓reduceIte, ↓reduceDIte, Nat.beq, reduceCtorEq, Value.int.injEq, Nat.reduceSub, sto_ptr, lp_succ, flat_bool, h1, h2, e]
    · have e : blB c = false := decide_eq_false (by omega)
      simp -implicitDefEqProofs only [s57, ↓GVdn, GVup, goInt, splice, okC, Fr.of, Fr.ofI, Fr.g, Nat.reduceAdd, Nat.reduceMul, Nat.reduceEqDiff, Nat.reduceLT, Nat.reduceLeDiff, Nat.reduceBEq, Int.reduceLT, Int.reduceLE, Int.reduceToNat, Int.reduceAdd, Int.reduceSub, Int.reduceMul, Int.reduceEq, Int.reduceNeg, ↓reduceIte, ↓reduceDIte, Nat.beq, reduceCtorEq, Value.int.injEq, Nat.reduceSub, sto_ptr, lp_succ, flat_bool, h1, h2, e]
theorem v58 (n : Nat) (c : UInt8) (H : Hp) : evCall cfc (n+1) 58 [.int .u8 c.toNat] H = some (.ret (.bool (mkB c)), H) := by
  rw [q58 n _ rfl H]
  have hc : ((c.toNat : Int) = 44 ∧ mkB c = true) ∨ (¬ (c.toNat : Int) = 44 ∧ (c.toNat : Int) = 40 ∧ mkB c = true) ∨ (¬ (c.toNat : Int) = 44 ∧ ¬ (c.toNat : Int) = 40 ∧ (c.toNat : Int) = 41 ∧ mkB c = true) ∨
      (¬ (c.toNat : Int) = 44 ∧ ¬ (c.toNat : Int) = 40 ∧ ¬ (c.toNat : Int) = 41 ∧ (c.toNat : Int) = 58 ∧ mkB c = true) ∨ (¬ (c.toNat : Int) = 44 ∧ ¬ (c.toNat : Int) = 40 ∧ ¬ (c.toNat : Int) = 41 ∧ ¬ (c.toNat : Int) = 58 ∧ mkB c = false) := by
    simp only [mkB, decide_eq_true_eq, decide_eq_false_iff_not]
    omega
  rcases hc with ⟨h1, e⟩ | ⟨h1, h2, e⟩ | ⟨h1, h2, h3, e⟩ | ⟨h1, h2, h3, h4, e⟩ | ⟨h1, h2, h3, h4, e⟩
  all_goals simp -implicitDefEqProofs only [s58, ↓GVdn, GVup, goInt, splice, okC, Fr.of, Fr.ofI, Fr.g, Nat.reduceAdd, Nat.reduceMul, Nat.reduceEqDiff, Nat.reduceLT, Nat.reduceLeDiff, Nat.reduceBEq, Int.reduceLT, Int.reduceLE, Int.reduceToNat, Int.reduceAdd, Int.reduceSub, Int.reduceMul, Int.reduceEq, Int.reduceNeg, ↓reduceIte, ↓reduceDIte, Nat.beq, reduceCtorEq, Value.int.injEq, Nat.reduceSub, sto_ptr, lp_succ, flat_bool, *]
/-- digits of what is left -/
def D0 (n : Nat) : Bs := if n = 0 then [] else Lib.decDigits n
def dgt (n : Nat) : UInt8 := UInt8.ofNat (48 + n % 10)
theorem dec_D0 (u : Nat) : Lib.decDigits u = D0 (u / 10) ++ [dgt u] := by
  rw [Lib.decDigits]
  unfold D0 dgt
  by_cases h : u < 10
  · rw [dif_pos h, if_pos (by omega), Nat.mod_eq_of_lt h]; rfl
  · rw [dif_neg h, if_neg (by omega)]
theorem D0_step (n : Nat) (h : 0 < n) : D0 n = D0 (n / 10) ++ [dgt n] := by
  have : D0 n = Lib.decDigits n := if_neg (by omega)
  rw [this, dec_D0]
theorem cvT_one (H : Hp) (z : Int) : cvT (.slice (some ⟨H.next, 0, none⟩) 1 1) (H.new (.rw [.int .u8 z])) = some (.string (bs [UInt8.ofNat z.toNat])) := by
  have e : (H.new (.rw [.int .u8 z])).cells H.next = some [.int .u8 z] := by rw [cells_new, if_pos rfl]
  simp [cvT, e, unbytes, bs]
theorem dec_len : ∀ (k n : Nat), n < 10 ^ (k + 1) → (Lib.decDigits n).length ≤ k + 1
  | 0, n, h => by
    rw [Lib.decDigits, dif_pos (by simpa using h)]
    simp
  | k + 1, n, h => by
    rw [Lib.decDigits]
    split
    · simp
    · have := dec_len k (n / 10) (by rw [Nat.pow_succ] at h; omega)
      simp; omega
theorem u64_nat (u : Nat) (h : u < 18446744073709551616) : IntKind.wrap .u64 (u : Int) = (u : Int) := by
  simp only [IntKind.wrap, IntKind.bits, IntKind.signed]
  simp
  omega
theorem u8_dgt (u : Nat) : IntKind.wrap .u8 ((48 + u % 10 : Nat) : Int) = ((48 + u % 10 : Nat) : Int) := by
  simp only [IntKind.wrap, IntKind.bits, IntKind.signed]
  simp
  omega
theorem dig_loop (C : Cl) (n : Nat) : ∀ (k m u : Nat) (s : Bs), u < 10 ^ k → k < m → u < 18446744073709551616 → s.length ≤ 1000 - k → k ≤ 500 → ∀ H : Hp,
    ∃ H', ∀ (kx : Nat → Fr → Hp → Option (Out × Hp)) (kr : Fr → Hp → Option (Out × Hp)), lp (s49_b1 C n) m [.int .u64 u, .string (bs s)] H kx kr = kx 0 (Fr.of [3] [.string (bs (D0 u ++ s))]) H' := by
  intro k
  induction k with
  | zero =>
    intro m u s hu hm hu2 hs hk H
    obtain ⟨m, rfl⟩ : ∃ q, m = q + 1 := ⟨m - 1, by omega⟩
    have h0 : u = 0 := by simpa using hu
    subst h0
    refine ⟨H, fun kx kr => ?_⟩
    have e : D0 0 ++ s = s := rfl
    have hlt : ((0 : Int) < ((0 : Nat) : Int)) = False := by decide
    rw [lp_succ, e]
    simp -implicitDefEqProofs only [s49_b1, ↓GVdn, GVup, goInt, splice, okC, Fr.of, Fr.ofI, Fr.g, Nat.reduceAdd, Nat.reduceMul, Nat.reduceEqDiff, Nat.reduceLT, Nat.reduceLeDiff, Nat.reduceBEq, Int.reduceLT, Int.reduceLE, Int.reduceToNat, Int.reduceAdd, Int.reduceSub, Int.reduceMul, Int.reduceEq, Int.reduceNeg, ↓reduceIte, ↓reduceDIte, Nat.beq, reduceCtorEq, Value.int.injEq, Nat.reduceSub, sto_ptr, hlt]
  | succ k ih =>
    intro m u s hu hm hu2 hs hk H
    obtain ⟨m, rfl⟩ : ∃ q, m = q + 1 := ⟨m - 1, by omega⟩
    by_cases h0 : u = 0
    · subst h0
      refine ⟨H, fun kx kr => ?_⟩
      have e : D0 0 ++ s = s := rfl
      have hlt : ((0 : Int) < ((0 : Nat) : Int)) = False := by decide
      rw [lp_succ, e]
      simp -implicitDefEqProofs only [s49_b1, ↓GVdn, GVup, goInt, splice, okC, Fr.of, Fr.ofI, Fr.g, Nat.reduceAdd, Nat.reduceMul, Nat.reduceEqDiff, Nat.reduceLT, Nat.reduceLeDiff, Nat.reduceBEq, Int.reduceLT, Int.reduceLE, Int.reduceToNat, Int.reduceAdd, Int.reduceSub, Int.reduceMul, Int.reduceEq, Int.reduceNeg, ↓reduceIte, ↓reduceDIte, Nat.beq, reduceCtorEq, Value.int.injEq, Nat.reduceSub, sto_ptr, hlt]
    · have hlt : ((0 : Int) < (u : Int)) = True := eq_true (by omega)
      have t1 : ((u : Int)).tmod 10 = ((u % 10 : Nat) : Int) := (Int.ofNat_tmod u 10).symm
      have t2 : IntKind.wrap .u64 (48 + ((u % 10 : Nat) : Int)) = ((48 + u % 10 : Nat) : Int) := by
        have := u64_nat (48 + u % 10) (by omega)
        rw [← this]; congr 1
      have t3 := u8_dgt u
      have t4 : IntKind.wrap .u64 (((u : Int)).tdiv 10) = ((u / 10 : Nat) : Int) := by
        have e : ((u : Int)).tdiv 10 = ((u / 10 : Nat) : Int) := (Int.ofNat_tdiv u 10).symm
        rw [e]; exact u64_nat _ (by omega)
      have hc := cvT_one H ((48 + u % 10 : Nat) : Int)
      have hd : UInt8.ofNat ((48 + u % 10 : Nat) : Int).toNat = dgt u := rfl
      rw [hd] at hc
      have hb := bin_bs 0 [dgt u] s (by simp; omega)
      obtain ⟨H', ih⟩ := ih m (u / 10) ([dgt u] ++ s) (by rw [Nat.pow_succ] at hu; omega) (by omega) (by omega) (by simp; omega) (by omega) (H.new (.rw [.int .u8 ((48 + u % 10 : Nat) : Int)]))
      refine ⟨H', fun kx kr => ?_⟩
      rw [D0_step u (by omega), List.append_assoc, ← ih kx kr, lp_succ]
      simp -implicitDefEqProofs only [s49_b1, ↓GVdn, GVup, goInt, splice, okC, Fr.of, Fr.ofI, Fr.g, Nat.reduceAdd, Nat.reduceMul, Nat.reduceEqDiff, Nat.reduceLT, Nat.reduceLeDiff, Nat.reduceBEq, Int.reduceLT, Int.reduceLE, Int.reduceToNat, Int.reduceAdd, Int.reduceSub, Int.reduceMul, Int.reduceEq, Int.reduceNeg, ↓reduceIte, ↓reduceDIte, Nat.beq, reduceCtorEq, Value.int.injEq, Nat.reduceSub, sto_ptr, hlt, t1, t2, t3, t4, rep, List.replicate, List.flatten_cons, List.flatten_nil, hc, hb]
theorem q49 (n : Nat) (x0 : Value) (hx0 : flat x0 = true) (H : Hp) : evCall cfc (n+1) 49 [x0] H = movR [] H (s49 (evCall cfc n) n x0 Hp.fl) := by
  rw [evCall_quiet (fn := Tryd.f49) (by rfl) (by rfl) Tryd.func49 (by rfl) (by simp [hx0])]
  exact congrArg (movR [] H) (s49_eq _ _ _ _)
theorem v49 (n : Nat) (u : Nat) (hu : u < 18446744073709551616) (H : Hp) : evCall cfc (n+23) 49 [.int .u64 u] H = some (.ret (.string (bs (Lib.decDigits u))), H) := by
  rw [q49 (n+22) _ rfl H]
  have t1 : ((u : Int)).tmod 10 = ((u % 10 : Nat) : Int) := (Int.ofNat_tmod u 10).symm
  have t2 : IntKind.wrap .u64 (48 + ((u % 10 : Nat) : Int)) = ((48 + u % 10 : Nat) : Int) := by
    have := u64_nat (48 + u % 10) (by omega)
    rw [← this]; congr 1
  have t3 := u8_dgt u
  have t4 : IntKind.wrap .u64 (((u : Int)).tdiv 10) = ((u / 10 : Nat) : Int) := by
    have e : ((u : Int)).tdiv 10 = ((u / 10 : Nat) : Int) := (Int.ofNat_tdiv u 10).symm
    rw [e]; exact u64_nat _ (by omega)
  have hc := cvT_one Hp.fl ((48 + u % 10 : Nat) : Int)
  have hd : UInt8.ofNat ((48 + u % 10 : Nat) : Int).toNat = dgt u := rfl
  rw [hd] at hc
  obtain ⟨H', hl⟩ := dig_loop (evCall cfc (n+22)) (n+22) 20 (n+22) (u / 10) [dgt u] (by omega) (by omega) (by omega) (by simp) (by omega) (Hp.fl.new (.rw [.int .u8 ((48 + u % 10 : Nat) : Int)]))
  rw [dec_D0 u]
  suffices hs : (s49 (evCall cfc (n+22)) (n+22) (.int .u64 u) Hp.fl) = some (.ret (.string (bs (D0 (u / 10) ++ [dgt u]))), H') by
    rw [hs]
    exact movR_flat rfl
  generalize Hp.fl = H0 at *
  simp -implicitDefEqProofs only [s49, ↓GVdn, GVup, goInt, splice, okC, Fr.of, Fr.ofI, Fr.g, Nat.reduceAdd, Nat.reduceMul, Nat.reduceEqDiff, Nat.reduceLT, Nat.reduceLeDiff, Nat.reduceBEq, Int.reduceLT, Int.reduceLE, Int.reduceToNat, Int.reduceAdd, Int.reduceSub, Int.reduceMul, Int.reduceEq, Int.reduceNeg, ↓reduceIte, ↓reduceDIte, Nat.beq, reduceCtorEq, Value.int.injEq, Nat.reduceSub, sto_ptr, t1, t2, t3, t4, rep, List.replicate, List.flatten_cons, List.flatten_nil, hc, hl]
theorem q29 (n : Nat) (x0 : Value) (hx0 : flat x0 = true) (H : Hp) : evCall cfc (n+1) 29 [x0] H = movR [] H (s29 (evCall cfc n) n x0 Hp.fl) := by
  rw [evCall_quiet (fn := Tryd.f29) (by rfl) (by rfl) Tryd.func29 (by rfl) (by simp [hx0])]
  exact congrArg (movR [] H) (s29_eq _ _ _ _)
theorem v29 (n : Nat) (z : Int) (hz : -9223372036854775808 ≤ z ∧ z ≤ 9223372036854775807) (H : Hp) : evCall cfc (n+24) 29 [.int .i64 z] H = some (.ret (.string (itoaB z)), H) := by
  rw [q29 (n+23) _ rfl H]
  have he : itoaB z = bs (Lib.itoa z) := bytes_inj (itoa_list hz)
  rw [he]
  by_cases h : z < 0
  · have e1 : IntKind.wrap .u64 (0 - IntKind.wrap .u64 z) = ((z.natAbs : Nat) : Int) := by
      simp only [IntKind.wrap, IntKind.bits, IntKind.signed]
      simp
      omega
    have h49 := fun H => v49 n z.natAbs (by omega) H
    have hb : bin 0 .add (.string ⟨#[45]⟩) (.string (bs (Lib.decDigits z.natAbs))) = some (.string (bs ([45] ++ Lib.decDigits z.natAbs))) := bin_bs 0 [45] _ (by
      have := dec_len 19 z.natAbs (by omega)
      simp; omega)
    have e2 : Lib.itoa z = [45] ++ Lib.decDigits z.natAbs := by unfold Lib.itoa; rw [if_pos h]; rfl
    rw [e2]
    simp -implicitDefEqProofs only [s29, ↓GVdn, GVup, goInt, splice, okC, Fr.of, Fr.ofI, Fr.g, Nat.reduceAdd, Nat.reduceMul, Nat.reduceEqDiff, Nat.reduceLT, Nat.reduceLeDiff, Nat.reduceBEq, Int.reduceLT, Int.reduceLE, Int.reduceToNat, Int.reduceAdd, Int.reduceSub, Int.reduceMul, Int.reduceEq, Int.reduceNeg, ↓reduceIte, ↓reduceDIte, Nat.beq, reduceCtorEq, Value.int.injEq, Nat.reduceSub, sto_ptr, lp_succ, flat_str, h, e1, h49, hb]
  · have e1 : IntKind.wrap .u64 z = ((z.toNat : Nat) : Int) := by
      simp only [IntKind.wrap, IntKind.bits, IntKind.signed]
      simp
      omega
    have h49 := fun H => v49 n z.toNat (by omega) H
    have e2 : Lib.itoa z = Lib.decDigits z.toNat := by unfold Lib.itoa; rw [if_neg h]
    rw [e2]
    simp -implicitDefEqProofs only [s29, ↓GVdn, GVup, goInt, splice, okC, Fr.of, Fr.ofI, Fr.g, Nat.reduceAdd, Nat.reduceMul, Nat.reduceEqDiff, Nat.reduceLT, Nat.reduceLeDiff, Nat.reduceBEq, Int.reduceLT, Int.reduceLE, Int.reduceToNat, Int.reduceAdd, Int.reduceSub, Int.reduceMul, Int.reduceEq, Int.reduceNeg, ↓reduceIte, ↓reduceDIte, Nat.beq, reduceCtorEq, Value.int.injEq, Nat.reduceSub, sto_ptr, lp_succ, flat_str, h, e1, h49]
end Go.Proofs.YtbaooebafijenaaDoor
