/- The document's numbers, labels, registers, read. -/
import Derived.Test.YtbaooebafijenaaDoorGRNm
import Derived.Test.YtbaooebafijenaaDoorGvBun
namespace Go.Proofs.YtbaooebafijenaaDoor
open Go Go.Ev
set_option maxRecDepth 100000
set_option linter.unusedSimpArgs false
set_option linter.unusedVariables false
set_option maxHeartbeats 4000000
set_option linter.unusedSectionVars false
variable [Mx]
attribute [local congr] bind_front callK_front jn_front ifB_front ifG_front lp_front
/-! ### Numbers -/
def decF : Nat → Bs → Option Nat
  | a, [] => some a
  | a, c :: r => if 48 ≤ c.toNat ∧ c.toNat ≤ 57 then decF (a * 10 + (c.toNat - 48)) r else none
def numD (s : Bs) : Bs := if s.head? = some 45 then s.tail else s
def numV (s : Bs) : Int × Bool :=
  if numD s = [] ∨ 12 < (numD s).length ∨ ((numD s).head? = some 48 ∧ 1 < s.length) then (0, false)
  else match decF 0 (numD s) with
    | none => (0, false)
    | some n => (if (numD s).length < s.length then -(n : Int) else n, true)
def kA : Nat → Nat → Bs → Nat
  | _, a, [] => a
  | i, a, c :: r => if 48 ≤ c.toNat ∧ c.toNat ≤ 57 then kA (i + 1) (a * 10 + (c.toNat - 48)) r else a
theorem num_loop (C : Cl) (n : Nat) (sv : Value) (d : Bs) (hd : d.length ≤ 12) (H : Hp) (kx : Nat → Fr → Hp → Option (Out × Hp)) (kr : Fr → Hp → Option (Out × Hp)) : ∀ (r : Bs) (i m a : Nat), d.drop i = r → r.length < m → a < 10 ^ i → i ≤ d.length →
    lp (s59_b1 C n) m [sv, .string (bs d), .int .i64 a, .int .i64 i] H kx kr = match decF a r with | none => kr (Fr.of [0, 2, 3, 4, 5] [sv, .int .i64 0, .bool false, .string (bs d), .int .i64 (kA i a r)]) H | some z => kx 0 (Fr.of [0, 2, 3, 4, 5] [sv, dead, dead, .string (bs d), .int .i64 z]) H := by
  have hsz : (bs d).size = d.length := by rw [Lib.size_eq, bs_list]
  intro r
  induction r with
  | nil =>
    intro i m a hdr hm ha hi
    obtain ⟨m, rfl⟩ : ∃ q, m = q + 1 := ⟨m - 1, by omega⟩
    have hlt : ((i : Int) < (d.length : Int)) = False := eq_false (by
      have := congrArg List.length hdr
      simp only [List.length_drop, List.length_nil] at this
      omega)
    rw [lp_succ]
    simp -implicitDefEqProofs only [s59_b1, ↓GVdn, GVup, goInt, splice, okC, Fr.of, Fr.ofI, Fr.g, Nat.reduceAdd, Nat.reduceMul, Nat.reduceEqDiff, Nat.reduceLT, Nat.reduceLeDiff, Nat.reduceBEq, Int.reduceLT, Int.reduceLE, Int.reduceToNat, Int.reduceAdd, Int.reduceSub, Int.reduceMul, Int.reduceEq, Int.reduceNeg, ↓reduceIte, ↓reduceDIte, Nat.beq, reduceCtorEq, Value.int.injEq, Nat.reduceSub, sto_ptr, hsz, hlt, decF]
  | cons c r ih =>
    intro i m a hdr hm ha hi
    obtain ⟨m, rfl⟩ : ∃ q, m = q + 1 := ⟨m - 1, by omega⟩
    obtain ⟨h1, h2, h3⟩ := drop_cons hdr
    have hlt : ((i : Int) < (d.length : Int)) = True := eq_true (by omega)
    have hi0 : ((0 : Int) ≤ (i : Int)) = True := eq_true (by omega)
    have hw1 : IntKind.wrap .i64 ((i : Int) + 1) = ((i + 1 : Nat) : Int) := by rw [IntWalk.i64_in _ (by omega)]; rfl
    have hp : 10 ^ i ≤ 10 ^ 11 := Nat.pow_le_pow_right (by omega) (by omega)
    have hp2 : 10 ^ (i + 1) = 10 ^ i * 10 := Nat.pow_succ ..
    have hc : c.toNat < 256 := c.toNat_lt
    rw [lp_succ]
    unfold decF kA
    by_cases d1 : 48 ≤ c.toNat
    · have a1 : ((c.toNat : Int) < 48) = False := eq_false (by omega)
      by_cases d2 : c.toNat ≤ 57
      · have a2 : ((57 : Int) < (c.toNat : Int)) = False := eq_false (by omega)
        have hw2 : IntKind.wrap .i64 ((a : Int) * 10) = (a : Int) * 10 := IntWalk.i64_in _ (by omega)
        have hw3 : IntKind.wrap .u8 ((c.toNat : Int) - 48) = (c.toNat : Int) - 48 := by
          rw [show IntKind.wrap .u8 ((c.toNat : Int) - 48) = ((c.toNat : Int) - 48) % 256 from rfl]; omega
        have hw4 : IntKind.wrap .i64 ((c.toNat : Int) - 48) = (c.toNat : Int) - 48 := IntWalk.i64_in _ (by omega)
        have hw5 : IntKind.wrap .i64 ((a : Int) * 10 + ((c.toNat : Int) - 48)) = ((a * 10 + (c.toNat - 48) : Nat) : Int) := by
          rw [IntWalk.i64_in _ (by omega)]; omega
        have ih := ih (i + 1) m (a * 10 + (c.toNat - 48)) h2 (by simp at hm; omega) (by omega) (by omega)
        simp only [d1, d2, and_self, if_true]
        simp -implicitDefEqProofs only [s59_b1, ↓GVdn, GVup, goInt, splice, okC, Fr.of, Fr.ofI, Fr.g, Nat.reduceAdd, Nat.reduceMul, Nat.reduceEqDiff, Nat.reduceLT, Nat.reduceLeDiff, Nat.reduceBEq, Int.reduceLT, Int.reduceLE, Int.reduceToNat, Int.reduceAdd, Int.reduceSub, Int.reduceMul, Int.reduceEq, Int.reduceNeg, ↓reduceIte, ↓reduceDIte, Nat.beq, reduceCtorEq, Value.int.injEq, Nat.reduceSub, sto_ptr, hsz, hlt, hi0, h1, hw1, hw2, hw3, hw4, hw5, ih, a1, a2]
      · have a2 : ((57 : Int) < (c.toNat : Int)) = True := eq_true (by omega)
        simp only [d2, and_false, if_false]
        simp -implicitDefEqProofs only [s59_b1, ↓GVdn, GVup, goInt, splice, okC, Fr.of, Fr.ofI, Fr.g, Nat.reduceAdd, Nat.reduceMul, Nat.reduceEqDiff, Nat.reduceLT, Nat.reduceLeDiff, Nat.reduceBEq, Int.reduceLT, Int.reduceLE, Int.reduceToNat, Int.reduceAdd, Int.reduceSub, Int.reduceMul, Int.reduceEq, Int.reduceNeg, ↓reduceIte, ↓reduceDIte, Nat.beq, reduceCtorEq, Value.int.injEq, Nat.reduceSub, sto_ptr, hsz, hlt, hi0, h1, hw1, a1, a2]
    · have a1 : ((c.toNat : Int) < 48) = True := eq_true (by omega)
      simp only [d1, false_and, if_false]
      simp -implicitDefEqProofs only [s59_b1, ↓GVdn, GVup, goInt, splice, okC, Fr.of, Fr.ofI, Fr.g, Nat.reduceAdd, Nat.reduceMul, Nat.reduceEqDiff, Nat.reduceLT, Nat.reduceLeDiff, Nat.reduceBEq, Int.reduceLT, Int.reduceLE, Int.reduceToNat, Int.reduceAdd, Int.reduceSub, Int.reduceMul, Int.reduceEq, Int.reduceNeg, ↓reduceIte, ↓reduceDIte, Nat.beq, reduceCtorEq, Value.int.injEq, Nat.reduceSub, sto_ptr, hsz, hlt, hi0, h1, hw1, a1]
theorem q59 (n : Nat) (x0 : Value) (hx0 : flat x0 = true) (H : Hp) : evCall cfc (n+1) 59 [x0] H = movR [] H (s59 (evCall cfc n) n x0 Hp.fl) := by
  rw [evCall_quiet (fn := Tryd.f59) (by rfl) (by rfl) Tryd.func59 (by rfl) (by simp [hx0])]
  exact congrArg (movR [] H) (s59_eq _ _ _ _)
theorem decF_lt : ∀ (r : Bs) (i a z : Nat), decF a r = some z → a < 10 ^ i → z < 10 ^ (i + r.length) := by
  intro r
  induction r with
  | nil => intro i a z h ha; have := Option.some.inj h; subst this; exact ha
  | cons c r ih =>
    intro i a z h ha
    unfold decF at h
    split at h
    · have hp2 : 10 ^ (i + 1) = 10 ^ i * 10 := Nat.pow_succ ..
      have := ih (i + 1) _ z h (by omega)
      rw [List.length_cons, show i + (r.length + 1) = i + 1 + r.length by omega]
      exact this
    · exact absurd h (by simp)
theorem u8ne {c : UInt8} (k : UInt8) (h : ¬ c = k) : ((c.toNat : Int) = (k.toNat : Int)) = False := eq_false (fun e => h (UInt8.toNat_inj.mp (by omega)))
theorem movR_pair (H : Hp) (a : Int) (b : Bool) : movR [] H (some (.ret (.tuple #[.int .i64 a, .bool b]), Hp.fl)) = some (.ret (.tuple #[.int .i64 a, .bool b]), H) := rfl
theorem v59 (n : Nat) (s : Bs) (hn : 20 < n) (H : Hp) (hs : s.length ≤ 1000) : evCall cfc (n+1) 59 [.string (bs s)] H = some (.ret (.tuple #[.int .i64 (numV s).1, .bool (numV s).2]), H) := by
  rw [q59 n _ rfl H]
  cases s with
  | nil =>
    have e : bs [] = ⟨#[]⟩ := rfl
    have es : (⟨#[]⟩ : ByteArray).size = 0 := rfl
    rw [e]
    simp -implicitDefEqProofs only [s59, ↓GVdn, GVup, goInt, splice, okC, Fr.of, Fr.ofI, Fr.g, Nat.reduceAdd, Nat.reduceMul, Nat.reduceEqDiff, Nat.reduceLT, Nat.reduceLeDiff, Nat.reduceBEq, Int.reduceLT, Int.reduceLE, Int.reduceToNat, Int.reduceAdd, Int.reduceSub, Int.reduceMul, Int.reduceEq, Int.reduceNeg, ↓reduceIte, ↓reduceDIte, Nat.beq, reduceCtorEq, Value.int.injEq, Nat.reduceSub, sto_ptr, lp_succ, es]
    rfl
  | cons c r =>
    have hsz : (bs (c :: r)).size = r.length + 1 := by rw [Lib.size_eq, bs_list]; rfl
    have hne : (bs (c :: r) = ⟨#[]⟩) = False := eq_false (bs_emp (by simp))
    have h0 : (bs (c :: r))[0]? = some c := (drop_cons (s := c :: r) (i := 0) rfl).1
    have hlg : ((0 : Int) < ((r.length + 1 : Nat) : Int)) = True := eq_true (by omega)
    have hx : (bs (c :: r)).extract 1 (r.length + 1) = bs r := bytes_inj (by rw [extract_list, bs_list, bs_list]; simp)
    have hl1 : ((1 : Int) ≤ ((r.length + 1 : Nat) : Int)) = True := eq_true (by omega)
    simp only [List.length_cons] at hs
    by_cases hc : c = 45
    · subst hc
      have hD : numD (45 :: r) = r := rfl
      have hc1 : (((45 : UInt8).toNat : Int) = 45) = True := eq_true rfl
      unfold numV
      rw [hD]
      cases r with
      | nil =>
        have e : bs [] = ⟨#[]⟩ := rfl
        rw [e] at hx
        simp -implicitDefEqProofs only [s59, ↓GVdn, GVup, goInt, splice, okC, Fr.of, Fr.ofI, Fr.g, Nat.reduceAdd, Nat.reduceMul, Nat.reduceEqDiff, Nat.reduceLT, Nat.reduceLeDiff, Nat.reduceBEq, Int.reduceLT, Int.reduceLE, Int.reduceToNat, Int.reduceAdd, Int.reduceSub, Int.reduceMul, Int.reduceEq, Int.reduceNeg, ↓reduceIte, ↓reduceDIte, Nat.beq, reduceCtorEq, Value.int.injEq, Nat.reduceSub, sto_ptr, lp_succ, hsz, h0, hne, hlg, hx, hl1, hc1]
        rfl
      | cons e q =>
        have hszd : (bs (e :: q)).size = q.length + 1 := by rw [Lib.size_eq, bs_list]; rfl
        have hned : (bs (e :: q) = ⟨#[]⟩) = False := eq_false (bs_emp (by simp))
        have h0d : (bs (e :: q))[0]? = some e := (drop_cons (s := e :: q) (i := 0) rfl).1
        have hlgd : ((0 : Int) < ((q.length + 1 : Nat) : Int)) = True := eq_true (by omega)
        have g0 : ¬ (e :: q) = [] := by simp
        have g1 : ((1 : Int) < ((q.length + 1 + 1 : Nat) : Int)) = True := eq_true (by omega)
        have g2 : ((e :: q).length < (45 :: e :: q).length) := by simp
        have g3 : (((q.length + 1 : Nat) : Int) < ((q.length + 1 + 1 : Nat) : Int)) = True := eq_true (by omega)
        simp only [List.length_cons] at hsz hlg hx hl1 g2 ⊢
        by_cases g12 : 12 < q.length + 1
        · have a1 : ((12 : Int) < ((q.length + 1 : Nat) : Int)) = True := eq_true (by omega)
          rw [if_pos (Or.inr (Or.inl g12))]
          simp -implicitDefEqProofs only [s59, ↓GVdn, GVup, goInt, splice, okC, Fr.of, Fr.ofI, Fr.g, Nat.reduceAdd, Nat.reduceMul, Nat.reduceEqDiff, Nat.reduceLT, Nat.reduceLeDiff, Nat.reduceBEq, Int.reduceLT, Int.reduceLE, Int.reduceToNat, Int.reduceAdd, Int.reduceSub, Int.reduceMul, Int.reduceEq, Int.reduceNeg, ↓reduceIte, ↓reduceDIte, Nat.beq, reduceCtorEq, Value.int.injEq, Nat.reduceSub, sto_ptr, lp_succ, hsz, h0, hne, hlg, hx, hl1, hc1, hszd, hned, a1]
          exact movR_pair _ _ _
        · have a1 : ((12 : Int) < ((q.length + 1 : Nat) : Int)) = False := eq_false (by omega)
          by_cases g48 : e = 48
          · subst g48
            have a2 : (((48 : UInt8).toNat : Int) = 48) = True := eq_true rfl
            rw [if_pos (Or.inr (Or.inr ⟨rfl, by omega⟩))]
            simp -implicitDefEqProofs only [s59, ↓GVdn, GVup, goInt, splice, okC, Fr.of, Fr.ofI, Fr.g, Nat.reduceAdd, Nat.reduceMul, Nat.reduceEqDiff, Nat.reduceLT, Nat.reduceLeDiff, Nat.reduceBEq, Int.reduceLT, Int.reduceLE, Int.reduceToNat, Int.reduceAdd, Int.reduceSub, Int.reduceMul, Int.reduceEq, Int.reduceNeg, ↓reduceIte, ↓reduceDIte, Nat.beq, reduceCtorEq, Value.int.injEq, Nat.reduceSub, sto_ptr, lp_succ, hsz, h0, hne, hlg, hx, hl1, hc1, hszd, hned, h0d, hlgd, a1, a2, g1]
            exact movR_pair _ _ _
          · have a2 : ((e.toNat : Int) = 48) = False := u8ne 48 g48
            rw [if_neg (by rintro (h | h | ⟨h, _⟩); exact g0 h; exact g12 h; exact g48 (Option.some.inj h))]
            have hl := fun kx kr => num_loop (evCall cfc n) n (.string (bs (45 :: e :: q))) (e :: q) (by simp; omega) Hp.fl kx kr (e :: q) 0 n 0 rfl (by simp; omega) (by decide) (by omega)
            have z0 : (((0 : Nat) : Int)) = 0 := rfl
            simp only [z0] at hl
            cases hdf : decF 0 (e :: q) with
            | none =>
              simp only [hdf] at hl ⊢
              simp -implicitDefEqProofs only [s59, ↓GVdn, GVup, goInt, splice, okC, Fr.of, Fr.ofI, Fr.g, Nat.reduceAdd, Nat.reduceMul, Nat.reduceEqDiff, Nat.reduceLT, Nat.reduceLeDiff, Nat.reduceBEq, Int.reduceLT, Int.reduceLE, Int.reduceToNat, Int.reduceAdd, Int.reduceSub, Int.reduceMul, Int.reduceEq, Int.reduceNeg, ↓reduceIte, ↓reduceDIte, Nat.beq, reduceCtorEq, Value.int.injEq, Nat.reduceSub, sto_ptr, hsz, h0, hne, hlg, hx, hl1, hc1, hszd, hned, h0d, hlgd, a1, a2, hl]
              exact movR_pair _ _ _
            | some z =>
              simp only [hdf] at hl ⊢
              rw [if_pos g2]
              have hz : z < 10 ^ 12 := by
                have h1 := decF_lt (e :: q) 0 0 z hdf (by decide)
                have h2 : 10 ^ (0 + (e :: q).length) ≤ 10 ^ 12 := Nat.pow_le_pow_right (by omega) (by simp; omega)
                omega
              have hw : IntKind.wrap .i64 (0 - (z : Int)) = -(z : Int) := by rw [IntWalk.i64_in _ (by omega)]; omega
              simp -implicitDefEqProofs only [s59, ↓GVdn, GVup, goInt, splice, okC, Fr.of, Fr.ofI, Fr.g, Nat.reduceAdd, Nat.reduceMul, Nat.reduceEqDiff, Nat.reduceLT, Nat.reduceLeDiff, Nat.reduceBEq, Int.reduceLT, Int.reduceLE, Int.reduceToNat, Int.reduceAdd, Int.reduceSub, Int.reduceMul, Int.reduceEq, Int.reduceNeg, ↓reduceIte, ↓reduceDIte, Nat.beq, reduceCtorEq, Value.int.injEq, Nat.reduceSub, sto_ptr, hsz, h0, hne, hlg, hx, hl1, hc1, hszd, hned, h0d, hlgd, a1, a2, hl, g3, hw]
              exact movR_pair _ _ _
    · have hD : numD (c :: r) = c :: r := if_neg (fun h => hc (Option.some.inj h))
      have hc1 : ((c.toNat : Int) = 45) = False := u8ne 45 hc
      unfold numV
      rw [hD]
      have g0 : ¬ (c :: r) = [] := by simp
      simp only [List.length_cons]
      by_cases g12 : 12 < r.length + 1
      · have a1 : ((12 : Int) < ((r.length + 1 : Nat) : Int)) = True := eq_true (by omega)
        rw [if_pos (Or.inr (Or.inl g12))]
        simp -implicitDefEqProofs only [s59, ↓GVdn, GVup, goInt, splice, okC, Fr.of, Fr.ofI, Fr.g, Nat.reduceAdd, Nat.reduceMul, Nat.reduceEqDiff, Nat.reduceLT, Nat.reduceLeDiff, Nat.reduceBEq, Int.reduceLT, Int.reduceLE, Int.reduceToNat, Int.reduceAdd, Int.reduceSub, Int.reduceMul, Int.reduceEq, Int.reduceNeg, ↓reduceIte, ↓reduceDIte, Nat.beq, reduceCtorEq, Value.int.injEq, Nat.reduceSub, sto_ptr, lp_succ, hsz, h0, hne, hlg, hx, hl1, hc1, a1]
        exact movR_pair _ _ _
      · have a1 : ((12 : Int) < ((r.length + 1 : Nat) : Int)) = False := eq_false (by omega)
        have fin : ∀ (b : Prop) [Decidable b], (¬ (c = 48 ∧ b)) → b = (1 < r.length + 1) →
            movR [] H (s59 (evCall cfc n) n (.string (bs (c :: r))) Hp.fl) = some (.ret (.tuple #[.int .i64 (match decF 0 (c :: r) with | none => ((0 : Int), false) | some n => (if r.length + 1 < r.length + 1 then -(n : Int) else n, true)).1, .bool (match decF 0 (c :: r) with | none => ((0 : Int), false) | some n => (if r.length + 1 < r.length + 1 then -(n : Int) else n, true)).2]), H) := by
          intro b _ hb hb2
          have g3 : (((r.length + 1 : Nat) : Int) < ((r.length + 1 : Nat) : Int)) = False := eq_false (by omega)
          have g4 : ¬ (r.length + 1 < r.length + 1) := by omega
          have hl := fun kx kr => num_loop (evCall cfc n) n (.string (bs (c :: r))) (c :: r) (by simp; omega) Hp.fl kx kr (c :: r) 0 n 0 rfl (by simp; omega) (by decide) (by omega)
          have z0 : (((0 : Nat) : Int)) = 0 := rfl
          simp only [z0] at hl
          by_cases g48 : c = 48
          · have a2 : ((c.toNat : Int) = 48) = True := eq_true (by rw [g48]; rfl)
            have g1 : ((1 : Int) < ((r.length + 1 : Nat) : Int)) = False := eq_false (fun h => hb ⟨g48, by rw [hb2]; omega⟩)
            cases hdf : decF 0 (c :: r) with
            | none =>
              simp only [hdf] at hl ⊢
              simp -implicitDefEqProofs only [s59, ↓GVdn, GVup, goInt, splice, okC, Fr.of, Fr.ofI, Fr.g, Nat.reduceAdd, Nat.reduceMul, Nat.reduceEqDiff, Nat.reduceLT, Nat.reduceLeDiff, Nat.reduceBEq, Int.reduceLT, Int.reduceLE, Int.reduceToNat, Int.reduceAdd, Int.reduceSub, Int.reduceMul, Int.reduceEq, Int.reduceNeg, ↓reduceIte, ↓reduceDIte, Nat.beq, reduceCtorEq, Value.int.injEq, Nat.reduceSub, sto_ptr, hsz, h0, hne, hlg, hx, hl1, hc1, a1, a2, g1, hl]
              exact movR_pair _ _ _
            | some z =>
              simp only [hdf] at hl ⊢
              rw [if_neg g4]
              simp -implicitDefEqProofs only [s59, ↓GVdn, GVup, goInt, splice, okC, Fr.of, Fr.ofI, Fr.g, Nat.reduceAdd, Nat.reduceMul, Nat.reduceEqDiff, Nat.reduceLT, Nat.reduceLeDiff, Nat.reduceBEq, Int.reduceLT, Int.reduceLE, Int.reduceToNat, Int.reduceAdd, Int.reduceSub, Int.reduceMul, Int.reduceEq, Int.reduceNeg, ↓reduceIte, ↓reduceDIte, Nat.beq, reduceCtorEq, Value.int.injEq, Nat.reduceSub, sto_ptr, hsz, h0, hne, hlg, hx, hl1, hc1, a1, a2, g1, hl, g3]
              exact movR_pair _ _ _
          · have a2 : ((c.toNat : Int) = 48) = False := u8ne 48 g48
            cases hdf : decF 0 (c :: r) with
            | none =>
              simp only [hdf] at hl ⊢
              simp -implicitDefEqProofs only [s59, ↓GVdn, GVup, goInt, splice, okC, Fr.of, Fr.ofI, Fr.g, Nat.reduceAdd, Nat.reduceMul, Nat.reduceEqDiff, Nat.reduceLT, Nat.reduceLeDiff, Nat.reduceBEq, Int.reduceLT, Int.reduceLE, Int.reduceToNat, Int.reduceAdd, Int.reduceSub, Int.reduceMul, Int.reduceEq, Int.reduceNeg, ↓reduceIte, ↓reduceDIte, Nat.beq, reduceCtorEq, Value.int.injEq, Nat.reduceSub, sto_ptr, hsz, h0, hne, hlg, hx, hl1, hc1, a1, a2, hl]
              exact movR_pair _ _ _
            | some z =>
              simp only [hdf] at hl ⊢
              rw [if_neg g4]
              simp -implicitDefEqProofs only [s59, ↓GVdn, GVup, goInt, splice, okC, Fr.of, Fr.ofI, Fr.g, Nat.reduceAdd, Nat.reduceMul, Nat.reduceEqDiff, Nat.reduceLT, Nat.reduceLeDiff, Nat.reduceBEq, Int.reduceLT, Int.reduceLE, Int.reduceToNat, Int.reduceAdd, Int.reduceSub, Int.reduceMul, Int.reduceEq, Int.reduceNeg, ↓reduceIte, ↓reduceDIte, Nat.beq, reduceCtorEq, Value.int.injEq, Nat.reduceSub, sto_ptr, hsz, h0, hne, hlg, hx, hl1, hc1, a1, a2, hl, g3]
              exact movR_pair _ _ _
        by_cases gg : c = 48 ∧ 1 < r.length + 1
        · have a2 : ((c.toNat : Int) = 48) = True := eq_true (by rw [gg.1]; rfl)
          have g1 : ((1 : Int) < ((r.length + 1 : Nat) : Int)) = True := eq_true (by have := gg.2; omega)
          rw [if_pos (Or.inr (Or.inr ⟨by rw [gg.1]; rfl, gg.2⟩))]
          simp -implicitDefEqProofs only [s59, ↓GVdn, GVup, goInt, splice, okC, Fr.of, Fr.ofI, Fr.g, Nat.reduceAdd, Nat.reduceMul, Nat.reduceEqDiff, Nat.reduceLT, Nat.reduceLeDiff, Nat.reduceBEq, Int.reduceLT, Int.reduceLE, Int.reduceToNat, Int.reduceAdd, Int.reduceSub, Int.reduceMul, Int.reduceEq, Int.reduceNeg, ↓reduceIte, ↓reduceDIte, Nat.beq, reduceCtorEq, Value.int.injEq, Nat.reduceSub, sto_ptr, lp_succ, hsz, h0, hne, hlg, hx, hl1, hc1, a1, a2, g1]
          exact movR_pair _ _ _
        · rw [if_neg (by rintro (h | h | ⟨h, h'⟩); exact g0 h; exact g12 h; exact gg ⟨Option.some.inj h, h'⟩)]
          exact fin _ gg rfl
/-! ### Labels -/
def labR (c : UInt8) : Bool := letB c || digB c
theorem lab_eq (s : Bs) : labelV (bs s) = (decide (¬ s = []) && decide (s.length ≤ 16) && !(match s with | [] => false | c :: _ => digB c) && s.all labR) := by
  unfold labelV
  rw [bs_list]
  have h1 : decide (¬ bs s = (⟨#[]⟩ : ByteArray)) = decide (¬ s = []) := by
    have := bs_emp_iff s
    unfold emp at this
    simp only [this]
  have h2 : (bs s).size = s.length := by rw [Lib.size_eq, bs_list]
  rw [h1, h2]
  have h3 : ∀ (l : Bs) (i : Nat), 1 ≤ i → labL i l = l.all labR := by
    intro l
    induction l with
    | nil => intro i _; rfl
    | cons c l ih =>
      intro i hi
      simp only [labL, List.all_cons, labC, labR]
      rw [ih (i + 1) (by omega), decide_eq_true (show i ≠ 0 by omega), Bool.true_and]
  cases s with
  | nil => rfl
  | cons c r =>
    simp only [labL, List.all_cons, labC]
    rw [h3 r 1 (Nat.le_refl 1)]
    have hld : letB c = true → digB c = false := by
      unfold letB digB
      intro h
      simp only [Bool.or_eq_true, decide_eq_true_eq] at h
      exact decide_eq_false (by omega)
    unfold labR
    cases hl : letB c with
    | true => rw [hld hl]; simp [Bool.and_comm, Bool.and_left_comm]
    | false => cases hg : digB c <;> simp [Bool.and_comm, Bool.and_left_comm]
theorem lab2_loop (C : Cl) (n : Nat) (s : Bs) (hs : s.length ≤ 1000) (H : Hp) (kx : Nat → Fr → Hp → Option (Out × Hp)) (kr : Fr → Hp → Option (Out × Hp)) : ∀ (r : Bs) (i m : Nat), s.drop i = r → r.length < m → i ≤ s.length →
    lp (s60_b1 C n) m [.string (bs s), .int .i64 i] H kx kr = if r.all labR = true then kx 0 (Fr.of [2] [dead]) H else kr (Fr.of [2] [.bool false]) H := by
  have hsz : (bs s).size = s.length := by rw [Lib.size_eq, bs_list]
  intro r
  induction r with
  | nil =>
    intro i m hd hm hi
    obtain ⟨m, rfl⟩ : ∃ q, m = q + 1 := ⟨m - 1, by omega⟩
    have hlt : ((i : Int) < (s.length : Int)) = False := eq_false (by
      have := congrArg List.length hd
      simp only [List.length_drop, List.length_nil] at this
      omega)
    rw [lp_succ]
    simp -implicitDefEqProofs only [s60_b1, ↓GVdn, GVup, goInt, splice, okC, Fr.of, Fr.ofI, Fr.g, Nat.reduceAdd, Nat.reduceMul, Nat.reduceEqDiff, Nat.reduceLT, Nat.reduceLeDiff, Nat.reduceBEq, Int.reduceLT, Int.reduceLE, Int.reduceToNat, Int.reduceAdd, Int.reduceSub, Int.reduceMul, Int.reduceEq, Int.reduceNeg, ↓reduceIte, ↓reduceDIte, Nat.beq, reduceCtorEq, Value.int.injEq, Nat.reduceSub, sto_ptr, hsz, hlt, List.all_nil]
  | cons c r ih =>
    intro i m hd hm hi
    obtain ⟨m, rfl⟩ : ∃ q, m = q + 1 := ⟨m - 1, by omega⟩
    obtain ⟨h1, h2, h3⟩ := drop_cons hd
    have hlt : ((i : Int) < (s.length : Int)) = True := eq_true (by omega)
    have hi0 : ((0 : Int) ≤ (i : Int)) = True := eq_true (by omega)
    have hw1 : IntKind.wrap .i64 ((i : Int) + 1) = ((i + 1 : Nat) : Int) := by rw [IntWalk.i64_in _ (by omega)]; rfl
    have ih := ih (i + 1) m h2 (by simp at hm; omega) (by omega)
    rw [lp_succ, List.all_cons]
    have hL : ((97 ≤ (c.toNat : Int)) = True ∧ ((c.toNat : Int) ≤ 122) = True ∧ labR c = true) ∨ ((97 ≤ (c.toNat : Int)) = True ∧ ((c.toNat : Int) ≤ 122) = False ∧ (48 ≤ (c.toNat : Int)) = True ∧ ((c.toNat : Int) ≤ 57) = False ∧ ((c.toNat : Int) = 95) = False ∧ labR c = false) ∨
        ((97 ≤ (c.toNat : Int)) = False ∧ (48 ≤ (c.toNat : Int)) = True ∧ ((c.toNat : Int) ≤ 57) = True ∧ labR c = true) ∨ ((97 ≤ (c.toNat : Int)) = False ∧ (48 ≤ (c.toNat : Int)) = True ∧ ((c.toNat : Int) ≤ 57) = False ∧ ((c.toNat : Int) = 95) = True ∧ labR c = true) ∨
        ((97 ≤ (c.toNat : Int)) = False ∧ (48 ≤ (c.toNat : Int)) = True ∧ ((c.toNat : Int) ≤ 57) = False ∧ ((c.toNat : Int) = 95) = False ∧ labR c = false) ∨ ((97 ≤ (c.toNat : Int)) = False ∧ (48 ≤ (c.toNat : Int)) = False ∧ ((c.toNat : Int) = 95) = False ∧ labR c = false) := by
      have e : labR c = decide (((97 ≤ c.toNat ∧ c.toNat ≤ 122) ∨ c.toNat = 95) ∨ (48 ≤ c.toNat ∧ c.toNat ≤ 57)) := by
        unfold labR letB digB
        by_cases h1 : 97 ≤ c.toNat ∧ c.toNat ≤ 122 <;> by_cases h2 : c.toNat = 95 <;> by_cases h3 : 48 ≤ c.toNat ∧ c.toNat ≤ 57 <;> simp [h1, h2, h3]
      simp only [e, eq_iff_iff, iff_true, iff_false, decide_eq_true_eq, decide_eq_false_iff_not]
      omega
    rcases hL with ⟨a1, a2, hlab⟩ | ⟨a1, a2, a3, a4, a5, hlab⟩ | ⟨a1, a3, a4, hlab⟩ | ⟨a1, a3, a4, a5, hlab⟩ | ⟨a1, a3, a4, a5, hlab⟩ | ⟨a1, a3, a5, hlab⟩
    · simp -implicitDefEqProofs only [s60_b1, ↓GVdn, GVup, goInt, splice, okC, Fr.of, Fr.ofI, Fr.g, Nat.reduceAdd, Nat.reduceMul, Nat.reduceEqDiff, Nat.reduceLT, Nat.reduceLeDiff, Nat.reduceBEq, Int.reduceLT, Int.reduceLE, Int.reduceToNat, Int.reduceAdd, Int.reduceSub, Int.reduceMul, Int.reduceEq, Int.reduceNeg, ↓reduceIte, ↓reduceDIte, Nat.beq, reduceCtorEq, Value.int.injEq, Nat.reduceSub, sto_ptr, hsz, hlt, hi0, h1, hw1, ih, a1, a2, hlab, Bool.true_and]
    · simp -implicitDefEqProofs only [s60_b1, ↓GVdn, GVup, goInt, splice, okC, Fr.of, Fr.ofI, Fr.g, Nat.reduceAdd, Nat.reduceMul, Nat.reduceEqDiff, Nat.reduceLT, Nat.reduceLeDiff, Nat.reduceBEq, Int.reduceLT, Int.reduceLE, Int.reduceToNat, Int.reduceAdd, Int.reduceSub, Int.reduceMul, Int.reduceEq, Int.reduceNeg, ↓reduceIte, ↓reduceDIte, Nat.beq, reduceCtorEq, Value.int.injEq, Nat.reduceSub, sto_ptr, hsz, hlt, hi0, h1, hw1, a1, a2, a3, a4, a5, hlab, Bool.false_and, Bool.false_eq_true]
    · simp -implicitDefEqProofs only [s60_b1, ↓GVdn, GVup, goInt, splice, okC, Fr.of, Fr.ofI, Fr.g, Nat.reduceAdd, Nat.reduceMul, Nat.reduceEqDiff, Nat.reduceLT, Nat.reduceLeDiff, Nat.reduceBEq, Int.reduceLT, Int.reduceLE, Int.reduceToNat, Int.reduceAdd, Int.reduceSub, Int.reduceMul, Int.reduceEq, Int.reduceNeg, ↓reduceIte, ↓reduceDIte, Nat.beq, reduceCtorEq, Value.int.injEq, Nat.reduceSub, sto_ptr, hsz, hlt, hi0, h1, hw1, ih, a1, a3, a4, hlab, Bool.true_and]
    · simp -implicitDefEqProofs only [s60_b1, ↓GVdn, GVup, goInt, splice, okC, Fr.of, Fr.ofI, Fr.g, Nat.reduceAdd, Nat.reduceMul, Nat.reduceEqDiff, Nat.reduceLT, Nat.reduceLeDiff, Nat.reduceBEq, Int.reduceLT, Int.reduceLE, Int.reduceToNat, Int.reduceAdd, Int.reduceSub, Int.reduceMul, Int.reduceEq, Int.reduceNeg, ↓reduceIte, ↓reduceDIte, Nat.beq, reduceCtorEq, Value.int.injEq, Nat.reduceSub, sto_ptr, hsz, hlt, hi0, h1, hw1, ih, a1, a3, a4, a5, hlab, Bool.true_and]
    · simp -implicitDefEqProofs only [s60_b1, ↓GVdn, GVup, goInt, splice, okC, Fr.of, Fr.ofI, Fr.g, Nat.reduceAdd, Nat.reduceMul, Nat.reduceEqDiff, Nat.reduceLT, Nat.reduceLeDiff, Nat.reduceBEq, Int.reduceLT, Int.reduceLE, Int.reduceToNat, Int.reduceAdd, Int.reduceSub, Int.reduceMul, Int.reduceEq, Int.reduceNeg, ↓reduceIte, ↓reduceDIte, Nat.beq, reduceCtorEq, Value.int.injEq, Nat.reduceSub, sto_ptr, hsz, hlt, hi0, h1, hw1, a1, a3, a4, a5, hlab, Bool.false_and, Bool.false_eq_true]
    · simp -implicitDefEqProofs only [s60_b1, ↓GVdn, GVup, goInt, splice, okC, Fr.of, Fr.ofI, Fr.g, Nat.reduceAdd, Nat.reduceMul, Nat.reduceEqDiff, Nat.reduceLT, Nat.reduceLeDiff, Nat.reduceBEq, Int.reduceLT, Int.reduceLE, Int.reduceToNat, Int.reduceAdd, Int.reduceSub, Int.reduceMul, Int.reduceEq, Int.reduceNeg, ↓reduceIte, ↓reduceDIte, Nat.beq, reduceCtorEq, Value.int.injEq, Nat.reduceSub, sto_ptr, hsz, hlt, hi0, h1, hw1, a1, a3, a5, hlab, Bool.false_and, Bool.false_eq_true]
theorem q60 (n : Nat) (x0 : Value) (hx0 : flat x0 = true) (H : Hp) : evCall cfc (n+1) 60 [x0] H = movR [] H (s60 (evCall cfc n) n x0 Hp.fl) := by
  rw [evCall_quiet (fn := Tryd.f60) (by rfl) (by rfl) Tryd.func60 (by rfl) (by simp [hx0])]
  exact congrArg (movR [] H) (s60_eq _ _ _ _)
theorem v60 (n : Nat) (s : Bs) (hn : 20 < n) (H : Hp) (hs : s.length ≤ 1073741824) : evCall cfc (n+1) 60 [.string (bs s)] H = some (.ret (.bool (labelV (bs s))), H) := by
  rw [q60 n _ rfl H, lab_eq]
  have hsz : (bs s).size = s.length := by rw [Lib.size_eq, bs_list]
  cases s with
  | nil =>
    have e : bs [] = ⟨#[]⟩ := rfl
    rw [e]
    simp -implicitDefEqProofs only [s60, ↓GVdn, GVup, goInt, splice, okC, Fr.of, Fr.ofI, Fr.g, Nat.reduceAdd, Nat.reduceMul, Nat.reduceEqDiff, Nat.reduceLT, Nat.reduceLeDiff, Nat.reduceBEq, Int.reduceLT, Int.reduceLE, Int.reduceToNat, Int.reduceAdd, Int.reduceSub, Int.reduceMul, Int.reduceEq, Int.reduceNeg, ↓reduceIte, ↓reduceDIte, Nat.beq, reduceCtorEq, Value.int.injEq, Nat.reduceSub, sto_ptr, lp_succ, flat_bool]
  | cons c r =>
    have hsz : (bs (c :: r)).size = r.length + 1 := hsz
    have hne : (bs (c :: r) = ⟨#[]⟩) = False := eq_false (bs_emp (by simp))
    have h0 : (bs (c :: r))[0]? = some c := (drop_cons (s := c :: r) (i := 0) rfl).1
    have hne2 : decide (¬ (c :: r) = []) = true := rfl
    rw [hne2, Bool.true_and]
    by_cases h16 : (c :: r).length ≤ 16
    · have h16' : ((16 : Int) < ((r.length + 1 : Nat) : Int)) = False := eq_false (by simp at h16; omega)
      rw [decide_eq_true h16, Bool.true_and]
      have hl := fun kx kr => lab2_loop (evCall cfc n) n (c :: r) (by omega) Hp.fl kx kr (c :: r) 0 n rfl (by omega) (by omega)
      have hl' : ∀ kx kr, lp (s60_b1 (evCall cfc n) n) n [.string (bs (c :: r)), .int .i64 0] Hp.fl kx kr = _ := hl
      dsimp only
      cases hg : digB c with
      | true =>
        have d1 : (48 ≤ (c.toNat : Int)) = True := eq_true (by have := of_decide_eq_true hg; omega)
        have d2 : ((c.toNat : Int) ≤ 57) = True := eq_true (by have := of_decide_eq_true hg; omega)
        simp -implicitDefEqProofs only [s60, ↓GVdn, GVup, goInt, splice, okC, Fr.of, Fr.ofI, Fr.g, Nat.reduceAdd, Nat.reduceMul, Nat.reduceEqDiff, Nat.reduceLT, Nat.reduceLeDiff, Nat.reduceBEq, Int.reduceLT, Int.reduceLE, Int.reduceToNat, Int.reduceAdd, Int.reduceSub, Int.reduceMul, Int.reduceEq, Int.reduceNeg, ↓reduceIte, ↓reduceDIte, Nat.beq, reduceCtorEq, Value.int.injEq, Nat.reduceSub, sto_ptr, flat_bool, hne, hsz, h16', h0, d1, d2, Bool.not_true, Bool.false_and]
      | false =>
        have hd := of_decide_eq_false hg
        simp only [Bool.not_false, Bool.true_and]
        by_cases hall : (c :: r).all labR = true
        · rw [hall]
          simp only [hall, if_true] at hl'
          by_cases d1 : 48 ≤ (c.toNat : Int)
          · have d2 : ((c.toNat : Int) ≤ 57) = False := eq_false (by omega)
            simp -implicitDefEqProofs only [s60, ↓GVdn, GVup, goInt, splice, okC, Fr.of, Fr.ofI, Fr.g, Nat.reduceAdd, Nat.reduceMul, Nat.reduceEqDiff, Nat.reduceLT, Nat.reduceLeDiff, Nat.reduceBEq, Int.reduceLT, Int.reduceLE, Int.reduceToNat, Int.reduceAdd, Int.reduceSub, Int.reduceMul, Int.reduceEq, Int.reduceNeg, ↓reduceIte, ↓reduceDIte, Nat.beq, reduceCtorEq, Value.int.injEq, Nat.reduceSub, sto_ptr, flat_bool, hne, hsz, h16', h0, d1, d2, hl']
          · simp -implicitDefEqProofs only [s60, ↓GVdn, GVup, goInt, splice, okC, Fr.of, Fr.ofI, Fr.g, Nat.reduceAdd, Nat.reduceMul, Nat.reduceEqDiff, Nat.reduceLT, Nat.reduceLeDiff, Nat.reduceBEq, Int.reduceLT, Int.reduceLE, Int.reduceToNat, Int.reduceAdd, Int.reduceSub, Int.reduceMul, Int.reduceEq, Int.reduceNeg, ↓reduceIte, ↓reduceDIte, Nat.beq, reduceCtorEq, Value.int.injEq, Nat.reduceSub, sto_ptr, flat_bool, hne, hsz, h16', h0, d1, hl']
        · have hall2 : (c :: r).all labR = false := by simpa using hall
          rw [hall2]
          simp only [hall2, Bool.false_eq_true, if_false] at hl'
          by_cases d1 : 48 ≤ (c.toNat : Int)
          · have d2 : ((c.toNat : Int) ≤ 57) = False := eq_false (by omega)
            simp -implicitDefEqProofs only [s60, ↓GVdn, GVup, goInt, splice, okC, Fr.of, Fr.ofI, Fr.g, Nat.reduceAdd, Nat.reduceMul, Nat.reduceEqDiff, Nat.reduceLT, Nat.reduceLeDiff, Nat.reduceBEq, Int.reduceLT, Int.reduceLE, Int.reduceToNat, Int.reduceAdd, Int.reduceSub, Int.reduceMul, Int.reduceEq, Int.reduceNeg, ↓reduceIte, ↓reduceDIte, Nat.beq, reduceCtorEq, Value.int.injEq, Nat.reduceSub, sto_ptr, flat_bool, hne, hsz, h16', h0, d1, d2, hl']
          · simp -implicitDefEqProofs only [s60, ↓GVdn, GVup, goInt, splice, okC, Fr.of, Fr.ofI, Fr.g, Nat.reduceAdd, Nat.reduceMul, Nat.reduceEqDiff, Nat.reduceLT, Nat.reduceLeDiff, Nat.reduceBEq, Int.reduceLT, Int.reduceLE, Int.reduceToNat, Int.reduceAdd, Int.reduceSub, Int.reduceMul, Int.reduceEq, Int.reduceNeg, ↓reduceIte, ↓reduceDIte, Nat.beq, reduceCtorEq, Value.int.injEq, Nat.reduceSub, sto_ptr, flat_bool, hne, hsz, h16', h0, d1, hl']
    · have h16' : ((16 : Int) < ((r.length + 1 : Nat) : Int)) = True := eq_true (by simp at h16; omega)
      rw [decide_eq_false h16]
      simp only [Bool.false_and]
      simp -implicitDefEqProofs only [s60, ↓GVdn, GVup, goInt, splice, okC, Fr.of, Fr.ofI, Fr.g, Nat.reduceAdd, Nat.reduceMul, Nat.reduceEqDiff, Nat.reduceLT, Nat.reduceLeDiff, Nat.reduceBEq, Int.reduceLT, Int.reduceLE, Int.reduceToNat, Int.reduceAdd, Int.reduceSub, Int.reduceMul, Int.reduceEq, Int.reduceNeg, ↓reduceIte, ↓reduceDIte, Nat.beq, reduceCtorEq, Value.int.injEq, Nat.reduceSub, sto_ptr, lp_succ, flat_bool, hne, hsz, h16']
/-! ### Registers -/
def regD (c : UInt8) (s : Bs) : Int × Bool := if s.length < 2 ∨ s.head? ≠ some c then (0, false) else ((numV s.tail).1, (numV s.tail).2 && decide (0 ≤ (numV s.tail).1) && decide ((numV s.tail).1 ≤ 15))
theorem q61 (n : Nat) (x0 x1 : Value) (hx0 : flat x0 = true) (hx1 : flat x1 = true) (H : Hp) : evCall cfc (n+1) 61 [x0, x1] H = movR [] H (s61 (evCall cfc n) n x0 x1 Hp.fl) := by
  rw [evCall_quiet (fn := Tryd.f61) (by rfl) (by rfl) Tryd.func61 (by rfl) (by simp [hx0, hx1])]
  exact congrArg (movR [] H) (s61_eq _ _ _ _ _)
theorem v61 (n : Nat) (c : UInt8) (s : Bs) (hn : 22 < n) (H : Hp) (hs : s.length ≤ 1000) : evCall cfc (n+1) 61 [.string (bs s), .int .u8 c.toNat] H = some (.ret (.tuple #[.int .i64 (regD c s).1, .bool (regD c s).2]), H) := by
  rw [q61 n _ _ rfl rfl H]
  have hC : ∀ (r : Bs) (H' : Hp), r.length ≤ 1000 → evCall cfc n 59 [.string (bs r)] H' = some (.ret (.tuple #[.int .i64 (numV r).1, .bool (numV r).2]), H') := by
    intro r H' hr
    obtain ⟨q, rfl⟩ : ∃ q, n = q + 1 := ⟨n - 1, by omega⟩
    exact v59 q r (by omega) H' hr
  unfold regD
  cases s with
  | nil =>
    have e : bs [] = ⟨#[]⟩ := rfl
    have es : (⟨#[]⟩ : ByteArray).size = 0 := rfl
    rw [e, if_pos (Or.inl (by simp))]
    simp -implicitDefEqProofs only [s61, ↓GVdn, GVup, goInt, splice, okC, Fr.of, Fr.ofI, Fr.g, Nat.reduceAdd, Nat.reduceMul, Nat.reduceEqDiff, Nat.reduceLT, Nat.reduceLeDiff, Nat.reduceBEq, Int.reduceLT, Int.reduceLE, Int.reduceToNat, Int.reduceAdd, Int.reduceSub, Int.reduceMul, Int.reduceEq, Int.reduceNeg, ↓reduceIte, ↓reduceDIte, Nat.beq, reduceCtorEq, Value.int.injEq, Nat.reduceSub, sto_ptr, lp_succ, es]
    exact movR_pair _ _ _
  | cons d r =>
    have hsz : (bs (d :: r)).size = r.length + 1 := by rw [Lib.size_eq, bs_list]; rfl
    have h0 : (bs (d :: r))[0]? = some d := (drop_cons (s := d :: r) (i := 0) rfl).1
    have hx : (bs (d :: r)).extract 1 (r.length + 1) = bs r := bytes_inj (by rw [extract_list, bs_list, bs_list]; simp)
    have hl1 : ((1 : Int) ≤ ((r.length + 1 : Nat) : Int)) = True := eq_true (by omega)
    have hlg : ((0 : Int) < ((r.length + 1 : Nat) : Int)) = True := eq_true (by omega)
    simp only [List.length_cons] at hs
    by_cases h2 : r.length + 1 < 2
    · have a1 : (((r.length + 1 : Nat) : Int) < 2) = True := eq_true (by omega)
      rw [if_pos (Or.inl (by simp; omega))]
      simp -implicitDefEqProofs only [s61, ↓GVdn, GVup, goInt, splice, okC, Fr.of, Fr.ofI, Fr.g, Nat.reduceAdd, Nat.reduceMul, Nat.reduceEqDiff, Nat.reduceLT, Nat.reduceLeDiff, Nat.reduceBEq, Int.reduceLT, Int.reduceLE, Int.reduceToNat, Int.reduceAdd, Int.reduceSub, Int.reduceMul, Int.reduceEq, Int.reduceNeg, ↓reduceIte, ↓reduceDIte, Nat.beq, reduceCtorEq, Value.int.injEq, Nat.reduceSub, sto_ptr, lp_succ, hsz, h0, hx, hl1, hlg, a1]
      exact movR_pair _ _ _
    · have a1 : (((r.length + 1 : Nat) : Int) < 2) = False := eq_false (by omega)
      by_cases hc : d = c
      · subst hc
        rw [if_neg (by rintro (h | h); simp at h; omega; exact h rfl), List.tail_cons]
        have hC := fun H' => hC r H' (by omega)
        rcases hnm : numV r with ⟨z, b⟩
        simp only [hnm] at hC ⊢
        cases b with
        | false =>
          simp -implicitDefEqProofs only [s61, ↓GVdn, GVup, goInt, splice, okC, Fr.of, Fr.ofI, Fr.g, Nat.reduceAdd, Nat.reduceMul, Nat.reduceEqDiff, Nat.reduceLT, Nat.reduceLeDiff, Nat.reduceBEq, Int.reduceLT, Int.reduceLE, Int.reduceToNat, Int.reduceAdd, Int.reduceSub, Int.reduceMul, Int.reduceEq, Int.reduceNeg, ↓reduceIte, ↓reduceDIte, Nat.beq, reduceCtorEq, Value.int.injEq, Nat.reduceSub, sto_ptr, lp_succ, hsz, h0, hx, hl1, hlg, a1, hC, Bool.false_and]
          exact movR_pair _ _ _
        | true =>
          by_cases z0 : 0 ≤ z
          · rw [decide_eq_true z0]
            simp -implicitDefEqProofs only [s61, ↓GVdn, GVup, goInt, splice, okC, Fr.of, Fr.ofI, Fr.g, Nat.reduceAdd, Nat.reduceMul, Nat.reduceEqDiff, Nat.reduceLT, Nat.reduceLeDiff, Nat.reduceBEq, Int.reduceLT, Int.reduceLE, Int.reduceToNat, Int.reduceAdd, Int.reduceSub, Int.reduceMul, Int.reduceEq, Int.reduceNeg, ↓reduceIte, ↓reduceDIte, Nat.beq, reduceCtorEq, Value.int.injEq, Nat.reduceSub, sto_ptr, lp_succ, hsz, h0, hx, hl1, hlg, a1, hC, Bool.true_and, z0]
            exact movR_pair _ _ _
          · rw [decide_eq_false z0]
            simp -implicitDefEqProofs only [s61, ↓GVdn, GVup, goInt, splice, okC, Fr.of, Fr.ofI, Fr.g, Nat.reduceAdd, Nat.reduceMul, Nat.reduceEqDiff, Nat.reduceLT, Nat.reduceLeDiff, Nat.reduceBEq, Int.reduceLT, Int.reduceLE, Int.reduceToNat, Int.reduceAdd, Int.reduceSub, Int.reduceMul, Int.reduceEq, Int.reduceNeg, ↓reduceIte, ↓reduceDIte, Nat.beq, reduceCtorEq, Value.int.injEq, Nat.reduceSub, sto_ptr, lp_succ, hsz, h0, hx, hl1, hlg, a1, hC, Bool.true_and, Bool.false_and, z0]
            exact movR_pair _ _ _
      · have a2 := u8ne c hc
        rw [if_pos (Or.inr (show (d :: r).head? ≠ some c from fun h => hc (Option.some.inj h)))]
        simp -implicitDefEqProofs only [s61, ↓GVdn, GVup, goInt, splice, okC, Fr.of, Fr.ofI, Fr.g, Nat.reduceAdd, Nat.reduceMul, Nat.reduceEqDiff, Nat.reduceLT, Nat.reduceLeDiff, Nat.reduceBEq, Int.reduceLT, Int.reduceLE, Int.reduceToNat, Int.reduceAdd, Int.reduceSub, Int.reduceMul, Int.reduceEq, Int.reduceNeg, ↓reduceIte, ↓reduceDIte, Nat.beq, reduceCtorEq, Value.int.injEq, Nat.reduceSub, sto_ptr, lp_succ, hsz, h0, hx, hl1, hlg, a1, a2]
        exact movR_pair _ _ _
end Go.Proofs.YtbaooebafijenaaDoor
