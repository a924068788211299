/- The document's numbers, labels, registers, read. -/
import Derived.Test.YtbaooebafijenaaGreatDoorHMin
import Derived.Test.YtbaooebafijenaaGreatDoorHvBun
namespace Go.Proofs.YtbaooebafijenaaGreatDoor
open Go Go.Ev
set_option maxRecDepth 100000
set_option linter.unusedSimpArgs false
set_option linter.unusedVariables false
set_option linter.unusedSectionVars false
set_option maxHeartbeats 2000000
variable [Mx]
theorem trim_cons (p : UInt8) (w : Bs) : Lib.trimPrefix (p :: w) [p] = w := by simp [Lib.trimPrefix, Lib.hasPrefix]
theorem has_cons (p : UInt8) (w : Bs) : Lib.hasPrefix (p :: w) [p] = true := by simp [Lib.hasPrefix]
end Go.Proofs.YtbaooebafijenaaGreatDoor
namespace Go.Proofs.YtbaooebafijenaaGreatDoor
open Go Go.Ev
set_option maxRecDepth 100000
set_option linter.unusedSimpArgs false
set_option linter.unusedVariables false
set_option maxHeartbeats 4000000
set_option linter.unusedSectionVars false
variable [Mx]
attribute [local congr] bind_front callK_front jn_front ifB_front ifG_front lp_front
theorem q49 (n : Nat) (x0 : Value) (hx0 : flat x0 = true) (H : Hp) : evCall cfc (n+1) 49 [x0] H = movR [] H (s49 (evCall cfc n) n x0 Hp.fl) := by
 rw [evCall_quiet (fn := Tryz.f49) (by rfl) (by rfl) Tryz.func49 (by rfl) (by simp [hx0])]
 exact congrArg (movR [] H) (s49_eq _ _ _ _)
theorem q50 (n : Nat) (x0 : Value) (hx0 : flat x0 = true) (H : Hp) : evCall cfc (n+1) 50 [x0] H = movR [] H (s50 (evCall cfc n) n x0 Hp.fl) := by
 rw [evCall_quiet (fn := Tryz.f50) (by rfl) (by rfl) Tryz.func50 (by rfl) (by simp [hx0])]
 exact congrArg (movR [] H) (s50_eq _ _ _ _)
theorem v49 (n : Nat) (c : UInt8) (H : Hp) : evCall cfc (n+1) 49 [.int .u8 c.toNat] H = some (.ret (.bool (blB c)), H) := by
 rw [q49 n _ rfl H]
 by_cases h1 : (c.toNat : Int) = 32
 · have e : blB c = true := decide_eq_true (by omega)
   simp -implicitDefEqProofs only [s49, ↓GVdn, GVup, goInt, splice, okC, Fr.of, Fr.ofI, Fr.g, Nat.reduceAdd, Nat.reduceMul, Nat.reduceEqDiff, Nat.reduceLT, Nat.reduceLeDiff, Nat.reduceBEq, Int.reduceLT, Int.reduceLE, Int.reduceToNat, Int.reduceAdd, Int.reduceSub, Int.reduceMul, Int.reduceEq, Int.reduceNeg, ↓reduceIte, ↓reduceDIte, Nat.beq, reduceCtorEq, Value.int.injEq, Nat.reduceSub, sto_ptr, lp_succ, flat_bool, h1, e]
 · by_cases h2 : (c.toNat : Int) = 9
   · have e : blB c = true := decide_eq_true (by omega)
     simp -implicitDefEqProofs only [s49, ↓GVdn, GVup, goInt, splice, okC, Fr.of, Fr.ofI, Fr.g, Nat.reduceAdd, Nat.reduceMul, Nat.reduceEqDiff, Nat.reduceLT, Nat.reduceLeDiff, Nat.reduceBEq, Int.reduceLT, Int.reduceLE, Int.reduceToNat, Int.reduceAdd, Int.reduceSub, Int.reduceMul, Int.reduceEq, Int.reduceNeg, ↓reduceIte, ↓reduceDIte, Nat.beq, reduceCtorEq, Value.int.injEq, Nat.reduceSub, sto_ptr, lp_succ, flat_bool, h1, h2, e]
   · have e : blB c = false := decide_eq_false (by omega)
     simp -implicitDefEqProofs only [s49, ↓GVdn, GVup, goInt, splice, okC, Fr.of, Fr.ofI, Fr.g, Nat.reduceAdd, Nat.reduceMul, Nat.reduceEqDiff, Nat.reduceLT, Nat.reduceLeDiff, Nat.reduceBEq, Int.reduceLT, Int.reduceLE, Int.reduceToNat, Int.reduceAdd, Int.reduceSub, Int.reduceMul, Int.reduceEq, Int.reduceNeg, ↓reduceIte, ↓reduceDIte, Nat.beq, reduceCtorEq, Value.int.injEq, Nat.reduceSub, sto_ptr, lp_succ, flat_bool, h1, h2, e]
theorem v50 (n : Nat) (c : UInt8) (H : Hp) : evCall cfc (n+1) 50 [.int .u8 c.toNat] H = some (.ret (.bool (mkB c)), H) := by
 rw [q50 n _ rfl H]
 have hc : ((c.toNat : Int) = 44 ∧ mkB c = true) ∨ (¬ (c.toNat : Int) = 44 ∧ (c.toNat : Int) = 40 ∧ mkB c = true) ∨ (¬ (c.toNat : Int) = 44 ∧ ¬ (c.toNat : Int) = 40 ∧ (c.toNat : Int) = 41 ∧ mkB c = true) ∨
     (¬ (c.toNat : Int) = 44 ∧ ¬ (c.toNat : Int) = 40 ∧ ¬ (c.toNat : Int) = 41 ∧ (c.toNat : Int) = 58 ∧ mkB c = true) ∨ (¬ (c.toNat : Int) = 44 ∧ ¬ (c.toNat : Int) = 40 ∧ ¬ (c.toNat : Int) = 41 ∧ ¬ (c.toNat : Int) = 58 ∧ mkB c = false) := by
   simp only [mkB, decide_eq_true_eq, decide_eq_false_iff_not]
   omega
 rcases hc with ⟨h1, e⟩ | ⟨h1, h2, e⟩ | ⟨h1, h2, h3, e⟩ | ⟨h1, h2, h3, h4, e⟩ | ⟨h1, h2, h3, h4, e⟩
 all_goals simp -implicitDefEqProofs only [s50, ↓GVdn, GVup, goInt, splice, okC, Fr.of, Fr.ofI, Fr.g, Nat.reduceAdd, Nat.reduceMul, Nat.reduceEqDiff, Nat.reduceLT, Nat.reduceLeDiff, Nat.reduceBEq, Int.reduceLT, Int.reduceLE, Int.reduceToNat, Int.reduceAdd, Int.reduceSub, Int.reduceMul, Int.reduceEq, Int.reduceNeg, ↓reduceIte, ↓reduceDIte, Nat.beq, reduceCtorEq, Value.int.injEq, Nat.reduceSub, sto_ptr, lp_succ, flat_bool, *]
end Go.Proofs.YtbaooebafijenaaGreatDoor
namespace Go.Proofs.YtbaooebafijenaaGreatDoor
open Go Go.Ev
set_option maxRecDepth 100000
set_option linter.unusedSimpArgs false
set_option linter.unusedVariables false
set_option maxHeartbeats 4000000
set_option linter.unusedSectionVars false
variable [Mx]
attribute [local congr] bind_front callK_front jn_front ifB_front ifG_front lp_front
def skipB : Bs → Nat
 | [] => 0
 | c :: r => if blB c = true then skipB r + 1 else 0
def wordN : Bs → Nat
 | [] => 0
 | c :: r => if blB c = true ∨ mkB c = true then 0 else wordN r + 1
theorem skipB_le : ∀ l : Bs, skipB l ≤ l.length
 | [] => Nat.le_refl _
 | c :: r => by
   have := skipB_le r
   simp only [skipB, List.length_cons]
   split <;> omega
theorem wordN_le : ∀ l : Bs, wordN l ≤ l.length
 | [] => Nat.le_refl _
 | c :: r => by
   have := wordN_le r
   simp only [wordN, List.length_cons]
   split <;> omega
def rtk : Nat → Bs → List (Bs × Bool)
 | 0, _ => []
 | k + 1, l =>
   match l with
   | [] => []
   | _ :: _ =>
     match l.drop (skipB l) with
     | [] => []
     | c :: r => if mkB c = true then ([c], decide (0 < skipB l)) :: rtk k r else ((c :: r).take (wordN (c :: r)), decide (0 < skipB l)) :: rtk k ((c :: r).drop (wordN (c :: r)))
def tkc (l : List (Bs × Bool)) : List Value := l.flatMap fun p => [.string (bs p.1), .bool p.2]
theorem tkc_len (l : List (Bs × Bool)) : (tkc l).length = l.length * 2 := by
 induction l with
 | nil => rfl
 | cons p l ih =>
   have e : tkc (p :: l) = [.string (bs p.1), .bool p.2] ++ tkc l := rfl
   rw [e, List.length_append, ih, List.length_cons]
   simp only [List.length_cons, List.length_nil]
   omega
theorem drop_cons {s : Bs} {i : Nat} {c : UInt8} {r : Bs} (h : s.drop i = c :: r) : (bs s)[i]? = some c ∧ s.drop (i + 1) = r ∧ i < s.length := by
 have hk : i < s.length := by
   have := congrArg List.length h
   simp only [List.length_drop, List.length_cons] at this
   omega
 obtain ⟨d, hd1, hd2⟩ := str_at (bs s) i (by rw [Lib.size_eq, bs_list]; exact hk)
 rw [bs_list, h] at hd2
 injection hd2 with e1 e2
 exact ⟨by rw [hd1, e1], e2.symm, hk⟩
theorem rt_blanks (n : Nat) (s : Bs) (hs : s.length ≤ 1073741824) (lv : Value) (H : Hp) (kx : Nat → Fr → Hp → Option (Out × Hp)) (kr : Fr → Hp → Option (Out × Hp)) : ∀ (r : Bs) (i m : Nat) (g : Bool), s.drop i = r → r.length < m → i ≤ s.length →
   lp (s30_b1 (evCall cfc (n+1)) (n+1)) m [.string (bs s), lv, .int .i64 i, .bool g] H kx kr = kx 2 (Fr.of [0, 3, 4, 5] [.string (bs s), lv, .int .i64 ((i + skipB r : Nat) : Int), .bool (g || decide (0 < skipB r))]) H := by
 have hsz : (bs s).size = s.length := by rw [Lib.size_eq, bs_list]
 intro r
 induction r with
 | nil =>
   intro i m g hd hm hi
   obtain ⟨m, rfl⟩ : ∃ q, m = q + 1 := ⟨m - 1, by omega⟩
   have hlt : ((i : Int) < (s.length : Int)) = False := eq_false (by
     have := congrArg List.length hd
     simp only [List.length_drop, List.length_nil] at this
     omega)
   have e : (g || decide (0 < skipB [])) = g := by simp [skipB]
   have e2 : skipB [] = 0 := rfl
   rw [e, e2, Nat.add_zero, lp_succ]
   simp -implicitDefEqProofs only [s30_b1, ↓GVdn, GVup, goInt, splice, okC, Fr.of, Fr.ofI, Fr.g, Nat.reduceAdd, Nat.reduceMul, Nat.reduceEqDiff, Nat.reduceLT, Nat.reduceLeDiff, Nat.reduceBEq, Int.reduceLT, Int.reduceLE, Int.reduceToNat, Int.reduceAdd, Int.reduceSub, Int.reduceMul, Int.reduceEq, Int.reduceNeg, ↓reduceIte, ↓reduceDIte, Nat.beq, reduceCtorEq, Value.int.injEq, Nat.reduceSub, sto_ptr, hsz, hlt]
 | cons c r ih =>
   intro i m g hd hm hi
   obtain ⟨m, rfl⟩ : ∃ q, m = q + 1 := ⟨m - 1, by omega⟩
   obtain ⟨h1, h2, h3⟩ := drop_cons hd
   have hlt : ((i : Int) < (s.length : Int)) = True := eq_true (by omega)
   have hi0 : ((0 : Int) ≤ (i : Int)) = True := eq_true (by omega)
   have hw1 : IntKind.wrap .i64 ((i : Int) + 1) = ((i + 1 : Nat) : Int) := by rw [IntWalk.i64_in _ (by omega)]; rfl
   have h57 := fun H => v49 n c H
   have ih := ih (i + 1) m true h2 (by simp at hm; omega) (by omega)
   rw [lp_succ]
   by_cases hb : blB c = true
   · rw [hb] at h57
     have hs1 : skipB (c :: r) = skipB r + 1 := by simp [skipB, hb]
     have e : (g || decide (0 < skipB r + 1)) = (true || decide (0 < skipB r)) := by simp
     have e2 : i + (skipB r + 1) = i + 1 + skipB r := by omega
     rw [hs1, e, e2]
     simp -implicitDefEqProofs only [s30_b1, ↓GVdn, GVup, goInt, splice, okC, Fr.of, Fr.ofI, Fr.g, Nat.reduceAdd, Nat.reduceMul, Nat.reduceEqDiff, Nat.reduceLT, Nat.reduceLeDiff, Nat.reduceBEq, Int.reduceLT, Int.reduceLE, Int.reduceToNat, Int.reduceAdd, Int.reduceSub, Int.reduceMul, Int.reduceEq, Int.reduceNeg, ↓reduceIte, ↓reduceDIte, Nat.beq, reduceCtorEq, Value.int.injEq, Nat.reduceSub, sto_ptr, opn_lim, hsz, hlt, hi0, h1, h57, hw1, ih]
   · have hb2 : blB c = false := by simpa using hb
     rw [hb2] at h57
     have hs1 : skipB (c :: r) = 0 := by simp [skipB, hb]
     have e : (g || decide (0 < 0)) = g := by simp
     rw [hs1, e, Nat.add_zero]
     simp -implicitDefEqProofs only [s30_b1, ↓GVdn, GVup, goInt, splice, okC, Fr.of, Fr.ofI, Fr.g, Nat.reduceAdd, Nat.reduceMul, Nat.reduceEqDiff, Nat.reduceLT, Nat.reduceLeDiff, Nat.reduceBEq, Int.reduceLT, Int.reduceLE, Int.reduceToNat, Int.reduceAdd, Int.reduceSub, Int.reduceMul, Int.reduceEq, Int.reduceNeg, ↓reduceIte, ↓reduceDIte, Nat.beq, reduceCtorEq, Value.int.injEq, Nat.reduceSub, sto_ptr, opn_lim, hsz, hlt, hi0, h1, h57]
theorem rt_word (n : Nat) (s : Bs) (hs : s.length ≤ 1073741824) (lv fv : Value) (g : Value) (H : Hp) (kx : Nat → Fr → Hp → Option JR) (kr : Fr → Hp → Option JR) : ∀ (r : Bs) (i m : Nat), s.drop i = r → r.length < m → i ≤ s.length →
   lp (s30_b2 (evCall cfc (n+1)) (n+1)) m [.string (bs s), lv, .int .i64 i, g, fv] H kx kr = kx 4 (Fr.of [0, 3, 4, 5, 6] [.string (bs s), lv, .int .i64 ((i + wordN r : Nat) : Int), g, fv]) H := by
 have hsz : (bs s).size = s.length := by rw [Lib.size_eq, bs_list]
 intro r
 induction r with
 | nil =>
   intro i m hd hm hi
   obtain ⟨m, rfl⟩ : ∃ q, m = q + 1 := ⟨m - 1, by omega⟩
   have hlt : ((i : Int) < (s.length : Int)) = False := eq_false (by
     have := congrArg List.length hd
     simp only [List.length_drop, List.length_nil] at this
     omega)
   have e2 : wordN [] = 0 := rfl
   rw [e2, Nat.add_zero, lp_succ]
   simp -implicitDefEqProofs only [s30_b2, ↓GVdn, GVup, goInt, splice, okC, Fr.of, Fr.ofI, Fr.g, Nat.reduceAdd, Nat.reduceMul, Nat.reduceEqDiff, Nat.reduceLT, Nat.reduceLeDiff, Nat.reduceBEq, Int.reduceLT, Int.reduceLE, Int.reduceToNat, Int.reduceAdd, Int.reduceSub, Int.reduceMul, Int.reduceEq, Int.reduceNeg, ↓reduceIte, ↓reduceDIte, Nat.beq, reduceCtorEq, Value.int.injEq, Nat.reduceSub, sto_ptr, hsz, hlt]
 | cons c r ih =>
   intro i m hd hm hi
   obtain ⟨m, rfl⟩ : ∃ q, m = q + 1 := ⟨m - 1, by omega⟩
   obtain ⟨h1, h2, h3⟩ := drop_cons hd
   have hlt : ((i : Int) < (s.length : Int)) = True := eq_true (by omega)
   have hi0 : ((0 : Int) ≤ (i : Int)) = True := eq_true (by omega)
   have hw1 : IntKind.wrap .i64 ((i : Int) + 1) = ((i + 1 : Nat) : Int) := by rw [IntWalk.i64_in _ (by omega)]; rfl
   have h57 := fun H => v49 n c H
   have h58 := fun H => v50 n c H
   have ih := ih (i + 1) m h2 (by simp at hm; omega) (by omega)
   simp only [wordN]
   rw [lp_succ]
   cases hb : blB c with
   | true =>
     rw [hb] at h57
     rw [if_pos (.inl rfl), Nat.add_zero]
     simp -implicitDefEqProofs only [s30_b2, ↓GVdn, GVup, goInt, splice, okC, Fr.of, Fr.ofI, Fr.g, Nat.reduceAdd, Nat.reduceMul, Nat.reduceEqDiff, Nat.reduceLT, Nat.reduceLeDiff, Nat.reduceBEq, Int.reduceLT, Int.reduceLE, Int.reduceToNat, Int.reduceAdd, Int.reduceSub, Int.reduceMul, Int.reduceEq, Int.reduceNeg, ↓reduceIte, ↓reduceDIte, Nat.beq, reduceCtorEq, Value.int.injEq, Nat.reduceSub, sto_ptr, opn_lim, hsz, hlt, hi0, h1, h57]
   | false =>
     rw [hb] at h57
     cases hk : mkB c with
     | true =>
       rw [hk] at h58
       rw [if_pos (.inr rfl), Nat.add_zero]
       simp -implicitDefEqProofs only [s30_b2, ↓GVdn, GVup, goInt, splice, okC, Fr.of, Fr.ofI, Fr.g, Nat.reduceAdd, Nat.reduceMul, Nat.reduceEqDiff, Nat.reduceLT, Nat.reduceLeDiff, Nat.reduceBEq, Int.reduceLT, Int.reduceLE, Int.reduceToNat, Int.reduceAdd, Int.reduceSub, Int.reduceMul, Int.reduceEq, Int.reduceNeg, ↓reduceIte, ↓reduceDIte, Nat.beq, reduceCtorEq, Value.int.injEq, Nat.reduceSub, sto_ptr, opn_lim, hsz, hlt, hi0, h1, h57, h58]
     | false =>
       rw [hk] at h58
       rw [if_neg (by simp)]
       have e2 : i + (wordN r + 1) = i + 1 + wordN r := by omega
       rw [e2]
       simp -implicitDefEqProofs only [s30_b2, ↓GVdn, GVup, goInt, splice, okC, Fr.of, Fr.ofI, Fr.g, Nat.reduceAdd, Nat.reduceMul, Nat.reduceEqDiff, Nat.reduceLT, Nat.reduceLeDiff, Nat.reduceBEq, Int.reduceLT, Int.reduceLE, Int.reduceToNat, Int.reduceAdd, Int.reduceSub, Int.reduceMul, Int.reduceEq, Int.reduceNeg, ↓reduceIte, ↓reduceDIte, Nat.beq, reduceCtorEq, Value.int.injEq, Nat.reduceSub, sto_ptr, opn_lim, hsz, hlt, hi0, h1, h57, h58, hw1, ih]
theorem skip_drop : ∀ (l : Bs) {c : UInt8} {r : Bs}, l.drop (skipB l) = c :: r → blB c = false
 | [], c, r, h => by cases h
 | x :: l, c, r, h => by
   simp only [skipB] at h
   split at h
   · exact skip_drop l h
   · rename_i hx
     cases h
     simpa using hx
theorem rt_main (n : Nat) (s : Bs) (hs : s.length ≤ 536870912) (hn : s.length < n) (kx : Nat → Fr → Hp → Option (Out × Hp)) (kr : Fr → Hp → Option (Out × Hp)) : ∀ (k : Nat) (r : Bs) (i m : Nat), s.drop i = r → r.length < k → r.length < m → i ≤ s.length → ∀ (H : Hp) (l : List (Bs × Bool)) (lb : Option Nat), RowS H lb 11 (tkc l) → H.lim = 11 → 11 ≤ H.next → l.length ≤ i →
   ∃ H' lb', lp (s30_b3 (evCall cfc (n+1)) (n+1)) m [.string (bs s), svOf lb l.length 2, .int .i64 i] H kx kr = kx 0 (Fr.of [3] [svOf lb' (l ++ rtk k r).length 2]) H' ∧ RowS H' lb' 11 (tkc (l ++ rtk k r)) := by
 have hsz : (bs s).size = s.length := by rw [Lib.size_eq, bs_list]
 intro k
 induction k with
 | zero => intro r i m hd hk; omega
 | succ k ih =>
   intro r i m hd hk hm hi H l lb hR hl hnx hll
   obtain ⟨m, rfl⟩ : ∃ q, m = q + 1 := ⟨m - 1, by omega⟩
   have hrl : r.length = s.length - i := by rw [← hd, List.length_drop]
   cases r with
   | nil =>
     have hlt : ((i : Int) < (s.length : Int)) = False := eq_false (by simp at hrl; omega)
     simp only [rtk, List.append_nil]
     refine ⟨H, lb, ?_, hR⟩
     rw [lp_succ]
     simp -implicitDefEqProofs only [s30_b3, ↓GVdn, GVup, goInt, splice, okC, Fr.of, Fr.ofI, Fr.g, Nat.reduceAdd, Nat.reduceMul, Nat.reduceEqDiff, Nat.reduceLT, Nat.reduceLeDiff, Nat.reduceBEq, Int.reduceLT, Int.reduceLE, Int.reduceToNat, Int.reduceAdd, Int.reduceSub, Int.reduceMul, Int.reduceEq, Int.reduceNeg, ↓reduceIte, ↓reduceDIte, Nat.beq, reduceCtorEq, Value.int.injEq, Nat.reduceSub, sto_ptr, hsz, hlt]
   | cons c0 r0 =>
     have hlt : ((i : Int) < (s.length : Int)) = True := eq_true (by simp at hrl; omega)
     have b1 := fun kx kr => rt_blanks n s (by omega) (svOf lb l.length 2) H kx kr (c0 :: r0) i (n+1) false hd (by omega) hi
     simp only [Bool.false_or] at b1
     have hsk := skipB_le (c0 :: r0)
     have hd2 : s.drop (i + skipB (c0 :: r0)) = (c0 :: r0).drop (skipB (c0 :: r0)) := by rw [← hd, List.drop_drop]
     simp only [rtk]
     generalize hj : i + skipB (c0 :: r0) = j at *
     generalize hg : decide (0 < skipB (c0 :: r0)) = g at *
     cases hr1 : (c0 :: r0).drop (skipB (c0 :: r0)) with
     | nil =>
       rw [hr1] at hd2
       have hje : j = s.length := by
         have := congrArg List.length hd2
         simp only [List.length_drop, List.length_nil] at this
         omega
       have hlt2 : ((j : Int) < (s.length : Int)) = False := eq_false (by omega)
       have b2 := fun kx kr => rt_word n s (by omega) (svOf lb l.length 2) (.int .i64 j) (.bool g) H kx kr [] j (n+1) hd2 (by simp) (by omega)
       have e0 : j + wordN [] = j := rfl
       rw [e0] at b2
       have hgt : ((j : Int) < (j : Int)) = False := eq_false (by omega)
       simp only [List.append_nil]
       obtain ⟨m, rfl⟩ : ∃ q, m = q + 1 := ⟨m - 1, by simp at hm; omega⟩
       refine ⟨H, lb, ?_, hR⟩
       have hb := fun kx kr => b2 kx kr
       rw [lp_succ]
       simp -implicitDefEqProofs only [s30_b3, ↓GVdn, GVup, goInt, splice, okC, Fr.of, Fr.ofI, Fr.g, Nat.reduceAdd, Nat.reduceMul, Nat.reduceEqDiff, Nat.reduceLT, Nat.reduceLeDiff, Nat.reduceBEq, Int.reduceLT, Int.reduceLE, Int.reduceToNat, Int.reduceAdd, Int.reduceSub, Int.reduceMul, Int.reduceEq, Int.reduceNeg, ↓reduceIte, ↓reduceDIte, Nat.beq, reduceCtorEq, Value.int.injEq, Nat.reduceSub, sto_ptr, hsz, hlt, b1, hlt2, b2, hgt]
       rw [lp_succ]
       simp -implicitDefEqProofs only [s30_b3, ↓GVdn, GVup, goInt, splice, okC, Fr.of, Fr.ofI, Fr.g, Nat.reduceAdd, Nat.reduceMul, Nat.reduceEqDiff, Nat.reduceLT, Nat.reduceLeDiff, Nat.reduceBEq, Int.reduceLT, Int.reduceLE, Int.reduceToNat, Int.reduceAdd, Int.reduceSub, Int.reduceMul, Int.reduceEq, Int.reduceNeg, ↓reduceIte, ↓reduceDIte, Nat.beq, reduceCtorEq, Value.int.injEq, Nat.reduceSub, sto_ptr, hsz, hlt2]
     | cons c r1 =>
       rw [hr1] at hd2
       obtain ⟨h1, h2, h3⟩ := drop_cons hd2
       have hbl := skip_drop _ hr1
       dsimp only
       have hlt2 : ((j : Int) < (s.length : Int)) = True := eq_true (by omega)
       have hi0 : ((0 : Int) ≤ (j : Int)) = True := eq_true (by omega)
       have h58 := fun H => v50 n c H
       have hlj : r1.length + 1 ≤ (c0 :: r0).length := by
         have := congrArg List.length hr1
         simp only [List.length_drop, List.length_cons] at this ⊢
         omega
       have hjl : s.length = j + (r1.length + 1) := by
         have := congrArg List.length hd2
         simp only [List.length_drop, List.length_cons] at this
         omega
       have more : ∀ (w : Bs) (e : Nat), j < e → e ≤ s.length → (bs s).extract j e = bs w → ∃ H2 lb2, appd 2 24 (svOf lb l.length 2) 1 [.string (bs w), .bool g] (H.new (.rw [.string (bs w), .bool g])) = some (svOf lb2 (l ++ [(w, g)]).length 2, H2) ∧ RowS H2 lb2 11 (tkc (l ++ [(w, g)])) ∧ H2.lim = 11 ∧ 11 ≤ H2.next := by
         intro w e h1 h2 h3
         obtain ⟨H2, lb2, a1, a2, a3, a4, a5, a6⟩ := app_row (sz := 2) (by_ := 24) (H := H.new (.rw [.string (bs w), .bool g])) (n := l.length) (cs := tkc l) (lb := lb) (lo := 11) (tkc_len l).symm (row_new hR _) (by show H.lim ≤ 11; omega) (by show 11 ≤ H.next + 1; omega) (by show 11 ≤ H.lim; omega) (m := 1) (xs := [.string (bs w), .bool g]) (by simp) (by decide) (decide_eq_true ⟨by omega, by omega⟩) rfl
         have e1 : tkc (l ++ [(w, g)]) = tkc l ++ [.string (bs w), .bool g] := by simp [tkc]
         refine ⟨H2, lb2, by simpa using a1, by rw [e1]; exact a2, by rw [a4]; exact hl, ?_⟩
         have : H.next + 1 ≤ H2.next := a3
         omega
       have srcN : ∀ w : Bs, srcC 2 (.slice (some ⟨H.next, 0, none⟩) 1 2) (H.new (.rw [.string (bs w), .bool g])) = some (1, [.string (bs w), .bool g]) := fun w => by
         simp [srcC, cells_new]
       by_cases hk1 : mkB c = true
       · rw [if_pos hk1]
         rw [hk1] at h58
         have hw1 : IntKind.wrap .i64 ((j : Int) + 1) = ((j + 1 : Nat) : Int) := by rw [IntWalk.i64_in _ (by omega)]; rfl
         have hx : (bs s).extract j (j + 1) = bs [c] := bytes_inj (by
           rw [extract_list, bs_list, hd2, bs_list]
           have : j + 1 - j = 1 := by omega
           rw [this]; rfl)
         obtain ⟨H2, lb2, a1, a2, a3, a4⟩ := more [c] (j + 1) (by omega) (by omega) hx
         have hgt : ((j : Int) < ((j + 1 : Nat) : Int)) = True := eq_true (by omega)
         have hr1' : ((j : Int) ≤ ((j + 1 : Nat) : Int)) = True := eq_true (by omega)
         have hr2' : (((j + 1 : Nat) : Int) ≤ (s.length : Int)) = True := eq_true (by omega)
         obtain ⟨H', lb', i1, i2⟩ := ih r1 (j + 1) m h2 (by simp at hk hlj; omega) (by simp at hm hlj; omega) (by omega) H2 _ lb2 a2 a3 a4 (by simp; omega)
         rw [List.append_assoc, List.singleton_append] at i1 i2
         refine ⟨H', lb', ?_, i2⟩
         rw [← i1, lp_succ]
         simp -implicitDefEqProofs only [s30_b3, ↓GVdn, GVup, goInt, splice, okC, Fr.of, Fr.ofI, Fr.g, Nat.reduceAdd, Nat.reduceMul, Nat.reduceEqDiff, Nat.reduceLT, Nat.reduceLeDiff, Nat.reduceBEq, Int.reduceLT, Int.reduceLE, Int.reduceToNat, Int.reduceAdd, Int.reduceSub, Int.reduceMul, Int.reduceEq, Int.reduceNeg, ↓reduceIte, ↓reduceDIte, Nat.beq, reduceCtorEq, Value.int.injEq, Nat.reduceSub, sto_ptr, opn_lim, hsz, hlt, b1, hlt2, hi0, h1, h58, hw1, hgt, hr1', hr2', hx, rep, List.replicate, List.flatten_cons, List.flatten_nil, srcN, a1]
       · rw [if_neg hk1]
         have hk2 : mkB c = false := by simpa using hk1
         rw [hk2] at h58
         have b2 := fun kx kr => rt_word n s (by omega) (svOf lb l.length 2) (.int .i64 j) (.bool g) H kx kr (c :: r1) j (n+1) hd2 (by simp; omega) (by omega)
         have hwn : wordN (c :: r1) = wordN r1 + 1 := by simp [wordN, hbl, hk2]
         have hwl := wordN_le r1
         have hx : (bs s).extract j (j + wordN (c :: r1)) = bs ((c :: r1).take (wordN (c :: r1))) := bytes_inj (by
           rw [extract_list, bs_list, hd2, bs_list]
           have : j + wordN (c :: r1) - j = wordN (c :: r1) := by omega
           rw [this])
         obtain ⟨H2, lb2, a1, a2, a3, a4⟩ := more ((c :: r1).take (wordN (c :: r1))) (j + wordN (c :: r1)) (by omega) (by omega) hx
         have hgt : ((j : Int) < ((j + wordN (c :: r1) : Nat) : Int)) = True := eq_true (by omega)
         have hr1' : ((j : Int) ≤ ((j + wordN (c :: r1) : Nat) : Int)) = True := eq_true (by omega)
         have hr2' : (((j + wordN (c :: r1) : Nat) : Int) ≤ (s.length : Int)) = True := eq_true (by omega)
         have hd3 : s.drop (j + wordN (c :: r1)) = (c :: r1).drop (wordN (c :: r1)) := by rw [← hd2, List.drop_drop]
         have hdl : ((c :: r1).drop (wordN (c :: r1))).length ≤ r1.length := by rw [List.length_drop, hwn, List.length_cons]; omega
         obtain ⟨H', lb', i1, i2⟩ := ih _ (j + wordN (c :: r1)) m hd3 (by simp at hk hlj; omega) (by simp at hm hlj; omega) (by omega) H2 _ lb2 a2 a3 a4 (by simp; omega)
         rw [List.append_assoc, List.singleton_append] at i1 i2
         refine ⟨H', lb', ?_, i2⟩
         rw [← i1, lp_succ]
         simp -implicitDefEqProofs only [s30_b3, ↓GVdn, GVup, goInt, splice, okC, Fr.of, Fr.ofI, Fr.g, Nat.reduceAdd, Nat.reduceMul, Nat.reduceEqDiff, Nat.reduceLT, Nat.reduceLeDiff, Nat.reduceBEq, Int.reduceLT, Int.reduceLE, Int.reduceToNat, Int.reduceAdd, Int.reduceSub, Int.reduceMul, Int.reduceEq, Int.reduceNeg, ↓reduceIte, ↓reduceDIte, Nat.beq, reduceCtorEq, Value.int.injEq, Nat.reduceSub, sto_ptr, opn_lim, hsz, hlt, b1, hlt2, hi0, h1, h58, b2, hgt, hr1', hr2', hx, rep, List.replicate, List.flatten_cons, List.flatten_nil, srcN, a1]
end Go.Proofs.YtbaooebafijenaaGreatDoor
namespace Go.Proofs.YtbaooebafijenaaGreatDoor
open Go Go.Ev
set_option maxRecDepth 100000
set_option linter.unusedSimpArgs false
set_option linter.unusedVariables false
set_option maxHeartbeats 4000000
set_option linter.unusedSectionVars false
variable [Mx]
attribute [local congr] bind_front callK_front jn_front ifB_front ifG_front lp_front
def tokR (l : List (Bs × Bool)) (H : Hp) : R := if l = [] then some (.ret (.slice none 0 0), H) else some (.ret (.slice (some ⟨H.next, 0, none⟩) l.length 2), H.new (.rw (tkc l)))
theorem tkc_flat (l : List (Bs × Bool)) : (tkc l).all flat = true := by
 induction l with
 | nil => rfl
 | cons p l ih => show (flat (.string (bs p.1)) && (flat (.bool p.2) && (tkc l).all flat)) = true; rw [ih]; rfl
theorem q30 (n : Nat) (x0 : Value) (hx0 : flat x0 = true) (H : Hp) : evCall cfc (n+1) 30 [x0] H = movR [] H (s30 (evCall cfc n) n x0 Hp.fl) := by
 rw [evCall_quiet (fn := Tryz.f30) (by rfl) (by rfl) Tryz.func30 (by rfl) (by simp [hx0])]
 exact congrArg (movR [] H) (s30_eq _ _ _ _)
theorem v30 (n : Nat) (s : Bs) (hs : s.length ≤ 536870912) (hn : s.length < n) (H : Hp) : evCall cfc (n+2) 30 [.string (bs s)] H = tokR (rtk (s.length + 1) s) H := by
 rw [q30 (n+1) _ rfl H]
 obtain ⟨H', lb', h1, h2⟩ := rt_main n s hs hn (fun j51 f52 H53 => if j51 = 0 then some (.ret (f52.g 3), H53) else none) noR (s.length + 1) s 0 (n+1) rfl (by omega) (by omega) (by omega) Hp.fl [] none rfl rfl (Nat.le_refl 11) (Nat.le_refl 0)
 have hs32 : s30 (evCall cfc (n+1)) (n+1) (.string (bs s)) Hp.fl = some (.ret (svOf lb' (rtk (s.length + 1) s).length 2), H') := by
   unfold s30
   refine h1.trans ?_
   rfl
 rw [hs32]
 simp only [List.nil_append] at h2
 unfold tokR
 cases lb' with
 | none =>
   have h3 : tkc (rtk (s.length + 1) s) = [] := h2
   have h4 : rtk (s.length + 1) s = [] := by
     have := tkc_len (rtk (s.length + 1) s)
     rw [h3, List.length_nil] at this
     exact List.eq_nil_of_length_eq_zero (by omega)
   rw [h4, if_pos rfl]
   exact movR_flat (bl := []) (H := H) (Hs := H') (v := .slice none 0 0) rfl
 | some b =>
   have hne : ¬ rtk (s.length + 1) s = [] := fun e => h2.2.2.2 (by rw [e]; rfl)
   rw [if_neg hne]
   exact movR_row H H' h2.2.1 (rwc_get h2.1) (tkc_flat _) _ _
theorem tk2_skip : ∀ l : Bs, tk2 l [] = tk2 (l.drop (skipB l)) []
 | [] => rfl
 | c :: l => by
   by_cases h : blB c = true
   · have e : skipB (c :: l) = skipB l + 1 := by simp [skipB, h]
     rw [e, List.drop_succ_cons, ← tk2_skip l, tk2, if_pos h]
     rfl
   · have e : skipB (c :: l) = 0 := by simp [skipB, h]
     rw [e]; rfl
theorem tk2_wd : ∀ (l cur : Bs), cur ++ l.take (wordN l) ≠ [] → tk2 l cur = (cur ++ l.take (wordN l)) :: tk2 (l.drop (wordN l)) []
 | [], cur, h => by
   simp only [wordN, List.take_zero, List.append_nil, List.drop_zero] at h ⊢
   simp [tk2, flL, h]
 | c :: l, cur, h => by
   by_cases hb : blB c = true
   · have e : wordN (c :: l) = 0 := by simp [wordN, hb]
     rw [e] at h ⊢
     simp only [List.take_zero, List.append_nil, List.drop_zero] at h ⊢
     simp only [tk2]
     rw [if_pos hb, if_pos hb]
     simp [flL, h]
   · by_cases hk : mkB c = true
     · have e : wordN (c :: l) = 0 := by simp [wordN, hk]
       rw [e] at h ⊢
       simp only [List.take_zero, List.append_nil, List.drop_zero] at h ⊢
       simp only [tk2]
       rw [if_neg hb, if_pos hk, if_neg hb, if_pos hk]
       simp [flL, h]
     · have e : wordN (c :: l) = wordN l + 1 := by simp [wordN, hb, hk]
       rw [e, List.take_succ_cons, List.drop_succ_cons]
       have := tk2_wd l (cur ++ [c]) (by simp)
       have e2 : cur ++ c :: l.take (wordN l) = cur ++ [c] ++ l.take (wordN l) := by simp
       rw [e2, ← this]
       simp only [tk2]
       rw [if_neg hb, if_neg hk]
theorem rtk_fst : ∀ (k : Nat) (l : Bs), l.length < k → (rtk k l).map Prod.fst = tk2 l []
 | 0, l, h => absurd h (by omega)
 | k + 1, l, h => by
   cases l with
   | nil => rfl
   | cons c0 l0 =>
     rw [tk2_skip (c0 :: l0)]
     simp only [rtk]
     have hs := skipB_le (c0 :: l0)
     generalize hg : decide (0 < skipB (c0 :: l0)) = g
     cases hr : (c0 :: l0).drop (skipB (c0 :: l0)) with
     | nil => rfl
     | cons c r =>
       have hbl := skip_drop _ hr
       have hlr : r.length + 1 ≤ (c0 :: l0).length := by
         have := congrArg List.length hr
         simp only [List.length_drop, List.length_cons] at this ⊢
         omega
       dsimp only
       by_cases hk : mkB c = true
       · rw [if_pos hk, List.map_cons, rtk_fst k r (by simp at h hlr; omega)]
         simp only [tk2]
         rw [if_neg (by rw [hbl]; decide), if_pos hk]
         rfl
       · rw [if_neg hk, List.map_cons]
         have hwn : wordN (c :: r) = wordN r + 1 := by simp [wordN, hbl, hk]
         rw [rtk_fst k ((c :: r).drop (wordN (c :: r))) (by rw [List.length_drop, hwn, List.length_cons]; simp at h hlr; omega)]
         have := tk2_wd (c :: r) [] (by rw [hwn, List.take_succ_cons]; simp)
         rw [this]
         rfl
theorem q53 (n : Nat) (x0 : Value) (hx0 : flat x0 = true) (H : Hp) : evCall cfc (n+1) 53 [x0] H = movR [] H (s53 (evCall cfc n) n x0 Hp.fl) := by
 rw [evCall_quiet (fn := Tryz.f53) (by rfl) (by rfl) Tryz.func53 (by rfl) (by simp [hx0])]
 exact congrArg (movR [] H) (s53_eq _ _ _ _)
theorem names_nm (i : Nat) (h : i < 72) : namesC[i]? = some (.string (nmL.getD i emp)) ∧ (1 ≤ i → nmL.getD i emp ≠ emp) := by
 have := List.all_eq_true.1 (show (List.range 72).all (fun k => (match namesC[k]? with | some (.string s) => decide (s = nmL.getD k emp) | _ => false) && decide (1 ≤ k → nmL.getD k emp ≠ emp)) = true by kernel_rfl) i (List.mem_range.2 h)
 simp only [Bool.and_eq_true, decide_eq_true_eq] at this
 obtain ⟨h1, h2⟩ := this
 refine ⟨?_, h2⟩
 split at h1
 · rename_i s hs
   rw [hs, of_decide_eq_true h1]
 · cases h1
theorem find_loop (C : Cl) (n : Nat) (s : ByteArray) (H : Hp) (c1 : H.cells 3 = some namesC) (kx : Nat → Fr → Hp → Option (Out × Hp)) (kr : Fr → Hp → Option (Out × Hp)) : ∀ (k i m : Nat), i + k = 72 → k < m → 1 ≤ i →
   lp (s53_b1 C n) m [.string s, .int .i64 i] H kx kr = match findN s (nmL.drop i) i with | some j => kr (Fr.of [2] [.int .i64 j]) H | none => kx 0 (Fr.of [2] [dead]) H := by
 intro k
 induction k with
 | zero =>
   intro i m hi hm h1
   obtain ⟨m, rfl⟩ : ∃ q, m = q + 1 := ⟨m - 1, by omega⟩
   have hi : i = 72 := by omega
   subst hi
   have e : nmL.drop 72 = [] := List.drop_eq_nil_of_le (by rw [nmL_len]; decide)
   have hlt : (((72 : Nat) : Int) ≤ 71) = False := by decide
   rw [lp_succ, e]
   simp only [findN]
   simp -implicitDefEqProofs only [s53_b1, ↓GVdn, GVup, goInt, splice, okC, Fr.of, Fr.ofI, Fr.g, Nat.reduceAdd, Nat.reduceMul, Nat.reduceEqDiff, Nat.reduceLT, Nat.reduceLeDiff, Nat.reduceBEq, Int.reduceLT, Int.reduceLE, Int.reduceToNat, Int.reduceAdd, Int.reduceSub, Int.reduceMul, Int.reduceEq, Int.reduceNeg, ↓reduceIte, ↓reduceDIte, Nat.beq, reduceCtorEq, Value.int.injEq, Nat.reduceSub, sto_ptr, hlt]
 | succ k ih =>
   intro i m hi hm h1
   obtain ⟨m, rfl⟩ : ∃ q, m = q + 1 := ⟨m - 1, by omega⟩
   have h72 : i < 72 := by omega
   have hlt : ((i : Int) ≤ 71) = True := eq_true (by omega)
   have hd : nmL.drop i = nmL.getD i emp :: nmL.drop (i + 1) := by
     rw [List.drop_eq_getElem_cons (by rw [nmL_len]; exact h72)]
     simp [List.getD_eq_getElem?_getD, nmL_len, h72]
   have hw : IntKind.wrap .i64 ((i : Int) + 1) = ((i + 1 : Nat) : Int) := by rw [IntWalk.i64_in _ (by omega)]; rfl
   obtain ⟨hn, hne⟩ := names_nm i h72
   have hin : ((0 : Int) ≤ (i : Int)) = True := eq_true (by omega)
   have hin2 : ((i : Int) < 72) = True := eq_true (by omega)
   have ih := ih (i + 1) m (by omega) (by omega) (by omega)
   rw [lp_succ, hd]
   simp only [findN]
   have hne := hne h1
   generalize nmL.getD i emp = x at hn hne ⊢
   by_cases hc : x = s
   · have hc2 : x = s ∧ ¬ s = emp := ⟨hc, fun e => hne (hc.trans e)⟩
     rw [if_pos hc2]
     simp -implicitDefEqProofs only [s53_b1, ↓GVdn, GVup, goInt, splice, okC, Fr.of, Fr.ofI, Fr.g, Nat.reduceAdd, Nat.reduceMul, Nat.reduceEqDiff, Nat.reduceLT, Nat.reduceLeDiff, Nat.reduceBEq, Int.reduceLT, Int.reduceLE, Int.reduceToNat, Int.reduceAdd, Int.reduceSub, Int.reduceMul, Int.reduceEq, Int.reduceNeg, ↓reduceIte, ↓reduceDIte, Nat.beq, reduceCtorEq, Value.int.injEq, Nat.reduceSub, sto_ptr, hlt, hin, hin2, c1, hn, hc]
   · rw [if_neg (fun h => hc h.1)]
     simp -implicitDefEqProofs only [s53_b1, ↓GVdn, GVup, goInt, splice, okC, Fr.of, Fr.ofI, Fr.g, Nat.reduceAdd, Nat.reduceMul, Nat.reduceEqDiff, Nat.reduceLT, Nat.reduceLeDiff, Nat.reduceBEq, Int.reduceLT, Int.reduceLE, Int.reduceToNat, Int.reduceAdd, Int.reduceSub, Int.reduceMul, Int.reduceEq, Int.reduceNeg, ↓reduceIte, ↓reduceDIte, Nat.beq, reduceCtorEq, Value.int.injEq, Nat.reduceSub, sto_ptr, hlt, hin, hin2, c1, hn, hc, hw, ih]
def fndV (s : ByteArray) : Int := if namedV s < 0 then 0 else namedV s
theorem v53 (hnm : (Mx.nm : Option Blk) = some (.ro namesC)) (n : Nat) (hn : 73 < n) (s : ByteArray) (H : Hp) : evCall cfc (n+1) 53 [.string s] H = some (.ret (.int .i64 (fndV s)), H) := by
 rw [q53 n _ rfl H]
 have g1 : (Hp.fl).get 3 = some (.ro namesC) := hnm
 have c1 : (Hp.fl).cells 3 = some namesC := by unfold Hp.cells; rw [g1]
 have hl := fun kx kr => find_loop (evCall cfc n) n s Hp.fl c1 kx kr 71 1 n (by omega) (by omega) (by omega)
 have hl' : ∀ kx kr, lp (s53_b1 (evCall cfc n) n) n [.string s, .int .i64 1] Hp.fl kx kr = _ := hl
 have hf : findN s nmL 0 = findN s (nmL.drop 1) 1 := by
   have e : nmL = emp :: nmL.drop 1 := by kernel_rfl
   rw [e]
   simp only [findN, List.drop_succ_cons, List.drop_zero]
   rw [if_neg (fun h => h.2 h.1.symm)]
 unfold fndV namedV
 rw [hf]
 cases hc : findN s (nmL.drop 1) 1 with
 | none =>
   rw [hc] at hl'
   simp only at hl'
   simp -implicitDefEqProofs only [s53, ↓GVdn, GVup, goInt, splice, okC, Fr.of, Fr.ofI, Fr.g, Nat.reduceAdd, Nat.reduceMul, Nat.reduceEqDiff, Nat.reduceLT, Nat.reduceLeDiff, Nat.reduceBEq, Int.reduceLT, Int.reduceLE, Int.reduceToNat, Int.reduceAdd, Int.reduceSub, Int.reduceMul, Int.reduceEq, Int.reduceNeg, ↓reduceIte, ↓reduceDIte, Nat.beq, reduceCtorEq, Value.int.injEq, Nat.reduceSub, sto_ptr, hl', flat_int]
 | some j =>
   rw [hc] at hl'
   simp only at hl'
   have h0 : ((j : Int) < 0) = False := eq_false (by omega)
   simp -implicitDefEqProofs only [s53, ↓GVdn, GVup, goInt, splice, okC, Fr.of, Fr.ofI, Fr.g, Nat.reduceAdd, Nat.reduceMul, Nat.reduceEqDiff, Nat.reduceLT, Nat.reduceLeDiff, Nat.reduceBEq, Int.reduceLT, Int.reduceLE, Int.reduceToNat, Int.reduceAdd, Int.reduceSub, Int.reduceMul, Int.reduceEq, Int.reduceNeg, ↓reduceIte, ↓reduceDIte, Nat.beq, reduceCtorEq, Value.int.injEq, Nat.reduceSub, sto_ptr, hl', flat_int, h0]
end Go.Proofs.YtbaooebafijenaaGreatDoor
namespace Go.Proofs.YtbaooebafijenaaGreatDoor
open Go Go.Ev
set_option maxRecDepth 100000
set_option linter.unusedSimpArgs false
set_option linter.unusedVariables false
set_option maxHeartbeats 4000000
set_option linter.unusedSectionVars false
variable [Mx]
attribute [local congr] bind_front callK_front jn_front ifB_front ifG_front lp_front
def decF : Nat → Bs → Option Nat
 | a, [] => some a
 | a, c :: r => if 48 ≤ c.toNat ∧ c.toNat ≤ 57 then decF (a * 10 + (c.toNat - 48)) r else none
def numD (s : Bs) : Bs := if s.head? = some 45 then s.tail else s
def numV (s : Bs) : Int × Bool :=
 if numD s = [] ∨ 12 < (numD s).length ∨ ((numD s).head? = some 48 ∧ 1 < s.length) then (0, false)
 else match decF 0 (numD s) with
   | none => (0, false)
   | some n => (if (numD s).length < s.length then -(n : Int) else n, true)
def kA : Nat → Nat → Bs → Nat
 | _, a, [] => a
 | i, a, c :: r => if 48 ≤ c.toNat ∧ c.toNat ≤ 57 then kA (i + 1) (a * 10 + (c.toNat - 48)) r else a
theorem num_loop (C : Cl) (n : Nat) (sv : Value) (d : Bs) (hd : d.length ≤ 12) (H : Hp) (kx : Nat → Fr → Hp → Option (Out × Hp)) (kr : Fr → Hp → Option (Out × Hp)) : ∀ (r : Bs) (i m a : Nat), d.drop i = r → r.length < m → a < 10 ^ i → i ≤ d.length →
   lp (s52_b1 C n) m [sv, .string (bs d), .int .i64 a, .int .i64 i] H kx kr = match decF a r with | none => kr (Fr.of [0, 2, 3, 4, 5] [sv, .int .i64 0, .bool false, .string (bs d), .int .i64 (kA i a r)]) H | some z => kx 0 (Fr.of [0, 2, 3, 4, 5] [sv, dead, dead, .string (bs d), .int .i64 z]) H := by
 have hsz : (bs d).size = d.length := by rw [Lib.size_eq, bs_list]
 intro r
 induction r with
 | nil =>
   intro i m a hdr hm ha hi
   obtain ⟨m, rfl⟩ : ∃ q, m = q + 1 := ⟨m - 1, by omega⟩
   have hlt : ((i : Int) < (d.length : Int)) = False := eq_false (by
     have := congrArg List.length hdr
     simp only [List.length_drop, List.length_nil] at this
     omega)
   rw [lp_succ]
   simp -implicitDefEqProofs only [s52_b1, ↓GVdn, GVup, goInt, splice, okC, Fr.of, Fr.ofI, Fr.g, Nat.reduceAdd, Nat.reduceMul, Nat.reduceEqDiff, Nat.reduceLT, Nat.reduceLeDiff, Nat.reduceBEq, Int.reduceLT, Int.reduceLE, Int.reduceToNat, Int.reduceAdd, Int.reduceSub, Int.reduceMul, Int.reduceEq, Int.reduceNeg, ↓reduceIte, ↓reduceDIte, Nat.beq, reduceCtorEq, Value.int.injEq, Nat.reduceSub, sto_ptr, hsz, hlt, decF]
 | cons c r ih =>
   intro i m a hdr hm ha hi
   obtain ⟨m, rfl⟩ : ∃ q, m = q + 1 := ⟨m - 1, by omega⟩
   obtain ⟨h1, h2, h3⟩ := drop_cons hdr
   have hlt : ((i : Int) < (d.length : Int)) = True := eq_true (by omega)
   have hi0 : ((0 : Int) ≤ (i : Int)) = True := eq_true (by omega)
   have hw1 : IntKind.wrap .i64 ((i : Int) + 1) = ((i + 1 : Nat) : Int) := by rw [IntWalk.i64_in _ (by omega)]; rfl
   have hp : 10 ^ i ≤ 10 ^ 11 := Nat.pow_le_pow_right (by omega) (by omega)
   have hp2 : 10 ^ (i + 1) = 10 ^ i * 10 := Nat.pow_succ ..
   have hc : c.toNat < 256 := c.toNat_lt
   rw [lp_succ]
   unfold decF kA
   by_cases d1 : 48 ≤ c.toNat
   · have a1 : ((c.toNat : Int) < 48) = False := eq_false (by omega)
     by_cases d2 : c.toNat ≤ 57
     · have a2 : ((57 : Int) < (c.toNat : Int)) = False := eq_false (by omega)
       have hw2 : IntKind.wrap .i64 ((a : Int) * 10) = (a : Int) * 10 := IntWalk.i64_in _ (by omega)
       have hw3 : IntKind.wrap .u8 ((c.toNat : Int) - 48) = (c.toNat : Int) - 48 := by
         rw [show IntKind.wrap .u8 ((c.toNat : Int) - 48) = ((c.toNat : Int) - 48) % 256 from rfl]; omega
       have hw4 : IntKind.wrap .i64 ((c.toNat : Int) - 48) = (c.toNat : Int) - 48 := IntWalk.i64_in _ (by omega)
       have hw5 : IntKind.wrap .i64 ((a : Int) * 10 + ((c.toNat : Int) - 48)) = ((a * 10 + (c.toNat - 48) : Nat) : Int) := by
         rw [IntWalk.i64_in _ (by omega)]; omega
       have ih := ih (i + 1) m (a * 10 + (c.toNat - 48)) h2 (by simp at hm; omega) (by omega) (by omega)
       simp only [d1, d2, and_self, if_true]
       simp -implicitDefEqProofs only [s52_b1, ↓GVdn, GVup, goInt, splice, okC, Fr.of, Fr.ofI, Fr.g, Nat.reduceAdd, Nat.reduceMul, Nat.reduceEqDiff, Nat.reduceLT, Nat.reduceLeDiff, Nat.reduceBEq, Int.reduceLT, Int.reduceLE, Int.reduceToNat, Int.reduceAdd, Int.reduceSub, Int.reduceMul, Int.reduceEq, Int.reduceNeg, ↓reduceIte, ↓reduceDIte, Nat.beq, reduceCtorEq, Value.int.injEq, Nat.reduceSub, sto_ptr, hsz, hlt, hi0, h1, hw1, hw2, hw3, hw4, hw5, ih, a1, a2]
     · have a2 : ((57 : Int) < (c.toNat : Int)) = True := eq_true (by omega)
       simp only [d2, and_false, if_false]
       simp -implicitDefEqProofs only [s52_b1, ↓GVdn, GVup, goInt, splice, okC, Fr.of, Fr.ofI, Fr.g, Nat.reduceAdd, Nat.reduceMul, Nat.reduceEqDiff, Nat.reduceLT, Nat.reduceLeDiff, Nat.reduceBEq, Int.reduceLT, Int.reduceLE, Int.reduceToNat, Int.reduceAdd, Int.reduceSub, Int.reduceMul, Int.reduceEq, Int.reduceNeg, ↓reduceIte, ↓reduceDIte, Nat.beq, reduceCtorEq, Value.int.injEq, Nat.reduceSub, sto_ptr, hsz, hlt, hi0, h1, hw1, a1, a2]
   · have a1 : ((c.toNat : Int) < 48) = True := eq_true (by omega)
     simp only [d1, false_and, if_false]
     simp -implicitDefEqProofs only [s52_b1, ↓GVdn, GVup, goInt, splice, okC, Fr.of, Fr.ofI, Fr.g, Nat.reduceAdd, Nat.reduceMul, Nat.reduceEqDiff, Nat.reduceLT, Nat.reduceLeDiff, Nat.reduceBEq, Int.reduceLT, Int.reduceLE, Int.reduceToNat, Int.reduceAdd, Int.reduceSub, Int.reduceMul, Int.reduceEq, Int.reduceNeg, ↓reduceIte, ↓reduceDIte, Nat.beq, reduceCtorEq, Value.int.injEq, Nat.reduceSub, sto_ptr, hsz, hlt, hi0, h1, hw1, a1]
theorem q52 (n : Nat) (x0 : Value) (hx0 : flat x0 = true) (H : Hp) : evCall cfc (n+1) 52 [x0] H = movR [] H (s52 (evCall cfc n) n x0 Hp.fl) := by
 rw [evCall_quiet (fn := Tryz.f52) (by rfl) (by rfl) Tryz.func52 (by rfl) (by simp [hx0])]
 exact congrArg (movR [] H) (s52_eq _ _ _ _)
theorem decF_lt : ∀ (r : Bs) (i a z : Nat), decF a r = some z → a < 10 ^ i → z < 10 ^ (i + r.length) := by
 intro r
 induction r with
 | nil => intro i a z h ha; have := Option.some.inj h; subst this; exact ha
 | cons c r ih =>
   intro i a z h ha
   unfold decF at h
   split at h
   · have hp2 : 10 ^ (i + 1) = 10 ^ i * 10 := Nat.pow_succ ..
     have := ih (i + 1) _ z h (by omega)
     rw [List.length_cons, show i + (r.length + 1) = i + 1 + r.length by omega]
     exact this
   · exact absurd h (by simp)
theorem u8ne {c : UInt8} (k : UInt8) (h : ¬ c = k) : ((c.toNat : Int) = (k.toNat : Int)) = False := eq_false (fun e => h (UInt8.toNat_inj.mp (by omega)))
theorem movR_pair (H : Hp) (a : Int) (b : Bool) : movR [] H (some (.ret (.tuple #[.int .i64 a, .bool b]), Hp.fl)) = some (.ret (.tuple #[.int .i64 a, .bool b]), H) := rfl
theorem v52 (n : Nat) (s : Bs) (hn : 20 < n) (H : Hp) (hs : s.length ≤ 1000000) : evCall cfc (n+1) 52 [.string (bs s)] H = some (.ret (.tuple #[.int .i64 (numV s).1, .bool (numV s).2]), H) := by
 rw [q52 n _ rfl H]
 cases s with
 | nil =>
   have e : bs [] = ⟨#[]⟩ := rfl
   have es : (⟨#[]⟩ : ByteArray).size = 0 := rfl
   rw [e]
   simp -implicitDefEqProofs only [s52, ↓GVdn, GVup, goInt, splice, okC, Fr.of, Fr.ofI, Fr.g, Nat.reduceAdd, Nat.reduceMul, Nat.reduceEqDiff, Nat.reduceLT, Nat.reduceLeDiff, Nat.reduceBEq, Int.reduceLT, Int.reduceLE, Int.reduceToNat, Int.reduceAdd, Int.reduceSub, Int.reduceMul, Int.reduceEq, Int.reduceNeg, ↓reduceIte, ↓reduceDIte, Nat.beq, reduceCtorEq, Value.int.injEq, Nat.reduceSub, sto_ptr, lp_succ, es]
   rfl
 | cons c r =>
   have hsz : (bs (c :: r)).size = r.length + 1 := by rw [Lib.size_eq, bs_list]; rfl
   have hne : (bs (c :: r) = ⟨#[]⟩) = False := eq_false (bs_emp (by simp))
   have h0 : (bs (c :: r))[0]? = some c := (drop_cons (s := c :: r) (i := 0) rfl).1
   have hlg : ((0 : Int) < ((r.length + 1 : Nat) : Int)) = True := eq_true (by omega)
   have hx : (bs (c :: r)).extract 1 (r.length + 1) = bs r := bytes_inj (by rw [extract_list, bs_list, bs_list]; simp)
   have hl1 : ((1 : Int) ≤ ((r.length + 1 : Nat) : Int)) = True := eq_true (by omega)
   simp only [List.length_cons] at hs
   by_cases hc : c = 45
   · subst hc
     have hD : numD (45 :: r) = r := rfl
     have hc1 : (((45 : UInt8).toNat : Int) = 45) = True := eq_true rfl
     unfold numV
     rw [hD]
     cases r with
     | nil =>
       have e : bs [] = ⟨#[]⟩ := rfl
       rw [e] at hx
       simp -implicitDefEqProofs only [s52, ↓GVdn, GVup, goInt, splice, okC, Fr.of, Fr.ofI, Fr.g, Nat.reduceAdd, Nat.reduceMul, Nat.reduceEqDiff, Nat.reduceLT, Nat.reduceLeDiff, Nat.reduceBEq, Int.reduceLT, Int.reduceLE, Int.reduceToNat, Int.reduceAdd, Int.reduceSub, Int.reduceMul, Int.reduceEq, Int.reduceNeg, ↓reduceIte, ↓reduceDIte, Nat.beq, reduceCtorEq, Value.int.injEq, Nat.reduceSub, sto_ptr, lp_succ, hsz, h0, hne, hlg, hx, hl1, hc1]
       rfl
     | cons e q =>
       have hszd : (bs (e :: q)).size = q.length + 1 := by rw [Lib.size_eq, bs_list]; rfl
       have hned : (bs (e :: q) = ⟨#[]⟩) = False := eq_false (bs_emp (by simp))
       have h0d : (bs (e :: q))[0]? = some e := (drop_cons (s := e :: q) (i := 0) rfl).1
       have hlgd : ((0 : Int) < ((q.length + 1 : Nat) : Int)) = True := eq_true (by omega)
       have g0 : ¬ (e :: q) = [] := by simp
       have g1 : ((1 : Int) < ((q.length + 1 + 1 : Nat) : Int)) = True := eq_true (by omega)
       have g2 : ((e :: q).length < (45 :: e :: q).length) := by simp
       have g3 : (((q.length + 1 : Nat) : Int) < ((q.length + 1 + 1 : Nat) : Int)) = True := eq_true (by omega)
       simp only [List.length_cons] at hsz hlg hx hl1 g2 ⊢
       by_cases g12 : 12 < q.length + 1
       · have a1 : ((12 : Int) < ((q.length + 1 : Nat) : Int)) = True := eq_true (by omega)
         rw [if_pos (Or.inr (Or.inl g12))]
         simp -implicitDefEqProofs only [s52, ↓GVdn, GVup, goInt, splice, okC, Fr.of, Fr.ofI, Fr.g, Nat.reduceAdd, Nat.reduceMul, Nat.reduceEqDiff, Nat.reduceLT, Nat.reduceLeDiff, Nat.reduceBEq, Int.reduceLT, Int.reduceLE, Int.reduceToNat, Int.reduceAdd, Int.reduceSub, Int.reduceMul, Int.reduceEq, Int.reduceNeg, ↓reduceIte, ↓reduceDIte, Nat.beq, reduceCtorEq, Value.int.injEq, Nat.reduceSub, sto_ptr, lp_succ, hsz, h0, hne, hlg, hx, hl1, hc1, hszd, hned, a1]
         exact movR_pair _ _ _
       · have a1 : ((12 : Int) < ((q.length + 1 : Nat) : Int)) = False := eq_false (by omega)
         by_cases g48 : e = 48
         · subst g48
           have a2 : (((48 : UInt8).toNat : Int) = 48) = True := eq_true rfl
           rw [if_pos (Or.inr (Or.inr ⟨rfl, by omega⟩))]
           simp -implicitDefEqProofs only [s52, ↓GVdn, GVup, goInt, splice, okC, Fr.of, Fr.ofI, Fr.g, Nat.reduceAdd, Nat.reduceMul, Nat.reduceEqDiff, Nat.reduceLT, Nat.reduceLeDiff, Nat.reduceBEq, Int.reduceLT, Int.reduceLE, Int.reduceToNat, Int.reduceAdd, Int.reduceSub, Int.reduceMul, Int.reduceEq, Int.reduceNeg, ↓reduceIte, ↓reduceDIte, Nat.beq, reduceCtorEq, Value.int.injEq, Nat.reduceSub, sto_ptr, lp_succ, hsz, h0, hne, hlg, hx, hl1, hc1, hszd, hned, h0d, hlgd, a1, a2, g1]
           exact movR_pair _ _ _
         · have a2 : ((e.toNat : Int) = 48) = False := u8ne 48 g48
           rw [if_neg (by rintro (h | h | ⟨h, _⟩); exact g0 h; exact g12 h; exact g48 (Option.some.inj h))]
           have hl := fun kx kr => num_loop (evCall cfc n) n (.string (bs (45 :: e :: q))) (e :: q) (by simp; omega) Hp.fl kx kr (e :: q) 0 n 0 rfl (by simp; omega) (by decide) (by omega)
           have z0 : (((0 : Nat) : Int)) = 0 := rfl
           simp only [z0] at hl
           cases hdf : decF 0 (e :: q) with
           | none =>
             simp only [hdf] at hl ⊢
             simp -implicitDefEqProofs only [s52, ↓GVdn, GVup, goInt, splice, okC, Fr.of, Fr.ofI, Fr.g, Nat.reduceAdd, Nat.reduceMul, Nat.reduceEqDiff, Nat.reduceLT, Nat.reduceLeDiff, Nat.reduceBEq, Int.reduceLT, Int.reduceLE, Int.reduceToNat, Int.reduceAdd, Int.reduceSub, Int.reduceMul, Int.reduceEq, Int.reduceNeg, ↓reduceIte, ↓reduceDIte, Nat.beq, reduceCtorEq, Value.int.injEq, Nat.reduceSub, sto_ptr, hsz, h0, hne, hlg, hx, hl1, hc1, hszd, hned, h0d, hlgd, a1, a2, hl]
             exact movR_pair _ _ _
           | some z =>
             simp only [hdf] at hl ⊢
             rw [if_pos g2]
             have hz : z < 10 ^ 12 := by
               have h1 := decF_lt (e :: q) 0 0 z hdf (by decide)
               have h2 : 10 ^ (0 + (e :: q).length) ≤ 10 ^ 12 := Nat.pow_le_pow_right (by omega) (by simp; omega)
               omega
             have hw : IntKind.wrap .i64 (0 - (z : Int)) = -(z : Int) := by rw [IntWalk.i64_in _ (by omega)]; omega
             simp -implicitDefEqProofs only [s52, ↓GVdn, GVup, goInt, splice, okC, Fr.of, Fr.ofI, Fr.g, Nat.reduceAdd, Nat.reduceMul, Nat.reduceEqDiff, Nat.reduceLT, Nat.reduceLeDiff, Nat.reduceBEq, Int.reduceLT, Int.reduceLE, Int.reduceToNat, Int.reduceAdd, Int.reduceSub, Int.reduceMul, Int.reduceEq, Int.reduceNeg, ↓reduceIte, ↓reduceDIte, Nat.beq, reduceCtorEq, Value.int.injEq, Nat.reduceSub, sto_ptr, hsz, h0, hne, hlg, hx, hl1, hc1, hszd, hned, h0d, hlgd, a1, a2, hl, g3, hw]
             exact movR_pair _ _ _
   · have hD : numD (c :: r) = c :: r := if_neg (fun h => hc (Option.some.inj h))
     have hc1 : ((c.toNat : Int) = 45) = False := u8ne 45 hc
     unfold numV
     rw [hD]
     have g0 : ¬ (c :: r) = [] := by simp
     simp only [List.length_cons]
     by_cases g12 : 12 < r.length + 1
     · have a1 : ((12 : Int) < ((r.length + 1 : Nat) : Int)) = True := eq_true (by omega)
       rw [if_pos (Or.inr (Or.inl g12))]
       simp -implicitDefEqProofs only [s52, ↓GVdn, GVup, goInt, splice, okC, Fr.of, Fr.ofI, Fr.g, Nat.reduceAdd, Nat.reduceMul, Nat.reduceEqDiff, Nat.reduceLT, Nat.reduceLeDiff, Nat.reduceBEq, Int.reduceLT, Int.reduceLE, Int.reduceToNat, Int.reduceAdd, Int.reduceSub, Int.reduceMul, Int.reduceEq, Int.reduceNeg, ↓reduceIte, ↓reduceDIte, Nat.beq, reduceCtorEq, Value.int.injEq, Nat.reduceSub, sto_ptr, lp_succ, hsz, h0, hne, hlg, hx, hl1, hc1, a1]
       exact movR_pair _ _ _
     · have a1 : ((12 : Int) < ((r.length + 1 : Nat) : Int)) = False := eq_false (by omega)
       have fin : ∀ (b : Prop) [Decidable b], (¬ (c = 48 ∧ b)) → b = (1 < r.length + 1) →
           movR [] H (s52 (evCall cfc n) n (.string (bs (c :: r))) Hp.fl) = some (.ret (.tuple #[.int .i64 (match decF 0 (c :: r) with | none => ((0 : Int), false) | some n => (if r.length + 1 < r.length + 1 then -(n : Int) else n, true)).1, .bool (match decF 0 (c :: r) with | none => ((0 : Int), false) | some n => (if r.length + 1 < r.length + 1 then -(n : Int) else n, true)).2]), H) := by
         intro b _ hb hb2
         have g3 : (((r.length + 1 : Nat) : Int) < ((r.length + 1 : Nat) : Int)) = False := eq_false (by omega)
         have g4 : ¬ (r.length + 1 < r.length + 1) := by omega
         have hl := fun kx kr => num_loop (evCall cfc n) n (.string (bs (c :: r))) (c :: r) (by simp; omega) Hp.fl kx kr (c :: r) 0 n 0 rfl (by simp; omega) (by decide) (by omega)
         have z0 : (((0 : Nat) : Int)) = 0 := rfl
         simp only [z0] at hl
         by_cases g48 : c = 48
         · have a2 : ((c.toNat : Int) = 48) = True := eq_true (by rw [g48]; rfl)
           have g1 : ((1 : Int) < ((r.length + 1 : Nat) : Int)) = False := eq_false (fun h => hb ⟨g48, by rw [hb2]; omega⟩)
           cases hdf : decF 0 (c :: r) with
           | none =>
             simp only [hdf] at hl ⊢
             simp -implicitDefEqProofs only [s52, ↓GVdn, GVup, goInt, splice, okC, Fr.of, Fr.ofI, Fr.g, Nat.reduceAdd, Nat.reduceMul, Nat.reduceEqDiff, Nat.reduceLT, Nat.reduceLeDiff, Nat.reduceBEq, Int.reduceLT, Int.reduceLE, Int.reduceToNat, Int.reduceAdd, Int.reduceSub, Int.reduceMul, Int.reduceEq, Int.reduceNeg, ↓reduceIte, ↓reduceDIte, Nat.beq, reduceCtorEq, Value.int.injEq, Nat.reduceSub, sto_ptr, hsz, h0, hne, hlg, hx, hl1, hc1, a1, a2, g1, hl]
             exact movR_pair _ _ _
           | some z =>
             simp only [hdf] at hl ⊢
             rw [if_neg g4]
             simp -implicitDefEqProofs only [s52, ↓GVdn, GVup, goInt, splice, okC, Fr.of, Fr.ofI, Fr.g, Nat.reduceAdd, Nat.reduceMul, Nat.reduceEqDiff, Nat.reduceLT, Nat.reduceLeDiff, Nat.reduceBEq, Int.reduceLT, Int.reduceLE, Int.reduceToNat, Int.reduceAdd, Int.reduceSub, Int.reduceMul, Int.reduceEq, Int.reduceNeg, ↓reduceIte, ↓reduceDIte, Nat.beq, reduceCtorEq, Value.int.injEq, Nat.reduceSub, sto_ptr, hsz, h0, hne, hlg, hx, hl1, hc1, a1, a2, g1, hl, g3]
             exact movR_pair _ _ _
         · have a2 : ((c.toNat : Int) = 48) = False := u8ne 48 g48
           cases hdf : decF 0 (c :: r) with
           | none =>
             simp only [hdf] at hl ⊢
             simp -implicitDefEqProofs only [s52, ↓GVdn, GVup, goInt, splice, okC, Fr.of, Fr.ofI, Fr.g, Nat.reduceAdd, Nat.reduceMul, Nat.reduceEqDiff, Nat.reduceLT, Nat.reduceLeDiff, Nat.reduceBEq, Int.reduceLT, Int.reduceLE, Int.reduceToNat, Int.reduceAdd, Int.reduceSub, Int.reduceMul, Int.reduceEq, Int.reduceNeg, ↓reduceIte, ↓reduceDIte, Nat.beq, reduceCtorEq, Value.int.injEq, Nat.reduceSub, sto_ptr, hsz, h0, hne, hlg, hx, hl1, hc1, a1, a2, hl]
             exact movR_pair _ _ _
           | some z =>
             simp only [hdf] at hl ⊢
             rw [if_neg g4]
             simp -implicitDefEqProofs only [s52, ↓GVdn, GVup, goInt, splice, okC, Fr.of, Fr.ofI, Fr.g, Nat.reduceAdd, Nat.reduceMul, Nat.reduceEqDiff, Nat.reduceLT, Nat.reduceLeDiff, Nat.reduceBEq, Int.reduceLT, Int.reduceLE, Int.reduceToNat, Int.reduceAdd, Int.reduceSub, Int.reduceMul, Int.reduceEq, Int.reduceNeg, ↓reduceIte, ↓reduceDIte, Nat.beq, reduceCtorEq, Value.int.injEq, Nat.reduceSub, sto_ptr, hsz, h0, hne, hlg, hx, hl1, hc1, a1, a2, hl, g3]
             exact movR_pair _ _ _
       by_cases gg : c = 48 ∧ 1 < r.length + 1
       · have a2 : ((c.toNat : Int) = 48) = True := eq_true (by rw [gg.1]; rfl)
         have g1 : ((1 : Int) < ((r.length + 1 : Nat) : Int)) = True := eq_true (by have := gg.2; omega)
         rw [if_pos (Or.inr (Or.inr ⟨by rw [gg.1]; rfl, gg.2⟩))]
         simp -implicitDefEqProofs only [s52, ↓GVdn, GVup, goInt, splice, okC, Fr.of, Fr.ofI, Fr.g, Nat.reduceAdd, Nat.reduceMul, Nat.reduceEqDiff, Nat.reduceLT, Nat.reduceLeDiff, Nat.reduceBEq, Int.reduceLT, Int.reduceLE, Int.reduceToNat, Int.reduceAdd, Int.reduceSub, Int.reduceMul, Int.reduceEq, Int.reduceNeg, ↓reduceIte, ↓reduceDIte, Nat.beq, reduceCtorEq, Value.int.injEq, Nat.reduceSub, sto_ptr, lp_succ, hsz, h0, hne, hlg, hx, hl1, hc1, a1, a2, g1]
         exact movR_pair _ _ _
       · rw [if_neg (by rintro (h | h | ⟨h, h'⟩); exact g0 h; exact g12 h; exact gg ⟨Option.some.inj h, h'⟩)]
         exact fin _ gg rfl
def labR (c : UInt8) : Bool := letB c || digB c
theorem lab_eq (s : Bs) : labelV (bs s) = (decide (¬ s = []) && decide (s.length ≤ 16) && !(match s with | [] => false | c :: _ => digB c) && s.all labR) := by
 unfold labelV
 rw [bs_list]
 have h1 : decide (¬ bs s = (⟨#[]⟩ : ByteArray)) = decide (¬ s = []) := by
   have := bs_emp_iff s
   unfold emp at this
   simp only [this]
 have h2 : (bs s).size = s.length := by rw [Lib.size_eq, bs_list]
 rw [h1, h2]
 have h3 : ∀ (l : Bs) (i : Nat), 1 ≤ i → labL i l = l.all labR := by
   intro l
   induction l with
   | nil => intro i _; rfl
   | cons c l ih =>
     intro i hi
     simp only [labL, List.all_cons, labC, labR]
     rw [ih (i + 1) (by omega), decide_eq_true (show i ≠ 0 by omega), Bool.true_and]
 cases s with
 | nil => rfl
 | cons c r =>
   simp only [labL, List.all_cons, labC]
   rw [h3 r 1 (Nat.le_refl 1)]
   have hld : letB c = true → digB c = false := by
     unfold letB digB
     intro h
     simp only [Bool.or_eq_true, decide_eq_true_eq] at h
     exact decide_eq_false (by omega)
   unfold labR
   cases hl : letB c with
   | true => rw [hld hl]; simp [Bool.and_comm, Bool.and_left_comm]
   | false => cases hg : digB c <;> simp [Bool.and_comm, Bool.and_left_comm]
theorem lab2_loop (C : Cl) (n : Nat) (s : Bs) (hs : s.length ≤ 1000000) (H : Hp) (kx : Nat → Fr → Hp → Option (Out × Hp)) (kr : Fr → Hp → Option (Out × Hp)) : ∀ (r : Bs) (i m : Nat), s.drop i = r → r.length < m → i ≤ s.length →
   lp (s31_b1 C n) m [.string (bs s), .int .i64 i] H kx kr = if r.all labR = true then kx 0 (Fr.of [2] [dead]) H else kr (Fr.of [2] [.bool false]) H := by
 have hsz : (bs s).size = s.length := by rw [Lib.size_eq, bs_list]
 intro r
 induction r with
 | nil =>
   intro i m hd hm hi
   obtain ⟨m, rfl⟩ : ∃ q, m = q + 1 := ⟨m - 1, by omega⟩
   have hlt : ((i : Int) < (s.length : Int)) = False := eq_false (by
     have := congrArg List.length hd
     simp only [List.length_drop, List.length_nil] at this
     omega)
   rw [lp_succ]
   simp -implicitDefEqProofs only [s31_b1, ↓GVdn, GVup, goInt, splice, okC, Fr.of, Fr.ofI, Fr.g, Nat.reduceAdd, Nat.reduceMul, Nat.reduceEqDiff, Nat.reduceLT, Nat.reduceLeDiff, Nat.reduceBEq, Int.reduceLT, Int.reduceLE, Int.reduceToNat, Int.reduceAdd, Int.reduceSub, Int.reduceMul, Int.reduceEq, Int.reduceNeg, ↓reduceIte, ↓reduceDIte, Nat.beq, reduceCtorEq, Value.int.injEq, Nat.reduceSub, sto_ptr, hsz, hlt, List.all_nil]
 | cons c r ih =>
   intro i m hd hm hi
   obtain ⟨m, rfl⟩ : ∃ q, m = q + 1 := ⟨m - 1, by omega⟩
   obtain ⟨h1, h2, h3⟩ := drop_cons hd
   have hlt : ((i : Int) < (s.length : Int)) = True := eq_true (by omega)
   have hi0 : ((0 : Int) ≤ (i : Int)) = True := eq_true (by omega)
   have hw1 : IntKind.wrap .i64 ((i : Int) + 1) = ((i + 1 : Nat) : Int) := by rw [IntWalk.i64_in _ (by omega)]; rfl
   have ih := ih (i + 1) m h2 (by simp at hm; omega) (by omega)
   rw [lp_succ, List.all_cons]
   have hL : ((97 ≤ (c.toNat : Int)) = True ∧ ((c.toNat : Int) ≤ 122) = True ∧ labR c = true) ∨ ((97 ≤ (c.toNat : Int)) = True ∧ ((c.toNat : Int) ≤ 122) = False ∧ (48 ≤ (c.toNat : Int)) = True ∧ ((c.toNat : Int) ≤ 57) = False ∧ ((c.toNat : Int) = 95) = False ∧ labR c = false) ∨
       ((97 ≤ (c.toNat : Int)) = False ∧ (48 ≤ (c.toNat : Int)) = True ∧ ((c.toNat : Int) ≤ 57) = True ∧ labR c = true) ∨ ((97 ≤ (c.toNat : Int)) = False ∧ (48 ≤ (c.toNat : Int)) = True ∧ ((c.toNat : Int) ≤ 57) = False ∧ ((c.toNat : Int) = 95) = True ∧ labR c = true) ∨
       ((97 ≤ (c.toNat : Int)) = False ∧ (48 ≤ (c.toNat : Int)) = True ∧ ((c.toNat : Int) ≤ 57) = False ∧ ((c.toNat : Int) = 95) = False ∧ labR c = false) ∨ ((97 ≤ (c.toNat : Int)) = False ∧ (48 ≤ (c.toNat : Int)) = False ∧ ((c.toNat : Int) = 95) = False ∧ labR c = false) := by
     have e : labR c = decide (((97 ≤ c.toNat ∧ c.toNat ≤ 122) ∨ c.toNat = 95) ∨ (48 ≤ c.toNat ∧ c.toNat ≤ 57)) := by
       unfold labR letB digB
       by_cases h1 : 97 ≤ c.toNat ∧ c.toNat ≤ 122 <;> by_cases h2 : c.toNat = 95 <;> by_cases h3 : 48 ≤ c.toNat ∧ c.toNat ≤ 57 <;> simp [h1, h2, h3]
     simp only [e, eq_iff_iff, iff_true, iff_false, decide_eq_true_eq, decide_eq_false_iff_not]
     omega
   rcases hL with ⟨a1, a2, hlab⟩ | ⟨a1, a2, a3, a4, a5, hlab⟩ | ⟨a1, a3, a4, hlab⟩ | ⟨a1, a3, a4, a5, hlab⟩ | ⟨a1, a3, a4, a5, hlab⟩ | ⟨a1, a3, a5, hlab⟩
   · simp -implicitDefEqProofs only [s31_b1, ↓GVdn, GVup, goInt, splice, okC, Fr.of, Fr.ofI, Fr.g, Nat.reduceAdd, Nat.reduceMul, Nat.reduceEqDiff, Nat.reduceLT, Nat.reduceLeDiff, Nat.reduceBEq, Int.reduceLT, Int.reduceLE, Int.reduceToNat, Int.reduceAdd, Int.reduceSub, Int.reduceMul, Int.reduceEq, Int.reduceNeg, ↓reduceIte, ↓reduceDIte, Nat.beq, reduceCtorEq, Value.int.injEq, Nat.reduceSub, sto_ptr, hsz, hlt, hi0, h1, hw1, ih, a1, a2, hlab, Bool.true_and]
   · simp -implicitDefEqProofs only [s31_b1, ↓GVdn, GVup, goInt, splice, okC, Fr.of, Fr.ofI, Fr.g, Nat.reduceAdd, Nat.reduceMul, Nat.reduceEqDiff, Nat.reduceLT, Nat.reduceLeDiff, Nat.reduceBEq, Int.reduceLT, Int.reduceLE, Int.reduceToNat, Int.reduceAdd, Int.reduceSub, Int.reduceMul, Int.reduceEq, Int.reduceNeg, ↓reduceIte, ↓reduceDIte, Nat.beq, reduceCtorEq, Value.int.injEq, Nat.reduceSub, sto_ptr, hsz, hlt, hi0, h1, hw1, a1, a2, a3, a4, a5, hlab, Bool.false_and, Bool.false_eq_true]
   · simp -implicitDefEqProofs only [s31_b1, ↓GVdn, GVup, goInt, splice, okC, Fr.of, Fr.ofI, Fr.g, Nat.reduceAdd, Nat.reduceMul, Nat.reduceEqDiff, Nat.reduceLT, Nat.reduceLeDiff, Nat.reduceBEq, Int.reduceLT, Int.reduceLE, Int.reduceToNat, Int.reduceAdd, Int.reduceSub, Int.reduceMul, Int.reduceEq, Int.reduceNeg, ↓reduceIte, ↓reduceDIte, Nat.beq, reduceCtorEq, Value.int.injEq, Nat.reduceSub, sto_ptr, hsz, hlt, hi0, h1, hw1, ih, a1, a3, a4, hlab, Bool.true_and]
   · simp -implicitDefEqProofs only [s31_b1, ↓GVdn, GVup, goInt, splice, okC, Fr.of, Fr.ofI, Fr.g, Nat.reduceAdd, Nat.reduceMul, Nat.reduceEqDiff, Nat.reduceLT, Nat.reduceLeDiff, Nat.reduceBEq, Int.reduceLT, Int.reduceLE, Int.reduceToNat, Int.reduceAdd, Int.reduceSub, Int.reduceMul, Int.reduceEq, Int.reduceNeg, ↓reduceIte, ↓reduceDIte, Nat.beq, reduceCtorEq, Value.int.injEq, Nat.reduceSub, sto_ptr, hsz, hlt, hi0, h1, hw1, ih, a1, a3, a4, a5, hlab, Bool.true_and]
   · simp -implicitDefEqProofs only [s31_b1, ↓GVdn, GVup, goInt, splice, okC, Fr.of, Fr.ofI, Fr.g, Nat.reduceAdd, Nat.reduceMul, Nat.reduceEqDiff, Nat.reduceLT, Nat.reduceLeDiff, Nat.reduceBEq, Int.reduceLT, Int.reduceLE, Int.reduceToNat, Int.reduceAdd, Int.reduceSub, Int.reduceMul, Int.reduceEq, Int.reduceNeg, ↓reduceIte, ↓reduceDIte, Nat.beq, reduceCtorEq, Value.int.injEq, Nat.reduceSub, sto_ptr, hsz, hlt, hi0, h1, hw1, a1, a3, a4, a5, hlab, Bool.false_and, Bool.false_eq_true]
   · simp -implicitDefEqProofs only [s31_b1, ↓GVdn, GVup, goInt, splice, okC, Fr.of, Fr.ofI, Fr.g, Nat.reduceAdd, Nat.reduceMul, Nat.reduceEqDiff, Nat.reduceLT, Nat.reduceLeDiff, Nat.reduceBEq, Int.reduceLT, Int.reduceLE, Int.reduceToNat, Int.reduceAdd, Int.reduceSub, Int.reduceMul, Int.reduceEq, Int.reduceNeg, ↓reduceIte, ↓reduceDIte, Nat.beq, reduceCtorEq, Value.int.injEq, Nat.reduceSub, sto_ptr, hsz, hlt, hi0, h1, hw1, a1, a3, a5, hlab, Bool.false_and, Bool.false_eq_true]
theorem q31 (n : Nat) (x0 : Value) (hx0 : flat x0 = true) (H : Hp) : evCall cfc (n+1) 31 [x0] H = movR [] H (s31 (evCall cfc n) n x0 Hp.fl) := by
 rw [evCall_quiet (fn := Tryz.f31) (by rfl) (by rfl) Tryz.func31 (by rfl) (by simp [hx0])]
 exact congrArg (movR [] H) (s31_eq _ _ _ _)
theorem v31 (n : Nat) (s : Bs) (hn : 20 < n) (H : Hp) (hs : s.length ≤ 1073741824) : evCall cfc (n+1) 31 [.string (bs s)] H = some (.ret (.bool (labelV (bs s))), H) := by
 rw [q31 n _ rfl H, lab_eq]
 have hsz : (bs s).size = s.length := by rw [Lib.size_eq, bs_list]
 cases s with
 | nil =>
   have e : bs [] = ⟨#[]⟩ := rfl
   rw [e]
   simp -implicitDefEqProofs only [s31, ↓GVdn, GVup, goInt, splice, okC, Fr.of, Fr.ofI, Fr.g, Nat.reduceAdd, Nat.reduceMul, Nat.reduceEqDiff, Nat.reduceLT, Nat.reduceLeDiff, Nat.reduceBEq, Int.reduceLT, Int.reduceLE, Int.reduceToNat, Int.reduceAdd, Int.reduceSub, Int.reduceMul, Int.reduceEq, Int.reduceNeg, ↓reduceIte, ↓reduceDIte, Nat.beq, reduceCtorEq, Value.int.injEq, Nat.reduceSub, sto_ptr, lp_succ, flat_bool]
 | cons c r =>
   have hsz : (bs (c :: r)).size = r.length + 1 := hsz
   have hne : (bs (c :: r) = ⟨#[]⟩) = False := eq_false (bs_emp (by simp))
   have h0 : (bs (c :: r))[0]? = some c := (drop_cons (s := c :: r) (i := 0) rfl).1
   have hne2 : decide (¬ (c :: r) = []) = true := rfl
   rw [hne2, Bool.true_and]
   by_cases h16 : (c :: r).length ≤ 16
   · have h16' : ((16 : Int) < ((r.length + 1 : Nat) : Int)) = False := eq_false (by simp at h16; omega)
     rw [decide_eq_true h16, Bool.true_and]
     have hl := fun kx kr => lab2_loop (evCall cfc n) n (c :: r) (by omega) Hp.fl kx kr (c :: r) 0 n rfl (by omega) (by omega)
     have hl' : ∀ kx kr, lp (s31_b1 (evCall cfc n) n) n [.string (bs (c :: r)), .int .i64 0] Hp.fl kx kr = _ := hl
     dsimp only
     cases hg : digB c with
     | true =>
       have d1 : (48 ≤ (c.toNat : Int)) = True := eq_true (by have := of_decide_eq_true hg; omega)
       have d2 : ((c.toNat : Int) ≤ 57) = True := eq_true (by have := of_decide_eq_true hg; omega)
       simp -implicitDefEqProofs only [s31, ↓GVdn, GVup, goInt, splice, okC, Fr.of, Fr.ofI, Fr.g, Nat.reduceAdd, Nat.reduceMul, Nat.reduceEqDiff, Nat.reduceLT, Nat.reduceLeDiff, Nat.reduceBEq, Int.reduceLT, Int.reduceLE, Int.reduceToNat, Int.reduceAdd, Int.reduceSub, Int.reduceMul, Int.reduceEq, Int.reduceNeg, ↓reduceIte, ↓reduceDIte, Nat.beq, reduceCtorEq, Value.int.injEq, Nat.reduceSub, sto_ptr, flat_bool, hne, hsz, h16', h0, d1, d2, Bool.not_true, Bool.false_and]
     | false =>
       have hd := of_decide_eq_false hg
       simp only [Bool.not_false, Bool.true_and]
       by_cases hall : (c :: r).all labR = true
       · rw [hall]
         simp only [hall, if_true] at hl'
         by_cases d1 : 48 ≤ (c.toNat : Int)
         · have d2 : ((c.toNat : Int) ≤ 57) = False := eq_false (by omega)
           simp -implicitDefEqProofs only [s31, ↓GVdn, GVup, goInt, splice, okC, Fr.of, Fr.ofI, Fr.g, Nat.reduceAdd, Nat.reduceMul, Nat.reduceEqDiff, Nat.reduceLT, Nat.reduceLeDiff, Nat.reduceBEq, Int.reduceLT, Int.reduceLE, Int.reduceToNat, Int.reduceAdd, Int.reduceSub, Int.reduceMul, Int.reduceEq, Int.reduceNeg, ↓reduceIte, ↓reduceDIte, Nat.beq, reduceCtorEq, Value.int.injEq, Nat.reduceSub, sto_ptr, flat_bool, hne, hsz, h16', h0, d1, d2, hl']
         · simp -implicitDefEqProofs only [s31, ↓GVdn, GVup, goInt, splice, okC, Fr.of, Fr.ofI, Fr.g, Nat.reduceAdd, Nat.reduceMul, Nat.reduceEqDiff, Nat.reduceLT, Nat.reduceLeDiff, Nat.reduceBEq, Int.reduceLT, Int.reduceLE, Int.reduceToNat, Int.reduceAdd, Int.reduceSub, Int.reduceMul, Int.reduceEq, Int.reduceNeg, ↓reduceIte, ↓reduceDIte, Nat.beq, reduceCtorEq, Value.int.injEq, Nat.reduceSub, sto_ptr, flat_bool, hne, hsz, h16', h0, d1, hl']
       · have hall2 : (c :: r).all labR = false := by simpa using hall
         rw [hall2]
         simp only [hall2, Bool.false_eq_true, if_false] at hl'
         by_cases d1 : 48 ≤ (c.toNat : Int)
         · have d2 : ((c.toNat : Int) ≤ 57) = False := eq_false (by omega)
           simp -implicitDefEqProofs only [s31, ↓GVdn, GVup, goInt, splice, okC, Fr.of, Fr.ofI, Fr.g, Nat.reduceAdd, Nat.reduceMul, Nat.reduceEqDiff, Nat.reduceLT, Nat.reduceLeDiff, Nat.reduceBEq, Int.reduceLT, Int.reduceLE, Int.reduceToNat, Int.reduceAdd, Int.reduceSub, Int.reduceMul, Int.reduceEq, Int.reduceNeg, ↓reduceIte, ↓reduceDIte, Nat.beq, reduceCtorEq, Value.int.injEq, Nat.reduceSub, sto_ptr, flat_bool, hne, hsz, h16', h0, d1, d2, hl']
         · simp -implicitDefEqProofs only [s31, ↓GVdn, GVup, goInt, splice, okC, Fr.of, Fr.ofI, Fr.g, Nat.reduceAdd, Nat.reduceMul, Nat.reduceEqDiff, Nat.reduceLT, Nat.reduceLeDiff, Nat.reduceBEq, Int.reduceLT, Int.reduceLE, Int.reduceToNat, Int.reduceAdd, Int.reduceSub, Int.reduceMul, Int.reduceEq, Int.reduceNeg, ↓reduceIte, ↓reduceDIte, Nat.beq, reduceCtorEq, Value.int.injEq, Nat.reduceSub, sto_ptr, flat_bool, hne, hsz, h16', h0, d1, hl']
   · have h16' : ((16 : Int) < ((r.length + 1 : Nat) : Int)) = True := eq_true (by simp at h16; omega)
     rw [decide_eq_false h16]
     simp only [Bool.false_and]
     simp -implicitDefEqProofs only [s31, ↓GVdn, GVup, goInt, splice, okC, Fr.of, Fr.ofI, Fr.g, Nat.reduceAdd, Nat.reduceMul, Nat.reduceEqDiff, Nat.reduceLT, Nat.reduceLeDiff, Nat.reduceBEq, Int.reduceLT, Int.reduceLE, Int.reduceToNat, Int.reduceAdd, Int.reduceSub, Int.reduceMul, Int.reduceEq, Int.reduceNeg, ↓reduceIte, ↓reduceDIte, Nat.beq, reduceCtorEq, Value.int.injEq, Nat.reduceSub, sto_ptr, lp_succ, flat_bool, hne, hsz, h16']
def regD (c : UInt8) (s : Bs) : Int × Bool := if s.length < 2 ∨ s.head? ≠ some c then (0, false) else ((numV s.tail).1, (numV s.tail).2 && decide (0 ≤ (numV s.tail).1) && decide ((numV s.tail).1 ≤ 15))
theorem q51 (n : Nat) (x0 x1 : Value) (hx0 : flat x0 = true) (hx1 : flat x1 = true) (H : Hp) : evCall cfc (n+1) 51 [x0, x1] H = movR [] H (s51 (evCall cfc n) n x0 x1 Hp.fl) := by
 rw [evCall_quiet (fn := Tryz.f51) (by rfl) (by rfl) Tryz.func51 (by rfl) (by simp [hx0, hx1])]
 exact congrArg (movR [] H) (s51_eq _ _ _ _ _)
theorem v51 (n : Nat) (c : UInt8) (s : Bs) (hn : 22 < n) (H : Hp) (hs : s.length ≤ 1000000) : evCall cfc (n+1) 51 [.string (bs s), .int .u8 c.toNat] H = some (.ret (.tuple #[.int .i64 (regD c s).1, .bool (regD c s).2]), H) := by
 rw [q51 n _ _ rfl rfl H]
 have hC : ∀ (r : Bs) (H' : Hp), r.length ≤ 1000000 → evCall cfc n 52 [.string (bs r)] H' = some (.ret (.tuple #[.int .i64 (numV r).1, .bool (numV r).2]), H') := by
   intro r H' hr
   obtain ⟨q, rfl⟩ : ∃ q, n = q + 1 := ⟨n - 1, by omega⟩
   exact v52 q r (by omega) H' hr
 unfold regD
 cases s with
 | nil =>
   have e : bs [] = ⟨#[]⟩ := rfl
   have es : (⟨#[]⟩ : ByteArray).size = 0 := rfl
   rw [e, if_pos (Or.inl (by simp))]
   simp -implicitDefEqProofs only [s51, ↓GVdn, GVup, goInt, splice, okC, Fr.of, Fr.ofI, Fr.g, Nat.reduceAdd, Nat.reduceMul, Nat.reduceEqDiff, Nat.reduceLT, Nat.reduceLeDiff, Nat.reduceBEq, Int.reduceLT, Int.reduceLE, Int.reduceToNat, Int.reduceAdd, Int.reduceSub, Int.reduceMul, Int.reduceEq, Int.reduceNeg, ↓reduceIte, ↓reduceDIte, Nat.beq, reduceCtorEq, Value.int.injEq, Nat.reduceSub, sto_ptr, lp_succ, es]
   exact movR_pair _ _ _
 | cons d r =>
   have hsz : (bs (d :: r)).size = r.length + 1 := by rw [Lib.size_eq, bs_list]; rfl
   have h0 : (bs (d :: r))[0]? = some d := (drop_cons (s := d :: r) (i := 0) rfl).1
   have hx : (bs (d :: r)).extract 1 (r.length + 1) = bs r := bytes_inj (by rw [extract_list, bs_list, bs_list]; simp)
   have hl1 : ((1 : Int) ≤ ((r.length + 1 : Nat) : Int)) = True := eq_true (by omega)
   have hlg : ((0 : Int) < ((r.length + 1 : Nat) : Int)) = True := eq_true (by omega)
   simp only [List.length_cons] at hs
   by_cases h2 : r.length + 1 < 2
   · have a1 : (((r.length + 1 : Nat) : Int) < 2) = True := eq_true (by omega)
     rw [if_pos (Or.inl (by simp; omega))]
     simp -implicitDefEqProofs only [s51, ↓GVdn, GVup, goInt, splice, okC, Fr.of, Fr.ofI, Fr.g, Nat.reduceAdd, Nat.reduceMul, Nat.reduceEqDiff, Nat.reduceLT, Nat.reduceLeDiff, Nat.reduceBEq, Int.reduceLT, Int.reduceLE, Int.reduceToNat, Int.reduceAdd, Int.reduceSub, Int.reduceMul, Int.reduceEq, Int.reduceNeg, ↓reduceIte, ↓reduceDIte, Nat.beq, reduceCtorEq, Value.int.injEq, Nat.reduceSub, sto_ptr, lp_succ, hsz, h0, hx, hl1, hlg, a1]
     exact movR_pair _ _ _
   · have a1 : (((r.length + 1 : Nat) : Int) < 2) = False := eq_false (by omega)
     by_cases hc : d = c
     · subst hc
       rw [if_neg (by rintro (h | h); simp at h; omega; exact h rfl), List.tail_cons]
       have hC := fun H' => hC r H' (by omega)
       rcases hnm : numV r with ⟨z, b⟩
       simp only [hnm] at hC ⊢
       cases b with
       | false =>
         simp -implicitDefEqProofs only [s51, ↓GVdn, GVup, goInt, splice, okC, Fr.of, Fr.ofI, Fr.g, Nat.reduceAdd, Nat.reduceMul, Nat.reduceEqDiff, Nat.reduceLT, Nat.reduceLeDiff, Nat.reduceBEq, Int.reduceLT, Int.reduceLE, Int.reduceToNat, Int.reduceAdd, Int.reduceSub, Int.reduceMul, Int.reduceEq, Int.reduceNeg, ↓reduceIte, ↓reduceDIte, Nat.beq, reduceCtorEq, Value.int.injEq, Nat.reduceSub, sto_ptr, lp_succ, hsz, h0, hx, hl1, hlg, a1, hC, Bool.false_and]
         exact movR_pair _ _ _
       | true =>
         by_cases z0 : 0 ≤ z
         · rw [decide_eq_true z0]
           simp -implicitDefEqProofs only [s51, ↓GVdn, GVup, goInt, splice, okC, Fr.of, Fr.ofI, Fr.g, Nat.reduceAdd, Nat.reduceMul, Nat.reduceEqDiff, Nat.reduceLT, Nat.reduceLeDiff, Nat.reduceBEq, Int.reduceLT, Int.reduceLE, Int.reduceToNat, Int.reduceAdd, Int.reduceSub, Int.reduceMul, Int.reduceEq, Int.reduceNeg, ↓reduceIte, ↓reduceDIte, Nat.beq, reduceCtorEq, Value.int.injEq, Nat.reduceSub, sto_ptr, lp_succ, hsz, h0, hx, hl1, hlg, a1, hC, Bool.true_and, z0]
           exact movR_pair _ _ _
         · rw [decide_eq_false z0]
           simp -implicitDefEqProofs only [s51, ↓GVdn, GVup, goInt, splice, okC, Fr.of, Fr.ofI, Fr.g, Nat.reduceAdd, Nat.reduceMul, Nat.reduceEqDiff, Nat.reduceLT, Nat.reduceLeDiff, Nat.reduceBEq, Int.reduceLT, Int.reduceLE, Int.reduceToNat, Int.reduceAdd, Int.reduceSub, Int.reduceMul, Int.reduceEq, Int.reduceNeg, ↓reduceIte, ↓reduceDIte, Nat.beq, reduceCtorEq, Value.int.injEq, Nat.reduceSub, sto_ptr, lp_succ, hsz, h0, hx, hl1, hlg, a1, hC, Bool.true_and, Bool.false_and, z0]
           exact movR_pair _ _ _
     · have a2 := u8ne c hc
       rw [if_pos (Or.inr (show (d :: r).head? ≠ some c from fun h => hc (Option.some.inj h)))]
       simp -implicitDefEqProofs only [s51, ↓GVdn, GVup, goInt, splice, okC, Fr.of, Fr.ofI, Fr.g, Nat.reduceAdd, Nat.reduceMul, Nat.reduceEqDiff, Nat.reduceLT, Nat.reduceLeDiff, Nat.reduceBEq, Int.reduceLT, Int.reduceLE, Int.reduceToNat, Int.reduceAdd, Int.reduceSub, Int.reduceMul, Int.reduceEq, Int.reduceNeg, ↓reduceIte, ↓reduceDIte, Nat.beq, reduceCtorEq, Value.int.injEq, Nat.reduceSub, sto_ptr, lp_succ, hsz, h0, hx, hl1, hlg, a1, a2]
       exact movR_pair _ _ _
end Go.Proofs.YtbaooebafijenaaGreatDoor
