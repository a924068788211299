/- The document's words of a line. -/
import Derived.Test.YtbaooebafijenaaDoorGDg
import Derived.Test.YtbaooebafijenaaDoorGvBun
namespace Go.Proofs.YtbaooebafijenaaDoor
open Go Go.Ev
set_option maxRecDepth 100000
set_option linter.unusedSimpArgs false
set_option linter.unusedVariables false
set_option maxHeartbeats 4000000
set_option linter.unusedSectionVars false
variable [Mx]
attribute [local congr] bind_front callK_front jn_front ifB_front ifG_front lp_front
def skipB : Bs → Nat
  | [] => 0
  | c :: r => if blB c = true then skipB r + 1 else 0
def wordN : Bs → Nat
  | [] => 0
  | c :: r => if blB c = true ∨ mkB c = true then 0 else wordN r + 1
theorem skipB_le : ∀ l : Bs, skipB l ≤ l.length
  | [] => Nat.le_refl _
  | c :: r => by
    have := skipB_le r
    simp only [skipB, List.length_cons]
    split <;> omega
theorem wordN_le : ∀ l : Bs, wordN l ≤ l.length
  | [] => Nat.le_refl _
  | c :: r => by
    have := wordN_le r
    simp only [wordN, List.length_cons]
    split <;> omega
/-- the words, and whether blanks stand ahead of each -/
def rtk : Nat → Bs → List (Bs × Bool)
  | 0, _ => []
  | k + 1, l =>
    match l with
    | [] => []
    | _ :: _ =>
      match l.drop (skipB l) with
      | [] => []
      | c :: r => if mkB c = true then ([c], decide (0 < skipB l)) :: rtk k r else ((c :: r).take (wordN (c :: r)), decide (0 < skipB l)) :: rtk k ((c :: r).drop (wordN (c :: r)))
def tkc (l : List (Bs × Bool)) : List Value := l.flatMap fun p => [.string (bs p.1), .bool p.2]
theorem tkc_len (l : List (Bs × Bool)) : (tkc l).length = l.length * 2 := by
  induction l with
  | nil => rfl
  | cons p l ih =>
    have e : tkc (p :: l) = [.string (bs p.1), .bool p.2] ++ tkc l := rfl
    rw [e, List.length_append, ih, List.length_cons]
    simp only [List.length_cons, List.length_nil]
    omega
theorem drop_cons {s : Bs} {i : Nat} {c : UInt8} {r : Bs} (h : s.drop i = c :: r) : (bs s)[i]? = some c ∧ s.drop (i + 1) = r ∧ i < s.length := by
  have hk : i < s.length := by
    have := congrArg List.length h
    simp only [List.length_drop, List.length_cons] at this
    omega
  obtain ⟨d, hd1, hd2⟩ := str_at (bs s) i (by rw [Lib.size_eq, bs_list]; exact hk)
  rw [bs_list, h] at hd2
  injection hd2 with e1 e2
  exact ⟨by rw [hd1, e1], e2.symm, hk⟩
theorem rt_blanks (n : Nat) (s : Bs) (hs : s.length ≤ 1073741824) (lv : Value) (H : Hp) (kx : Nat → Fr → Hp → Option (Out × Hp)) (kr : Fr → Hp → Option (Out × Hp)) : ∀ (r : Bs) (i m : Nat) (g : Bool), s.drop i = r → r.length < m → i ≤ s.length →
    lp (s32_b1 (evCall cfc (n+1)) (n+1)) m [.string (bs s), lv, .int .i64 i, .bool g] H kx kr = kx 2 (Fr.of [0, 3, 4, 5] [.string (bs s), lv, .int .i64 ((i + skipB r : Nat) : Int), .bool (g || decide (0 < skipB r))]) H := by
  have hsz : (bs s).size = s.length := by rw [Lib.size_eq, bs_list]
  intro r
  induction r with
  | nil =>
    intro i m g hd hm hi
    obtain ⟨m, rfl⟩ : ∃ q, m = q + 1 := ⟨m - 1, by omega⟩
    have hlt : ((i : Int) < (s.length : Int)) = False := eq_false (by
      have := congrArg List.length hd
      simp only [List.length_drop, List.length_nil] at this
      omega)
    have e : (g || decide (0 < skipB [])) = g := by simp [skipB]
    have e2 : skipB [] = 0 := rfl
    rw [e, e2, Nat.add_zero, lp_succ]
    simp -implicitDefEqProofs only [s32_b1, ↓GVdn, GVup, goInt, splice, okC, Fr.of, Fr.ofI, Fr.g, Nat.reduceAdd, Nat.reduceMul, Nat.reduceEqDiff, Nat.reduceLT, Nat.reduceLeDiff, Nat.reduceBEq, Int.reduceLT, Int.reduceLE, Int.reduceToNat, Int.reduceAdd, Int.reduceSub, Int.reduceMul, Int.reduceEq, Int.reduceNeg, ↓reduceIte, ↓reduceDIte, Nat.beq, reduceCtorEq, Value.int.injEq, Nat.reduceSub, sto_ptr, hsz, hlt]
  | cons c r ih =>
    intro i m g hd hm hi
    obtain ⟨m, rfl⟩ : ∃ q, m = q + 1 := ⟨m - 1, by omega⟩
    obtain ⟨h1, h2, h3⟩ := drop_cons hd
    have hlt : ((i : Int) < (s.length : Int)) = True := eq_true (by omega)
    have hi0 : ((0 : Int) ≤ (i : Int)) = True := eq_true (by omega)
    have hw1 : IntKind.wrap .i64 ((i : Int) + 1) = ((i + 1 : Nat) : Int) := by rw [IntWalk.i64_in _ (by omega)]; rfl
    have h57 := fun H => v57 n c H
    have ih := ih (i + 1) m true h2 (by simp at hm; omega) (by omega)
    rw [lp_succ]
    by_cases hb : blB c = true
    · rw [hb] at h57
      have hs1 : skipB (c :: r) = skipB r + 1 := by simp [skipB, hb]
      have e : (g || decide (0 < skipB r + 1)) = (true || decide (0 < skipB r)) := by simp
      have e2 : i + (skipB r + 1) = i + 1 + skipB r := by omega
      rw [hs1, e, e2]
      simp -implicitDefEqProofs only [s32_b1, ↓GVdn, GVup, goInt, splice, okC, Fr.of, Fr.ofI, Fr.g, Nat.reduceAdd, Nat.reduceMul, Nat.reduceEqDiff, Nat.reduceLT, Nat.reduceLeDiff, Nat.reduceBEq, Int.reduceLT, Int.reduceLE, Int.reduceToNat, Int.reduceAdd, Int.reduceSub, Int.reduceMul, Int.reduceEq, Int.reduceNeg, ↓reduceIte, ↓reduceDIte, Nat.beq, reduceCtorEq, Value.int.injEq, Nat.reduceSub, sto_ptr, opn_lim, hsz, hlt, hi0, h1, h57, hw1, ih]
    · have hb2 : blB c = false := by simpa using hb
      rw [hb2] at h57
      have hs1 : skipB (c :: r) = 0 := by simp [skipB, hb]
      have e : (g || decide (0 < 0)) = g := by simp
      rw [hs1, e, Nat.add_zero]
      simp -implicitDefEqProofs only [s32_b1, ↓GVdn, GVup, goInt, splice, okC, Fr.of, Fr.ofI, Fr.g, Nat.reduceAdd, Nat.reduceMul, Nat.reduceEqDiff, Nat.reduceLT, Nat.reduceLeDiff, Nat.reduceBEq, Int.reduceLT, Int.reduceLE, Int.reduceToNat, Int.reduceAdd, Int.reduceSub, Int.reduceMul, Int.reduceEq, Int.reduceNeg, ↓reduceIte, ↓reduceDIte, Nat.beq, reduceCtorEq, Value.int.injEq, Nat.reduceSub, sto_ptr, opn_lim, hsz, hlt, hi0, h1, h57]
theorem rt_word (n : Nat) (s : Bs) (hs : s.length ≤ 1073741824) (lv fv : Value) (g : Value) (H : Hp) (kx : Nat → Fr → Hp → Option JR) (kr : Fr → Hp → Option JR) : ∀ (r : Bs) (i m : Nat), s.drop i = r → r.length < m → i ≤ s.length →
    lp (s32_b2 (evCall cfc (n+1)) (n+1)) m [.string (bs s), lv, .int .i64 i, g, fv] H kx kr = kx 4 (Fr.of [0, 3, 4, 5, 6] [.string (bs s), lv, .int .i64 ((i + wordN r : Nat) : Int), g, fv]) H := by
  have hsz : (bs s).size = s.length := by rw [Lib.size_eq, bs_list]
  intro r
  induction r with
  | nil =>
    intro i m hd hm hi
    obtain ⟨m, rfl⟩ : ∃ q, m = q + 1 := ⟨m - 1, by omega⟩
    have hlt : ((i : Int) < (s.length : Int)) = False := eq_false (by
      have := congrArg List.length hd
      simp only [List.length_drop, List.length_nil] at this
      omega)
    have e2 : wordN [] = 0 := rfl
    rw [e2, Nat.add_zero, lp_succ]
    simp -implicitDefEqProofs only [s32_b2, ↓GVdn, GVup, goInt, splice, okC, Fr.of, Fr.ofI, Fr.g, Nat.reduceAdd, Nat.reduceMul, Nat.reduceEqDiff, Nat.reduceLT, Nat.reduceLeDiff, Nat.reduceBEq, Int.reduceLT, Int.reduceLE, Int.reduceToNat, Int.reduceAdd, Int.reduceSub, Int.reduceMul, Int.reduceEq, Int.reduceNeg, ↓reduceIte, ↓reduceDIte, Nat.beq, reduceCtorEq, Value.int.injEq, Nat.reduceSub, sto_ptr, hsz, hlt]
  | cons c r ih =>
    intro i m hd hm hi
    obtain ⟨m, rfl⟩ : ∃ q, m = q + 1 := ⟨m - 1, by omega⟩
    obtain ⟨h1, h2, h3⟩ := drop_cons hd
    have hlt : ((i : Int) < (s.length : Int)) = True := eq_true (by omega)
    have hi0 : ((0 : Int) ≤ (i : Int)) = True := eq_true (by omega)
    have hw1 : IntKind.wrap .i64 ((i : Int) + 1) = ((i + 1 : Nat) : Int) := by rw [IntWalk.i64_in _ (by omega)]; rfl
    have h57 := fun H => v57 n c H
    have h58 := fun H => v58 n c H
    have ih := ih (i + 1) m h2 (by simp at hm; omega) (by omega)
    simp only [wordN]
    rw [lp_succ]
    cases hb : blB c with
    | true =>
      rw [hb] at h57
      rw [if_pos (.inl rfl), Nat.add_zero]
      simp -implicitDefEqProofs only [s32_b2, ↓GVdn, GVup, goInt, splice, okC, Fr.of, Fr.ofI, Fr.g, Nat.reduceAdd, Nat.reduceMul, Nat.reduceEqDiff, Nat.reduceLT, Nat.reduceLeDiff, Nat.reduceBEq, Int.reduceLT, Int.reduceLE, Int.reduceToNat, Int.reduceAdd, Int.reduceSub, Int.reduceMul, Int.reduceEq, Int.reduceNeg, ↓reduceIte, ↓reduceDIte, Nat.beq, reduceCtorEq, Value.int.injEq, Nat.reduceSub, sto_ptr, opn_lim, hsz, hlt, hi0, h1, h57]
    | false =>
      rw [hb] at h57
      cases hk : mkB c with
      | true =>
        rw [hk] at h58
        rw [if_pos (.inr rfl), Nat.add_zero]
        simp -implicitDefEqProofs only [s32_b2, ↓GVdn, GVup, goInt, splice, okC, Fr.of, Fr.ofI, Fr.g, Nat.reduceAdd, Nat.reduceMul, Nat.reduceEqDiff, Nat.reduceLT, Nat.reduceLeDiff, Nat.reduceBEq, Int.reduceLT, Int.reduceLE, Int.reduceToNat, Int.reduceAdd, Int.reduceSub, Int.reduceMul, Int.reduceEq, Int.reduceNeg, ↓reduceIte, ↓reduceDIte, Nat.beq, reduceCtorEq, Value.int.injEq, Nat.reduceSub, sto_ptr, opn_lim, hsz, hlt, hi0, h1, h57, h58]
      | false =>
        rw [hk] at h58
        rw [if_neg (by simp)]
        have e2 : i + (wordN r + 1) = i + 1 + wordN r := by omega
        rw [e2]
        simp -implicitDefEqProofs only [s32_b2, ↓GVdn, GVup, goInt, splice, okC, Fr.of, Fr.ofI, Fr.g, Nat.reduceAdd, Nat.reduceMul, Nat.reduceEqDiff, Nat.reduceLT, Nat.reduceLeDiff, Nat.reduceBEq, Int.reduceLT, Int.reduceLE, Int.reduceToNat, Int.reduceAdd, Int.reduceSub, Int.reduceMul, Int.reduceEq, Int.reduceNeg, ↓reduceIte, ↓reduceDIte, Nat.beq, reduceCtorEq, Value.int.injEq, Nat.reduceSub, sto_ptr, opn_lim, hsz, hlt, hi0, h1, h57, h58, hw1, ih]
theorem skip_drop : ∀ (l : Bs) {c : UInt8} {r : Bs}, l.drop (skipB l) = c :: r → blB c = false
  | [], c, r, h => by cases h
  | x :: l, c, r, h => by
    simp only [skipB] at h
    split at h
    · exact skip_drop l h
    · rename_i hx
      cases h
      simpa using hx
theorem rt_main (n : Nat) (s : Bs) (hs : s.length ≤ 536870912) (hn : s.length < n) (kx : Nat → Fr → Hp → Option (Out × Hp)) (kr : Fr → Hp → Option (Out × Hp)) : ∀ (k : Nat) (r : Bs) (i m : Nat), s.drop i = r → r.length < k → r.length < m → i ≤ s.length → ∀ (H : Hp) (l : List (Bs × Bool)) (lb : Option Nat), RowS H lb 10 (tkc l) → H.lim = 10 → 10 ≤ H.next → l.length ≤ i →
    ∃ H' lb', lp (s32_b3 (evCall cfc (n+1)) (n+1)) m [.string (bs s), svOf lb l.length 2, .int .i64 i] H kx kr = kx 0 (Fr.of [3] [svOf lb' (l ++ rtk k r).length 2]) H' ∧ RowS H' lb' 10 (tkc (l ++ rtk k r)) := by
  have hsz : (bs s).size = s.length := by rw [Lib.size_eq, bs_list]
  intro k
  induction k with
  | zero => intro r i m hd hk; omega
  | succ k ih =>
    intro r i m hd hk hm hi H l lb hR hl hnx hll
    obtain ⟨m, rfl⟩ : ∃ q, m = q + 1 := ⟨m - 1, by omega⟩
    have hrl : r.length = s.length - i := by rw [← hd, List.length_drop]
    cases r with
    | nil =>
      have hlt : ((i : Int) < (s.length : Int)) = False := eq_false (by simp at hrl; omega)
      simp only [rtk, List.append_nil]
      refine ⟨H, lb, ?_, hR⟩
      rw [lp_succ]
      simp -implicitDefEqProofs only [s32_b3, ↓GVdn, GVup, goInt, splice, okC, Fr.of, Fr.ofI, Fr.g, Nat.reduceAdd, Nat.reduceMul, Nat.reduceEqDiff, Nat.reduceLT, Nat.reduceLeDiff, Nat.reduceBEq, Int.reduceLT, Int.reduceLE, Int.reduceToNat, Int.reduceAdd, Int.reduceSub, Int.reduceMul, Int.reduceEq, Int.reduceNeg, ↓reduceIte, ↓reduceDIte, Nat.beq, reduceCtorEq, Value.int.injEq, Nat.reduceSub, sto_ptr, hsz, hlt]
    | cons c0 r0 =>
      have hlt : ((i : Int) < (s.length : Int)) = True := eq_true (by simp at hrl; omega)
      have b1 := fun kx kr => rt_blanks n s (by omega) (svOf lb l.length 2) H kx kr (c0 :: r0) i (n+1) false hd (by omega) hi
      simp only [Bool.false_or] at b1
      have hsk := skipB_le (c0 :: r0)
      have hd2 : s.drop (i + skipB (c0 :: r0)) = (c0 :: r0).drop (skipB (c0 :: r0)) := by rw [← hd, List.drop_drop]
      simp only [rtk]
      generalize hj : i + skipB (c0 :: r0) = j at *
      generalize hg : decide (0 < skipB (c0 :: r0)) = g at *
      cases hr1 : (c0 :: r0).drop (skipB (c0 :: r0)) with
      | nil =>
        rw [hr1] at hd2
        have hje : j = s.length := by
          have := congrArg List.length hd2
          simp only [List.length_drop, List.length_nil] at this
          omega
        have hlt2 : ((j : Int) < (s.length : Int)) = False := eq_false (by omega)
        have b2 := fun kx kr => rt_word n s (by omega) (svOf lb l.length 2) (.int .i64 j) (.bool g) H kx kr [] j (n+1) hd2 (by simp) (by omega)
        have e0 : j + wordN [] = j := rfl
        rw [e0] at b2
        have hgt : ((j : Int) < (j : Int)) = False := eq_false (by omega)
        simp only [List.append_nil]
        obtain ⟨m, rfl⟩ : ∃ q, m = q + 1 := ⟨m - 1, by simp at hm; omega⟩
        refine ⟨H, lb, ?_, hR⟩
        have hb := fun kx kr => b2 kx kr
        rw [lp_succ]
        simp -implicitDefEqProofs only [s32_b3, ↓GVdn, GVup, goInt, splice, okC, Fr.of, Fr.ofI, Fr.g, Nat.reduceAdd, Nat.reduceMul, Nat.reduceEqDiff, Nat.reduceLT, Nat.reduceLeDiff, Nat.reduceBEq, Int.reduceLT, Int.reduceLE, Int.reduceToNat, Int.reduceAdd, Int.reduceSub, Int.reduceMul, Int.reduceEq, Int.reduceNeg, ↓reduceIte, ↓reduceDIte, Nat.beq, reduceCtorEq, Value.int.injEq, Nat.reduceSub, sto_ptr, hsz, hlt, b1, hlt2, b2, hgt]
        rw [lp_succ]
        simp -implicitDefEqProofs only [s32_b3, ↓GVdn, GVup, goInt, splice, okC, Fr.of, Fr.ofI, Fr.g, Nat.reduceAdd, Nat.reduceMul, Nat.reduceEqDiff, Nat.reduceLT, Nat.reduceLeDiff, Nat.reduceBEq, Int.reduceLT, Int.reduceLE, Int.reduceToNat, Int.reduceAdd, Int.reduceSub, Int.reduceMul, Int.reduceEq, Int.reduceNeg, ↓reduceIte, ↓reduceDIte, Nat.beq, reduceCtorEq, Value.int.injEq, Nat.reduceSub, sto_ptr, hsz, hlt2]
      | cons c r1 =>
        rw [hr1] at hd2
        obtain ⟨h1, h2, h3⟩ := drop_cons hd2
        have hbl := skip_drop _ hr1
        dsimp only
        have hlt2 : ((j : Int) < (s.length : Int)) = True := eq_true (by omega)
        have hi0 : ((0 : Int) ≤ (j : Int)) = True := eq_true (by omega)
        have h58 := fun H => v58 n c H
        have hlj : r1.length + 1 ≤ (c0 :: r0).length := by
          have := congrArg List.length hr1
          simp only [List.length_drop, List.length_cons] at this ⊢
          omega
        have hjl : s.length = j + (r1.length + 1) := by
          have := congrArg List.length hd2
          simp only [List.length_drop, List.length_cons] at this
          omega
        -- a word more
        have more : ∀ (w : Bs) (e : Nat), j < e → e ≤ s.length → (bs s).extract j e = bs w → ∃ H2 lb2, appd 2 24 (svOf lb l.length 2) 1 [.string (bs w), .bool g] (H.new (.rw [.string (bs w), .bool g])) = some (svOf lb2 (l ++ [(w, g)]).length 2, H2) ∧ RowS H2 lb2 10 (tkc (l ++ [(w, g)])) ∧ H2.lim = 10 ∧ 10 ≤ H2.next := by
          intro w e h1 h2 h3
          obtain ⟨H2, lb2, a1, a2, a3, a4, a5, a6⟩ := app_row (sz := 2) (by_ := 24) (H := H.new (.rw [.string (bs w), .bool g])) (n := l.length) (cs := tkc l) (lb := lb) (lo := 10) (tkc_len l).symm (row_new hR _) (by show H.lim ≤ 10; omega) (by show 10 ≤ H.next + 1; omega) (by show 10 ≤ H.lim; omega) (m := 1) (xs := [.string (bs w), .bool g]) (by simp) (by decide) (decide_eq_true ⟨by omega, by omega⟩) rfl
          have e1 : tkc (l ++ [(w, g)]) = tkc l ++ [.string (bs w), .bool g] := by simp [tkc]
          refine ⟨H2, lb2, by simpa using a1, by rw [e1]; exact a2, by rw [a4]; exact hl, ?_⟩
          have : H.next + 1 ≤ H2.next := a3
          omega
        have srcN : ∀ w : Bs, srcC 2 (.slice (some ⟨H.next, 0, none⟩) 1 2) (H.new (.rw [.string (bs w), .bool g])) = some (1, [.string (bs w), .bool g]) := fun w => by
          simp [srcC, cells_new]
        by_cases hk1 : mkB c = true
        · rw [if_pos hk1]
          rw [hk1] at h58
          have hw1 : IntKind.wrap .i64 ((j : Int) + 1) = ((j + 1 : Nat) : Int) := by rw [IntWalk.i64_in _ (by omega)]; rfl
          have hx : (bs s).extract j (j + 1) = bs [c] := bytes_inj (by
            rw [extract_list, bs_list, hd2, bs_list]
            have : j + 1 - j = 1 := by omega
            rw [this]; rfl)
          obtain ⟨H2, lb2, a1, a2, a3, a4⟩ := more [c] (j + 1) (by omega) (by omega) hx
          have hgt : ((j : Int) < ((j + 1 : Nat) : Int)) = True := eq_true (by omega)
          have hr1' : ((j : Int) ≤ ((j + 1 : Nat) : Int)) = True := eq_true (by omega)
          have hr2' : (((j + 1 : Nat) : Int) ≤ (s.length : Int)) = True := eq_true (by omega)
          obtain ⟨H', lb', i1, i2⟩ := ih r1 (j + 1) m h2 (by simp at hk hlj; omega) (by simp at hm hlj; omega) (by omega) H2 _ lb2 a2 a3 a4 (by simp; omega)
          rw [List.append_assoc, List.singleton_append] at i1 i2
          refine ⟨H', lb', ?_, i2⟩
          rw [← i1, lp_succ]
          simp -implicitDefEqProofs only [s32_b3, ↓GVdn, GVup, goInt, splice, okC, Fr.of, Fr.ofI, Fr.g, Nat.reduceAdd, Nat.reduceMul, Nat.reduceEqDiff, Nat.reduceLT, Nat.reduceLeDiff, Nat.reduceBEq, Int.reduceLT, Int.reduceLE, Int.reduceToNat, Int.reduceAdd, Int.reduceSub, Int.reduceMul, Int.reduceEq, Int.reduceNeg, ↓reduceIte, ↓reduceDIte, Nat.beq, reduceCtorEq, Value.int.injEq, Nat.reduceSub, sto_ptr, opn_lim, hsz, hlt, b1, hlt2, hi0, h1, h58, hw1, hgt, hr1', hr2', hx, rep, List.replicate, List.flatten_cons, List.flatten_nil, srcN, a1]
        · rw [if_neg hk1]
          have hk2 : mkB c = false := by simpa using hk1
          rw [hk2] at h58
          have b2 := fun kx kr => rt_word n s (by omega) (svOf lb l.length 2) (.int .i64 j) (.bool g) H kx kr (c :: r1) j (n+1) hd2 (by simp; omega) (by omega)
          have hwn : wordN (c :: r1) = wordN r1 + 1 := by simp [wordN, hbl, hk2]
          have hwl := wordN_le r1
          have hx : (bs s).extract j (j + wordN (c :: r1)) = bs ((c :: r1).take (wordN (c :: r1))) := bytes_inj (by
            rw [extract_list, bs_list, hd2, bs_list]
            have : j + wordN (c :: r1) - j = wordN (c :: r1) := by omega
            rw [this])
          obtain ⟨H2, lb2, a1, a2, a3, a4⟩ := more ((c :: r1).take (wordN (c :: r1))) (j + wordN (c :: r1)) (by omega) (by omega) hx
          have hgt : ((j : Int) < ((j + wordN (c :: r1) : Nat) : Int)) = True := eq_true (by omega)
          have hr1' : ((j : Int) ≤ ((j + wordN (c :: r1) : Nat) : Int)) = True := eq_true (by omega)
          have hr2' : (((j + wordN (c :: r1) : Nat) : Int) ≤ (s.length : Int)) = True := eq_true (by omega)
          have hd3 : s.drop (j + wordN (c :: r1)) = (c :: r1).drop (wordN (c :: r1)) := by rw [← hd2, List.drop_drop]
          have hdl : ((c :: r1).drop (wordN (c :: r1))).length ≤ r1.length := by rw [List.length_drop, hwn, List.length_cons]; omega
          obtain ⟨H', lb', i1, i2⟩ := ih _ (j + wordN (c :: r1)) m hd3 (by simp at hk hlj; omega) (by simp at hm hlj; omega) (by omega) H2 _ lb2 a2 a3 a4 (by simp; omega)
          rw [List.append_assoc, List.singleton_append] at i1 i2
          refine ⟨H', lb', ?_, i2⟩
          rw [← i1, lp_succ]
          simp -implicitDefEqProofs only [s32_b3, ↓GVdn, GVup, goInt, splice, okC, Fr.of, Fr.ofI, Fr.g, Nat.reduceAdd, Nat.reduceMul, Nat.reduceEqDiff, Nat.reduceLT, Nat.reduceLeDiff, Nat.reduceBEq, Int.reduceLT, Int.reduceLE, Int.reduceToNat, Int.reduceAdd, Int.reduceSub, Int.reduceMul, Int.reduceEq, Int.reduceNeg, ↓reduceIte, ↓reduceDIte, Nat.beq, reduceCtorEq, Value.int.injEq, Nat.reduceSub, sto_ptr, opn_lim, hsz, hlt, b1, hlt2, hi0, h1, h58, b2, hgt, hr1', hr2', hx, rep, List.replicate, List.flatten_cons, List.flatten_nil, srcN, a1]
end Go.Proofs.YtbaooebafijenaaDoor
