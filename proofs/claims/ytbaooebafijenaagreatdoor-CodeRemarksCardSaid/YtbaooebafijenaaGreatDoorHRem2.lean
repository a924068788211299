/- Remarks change no word: the law answers true. -/
import Derived.Test.YtbaooebafijenaaGreatDoorHRem
import Derived.Test.YtbaooebafijenaaGreatDoorHvBun
namespace Go.Proofs.YtbaooebafijenaaGreatDoor
open Go Go.Ev
set_option maxRecDepth 100000
set_option linter.unusedSimpArgs false
set_option linter.unusedVariables false
set_option maxHeartbeats 4000000
set_option linter.unusedSectionVars false
variable [Mx]
attribute [local congr] bind_front callK_front jn_front ifB_front ifG_front lp_front
theorem rem_nat (z : Int) (k : Nat) (hk : 0 < k) (hk2 : k ≤ 1000000) : ∃ j : Nat, (IntKind.wrap .u64 z).tmod (k : Int) = (j : Int) ∧ IntKind.wrap .i64 (j : Int) = (j : Int) ∧ j < k := by
  have h : 0 ≤ IntKind.wrap .u64 z := by simp only [IntKind.wrap]; exact Int.emod_nonneg _ (by decide)
  have h1 := Int.tmod_nonneg (k : Int) h
  have h2 := Int.tmod_lt_of_pos (IntKind.wrap .u64 z) (show (0 : Int) < (k : Int) by omega)
  exact ⟨((IntKind.wrap .u64 z).tmod (k : Int)).toNat, by omega, by rw [IntWalk.i64_in _ (by omega)], by omega⟩
theorem oneV_words {a b : Asm} {T : List ByteArray} (h : oneV a T = .ok b) : b.words.length ≤ 65536 := by
  unfold oneV at h
  split at h
  · cases h
  · split at h
    · cases h
    · split at h
      · cases h
      · cases h
        simp only [List.length_append]
        omega
theorem asmL_words : ∀ (l : List Bs) (a : Asm) (k : Nat) (b : Asm), asmL a k l = .ok b → a.words.length ≤ 65536 → b.words.length ≤ 65536
  | [], a, k, b, h, ha => by simp only [asmL] at h; cases h; exact ha
  | x :: l, a, k, b, h, ha => by
    simp only [asmL] at h
    split at h
    · cases h
    · rename_i c hc
      exact asmL_words l c (k + 1) b h (oneV_words hc)
theorem resGo_words : ∀ (l : List Want) (a b : Asm), resGo a l = .ok b → b.words.length = a.words.length
  | [], a, b, h => by simp only [resGo] at h; cases h; rfl
  | w :: l, a, b, h => by
    simp only [resGo] at h
    split at h
    · cases h
    · rename_i c hc
      rw [resGo_words l c b h]
      exact (resV_ok hc).2.1
theorem asmV_words (l : Bs) (h : l.length ≤ 1048576) (ws : List Int) (he : asmV (bs l) = .ok ws) : ws.length ≤ 65536 := by
  rw [asmV_L l h] at he
  cases hg : asmL asm0 0 (lin l []) with
  | error q => rw [hg] at he; cases he
  | ok b =>
    rw [hg] at he
    simp only [asmF] at he
    split at he
    · cases he
    · rename_i c hc
      cases he
      rw [resGo_words _ _ _ hc]
      exact asmL_words _ _ _ _ hg (by decide)
theorem v5b (n : Nat) (l : Bs) (h : l.length ≤ 10000) (H : Hp) : evCall cfc (n+70000) 5 [.string (bs l)] H = asmR (asmV (bs l)) H :=
  v5 (n+69915) (bs l) H (fun _ => by have := count_le (bs l); rw [Lib.size_eq, bs_list] at this ⊢; omega) (by omega)
theorem bin_neqn (t : TypeId) (v : Value) : bin 5 .neq (.iface t v) .nilIface = some (.bool true) := rfl
theorem bin_neq0 : bin 5 .neq .nilIface .nilIface = some (.bool false) := rfl
theorem s4_ok (n : Nat) (text note : Bs) (z : Int) : ∃ H', s4 (evCall cfc (n+70000)) (n+70000) (.string (bs text)) (.string (bs note)) (.int .i64 z) Hp.fl = some (.ret (.bool true), H') := by
  generalize hH0 : Hp.fl = H0
  have n0 : H0.next = 11 := by subst hH0; rfl
  have l0 : H0.lim = 11 := by subst hH0; rfl
  have h9 := fun H => v9 (n+69699) H
  have st : (bs text).size = text.length := by rw [Lib.size_eq, bs_list]
  have sn : (bs note).size = note.length := by rw [Lib.size_eq, bs_list]
  obtain ⟨L, r1, r2, r3⟩ := rem_nat z 20 (by decide) (by decide)
  have r1 : (IntKind.wrap .u64 z).tmod 20 = (L : Int) := r1
  by_cases ht : 5000 < text.length
  · have ht' : (5000 < (text.length : Int)) = True := eq_true (by omega)
    exact ⟨_, by simp -implicitDefEqProofs only [s4, ↓GVdn, GVup, goInt, splice, okC, Fr.of, Fr.ofI, Fr.g, Nat.reduceAdd, Nat.reduceMul, Nat.reduceEqDiff, Nat.reduceLT, Nat.reduceLeDiff, Nat.reduceBEq, Int.reduceLT, Int.reduceLE, Int.reduceToNat, Int.reduceAdd, Int.reduceSub, Int.reduceMul, Int.reduceEq, Int.reduceNeg, ↓reduceIte, ↓reduceDIte, Nat.beq, reduceCtorEq, Value.int.injEq, Nat.reduceSub, opn_lim, h9, st, sn, ht']; rfl⟩
  have ht' : (5000 < (text.length : Int)) = False := eq_false (by omega)
  by_cases hn : 200 < note.length
  · have hn' : (200 < (note.length : Int)) = True := eq_true (by omega)
    exact ⟨_, by simp -implicitDefEqProofs only [s4, ↓GVdn, GVup, goInt, splice, okC, Fr.of, Fr.ofI, Fr.g, Nat.reduceAdd, Nat.reduceMul, Nat.reduceEqDiff, Nat.reduceLT, Nat.reduceLeDiff, Nat.reduceBEq, Int.reduceLT, Int.reduceLE, Int.reduceToNat, Int.reduceAdd, Int.reduceSub, Int.reduceMul, Int.reduceEq, Int.reduceNeg, ↓reduceIte, ↓reduceDIte, Nat.beq, reduceCtorEq, Value.int.injEq, Nat.reduceSub, opn_lim, h9, st, sn, ht', hn']; rfl⟩
  have hn' : (200 < (note.length : Int)) = False := eq_false (by omega)
  have l1 := fun L H kx kr => rem_l1 (evCall cfc (n+70000)) (n+70000) (.string (bs text)) L note (by omega) H kx kr note.length 0 (n+70000) (by omega) (by omega)
  simp only [List.drop_zero] at l1
  have l1 : ∀ L H kx kr, lp (s4_b1 (evCall cfc (n+70000)) (n+70000)) (n+70000) [.string (bs text), .string (bs note), L, .int .i64 0] H kx kr = _ := l1
  by_cases h10 : 10 ∈ note
  · simp only [if_pos h10] at l1
    exact ⟨_, by simp -implicitDefEqProofs only [s4, ↓GVdn, GVup, goInt, splice, okC, Fr.of, Fr.ofI, Fr.g, Nat.reduceAdd, Nat.reduceMul, Nat.reduceEqDiff, Nat.reduceLT, Nat.reduceLeDiff, Nat.reduceBEq, Int.reduceLT, Int.reduceLE, Int.reduceToNat, Int.reduceAdd, Int.reduceSub, Int.reduceMul, Int.reduceEq, Int.reduceNeg, ↓reduceIte, ↓reduceDIte, Nat.beq, reduceCtorEq, Value.int.injEq, Nat.reduceSub, opn_lim, h9, st, sn, ht', hn', r1, r2, l1]; rfl⟩
  simp only [if_neg h10] at l1
  have l2 := fun H kx kr => rem_l2 (evCall cfc (n+70000)) (n+70000) (.string (bs text)) note (by omega) L r3 H kx kr L 0 (n+70000) (by omega) (by omega)
  have l2 : ∀ H kx kr, lp (s4_b2 (evCall cfc (n+70000)) (n+70000)) (n+70000) [.string (bs text), .string (bs note), .int .i64 L, .string ⟨#[]⟩, .int .i64 0] H kx kr = _ := l2
  have hrl : (remL note L).length ≤ 4040 := by
    rw [remL_len]
    have : L * (note.length + 2) ≤ 20 * 202 := Nat.mul_le_mul (by omega) (by omega)
    omega
  have hb : bin 0 .add (.string (bs (remL note L))) (.string (bs text)) = some (.string (bs (remL note L ++ text))) := bin_bs 0 _ _ (by omega)
  have e1 := fun H => v5b n text (by omega) H
  have e2 := fun H => v5b n (remL note L ++ text) (by rw [List.length_append]; omega) H
  have hlaw := rem_law note text L h10 (by rw [List.length_append]; omega)
  rw [hlaw] at e2
  cases ha : asmV (bs text) with
  | error q =>
    obtain ⟨p, e⟩ := q
    rw [ha] at e1 e2
    obtain ⟨hp0, hp1, he⟩ := asmV_err text (by omega) p e ha
    simp only [asmR, shE] at e1 e2
    generalize hH2 : (H0.new (.rw [.int .i64 p, .iface 27 (.int .i64 e)])).new (.rw [.int .i64 (p + L), .iface 27 (.int .i64 e)]) = H2
    have n2 : H2.next = 13 := by subst hH2; show H0.next + 1 + 1 = 13; omega
    have lm2 : H2.lim = 11 := by subst hH2; exact l0
    have c1 : H2.rwc 11 = some [.int .i64 p, .iface 27 (.int .i64 e)] := by subst hH2; rw [rwc_new, if_neg (by show ¬ 11 = H0.next + 1; omega), rwc_new, if_pos n0.symm]
    have c2 : H2.rwc 12 = some [.int .i64 (p + L), .iface 27 (.int .i64 e)] := by subst hH2; rw [rwc_new, if_pos (by show 12 = H0.next + 1; omega)]
    obtain ⟨H3, f3, k31, k32, k33⟩ := v7_err (n+69998) H2 11 p e he c1 (by omega) (by omega)
    have s1 : Go.Ev.st 2 (ptr H3.next 0) (.agg #[.int .i64 p, .int .i64 e]) (H3.new (.rw [.int .i64 0, .int .i64 0])) = some ((H3.new (.rw [.int .i64 0, .int .i64 0])).set H3.next (.rw [.int .i64 p, .int .i64 e])) :=
      st_rwc (cs := [.int .i64 0, .int .i64 0]) (o := 0) (n := 2) (vs := [.int .i64 p, .int .i64 e]) (by rw [rwc_new, if_pos rfl]) (by show H3.lim ≤ H3.next; omega) rfl rfl (by simp) rfl
    generalize hH4 : (H3.new (.rw [.int .i64 0, .int .i64 0])).set H3.next (.rw [.int .i64 p, .int .i64 e]) = H4 at s1
    have n4 : H4.next = H3.next + 1 := by subst hH4; rfl
    have lm4 : H4.lim = 11 := by subst hH4; show H3.lim = 11; omega
    have g4 : ∀ b, b ≠ H3.next → H4.get b = H3.get b := fun b hb => by subst hH4; rw [Hp.get_set, if_neg hb, Hp.get_new, if_neg hb]
    have c4 : H4.get H3.next = some (.rw [.int .i64 p, .int .i64 e]) := by subst hH4; rw [Hp.get_set, if_pos rfl]
    have c42 : H4.rwc 12 = some [.int .i64 (p + L), .iface 27 (.int .i64 e)] := by
      unfold Hp.rwc
      rw [g4 12 (by omega), k33 12 (by omega)]
      exact c2
    obtain ⟨H5, f5, k51, k52, k53⟩ := v7_err (n+69998) H4 12 (p + L) e he c42 (by omega) (by omega)
    have s2 : Go.Ev.st 2 (ptr H5.next 0) (.agg #[.int .i64 (p + L), .int .i64 e]) (H5.new (.rw [.int .i64 0, .int .i64 0])) = some ((H5.new (.rw [.int .i64 0, .int .i64 0])).set H5.next (.rw [.int .i64 (p + L), .int .i64 e])) :=
      st_rwc (cs := [.int .i64 0, .int .i64 0]) (o := 0) (n := 2) (vs := [.int .i64 (p + L), .int .i64 e]) (by rw [rwc_new, if_pos rfl]) (by show H5.lim ≤ H5.next; omega) rfl rfl (by simp) rfl
    generalize hH6 : (H5.new (.rw [.int .i64 0, .int .i64 0])).set H5.next (.rw [.int .i64 (p + L), .int .i64 e]) = H6 at s2
    have g6 : ∀ b, b ≠ H5.next → H6.get b = H5.get b := fun b hb => by subst hH6; rw [Hp.get_set, if_neg hb, Hp.get_new, if_neg hb]
    have c61 : H6.cells H3.next = some [.int .i64 p, .int .i64 e] := cells_get (by rw [g6 _ (by omega), k53 _ (by omega)]; exact c4)
    have c62 : H6.cells H5.next = some [.int .i64 (p + L), .int .i64 e] := by subst hH6; rw [cells_set, if_pos rfl]
    have hw : IntKind.wrap .i64 (p + L) = p + L := IntWalk.i64_in _ (by omega)
    have f3' : evCall cfc (n+70000) 7 [.iface 39 (ptr 11 0)] H2 = _ := f3
    have f5' : evCall cfc (n+70000) 7 [.iface 39 (ptr 12 0)] H4 = _ := f5
    have n1 : (H0.new (.rw [.int .i64 p, .iface 27 (.int .i64 e)])).next = 12 := by show H0.next + 1 = 12; omega
    exact ⟨_, by simp -implicitDefEqProofs only [s4, ↓GVdn, GVup, goInt, splice, okC, Fr.of, Fr.ofI, Fr.g, Nat.reduceAdd, Nat.reduceMul, Nat.reduceEqDiff, Nat.reduceLT, Nat.reduceLeDiff, Nat.reduceBEq, Int.reduceLT, Int.reduceLE, Int.reduceToNat, Int.reduceAdd, Int.reduceSub, Int.reduceMul, Int.reduceEq, Int.reduceNeg, ↓reduceIte, ↓reduceDIte, Nat.beq, reduceCtorEq, Value.int.injEq, Nat.reduceSub, opn_lim, h9, st, sn, ht', hn', r1, r2, l1, l2, hb, e1, e2, n0, n1, hH2, f3', s1, f5', s2, bin_ic, bin_neqn, c61, c62, hw]; rfl⟩
  | ok ws =>
    rw [ha] at e1 e2
    have hwl := asmV_words text (by omega) ws ha
    simp only [asmR, shE] at e1 e2
    by_cases hw0 : ws = []
    · simp only [if_pos hw0] at e1 e2
      obtain ⟨H3, f3, k31, k32, k33⟩ := v7_nil (n+69998) H0 (by omega)
      have s1 : Go.Ev.st 2 (ptr H3.next 0) (.agg #[.int .i64 0, .int .i64 0]) (H3.new (.rw [.int .i64 0, .int .i64 0])) = some ((H3.new (.rw [.int .i64 0, .int .i64 0])).set H3.next (.rw [.int .i64 0, .int .i64 0])) :=
        st_rwc (cs := [.int .i64 0, .int .i64 0]) (o := 0) (n := 2) (vs := [.int .i64 0, .int .i64 0]) (by rw [rwc_new, if_pos rfl]) (by show H3.lim ≤ H3.next; omega) rfl rfl (by simp) rfl
      generalize hH4 : (H3.new (.rw [.int .i64 0, .int .i64 0])).set H3.next (.rw [.int .i64 0, .int .i64 0]) = H4 at s1
      have lm4 : H4.lim ≤ H4.next := by subst hH4; show H3.lim ≤ H3.next + 1; omega
      obtain ⟨H5, f5, k51, k52, k53⟩ := v7_nil (n+69998) H4 lm4
      have s2 : Go.Ev.st 2 (ptr H5.next 0) (.agg #[.int .i64 0, .int .i64 0]) (H5.new (.rw [.int .i64 0, .int .i64 0])) = some ((H5.new (.rw [.int .i64 0, .int .i64 0])).set H5.next (.rw [.int .i64 0, .int .i64 0])) :=
        st_rwc (cs := [.int .i64 0, .int .i64 0]) (o := 0) (n := 2) (vs := [.int .i64 0, .int .i64 0]) (by rw [rwc_new, if_pos rfl]) (by show H5.lim ≤ H5.next; omega) rfl rfl (by simp) rfl
      have f3' : evCall cfc (n+70000) 7 [.nilIface] H0 = _ := f3
      have f5' : evCall cfc (n+70000) 7 [.nilIface] H4 = _ := f5
      have h8 := fun H => v17_nil (n+69998) H
      exact ⟨_, by simp -implicitDefEqProofs only [s4, ↓GVdn, GVup, goInt, splice, okC, Fr.of, Fr.ofI, Fr.g, Nat.reduceAdd, Nat.reduceMul, Nat.reduceEqDiff, Nat.reduceLT, Nat.reduceLeDiff, Nat.reduceBEq, Int.reduceLT, Int.reduceLE, Int.reduceToNat, Int.reduceAdd, Int.reduceSub, Int.reduceMul, Int.reduceEq, Int.reduceNeg, ↓reduceIte, ↓reduceDIte, Nat.beq, reduceCtorEq, Value.int.injEq, Nat.reduceSub, opn_lim, h9, st, sn, ht', hn', r1, r2, l1, l2, hb, e1, e2, f3', s1, f5', s2, bin_in, bin_neq0, h8]; rfl⟩
    · simp only [if_neg hw0] at e1 e2
      generalize hH2 : (H0.new (.rw (wvs ws))).new (.rw (wvs ws)) = H2
      have n2 : H2.next = 13 := by subst hH2; show H0.next + 1 + 1 = 13; omega
      have lm2 : H2.lim = 11 := by subst hH2; exact l0
      have c1 : H2.get 11 = some (.rw (wvs ws)) := by subst hH2; rw [Hp.get_new, if_neg (by show ¬ 11 = H0.next + 1; omega), Hp.get_new, if_pos n0.symm]
      have c2 : H2.get 12 = some (.rw (wvs ws)) := by subst hH2; rw [Hp.get_new, if_pos (by show 12 = H0.next + 1; omega)]
      obtain ⟨H3, f3, k31, k32, k33⟩ := v7_nil (n+69998) H2 (by omega)
      have s1 : Go.Ev.st 2 (ptr H3.next 0) (.agg #[.int .i64 0, .int .i64 0]) (H3.new (.rw [.int .i64 0, .int .i64 0])) = some ((H3.new (.rw [.int .i64 0, .int .i64 0])).set H3.next (.rw [.int .i64 0, .int .i64 0])) :=
        st_rwc (cs := [.int .i64 0, .int .i64 0]) (o := 0) (n := 2) (vs := [.int .i64 0, .int .i64 0]) (by rw [rwc_new, if_pos rfl]) (by show H3.lim ≤ H3.next; omega) rfl rfl (by simp) rfl
      generalize hH4 : (H3.new (.rw [.int .i64 0, .int .i64 0])).set H3.next (.rw [.int .i64 0, .int .i64 0]) = H4 at s1
      have n4 : H4.next = H3.next + 1 := by subst hH4; rfl
      have lm4 : H4.lim = 11 := by subst hH4; show H3.lim = 11; omega
      have g4 : ∀ b, b < 13 → H4.get b = H2.get b := fun b hb => by subst hH4; rw [Hp.get_set, if_neg (by omega), Hp.get_new, if_neg (by omega), k33 b (by omega)]
      obtain ⟨H5, f5, k51, k52, k53⟩ := v7_nil (n+69998) H4 (by omega)
      have s2 : Go.Ev.st 2 (ptr H5.next 0) (.agg #[.int .i64 0, .int .i64 0]) (H5.new (.rw [.int .i64 0, .int .i64 0])) = some ((H5.new (.rw [.int .i64 0, .int .i64 0])).set H5.next (.rw [.int .i64 0, .int .i64 0])) :=
        st_rwc (cs := [.int .i64 0, .int .i64 0]) (o := 0) (n := 2) (vs := [.int .i64 0, .int .i64 0]) (by rw [rwc_new, if_pos rfl]) (by show H5.lim ≤ H5.next; omega) rfl rfl (by simp) rfl
      generalize hH6 : (H5.new (.rw [.int .i64 0, .int .i64 0])).set H5.next (.rw [.int .i64 0, .int .i64 0]) = H6 at s2
      have g6 : ∀ b, b < 13 → H6.get b = H2.get b := fun b hb => by subst hH6; rw [Hp.get_set, if_neg (by omega), Hp.get_new, if_neg (by omega), k53 b (by omega), g4 b hb]
      have h8 := v8 (n+69999) H6 ws (b := 11) (c := 12) (cells_get (by rw [g6 11 (by decide)]; exact c1)) (cells_get (by rw [g6 12 (by decide)]; exact c2)) (by omega) (by omega)
      have f3' : evCall cfc (n+70000) 7 [.nilIface] H2 = _ := f3
      have f5' : evCall cfc (n+70000) 7 [.nilIface] H4 = _ := f5
      have h8' : evCall cfc (n+70000) 8 [.slice (some ⟨11, 0, none⟩) ws.length 1, .slice (some ⟨12, 0, none⟩) ws.length 1] H6 = _ := h8
      have n1 : (H0.new (.rw (wvs ws))).next = 12 := by show H0.next + 1 = 12; omega
      exact ⟨_, by simp -implicitDefEqProofs only [s4, ↓GVdn, GVup, goInt, splice, okC, Fr.of, Fr.ofI, Fr.g, Nat.reduceAdd, Nat.reduceMul, Nat.reduceEqDiff, Nat.reduceLT, Nat.reduceLeDiff, Nat.reduceBEq, Int.reduceLT, Int.reduceLE, Int.reduceToNat, Int.reduceAdd, Int.reduceSub, Int.reduceMul, Int.reduceEq, Int.reduceNeg, ↓reduceIte, ↓reduceDIte, Nat.beq, reduceCtorEq, Value.int.injEq, Nat.reduceSub, opn_lim, h9, st, sn, ht', hn', r1, r2, l1, l2, hb, e1, e2, n0, n1, hH2, f3', s1, f5', s2, bin_in, bin_neq0, h8']; rfl⟩
end Go.Proofs.YtbaooebafijenaaGreatDoor
