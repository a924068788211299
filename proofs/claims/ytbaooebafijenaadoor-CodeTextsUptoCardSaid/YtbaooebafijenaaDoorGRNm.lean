/- The document's words, numbers, labels, registers, names. -/
import Derived.Test.YtbaooebafijenaaDoorGRTk
import Derived.Test.YtbaooebafijenaaDoorGvBun
namespace Go.Proofs.YtbaooebafijenaaDoor
open Go Go.Ev
set_option maxRecDepth 100000
set_option linter.unusedSimpArgs false
set_option linter.unusedVariables false
set_option maxHeartbeats 4000000
set_option linter.unusedSectionVars false
variable [Mx]
attribute [local congr] bind_front callK_front jn_front ifB_front ifG_front lp_front
/-! ### Words -/
def tokR (l : List (Bs × Bool)) (H : Hp) : R := if l = [] then some (.ret (.slice none 0 0), H) else some (.ret (.slice (some ⟨H.next, 0, none⟩) l.length 2), H.new (.rw (tkc l)))
theorem tkc_flat (l : List (Bs × Bool)) : (tkc l).all flat = true := by
  induction l with
  | nil => rfl
  | cons p l ih => show (flat (.string (bs p.1)) && (flat (.bool p.2) && (tkc l).all flat)) = true; rw [ih]; rfl
theorem q32 (n : Nat) (x0 : Value) (hx0 : flat x0 = true) (H : Hp) : evCall cfc (n+1) 32 [x0] H = movR [] H (s32 (evCall cfc n) n x0 Hp.fl) := by
  rw [evCall_quiet (fn := Tryd.f32) (by rfl) (by rfl) Tryd.func32 (by rfl) (by simp [hx0])]
  exact congrArg (movR [] H) (s32_eq _ _ _ _)
theorem v32 (n : Nat) (s : Bs) (hs : s.length ≤ 536870912) (hn : s.length < n) (H : Hp) : evCall cfc (n+2) 32 [.string (bs s)] H = tokR (rtk (s.length + 1) s) H := by
  rw [q32 (n+1) _ rfl H]
  obtain ⟨H', lb', h1, h2⟩ := rt_main n s hs hn (fun j51 f52 H53 => if j51 = 0 then some (.ret (f52.g 3), H53) else none) noR (s.length + 1) s 0 (n+1) rfl (by omega) (by omega) (by omega) Hp.fl [] none rfl rfl (Nat.le_refl 10) (Nat.le_refl 0)
  have hs32 : s32 (evCall cfc (n+1)) (n+1) (.string (bs s)) Hp.fl = some (.ret (svOf lb' (rtk (s.length + 1) s).length 2), H') := by
    unfold s32
    refine h1.trans ?_
    rfl
  rw [hs32]
  simp only [List.nil_append] at h2
  unfold tokR
  cases lb' with
  | none =>
    have h3 : tkc (rtk (s.length + 1) s) = [] := h2
    have h4 : rtk (s.length + 1) s = [] := by
      have := tkc_len (rtk (s.length + 1) s)
      rw [h3, List.length_nil] at this
      exact List.eq_nil_of_length_eq_zero (by omega)
    rw [h4, if_pos rfl]
    exact movR_flat (bl := []) (H := H) (Hs := H') (v := .slice none 0 0) rfl
  | some b =>
    have hne : ¬ rtk (s.length + 1) s = [] := fun e => h2.2.2.2 (by rw [e]; rfl)
    rw [if_neg hne]
    exact movR_row H H' h2.2.1 (rwc_get h2.1) (tkc_flat _) _ _
theorem tk2_skip : ∀ l : Bs, tk2 l [] = tk2 (l.drop (skipB l)) []
  | [] => rfl
  | c :: l => by
    by_cases h : blB c = true
    · have e : skipB (c :: l) = skipB l + 1 := by simp [skipB, h]
      rw [e, List.drop_succ_cons, ← tk2_skip l, tk2, if_pos h]
      rfl
    · have e : skipB (c :: l) = 0 := by simp [skipB, h]
      rw [e]; rfl
theorem tk2_wd : ∀ (l cur : Bs), cur ++ l.take (wordN l) ≠ [] → tk2 l cur = (cur ++ l.take (wordN l)) :: tk2 (l.drop (wordN l)) []
  | [], cur, h => by
    simp only [wordN, List.take_zero, List.append_nil, List.drop_zero] at h ⊢
    simp [tk2, flL, h]
  | c :: l, cur, h => by
    by_cases hb : blB c = true
    · have e : wordN (c :: l) = 0 := by simp [wordN, hb]
      rw [e] at h ⊢
      simp only [List.take_zero, List.append_nil, List.drop_zero] at h ⊢
      simp only [tk2]
      rw [if_pos hb, if_pos hb]
      simp [flL, h]
    · by_cases hk : mkB c = true
      · have e : wordN (c :: l) = 0 := by simp [wordN, hk]
        rw [e] at h ⊢
        simp only [List.take_zero, List.append_nil, List.drop_zero] at h ⊢
        simp only [tk2]
        rw [if_neg hb, if_pos hk, if_neg hb, if_pos hk]
        simp [flL, h]
      · have e : wordN (c :: l) = wordN l + 1 := by simp [wordN, hb, hk]
        rw [e, List.take_succ_cons, List.drop_succ_cons]
        have := tk2_wd l (cur ++ [c]) (by simp)
        have e2 : cur ++ c :: l.take (wordN l) = cur ++ [c] ++ l.take (wordN l) := by simp
        rw [e2, ← this]
        simp only [tk2]
        rw [if_neg hb, if_neg hk]
/-- they are the program's words -/
theorem rtk_fst : ∀ (k : Nat) (l : Bs), l.length < k → (rtk k l).map Prod.fst = tk2 l []
  | 0, l, h => absurd h (by omega)
  | k + 1, l, h => by
    cases l with
    | nil => rfl
    | cons c0 l0 =>
      rw [tk2_skip (c0 :: l0)]
      simp only [rtk]
      have hs := skipB_le (c0 :: l0)
      generalize hg : decide (0 < skipB (c0 :: l0)) = g
      cases hr : (c0 :: l0).drop (skipB (c0 :: l0)) with
      | nil => rfl
      | cons c r =>
        have hbl := skip_drop _ hr
        have hlr : r.length + 1 ≤ (c0 :: l0).length := by
          have := congrArg List.length hr
          simp only [List.length_drop, List.length_cons] at this ⊢
          omega
        dsimp only
        by_cases hk : mkB c = true
        · rw [if_pos hk, List.map_cons, rtk_fst k r (by simp at h hlr; omega)]
          simp only [tk2]
          rw [if_neg (by rw [hbl]; decide), if_pos hk]
          rfl
        · rw [if_neg hk, List.map_cons]
          have hwn : wordN (c :: r) = wordN r + 1 := by simp [wordN, hbl, hk]
          rw [rtk_fst k ((c :: r).drop (wordN (c :: r))) (by rw [List.length_drop, hwn, List.length_cons]; simp at h hlr; omega)]
          have := tk2_wd (c :: r) [] (by rw [hwn, List.take_succ_cons]; simp)
          rw [this]
          rfl
/-! ### Names -/
theorem q33 (n : Nat) (x0 : Value) (hx0 : flat x0 = true) (H : Hp) : evCall cfc (n+1) 33 [x0] H = movR [] H (s33 (evCall cfc n) n x0 Hp.fl) := by
  rw [evCall_quiet (fn := Tryd.f33) (by rfl) (by rfl) Tryd.func33 (by rfl) (by simp [hx0])]
  exact congrArg (movR [] H) (s33_eq _ _ _ _)
theorem names_nm (i : Nat) (h : i < 72) : namesC[i]? = some (.string (nmL.getD i emp)) ∧ (1 ≤ i → nmL.getD i emp ≠ emp) := by
  have := List.all_eq_true.1 (show (List.range 72).all (fun k => (match namesC[k]? with | some (.string s) => decide (s = nmL.getD k emp) | _ => false) && decide (1 ≤ k → nmL.getD k emp ≠ emp)) = true by kernel_rfl) i (List.mem_range.2 h)
  simp only [Bool.and_eq_true, decide_eq_true_eq] at this
  obtain ⟨h1, h2⟩ := this
  refine ⟨?_, h2⟩
  split at h1
  · rename_i s hs
    rw [hs, of_decide_eq_true h1]
  · cases h1
theorem find_loop (C : Cl) (n : Nat) (s : ByteArray) (H : Hp) (c1 : H.cells 1 = some namesC) (kx : Nat → Fr → Hp → Option (Out × Hp)) (kr : Fr → Hp → Option (Out × Hp)) : ∀ (k i m : Nat), i + k = 72 → k < m → 1 ≤ i →
    lp (s33_b1 C n) m [.string s, .int .i64 i] H kx kr = match findN s (nmL.drop i) i with | some j => kr (Fr.of [2] [.int .i64 j]) H | none => kx 0 (Fr.of [2] [dead]) H := by
  intro k
  induction k with
  | zero =>
    intro i m hi hm h1
    obtain ⟨m, rfl⟩ : ∃ q, m = q + 1 := ⟨m - 1, by omega⟩
    have hi : i = 72 := by omega
    subst hi
    have e : nmL.drop 72 = [] := List.drop_eq_nil_of_le (by rw [nmL_len]; decide)
    have hlt : (((72 : Nat) : Int) ≤ 71) = False := by decide
    rw [lp_succ, e]
    simp only [findN]
    simp -implicitDefEqProofs only [s33_b1, ↓GVdn, GVup, goInt, splice, okC, Fr.of, Fr.ofI, Fr.g, Nat.reduceAdd, Nat.reduceMul, Nat.reduceEqDiff, Nat.reduceLT, Nat.reduceLeDiff, Nat.reduceBEq, Int.reduceLT, Int.reduceLE, Int.reduceToNat, Int.reduceAdd, Int.reduceSub, Int.reduceMul, Int.reduceEq, Int.reduceNeg, ↓reduceIte, ↓reduceDIte, Nat.beq, reduceCtorEq, Value.int.injEq, Nat.reduceSub, sto_ptr, hlt]
  | succ k ih =>
    intro i m hi hm h1
    obtain ⟨m, rfl⟩ : ∃ q, m = q + 1 := ⟨m - 1, by omega⟩
    have h72 : i < 72 := by omega
    have hlt : ((i : Int) ≤ 71) = True := eq_true (by omega)
    have hd : nmL.drop i = nmL.getD i emp :: nmL.drop (i + 1) := by
      rw [List.drop_eq_getElem_cons (by rw [nmL_len]; exact h72)]
      simp [List.getD_eq_getElem?_getD, nmL_len, h72]
    have hw : IntKind.wrap .i64 ((i : Int) + 1) = ((i + 1 : Nat) : Int) := by rw [IntWalk.i64_in _ (by omega)]; rfl
    obtain ⟨hn, hne⟩ := names_nm i h72
    have hin : ((0 : Int) ≤ (i : Int)) = True := eq_true (by omega)
    have hin2 : ((i : Int) < 72) = True := eq_true (by omega)
    have ih := ih (i + 1) m (by omega) (by omega) (by omega)
    rw [lp_succ, hd]
    simp only [findN]
    have hne := hne h1
    generalize nmL.getD i emp = x at hn hne ⊢
    by_cases hc : x = s
    · have hc2 : x = s ∧ ¬ s = emp := ⟨hc, fun e => hne (hc.trans e)⟩
      rw [if_pos hc2]
      simp -implicitDefEqProofs only [s33_b1, ↓GVdn, GVup, goInt, splice, okC, Fr.of, Fr.ofI, Fr.g, Nat.reduceAdd, Nat.reduceMul, Nat.reduceEqDiff, Nat.reduceLT, Nat.reduceLeDiff, Nat.reduceBEq, Int.reduceLT, Int.reduceLE, Int.reduceToNat, Int.reduceAdd, Int.reduceSub, Int.reduceMul, Int.reduceEq, Int.reduceNeg, ↓reduceIte, ↓reduceDIte, Nat.beq, reduceCtorEq, Value.int.injEq, Nat.reduceSub, sto_ptr, hlt, hin, hin2, c1, hn, hc]
    · rw [if_neg (fun h => hc h.1)]
      simp -implicitDefEqProofs only [s33_b1, ↓GVdn, GVup, goInt, splice, okC, Fr.of, Fr.ofI, Fr.g, Nat.reduceAdd, Nat.reduceMul, Nat.reduceEqDiff, Nat.reduceLT, Nat.reduceLeDiff, Nat.reduceBEq, Int.reduceLT, Int.reduceLE, Int.reduceToNat, Int.reduceAdd, Int.reduceSub, Int.reduceMul, Int.reduceEq, Int.reduceNeg, ↓reduceIte, ↓reduceDIte, Nat.beq, reduceCtorEq, Value.int.injEq, Nat.reduceSub, sto_ptr, hlt, hin, hin2, c1, hn, hc, hw, ih]
def fndV (s : ByteArray) : Int := if namedV s < 0 then 0 else namedV s
theorem v33 (hnm : (Mx.nm : Option Blk) = some (.ro namesC)) (n : Nat) (hn : 73 < n) (s : ByteArray) (H : Hp) : evCall cfc (n+1) 33 [.string s] H = some (.ret (.int .i64 (fndV s)), H) := by
  rw [q33 n _ rfl H]
  have g1 : (Hp.fl).get 1 = some (.ro namesC) := hnm
  have c1 : (Hp.fl).cells 1 = some namesC := by unfold Hp.cells; rw [g1]
  have hl := fun kx kr => find_loop (evCall cfc n) n s Hp.fl c1 kx kr 71 1 n (by omega) (by omega) (by omega)
  have hl' : ∀ kx kr, lp (s33_b1 (evCall cfc n) n) n [.string s, .int .i64 1] Hp.fl kx kr = _ := hl
  have hf : findN s nmL 0 = findN s (nmL.drop 1) 1 := by
    have e : nmL = emp :: nmL.drop 1 := by kernel_rfl
    rw [e]
    simp only [findN, List.drop_succ_cons, List.drop_zero]
    rw [if_neg (fun h => h.2 h.1.symm)]
  unfold fndV namedV
  rw [hf]
  cases hc : findN s (nmL.drop 1) 1 with
  | none =>
    rw [hc] at hl'
    simp only at hl'
    simp -implicitDefEqProofs only [s33, ↓GVdn, GVup, goInt, splice, okC, Fr.of, Fr.ofI, Fr.g, Nat.reduceAdd, Nat.reduceMul, Nat.reduceEqDiff, Nat.reduceLT, Nat.reduceLeDiff, Nat.reduceBEq, Int.reduceLT, Int.reduceLE, Int.reduceToNat, Int.reduceAdd, Int.reduceSub, Int.reduceMul, Int.reduceEq, Int.reduceNeg, ↓reduceIte, ↓reduceDIte, Nat.beq, reduceCtorEq, Value.int.injEq, Nat.reduceSub, sto_ptr, hl', flat_int]
  | some j =>
    rw [hc] at hl'
    simp only at hl'
    have h0 : ((j : Int) < 0) = False := eq_false (by omega)
    simp -implicitDefEqProofs only [s33, ↓GVdn, GVup, goInt, splice, okC, Fr.of, Fr.ofI, Fr.g, Nat.reduceAdd, Nat.reduceMul, Nat.reduceEqDiff, Nat.reduceLT, Nat.reduceLeDiff, Nat.reduceBEq, Int.reduceLT, Int.reduceLE, Int.reduceToNat, Int.reduceAdd, Int.reduceSub, Int.reduceMul, Int.reduceEq, Int.reduceNeg, ↓reduceIte, ↓reduceDIte, Nat.beq, reduceCtorEq, Value.int.injEq, Nat.reduceSub, sto_ptr, hl', flat_int, h0]
end Go.Proofs.YtbaooebafijenaaDoor
