/- The instruction that has just this text. -/
import Derived.Test.YtbaooebafijenaaDoorGTxt
import Derived.Test.YtbaooebafijenaaDoorGvBun
namespace Go.Proofs.YtbaooebafijenaaDoor
open Go Go.Ev
set_option maxRecDepth 100000
set_option linter.unusedSimpArgs false
set_option linter.unusedVariables false
set_option maxHeartbeats 2000000
set_option linter.unusedSectionVars false
variable [Mx]
attribute [local congr] bind_front callK_front jn_front ifB_front ifG_front lp_front
theorem flushT_mem (s : ByteArray) (i : Nat) (hi : i ≤ s.size) (l : List ByteArray) (a : Int) (hl : ∀ w ∈ l, w.size ≤ s.size) : ∀ w ∈ flushT s i l a, w.size ≤ s.size := by
  intro w hw
  unfold flushT at hw
  split at hw
  · rw [List.mem_append] at hw
    rcases hw with hw | hw
    · exact hl w hw
    · simp only [List.mem_cons, List.not_mem_nil, or_false] at hw
      subst hw
      rw [ByteArray.size_extract]
      omega
  · exact hl w hw
theorem tkGo_mem (s : ByteArray) : ∀ (r : List UInt8) (i : Nat) (l : List ByteArray) (a : Int), i + r.length ≤ s.size → (∀ w ∈ l, w.size ≤ s.size) → ∀ w ∈ (tkGo s r i l a).1, w.size ≤ s.size
  | [], i, l, a, hi, hl => hl
  | c :: r, i, l, a, hi, hl => by
    simp only [List.length_cons] at hi
    simp only [tkGo]
    split
    · exact tkGo_mem s r (i + 1) _ _ (by omega) (flushT_mem s i (by omega) l a hl)
    · split
      · refine tkGo_mem s r (i + 1) _ _ (by omega) fun w hw => ?_
        rw [List.mem_append] at hw
        rcases hw with hw | hw
        · exact flushT_mem s i (by omega) l a hl w hw
        · simp only [List.mem_cons, List.not_mem_nil, or_false] at hw
          subst hw
          rw [ByteArray.size_extract]
          omega
      · split
        · exact tkGo_mem s r (i + 1) _ _ (by omega) hl
        · exact tkGo_mem s r (i + 1) _ _ (by omega) hl
theorem tokens_size (s : ByteArray) : ∀ w ∈ tokensV s, w.size ≤ s.size := by
  unfold tokensV
  exact flushT_mem s s.size (Nat.le_refl _) _ _ (tkGo_mem s s.data.toList 0 [] (-1) (by rw [Lib.size_eq]; omega) (fun w hw => by cases hw))
/-- the instruction that has just this text -/
def parI (s : ByteArray) : Ins := (insV (tokensV s)).1
def parP (p : Ins × ByteArray × Bool) (s : ByteArray) : Prop := ((p.2.2 = true ∧ p.2.1 = emp) ∧ chkV p.1.op p.1.A p.1.B p.1.C p.1.I = 0) ∧ textV p.1 = s
instance (p : Ins × ByteArray × Bool) (s : ByteArray) : Decidable (parP p s) := by unfold parP; infer_instance
def parF (p : Ins × ByteArray × Bool) (s : ByteArray) : Value := if parP p s then .tuple #[p.1.val, .int .i64 0] else .tuple #[zer.val, .int .i64 3]
def parR (s : ByteArray) : Value := parF (insV (tokensV s)) s
theorem flat_parR (s : ByteArray) : flat (parR s) = true := by unfold parR parF; split <;> rfl
/-- no words -/
theorem v30n (n : Nat) (H : Hp) : evCall cfc (n+81) 30 [.slice none 0 0] H = some (.ret (insR (insV [])), H) := by
  rw [evCall_quiet (fn := Tryd.f30) (by rfl) (by rfl) Tryd.func30 (by rfl) (by rfl)]
  refine (congrArg (movR [] H) (s30_eq _ _ _ _)).trans ?_
  simp -implicitDefEqProofs only [s30, ↓GVdn, GVup, goInt, splice, okC, Fr.of, Fr.ofI, Fr.g, Nat.reduceAdd, Nat.reduceMul, Nat.reduceEqDiff, Nat.reduceLT, Nat.reduceLeDiff, Nat.reduceBEq, Int.reduceLT, Int.reduceLE, Int.reduceToNat, Int.reduceAdd, Int.reduceSub, Int.reduceMul, Int.reduceEq, Int.reduceNeg, ↓reduceIte, ↓reduceDIte, Nat.beq, reduceCtorEq, Value.int.injEq, Nat.reduceSub, sto_ptr, lp_succ, opn_lim, tabs_gn, insV, insR, Ins.val, Ins.cells, zer, emp]
  rfl
theorem q10 (n : Nat) (x0 : Value) (hx0 : flat x0 = true) (H : Hp) : evCall cfc (n+1) 10 [x0] H = movR [] H (s10 (evCall cfc n) n x0 Hp.fl) := by
  rw [evCall_quiet (fn := Tryd.f10) (by rfl) (by rfl) Tryd.func10 (by rfl) (by simp [hx0])]
  exact congrArg (movR [] H) (s10_eq _ _ _ _)
theorem v10_rest (n : Nat) (s : ByteArray) (H0 : Hp) (n0 : H0.next = 10) (l0 : H0.lim = 10) (h30 : ∃ sv H2, (∃ cs, H2 = (H0.new (.rw zer.cells)) ∨ H2 = (H0.new (.rw zer.cells)).new (.rw cs)) ∧ evCall cfc (n+89) 31 [.string s] (H0.new (.rw zer.cells)) = some (.ret sv, H2) ∧ evCall cfc (n+89) 30 [sv] H2 = some (.ret (insR (insV (tokensV s))), H2)) :
    (s10 (evCall cfc (n+89)) (n+89) (.string s) H0).map Prod.fst = some (.ret (parR s)) := by
  obtain ⟨sv, H2, hH2, h31, h30⟩ := h30
  have h8 := fun i H => v8 (n+79) H i
  unfold parR
  generalize insV (tokensV s) = p at h30 ⊢
  obtain ⟨i, tl, ok⟩ := p
  unfold parF parP
  simp only at h30 ⊢
  have h8i := fun H => h8 i H
  simp only [Ins.val, Ins.cells, zer] at h31 h30 h8i ⊢
  have hx : ∀ cs, ∃ H3, H3 = H2.new (.rw cs) := fun cs => ⟨_, rfl⟩
  have n2 : 11 ≤ H2.next ∧ H2.lim = 10 ∧ H2.rwc 10 = some zer.cells := by
    obtain ⟨cs, h | h⟩ := hH2
    · subst h; exact ⟨by rw [Hp.next_new, n0]; decide, l0, by rw [rwc_new, n0]; rfl⟩
    · subst h; exact ⟨by rw [Hp.next_new, Hp.next_new, n0]; decide, l0, by rw [rwc_new, Hp.next_new, n0, if_neg (by decide), rwc_new, n0]; rfl⟩
  obtain ⟨n2, l2, r2⟩ := n2
  simp only [Ins.cells, zer] at r2
  have e1 : (10 = H2.next) = False := eq_false (by omega)
  have e2 : (H2.next = 10) = False := eq_false (by omega)
  have e3 : (10 ≤ H2.next) = True := eq_true (by omega)
  have e4 : (10 ≤ 10) = True := eq_true (by omega)
  have hte : ∃ x e, textR i = .tuple #[.string x, .int .i64 e] := by unfold textR; split <;> exact ⟨_, _, rfl⟩
  cases ok with
  | false =>
    obtain ⟨x, e, hte⟩ := hte
    simp -implicitDefEqProofs only [s10, ↓GVdn, GVup, goInt, splice, okC, Fr.of, Fr.ofI, Fr.g, Nat.reduceAdd, Nat.reduceMul, Nat.reduceEqDiff, Nat.reduceLT, Nat.reduceLeDiff, Nat.reduceBEq, Int.reduceLT, Int.reduceLE, Int.reduceToNat, Int.reduceAdd, Int.reduceSub, Int.reduceMul, Int.reduceEq, Int.reduceNeg, ↓reduceIte, ↓reduceDIte, Nat.beq, reduceCtorEq, Value.int.injEq, Nat.reduceSub, sto_ptr, lp_succ, opn_lim, n0, l0, l2, r2, e1, e2, e3, e4, h31, h30, insR, Ins.val, Ins.cells, h8i, hte, Option.map_some, Bool.false_eq_true, false_and, if_false]
  | true =>
    by_cases ht : tl = emp
    · subst ht
      by_cases hk : chkV i.op i.A i.B i.C i.I = 0
      · by_cases hs : textV i = s
        · simp -implicitDefEqProofs only [s10, ↓GVdn, GVup, goInt, splice, okC, Fr.of, Fr.ofI, Fr.g, Nat.reduceAdd, Nat.reduceMul, Nat.reduceEqDiff, Nat.reduceLT, Nat.reduceLeDiff, Nat.reduceBEq, Int.reduceLT, Int.reduceLE, Int.reduceToNat, Int.reduceAdd, Int.reduceSub, Int.reduceMul, Int.reduceEq, Int.reduceNeg, ↓reduceIte, ↓reduceDIte, Nat.beq, reduceCtorEq, Value.int.injEq, Nat.reduceSub, sto_ptr, lp_succ, opn_lim, n0, l0, l2, r2, e1, e2, e3, e4, h31, h30, insR, Ins.val, Ins.cells, h8i, textR, emp, hk, hs, Option.map_some, true_and, and_true, if_true]
        · simp -implicitDefEqProofs only [s10, ↓GVdn, GVup, goInt, splice, okC, Fr.of, Fr.ofI, Fr.g, Nat.reduceAdd, Nat.reduceMul, Nat.reduceEqDiff, Nat.reduceLT, Nat.reduceLeDiff, Nat.reduceBEq, Int.reduceLT, Int.reduceLE, Int.reduceToNat, Int.reduceAdd, Int.reduceSub, Int.reduceMul, Int.reduceEq, Int.reduceNeg, ↓reduceIte, ↓reduceDIte, Nat.beq, reduceCtorEq, Value.int.injEq, Nat.reduceSub, sto_ptr, lp_succ, opn_lim, n0, l0, l2, r2, e1, e2, e3, e4, h31, h30, insR, Ins.val, Ins.cells, h8i, textR, emp, hk, hs, Option.map_some, true_and, and_false, if_false]
      · simp -implicitDefEqProofs only [s10, ↓GVdn, GVup, goInt, splice, okC, Fr.of, Fr.ofI, Fr.g, Nat.reduceAdd, Nat.reduceMul, Nat.reduceEqDiff, Nat.reduceLT, Nat.reduceLeDiff, Nat.reduceBEq, Int.reduceLT, Int.reduceLE, Int.reduceToNat, Int.reduceAdd, Int.reduceSub, Int.reduceMul, Int.reduceEq, Int.reduceNeg, ↓reduceIte, ↓reduceDIte, Nat.beq, reduceCtorEq, Value.int.injEq, Nat.reduceSub, sto_ptr, lp_succ, opn_lim, n0, l0, l2, r2, e1, e2, e3, e4, h31, h30, insR, Ins.val, Ins.cells, h8i, textR, emp, hk, Option.map_some, true_and, and_false, false_and, if_false]
    · have ht' : (tl = ⟨#[]⟩) = False := eq_false ht
      have ht2 : (tl = emp) = False := eq_false ht
      obtain ⟨x, e, hte⟩ := hte
      simp -implicitDefEqProofs only [s10, ↓GVdn, GVup, goInt, splice, okC, Fr.of, Fr.ofI, Fr.g, Nat.reduceAdd, Nat.reduceMul, Nat.reduceEqDiff, Nat.reduceLT, Nat.reduceLeDiff, Nat.reduceBEq, Int.reduceLT, Int.reduceLE, Int.reduceToNat, Int.reduceAdd, Int.reduceSub, Int.reduceMul, Int.reduceEq, Int.reduceNeg, ↓reduceIte, ↓reduceDIte, Nat.beq, reduceCtorEq, Value.int.injEq, Nat.reduceSub, sto_ptr, lp_succ, opn_lim, n0, l0, l2, r2, e1, e2, e3, e4, h31, h30, insR, Ins.val, Ins.cells, h8i, hte, ht', ht2, Option.map_some, true_and, and_false, false_and, if_false]
theorem v10 (n : Nat) (H : Hp) (s : ByteArray) (hs : s.size ≤ 1073741824) (hn : s.size < n) : evCall cfc (n+90) 10 [.string s] H = some (.ret (parR s), H) := by
  rw [q10 (n+89) _ rfl H]
  suffices hx : (s10 (evCall cfc (n+89)) (n+89) (.string s) Hp.fl).map Prod.fst = some (.ret (parR s)) by
    obtain ⟨⟨v, H'⟩, h, h2⟩ := Option.map_eq_some_iff.1 hx
    rw [h]
    simp only at h2
    rw [h2]
    exact movR_flat (flat_parR s)
  refine v10_rest n s Hp.fl rfl rfl ?_
  have h31 := v31 (n+87) s hs (by omega) (Hp.fl.new (.rw zer.cells))
  unfold lstR at h31
  by_cases he : tokensV s = []
  · rw [if_pos he] at h31
    refine ⟨_, _, ⟨[], .inl rfl⟩, h31, ?_⟩
    rw [he]
    exact v30n (n+8) _
  · rw [if_neg he] at h31
    refine ⟨_, _, ⟨_, .inr rfl⟩, h31, ?_⟩
    exact v30 (n+8) _ (b := (Hp.fl.new (.rw zer.cells)).next) (o := 0) (CL := (tokensV s).map Value.string) (by rw [cells_new, if_pos (by rfl)]) (by rw [List.drop_zero, List.take_of_length_le (by simp)]) (by simp) (fun w hw => by
      have := tokens_size s w hw
      exact ⟨by omega, by omega⟩)
end Go.Proofs.YtbaooebafijenaaDoor
