/- Instructions come back from words and texts: the law CodeBack over the evaluator. -/
import Derived.Test.YtbaooebafijenaaDoorGBw
import Derived.Test.YtbaooebafijenaaDoorGWorks
import Derived.Test.YtbaooebafijenaaDoorGvBun
namespace Go.Proofs.YtbaooebafijenaaDoor
open Go Go.Ev
set_option maxRecDepth 100000
set_option linter.unusedSimpArgs false
set_option linter.unusedVariables false
set_option maxHeartbeats 2000000
set_option linter.unusedSectionVars false
variable [Mx]
attribute [local congr] bind_front callK_front jn_front ifB_front ifG_front lp_front
theorem q15 (n : Nat) (x0 : Value) (hx0 : flat x0 = true) (H : Hp) : evCall cfc (n+1) 15 [x0] H = movR [] H (s15 (evCall cfc n) n x0 Hp.fl) := by
  rw [evCall_quiet (fn := Tryd.f15) (by rfl) (by rfl) Tryd.func15 (by rfl) (by simp [hx0])]
  exact congrArg (movR [] H) (s15_eq _ _ _ _)
theorem v15 (n : Nat) (H : Hp) (e : Int) : evCall cfc (n+1) 15 [.int .i64 e] H = some (.ret (.int .i64 e), H) := by
  rw [q15 n _ rfl H]
  simp -implicitDefEqProofs only [s15, ↓GVdn, GVup, goInt, splice, okC, Fr.of, Fr.ofI, Fr.g, Nat.reduceAdd, Nat.reduceMul, Nat.reduceEqDiff, Nat.reduceLT, Nat.reduceLeDiff, Nat.reduceBEq, Int.reduceLT, Int.reduceLE, Int.reduceToNat, Int.reduceAdd, Int.reduceSub, Int.reduceMul, Int.reduceEq, Int.reduceNeg, ↓reduceIte, ↓reduceDIte, Nat.beq, reduceCtorEq, Value.int.injEq, Nat.reduceSub, sto_ptr, lp_succ, flat_int]
theorem q19 (n : Nat) (x0 : Value) (hx0 : flat x0 = true) (H : Hp) : evCall cfc (n+1) 19 [x0] H = movR [] H (s19 (evCall cfc n) n x0 Hp.fl) := by
  rw [evCall_quiet (fn := Tryd.f19) (by rfl) (by rfl) Tryd.func19 (by rfl) (by simp [hx0])]
  exact congrArg (movR [] H) (s19_eq _ _ _ _)
theorem v19 (n : Nat) (H : Hp) (op : Int) : evCall cfc (n+3) 19 [.int .i64 op] H = some (.ret (.int .i64 (costV op)), H) := by
  rw [q19 (n+2) _ rfl H]
  have h22 := fun H => v22 n H op
  simp -implicitDefEqProofs only [s19, h22, ↓GVdn, GVup, goInt, splice, okC, Fr.of, Fr.ofI, Fr.g, Nat.reduceAdd, Nat.reduceMul, Nat.reduceEqDiff, Nat.reduceLT, Nat.reduceLeDiff, Nat.reduceBEq, Int.reduceLT, Int.reduceLE, Int.reduceToNat, Int.reduceAdd, Int.reduceSub, Int.reduceMul, Int.reduceEq, Int.reduceNeg, ↓reduceIte, ↓reduceDIte, Nat.beq, reduceCtorEq, Value.int.injEq, Nat.reduceSub, sto_ptr, lp_succ, flat_int]
theorem q20 (n : Nat) (H : Hp) : evCall cfc (n+1) 20 [] H = movR [] H (s20 (evCall cfc n) n Hp.fl) := by
  rw [evCall_quiet (fn := Tryd.f20) (by rfl) (by rfl) Tryd.func20 (by rfl) (by rfl)]
  exact congrArg (movR [] H) (s20_eq _ _ _)
theorem v20 (n : Nat) (H : Hp) : evCall cfc (n+1) 20 [] H = some (.ret (.int .i64 20), H) := by
  rw [q20 n H]
  simp -implicitDefEqProofs only [s20, ↓GVdn, GVup, goInt, splice, okC, Fr.of, Fr.ofI, Fr.g, Nat.reduceAdd, Nat.reduceMul, Nat.reduceEqDiff, Nat.reduceLT, Nat.reduceLeDiff, Nat.reduceBEq, Int.reduceLT, Int.reduceLE, Int.reduceToNat, Int.reduceAdd, Int.reduceSub, Int.reduceMul, Int.reduceEq, Int.reduceNeg, ↓reduceIte, ↓reduceDIte, Nat.beq, reduceCtorEq, Value.int.injEq, Nat.reduceSub, sto_ptr, lp_succ, flat_int]
theorem cost_in {op : Int} (h : 1 ≤ op ∧ op < 72) : 1 ≤ costV op ∧ costV op ≤ 20 := by
  have := of_decide_eq_true (List.all_eq_true.1 (show (List.range 72).all (fun k => decide (k = 0 ∨ (1 ≤ costV (k : Int) ∧ costV (k : Int) ≤ 20))) = true by decide) op.toNat (List.mem_range.2 (by omega)))
  rw [show ((op.toNat : Nat) : Int) = op by omega] at this
  exact this.resolve_left (by omega)
theorem q7 (n : Nat) (x y z : Value) (hx : flat x = true) (hy : flat y = true) (hz : flat z = true) (H : Hp) : evCall cfc (n+1) 7 [x, y, z] H = movR [] H (s7 (evCall cfc n) n x y z Hp.fl) := by
  rw [evCall_quiet (fn := Tryd.f7) (by rfl) (by rfl) Tryd.func7 (by rfl) (by simp [hx, hy, hz])]
  exact congrArg (movR [] H) (s7_eq _ _ _ _ _ _)
theorem textV_size {i : Ins} (hk : chkV i.op i.A i.B i.C i.I = 0) : (textV i).size ≤ 400 := by
  obtain ⟨hf1, hf2, _⟩ := chk_small hk
  obtain ⟨r1, r2⟩ := row_small i ⟨hf1, hf2⟩
  have jl := join_len [44, 32] rfl _ r2
  rw [List.length_map] at jl
  have hj : (joinV (rowV (formV i.op) (opsV i))).size ≤ 102 * (rowV (formV i.op) (opsV i)).length := by rw [Lib.size_eq]; exact jl
  have hn := nameV_size i.op
  have z32 : (⟨#[32]⟩ : ByteArray).size = 1 := rfl
  unfold textV
  split
  · omega
  · rw [app1, app1]; omega
theorem dec_cases (w : Int) : (∃ i : Ins, decR w = .tuple #[i.val, .int .i64 0] ∧ chkV i.op i.A i.B i.C i.I = 0 ∧ encV i.op i.A i.B i.C i.I = w) ∨ ∃ e : Int, decR w = .tuple #[zer.val, .int .i64 e] ∧ ¬ e = 0 := by
  unfold decR
  split
  · exact .inr ⟨5, rfl, by decide⟩
  · split
    · rename_i h
      exact .inl ⟨⟨opW w, aW w, bW w, dC w, dI w⟩, rfl, h.1, h.2⟩
    · exact .inr ⟨6, rfl, by decide⟩
theorem par_cases (s : ByteArray) : (∃ i : Ins, parR s = .tuple #[i.val, .int .i64 0] ∧ chkV i.op i.A i.B i.C i.I = 0 ∧ textV i = s) ∨ parR s = .tuple #[zer.val, .int .i64 3] := by
  unfold parR parF
  split
  · rename_i h
    exact .inl ⟨_, rfl, h.1.2, h.2⟩
  · exact .inr rfl
theorem par_text {i : Ins} (hk : chkV i.op i.A i.B i.C i.I = 0) : parR (textV i) = .tuple #[i.val, .int .i64 0] := by
  unfold parR
  rw [back_text hk]
  unfold parF
  rw [if_pos ⟨⟨⟨rfl, rfl⟩, hk⟩, rfl⟩]
theorem v7 (n : Nat) (H : Hp) (i : Ins) (w : Int) (s : ByteArray) (hs : s.size ≤ 1073741824) (hn : s.size < n) (hn2 : 400 < n) : evCall cfc (n+302) 7 [i.val, .int .u32 w, .string s] H = some (.ret (.bool true), H) := by
  have hfl : flat i.val = true := rfl
  rw [q7 (n+301) _ _ _ hfl rfl rfl H]
  suffices hx : (s7 (evCall cfc (n+301)) (n+301) i.val (.int .u32 w) (.string s) Hp.fl).map Prod.fst = some (.ret (.bool true)) by
    obtain ⟨⟨v, H'⟩, h, h2⟩ := Option.map_eq_some_iff.1 hx
    rw [h]
    simp only at h2
    rw [h2]
    exact movR_flat rfl
  generalize hH0 : Hp.fl = H0
  have n0 : H0.next = 10 := by subst hH0; rfl
  have l0 : H0.lim = 10 := by subst hH0; rfl
  have h12 := v12 n
  have h15 := fun H e => v15 (n+300) H e
  have h19 := fun H e => v19 (n+298) H e
  have h20 := fun H => v20 (n+300) H
  have h16 := fun (j : Ins) H => v16 (n+293) H j.op j.A j.B j.C j.I
  have h8 := fun (j : Ins) H => v8 (n+291) H j
  have h14 := fun H w => v14 (n+292) H w
  have h10 := fun H (s : ByteArray) h1 h2 => v10 (n+211) H s h1 h2
  have h10s := fun H => h10 H s hs (by omega)
  simp only [Ins.val, Ins.cells] at h8 h10s
  by_cases hk : chkV i.op i.A i.B i.C i.I = 0
  · obtain ⟨hf1, hf2, _⟩ := chk_small hk
    obtain ⟨k1, k2⟩ := cost_in (op_range hf1)
    have e1 : encR i.op i.A i.B i.C i.I = .tuple #[.int .u32 (encV i.op i.A i.B i.C i.I), .int .i64 0] := if_pos hk
    have e2 : textR i = .tuple #[.string (textV i), .int .i64 0] := if_pos hk
    have e3 := back_word hk
    have e4 := par_text hk
    have ts := textV_size hk
    have h10t := fun H => h10 H (textV i) (by omega) (by omega)
    have h16i := h16 i
    have h8i := h8 i
    have c1 : (costV i.op < 1) = False := eq_false (by omega)
    have c2 : (20 < costV i.op) = False := eq_false (by omega)
    rcases dec_cases w with ⟨d, d1, d2, d3⟩ | ⟨e, d1, d2⟩
    · have h16d := h16 d
      have f1 : encR d.op d.A d.B d.C d.I = .tuple #[.int .u32 w, .int .i64 0] := by unfold encR; rw [if_pos d2, d3]
      rcases par_cases s with ⟨p, p1, p2, p3⟩ | p1
      · have h8p := h8 p
        have f2 : textR p = .tuple #[.string s, .int .i64 0] := by unfold textR; rw [if_pos p2, p3]
        simp -implicitDefEqProofs only [s7, ↓GVdn, GVup, goInt, splice, okC, Fr.of, Fr.ofI, Fr.g, Nat.reduceAdd, Nat.reduceMul, Nat.reduceEqDiff, Nat.reduceLT, Nat.reduceLeDiff, Nat.reduceBEq, Int.reduceLT, Int.reduceLE, Int.reduceToNat, Int.reduceAdd, Int.reduceSub, Int.reduceMul, Int.reduceEq, Int.reduceNeg, ↓reduceIte, ↓reduceDIte, Nat.beq, reduceCtorEq, Value.int.injEq, Nat.reduceSub, sto_ptr, lp_succ, opn_lim, n0, l0, Ins.val, Ins.cells, zer, h12, h15, h19, h20, h16i, h8i, h14, h10s, h10t, h16d, h8p, e1, e2, e3, e4, c1, c2, d1, f1, p1, f2, Option.map_some]
      · simp -implicitDefEqProofs only [s7, ↓GVdn, GVup, goInt, splice, okC, Fr.of, Fr.ofI, Fr.g, Nat.reduceAdd, Nat.reduceMul, Nat.reduceEqDiff, Nat.reduceLT, Nat.reduceLeDiff, Nat.reduceBEq, Int.reduceLT, Int.reduceLE, Int.reduceToNat, Int.reduceAdd, Int.reduceSub, Int.reduceMul, Int.reduceEq, Int.reduceNeg, ↓reduceIte, ↓reduceDIte, Nat.beq, reduceCtorEq, Value.int.injEq, Nat.reduceSub, sto_ptr, lp_succ, opn_lim, n0, l0, Ins.val, Ins.cells, zer, h12, h15, h19, h20, h16i, h8i, h14, h10s, h10t, h16d, e1, e2, e3, e4, c1, c2, d1, f1, p1, Option.map_some]
    · rcases par_cases s with ⟨p, p1, p2, p3⟩ | p1
      · have h8p := h8 p
        have f2 : textR p = .tuple #[.string s, .int .i64 0] := by unfold textR; rw [if_pos p2, p3]
        simp -implicitDefEqProofs only [s7, ↓GVdn, GVup, goInt, splice, okC, Fr.of, Fr.ofI, Fr.g, Nat.reduceAdd, Nat.reduceMul, Nat.reduceEqDiff, Nat.reduceLT, Nat.reduceLeDiff, Nat.reduceBEq, Int.reduceLT, Int.reduceLE, Int.reduceToNat, Int.reduceAdd, Int.reduceSub, Int.reduceMul, Int.reduceEq, Int.reduceNeg, ↓reduceIte, ↓reduceDIte, Nat.beq, reduceCtorEq, Value.int.injEq, Nat.reduceSub, sto_ptr, lp_succ, opn_lim, n0, l0, Ins.val, Ins.cells, zer, h12, h15, h19, h20, h16i, h8i, h14, h10s, h10t, h8p, e1, e2, e3, e4, c1, c2, d1, d2, p1, f2, Option.map_some]
      · simp -implicitDefEqProofs only [s7, ↓GVdn, GVup, goInt, splice, okC, Fr.of, Fr.ofI, Fr.g, Nat.reduceAdd, Nat.reduceMul, Nat.reduceEqDiff, Nat.reduceLT, Nat.reduceLeDiff, Nat.reduceBEq, Int.reduceLT, Int.reduceLE, Int.reduceToNat, Int.reduceAdd, Int.reduceSub, Int.reduceMul, Int.reduceEq, Int.reduceNeg, ↓reduceIte, ↓reduceDIte, Nat.beq, reduceCtorEq, Value.int.injEq, Nat.reduceSub, sto_ptr, lp_succ, opn_lim, n0, l0, Ins.val, Ins.cells, zer, h12, h15, h19, h20, h16i, h8i, h14, h10s, h10t, e1, e2, e3, e4, c1, c2, d1, d2, p1, Option.map_some]
  · have e1 : encR i.op i.A i.B i.C i.I = .tuple #[.int .u32 0, .int .i64 (chkV i.op i.A i.B i.C i.I)] := if_neg hk
    have e2 : textR i = .tuple #[.string emp, .int .i64 (chkV i.op i.A i.B i.C i.I)] := if_neg hk
    have h16i := h16 i
    have h8i := h8 i
    rcases dec_cases w with ⟨d, d1, d2, d3⟩ | ⟨e, d1, d2⟩
    · have h16d := h16 d
      have f1 : encR d.op d.A d.B d.C d.I = .tuple #[.int .u32 w, .int .i64 0] := by unfold encR; rw [if_pos d2, d3]
      rcases par_cases s with ⟨p, p1, p2, p3⟩ | p1
      · have h8p := h8 p
        have f2 : textR p = .tuple #[.string s, .int .i64 0] := by unfold textR; rw [if_pos p2, p3]
        simp -implicitDefEqProofs only [s7, ↓GVdn, GVup, goInt, splice, okC, Fr.of, Fr.ofI, Fr.g, Nat.reduceAdd, Nat.reduceMul, Nat.reduceEqDiff, Nat.reduceLT, Nat.reduceLeDiff, Nat.reduceBEq, Int.reduceLT, Int.reduceLE, Int.reduceToNat, Int.reduceAdd, Int.reduceSub, Int.reduceMul, Int.reduceEq, Int.reduceNeg, ↓reduceIte, ↓reduceDIte, Nat.beq, reduceCtorEq, Value.int.injEq, Nat.reduceSub, sto_ptr, lp_succ, opn_lim, n0, l0, Ins.val, Ins.cells, zer, h12, h15, h16i, h8i, h14, h10s, h16d, h8p, e1, e2, hk, d1, f1, p1, f2, Option.map_some]
      · simp -implicitDefEqProofs only [s7, ↓GVdn, GVup, goInt, splice, okC, Fr.of, Fr.ofI, Fr.g, Nat.reduceAdd, Nat.reduceMul, Nat.reduceEqDiff, Nat.reduceLT, Nat.reduceLeDiff, Nat.reduceBEq, Int.reduceLT, Int.reduceLE, Int.reduceToNat, Int.reduceAdd, Int.reduceSub, Int.reduceMul, Int.reduceEq, Int.reduceNeg, ↓reduceIte, ↓reduceDIte, Nat.beq, reduceCtorEq, Value.int.injEq, Nat.reduceSub, sto_ptr, lp_succ, opn_lim, n0, l0, Ins.val, Ins.cells, zer, h12, h15, h16i, h8i, h14, h10s, h16d, e1, e2, hk, d1, f1, p1, Option.map_some]
    · rcases par_cases s with ⟨p, p1, p2, p3⟩ | p1
      · have h8p := h8 p
        have f2 : textR p = .tuple #[.string s, .int .i64 0] := by unfold textR; rw [if_pos p2, p3]
        simp -implicitDefEqProofs only [s7, ↓GVdn, GVup, goInt, splice, okC, Fr.of, Fr.ofI, Fr.g, Nat.reduceAdd, Nat.reduceMul, Nat.reduceEqDiff, Nat.reduceLT, Nat.reduceLeDiff, Nat.reduceBEq, Int.reduceLT, Int.reduceLE, Int.reduceToNat, Int.reduceAdd, Int.reduceSub, Int.reduceMul, Int.reduceEq, Int.reduceNeg, ↓reduceIte, ↓reduceDIte, Nat.beq, reduceCtorEq, Value.int.injEq, Nat.reduceSub, sto_ptr, lp_succ, opn_lim, n0, l0, Ins.val, Ins.cells, zer, h12, h15, h16i, h8i, h14, h10s, h8p, e1, e2, hk, d1, d2, p1, f2, Option.map_some]
      · simp -implicitDefEqProofs only [s7, ↓GVdn, GVup, goInt, splice, okC, Fr.of, Fr.ofI, Fr.g, Nat.reduceAdd, Nat.reduceMul, Nat.reduceEqDiff, Nat.reduceLT, Nat.reduceLeDiff, Nat.reduceBEq, Int.reduceLT, Int.reduceLE, Int.reduceToNat, Int.reduceAdd, Int.reduceSub, Int.reduceMul, Int.reduceEq, Int.reduceNeg, ↓reduceIte, ↓reduceDIte, Nat.beq, reduceCtorEq, Value.int.injEq, Nat.reduceSub, sto_ptr, lp_succ, opn_lim, n0, l0, Ins.val, Ins.cells, zer, h12, h15, h16i, h8i, h14, h10s, e1, e2, hk, d1, d2, p1, Option.map_some]
end Go.Proofs.YtbaooebafijenaaDoor
