/- A jump to a label goes there: the law CodeLabels over the evaluator. -/
import Derived.Test.YtbaooebafijenaaDoorGLiP
import Derived.Test.YtbaooebafijenaaDoorGBack
import Derived.Test.YtbaooebafijenaaDoorGvBun
namespace Go.Proofs.YtbaooebafijenaaDoor
open Go Go.Ev
set_option maxRecDepth 100000
set_option linter.unusedSimpArgs false
set_option linter.unusedVariables false
set_option maxHeartbeats 4000000
set_option linter.unusedSectionVars false
variable [Mx]
attribute [local congr] bind_front callK_front jn_front ifB_front ifG_front lp_front
theorem bs_app (a b : Bs) : bs a ++ bs b = bs (a ++ b) := bytes_inj (by rw [app_list]; rfl)
theorem bin_bs (q : Nat) (a b : Bs) (h : a.length + b.length ≤ 9223372036854775807) : bin q .add (.string (bs a)) (.string (bs b)) = some (.string (bs (a ++ b))) := by
  rw [bin_sadd q _ _ (by rw [Lib.size_eq, Lib.size_eq]; exact h), bs_app]
theorem bin_nn : bin 5 .neq .nilIface .nilIface = some (.bool false) := rfl
theorem bin_nc (t : TypeId) (v : Value) : bin 5 .neq (.iface t v) .nilIface = some (.bool true) := rfl
theorem cLi : (⟨#[108, 105, 32, 114, 49, 44, 32, 55, 48, 48, 48, 48, 10]⟩ : ByteArray) = bs (tLi ++ [10]) := by kernel_rfl
theorem cNop : (⟨#[110, 111, 112, 10]⟩ : ByteArray) = bs (tNop ++ [10]) := by kernel_rfl
theorem cJal : (⟨#[106, 97, 108, 32, 114, 49, 53, 44, 32, 116, 104, 101, 114, 101, 10]⟩ : ByteArray) = bs (tJal ++ [10]) := by kernel_rfl
theorem cTh : (⟨#[116, 104, 101, 114, 101, 58, 10]⟩ : ByteArray) = bs (tTh ++ [10]) := by kernel_rfl
theorem cThH : (⟨#[116, 104, 101, 114, 101, 58, 32, 104, 97, 108, 116]⟩ : ByteArray) = bs (tThH) := by kernel_rfl
theorem lab_l1 (C : Cl) (n : Nat) (B N : Nat) (ah : Bool) (kx : Nat → Fr → Hp → Option (Out × Hp)) (kr : Fr → Hp → Option (Out × Hp)) (H : Hp) (hB : B ≤ 1000) : ∀ (r k m : Nat) (t : Bs), k + r = B → r < m → t.length ≤ 13 * k →
    lp (s4_b1 C n) m [.int .i64 B, .int .i64 N, .bool ah, .string (bs t), .int .i64 k] H kx kr = kx 0 (Fr.of [0, 1, 2, 7] [.int .i64 B, .int .i64 N, .bool ah, .string (bs (t ++ repL r (tLi ++ [10])))]) H := by
  intro r
  induction r with
  | zero =>
    intro k m t hk hm ht
    obtain ⟨m, rfl⟩ : ∃ q, m = q + 1 := ⟨m - 1, by omega⟩
    have hlt : ((k : Int) < (B : Int)) = False := eq_false (by omega)
    have e : t ++ repL 0 (tLi ++ [10]) = t := by simp [repL]
    rw [lp_succ, e]
    simp -implicitDefEqProofs only [s4_b1, ↓GVdn, GVup, goInt, splice, okC, Fr.of, Fr.ofI, Fr.g, Nat.reduceAdd, Nat.reduceMul, Nat.reduceEqDiff, Nat.reduceLT, Nat.reduceLeDiff, Nat.reduceBEq, Int.reduceLT, Int.reduceLE, Int.reduceToNat, Int.reduceAdd, Int.reduceSub, Int.reduceMul, Int.reduceEq, Int.reduceNeg, ↓reduceIte, ↓reduceDIte, Nat.beq, reduceCtorEq, Value.int.injEq, Nat.reduceSub, sto_ptr, hlt]
  | succ r ih =>
    intro k m t hk hm ht
    obtain ⟨m, rfl⟩ : ∃ q, m = q + 1 := ⟨m - 1, by omega⟩
    have hlt : ((k : Int) < (B : Int)) = True := eq_true (by omega)
    have hw1 : IntKind.wrap .i64 ((k : Int) + 1) = ((k + 1 : Nat) : Int) := by rw [IntWalk.i64_in _ (by omega)]; rfl
    have hb : bin 0 .add (.string (bs t)) (.string ⟨#[108, 105, 32, 114, 49, 44, 32, 55, 48, 48, 48, 48, 10]⟩) = some (.string (bs (t ++ (tLi ++ [10])))) := by
      rw [cLi]
      exact bin_bs 0 t (tLi ++ [10]) (by show t.length + 13 ≤ _; omega)
    have ih := ih (k + 1) m (t ++ (tLi ++ [10])) (by omega) (by omega) (by rw [List.length_append]; show t.length + 13 ≤ _; omega)
    rw [List.append_assoc, ← repL_succ] at ih
    rw [lp_succ]
    simp -implicitDefEqProofs only [s4_b1, ↓GVdn, GVup, goInt, splice, okC, Fr.of, Fr.ofI, Fr.g, Nat.reduceAdd, Nat.reduceMul, Nat.reduceEqDiff, Nat.reduceLT, Nat.reduceLeDiff, Nat.reduceBEq, Int.reduceLT, Int.reduceLE, Int.reduceToNat, Int.reduceAdd, Int.reduceSub, Int.reduceMul, Int.reduceEq, Int.reduceNeg, ↓reduceIte, ↓reduceDIte, Nat.beq, reduceCtorEq, Value.int.injEq, Nat.reduceSub, sto_ptr, hlt, hb, hw1, ih]
theorem lab_l2 (C : Cl) (n : Nat) (B N : Nat) (ah : Bool) (x : Value) (kx : Nat → Fr → Hp → Option (Out × Hp)) (kr : Fr → Hp → Option (Out × Hp)) (H : Hp) (hN : N ≤ 1000) : ∀ (r k m : Nat) (t : Bs), k + r = N → r < m → t.length ≤ 100000 + 4 * k →
    lp (s4_b2 C n) m [.int .i64 B, .int .i64 N, .bool ah, .string (bs t), x, .int .i64 k] H kx kr = kx 2 (Fr.of [0, 1, 2, 7, 9] [.int .i64 B, .int .i64 N, .bool ah, .string (bs (t ++ repL r (tNop ++ [10]))), x]) H := by
  intro r
  induction r with
  | zero =>
    intro k m t hk hm ht
    obtain ⟨m, rfl⟩ : ∃ q, m = q + 1 := ⟨m - 1, by omega⟩
    have hlt : ((k : Int) < (N : Int)) = False := eq_false (by omega)
    have e : t ++ repL 0 (tNop ++ [10]) = t := by simp [repL]
    rw [lp_succ, e]
    simp -implicitDefEqProofs only [s4_b2, ↓GVdn, GVup, goInt, splice, okC, Fr.of, Fr.ofI, Fr.g, Nat.reduceAdd, Nat.reduceMul, Nat.reduceEqDiff, Nat.reduceLT, Nat.reduceLeDiff, Nat.reduceBEq, Int.reduceLT, Int.reduceLE, Int.reduceToNat, Int.reduceAdd, Int.reduceSub, Int.reduceMul, Int.reduceEq, Int.reduceNeg, ↓reduceIte, ↓reduceDIte, Nat.beq, reduceCtorEq, Value.int.injEq, Nat.reduceSub, sto_ptr, hlt]
  | succ r ih =>
    intro k m t hk hm ht
    obtain ⟨m, rfl⟩ : ∃ q, m = q + 1 := ⟨m - 1, by omega⟩
    have hlt : ((k : Int) < (N : Int)) = True := eq_true (by omega)
    have hw1 : IntKind.wrap .i64 ((k : Int) + 1) = ((k + 1 : Nat) : Int) := by rw [IntWalk.i64_in _ (by omega)]; rfl
    have hb : bin 0 .add (.string (bs t)) (.string ⟨#[110, 111, 112, 10]⟩) = some (.string (bs (t ++ (tNop ++ [10])))) := by
      rw [cNop]
      exact bin_bs 0 t (tNop ++ [10]) (by show t.length + 4 ≤ _; omega)
    have ih := ih (k + 1) m (t ++ (tNop ++ [10])) (by omega) (by omega) (by rw [List.length_append]; show t.length + 4 ≤ _; omega)
    rw [List.append_assoc, ← repL_succ] at ih
    rw [lp_succ]
    simp -implicitDefEqProofs only [s4_b2, ↓GVdn, GVup, goInt, splice, okC, Fr.of, Fr.ofI, Fr.g, Nat.reduceAdd, Nat.reduceMul, Nat.reduceEqDiff, Nat.reduceLT, Nat.reduceLeDiff, Nat.reduceBEq, Int.reduceLT, Int.reduceLE, Int.reduceToNat, Int.reduceAdd, Int.reduceSub, Int.reduceMul, Int.reduceEq, Int.reduceNeg, ↓reduceIte, ↓reduceDIte, Nat.beq, reduceCtorEq, Value.int.injEq, Nat.reduceSub, sto_ptr, hlt, hb, hw1, ih]
theorem q4 (n : Nat) (x y z : Value) (hx : flat x = true) (hy : flat y = true) (hz : flat z = true) (H : Hp) : evCall cfc (n+1) 4 [x, y, z] H = movR [] H (s4 (evCall cfc n) n x y z Hp.fl) := by
  rw [evCall_quiet (fn := Tryd.f4) (by rfl) (by rfl) Tryd.func4 (by rfl) (by simp [hx, hy, hz])]
  exact congrArg (movR [] H) (s4_eq _ _ _ _ _ _)
theorem u64_rng (z : Int) : 0 ≤ IntKind.wrap .u64 z ∧ IntKind.wrap .u64 z < 18446744073709551616 := by
  simp only [IntKind.wrap, IntKind.bits, IntKind.signed]
  simp
  omega
theorem rem_nat (z : Int) (k : Nat) (hk : 0 < k) (hk2 : k ≤ 1000000) : ∃ j : Nat, (IntKind.wrap .u64 z).tmod (k : Int) = (j : Int) ∧ IntKind.wrap .i64 (j : Int) = (j : Int) ∧ j < k := by
  have h := (u64_rng z).1
  have h1 := Int.tmod_nonneg (k : Int) h
  have h2 := Int.tmod_lt_of_pos (IntKind.wrap .u64 z) (show (0 : Int) < (k : Int) by omega)
  obtain ⟨j, hj⟩ := Int.eq_ofNat_of_zero_le h1
  exact ⟨j, hj, IntWalk.i64_in _ (by omega), by omega⟩
theorem v4 (n : Nat) (H : Hp) (x y : Int) (ah : Bool) (hn : 100000 < n) : evCall cfc (n+302) 4 [.int .i64 x, .int .i64 y, .bool ah] H = some (.ret (.bool true), H) := by
  rw [q4 (n+301) _ _ _ rfl rfl rfl H]
  suffices hx : (s4 (evCall cfc (n+301)) (n+301) (.int .i64 x) (.int .i64 y) (.bool ah) Hp.fl).map Prod.fst = some (.ret (.bool true)) by
    obtain ⟨⟨v, H'⟩, h, h2⟩ := Option.map_eq_some_iff.1 hx
    rw [h]
    simp only at h2
    rw [h2]
    exact movR_flat rfl
  generalize hH0 : Hp.fl = H0
  have n0 : H0.next = 10 := by subst hH0; rfl
  have l0 : H0.lim = 10 := by subst hH0; rfl
  have h12 := v12 n
  have h15 := fun H e => v15 (n+300) H e
  have h14 := fun H w => v14 (n+292) H w
  obtain ⟨B, b1, b2, hB⟩ := rem_nat x 50 (by decide) (by decide)
  obtain ⟨N, c1, c2, hN⟩ := rem_nat y 200 (by decide) (by decide)
  have b1 : (IntKind.wrap .u64 x).tmod 50 = (B : Int) := b1
  have c1 : (IntKind.wrap .u64 y).tmod 200 = (N : Int) := c1
  have l1 := fun kx kr => lab_l1 (evCall cfc (n+301)) (n+301) B N ah kx kr H0 (by omega) B 0 (n+301) [] (by omega) (by omega) (by simp)
  have l1' : ∀ kx kr, lp (s4_b1 (evCall cfc (n+301)) (n+301)) (n+301) [.int .i64 B, .int .i64 N, .bool ah, .string ⟨#[]⟩, .int .i64 0] H0 kx kr = kx 0 (Fr.of [0, 1, 2, 7] [.int .i64 B, .int .i64 N, .bool ah, .string (bs (repL B (tLi ++ [10])))]) H0 := l1
  have len1 : (repL B (tLi ++ [10])).length = B * 13 := repL_len B _
  have len2 : (repL N (tNop ++ [10])).length = N * 4 := repL_len N _
  have m1 : IntKind.wrap .i64 (2 * (B : Int)) = ((2 * B : Nat) : Int) := by rw [IntWalk.i64_in _ (by omega)]; omega
  have m2 : IntKind.wrap .i64 (((2 * B : Nat) : Int) + (N : Int)) = ((2 * B + N : Nat) : Int) := by rw [IntWalk.i64_in _ (by omega)]; omega
  have m3 : IntKind.wrap .i64 (0 - (N : Int)) = -(N : Int) := by rw [IntWalk.i64_in _ (by omega)]; omega
  have m3' : IntKind.wrap .i64 (-(N : Int)) = -(N : Int) := by rw [IntWalk.i64_in _ (by omega)]
  have m4 : IntKind.wrap .i64 (((2 * B + N : Nat) : Int) + 1) = ((2 * B + N + 1 : Nat) : Int) := by rw [IntWalk.i64_in _ (by omega)]; omega
  have m5 : IntKind.wrap .i64 ((N : Int) + 1) = ((N + 1 : Nat) : Int) := by rw [IntWalk.i64_in _ (by omega)]; omega
  have m6 : IntKind.wrap .i64 (((2 * B + N : Nat) : Int) + 2) = ((2 * B + N + 2 : Nat) : Int) := by rw [IntWalk.i64_in _ (by omega)]; omega
  cases ah with
  | true =>
    obtain ⟨ws, a1, a2, a3⟩ := asm_ahead B N hB hN
    have hne : ¬ ws = [] := fun e => by rw [e] at a2; simp at a2
    have t1 : bin 0 .add (.string (bs (repL B (tLi ++ [10])))) (.string ⟨#[106, 97, 108, 32, 114, 49, 53, 44, 32, 116, 104, 101, 114, 101, 10]⟩) = some (.string (bs (repL B (tLi ++ [10]) ++ (tJal ++ [10])))) := by
      rw [cJal]
      exact bin_bs 0 _ (tJal ++ [10]) (by rw [len1]; show _ + 15 ≤ _; omega)
    have l2 := fun x kx kr => lab_l2 (evCall cfc (n+301)) (n+301) B N true x kx kr H0 (by omega) N 0 (n+301) (repL B (tLi ++ [10]) ++ (tJal ++ [10])) (by omega) (by omega) (by rw [List.length_append, len1]; show _ + 15 ≤ _; omega)
    have l2' : ∀ x kx kr, lp (s4_b2 (evCall cfc (n+301)) (n+301)) (n+301) [.int .i64 B, .int .i64 N, .bool true, .string (bs (repL B (tLi ++ [10]) ++ (tJal ++ [10]))), x, .int .i64 0] H0 kx kr = _ := l2
    have t2 : bin 0 .add (.string (bs (repL B (tLi ++ [10]) ++ (tJal ++ [10]) ++ repL N (tNop ++ [10])))) (.string ⟨#[116, 104, 101, 114, 101, 58, 32, 104, 97, 108, 116]⟩) = some (.string (bs (repL B (tLi ++ [10]) ++ (tJal ++ [10]) ++ repL N (tNop ++ [10]) ++ tThH))) := by
      rw [cThH]
      exact bin_bs 0 _ tThH (by rw [List.length_append, List.length_append, len1, len2]; show _ + 15 + _ + 11 ≤ _; omega)
    have et : repL B (tLi ++ [10]) ++ (tJal ++ [10]) ++ repL N (tNop ++ [10]) ++ tThH = txtA B N := by simp [txtA]
    have lent : (bs (txtA B N)).size ≤ 10000 := by
      rw [← et, Lib.size_eq, bs_list, List.length_append, List.length_append, List.length_append, len1, len2]
      show _ + 15 + _ + 11 ≤ _
      omega
    have h13 := v13 (n+216) (bs (txtA B N)) H0 (fun _ => by have := count_le (bs (txtA B N)); omega) (by omega)
    rw [a1] at h13
    simp only [asmR] at h13
    rw [if_neg hne] at h13
    have hk := jal_chk ((N + 1 : Nat) : Int) (by omega)
    have hd := back_word (i := ⟨44, 15, 0, 0, ((N + 1 : Nat) : Int)⟩) hk
    simp only [Ins.val, Ins.cells] at hd
    have hidx : (wvs ws)[2 * B]? = some (.int .u32 (encV 44 15 0 0 ((N + 1 : Nat) : Int))) := by unfold wvs; rw [List.getElem?_map, a3]; rfl
    have q1 : (0 ≤ ((2 * B : Nat) : Int) ∧ ((2 * B : Nat) : Int) < ((2 * B + N + 2 : Nat) : Int)) = True := eq_true (by omega)
    have q2 : (((2 * B : Nat) : Int) < ((2 * B + N + 2 : Nat) : Int)) = True := eq_true (by omega)
    rw [a2, n0] at h13
    simp -implicitDefEqProofs only [s4, bin_nn, ↓GVdn, GVup, goInt, splice, okC, Fr.of, Fr.ofI, Fr.g, Nat.reduceAdd, Nat.reduceMul, Nat.reduceEqDiff, Nat.reduceLT, Nat.reduceLeDiff, Nat.reduceBEq, Int.reduceLT, Int.reduceLE, Int.reduceToNat, Int.reduceAdd, Int.reduceSub, Int.reduceMul, Int.reduceEq, Int.reduceNeg, ↓reduceIte, ↓reduceDIte, Nat.beq, reduceCtorEq, Value.int.injEq, Nat.reduceSub, sto_ptr, opn_lim, n0, l0, h12, b1, b2, c1, c2, l1', t1, l2', t2, et, h13, m1, m2, m3, m3', m4, m5, m6, hidx, q1, q2, h14, hd, h15, Option.map_some]
  | false =>
    obtain ⟨ws, a1, a2, a3⟩ := asm_behind B N hB hN
    have hne : ¬ ws = [] := fun e => by rw [e] at a2; simp at a2
    have t1 : bin 0 .add (.string (bs (repL B (tLi ++ [10])))) (.string ⟨#[116, 104, 101, 114, 101, 58, 10]⟩) = some (.string (bs (repL B (tLi ++ [10]) ++ (tTh ++ [10])))) := by
      rw [cTh]
      exact bin_bs 0 _ (tTh ++ [10]) (by rw [len1]; show _ + 7 ≤ _; omega)
    have l2 := fun x kx kr => lab_l2 (evCall cfc (n+301)) (n+301) B N false x kx kr H0 (by omega) N 0 (n+301) (repL B (tLi ++ [10]) ++ (tTh ++ [10])) (by omega) (by omega) (by rw [List.length_append, len1]; show _ + 7 ≤ _; omega)
    have l2' : ∀ x kx kr, lp (s4_b2 (evCall cfc (n+301)) (n+301)) (n+301) [.int .i64 B, .int .i64 N, .bool false, .string (bs (repL B (tLi ++ [10]) ++ (tTh ++ [10]))), x, .int .i64 0] H0 kx kr = _ := l2
    have t2 : bin 0 .add (.string (bs (repL B (tLi ++ [10]) ++ (tTh ++ [10]) ++ repL N (tNop ++ [10])))) (.string ⟨#[106, 97, 108, 32, 114, 49, 53, 44, 32, 116, 104, 101, 114, 101, 10]⟩) = some (.string (bs (repL B (tLi ++ [10]) ++ (tTh ++ [10]) ++ repL N (tNop ++ [10]) ++ (tJal ++ [10])))) := by
      rw [cJal]
      exact bin_bs 0 _ (tJal ++ [10]) (by rw [List.length_append, List.length_append, len1, len2]; show _ + 7 + _ + 15 ≤ _; omega)
    have et : repL B (tLi ++ [10]) ++ (tTh ++ [10]) ++ repL N (tNop ++ [10]) ++ (tJal ++ [10]) = txtB B N := by simp [txtB]
    have lent : (bs (txtB B N)).size ≤ 10000 := by
      rw [← et, Lib.size_eq, bs_list, List.length_append, List.length_append, List.length_append, len1, len2]
      show _ + 7 + _ + 15 ≤ _
      omega
    have h13 := v13 (n+216) (bs (txtB B N)) H0 (fun _ => by have := count_le (bs (txtB B N)); omega) (by omega)
    rw [a1] at h13
    simp only [asmR] at h13
    rw [if_neg hne] at h13
    have hk := jal_chk (-(N : Int)) (by omega)
    have hd := back_word (i := ⟨44, 15, 0, 0, -(N : Int)⟩) hk
    simp only [Ins.val, Ins.cells] at hd
    have hidx : (wvs ws)[2 * B + N]? = some (.int .u32 (encV 44 15 0 0 (-(N : Int)))) := by unfold wvs; rw [List.getElem?_map, a3]; rfl
    have q1 : (0 ≤ ((2 * B + N : Nat) : Int) ∧ ((2 * B + N : Nat) : Int) < ((2 * B + N + 1 : Nat) : Int)) = True := eq_true (by omega)
    have q2 : (((2 * B + N : Nat) : Int) < ((2 * B + N + 1 : Nat) : Int)) = True := eq_true (by omega)
    rw [a2, n0] at h13
    simp -implicitDefEqProofs only [s4, bin_nn, ↓GVdn, GVup, goInt, splice, okC, Fr.of, Fr.ofI, Fr.g, Nat.reduceAdd, Nat.reduceMul, Nat.reduceEqDiff, Nat.reduceLT, Nat.reduceLeDiff, Nat.reduceBEq, Int.reduceLT, Int.reduceLE, Int.reduceToNat, Int.reduceAdd, Int.reduceSub, Int.reduceMul, Int.reduceEq, Int.reduceNeg, ↓reduceIte, ↓reduceDIte, Nat.beq, reduceCtorEq, Value.int.injEq, Nat.reduceSub, sto_ptr, opn_lim, n0, l0, h12, b1, b2, c1, c2, l1', t1, l2', t2, et, h13, m1, m2, m3, m3', m4, m5, m6, hidx, q1, q2, h14, hd, h15, Option.map_some]
end Go.Proofs.YtbaooebafijenaaDoor
