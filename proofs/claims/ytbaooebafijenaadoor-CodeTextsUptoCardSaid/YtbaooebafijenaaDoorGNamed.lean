/- The operation that has a name. -/
import Derived.Test.YtbaooebafijenaaDoorGWord
import Derived.Test.YtbaooebafijenaaDoorGvBun
namespace Go.Proofs.YtbaooebafijenaaDoor
open Go Go.Ev
set_option maxRecDepth 100000
set_option linter.unusedSimpArgs false
set_option linter.unusedVariables false
set_option maxHeartbeats 2000000
set_option linter.unusedSectionVars false
variable [Mx]
attribute [local congr] bind_front callK_front jn_front ifB_front ifG_front lp_front
def emp : ByteArray := ⟨#[]⟩
theorem q71 (n : Nat) (x y : Value) (H : Hp) : evCall cfc (n+1) 71 [x, y] H = s71 (evCall cfc n) n x y H := by
  rw [evCall_open (fn := Tryd.f71) (by rfl) (by rfl) Tryd.func71 (by rfl)]
  exact s71_eq _ _ _ _ _
theorem q69 (n : Nat) (x y : Value) (H : Hp) : evCall cfc (n+1) 69 [x, y] H = s69 (evCall cfc n) n x y H := by
  rw [evCall_open (fn := Tryd.f69) (by rfl) (by rfl) Tryd.func69 (by rfl)]
  exact s69_eq _ _ _ _ _
theorem q70 (n : Nat) (H : Hp) : evCall cfc (n+1) 70 [] H = s70 (evCall cfc n) n H := by
  rw [evCall_open (fn := Tryd.f70) (by rfl) (by rfl) Tryd.func70 (by rfl)]
  exact s70_eq _ _ _
theorem q50 (n : Nat) (x0 : Value) (hx0 : flat x0 = true) (H : Hp) : evCall cfc (n+1) 50 [x0] H = movR [] H (s50 (evCall cfc n) n x0 Hp.fl) := by
  rw [evCall_quiet (fn := Tryd.f50) (by rfl) (by rfl) Tryd.func50 (by rfl) (by simp [hx0])]
  exact congrArg (movR [] H) (s50_eq _ _ _ _)
theorem v71 (n : Nat) (H : Hp) (a s : ByteArray) (f c : Int) (fb : Nat) (hfb : H.cells fb = some [.string s]) (hlt : fb < H.next) :
    evCall cfc (n+1) 71 [.agg #[.string a, .int .i64 f, .int .i64 c], ptr fb 0] H = some (.ret (.bool (decide (a = s ∧ ¬ s = emp))), H.new (.rw [.string a, .int .i64 f, .int .i64 c])) := by
  rw [q71]
  have h1 : (fb = H.next) = False := eq_false (by omega)
  by_cases e : a = s
  · subst e
    by_cases e2 : a = ⟨#[]⟩
    · have e3 : a = emp := e2
      simp -implicitDefEqProofs only [s71, ↓GVdn, GVup, goInt, splice, okC, Fr.of, Fr.ofI, Fr.g, Nat.reduceAdd, Nat.reduceMul, Nat.reduceEqDiff, Nat.reduceLT, Nat.reduceLeDiff, Nat.reduceBEq, Int.reduceLT, Int.reduceLE, Int.reduceToNat, Int.reduceAdd, Int.reduceSub, Int.reduceMul, Int.reduceEq, Int.reduceNeg, ↓reduceIte, ↓reduceDIte, Nat.beq, reduceCtorEq, Value.int.injEq, Nat.reduceSub, sto_ptr, lp_succ, h1, hfb, e2, e3, emp]
    · have e3 : ¬ a = emp := e2
      simp -implicitDefEqProofs only [s71, ↓GVdn, GVup, goInt, splice, okC, Fr.of, Fr.ofI, Fr.g, Nat.reduceAdd, Nat.reduceMul, Nat.reduceEqDiff, Nat.reduceLT, Nat.reduceLeDiff, Nat.reduceBEq, Int.reduceLT, Int.reduceLE, Int.reduceToNat, Int.reduceAdd, Int.reduceSub, Int.reduceMul, Int.reduceEq, Int.reduceNeg, ↓reduceIte, ↓reduceDIte, Nat.beq, reduceCtorEq, Value.int.injEq, Nat.reduceSub, sto_ptr, lp_succ, h1, hfb, e2, e3]
  · simp -implicitDefEqProofs only [s71, ↓GVdn, GVup, goInt, splice, okC, Fr.of, Fr.ofI, Fr.g, Nat.reduceAdd, Nat.reduceMul, Nat.reduceEqDiff, Nat.reduceLT, Nat.reduceLeDiff, Nat.reduceBEq, Int.reduceLT, Int.reduceLE, Int.reduceToNat, Int.reduceAdd, Int.reduceSub, Int.reduceMul, Int.reduceEq, Int.reduceNeg, ↓reduceIte, ↓reduceDIte, Nat.beq, reduceCtorEq, Value.int.injEq, Nat.reduceSub, sto_ptr, lp_succ, h1, hfb, e, false_and]
def FL : List Value := FA.toList
theorem fa_at (i : Nat) (h : i < 72) : ((FL.drop (i * 3)).take 3) = [.string (nmL.getD i emp), .int .i64 (formV i), .int .i64 (costV i)] := by
  have := List.all_eq_true.1 (show (List.range 72).all (fun i => beqV 1 (.agg ((FL.drop (i * 3)).take 3).toArray) (.agg #[.string (nmL.getD i emp), .int .i64 (formV i), .int .i64 (costV i)])) = true by kernel_rfl) i (List.mem_range.2 h)
  have e := beqV_eq _ _ _ this
  simp only [Value.agg.injEq] at e
  have e2 := congrArg Array.toList e
  simpa using e2
theorem FL_len : FL.length = 216 := by kernel_rfl
/-- the first name that is this one -/
def findN (s : ByteArray) : List ByteArray → Nat → Option Nat
  | [], _ => none
  | x :: l, i => if x = s ∧ ¬ s = emp then some i else findN s l (i + 1)
def namedV (s : ByteArray) : Int := match findN s nmL 0 with | some i => (i : Int) | none => -1
theorem nmL_len : nmL.length = 72 := by kernel_rfl
theorem named_loop (C : Cl) (n : Nat) (s : ByteArray) (b fb : Nat) (kx : Nat → Fr → Hp → Option (Out × Hp)) (kr : Fr → Hp → Option (Out × Hp)) (hC : ∀ (H : Hp) (a : ByteArray) (f c : Int), H.cells fb = some [.string s] → fb < H.next →
      C 71 [.agg #[.string a, .int .i64 f, .int .i64 c], ptr fb 0] H = some (.ret (.bool (decide (a = s ∧ ¬ s = emp))), H.new (.rw [.string a, .int .i64 f, .int .i64 c]))) :
    ∀ (k i m : Nat), i + k = 72 → k < m → ∀ H : Hp, H.cells b = some FL → H.cells fb = some [.string s] → b < H.next → fb < H.next →
    ∃ H', lp (s69_b1 C n) m [.slice (some ⟨b, 0, none⟩) 72 3, .func (.func 71) #[] #[ptr fb 0], .int .i64 72, .int .i64 i] H kx kr = match findN s (nmL.drop i) i with | some j => kr (Fr.of [4] [.int .i64 j]) H' | none => kx 0 (Fr.of [4] [dead]) H' := by
  intro k
  induction k with
  | zero =>
    intro i m hi hm H hb hf hbn hfn
    obtain ⟨m, rfl⟩ : ∃ q, m = q + 1 := ⟨m - 1, by omega⟩
    have hi : i = 72 := by omega
    subst hi
    have e : nmL.drop 72 = [] := List.drop_eq_nil_of_le (by rw [nmL_len]; decide)
    refine ⟨H, ?_⟩
    rw [lp_succ, e]
    simp only [findN]
    have hlt : (((72 : Nat) : Int) < 72) = False := by decide
    simp -implicitDefEqProofs only [s69_b1, ↓GVdn, GVup, goInt, splice, okC, Fr.of, Fr.ofI, Fr.g, Nat.reduceAdd, Nat.reduceMul, Nat.reduceEqDiff, Nat.reduceLT, Nat.reduceLeDiff, Nat.reduceBEq, Int.reduceLT, Int.reduceLE, Int.reduceToNat, Int.reduceAdd, Int.reduceSub, Int.reduceMul, Int.reduceEq, Int.reduceNeg, ↓reduceIte, ↓reduceDIte, Nat.beq, reduceCtorEq, Value.int.injEq, Nat.reduceSub, sto_ptr, hlt]
  | succ k ih =>
    intro i m hi hm H hb hf hbn hfn
    obtain ⟨m, rfl⟩ : ∃ q, m = q + 1 := ⟨m - 1, by omega⟩
    have hlt : ((i : Int) < 72) = True := eq_true (by omega)
    have h72 : i < 72 := by omega
    have hd : nmL.drop i = nmL.getD i emp :: nmL.drop (i + 1) := by
      rw [List.drop_eq_getElem_cons (by rw [nmL_len]; exact h72)]
      simp [List.getD_eq_getElem?_getD, nmL_len, h72]
    have hw : IntKind.wrap .i64 ((i : Int) + 1) = ((i + 1 : Nat) : Int) := by rw [IntWalk.i64_in _ (by omega)]; rfl
    have hcall := hC H (nmL.getD i emp) (formV i) (costV i) hf hfn
    obtain ⟨H', ih⟩ := ih (i + 1) m (by omega) (by omega) (H.new (.rw [.string (nmL.getD i emp), .int .i64 (formV i), .int .i64 (costV i)])) (by rw [cells_new, if_neg (by omega)]; exact hb) (by rw [cells_new, if_neg (by omega)]; exact hf) (by simp; omega) (by simp; omega)
    have hin : (0 ≤ (i : Int) ∧ (i : Int) < ((72 : Nat) : Int)) = True := eq_true (by omega)
    have hle : (0 + i * 3 + 3 ≤ FL.length) = True := eq_true (by rw [FL_len]; omega)
    have hle2 : (i * 3 + 3 ≤ FL.length) = True := eq_true (by rw [FL_len]; omega)
    have hfa := fa_at i h72
    rw [lp_succ, hd]
    simp only [findN]
    by_cases hc : nmL.getD i emp = s ∧ ¬ s = emp
    · refine ⟨H.new (.rw [.string (nmL.getD i emp), .int .i64 (formV i), .int .i64 (costV i)]), ?_⟩
      rw [if_pos hc]
      have hcall' : C 71 [.agg #[.string (nmL.getD i emp), .int .i64 (formV i), .int .i64 (costV i)], ptr fb 0] H = some (.ret (.bool true), H.new (.rw [.string (nmL.getD i emp), .int .i64 (formV i), .int .i64 (costV i)])) := by rw [hcall, decide_eq_true hc]
      simp -implicitDefEqProofs only [s69_b1, ↓GVdn, GVup, goInt, splice, okC, Fr.of, Fr.ofI, Fr.g, Nat.reduceAdd, Nat.reduceMul, Nat.reduceEqDiff, Nat.reduceLT, Nat.reduceLeDiff, Nat.reduceBEq, Int.reduceLT, Int.reduceLE, Int.reduceToNat, Int.reduceAdd, Int.reduceSub, Int.reduceMul, Int.reduceEq, Int.reduceNeg, ↓reduceIte, ↓reduceDIte, Nat.beq, reduceCtorEq, Value.int.injEq, Nat.reduceSub, sto_ptr, hlt, hin, hb, hle, hle2, hfa, clV, List.append_nil, hcall']
    · refine ⟨H', ?_⟩
      rw [if_neg hc, ← ih]
      have hcall' : C 71 [.agg #[.string (nmL.getD i emp), .int .i64 (formV i), .int .i64 (costV i)], ptr fb 0] H = some (.ret (.bool false), H.new (.rw [.string (nmL.getD i emp), .int .i64 (formV i), .int .i64 (costV i)])) := by rw [hcall, decide_eq_false hc]
      simp -implicitDefEqProofs only [s69_b1, ↓GVdn, GVup, goInt, splice, okC, Fr.of, Fr.ofI, Fr.g, Nat.reduceAdd, Nat.reduceMul, Nat.reduceEqDiff, Nat.reduceLT, Nat.reduceLeDiff, Nat.reduceBEq, Int.reduceLT, Int.reduceLE, Int.reduceToNat, Int.reduceAdd, Int.reduceSub, Int.reduceMul, Int.reduceEq, Int.reduceNeg, ↓reduceIte, ↓reduceDIte, Nat.beq, reduceCtorEq, Value.int.injEq, Nat.reduceSub, sto_ptr, hlt, hin, hb, hle, hle2, hfa, clV, List.append_nil, hcall', hw]
theorem st_whole {n : Nat} {H : Hp} {Z vs : List Value} {v : Value} (hbx : bx v = some vs) (hn : vs.length = n) (hz : Z.length = n) (hok : vs.all okC = true) (hl : H.lim ≤ H.next) :
    st n (ptr H.next 0) v (H.new (.rw Z)) = some ((H.new (.rw Z)).set H.next (.rw vs)) := by
  rw [st_ptr, wc_new, if_pos rfl, if_pos hl]
  simp only [Option.bind_some, hbx]
  rw [if_pos ⟨hn, by omega, hok⟩, splice_eq _ _ _ (by omega)]
  have : Z.drop (0 + vs.length) = [] := List.drop_eq_nil_of_le (by omega)
  rw [this]
  simp
theorem FA_bx : bx FORMS = some FL := rfl
theorem FL_ok : FL.all okC = true := by kernel_rfl
def Z216 : List Value := rep 72 [.string ⟨#[]⟩, .int .i64 0, .int .i64 0]
theorem s70_form (C : Cl) (n : Nat) (H : Hp) : s70 C n H = callK (C 43 [] H) pnK fun t2 H1 => (st 216 (ptr H1.next 0) t2 (H1.new (.rw Z216))).bind fun H3 => (slA 72 3 (ptr H1.next 0) none none H3).bind fun t3 => some (.ret t3, H3) := by kernel_rfl
/-- the row of all forms -/
theorem v70 (n : Nat) (H : Hp) (hl : H.lim ≤ H.next) : evCall cfc (n+2) 70 [] H = some (.ret (.slice (some ⟨H.next, 0, none⟩) 72 3), (H.new (.rw Z216)).set H.next (.rw FL)) := by
  rw [q70, s70_form, v43 n H, callK_ret]
  rw [st_whole FA_bx FL_len (by kernel_rfl) FL_ok hl]
  simp only [Option.bind_some]
  have : slA 72 3 (ptr H.next 0) none none ((H.new (.rw Z216)).set H.next (.rw FL)) = some (.slice (some ⟨H.next, 0, none⟩) 72 3) := by
    have h1 : ((H.new (.rw Z216)).set H.next (.rw FL)).cells H.next = some FL := by rw [cells_set, if_pos rfl]
    simp [slA, ptr, h1, FL_len, optInt]
  rw [this]
  rfl
theorem v50 (n : Nat) (hn : 73 ≤ n) (s : ByteArray) (H : Hp) : evCall cfc (n+3) 50 [.string s] H = some (.ret (.tuple #[.int .i64 (namedV s), .bool (decide (0 ≤ namedV s))]), H) := by
  rw [q50 (n+2) _ rfl H]
  unfold s50
  simp only [bx_str, Option.bind_some]
  have hl : (Hp.fl.new (.rw [.string s])).lim ≤ (Hp.fl.new (.rw [.string s])).next := by simp only [Hp.lim_new, Hp.next_new, lim_fl, next_fl]; omega
  have h70 := v70 n (Hp.fl.new (.rw [.string s])) hl
  rw [h70, callK_ret]
  have hsl : slV 3 (.slice (some ⟨(Hp.fl.new (.rw [.string s])).next, 0, none⟩) 72 3) none none = some (.slice (some ⟨(Hp.fl.new (.rw [.string s])).next, 0, none⟩) 72 3) := rfl
  rw [hsl]
  simp only [Option.bind_some]
  rw [q69]
  unfold s69
  have hlen : ∀ b H, len 1 (.slice (some ⟨b, 0, none⟩) 72 3) H = some (.int .i64 72) := fun _ _ => rfl
  rw [hlen]
  simp only [Option.bind_some]
  generalize hH : (((Hp.fl.new (.rw [.string s])).new (.rw Z216)).set (Hp.fl.new (.rw [.string s])).next (.rw FL)) = H3
  obtain ⟨H', hloop⟩ := named_loop (evCall cfc (n+1)) (n+1) s 11 10 (fun j7 f8 H9 => if j7 = 0 then some (.ret (.int .i64 (-1)), H9) else none) (fun f10 H11 => some (.ret (f10.g 4), H11))
    (fun H a f c h1 h2 => v71 n H a s f c 10 h1 h2) 72 0 (n+1) (by omega) (by omega) H3 (by subst hH; rw [cells_set, if_pos (by rfl)])
      (by subst hH; rw [cells_set, if_neg (by show ¬ (10 = 11); decide), cells_new, if_neg (by show ¬ (10 = 11); decide), cells_new, if_pos (by rfl)]) (by subst hH; show 11 < 12; decide) (by subst hH; show 10 < 12; decide)
  have e1 : (Hp.fl.new (.rw [.string s])).next = 11 := rfl
  have e2 : (Hp.fl).next = 10 := rfl
  rw [e1, e2]
  have e3 : (.func (.func 71) [].toArray [ptr 10 0].toArray : Value) = .func (.func 71) #[] #[ptr 10 0] := rfl
  rw [e3]
  refine (congrArg (fun r => movR [] H (callK r pnK _)) hloop).trans ?_
  have e4 : nmL.drop 0 = nmL := rfl
  rw [e4]
  unfold namedV
  cases findN s nmL 0 with
  | some j =>
    have h0 : (0 : Int) ≤ (j : Int) := by omega
    simp -implicitDefEqProofs only [↓GVdn, GVup, goInt, splice, okC, Fr.of, Fr.ofI, Fr.g, Nat.reduceAdd, Nat.reduceMul, Nat.reduceEqDiff, Nat.reduceLT, Nat.reduceLeDiff, Nat.reduceBEq, Int.reduceLT, Int.reduceLE, Int.reduceToNat, Int.reduceAdd, Int.reduceSub, Int.reduceMul, Int.reduceEq, Int.reduceNeg, ↓reduceIte, ↓reduceDIte, Nat.beq, reduceCtorEq, Value.int.injEq, Nat.reduceSub, sto_ptr, lp_succ, h0, flat_ib]
  | none =>
    simp -implicitDefEqProofs only [↓GVdn, GVup, goInt, splice, okC, Fr.of, Fr.ofI, Fr.g, Nat.reduceAdd, Nat.reduceMul, Nat.reduceEqDiff, Nat.reduceLT, Nat.reduceLeDiff, Nat.reduceBEq, Int.reduceLT, Int.reduceLE, Int.reduceToNat, Int.reduceAdd, Int.reduceSub, Int.reduceMul, Int.reduceEq, Int.reduceNeg, ↓reduceIte, ↓reduceDIte, Nat.beq, reduceCtorEq, Value.int.injEq, Nat.reduceSub, sto_ptr, lp_succ, flat_ib]
end Go.Proofs.YtbaooebafijenaaDoor
