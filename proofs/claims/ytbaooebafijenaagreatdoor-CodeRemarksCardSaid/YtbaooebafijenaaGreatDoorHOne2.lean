/- A line put in: the whole. -/
import Derived.Test.YtbaooebafijenaaGreatDoorHOne
import Derived.Test.YtbaooebafijenaaGreatDoorHvBun
namespace Go.Proofs.YtbaooebafijenaaGreatDoor
open Go Go.Ev
set_option maxRecDepth 100000
set_option linter.unusedSimpArgs false
set_option linter.unusedVariables false
set_option maxHeartbeats 2000000
set_option linter.unusedSectionVars false
variable [Mx]
attribute [local congr] bind_front callK_front jn_front ifB_front ifG_front lp_front
def addL (ls : List (ByteArray × Int)) (n : Int) : List ByteArray → Option (List (ByteArray × Int))
  | [] => some ls
  | s :: r => match findL s ls with
    | some _ => none
    | none => addL (ls ++ [(s, n)]) n r
structure L2S (H : Hp) (A mb : Nat) (wv tv : Value) (line : Int) (ls : List (ByteArray × Int)) (names : List ByteArray) (nb : Option Nat) (lo : Nat) : Prop where
  h12 : 13 ≤ mb
  lm : H.lim ≤ mb
  ne : A ≠ mb
  cell : H.get A = some (.rw [wv, .map (some mb), tv, .int .i64 line])
  mp : ∃ es ck, H.get mb = some (.mp es ck) ∧ MR es ls
  row : RowS H nb lo (names.map Value.string)
theorem row_set {H : Hp} {lb : Option Nat} {lo : Nat} {cs : List Value} (h : RowS H lb lo cs) {b : Nat} (x : Blk) (hb : lb ≠ some b) : RowS (H.set b x) lb lo cs := by
  cases lb with
  | none => exact h
  | some l => exact ⟨by rw [Hp.get_set, if_neg (fun e => hb (by rw [e]))]; exact h.1, h.2.1, h.2.2.1, h.2.2.2⟩
theorem row_keep {H H' : Hp} {lb : Option Nat} {lo : Nat} {cs : List Value} (h : RowS H lb lo cs) (hk : ∀ b, lb = some b → H'.get b = H.get b) (hn : H.next ≤ H'.next) : RowS H' lb lo cs := by
  cases lb with
  | none => exact h
  | some l => exact ⟨by rw [hk l rfl]; exact h.1, h.2.1, by have := h.2.2.1; omega, h.2.2.2⟩
theorem row_lo {H : Hp} {lb : Option Nat} {lo lo' : Nat} {cs : List Value} (h : RowS H lb lo cs) (hl : lo' ≤ lo) : RowS H lb lo' cs := by
  cases lb with
  | none => exact h
  | some l => exact ⟨h.1, by have := h.2.1; omega, h.2.2⟩
theorem row_ne {H : Hp} {lb : Option Nat} {lo : Nat} {cs : List Value} (h : RowS H lb lo cs) {b : Nat} {es : List MapEntry} {ck : Nat} (hm : H.get b = some (.mp es ck)) : lb ≠ some b := by
  intro e
  subst e
  have := h.1
  rw [hm] at this
  cases this
theorem one_l2 (n : Nat) (A mb W : Nat) (wv tv sv : Value) (line : Int) (nW : Nat) (hwv : ∀ H, len 1 wv H = some (.int .i64 nW)) (names : List ByteArray) (nb : Option Nat) (lo : Nat) (hnl : names.length ≤ 4294967296) : ∀ (r k m : Nat), k + r = names.length → r < m → ∀ (H : Hp) (ls : List (ByteArray × Int)), L2S H A mb wv tv line ls names nb lo →
    match addL ls nW (names.drop k) with
    | none => ∃ H' p, (∀ (kx : Nat → Fr → Hp → Option (Out × Hp)) (kr : Fr → Hp → Option (Out × Hp)), lp (s14_b2 (evCall cfc (n+1)) (n+1)) m [ptr A 0, sv, ptr W 0, svOf nb names.length 1, .int .i64 names.length, .int .i64 k] H kx kr = some (.pan (faultP p), H')) ∧ PanS H H' p line 301
    | some ls' => ∃ H', (∀ (kx : Nat → Fr → Hp → Option (Out × Hp)) (kr : Fr → Hp → Option (Out × Hp)), lp (s14_b2 (evCall cfc (n+1)) (n+1)) m [ptr A 0, sv, ptr W 0, svOf nb names.length 1, .int .i64 names.length, .int .i64 k] H kx kr = kx 2 (Fr.of [0, 5, 6] [ptr A 0, sv, ptr W 0]) H') ∧ L2S H' A mb wv tv line ls' names nb lo ∧ H'.next = H.next ∧ H'.lim = H.lim ∧ ∀ b, b ≠ mb → H'.get b = H.get b := by
  intro r
  induction r with
  | zero =>
    intro k m hk hm H ls hL
    obtain ⟨m, rfl⟩ : ∃ q, m = q + 1 := ⟨m - 1, by omega⟩
    have e : names.drop k = [] := List.drop_eq_nil_of_le (by omega)
    rw [e]
    simp only [addL]
    refine ⟨H, fun kx kr => ?_, hL, rfl, rfl, fun _ _ => rfl⟩
    have hlt : ((k : Int) < (names.length : Int)) = False := eq_false (by omega)
    rw [lp_succ]
    simp -implicitDefEqProofs only [s14_b2, ↓GVdn, GVup, goInt, splice, okC, Fr.of, Fr.ofI, Fr.g, Nat.reduceAdd, Nat.reduceMul, Nat.reduceEqDiff, Nat.reduceLT, Nat.reduceLeDiff, Nat.reduceBEq, Int.reduceLT, Int.reduceLE, Int.reduceToNat, Int.reduceAdd, Int.reduceSub, Int.reduceMul, Int.reduceEq, Int.reduceNeg, ↓reduceIte, ↓reduceDIte, Nat.beq, reduceCtorEq, Value.int.injEq, Nat.reduceSub, sto_ptr, hlt]
  | succ r ih =>
    intro k m hk hm H ls hL
    obtain ⟨m, rfl⟩ : ∃ q, m = q + 1 := ⟨m - 1, by omega⟩
    have hkl : k < names.length := by omega
    have hd : names.drop k = names[k] :: names.drop (k + 1) := List.drop_eq_getElem_cons hkl
    have hlt : ((k : Int) < (names.length : Int)) = True := eq_true (by omega)
    have hi0 : ((0 : Int) ≤ (k : Int)) = True := eq_true (by omega)
    have hw1 : IntKind.wrap .i64 ((k : Int) + 1) = ((k + 1 : Nat) : Int) := by rw [IntWalk.i64_in _ (by omega)]; rfl
    have hrow := hL.row
    have hg : (names.map Value.string)[k]? = some (.string names[k]) := by simp [hkl]
    obtain ⟨es, ck, hm1, hm2⟩ := hL.mp
    have hnm := row_ne hL.row hm1
    rw [hd]
    simp only [addL]
    generalize names[k] = s at hg ⊢
    have cA := cells_get hL.cell
    have hlk := lkup_MR hm1 hm2 s
    cases nb with
    | none => exact absurd (show names.map Value.string = [] from hrow) (by intro e; rw [e] at hg; cases hg)
    | some bb =>
      have cN := cells_get hrow.1
      cases hf : findL s ls with
      | some z =>
        rw [hf] at hlk
        simp only at hlk
        simp only
        have h36 := fun H x => v11 n H x line 301
        refine ⟨_, _, fun kx kr => ?_, ⟨(by rw [rwc_new, if_pos rfl] : (H.new (.rw [.int .i64 line, .iface 27 (.int .i64 301)])).rwc H.next = _), Nat.le_refl _, rfl, fun b h1 h2 => by simp only [Hp.get_new, Hp.get_set, Hp.next_new, Hp.next_set]; repeat rw [if_neg (by omega)]⟩⟩
        rw [lp_succ]
        simp -implicitDefEqProofs only [s14_b2, ↓GVdn, GVup, goInt, splice, okC, Fr.of, Fr.ofI, Fr.g, Nat.reduceAdd, Nat.reduceMul, Nat.reduceEqDiff, Nat.reduceLT, Nat.reduceLeDiff, Nat.reduceBEq, Int.reduceLT, Int.reduceLE, Int.reduceToNat, Int.reduceAdd, Int.reduceSub, Int.reduceMul, Int.reduceEq, Int.reduceNeg, ↓reduceIte, ↓reduceDIte, Nat.beq, reduceCtorEq, Value.int.injEq, Nat.reduceSub, sto_ptr, opn_lim, svOf, hlt, hi0, cA, cN, hg, hlk, h36, callK_pan, jn_pan, pnJ_eq, pnK_eq]
      | none =>
        rw [hf] at hlk
        simp only at hlk
        simp only
        obtain ⟨es', u1, u2⟩ := mupd_MR hm1 hm2 hL.lm s hf nW
        have hL2 : L2S (H.set mb (.mp es' (ck + 1))) A mb wv tv line (ls ++ [(s, (nW : Int))]) names (some bb) lo :=
          ⟨hL.h12, hL.lm, hL.ne, by rw [Hp.get_set, if_neg hL.ne]; exact hL.cell, ⟨es', ck + 1, by rw [Hp.get_set, if_pos rfl], u2⟩, row_set hrow _ hnm⟩
        have ih := ih (k + 1) m (by omega) (by omega) (H.set mb (.mp es' (ck + 1))) _ hL2
        have step : ∀ kx kr, lp (s14_b2 (evCall cfc (n+1)) (n+1)) (m + 1) [ptr A 0, sv, ptr W 0, svOf (some bb) names.length 1, .int .i64 names.length, .int .i64 k] H kx kr = lp (s14_b2 (evCall cfc (n+1)) (n+1)) m [ptr A 0, sv, ptr W 0, svOf (some bb) names.length 1, .int .i64 names.length, .int .i64 ((k + 1 : Nat) : Int)] (H.set mb (.mp es' (ck + 1))) kx kr := by
          intro kx kr
          rw [lp_succ]
          simp -implicitDefEqProofs only [s14_b2, ↓GVdn, GVup, goInt, splice, okC, Fr.of, Fr.ofI, Fr.g, Nat.reduceAdd, Nat.reduceMul, Nat.reduceEqDiff, Nat.reduceLT, Nat.reduceLeDiff, Nat.reduceBEq, Int.reduceLT, Int.reduceLE, Int.reduceToNat, Int.reduceAdd, Int.reduceSub, Int.reduceMul, Int.reduceEq, Int.reduceNeg, ↓reduceIte, ↓reduceDIte, Nat.beq, reduceCtorEq, Value.int.injEq, Nat.reduceSub, sto_ptr, opn_lim, svOf, hlt, hi0, cA, cN, hg, hlk, hwv, u1, hw1]
        simp only [step]
        cases ha : addL (ls ++ [(s, (nW : Int))]) nW (names.drop (k + 1)) with
        | none =>
          rw [ha] at ih
          obtain ⟨H', p, i1, i2⟩ := ih
          exact ⟨H', p, i1, ⟨i2.cell, i2.new, i2.lim, fun b h1 h2 => by rw [i2.old b h1 h2, Hp.get_set, if_neg (by have := hL.h12; omega)]⟩⟩
        | some ls' =>
          rw [ha] at ih
          obtain ⟨H', i1, i2, i3, i4, i5⟩ := ih
          exact ⟨H', i1, i2, i3, i4, fun b hb => by rw [i5 b hb, Hp.get_set, if_neg hb]⟩
end Go.Proofs.YtbaooebafijenaaGreatDoor
