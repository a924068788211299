/- A label's distance put in. -/
import Derived.Test.YtbaooebafijenaaGreatDoorHOne3
import Derived.Test.YtbaooebafijenaaGreatDoorHvBun
namespace Go.Proofs.YtbaooebafijenaaGreatDoor
open Go Go.Ev
set_option maxRecDepth 100000
set_option linter.unusedSimpArgs false
set_option linter.unusedVariables false
set_option maxHeartbeats 4000000
set_option linter.unusedSectionVars false
variable [Mx]
attribute [local congr] bind_front callK_front jn_front ifB_front ifG_front lp_front
theorem q16 (n : Nat) (x y : Value) (H : Hp) : evCall cfc (n+1) 16 [x, y] H = s16 (evCall cfc n) n x y H := by
  rw [evCall_open (fn := Tryz.f16) (by rfl) (by rfl) Tryz.func16 (by rfl)]
  exact s16_eq _ _ _ _ _
/-- the instruction of a word whose Imm is a label's -/
def Want.ins (w : Want) (z : Int) : Ins := { w.i with I := IntKind.wrap .i64 (z - w.at_) }
def Ins.chk (i : Ins) : Int := chkV i.op i.A i.B i.C i.I
def Ins.word (i : Ins) : Int := encV i.op i.A i.B i.C i.I
def resV (a : Asm) (w : Want) : Except (Int × Int) Asm :=
  match findL w.lab a.labels with
  | none => .error (w.line, 302)
  | some z => if (w.ins z).chk = 0 then .ok { a with words := a.words.set w.at_.toNat (w.ins z).word } else .error (w.line, 2)
def st40 (n : Nat) (A mb : Nat) (H : Hp) (wb tb : Option Nat) (w : Want) (r : Except (Int × Int) Asm) : Prop :=
  match r with
  | .error (l, e) => ∃ H' p, evCall cfc (n+10) 16 [ptr A 0, .agg w.cells.toArray] H = some (.pan (faultP p), H') ∧ PanS H H' p l e
  | .ok a' => ∃ H', evCall cfc (n+10) 16 [ptr A 0, .agg w.cells.toArray] H = some (.ret (.tuple #[]), H') ∧ AsS H' A mb a' wb tb ∧ H.next ≤ H'.next ∧ H'.lim = H.lim ∧ ∀ b, b < H.next → wb ≠ some b → H'.get b = H.get b
theorem v16 (n : Nat) (A mb : Nat) (H : Hp) (a : Asm) (wb tb : Option Nat) (w : Want) (hS : AsS H A mb a wb tb) (hat : 0 ≤ w.at_ ∧ w.at_ < a.words.length) : st40 n A mb H wb tb w (resV a w) := by
  obtain ⟨es, ck, m1, m2⟩ := hS.mp
  have nA := hS.nA
  have nm := hS.nm
  have lA := hS.lA
  have cA := cells_get hS.cell
  have hAn : (A = H.next) = False := eq_false (by omega)
  have hl0 : (H.lim ≤ H.next) = True := eq_true (by omega)
  obtain ⟨line, at_, ⟨op, iA, iB, iC, iI⟩, lab⟩ := w
  simp only at hat
  have mH1 : ∀ cs, (H.new (.rw cs)).get mb = some (.mp es ck) := fun cs => by rw [Hp.get_new, if_neg (by omega)]; exact m1
  have hlk : ∀ cs L, lkup true (.int .i64 0) true (.map (some mb)) (.string lab) ((H.opn L).new (.rw cs)) = _ := fun cs L => lkup_MR (H := (H.opn L).new (.rw cs)) (mH1 cs) m2 lab
  unfold resV
  simp only
  cases hf : findL lab a.labels with
  | none =>
    rw [hf] at hlk
    simp only [st40] at hlk ⊢
    have h36 := fun H x => v11 (n + 8) H x line 302
    refine ⟨_, _, ?_, ⟨(by rw [rwc_new, if_pos rfl] : ((H.new (.rw [.int .i64 line, .int .i64 at_, .int .i64 op, .int .i64 iA, .int .i64 iB, .int .i64 iC, .int .i64 iI, .string lab])).new (.rw [.int .i64 line, .iface 27 (.int .i64 302)])).rwc (H.new (.rw [.int .i64 line, .int .i64 at_, .int .i64 op, .int .i64 iA, .int .i64 iB, .int .i64 iC, .int .i64 iI, .string lab])).next = _), by show H.next ≤ H.next + 1; omega, rfl, fun b h1 h2 => by simp only [Hp.get_new, Hp.get_set, Hp.next_new, Hp.next_set]; repeat rw [if_neg (by omega)]⟩⟩
    rw [q16]
    simp -implicitDefEqProofs only [s16, ↓GVdn, GVup, goInt, splice, okC, Fr.of, Fr.ofI, Fr.g, Nat.reduceAdd, Nat.reduceMul, Nat.reduceEqDiff, Nat.reduceLT, Nat.reduceLeDiff, Nat.reduceBEq, Int.reduceLT, Int.reduceLE, Int.reduceToNat, Int.reduceAdd, Int.reduceSub, Int.reduceMul, Int.reduceEq, Int.reduceNeg, ↓reduceIte, ↓reduceDIte, Nat.beq, reduceCtorEq, Value.int.injEq, Nat.reduceSub, sto_ptr, lp_succ, opn_lim, Want.cells, hAn, hl0, cA, hlk, h36, callK_pan, jn_pan, pnJ_eq, pnK_eq]
  | some z =>
    rw [hf] at hlk
    simp only at hlk ⊢
    have h16 := fun H => v20 (n + 1) H op iA iB iC (IntKind.wrap .i64 (z - at_))
    simp only [encR_W] at h16
    by_cases hk : chkV op iA iB iC (IntKind.wrap .i64 (z - at_)) = 0
    · have e1 : encW op iA iB iC (IntKind.wrap .i64 (z - at_)) = encV op iA iB iC (IntKind.wrap .i64 (z - at_)) := if_pos hk
      rw [if_pos (show (Want.ins ⟨line, at_, ⟨op, iA, iB, iC, iI⟩, lab⟩ z).chk = 0 from hk)]
      have hwr := hS.wr
      cases wb with
      | none =>
        have : wvs a.words = [] := hwr
        have h0 : a.words.length = 0 := by have := congrArg List.length this; rwa [wvs_len] at this
        omega
      | some bb =>
        have hb := hwr.2.2.1
        have hbl := hwr.2.1
        have hbA := (hS.dw bb rfl).1
        have hbn : (bb = H.next) = False := eq_false (by omega)
        obtain ⟨j, rfl⟩ := Int.eq_ofNat_of_zero_le hat.1
        have hj : j < a.words.length := by omega
        have hin : (0 ≤ (j : Int) ∧ (j : Int) < (a.words.length : Int)) = True := eq_true (by omega)
        have hin2 : ((j : Int) < (a.words.length : Int)) = True := eq_true (by omega)
        have hspl : ∀ z, splice (wvs a.words) j [.int .u32 z] = wvs (a.words.set j z) := by
          intro z
          simp only [splice, wvs]
          rw [List.map_set]
        have fW : st 1 (ptr bb j) (.int .u32 (encV op iA iB iC (IntKind.wrap .i64 (z - j)))) ((H.new (.rw [.int .i64 line, .int .i64 j, .int .i64 op, .int .i64 iA, .int .i64 iB, .int .i64 iC, .int .i64 iI, .string lab])).set H.next (.rw [.int .i64 line, .int .i64 j, .int .i64 op, .int .i64 iA, .int .i64 iB, .int .i64 iC, .int .i64 (IntKind.wrap .i64 (z - j)), .string lab])) = some (((H.new (.rw [.int .i64 line, .int .i64 j, .int .i64 op, .int .i64 iA, .int .i64 iB, .int .i64 iC, .int .i64 iI, .string lab])).set H.next (.rw [.int .i64 line, .int .i64 j, .int .i64 op, .int .i64 iA, .int .i64 iB, .int .i64 iC, .int .i64 (IntKind.wrap .i64 (z - j)), .string lab])).set bb (.rw (wvs (a.words.set j (encV op iA iB iC (IntKind.wrap .i64 (z - j))))))) := by
          rw [← hspl]
          exact st_rwc (cs := wvs a.words) (o := j) (n := 1) (vs := [.int .u32 (encV op iA iB iC (IntKind.wrap .i64 (z - j)))]) (by rw [rwc_set, if_neg (by omega), rwc_new, if_neg (by omega)]; exact rwc_get hwr.1) hbl rfl rfl (by rw [wvs_len]; omega) rfl
        have fI : st 1 (ptr H.next 6) (.int .i64 (IntKind.wrap .i64 (z - j))) (H.new (.rw [.int .i64 line, .int .i64 j, .int .i64 op, .int .i64 iA, .int .i64 iB, .int .i64 iC, .int .i64 iI, .string lab])) = some ((H.new (.rw [.int .i64 line, .int .i64 j, .int .i64 op, .int .i64 iA, .int .i64 iB, .int .i64 iC, .int .i64 iI, .string lab])).set H.next (.rw [.int .i64 line, .int .i64 j, .int .i64 op, .int .i64 iA, .int .i64 iB, .int .i64 iC, .int .i64 (IntKind.wrap .i64 (z - j)), .string lab])) :=
          st_rwc (H := H.new (.rw [.int .i64 line, .int .i64 j, .int .i64 op, .int .i64 iA, .int .i64 iB, .int .i64 iC, .int .i64 iI, .string lab])) (b := H.next) (cs := [.int .i64 line, .int .i64 j, .int .i64 op, .int .i64 iA, .int .i64 iB, .int .i64 iC, .int .i64 iI, .string lab]) (o := 6) (n := 1) (vs := [.int .i64 (IntKind.wrap .i64 (z - j))]) (by rw [rwc_new, if_pos rfl]) (by show H.lim ≤ _; omega) rfl rfl (by simp) rfl
        simp only [st40]
        refine ⟨((H.new (.rw [.int .i64 line, .int .i64 j, .int .i64 op, .int .i64 iA, .int .i64 iB, .int .i64 iC, .int .i64 iI, .string lab])).set H.next (.rw [.int .i64 line, .int .i64 j, .int .i64 op, .int .i64 iA, .int .i64 iB, .int .i64 iC, .int .i64 (IntKind.wrap .i64 (z - j)), .string lab])).set bb (.rw (wvs (a.words.set j (encV op iA iB iC (IntKind.wrap .i64 (z - j)))))), ?_, ?_, ?_, rfl, ?_⟩
        · rw [q16]
          simp only [svOf] at cA
          simp -implicitDefEqProofs only [s16, ↓GVdn, GVup, goInt, splice, okC, Fr.of, Fr.ofI, Fr.g, Nat.reduceAdd, Nat.reduceMul, Nat.reduceEqDiff, Nat.reduceLT, Nat.reduceLeDiff, Nat.reduceBEq, Int.reduceLT, Int.reduceLE, Int.reduceToNat, Int.reduceAdd, Int.reduceSub, Int.reduceMul, Int.reduceEq, Int.reduceNeg, ↓reduceIte, ↓reduceDIte, Nat.beq, reduceCtorEq, Value.int.injEq, Nat.reduceSub, opn_lim, Want.cells, hAn, hl0, cA, hlk, h16, hk, e1, hin, hin2, hbn, fW, fI]
        · have lm := hS.lm
          have o : ∀ b, b < H.next → b ≠ bb → (((H.new (.rw [.int .i64 line, .int .i64 j, .int .i64 op, .int .i64 iA, .int .i64 iB, .int .i64 iC, .int .i64 iI, .string lab])).set H.next (.rw [.int .i64 line, .int .i64 j, .int .i64 op, .int .i64 iA, .int .i64 iB, .int .i64 iC, .int .i64 (IntKind.wrap .i64 (z - j)), .string lab])).set bb (.rw (wvs (a.words.set j (encV op iA iB iC (IntKind.wrap .i64 (z - j))))))).get b = H.get b := fun b h1 h2 => by
            rw [Hp.get_set, if_neg h2, Hp.get_set, if_neg (by omega), Hp.get_new, if_neg (by omega)]
          refine ⟨hS.h12, hS.gn, lA, lm, by show A < H.next + 1; omega, by show mb < H.next + 1; omega, hS.ne, ?_, ?_, ?_, ?_, hS.dw, hS.dt, ?_⟩
          · rw [o A nA (fun e => hbA e.symm), hS.cell]
            simp
          · refine ⟨es, ck, ?_, m2⟩
            rw [o mb nm (fun e => row_ne hS.wr m1 (by rw [e]))]
            exact m1
          · refine ⟨?_, hbl, by show bb < H.next + 1; omega, ?_⟩
            · rw [Hp.get_set, if_pos rfl]
              rfl
            · intro e
              have h0 := congrArg List.length e
              rw [wvs_len, List.length_set, List.length_nil] at h0
              omega
          · exact row_keep hS.tr (fun b hb => o b (by have := hS.tr; subst hb; exact this.2.2.1) (fun e => (hS.dw bb rfl).2 (by rw [hb, e]))) (by show H.next ≤ H.next + 1; omega)
          · simp only [List.length_set]
            exact hS.bw
        · show H.next ≤ H.next + 1; omega
        · intro b h1 h2
          rw [Hp.get_set, if_neg (fun e => h2 (by rw [e])), Hp.get_set, if_neg (by omega), Hp.get_new, if_neg (by omega)]
    · rw [if_neg (show ¬ (Want.ins ⟨line, at_, ⟨op, iA, iB, iC, iI⟩, lab⟩ z).chk = 0 from hk)]
      have h36 := fun H x => v11 (n + 8) H x line 2
      simp only [st40]
      refine ⟨_, _, ?_, ⟨(by rw [rwc_new, if_pos rfl] : (((H.new (.rw [.int .i64 line, .int .i64 at_, .int .i64 op, .int .i64 iA, .int .i64 iB, .int .i64 iC, .int .i64 iI, .string lab])).set H.next (.rw [.int .i64 line, .int .i64 at_, .int .i64 op, .int .i64 iA, .int .i64 iB, .int .i64 iC, .int .i64 (IntKind.wrap .i64 (z - at_)), .string lab])).new (.rw [.int .i64 line, .iface 27 (.int .i64 2)])).rwc ((H.new (.rw [.int .i64 line, .int .i64 at_, .int .i64 op, .int .i64 iA, .int .i64 iB, .int .i64 iC, .int .i64 iI, .string lab])).set H.next (.rw [.int .i64 line, .int .i64 at_, .int .i64 op, .int .i64 iA, .int .i64 iB, .int .i64 iC, .int .i64 (IntKind.wrap .i64 (z - at_)), .string lab])).next = _), by show H.next ≤ H.next + 1; omega, rfl, fun b h1 h2 => by simp only [Hp.get_new, Hp.get_set, Hp.next_new, Hp.next_set]; repeat rw [if_neg (by omega)]⟩⟩
      rw [q16]
      simp -implicitDefEqProofs only [s16, ↓GVdn, GVup, goInt, splice, okC, Fr.of, Fr.ofI, Fr.g, Nat.reduceAdd, Nat.reduceMul, Nat.reduceEqDiff, Nat.reduceLT, Nat.reduceLeDiff, Nat.reduceBEq, Int.reduceLT, Int.reduceLE, Int.reduceToNat, Int.reduceAdd, Int.reduceSub, Int.reduceMul, Int.reduceEq, Int.reduceNeg, ↓reduceIte, ↓reduceDIte, Nat.beq, reduceCtorEq, Value.int.injEq, Nat.reduceSub, sto_ptr, lp_succ, opn_lim, Want.cells, hAn, hl0, cA, hlk, h16, hk, h36, callK_pan, jn_pan, pnJ_eq, pnK_eq]
end Go.Proofs.YtbaooebafijenaaGreatDoor
