/- The words of a program's text. -/
import Derived.Test.YtbaooebafijenaaGreatDoorHOne3
import Derived.Test.YtbaooebafijenaaGreatDoorHvBun
import Derived.Lib.SplitLaws
namespace Go.Proofs.YtbaooebafijenaaGreatDoor
open Go Go.Ev
set_option maxRecDepth 100000
set_option linter.unusedSimpArgs false
set_option linter.unusedVariables false
set_option maxHeartbeats 4000000
set_option linter.unusedSectionVars false
variable [Mx]
attribute [local congr] bind_front callK_front jn_front ifB_front ifG_front lp_front
theorem q16 (n : Nat) (x y : Value) (H : Hp) : evCall cfc (n+1) 16 [x, y] H = s16 (evCall cfc n) n x y H := by
 rw [evCall_open (fn := Tryz.f16) (by rfl) (by rfl) Tryz.func16 (by rfl)]
 exact s16_eq _ _ _ _ _
def Want.ins (w : Want) (z : Int) : Ins := { w.i with I := IntKind.wrap .i64 (z - w.at_) }
def Ins.chk (i : Ins) : Int := chkV i.op i.A i.B i.C i.I
def Ins.word (i : Ins) : Int := encV i.op i.A i.B i.C i.I
def resV (a : Asm) (w : Want) : Except (Int × Int) Asm :=
 match findL w.lab a.labels with
 | none => .error (w.line, 302)
 | some z => if (w.ins z).chk = 0 then .ok { a with words := a.words.set w.at_.toNat (w.ins z).word } else .error (w.line, 2)
def st40 (n : Nat) (A mb : Nat) (H : Hp) (wb tb : Option Nat) (w : Want) (r : Except (Int × Int) Asm) : Prop :=
 match r with
 | .error (l, e) => ∃ H' p, evCall cfc (n+10) 16 [ptr A 0, .agg w.cells.toArray] H = some (.pan (faultP p), H') ∧ PanS H H' p l e
 | .ok a' => ∃ H', evCall cfc (n+10) 16 [ptr A 0, .agg w.cells.toArray] H = some (.ret (.tuple #[]), H') ∧ AsS H' A mb a' wb tb ∧ H.next ≤ H'.next ∧ H'.lim = H.lim ∧ ∀ b, b < H.next → wb ≠ some b → H'.get b = H.get b
theorem v16 (n : Nat) (A mb : Nat) (H : Hp) (a : Asm) (wb tb : Option Nat) (w : Want) (hS : AsS H A mb a wb tb) (hat : 0 ≤ w.at_ ∧ w.at_ < a.words.length) : st40 n A mb H wb tb w (resV a w) := by
 obtain ⟨es, ck, m1, m2⟩ := hS.mp
 have nA := hS.nA
 have nm := hS.nm
 have lA := hS.lA
 have cA := cells_get hS.cell
 have hAn : (A = H.next) = False := eq_false (by omega)
 have hl0 : (H.lim ≤ H.next) = True := eq_true (by omega)
 obtain ⟨line, at_, ⟨op, iA, iB, iC, iI⟩, lab⟩ := w
 simp only at hat
 have mH1 : ∀ cs, (H.new (.rw cs)).get mb = some (.mp es ck) := fun cs => by rw [Hp.get_new, if_neg (by omega)]; exact m1
 have hlk : ∀ cs L, lkup true (.int .i64 0) true (.map (some mb)) (.string lab) ((H.opn L).new (.rw cs)) = _ := fun cs L => lkup_MR (H := (H.opn L).new (.rw cs)) (mH1 cs) m2 lab
 unfold resV
 simp only
 cases hf : findL lab a.labels with
 | none =>
   rw [hf] at hlk
   simp only [st40] at hlk ⊢
   have h36 := fun H x => v11 (n + 8) H x line 302
   refine ⟨_, _, ?_, ⟨(by rw [rwc_new, if_pos rfl] : ((H.new (.rw [.int .i64 line, .int .i64 at_, .int .i64 op, .int .i64 iA, .int .i64 iB, .int .i64 iC, .int .i64 iI, .string lab])).new (.rw [.int .i64 line, .iface 27 (.int .i64 302)])).rwc (H.new (.rw [.int .i64 line, .int .i64 at_, .int .i64 op, .int .i64 iA, .int .i64 iB, .int .i64 iC, .int .i64 iI, .string lab])).next = _), by show H.next ≤ H.next + 1; omega, rfl, fun b h1 h2 => by simp only [Hp.get_new, Hp.get_set, Hp.next_new, Hp.next_set]; repeat rw [if_neg (by omega)]⟩⟩
   rw [q16]
   simp -implicitDefEqProofs only [s16, ↓GVdn, GVup, goInt, splice, okC, Fr.of, Fr.ofI, Fr.g, Nat.reduceAdd, Nat.reduceMul, Nat.reduceEqDiff, Nat.reduceLT, Nat.reduceLeDiff, Nat.reduceBEq, Int.reduceLT, Int.reduceLE, Int.reduceToNat, Int.reduceAdd, Int.reduceSub, Int.reduceMul, Int.reduceEq, Int.reduceNeg, ↓reduceIte, ↓reduceDIte, Nat.beq, reduceCtorEq, Value.int.injEq, Nat.reduceSub, sto_ptr, lp_succ, opn_lim, Want.cells, hAn, hl0, cA, hlk, h36, callK_pan, jn_pan, pnJ_eq, pnK_eq]
 | some z =>
   rw [hf] at hlk
   simp only at hlk ⊢
   have h16 := fun H => v20 (n + 1) H op iA iB iC (IntKind.wrap .i64 (z - at_))
   simp only [encR_W] at h16
   by_cases hk : chkV op iA iB iC (IntKind.wrap .i64 (z - at_)) = 0
   · have e1 : encW op iA iB iC (IntKind.wrap .i64 (z - at_)) = encV op iA iB iC (IntKind.wrap .i64 (z - at_)) := if_pos hk
     rw [if_pos (show (Want.ins ⟨line, at_, ⟨op, iA, iB, iC, iI⟩, lab⟩ z).chk = 0 from hk)]
     have hwr := hS.wr
     cases wb with
     | none =>
       have : wvs a.words = [] := hwr
       have h0 : a.words.length = 0 := by have := congrArg List.length this; rwa [wvs_len] at this
       omega
     | some bb =>
       have hb := hwr.2.2.1
       have hbl := hwr.2.1
       have hbA := (hS.dw bb rfl).1
       have hbn : (bb = H.next) = False := eq_false (by omega)
       obtain ⟨j, rfl⟩ := Int.eq_ofNat_of_zero_le hat.1
       have hj : j < a.words.length := by omega
       have hin : (0 ≤ (j : Int) ∧ (j : Int) < (a.words.length : Int)) = True := eq_true (by omega)
       have hin2 : ((j : Int) < (a.words.length : Int)) = True := eq_true (by omega)
       have hspl : ∀ z, splice (wvs a.words) j [.int .u32 z] = wvs (a.words.set j z) := by
         intro z
         simp only [splice, wvs]
         rw [List.map_set]
       have fW : st 1 (ptr bb j) (.int .u32 (encV op iA iB iC (IntKind.wrap .i64 (z - j)))) ((H.new (.rw [.int .i64 line, .int .i64 j, .int .i64 op, .int .i64 iA, .int .i64 iB, .int .i64 iC, .int .i64 iI, .string lab])).set H.next (.rw [.int .i64 line, .int .i64 j, .int .i64 op, .int .i64 iA, .int .i64 iB, .int .i64 iC, .int .i64 (IntKind.wrap .i64 (z - j)), .string lab])) = some (((H.new (.rw [.int .i64 line, .int .i64 j, .int .i64 op, .int .i64 iA, .int .i64 iB, .int .i64 iC, .int .i64 iI, .string lab])).set H.next (.rw [.int .i64 line, .int .i64 j, .int .i64 op, .int .i64 iA, .int .i64 iB, .int .i64 iC, .int .i64 (IntKind.wrap .i64 (z - j)), .string lab])).set bb (.rw (wvs (a.words.set j (encV op iA iB iC (IntKind.wrap .i64 (z - j))))))) := by
         rw [← hspl]
         exact st_rwc (cs := wvs a.words) (o := j) (n := 1) (vs := [.int .u32 (encV op iA iB iC (IntKind.wrap .i64 (z - j)))]) (by rw [rwc_set, if_neg (by omega), rwc_new, if_neg (by omega)]; exact rwc_get hwr.1) hbl rfl rfl (by rw [wvs_len]; omega) rfl
       have fI : st 1 (ptr H.next 6) (.int .i64 (IntKind.wrap .i64 (z - j))) (H.new (.rw [.int .i64 line, .int .i64 j, .int .i64 op, .int .i64 iA, .int .i64 iB, .int .i64 iC, .int .i64 iI, .string lab])) = some ((H.new (.rw [.int .i64 line, .int .i64 j, .int .i64 op, .int .i64 iA, .int .i64 iB, .int .i64 iC, .int .i64 iI, .string lab])).set H.next (.rw [.int .i64 line, .int .i64 j, .int .i64 op, .int .i64 iA, .int .i64 iB, .int .i64 iC, .int .i64 (IntKind.wrap .i64 (z - j)), .string lab])) :=
         st_rwc (H := H.new (.rw [.int .i64 line, .int .i64 j, .int .i64 op, .int .i64 iA, .int .i64 iB, .int .i64 iC, .int .i64 iI, .string lab])) (b := H.next) (cs := [.int .i64 line, .int .i64 j, .int .i64 op, .int .i64 iA, .int .i64 iB, .int .i64 iC, .int .i64 iI, .string lab]) (o := 6) (n := 1) (vs := [.int .i64 (IntKind.wrap .i64 (z - j))]) (by rw [rwc_new, if_pos rfl]) (by show H.lim ≤ _; omega) rfl rfl (by simp) rfl
       simp only [st40]
       refine ⟨((H.new (.rw [.int .i64 line, .int .i64 j, .int .i64 op, .int .i64 iA, .int .i64 iB, .int .i64 iC, .int .i64 iI, .string lab])).set H.next (.rw [.int .i64 line, .int .i64 j, .int .i64 op, .int .i64 iA, .int .i64 iB, .int .i64 iC, .int .i64 (IntKind.wrap .i64 (z - j)), .string lab])).set bb (.rw (wvs (a.words.set j (encV op iA iB iC (IntKind.wrap .i64 (z - j)))))), ?_, ?_, ?_, rfl, ?_⟩
       · rw [q16]
         simp only [svOf] at cA
         simp -implicitDefEqProofs only [s16, ↓GVdn, GVup, goInt, splice, okC, Fr.of, Fr.ofI, Fr.g, Nat.reduceAdd, Nat.reduceMul, Nat.reduceEqDiff, Nat.reduceLT, Nat.reduceLeDiff, Nat.reduceBEq, Int.reduceLT, Int.reduceLE, Int.reduceToNat, Int.reduceAdd, Int.reduceSub, Int.reduceMul, Int.reduceEq, Int.reduceNeg, ↓reduceIte, ↓reduceDIte, Nat.beq, reduceCtorEq, Value.int.injEq, Nat.reduceSub, opn_lim, Want.cells, hAn, hl0, cA, hlk, h16, hk, e1, hin, hin2, hbn, fW, fI]
       · have lm := hS.lm
         have o : ∀ b, b < H.next → b ≠ bb → (((H.new (.rw [.int .i64 line, .int .i64 j, .int .i64 op, .int .i64 iA, .int .i64 iB, .int .i64 iC, .int .i64 iI, .string lab])).set H.next (.rw [.int .i64 line, .int .i64 j, .int .i64 op, .int .i64 iA, .int .i64 iB, .int .i64 iC, .int .i64 (IntKind.wrap .i64 (z - j)), .string lab])).set bb (.rw (wvs (a.words.set j (encV op iA iB iC (IntKind.wrap .i64 (z - j))))))).get b = H.get b := fun b h1 h2 => by
           rw [Hp.get_set, if_neg h2, Hp.get_set, if_neg (by omega), Hp.get_new, if_neg (by omega)]
         refine ⟨hS.h12, hS.gn, lA, lm, by show A < H.next + 1; omega, by show mb < H.next + 1; omega, hS.ne, ?_, ?_, ?_, ?_, hS.dw, hS.dt, ?_⟩
         · rw [o A nA (fun e => hbA e.symm), hS.cell]
           simp
         · refine ⟨es, ck, ?_, m2⟩
           rw [o mb nm (fun e => row_ne hS.wr m1 (by rw [e]))]
           exact m1
         · refine ⟨?_, hbl, by show bb < H.next + 1; omega, ?_⟩
           · rw [Hp.get_set, if_pos rfl]
             rfl
           · intro e
             have h0 := congrArg List.length e
             rw [wvs_len, List.length_set, List.length_nil] at h0
             omega
         · exact row_keep hS.tr (fun b hb => o b (by have := hS.tr; subst hb; exact this.2.2.1) (fun e => (hS.dw bb rfl).2 (by rw [hb, e]))) (by show H.next ≤ H.next + 1; omega)
         · simp only [List.length_set]
           exact hS.bw
       · show H.next ≤ H.next + 1; omega
       · intro b h1 h2
         rw [Hp.get_set, if_neg (fun e => h2 (by rw [e])), Hp.get_set, if_neg (by omega), Hp.get_new, if_neg (by omega)]
   · rw [if_neg (show ¬ (Want.ins ⟨line, at_, ⟨op, iA, iB, iC, iI⟩, lab⟩ z).chk = 0 from hk)]
     have h36 := fun H x => v11 (n + 8) H x line 2
     simp only [st40]
     refine ⟨_, _, ?_, ⟨(by rw [rwc_new, if_pos rfl] : (((H.new (.rw [.int .i64 line, .int .i64 at_, .int .i64 op, .int .i64 iA, .int .i64 iB, .int .i64 iC, .int .i64 iI, .string lab])).set H.next (.rw [.int .i64 line, .int .i64 at_, .int .i64 op, .int .i64 iA, .int .i64 iB, .int .i64 iC, .int .i64 (IntKind.wrap .i64 (z - at_)), .string lab])).new (.rw [.int .i64 line, .iface 27 (.int .i64 2)])).rwc ((H.new (.rw [.int .i64 line, .int .i64 at_, .int .i64 op, .int .i64 iA, .int .i64 iB, .int .i64 iC, .int .i64 iI, .string lab])).set H.next (.rw [.int .i64 line, .int .i64 at_, .int .i64 op, .int .i64 iA, .int .i64 iB, .int .i64 iC, .int .i64 (IntKind.wrap .i64 (z - at_)), .string lab])).next = _), by show H.next ≤ H.next + 1; omega, rfl, fun b h1 h2 => by simp only [Hp.get_new, Hp.get_set, Hp.next_new, Hp.next_set]; repeat rw [if_neg (by omega)]⟩⟩
     rw [q16]
     simp -implicitDefEqProofs only [s16, ↓GVdn, GVup, goInt, splice, okC, Fr.of, Fr.ofI, Fr.g, Nat.reduceAdd, Nat.reduceMul, Nat.reduceEqDiff, Nat.reduceLT, Nat.reduceLeDiff, Nat.reduceBEq, Int.reduceLT, Int.reduceLE, Int.reduceToNat, Int.reduceAdd, Int.reduceSub, Int.reduceMul, Int.reduceEq, Int.reduceNeg, ↓reduceIte, ↓reduceDIte, Nat.beq, reduceCtorEq, Value.int.injEq, Nat.reduceSub, sto_ptr, lp_succ, opn_lim, Want.cells, hAn, hl0, cA, hlk, h16, hk, h36, callK_pan, jn_pan, pnJ_eq, pnK_eq]
end Go.Proofs.YtbaooebafijenaaGreatDoor
namespace Go.Proofs.YtbaooebafijenaaGreatDoor
open Go Go.Ev
set_option maxRecDepth 100000
set_option linter.unusedSimpArgs false
set_option linter.unusedVariables false
set_option maxHeartbeats 4000000
set_option linter.unusedSectionVars false
variable [Mx]
attribute [local congr] bind_front callK_front jn_front ifB_front ifG_front lp_front
theorem AsS.keep {H H' : Hp} {A mb : Nat} {a : Asm} {wb tb : Option Nat} (h : AsS H A mb a wb tb) (hk : ∀ b, b < H.next → H'.get b = H.get b) (hn : H.next ≤ H'.next) (hl : H'.lim = H.lim) : AsS H' A mb a wb tb := by
 obtain ⟨es, ck, m1, m2⟩ := h.mp
 refine ⟨h.h12, by rw [hl]; exact h.gn, by rw [hl]; exact h.lA, by rw [hl]; exact h.lm, by have := h.nA; omega, by have := h.nm; omega, h.ne, by rw [hk A h.nA]; exact h.cell, ⟨es, ck, by rw [hk mb h.nm]; exact m1, m2⟩, ?_, ?_, h.dw, h.dt, h.bw⟩
 · rw [hl]
   exact row_keep h.wr (fun b hb => hk b (by have := h.wr; subst hb; exact this.2.2.1)) hn
 · rw [hl]
   exact row_keep h.tr (fun b hb => hk b (by have := h.tr; subst hb; exact this.2.2.1)) hn
theorem AsS.setLine {H : Hp} {A mb : Nat} {a : Asm} {wb tb : Option Nat} (h : AsS H A mb a wb tb) (z : Int) :
   st 1 (ptr A 3) (.int .i64 z) H = some (H.set A (.rw [svOf wb a.words.length 1, .map (some mb), svOf tb a.wants.length 8, .int .i64 z])) ∧ AsS (H.set A (.rw [svOf wb a.words.length 1, .map (some mb), svOf tb a.wants.length 8, .int .i64 z])) A mb { a with line := z } wb tb := by
 obtain ⟨es, ck, m1, m2⟩ := h.mp
 refine ⟨st_rwc (o := 3) (n := 1) (vs := [.int .i64 z]) (rwc_get h.cell) h.lA rfl rfl (by simp) rfl, h.h12, h.gn, h.lA, h.lm, h.nA, h.nm, h.ne, by rw [Hp.get_set, if_pos rfl], ⟨es, ck, by rw [Hp.get_set, if_neg (fun e => h.ne e.symm)]; exact m1, m2⟩, row_set h.wr _ (fun e => (h.dw A e).1 rfl), row_set h.tr _ (fun e => h.dt A e rfl), h.dw, h.dt, h.bw⟩
theorem tkGo_len (s : ByteArray) : ∀ (r : List UInt8) (i : Nat) (l : List ByteArray) (a : Int), (tkGo s r i l a).1.length ≤ l.length + 2 * r.length
 | [], i, l, a => by simp [tkGo]
 | c :: r, i, l, a => by
   simp only [tkGo, List.length_cons]
   have h := flushT_len s i l a
   split
   · have := tkGo_len s r (i + 1) (flushT s i l a) (-1); omega
   · split
     · have := tkGo_len s r (i + 1) (flushT s i l a ++ [s.extract i (i + 1)]) (-1)
       rw [List.length_append, List.length_cons, List.length_nil] at this
       omega
     · split
       · have := tkGo_len s r (i + 1) l i; omega
       · have := tkGo_len s r (i + 1) l a; omega
theorem tokens_len (s : ByteArray) : (tokensV s).length ≤ 2 * s.size + 1 := by
 unfold tokensV
 have h1 := tkGo_len s s.data.toList 0 [] (-1)
 have h2 := flushT_len s s.size (tkGo s s.data.toList 0 [] (-1)).1 (tkGo s s.data.toList 0 [] (-1)).2
 rw [← Lib.size_eq, List.length_nil] at h1
 omega
theorem tok_sl (n : Nat) (s : ByteArray) (hs : s.size ≤ 1073741824) (hn : s.size ≤ n) (H : Hp) : ∃ tv H', evCall cfc (n+2) 15 [.string s] H = some (.ret tv, H') ∧ SlI H' tv (tokensV s) ∧ (∀ b, b < H.next → H'.get b = H.get b) ∧ H.next ≤ H'.next ∧ H'.lim = H.lim := by
 rw [v15 n s hs hn H]
 unfold lstR
 split
 · rename_i h
   exact ⟨_, _, rfl, .inl ⟨rfl, h⟩, fun _ _ => rfl, Nat.le_refl _, rfl⟩
 · refine ⟨_, _, rfl, .inr ⟨H.next, 0, _, rfl, by rw [cells_new, if_pos rfl], by rw [List.drop_zero, List.take_of_length_le (by simp)], by simp, by simp⟩, fun b hb => by rw [Hp.get_new, if_neg (by omega)], by simp, rfl⟩
def cutS (s : ByteArray) : ByteArray := ⟨(Lib.cut s.data.toList [59]).1.toArray⟩
theorem cutS_size (s : ByteArray) : (cutS s).size ≤ s.size := by
 show (Lib.cut s.data.toList [59]).1.toArray.size ≤ _
 rw [Lib.size_eq s]
 unfold Lib.cut
 split
 · simp; omega
 · simp
theorem e38 (n : Nat) (s : ByteArray) (hs : s.size < 4294967281) (H : Hp) : ∃ b c, evCall cfc (n+1) 13 [.string s, .string ⟨#[59]⟩] H = some (.ret (.tuple #[.string (cutS s), b, c]), H) :=
 ⟨_, _, evCall_ext (show extL 13 [.string s, .string ⟨#[59]⟩] = some (cutV s ⟨#[59]⟩) from if_pos hs) n H⟩
def asmGo (a : Asm) (k : Nat) : List ByteArray → Except (Int × Int) Asm
 | [] => .ok a
 | s :: r => match oneV { a with line := ((k + 1 : Nat) : Int) } (tokensV (cutS s)) with
   | .error e => .error (((k + 1 : Nat) : Int), e)
   | .ok a' => asmGo a' (k + 1) r
structure P1 (H : Hp) (a : Asm) (wb tb : Option Nat) : Prop where
 as_ : AsS H 14 13 a wb tb
 lim : H.lim = 11
 g10 : H.get 11 = some (.rw [.slice none 0 0])
 g11 : H.get 12 = some (.rw [.nilIface])
 next : 16 ≤ H.next
 w15 : ∀ b, wb = some b → 16 ≤ b
 t15 : ∀ b, tb = some b → 16 ≤ b
def FaultS (H' : Hp) (l e : Int) (p : Nat) : Prop := H'.rwc p = some [.int .i64 l, .iface 27 (.int .i64 e)] ∧ 15 ≤ p ∧ H'.lim = 11 ∧ H'.get 11 = some (.rw [.slice none 0 0]) ∧ H'.get 12 = some (.rw [.nilIface])
theorem asm_l1 (n : Nat) (lines : List ByteArray) (nl : Nat) (hnl : nl ≤ lines.length) (hnl2 : nl ≤ 4294967296) (hsz : ∀ s ∈ lines, s.size ≤ 536870912 ∧ 2 * s.size + 1 < n) : ∀ (r k m : Nat), k + r = nl → r < m → ∀ (H : Hp) (a : Asm) (wb tb : Option Nat), P1 H a wb tb → H.get 15 = some (.rw (lines.map Value.string)) →
   match asmGo a k ((lines.take nl).drop k) with
   | .error (l, e) => ∃ H' p, (∀ (kx : Nat → Fr → Hp → Option JR) (kr : Fr → Hp → Option JR), lp (s5_b1 (evCall cfc (n+84)) (n+84)) m [ptr 11 0, ptr 12 0, ptr 14 0, .slice (some ⟨15, 0, none⟩) nl 1, .int .i64 nl, .int .i64 k] H kx kr = some (.pan (faultP p) H')) ∧ FaultS H' l e p
   | .ok a' => ∃ H' wb' tb', (∀ (kx : Nat → Fr → Hp → Option JR) (kr : Fr → Hp → Option JR), lp (s5_b1 (evCall cfc (n+84)) (n+84)) m [ptr 11 0, ptr 12 0, ptr 14 0, .slice (some ⟨15, 0, none⟩) nl 1, .int .i64 nl, .int .i64 k] H kx kr = kx 0 (Fr.of [2, 3, 4] [ptr 11 0, ptr 12 0, ptr 14 0]) H') ∧ P1 H' a' wb' tb' := by
 intro r
 induction r with
 | zero =>
   intro k m hk hm H a wb tb hP hL
   obtain ⟨m, rfl⟩ : ∃ q, m = q + 1 := ⟨m - 1, by omega⟩
   have e : (lines.take nl).drop k = [] := List.drop_eq_nil_of_le (by simp; omega)
   rw [e]
   simp only [asmGo]
   have hlt : ((k : Int) < (nl : Int)) = False := eq_false (by omega)
   refine ⟨H, wb, tb, fun kx kr => ?_, hP⟩
   rw [lp_succ]
   simp -implicitDefEqProofs only [s5_b1, ↓GVdn, GVup, goInt, splice, okC, Fr.of, Fr.ofI, Fr.g, Nat.reduceAdd, Nat.reduceMul, Nat.reduceEqDiff, Nat.reduceLT, Nat.reduceLeDiff, Nat.reduceBEq, Int.reduceLT, Int.reduceLE, Int.reduceToNat, Int.reduceAdd, Int.reduceSub, Int.reduceMul, Int.reduceEq, Int.reduceNeg, ↓reduceIte, ↓reduceDIte, Nat.beq, reduceCtorEq, Value.int.injEq, Nat.reduceSub, sto_ptr, hlt]
 | succ r ih =>
   intro k m hk hm H a wb tb hP hL
   obtain ⟨m, rfl⟩ : ∃ q, m = q + 1 := ⟨m - 1, by omega⟩
   have hkl : k < lines.length := by omega
   have hd : (lines.take nl).drop k = lines[k] :: (lines.take nl).drop (k + 1) := by
     rw [List.drop_eq_getElem_cons (by simp; omega)]
     simp
   have hmem : lines[k] ∈ lines := List.getElem_mem hkl
   have hg : (lines.map Value.string)[k]? = some (.string lines[k]) := by simp [hkl]
   rw [hd]
   simp only [asmGo]
   generalize lines[k] = s at hmem hg ⊢
   obtain ⟨hs1, hs2⟩ := hsz s hmem
   have hcs := cutS_size s
   have hlt : ((k : Int) < (nl : Int)) = True := eq_true (by omega)
   have hi0 : ((0 : Int) ≤ (k : Int)) = True := eq_true (by omega)
   have hw1 : IntKind.wrap .i64 ((k : Int) + 1) = ((k + 1 : Nat) : Int) := by rw [IntWalk.i64_in _ (by omega)]; rfl
   have c14 := cells_get hL
   obtain ⟨fL, hS1⟩ := hP.as_.setLine ((k + 1 : Nat) : Int)
   have oS : ∀ b, b ≠ 14 → (H.set 14 (.rw [svOf wb a.words.length 1, .map (some 13), svOf tb a.wants.length 8, .int .i64 ((k + 1 : Nat) : Int)])).get b = H.get b := fun b hb => by rw [Hp.get_set, if_neg hb]
   have nS : (H.set 14 (.rw [svOf wb a.words.length 1, .map (some 13), svOf tb a.wants.length 8, .int .i64 ((k + 1 : Nat) : Int)])).next = H.next := rfl
   have lS : (H.set 14 (.rw [svOf wb a.words.length 1, .map (some 13), svOf tb a.wants.length 8, .int .i64 ((k + 1 : Nat) : Int)])).lim = H.lim := rfl
   generalize H.set 14 (.rw [svOf wb a.words.length 1, .map (some 13), svOf tb a.wants.length 8, .int .i64 ((k + 1 : Nat) : Int)]) = HS at *
   obtain ⟨xb, xc, h38⟩ := e38 (n + 83) s (by omega) HS
   obtain ⟨tv, H2, h31, hsl, o2, n2, l2⟩ := tok_sl (n + 82) (cutS s) (by omega) (by omega) HS
   have hS2 := hS1.keep o2 n2 l2
   have hlen := tokens_len (cutS s)
   have h39 := v14 n 14 13 H2 { a with line := ((k + 1 : Nat) : Int) } wb tb tv (tokensV (cutS s)) hS2 hsl (fun w hw => by have := tokens_size (cutS s) w hw; omega) (by omega) (by omega)
   have hn := hP.next
   have go : ∀ b, b < H.next → b ≠ 14 → H2.get b = H.get b := fun b h1 h2 => by rw [o2 b (by omega), oS b h2]
   cases ho : oneV { a with line := ((k + 1 : Nat) : Int) } (tokensV (cutS s)) with
   | error e =>
     rw [ho] at h39
     obtain ⟨H', p, i1, i2⟩ := h39
     simp only at i1 i2 ⊢
     refine ⟨H', p, fun kx kr => ?_, i2.cell, by have := i2.new; omega, by rw [i2.lim, l2, lS, hP.lim], ?_, ?_⟩
     · rw [lp_succ]
       simp -implicitDefEqProofs only [s5_b1, ↓GVdn, GVup, goInt, splice, okC, Fr.of, Fr.ofI, Fr.g, Nat.reduceAdd, Nat.reduceMul, Nat.reduceEqDiff, Nat.reduceLT, Nat.reduceLeDiff, Nat.reduceBEq, Int.reduceLT, Int.reduceLE, Int.reduceToNat, Int.reduceAdd, Int.reduceSub, Int.reduceMul, Int.reduceEq, Int.reduceNeg, ↓reduceIte, ↓reduceDIte, Nat.beq, reduceCtorEq, Value.int.injEq, Nat.reduceSub, opn_lim, hlt, hi0, hw1, c14, hg, fL, h38, h31, i1, callK_pan, pnJ_eq]
     · rw [i2.old 11 (by omega) (by omega), go 11 (by omega) (by omega)]; exact hP.g10
     · rw [i2.old 12 (by omega) (by omega), go 12 (by omega) (by omega)]; exact hP.g11
   | ok a' =>
     rw [ho] at h39
     obtain ⟨H', wb', tb', i1, i2, i3, i4, i5, i6, i7⟩ := h39
     have keepL : ∀ b, b < 16 → b ≠ 14 → b ≠ 13 → H'.get b = H.get b := fun b h1 h2 h3 => by
       rw [i5 b (by omega) h2 h3 (fun e => by have := hP.w15 b e; omega) (fun e => by have := hP.t15 b e; omega)]
       exact go b (by omega) h2
     have hP' : P1 H' a' wb' tb' := ⟨i2, by rw [i4, l2, lS, hP.lim], by rw [keepL 11 (by omega) (by omega) (by omega)]; exact hP.g10, by rw [keepL 12 (by omega) (by omega) (by omega)]; exact hP.g11, by omega,
       fun b hb => by rcases i6 b hb with h | h; exact hP.w15 b h; omega, fun b hb => by rcases i7 b hb with h | h; exact hP.t15 b h; omega⟩
     have ih := ih (k + 1) m (by omega) (by omega) H' a' wb' tb' hP' (by rw [keepL 15 (by omega) (by omega) (by omega)]; exact hL)
     have step : ∀ (kx : Nat → Fr → Hp → Option JR) (kr : Fr → Hp → Option JR), lp (s5_b1 (evCall cfc (n+84)) (n+84)) (m + 1) [ptr 11 0, ptr 12 0, ptr 14 0, .slice (some ⟨15, 0, none⟩) nl 1, .int .i64 nl, .int .i64 k] H kx kr = lp (s5_b1 (evCall cfc (n+84)) (n+84)) m [ptr 11 0, ptr 12 0, ptr 14 0, .slice (some ⟨15, 0, none⟩) nl 1, .int .i64 nl, .int .i64 ((k + 1 : Nat) : Int)] H' kx kr := by
       intro kx kr
       rw [lp_succ]
       simp -implicitDefEqProofs only [s5_b1, ↓GVdn, GVup, goInt, splice, okC, Fr.of, Fr.ofI, Fr.g, Nat.reduceAdd, Nat.reduceMul, Nat.reduceEqDiff, Nat.reduceLT, Nat.reduceLeDiff, Nat.reduceBEq, Int.reduceLT, Int.reduceLE, Int.reduceToNat, Int.reduceAdd, Int.reduceSub, Int.reduceMul, Int.reduceEq, Int.reduceNeg, ↓reduceIte, ↓reduceDIte, Nat.beq, reduceCtorEq, Value.int.injEq, Nat.reduceSub, opn_lim, hlt, hi0, hw1, c14, hg, fL, h38, h31, i1]
     simp only [step]
     exact ih
end Go.Proofs.YtbaooebafijenaaGreatDoor
namespace Go.Proofs.YtbaooebafijenaaGreatDoor
open Go Go.Ev
set_option maxRecDepth 100000
set_option linter.unusedSimpArgs false
set_option linter.unusedVariables false
set_option maxHeartbeats 4000000
set_option linter.unusedSectionVars false
variable [Mx]
attribute [local congr] bind_front callK_front jn_front ifB_front ifG_front lp_front
def resGo (a : Asm) : List Want → Except (Int × Int) Asm
 | [] => .ok a
 | w :: r => match resV a w with
   | .error p => .error p
   | .ok a' => resGo a' r
theorem resV_ok {a a' : Asm} {w : Want} (h : resV a w = .ok a') : a'.wants = a.wants ∧ a'.words.length = a.words.length ∧ a'.labels = a.labels := by
 unfold resV at h
 split at h
 · cases h
 · split at h
   · cases h; simp
   · cases h
theorem wns_at : ∀ (l : List Want) (k : Nat) (h : k < l.length), ((wns l).drop (k * 8)).take 8 = (l[k]).cells
 | w :: l, 0, h => by
   have e : wns (w :: l) = w.cells ++ wns l := rfl
   rw [Nat.zero_mul, List.drop_zero, e, List.take_append_of_le_length (by show 8 ≤ 8; exact Nat.le_refl _)]
   rfl
 | w :: l, k + 1, h => by
   have e : wns (w :: l) = w.cells ++ wns l := rfl
   have e2 : (k + 1) * 8 = w.cells.length + k * 8 := by show (k + 1) * 8 = 8 + k * 8; omega
   rw [e2, e, List.drop_append, List.drop_of_length_le (Nat.le_add_right _ _), List.nil_append, Nat.add_sub_cancel_left]
   simp only [List.getElem_cons_succ]
   exact wns_at l k (by simpa using h)
structure P2 (H : Hp) (a : Asm) (wb tb : Option Nat) : Prop where
 as_ : AsS H 14 13 a wb tb
 lim : H.lim = 11
 g10 : H.get 11 = some (.rw [.slice none 0 0])
 g11 : H.get 12 = some (.rw [.nilIface])
 w15 : ∀ b, wb = some b → 16 ≤ b
 ats : ∀ w ∈ a.wants, 0 ≤ w.at_ ∧ w.at_ < a.words.length
theorem asm_l2 (n : Nat) (wants : List Want) (wb tb : Option Nat) (hnl : wants.length ≤ 65536) : ∀ (r k m : Nat), k + r = wants.length → r < m → ∀ (H : Hp) (a : Asm), P2 H a wb tb → a.wants = wants →
   match resGo a (wants.drop k) with
   | .error (l, e) => ∃ H' p, (∀ (kx : Nat → Fr → Hp → Option JR) (kr : Fr → Hp → Option JR), lp (s5_b2 (evCall cfc (n+10)) (n+10)) m [ptr 11 0, ptr 12 0, ptr 14 0, svOf tb wants.length 8, .int .i64 wants.length, .int .i64 k] H kx kr = some (.pan (faultP p) H')) ∧ FaultS H' l e p
   | .ok a' => ∃ H', (∀ (kx : Nat → Fr → Hp → Option JR) (kr : Fr → Hp → Option JR), lp (s5_b2 (evCall cfc (n+10)) (n+10)) m [ptr 11 0, ptr 12 0, ptr 14 0, svOf tb wants.length 8, .int .i64 wants.length, .int .i64 k] H kx kr = kx 2 (Fr.of [2, 3, 4] [ptr 11 0, ptr 12 0, ptr 14 0]) H') ∧ P2 H' a' wb tb := by
 intro r
 induction r with
 | zero =>
   intro k m hk hm H a hP haw
   obtain ⟨m, rfl⟩ : ∃ q, m = q + 1 := ⟨m - 1, by omega⟩
   have e : wants.drop k = [] := List.drop_eq_nil_of_le (by omega)
   rw [e]
   simp only [resGo]
   have hlt : ((k : Int) < (wants.length : Int)) = False := eq_false (by omega)
   refine ⟨H, fun kx kr => ?_, hP⟩
   rw [lp_succ]
   simp -implicitDefEqProofs only [s5_b2, ↓GVdn, GVup, goInt, splice, okC, Fr.of, Fr.ofI, Fr.g, Nat.reduceAdd, Nat.reduceMul, Nat.reduceEqDiff, Nat.reduceLT, Nat.reduceLeDiff, Nat.reduceBEq, Int.reduceLT, Int.reduceLE, Int.reduceToNat, Int.reduceAdd, Int.reduceSub, Int.reduceMul, Int.reduceEq, Int.reduceNeg, ↓reduceIte, ↓reduceDIte, Nat.beq, reduceCtorEq, Value.int.injEq, Nat.reduceSub, sto_ptr, hlt]
 | succ r ih =>
   intro k m hk hm H a hP haw
   obtain ⟨m, rfl⟩ : ∃ q, m = q + 1 := ⟨m - 1, by omega⟩
   have hkl : k < wants.length := by omega
   have hd : wants.drop k = wants[k] :: wants.drop (k + 1) := List.drop_eq_getElem_cons hkl
   have hmem : wants[k] ∈ wants := List.getElem_mem hkl
   have hat8 := wns_at wants k hkl
   rw [hd]
   simp only [resGo]
   generalize wants[k] = w at hmem hat8 ⊢
   have hlt : ((k : Int) < (wants.length : Int)) = True := eq_true (by omega)
   have hi0 : ((0 : Int) ≤ (k : Int)) = True := eq_true (by omega)
   have hw1 : IntKind.wrap .i64 ((k : Int) + 1) = ((k + 1 : Nat) : Int) := by rw [IntWalk.i64_in _ (by omega)]; rfl
   have hin : (0 ≤ (k : Int) ∧ (k : Int) < (wants.length : Int)) = True := eq_true (by omega)
   have htr := hP.as_.tr
   rw [haw] at htr
   have nA := hP.as_.nA
   cases tb with
   | none =>
     have : wns wants = [] := htr
     have h0 : wants.length * 8 = 0 := by have := congrArg List.length this; rwa [wns_len] at this
     omega
   | some bb =>
     have ct := cells_get htr.1
     have hle : (k * 8 + 8 ≤ (wns wants).length) = True := eq_true (by rw [wns_len]; omega)
     have hbb := htr.2.2.1
     have hS1 : AsS ((H.new (.rw Z8)).set H.next (.rw w.cells)) 14 13 a wb (some bb) := hP.as_.keep (fun b hb => by rw [Hp.get_set, if_neg (by omega), Hp.get_new, if_neg (by omega)]) (by show H.next ≤ H.next + 1; omega) rfl
     have fW : st 8 (ptr H.next 0) (.agg w.cells.toArray) (H.new (.rw Z8)) = some ((H.new (.rw Z8)).set H.next (.rw w.cells)) := by
       have := st_rwc (H := H.new (.rw Z8)) (b := H.next) (o := 0) (n := 8) (cs := Z8) (v := .agg w.cells.toArray) (vs := w.cells) (by rw [rwc_new, if_pos rfl]) (by show H.lim ≤ H.next; rw [hP.lim]; omega) rfl rfl (by show 0 + 8 ≤ 8; omega) rfl
       exact this
     have cT : ∀ L, (((H.new (.rw Z8)).set H.next (.rw w.cells)).opn L).cells H.next = some w.cells := fun L => by rw [cells_opn, cells_set, if_pos rfl]
     have cT0 : ((H.new (.rw Z8)).set H.next (.rw w.cells)).cells H.next = some w.cells := by rw [cells_set, if_pos rfl]
     have h40 := v16 n 14 13 _ a wb (some bb) w hS1 (hP.ats w (by rw [haw]; exact hmem))
     have wl : (8 ≤ w.cells.length) = True := eq_true (Nat.le_refl 8)
     have wt : w.cells.take 8 = w.cells := rfl
     cases hr : resV a w with
     | error q =>
       obtain ⟨l, e⟩ := q
       rw [hr] at h40
       obtain ⟨H', p, i1, i2⟩ := h40
       simp only
       refine ⟨H', p, fun kx kr => ?_, i2.cell, by have := i2.new; have : H.next + 1 ≤ p := this; omega, by rw [i2.lim]; exact hP.lim, ?_, ?_⟩
       · rw [lp_succ]
         simp only [Z8] at fW cT0 i1
         simp -implicitDefEqProofs only [s5_b2, ↓GVdn, GVup, goInt, splice, okC, Fr.of, Fr.ofI, Fr.g, Nat.reduceAdd, Nat.reduceMul, Nat.reduceEqDiff, Nat.reduceLT, Nat.reduceLeDiff, Nat.reduceBEq, Int.reduceLT, Int.reduceLE, Int.reduceToNat, Int.reduceAdd, Int.reduceSub, Int.reduceMul, Int.reduceEq, Int.reduceNeg, ↓reduceIte, ↓reduceDIte, Nat.beq, reduceCtorEq, Value.int.injEq, Nat.reduceSub, opn_lim, svOf, hlt, hi0, hin, hw1, ct, hle, hat8, fW, cT0, wl, wt, i1, callK_pan, pnJ_eq]
       · rw [i2.old 11 (by omega) (by show 11 < H.next + 1; omega), Hp.get_set, if_neg (by omega), Hp.get_new, if_neg (by omega)]; exact hP.g10
       · rw [i2.old 12 (by omega) (by show 12 < H.next + 1; omega), Hp.get_set, if_neg (by omega), Hp.get_new, if_neg (by omega)]; exact hP.g11
     | ok a' =>
       rw [hr] at h40
       obtain ⟨H', i1, i2, i3, i4, i5⟩ := h40
       obtain ⟨r1, r2, r3⟩ := resV_ok hr
       have i3' : H.next + 1 ≤ H'.next := i3
       have keepL : ∀ b, b < 13 → H'.get b = H.get b := fun b h1 => by
         rw [i5 b (by show b < H.next + 1; omega) (fun e => by have := hP.w15 b e; omega), Hp.get_set, if_neg (by omega), Hp.get_new, if_neg (by omega)]
       have hP' : P2 H' a' wb (some bb) := ⟨i2, by rw [i4]; exact hP.lim, by rw [keepL 11 (by omega)]; exact hP.g10, by rw [keepL 12 (by omega)]; exact hP.g11, hP.w15, by rw [r1, r2]; exact hP.ats⟩
       have ih := ih (k + 1) m (by omega) (by omega) H' a' hP' (by rw [r1]; exact haw)
       have step : ∀ (kx : Nat → Fr → Hp → Option JR) (kr : Fr → Hp → Option JR), lp (s5_b2 (evCall cfc (n+10)) (n+10)) (m + 1) [ptr 11 0, ptr 12 0, ptr 14 0, svOf (some bb) wants.length 8, .int .i64 wants.length, .int .i64 k] H kx kr = lp (s5_b2 (evCall cfc (n+10)) (n+10)) m [ptr 11 0, ptr 12 0, ptr 14 0, svOf (some bb) wants.length 8, .int .i64 wants.length, .int .i64 ((k + 1 : Nat) : Int)] H' kx kr := by
         intro kx kr
         rw [lp_succ]
         simp only [Z8] at fW cT0 i1
         simp -implicitDefEqProofs only [s5_b2, ↓GVdn, GVup, goInt, splice, okC, Fr.of, Fr.ofI, Fr.g, Nat.reduceAdd, Nat.reduceMul, Nat.reduceEqDiff, Nat.reduceLT, Nat.reduceLeDiff, Nat.reduceBEq, Int.reduceLT, Int.reduceLE, Int.reduceToNat, Int.reduceAdd, Int.reduceSub, Int.reduceMul, Int.reduceEq, Int.reduceNeg, ↓reduceIte, ↓reduceDIte, Nat.beq, reduceCtorEq, Value.int.injEq, Nat.reduceSub, opn_lim, svOf, hlt, hi0, hin, hw1, ct, hle, hat8, fW, cT0, wl, wt, i1]
       simp only [step]
       exact ih
theorem oneV_ats {a a' : Asm} {T : List ByteArray} (h : oneV a T = .ok a') (ha : ∀ w ∈ a.wants, 0 ≤ w.at_ ∧ w.at_ < a.words.length) : ∀ w ∈ a'.wants, 0 ≤ w.at_ ∧ w.at_ < a'.words.length := by
 unfold oneV at h
 split at h
 · cases h
 · rename_i ws i lab hrd
   split at h
   · cases h
   · split at h
     · cases h
     · cases h
       simp only [List.length_append]
       split
       · intro w hw
         have := ha w hw
         omega
       · rename_i hl
         have h1 := rdV_lab hrd hl
         intro w hw
         rw [List.mem_append] at hw
         rcases hw with hw | hw
         · have := ha w hw
           omega
         · simp only [List.mem_cons, List.not_mem_nil, or_false] at hw
           subst hw
           simp only
           omega
theorem asmGo_ats : ∀ (l : List ByteArray) (a : Asm) (k : Nat) (a' : Asm), asmGo a k l = .ok a' → (∀ w ∈ a.wants, 0 ≤ w.at_ ∧ w.at_ < a.words.length) → ∀ w ∈ a'.wants, 0 ≤ w.at_ ∧ w.at_ < a'.words.length
 | [], a, k, a', h, ha => by simp only [asmGo] at h; cases h; exact ha
 | s :: l, a, k, a', h, ha => by
   simp only [asmGo] at h
   split at h
   · cases h
   · rename_i a1 h1
     exact asmGo_ats l a1 (k + 1) a' h (oneV_ats h1 ha)
def asm0 : Asm := ⟨[], [], [], 0⟩
def splitV (s : ByteArray) : List ByteArray := Lib.splitB ⟨#[10]⟩ 0 (Lib.countB s ⟨#[10]⟩) s
def linesV (s : ByteArray) : List ByteArray := if (splitV s).getD ((splitV s).length - 1) emp = emp then (splitV s).take ((splitV s).length - 1) else splitV s
def asmV (s : ByteArray) : Except (Int × Int) (List Int) :=
 if 1048576 < s.size then .error (0, 9)
 else match asmGo asm0 0 (linesV s) with
   | .error p => .error p
   | .ok a => match resGo a a.wants with
     | .error p => .error p
     | .ok a' => .ok a'.words
def asmR (r : Except (Int × Int) (List Int)) (H : Hp) : R :=
 match r with
 | .error (l, e) => some (.ret (.tuple #[.slice none 0 0, .iface 39 (ptr H.next 0)]), H.new (.rw [.int .i64 l, .iface 27 (.int .i64 e)]))
 | .ok ws => if ws = [] then some (.ret (.tuple #[.slice none 0 0, .nilIface]), H) else some (.ret (.tuple #[.slice (some ⟨H.next, 0, none⟩) ws.length 1, .nilIface]), H.new (.rw (wvs ws)))
theorem wvs_flat (l : List Int) : (wvs l).all flat = true := by
 induction l with
 | nil => rfl
 | cons x l ih => show (flat (.int .u32 x) && (wvs l).all flat) = true; rw [ih]; rfl
theorem mov_ok (H Hs : Hp) {wb : Option Nat} {lo : Nat} {ws : List Int} (h : RowS Hs wb lo (wvs ws)) (hlo : Tabs.gn ≤ lo) : movR [] H (some (.ret (.tuple #[svOf wb ws.length 1, .nilIface]), Hs)) = asmR (.ok ws) H := by
 cases wb with
 | none =>
   have hw : wvs ws = [] := h
   have : ws = [] := List.map_eq_nil_iff.1 hw
   subst this
   exact movR_flat (bl := []) (H := H) (Hs := Hs) (v := .tuple #[.slice none 0 0, .nilIface]) rfl
 | some b =>
   obtain ⟨h1, h2, h3, h4⟩ := h
   have hne : ¬ ws = [] := fun e => h4 (by rw [e]; rfl)
   have hfl : flat (.tuple #[.slice (some ⟨b, 0, none⟩) ws.length 1, .nilIface]) = false := rfl
   have hm : mvA (mvV [] Hs 4) [] Hs b 0 (H, []) = some (⟨H.next, 0, none⟩, (H.new (.rw (wvs ws)), [b])) := by
     unfold mvA
     rw [if_neg (by omega)]
     simp only [List.getElem?_nil, h1]
     rw [mvL_flat [] Hs 3 _ _ (wvs_flat ws)]
     simp
   have e1 : mvV [] Hs 6 (.tuple #[.slice (some ⟨b, 0, none⟩) ws.length 1, .nilIface]) (H, []) = (mvL (mvV [] Hs 5) [.slice (some ⟨b, 0, none⟩) ws.length 1, .nilIface] (H, [])).map fun (cs, s) => (.tuple cs.toArray, s) := rfl
   have e2 : mvV [] Hs 5 (.slice (some ⟨b, 0, none⟩) ws.length 1) (H, []) = (mvA (mvV [] Hs 4) [] Hs b 0 (H, [])).map fun (a, s) => (.slice (some a) ws.length 1, s) := rfl
   have e3 : ∀ s, mvV [] Hs 5 .nilIface s = some (.nilIface, s) := fun s => rfl
   simp only [movR, svOf, e1, mvL, e2, hm, Option.map_some, Option.bind_some, e3]
   simp only [asmR]
   rw [if_neg hne]
theorem mov_err (H Hs : Hp) {p : Nat} {l e : Int} (hp : 11 ≤ p) (h : Hs.rwc p = some [.int .i64 l, .iface 27 (.int .i64 e)]) : movR [] H (some (.ret (.tuple #[.slice none 0 0, .iface 39 (ptr p 0)]), Hs)) = asmR (.error (l, e)) H := by
 have hm : mvA (mvV [] Hs 3) [] Hs p 0 (H, []) = some (⟨H.next, 0, none⟩, (H.new (.rw [.int .i64 l, .iface 27 (.int .i64 e)]), [p])) := by
   unfold mvA
   rw [if_neg (by show ¬ p < 11; omega)]
   simp only [List.getElem?_nil, get_rwc h]
   rw [mvL_flat [] Hs 2 _ _ rfl]
   simp
 have e1 : mvV [] Hs 6 (.tuple #[.slice none 0 0, .iface 39 (ptr p 0)]) (H, []) = (mvL (mvV [] Hs 5) [.slice none 0 0, .iface 39 (ptr p 0)] (H, [])).map fun (cs, s) => (.tuple cs.toArray, s) := rfl
 have e2 : ∀ s, mvV [] Hs 5 (.slice none 0 0) s = some (.slice none 0 0, s) := fun s => rfl
 have e3 : mvV [] Hs 5 (.iface 39 (ptr p 0)) (H, []) = ((mvA (mvV [] Hs 3) [] Hs p 0 (H, [])).map fun (a, s) => (.pointer (some a), s)).map fun (v, s) => (.iface 39 v, s) := rfl
 simp only [movR, e1, mvL, e2, e3, hm, Option.map_some, Option.bind_some]
 rfl
theorem q5 (n : Nat) (x0 : Value) (hx0 : flat x0 = true) (H : Hp) : evCall cfc (n+1) 5 [x0] H = movR [] H (s5 (evCall cfc n) n x0 Hp.fl) := by
 rw [evCall_quiet (fn := Tryz.f5) (by rfl) (by rfl) Tryz.func5 (by rfl) (by simp [hx0])]
 exact congrArg (movR [] H) (s5_eq _ _ _ _)
theorem offR_nrm (vs : List Value) (H : Hp) : offR (some (.nrm vs H)) = some (.nilIface, H) := rfl
theorem offR_pan (p : Nat) (H : Hp) : offR (some (.pan (faultP p) H)) = some (.iface 39 (ptr p 0), H) := rfl
theorem splitV_ne (s : ByteArray) : splitV s ≠ [] ∧ (splitV s).length = Lib.countB s ⟨#[10]⟩ + 1 := by
 have h2 : (splitV s).length = Lib.countB s ⟨#[10]⟩ + 1 := Lib.splitB_all ⟨#[10]⟩ (by decide) 0 _ s rfl
 exact ⟨fun e => by rw [e] at h2; simp at h2, h2⟩
theorem split_size : ∀ (k : Nat) (s : ByteArray), ∀ x ∈ Lib.splitB ⟨#[10]⟩ 0 k s, x.size ≤ s.size
 | 0, s, x, h => by
   simp only [Lib.splitB, List.mem_cons, List.not_mem_nil, or_false] at h
   subst h; exact Nat.le_refl _
 | k + 1, s, x, h => by
   unfold Lib.splitB at h
   split at h
   · simp only [List.mem_cons, List.not_mem_nil, or_false] at h
     subst h; exact Nat.le_refl _
   · rcases List.mem_cons.1 h with rfl | h
     · rw [ByteArray.size_extract]; omega
     · have := split_size k _ x h
       rw [ByteArray.size_extract] at this
       omega
theorem tasr_same (t : TypeId) (z v : Value) : tasr t true z (.iface t v) = some (.tuple #[v, .bool true]) := by simp [tasr]
theorem e37 (n : Nat) (s : ByteArray) (hs : s.size < 4294967281) (H : Hp) : evCall cfc (n+1) 12 [.string s, .string ⟨#[10]⟩] H = some (.ret (.slice (some ⟨H.next, 0, none⟩) (Lib.countB s ⟨#[10]⟩ + 1) 1), H.new (.rw ((splitV s).map Value.string))) :=
 evCall_exh (by rfl) (show exhL 12 [.string s, .string ⟨#[10]⟩] H = some (.ret (.slice (some ⟨H.next, 0, none⟩) (Lib.countB s ⟨#[10]⟩ + 1) 1), H.new (.rw ((splitV s).map Value.string))) from if_pos ⟨hs, by decide⟩) n
theorem end_err {H' : Hp} {l e : Int} {p : Nat} (h : FaultS H' l e p) : ∃ H2, st 1 (ptr 11 0) (.slice none 0 0) H' = some (H'.set 11 (.rw [.slice none 0 0])) ∧ st 1 (ptr 12 0) (.iface 39 (ptr p 0)) (H'.set 11 (.rw [.slice none 0 0])) = some H2 ∧ H2.cells 11 = some [.slice none 0 0] ∧ H2.cells 12 = some [.iface 39 (ptr p 0)] ∧ H2.rwc p = some [.int .i64 l, .iface 27 (.int .i64 e)] := by
 obtain ⟨h1, h2, h3, h4, h5⟩ := h
 refine ⟨(H'.set 11 (.rw [.slice none 0 0])).set 12 (.rw [.iface 39 (ptr p 0)]), ?_, ?_, ?_, ?_, ?_⟩
 · exact st_rwc (cs := [.slice none 0 0]) (o := 0) (n := 1) (vs := [.slice none 0 0]) (rwc_get h4) (by omega) rfl rfl (by simp) rfl
 · exact st_rwc (cs := [.nilIface]) (o := 0) (n := 1) (vs := [.iface 39 (ptr p 0)]) (by rw [rwc_set, if_neg (by decide)]; exact rwc_get h5) (by show H'.lim ≤ 12; omega) rfl rfl (by simp) rfl
 · rw [cells_set, if_neg (by decide), cells_set, if_pos rfl]
 · rw [cells_set, if_pos rfl]
 · rw [rwc_set, if_neg (by omega), rwc_set, if_neg (by omega)]; exact h1
def H5i : Hp := (((Hp.fl.new (.rw [.slice none 0 0])).new (.rw [.nilIface])).new (.mp [] 0)).new (.rw [.slice none 0 0, .map (some 13), .slice none 0 0, .int .i64 0])
theorem gH5 : H5i.get 11 = some (.rw [.slice none 0 0]) ∧ H5i.get 12 = some (.rw [.nilIface]) ∧ H5i.get 13 = some (.mp [] 0) ∧ H5i.get 14 = some (.rw [.slice none 0 0, .map (some 13), .slice none 0 0, .int .i64 0]) := by
 have e1 : (Hp.fl).next = 11 := rfl
 unfold H5i
 refine ⟨?_, ?_, ?_, ?_⟩ <;> simp [Hp.get_new, e1]
theorem p1_start (x : Blk) : P1 (H5i.new x) asm0 none none := by
 obtain ⟨g10, g11, g12, g13⟩ := gH5
 have e1 : H5i.next = 15 := rfl
 have o : ∀ b, b < 15 → (H5i.new x).get b = H5i.get b := fun b hb => by rw [Hp.get_new, if_neg (by omega)]
 refine ⟨⟨⟨by decide, by decide⟩, ?_, ?_, ?_, ?_, ?_, by decide, by rw [o 14 (by decide)]; exact g13, ⟨[], 0, by rw [o 13 (by decide)]; exact g12, rfl⟩, rfl, rfl, fun b hb => (by cases hb), fun b hb => (by cases hb), by decide⟩, rfl, by rw [o 11 (by decide)]; exact g10, by rw [o 12 (by decide)]; exact g11, ?_, fun b hb => (by cases hb), fun b hb => (by cases hb)⟩
 · show 11 ≤ 11; decide
 · show 11 ≤ 14; decide
 · show 11 ≤ 13; decide
 · show 14 < 16; decide
 · show 13 < 16; decide
 · show 16 ≤ 16; decide
theorem end_ok {H : Hp} {a : Asm} {wb tb : Option Nat} (h : P2 H a wb tb) : st 1 (ptr 11 0) (svOf wb a.words.length 1) H = some (H.set 11 (.rw [svOf wb a.words.length 1])) ∧ st 1 (ptr 12 0) .nilIface (H.set 11 (.rw [svOf wb a.words.length 1])) = some ((H.set 11 (.rw [svOf wb a.words.length 1])).set 12 (.rw [.nilIface])) ∧
   ((H.set 11 (.rw [svOf wb a.words.length 1])).set 12 (.rw [.nilIface])).cells 11 = some [svOf wb a.words.length 1] ∧ ((H.set 11 (.rw [svOf wb a.words.length 1])).set 12 (.rw [.nilIface])).cells 12 = some [.nilIface] ∧ RowS ((H.set 11 (.rw [svOf wb a.words.length 1])).set 12 (.rw [.nilIface])) wb 11 (wvs a.words) := by
 have hl := h.lim
 refine ⟨?_, ?_, ?_, ?_, ?_⟩
 · exact st_rwc (cs := [.slice none 0 0]) (o := 0) (n := 1) (rwc_get h.g10) (by omega) (bx_sv _ _ _) rfl (by simp) (by simp [okC_sv])
 · exact st_rwc (cs := [.nilIface]) (o := 0) (n := 1) (vs := [.nilIface]) (by rw [rwc_set, if_neg (by decide)]; exact rwc_get h.g11) (by show H.lim ≤ 12; omega) rfl rfl (by simp) rfl
 · rw [cells_set, if_neg (by decide), cells_set, if_pos rfl]
 · rw [cells_set, if_pos rfl]
 · have := h.as_.wr
   rw [hl] at this
   exact row_set (row_set this _ (fun e => by have := h.w15 11 e; omega)) _ (fun e => by have := h.w15 12 e; omega)
def run13 (n : Nat) (s : ByteArray) (r : Except (Int × Int) (List Int)) : Prop :=
 match r with
 | .error (l, e) => ∃ p Hs, s5 (evCall cfc (n+84)) (n+84) (.string s) Hp.fl = some (.ret (.tuple #[.slice none 0 0, .iface 39 (ptr p 0)]), Hs) ∧ 11 ≤ p ∧ Hs.rwc p = some [.int .i64 l, .iface 27 (.int .i64 e)]
 | .ok ws => ∃ wb Hs, s5 (evCall cfc (n+84)) (n+84) (.string s) Hp.fl = some (.ret (.tuple #[svOf wb ws.length 1, .nilIface]), Hs) ∧ RowS Hs wb 11 (wvs ws)
theorem bx_map (x : Option Nat) : bx (.map x) = some [.map x] := rfl
theorem run13_ok (n : Nat) (s : ByteArray) (hs : s.size ≤ 1048576 → 2 * s.size + 1 < n ∧ Lib.countB s ⟨#[10]⟩ + 1 < n ∧ Lib.countB s ⟨#[10]⟩ < 4294967290) (hn : 65536 < n) : run13 n s (asmV s) := by
 have n0 : (Hp.fl).next = 11 := rfl
 have l0 : (Hp.fl).lim = 11 := rfl
 unfold asmV
 by_cases hbig : 1048576 < s.size
 · rw [if_pos hbig]
   have hbig' : (1048576 < (s.size : Int)) = True := eq_true (by omega)
   have h36 := fun H x => v11 (n+83) H x 0 9
   have hF : FaultS (H5i.new (.rw [.int .i64 0, .iface 27 (.int .i64 9)])) 0 9 15 := by
     obtain ⟨g10, g11, _, _⟩ := gH5
     exact ⟨by rw [rwc_new, if_pos (by rfl)], by decide, rfl, by rw [Hp.get_new, if_neg (by show ¬ 11 = 15; decide)]; exact g10, by rw [Hp.get_new, if_neg (by show ¬ 12 = 15; decide)]; exact g11⟩
   obtain ⟨H2, f1, f2, f3, f4, f5⟩ := end_err hF
   simp only [H5i] at f1 f2
   simp only [run13]
   refine ⟨15, H2, ?_, by decide, f5⟩
   simp -implicitDefEqProofs only [s5, bx_map, ↓GVdn, GVup, goInt, splice, okC, Fr.of, Fr.ofI, Fr.g, Nat.reduceAdd, Nat.reduceMul, Nat.reduceEqDiff, Nat.reduceLT, Nat.reduceLeDiff, Nat.reduceBEq, Int.reduceLT, Int.reduceLE, Int.reduceToNat, Int.reduceAdd, Int.reduceSub, Int.reduceMul, Int.reduceEq, Int.reduceNeg, ↓reduceIte, ↓reduceDIte, Nat.beq, reduceCtorEq, Value.int.injEq, Nat.reduceSub, opn_lim, tabs_gn, n0, l0, hbig', h36, callK_pan, jn_pan, pnJ_eq, offR_pan, tasr_same, f1, f2, f3, f4]
 · obtain ⟨z1, z2, z3⟩ := hs (by omega)
   have hbig' : (1048576 < (s.size : Int)) = False := eq_false (by omega)
   rw [if_neg hbig]
   obtain ⟨sne, slen⟩ := splitV_ne s
   have h37 := e37 (n+83) s (by omega) H5i
   simp only [H5i] at h37
   have hlast : ((splitV s).map Value.string)[Lib.countB s ⟨#[10]⟩]? = some (.string ((splitV s).getD ((splitV s).length - 1) emp)) := by
     rw [slen, Nat.add_sub_cancel, List.getElem?_map, List.getElem?_eq_getElem (by omega), List.getD_eq_getElem?_getD, List.getElem?_eq_getElem (by omega)]
     rfl
   have hw : IntKind.wrap .i64 (((Lib.countB s ⟨#[10]⟩ + 1 : Nat) : Int) - 1) = (Lib.countB s ⟨#[10]⟩ : Int) := by rw [IntWalk.i64_in _ (by omega)]; omega
   have hlt : ((0 : Int) ≤ (Lib.countB s ⟨#[10]⟩ : Int) ∧ (Lib.countB s ⟨#[10]⟩ : Int) < ((Lib.countB s ⟨#[10]⟩ + 1 : Nat) : Int)) = True := eq_true (by omega)
   have hle : ((Lib.countB s ⟨#[10]⟩ : Int) ≤ ((Lib.countB s ⟨#[10]⟩ + 1 : Nat) : Int)) = True := eq_true (by omega)
   have hlt2 : ((Lib.countB s ⟨#[10]⟩ : Int) < ((Lib.countB s ⟨#[10]⟩ + 1 : Nat) : Int)) = True := eq_true (by omega)
   have hsz : ∀ x ∈ splitV s, x.size ≤ 536870912 ∧ 2 * x.size + 1 < n := fun x hx => by have := split_size _ s x hx; omega
   have g14 : (H5i.new (.rw ((splitV s).map Value.string))).get 15 = some (.rw ((splitV s).map Value.string)) := by rw [Hp.get_new, if_pos (by rfl)]
   by_cases hem : (splitV s).getD ((splitV s).length - 1) emp = emp
   · have hli : linesV s = (splitV s).take (Lib.countB s ⟨#[10]⟩) := by unfold linesV; rw [if_pos hem, slen, Nat.add_sub_cancel]
     have l1 := asm_l1 n (splitV s) (Lib.countB s ⟨#[10]⟩) (by omega) (by omega) hsz (Lib.countB s ⟨#[10]⟩) 0 (n+84) (by omega) (by omega) _ asm0 none none (p1_start _) g14
     rw [List.drop_zero, ← hli] at l1
     have hem : ((splitV s).getD ((splitV s).length - 1) emp = ⟨#[]⟩) = True := eq_true hem
     cases hgo : asmGo asm0 0 (linesV s) with
     | error q =>
       obtain ⟨l, e⟩ := q
       rw [hgo] at l1
       obtain ⟨H', p, l1, hF⟩ := l1
       obtain ⟨H2, f1, f2, f3, f4, f5⟩ := end_err hF
       simp only
       have l1' : ∀ (kx : Nat → Fr → Hp → Option JR) (kr : Fr → Hp → Option JR), lp (s5_b1 (evCall cfc (n+84)) (n+84)) (n+84) [ptr 11 0, ptr 12 0, ptr 14 0, .slice (some ⟨15, 0, none⟩) (Lib.countB s ⟨#[10]⟩) 1, .int .i64 (Lib.countB s ⟨#[10]⟩ : Nat), .int .i64 0] _ kx kr = _ := l1
       simp only [H5i] at l1'
       refine ⟨p, H2, ?_, by have := hF.2.1; omega, f5⟩
       simp -implicitDefEqProofs only [s5, bx_map, ↓GVdn, GVup, goInt, splice, okC, Fr.of, Fr.ofI, Fr.g, Nat.reduceAdd, Nat.reduceMul, Nat.reduceEqDiff, Nat.reduceLT, Nat.reduceLeDiff, Nat.reduceBEq, Int.reduceLT, Int.reduceLE, Int.reduceToNat, Int.reduceAdd, Int.reduceSub, Int.reduceMul, Int.reduceEq, Int.reduceNeg, ↓reduceIte, ↓reduceDIte, Nat.beq, reduceCtorEq, Value.int.injEq, Nat.reduceSub, opn_lim, tabs_gn, n0, l0, hbig', h37, hlast, hw, hlt, hlt2, hle, hem, Nat.sub_zero, l1', offR_pan, tasr_same, f1, f2, f3, f4]
     | ok a' =>
       rw [hgo] at l1
       obtain ⟨H', wb, tb, l1, hP⟩ := l1
       have l1' : ∀ (kx : Nat → Fr → Hp → Option JR) (kr : Fr → Hp → Option JR), lp (s5_b1 (evCall cfc (n+84)) (n+84)) (n+84) [ptr 11 0, ptr 12 0, ptr 14 0, .slice (some ⟨15, 0, none⟩) (Lib.countB s ⟨#[10]⟩) 1, .int .i64 (Lib.countB s ⟨#[10]⟩ : Nat), .int .i64 0] _ kx kr = _ := l1
       simp only [H5i] at l1'
       have hP2 : P2 H' a' wb tb := ⟨hP.as_, hP.lim, hP.g10, hP.g11, hP.w15, asmGo_ats _ _ _ _ hgo (fun w hw => by cases hw)⟩
       have hbw := hP.as_.bw
       have l2 := asm_l2 (n+74) a'.wants wb tb (by omega) a'.wants.length 0 (n+84) (by omega) (by omega) H' a' hP2 rfl
       rw [List.drop_zero] at l2
       have cA := cells_get hP.as_.cell
       have hwn : ∀ H, len 1 (svOf tb a'.wants.length 8) H = some (.int .i64 a'.wants.length) := fun H => len_sv _ _ _ _ (fun e => by have h := hP.as_.tr; subst e; have h : wns a'.wants = [] := h; have := congrArg List.length h; rw [wns_len, List.length_nil] at this; omega)
       cases hre : resGo a' a'.wants with
       | error q =>
         obtain ⟨l, e⟩ := q
         rw [hre] at l2
         obtain ⟨H3, p, l2, hF⟩ := l2
         obtain ⟨H2, f1, f2, f3, f4, f5⟩ := end_err hF
         have l2' : ∀ (kx : Nat → Fr → Hp → Option JR) (kr : Fr → Hp → Option JR), lp (s5_b2 (evCall cfc (n+84)) (n+84)) (n+84) [ptr 11 0, ptr 12 0, ptr 14 0, svOf tb a'.wants.length 8, .int .i64 a'.wants.length, .int .i64 0] H' kx kr = _ := l2
         simp only [hre]
         refine ⟨p, H2, ?_, by have := hF.2.1; omega, f5⟩
         simp -implicitDefEqProofs only [s5, bx_map, ↓GVdn, GVup, goInt, splice, okC, Fr.of, Fr.ofI, Fr.g, Nat.reduceAdd, Nat.reduceMul, Nat.reduceEqDiff, Nat.reduceLT, Nat.reduceLeDiff, Nat.reduceBEq, Int.reduceLT, Int.reduceLE, Int.reduceToNat, Int.reduceAdd, Int.reduceSub, Int.reduceMul, Int.reduceEq, Int.reduceNeg, ↓reduceIte, ↓reduceDIte, Nat.beq, reduceCtorEq, Value.int.injEq, Nat.reduceSub, opn_lim, tabs_gn, n0, l0, hbig', h37, hlast, hw, hlt, hlt2, hle, hem, Nat.sub_zero, l1', cA, hwn, l2', offR_pan, tasr_same, f1, f2, f3, f4]
       | ok a2 =>
         rw [hre] at l2
         obtain ⟨H3, l2, hP3⟩ := l2
         have l2' : ∀ (kx : Nat → Fr → Hp → Option JR) (kr : Fr → Hp → Option JR), lp (s5_b2 (evCall cfc (n+84)) (n+84)) (n+84) [ptr 11 0, ptr 12 0, ptr 14 0, svOf tb a'.wants.length 8, .int .i64 a'.wants.length, .int .i64 0] H' kx kr = _ := l2
         obtain ⟨f1, f2, f3, f4, f5⟩ := end_ok hP3
         have cA3 := cells_get hP3.as_.cell
         simp only [hre]
         refine ⟨wb, _, ?_, f5⟩
         simp -implicitDefEqProofs only [s5, bx_map, ↓GVdn, GVup, goInt, splice, okC, Fr.of, Fr.ofI, Fr.g, Nat.reduceAdd, Nat.reduceMul, Nat.reduceEqDiff, Nat.reduceLT, Nat.reduceLeDiff, Nat.reduceBEq, Int.reduceLT, Int.reduceLE, Int.reduceToNat, Int.reduceAdd, Int.reduceSub, Int.reduceMul, Int.reduceEq, Int.reduceNeg, ↓reduceIte, ↓reduceDIte, Nat.beq, reduceCtorEq, Value.int.injEq, Nat.reduceSub, opn_lim, tabs_gn, n0, l0, hbig', h37, hlast, hw, hlt, hlt2, hle, hem, Nat.sub_zero, l1', cA, hwn, l2', cA3, f1, f2, f3, f4, offR_nrm]
   · have hli : linesV s = (splitV s).take (Lib.countB s ⟨#[10]⟩ + 1) := by unfold linesV; rw [if_neg hem, List.take_of_length_le (by omega)]
     have l1 := asm_l1 n (splitV s) (Lib.countB s ⟨#[10]⟩ + 1) (by omega) (by omega) hsz (Lib.countB s ⟨#[10]⟩ + 1) 0 (n+84) (by omega) (by omega) _ asm0 none none (p1_start _) g14
     rw [List.drop_zero, ← hli] at l1
     have hem : ((splitV s).getD ((splitV s).length - 1) emp = ⟨#[]⟩) = False := eq_false hem
     cases hgo : asmGo asm0 0 (linesV s) with
     | error q =>
       obtain ⟨l, e⟩ := q
       rw [hgo] at l1
       obtain ⟨H', p, l1, hF⟩ := l1
       obtain ⟨H2, f1, f2, f3, f4, f5⟩ := end_err hF
       simp only
       have l1' : ∀ (kx : Nat → Fr → Hp → Option JR) (kr : Fr → Hp → Option JR), lp (s5_b1 (evCall cfc (n+84)) (n+84)) (n+84) [ptr 11 0, ptr 12 0, ptr 14 0, .slice (some ⟨15, 0, none⟩) (Lib.countB s ⟨#[10]⟩ + 1) 1, .int .i64 (Lib.countB s ⟨#[10]⟩ + 1 : Nat), .int .i64 0] _ kx kr = _ := l1
       simp only [H5i] at l1'
       refine ⟨p, H2, ?_, by have := hF.2.1; omega, f5⟩
       simp -implicitDefEqProofs only [s5, bx_map, ↓GVdn, GVup, goInt, splice, okC, Fr.of, Fr.ofI, Fr.g, Nat.reduceAdd, Nat.reduceMul, Nat.reduceEqDiff, Nat.reduceLT, Nat.reduceLeDiff, Nat.reduceBEq, Int.reduceLT, Int.reduceLE, Int.reduceToNat, Int.reduceAdd, Int.reduceSub, Int.reduceMul, Int.reduceEq, Int.reduceNeg, ↓reduceIte, ↓reduceDIte, Nat.beq, reduceCtorEq, Value.int.injEq, Nat.reduceSub, opn_lim, tabs_gn, n0, l0, hbig', h37, hlast, hw, hlt, hlt2, hle, hem, Nat.sub_zero, l1', offR_pan, tasr_same, f1, f2, f3, f4]
     | ok a' =>
       rw [hgo] at l1
       obtain ⟨H', wb, tb, l1, hP⟩ := l1
       have l1' : ∀ (kx : Nat → Fr → Hp → Option JR) (kr : Fr → Hp → Option JR), lp (s5_b1 (evCall cfc (n+84)) (n+84)) (n+84) [ptr 11 0, ptr 12 0, ptr 14 0, .slice (some ⟨15, 0, none⟩) (Lib.countB s ⟨#[10]⟩ + 1) 1, .int .i64 (Lib.countB s ⟨#[10]⟩ + 1 : Nat), .int .i64 0] _ kx kr = _ := l1
       simp only [H5i] at l1'
       have hP2 : P2 H' a' wb tb := ⟨hP.as_, hP.lim, hP.g10, hP.g11, hP.w15, asmGo_ats _ _ _ _ hgo (fun w hw => by cases hw)⟩
       have hbw := hP.as_.bw
       have l2 := asm_l2 (n+74) a'.wants wb tb (by omega) a'.wants.length 0 (n+84) (by omega) (by omega) H' a' hP2 rfl
       rw [List.drop_zero] at l2
       have cA := cells_get hP.as_.cell
       have hwn : ∀ H, len 1 (svOf tb a'.wants.length 8) H = some (.int .i64 a'.wants.length) := fun H => len_sv _ _ _ _ (fun e => by have h := hP.as_.tr; subst e; have h : wns a'.wants = [] := h; have := congrArg List.length h; rw [wns_len, List.length_nil] at this; omega)
       cases hre : resGo a' a'.wants with
       | error q =>
         obtain ⟨l, e⟩ := q
         rw [hre] at l2
         obtain ⟨H3, p, l2, hF⟩ := l2
         obtain ⟨H2, f1, f2, f3, f4, f5⟩ := end_err hF
         have l2' : ∀ (kx : Nat → Fr → Hp → Option JR) (kr : Fr → Hp → Option JR), lp (s5_b2 (evCall cfc (n+84)) (n+84)) (n+84) [ptr 11 0, ptr 12 0, ptr 14 0, svOf tb a'.wants.length 8, .int .i64 a'.wants.length, .int .i64 0] H' kx kr = _ := l2
         simp only [hre]
         refine ⟨p, H2, ?_, by have := hF.2.1; omega, f5⟩
         simp -implicitDefEqProofs only [s5, bx_map, ↓GVdn, GVup, goInt, splice, okC, Fr.of, Fr.ofI, Fr.g, Nat.reduceAdd, Nat.reduceMul, Nat.reduceEqDiff, Nat.reduceLT, Nat.reduceLeDiff, Nat.reduceBEq, Int.reduceLT, Int.reduceLE, Int.reduceToNat, Int.reduceAdd, Int.reduceSub, Int.reduceMul, Int.reduceEq, Int.reduceNeg, ↓reduceIte, ↓reduceDIte, Nat.beq, reduceCtorEq, Value.int.injEq, Nat.reduceSub, opn_lim, tabs_gn, n0, l0, hbig', h37, hlast, hw, hlt, hlt2, hle, hem, Nat.sub_zero, l1', cA, hwn, l2', offR_pan, tasr_same, f1, f2, f3, f4]
       | ok a2 =>
         rw [hre] at l2
         obtain ⟨H3, l2, hP3⟩ := l2
         have l2' : ∀ (kx : Nat → Fr → Hp → Option JR) (kr : Fr → Hp → Option JR), lp (s5_b2 (evCall cfc (n+84)) (n+84)) (n+84) [ptr 11 0, ptr 12 0, ptr 14 0, svOf tb a'.wants.length 8, .int .i64 a'.wants.length, .int .i64 0] H' kx kr = _ := l2
         obtain ⟨f1, f2, f3, f4, f5⟩ := end_ok hP3
         have cA3 := cells_get hP3.as_.cell
         simp only [hre]
         refine ⟨wb, _, ?_, f5⟩
         simp -implicitDefEqProofs only [s5, bx_map, ↓GVdn, GVup, goInt, splice, okC, Fr.of, Fr.ofI, Fr.g, Nat.reduceAdd, Nat.reduceMul, Nat.reduceEqDiff, Nat.reduceLT, Nat.reduceLeDiff, Nat.reduceBEq, Int.reduceLT, Int.reduceLE, Int.reduceToNat, Int.reduceAdd, Int.reduceSub, Int.reduceMul, Int.reduceEq, Int.reduceNeg, ↓reduceIte, ↓reduceDIte, Nat.beq, reduceCtorEq, Value.int.injEq, Nat.reduceSub, opn_lim, tabs_gn, n0, l0, hbig', h37, hlast, hw, hlt, hlt2, hle, hem, Nat.sub_zero, l1', cA, hwn, l2', cA3, f1, f2, f3, f4, offR_nrm]
theorem v5 (n : Nat) (s : ByteArray) (H : Hp) (hs : s.size ≤ 1048576 → 2 * s.size + 1 < n ∧ Lib.countB s ⟨#[10]⟩ + 1 < n ∧ Lib.countB s ⟨#[10]⟩ < 4294967290) (hn : 65536 < n) : evCall cfc (n+85) 5 [.string s] H = asmR (asmV s) H := by
 rw [q5 (n+84) _ rfl H]
 have h := run13_ok n s hs hn
 generalize asmV s = r at h ⊢
 match r, h with
 | .error (l, e), ⟨p, Hs, h1, h2, h3⟩ => rw [h1]; exact mov_err H Hs h2 h3
 | .ok ws, ⟨wb, Hs, h1, h2⟩ => rw [h1]; exact mov_ok H Hs h2 (Nat.le_refl 11)
end Go.Proofs.YtbaooebafijenaaGreatDoor
