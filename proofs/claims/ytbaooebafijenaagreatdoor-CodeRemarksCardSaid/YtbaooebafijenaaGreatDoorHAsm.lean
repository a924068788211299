/- The words of a program's text: the loops. -/
import Derived.Test.YtbaooebafijenaaGreatDoorHRes
import Derived.Test.YtbaooebafijenaaGreatDoorHvBun
namespace Go.Proofs.YtbaooebafijenaaGreatDoor
open Go Go.Ev
set_option maxRecDepth 100000
set_option linter.unusedSimpArgs false
set_option linter.unusedVariables false
set_option maxHeartbeats 4000000
set_option linter.unusedSectionVars false
variable [Mx]
attribute [local congr] bind_front callK_front jn_front ifB_front ifG_front lp_front
theorem AsS.keep {H H' : Hp} {A mb : Nat} {a : Asm} {wb tb : Option Nat} (h : AsS H A mb a wb tb) (hk : ∀ b, b < H.next → H'.get b = H.get b) (hn : H.next ≤ H'.next) (hl : H'.lim = H.lim) : AsS H' A mb a wb tb := by
  obtain ⟨es, ck, m1, m2⟩ := h.mp
  refine ⟨h.h12, by rw [hl]; exact h.gn, by rw [hl]; exact h.lA, by rw [hl]; exact h.lm, by have := h.nA; omega, by have := h.nm; omega, h.ne, by rw [hk A h.nA]; exact h.cell, ⟨es, ck, by rw [hk mb h.nm]; exact m1, m2⟩, ?_, ?_, h.dw, h.dt, h.bw⟩
  · rw [hl]
    exact row_keep h.wr (fun b hb => hk b (by have := h.wr; subst hb; exact this.2.2.1)) hn
  · rw [hl]
    exact row_keep h.tr (fun b hb => hk b (by have := h.tr; subst hb; exact this.2.2.1)) hn
theorem AsS.setLine {H : Hp} {A mb : Nat} {a : Asm} {wb tb : Option Nat} (h : AsS H A mb a wb tb) (z : Int) :
    st 1 (ptr A 3) (.int .i64 z) H = some (H.set A (.rw [svOf wb a.words.length 1, .map (some mb), svOf tb a.wants.length 8, .int .i64 z])) ∧ AsS (H.set A (.rw [svOf wb a.words.length 1, .map (some mb), svOf tb a.wants.length 8, .int .i64 z])) A mb { a with line := z } wb tb := by
  obtain ⟨es, ck, m1, m2⟩ := h.mp
  refine ⟨st_rwc (o := 3) (n := 1) (vs := [.int .i64 z]) (rwc_get h.cell) h.lA rfl rfl (by simp) rfl, h.h12, h.gn, h.lA, h.lm, h.nA, h.nm, h.ne, by rw [Hp.get_set, if_pos rfl], ⟨es, ck, by rw [Hp.get_set, if_neg (fun e => h.ne e.symm)]; exact m1, m2⟩, row_set h.wr _ (fun e => (h.dw A e).1 rfl), row_set h.tr _ (fun e => h.dt A e rfl), h.dw, h.dt, h.bw⟩
theorem tkGo_len (s : ByteArray) : ∀ (r : List UInt8) (i : Nat) (l : List ByteArray) (a : Int), (tkGo s r i l a).1.length ≤ l.length + 2 * r.length
  | [], i, l, a => by simp [tkGo]
  | c :: r, i, l, a => by
    simp only [tkGo, List.length_cons]
    have h := flushT_len s i l a
    split
    · have := tkGo_len s r (i + 1) (flushT s i l a) (-1); omega
    · split
      · have := tkGo_len s r (i + 1) (flushT s i l a ++ [s.extract i (i + 1)]) (-1)
        rw [List.length_append, List.length_cons, List.length_nil] at this
        omega
      · split
        · have := tkGo_len s r (i + 1) l i; omega
        · have := tkGo_len s r (i + 1) l a; omega
theorem tokens_len (s : ByteArray) : (tokensV s).length ≤ 2 * s.size + 1 := by
  unfold tokensV
  have h1 := tkGo_len s s.data.toList 0 [] (-1)
  have h2 := flushT_len s s.size (tkGo s s.data.toList 0 [] (-1)).1 (tkGo s s.data.toList 0 [] (-1)).2
  rw [← Lib.size_eq, List.length_nil] at h1
  omega
theorem tok_sl (n : Nat) (s : ByteArray) (hs : s.size ≤ 1073741824) (hn : s.size ≤ n) (H : Hp) : ∃ tv H', evCall cfc (n+2) 15 [.string s] H = some (.ret tv, H') ∧ SlI H' tv (tokensV s) ∧ (∀ b, b < H.next → H'.get b = H.get b) ∧ H.next ≤ H'.next ∧ H'.lim = H.lim := by
  rw [v15 n s hs hn H]
  unfold lstR
  split
  · rename_i h
    exact ⟨_, _, rfl, .inl ⟨rfl, h⟩, fun _ _ => rfl, Nat.le_refl _, rfl⟩
  · refine ⟨_, _, rfl, .inr ⟨H.next, 0, _, rfl, by rw [cells_new, if_pos rfl], by rw [List.drop_zero, List.take_of_length_le (by simp)], by simp, by simp⟩, fun b hb => by rw [Hp.get_new, if_neg (by omega)], by simp, rfl⟩
def cutS (s : ByteArray) : ByteArray := ⟨(Lib.cut s.data.toList [59]).1.toArray⟩
theorem cutS_size (s : ByteArray) : (cutS s).size ≤ s.size := by
  show (Lib.cut s.data.toList [59]).1.toArray.size ≤ _
  rw [Lib.size_eq s]
  unfold Lib.cut
  split
  · simp; omega
  · simp
theorem e38 (n : Nat) (s : ByteArray) (hs : s.size < 4294967281) (H : Hp) : ∃ b c, evCall cfc (n+1) 13 [.string s, .string ⟨#[59]⟩] H = some (.ret (.tuple #[.string (cutS s), b, c]), H) :=
  ⟨_, _, evCall_ext (show extL 13 [.string s, .string ⟨#[59]⟩] = some (cutV s ⟨#[59]⟩) from if_pos hs) n H⟩
/-- the lines put in, from line k on -/
def asmGo (a : Asm) (k : Nat) : List ByteArray → Except (Int × Int) Asm
  | [] => .ok a
  | s :: r => match oneV { a with line := ((k + 1 : Nat) : Int) } (tokensV (cutS s)) with
    | .error e => .error (((k + 1 : Nat) : Int), e)
    | .ok a' => asmGo a' (k + 1) r
structure P1 (H : Hp) (a : Asm) (wb tb : Option Nat) : Prop where
  as_ : AsS H 14 13 a wb tb
  lim : H.lim = 11
  g10 : H.get 11 = some (.rw [.slice none 0 0])
  g11 : H.get 12 = some (.rw [.nilIface])
  next : 16 ≤ H.next
  w15 : ∀ b, wb = some b → 16 ≤ b
  t15 : ∀ b, tb = some b → 16 ≤ b
def FaultS (H' : Hp) (l e : Int) (p : Nat) : Prop := H'.rwc p = some [.int .i64 l, .iface 27 (.int .i64 e)] ∧ 15 ≤ p ∧ H'.lim = 11 ∧ H'.get 11 = some (.rw [.slice none 0 0]) ∧ H'.get 12 = some (.rw [.nilIface])
theorem asm_l1 (n : Nat) (lines : List ByteArray) (nl : Nat) (hnl : nl ≤ lines.length) (hnl2 : nl ≤ 4294967296) (hsz : ∀ s ∈ lines, s.size ≤ 536870912 ∧ 2 * s.size + 1 < n) : ∀ (r k m : Nat), k + r = nl → r < m → ∀ (H : Hp) (a : Asm) (wb tb : Option Nat), P1 H a wb tb → H.get 15 = some (.rw (lines.map Value.string)) →
    match asmGo a k ((lines.take nl).drop k) with
    | .error (l, e) => ∃ H' p, (∀ (kx : Nat → Fr → Hp → Option JR) (kr : Fr → Hp → Option JR), lp (s5_b1 (evCall cfc (n+84)) (n+84)) m [ptr 11 0, ptr 12 0, ptr 14 0, .slice (some ⟨15, 0, none⟩) nl 1, .int .i64 nl, .int .i64 k] H kx kr = some (.pan (faultP p) H')) ∧ FaultS H' l e p
    | .ok a' => ∃ H' wb' tb', (∀ (kx : Nat → Fr → Hp → Option JR) (kr : Fr → Hp → Option JR), lp (s5_b1 (evCall cfc (n+84)) (n+84)) m [ptr 11 0, ptr 12 0, ptr 14 0, .slice (some ⟨15, 0, none⟩) nl 1, .int .i64 nl, .int .i64 k] H kx kr = kx 0 (Fr.of [2, 3, 4] [ptr 11 0, ptr 12 0, ptr 14 0]) H') ∧ P1 H' a' wb' tb' := by
  intro r
  induction r with
  | zero =>
    intro k m hk hm H a wb tb hP hL
    obtain ⟨m, rfl⟩ : ∃ q, m = q + 1 := ⟨m - 1, by omega⟩
    have e : (lines.take nl).drop k = [] := List.drop_eq_nil_of_le (by simp; omega)
    rw [e]
    simp only [asmGo]
    have hlt : ((k : Int) < (nl : Int)) = False := eq_false (by omega)
    refine ⟨H, wb, tb, fun kx kr => ?_, hP⟩
    rw [lp_succ]
    simp -implicitDefEqProofs only [s5_b1, ↓GVdn, GVup, goInt, splice, okC, Fr.of, Fr.ofI, Fr.g, Nat.reduceAdd, Nat.reduceMul, Nat.reduceEqDiff, Nat.reduceLT, Nat.reduceLeDiff, Nat.reduceBEq, Int.reduceLT, Int.reduceLE, Int.reduceToNat, Int.reduceAdd, Int.reduceSub, Int.reduceMul, Int.reduceEq, Int.reduceNeg, ↓reduceIte, ↓reduceDIte, Nat.beq, reduceCtorEq, Value.int.injEq, Nat.reduceSub, sto_ptr, hlt]
  | succ r ih =>
    intro k m hk hm H a wb tb hP hL
    obtain ⟨m, rfl⟩ : ∃ q, m = q + 1 := ⟨m - 1, by omega⟩
    have hkl : k < lines.length := by omega
    have hd : (lines.take nl).drop k = lines[k] :: (lines.take nl).drop (k + 1) := by
      rw [List.drop_eq_getElem_cons (by simp; omega)]
      simp
    have hmem : lines[k] ∈ lines := List.getElem_mem hkl
    have hg : (lines.map Value.string)[k]? = some (.string lines[k]) := by simp [hkl]
    rw [hd]
    simp only [asmGo]
    generalize lines[k] = s at hmem hg ⊢
    obtain ⟨hs1, hs2⟩ := hsz s hmem
    have hcs := cutS_size s
    have hlt : ((k : Int) < (nl : Int)) = True := eq_true (by omega)
    have hi0 : ((0 : Int) ≤ (k : Int)) = True := eq_true (by omega)
    have hw1 : IntKind.wrap .i64 ((k : Int) + 1) = ((k + 1 : Nat) : Int) := by rw [IntWalk.i64_in _ (by omega)]; rfl
    have c14 := cells_get hL
    obtain ⟨fL, hS1⟩ := hP.as_.setLine ((k + 1 : Nat) : Int)
    have oS : ∀ b, b ≠ 14 → (H.set 14 (.rw [svOf wb a.words.length 1, .map (some 13), svOf tb a.wants.length 8, .int .i64 ((k + 1 : Nat) : Int)])).get b = H.get b := fun b hb => by rw [Hp.get_set, if_neg hb]
    have nS : (H.set 14 (.rw [svOf wb a.words.length 1, .map (some 13), svOf tb a.wants.length 8, .int .i64 ((k + 1 : Nat) : Int)])).next = H.next := rfl
    have lS : (H.set 14 (.rw [svOf wb a.words.length 1, .map (some 13), svOf tb a.wants.length 8, .int .i64 ((k + 1 : Nat) : Int)])).lim = H.lim := rfl
    generalize H.set 14 (.rw [svOf wb a.words.length 1, .map (some 13), svOf tb a.wants.length 8, .int .i64 ((k + 1 : Nat) : Int)]) = HS at *
    obtain ⟨xb, xc, h38⟩ := e38 (n + 83) s (by omega) HS
    obtain ⟨tv, H2, h31, hsl, o2, n2, l2⟩ := tok_sl (n + 82) (cutS s) (by omega) (by omega) HS
    have hS2 := hS1.keep o2 n2 l2
    have hlen := tokens_len (cutS s)
    have h39 := v14 n 14 13 H2 { a with line := ((k + 1 : Nat) : Int) } wb tb tv (tokensV (cutS s)) hS2 hsl (fun w hw => by have := tokens_size (cutS s) w hw; omega) (by omega) (by omega)
    have hn := hP.next
    have go : ∀ b, b < H.next → b ≠ 14 → H2.get b = H.get b := fun b h1 h2 => by rw [o2 b (by omega), oS b h2]
    cases ho : oneV { a with line := ((k + 1 : Nat) : Int) } (tokensV (cutS s)) with
    | error e =>
      rw [ho] at h39
      obtain ⟨H', p, i1, i2⟩ := h39
      simp only at i1 i2 ⊢
      refine ⟨H', p, fun kx kr => ?_, i2.cell, by have := i2.new; omega, by rw [i2.lim, l2, lS, hP.lim], ?_, ?_⟩
      · rw [lp_succ]
        simp -implicitDefEqProofs only [s5_b1, ↓GVdn, GVup, goInt, splice, okC, Fr.of, Fr.ofI, Fr.g, Nat.reduceAdd, Nat.reduceMul, Nat.reduceEqDiff, Nat.reduceLT, Nat.reduceLeDiff, Nat.reduceBEq, Int.reduceLT, Int.reduceLE, Int.reduceToNat, Int.reduceAdd, Int.reduceSub, Int.reduceMul, Int.reduceEq, Int.reduceNeg, ↓reduceIte, ↓reduceDIte, Nat.beq, reduceCtorEq, Value.int.injEq, Nat.reduceSub, opn_lim, hlt, hi0, hw1, c14, hg, fL, h38, h31, i1, callK_pan, pnJ_eq]
      · rw [i2.old 11 (by omega) (by omega), go 11 (by omega) (by omega)]; exact hP.g10
      · rw [i2.old 12 (by omega) (by omega), go 12 (by omega) (by omega)]; exact hP.g11
    | ok a' =>
      rw [ho] at h39
      obtain ⟨H', wb', tb', i1, i2, i3, i4, i5, i6, i7⟩ := h39
      have keepL : ∀ b, b < 16 → b ≠ 14 → b ≠ 13 → H'.get b = H.get b := fun b h1 h2 h3 => by
        rw [i5 b (by omega) h2 h3 (fun e => by have := hP.w15 b e; omega) (fun e => by have := hP.t15 b e; omega)]
        exact go b (by omega) h2
      have hP' : P1 H' a' wb' tb' := ⟨i2, by rw [i4, l2, lS, hP.lim], by rw [keepL 11 (by omega) (by omega) (by omega)]; exact hP.g10, by rw [keepL 12 (by omega) (by omega) (by omega)]; exact hP.g11, by omega,
        fun b hb => by rcases i6 b hb with h | h; exact hP.w15 b h; omega, fun b hb => by rcases i7 b hb with h | h; exact hP.t15 b h; omega⟩
      have ih := ih (k + 1) m (by omega) (by omega) H' a' wb' tb' hP' (by rw [keepL 15 (by omega) (by omega) (by omega)]; exact hL)
      have step : ∀ (kx : Nat → Fr → Hp → Option JR) (kr : Fr → Hp → Option JR), lp (s5_b1 (evCall cfc (n+84)) (n+84)) (m + 1) [ptr 11 0, ptr 12 0, ptr 14 0, .slice (some ⟨15, 0, none⟩) nl 1, .int .i64 nl, .int .i64 k] H kx kr = lp (s5_b1 (evCall cfc (n+84)) (n+84)) m [ptr 11 0, ptr 12 0, ptr 14 0, .slice (some ⟨15, 0, none⟩) nl 1, .int .i64 nl, .int .i64 ((k + 1 : Nat) : Int)] H' kx kr := by
        intro kx kr
        rw [lp_succ]
        simp -implicitDefEqProofs only [s5_b1, ↓GVdn, GVup, goInt, splice, okC, Fr.of, Fr.ofI, Fr.g, Nat.reduceAdd, Nat.reduceMul, Nat.reduceEqDiff, Nat.reduceLT, Nat.reduceLeDiff, Nat.reduceBEq, Int.reduceLT, Int.reduceLE, Int.reduceToNat, Int.reduceAdd, Int.reduceSub, Int.reduceMul, Int.reduceEq, Int.reduceNeg, ↓reduceIte, ↓reduceDIte, Nat.beq, reduceCtorEq, Value.int.injEq, Nat.reduceSub, opn_lim, hlt, hi0, hw1, c14, hg, fL, h38, h31, i1]
      simp only [step]
      exact ih
end Go.Proofs.YtbaooebafijenaaGreatDoor
