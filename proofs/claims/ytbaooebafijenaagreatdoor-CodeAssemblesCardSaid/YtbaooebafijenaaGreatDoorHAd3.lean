/- The document's assembler: the whole; the law. -/
import Derived.Test.YtbaooebafijenaaGreatDoorHLin
import Derived.Test.YtbaooebafijenaaGreatDoorHLn2
import Derived.Test.YtbaooebafijenaaGreatDoorHAsm2
import Derived.Test.YtbaooebafijenaaGreatDoorHvBun
namespace Go.Proofs.YtbaooebafijenaaGreatDoor
open Go Go.Ev
set_option maxRecDepth 100000
set_option linter.unusedSimpArgs false
set_option linter.unusedVariables false
set_option linter.unusedSectionVars false
variable [Mx]
theorem oneV_err {a : Asm} {T : List ByteArray} {e : Int} (h : oneV a T = .error e) : e ≠ 0 := by
 unfold oneV at h
 split at h
 · cases h; decide
 · split at h
   · cases h; decide
   · split at h
     · cases h; decide
     · cases h
theorem oneV_wants {a b : Asm} {T : List ByteArray} (h : oneV a T = .ok b) : ∀ w ∈ b.wants, w ∈ a.wants ∨ w.line = a.line := by
 unfold oneV at h
 split at h
 · cases h
 · split at h
   · cases h
   · split at h
     · cases h
     · cases h
       simp only
       intro w hw
       split at hw
       · exact .inl hw
       · rw [List.mem_append] at hw
         rcases hw with hw | hw
         · exact .inl hw
         · simp only [List.mem_cons, List.not_mem_nil, or_false] at hw
           subst hw
           exact .inr rfl
theorem asmL_err : ∀ (l : List Bs) (a : Asm) (k : Nat) (p e : Int), asmL a k l = .error (p, e) → 0 ≤ p ∧ p ≤ k + l.length ∧ e ≠ 0
 | [], a, k, p, e, h => by simp only [asmL] at h; cases h
 | x :: l, a, k, p, e, h => by
   simp only [asmL] at h
   split at h
   · rename_i e' he
     cases h
     exact ⟨by omega, by simp only [List.length_cons]; omega, oneV_err he⟩
   · rename_i b hb
     have := asmL_err l b (k + 1) p e h
     simp only [List.length_cons]
     exact ⟨this.1, by omega, this.2.2⟩
theorem asmL_wants : ∀ (l : List Bs) (a : Asm) (k : Nat) (b : Asm), asmL a k l = .ok b → (∀ w ∈ a.wants, 0 ≤ w.line ∧ w.line ≤ k) → ∀ w ∈ b.wants, 0 ≤ w.line ∧ w.line ≤ k + l.length
 | [], a, k, b, h, ha => by simp only [asmL] at h; cases h; intro w hw; have := ha w hw; simp only [List.length_nil]; omega
 | x :: l, a, k, b, h, ha => by
   simp only [asmL] at h
   split at h
   · cases h
   · rename_i c hc
     have := asmL_wants l c (k + 1) b h (fun w hw => by
       rcases oneV_wants hc w hw with h1 | h1
       · have := ha w h1; omega
       · simp only at h1; omega)
     intro w hw
     have := this w hw
     simp only [List.length_cons]
     omega
theorem resGo_err : ∀ (l : List Want) (a : Asm) (p e : Int), resGo a l = .error (p, e) → (∃ w ∈ l, w.line = p) ∧ e ≠ 0
 | [], a, p, e, h => by simp only [resGo] at h; cases h
 | w :: l, a, p, e, h => by
   simp only [resGo] at h
   split at h
   · rename_i q hq
     cases h
     unfold resV at hq
     split at hq
     · cases hq; exact ⟨⟨w, by simp, rfl⟩, by decide⟩
     · split at hq
       · cases hq
       · cases hq; exact ⟨⟨w, by simp, rfl⟩, by decide⟩
   · rename_i b hb
     obtain ⟨⟨v, h1, h2⟩, h3⟩ := resGo_err l b p e h
     exact ⟨⟨v, by simp [h1], h2⟩, h3⟩
theorem lin_len : ∀ (l cur : Bs), (lin l cur).length ≤ l.length + 1
 | [], cur => by simp only [lin]; split <;> simp
 | c :: r, cur => by
   simp only [lin]
   split
   · have := lin_len r []
     simp only [List.length_cons]
     omega
   · have := lin_len r (cur ++ [c])
     simp only [List.length_cons]
     omega
theorem asmV_err (l : Bs) (h : l.length ≤ 1048576) (p e : Int) (he : asmV (bs l) = .error (p, e)) : 0 ≤ p ∧ p ≤ l.length + 1 ∧ e ≠ 0 := by
 rw [asmV_L l h] at he
 have hl := lin_len l []
 cases hg : asmL asm0 0 (lin l []) with
 | error q =>
   rw [hg] at he
   cases he
   have := asmL_err _ _ _ _ _ hg
   exact ⟨this.1, by omega, this.2.2⟩
 | ok b =>
   rw [hg] at he
   simp only [asmF] at he
   split at he
   · rename_i q hq
     cases he
     obtain ⟨⟨w, h1, h2⟩, h3⟩ := resGo_err _ _ _ _ hq
     have := asmL_wants _ _ _ _ hg (fun w hw => by cases hw) w h1
     subst h2
     exact ⟨this.1, by omega, h3⟩
   · cases he
theorem oneV_words {a b : Asm} {T : List ByteArray} (h : oneV a T = .ok b) : b.words.length ≤ 65536 := by
 unfold oneV at h
 split at h
 · cases h
 · split at h
   · cases h
   · split at h
     · cases h
     · cases h
       simp only [List.length_append]
       omega
theorem asmL_words : ∀ (l : List Bs) (a : Asm) (k : Nat) (b : Asm), asmL a k l = .ok b → a.words.length ≤ 65536 → b.words.length ≤ 65536
 | [], a, k, b, h, ha => by simp only [asmL] at h; cases h; exact ha
 | x :: l, a, k, b, h, ha => by
   simp only [asmL] at h
   split at h
   · cases h
   · rename_i c hc
     exact asmL_words l c (k + 1) b h (oneV_words hc)
theorem resGo_words : ∀ (l : List Want) (a b : Asm), resGo a l = .ok b → b.words.length = a.words.length
 | [], a, b, h => by simp only [resGo] at h; cases h; rfl
 | w :: l, a, b, h => by
   simp only [resGo] at h
   split at h
   · cases h
   · rename_i c hc
     rw [resGo_words l c b h]
     exact (resV_ok hc).2.1
theorem asmV_words (l : Bs) (h : l.length ≤ 1048576) (ws : List Int) (he : asmV (bs l) = .ok ws) : ws.length ≤ 65536 := by
 rw [asmV_L l h] at he
 cases hg : asmL asm0 0 (lin l []) with
 | error q => rw [hg] at he; cases he
 | ok b =>
   rw [hg] at he
   simp only [asmF] at he
   split at he
   · cases he
   · rename_i c hc
     cases he
     rw [resGo_words _ _ _ hc]
     exact asmL_words _ _ _ _ hg (by decide)
end Go.Proofs.YtbaooebafijenaaGreatDoor
namespace Go.Proofs.YtbaooebafijenaaGreatDoor
open Go Go.Ev
set_option maxRecDepth 100000
set_option linter.unusedSimpArgs false
set_option linter.unusedVariables false
set_option maxHeartbeats 4000000
set_option linter.unusedSectionVars false
variable [Mx]
attribute [local congr] bind_front callK_front jn_front ifB_front ifG_front lp_front
def lineN : Bs → Nat
 | [] => 0
 | c :: r => if c = 10 then 0 else lineN r + 1
theorem lineN_le : ∀ l : Bs, lineN l ≤ l.length
 | [] => Nat.le_refl _
 | c :: r => by
   have := lineN_le r
   simp only [lineN]
   split
   · omega
   · simp only [List.length_cons]; omega
theorem lineN_none : ∀ l : Bs, 10 ∉ l → lineN l = l.length
 | [], _ => rfl
 | c :: r, h => by
   simp only [List.mem_cons, not_or] at h
   simp only [lineN]
   rw [if_neg (fun e => h.1 e.symm), lineN_none r h.2]
   rfl
theorem lineN_some : ∀ p r : Bs, 10 ∉ p → lineN (p ++ 10 :: r) = p.length
 | [], r, _ => rfl
 | c :: p, r, h => by
   simp only [List.mem_cons, not_or] at h
   simp only [List.cons_append, lineN]
   rw [if_neg (fun e => h.1 e.symm), lineN_some p r h.2]
   rfl
theorem lin_step (l : Bs) (h : l ≠ []) : lin l [] = l.take (lineN l) :: lin (l.drop (lineN l + 1)) [] := by
 rcases first_of 10 l with h1 | ⟨p, r, h1, h2⟩
 · rw [lin_none l [] h1, lineN_none l h1, List.nil_append, if_neg h, List.take_of_length_le (Nat.le_refl _), List.drop_eq_nil_of_le (by omega)]
   rfl
 · rw [h1, lin_some p r [] h2, lineN_some p r h2, List.nil_append]
   have e1 : (p ++ 10 :: r).take p.length = p := by simp
   have e2 : (p ++ 10 :: r).drop (p.length + 1) = r := by
     rw [← List.drop_drop, List.drop_left]
     rfl
   rw [e1, e2]
theorem as_l1 (C : Cl) (n : Nat) (s : Bs) (hs : s.length ≤ 1073741824) (f g ln fr : Value) (H : Hp) (kx : Nat → Fr → Hp → Option (Out × Hp)) (kr : Fr → Hp → Option (Out × Hp)) : ∀ (r k m : Nat), k + r = s.length → r < m →
   lp (s6_b1 C n) m [.string (bs s), f, g, ln, fr, .int .i64 k] H kx kr = kx 2 (Fr.of [0, 3, 4, 5, 6, 7] [.string (bs s), f, g, ln, fr, .int .i64 ((k + lineN (s.drop k) : Nat) : Int)]) H := by
 have hsz : (bs s).size = s.length := by rw [Lib.size_eq, bs_list]
 intro r
 induction r with
 | zero =>
   intro k m hk hm
   obtain ⟨m, rfl⟩ : ∃ q, m = q + 1 := ⟨m - 1, by omega⟩
   have hlt : ((k : Int) < (s.length : Int)) = False := eq_false (by omega)
   have e : s.drop k = [] := List.drop_eq_nil_of_le (by omega)
   rw [lp_succ, e]
   simp only [lineN, Nat.add_zero]
   simp -implicitDefEqProofs only [s6_b1, ↓GVdn, GVup, goInt, splice, okC, Fr.of, Fr.ofI, Fr.g, Nat.reduceAdd, Nat.reduceMul, Nat.reduceEqDiff, Nat.reduceLT, Nat.reduceLeDiff, Nat.reduceBEq, Int.reduceLT, Int.reduceLE, Int.reduceToNat, Int.reduceAdd, Int.reduceSub, Int.reduceMul, Int.reduceEq, Int.reduceNeg, ↓reduceIte, ↓reduceDIte, Nat.beq, reduceCtorEq, Value.int.injEq, Nat.reduceSub, sto_ptr, hsz, hlt]
 | succ r ih =>
   intro k m hk hm
   obtain ⟨m, rfl⟩ : ∃ q, m = q + 1 := ⟨m - 1, by omega⟩
   have hkl : k < s.length := by omega
   have hlt : ((k : Int) < (s.length : Int)) = True := eq_true (by omega)
   have hd : s.drop k = s[k] :: s.drop (k + 1) := List.drop_eq_getElem_cons hkl
   have hx := sx_bs s k hkl
   have hw1 : IntKind.wrap .i64 ((k : Int) + 1) = ((k + 1 : Nat) : Int) := by rw [IntWalk.i64_in _ (by omega)]; rfl
   have ih := ih (k + 1) m (by omega) (by omega)
   rw [hd]
   simp only [lineN]
   by_cases h10 : s[k] = 10
   · have e10 : (((s[k]).toNat : Int) = 10) = True := eq_true (by rw [h10]; rfl)
     rw [lp_succ, if_pos h10, Nat.add_zero]
     simp -implicitDefEqProofs only [s6_b1, ↓GVdn, GVup, goInt, splice, okC, Fr.of, Fr.ofI, Fr.g, Nat.reduceAdd, Nat.reduceMul, Nat.reduceEqDiff, Nat.reduceLT, Nat.reduceLeDiff, Nat.reduceBEq, Int.reduceLT, Int.reduceLE, Int.reduceToNat, Int.reduceAdd, Int.reduceSub, Int.reduceMul, Int.reduceEq, Int.reduceNeg, ↓reduceIte, ↓reduceDIte, Nat.beq, reduceCtorEq, Value.int.injEq, Nat.reduceSub, sto_ptr, hsz, hlt, hx, e10]
   · have e10 : (((s[k]).toNat : Int) = 10) = False := eq_false (fun e => h10 (UInt8.toNat_inj.1 (by simpa using (by omega : (s[k]).toNat = 10))))
     have et : k + (lineN (s.drop (k + 1)) + 1) = k + 1 + lineN (s.drop (k + 1)) := by omega
     rw [lp_succ, if_neg h10, et]
     simp -implicitDefEqProofs only [s6_b1, ↓GVdn, GVup, goInt, splice, okC, Fr.of, Fr.ofI, Fr.g, Nat.reduceAdd, Nat.reduceMul, Nat.reduceEqDiff, Nat.reduceLT, Nat.reduceLeDiff, Nat.reduceBEq, Int.reduceLT, Int.reduceLE, Int.reduceToNat, Int.reduceAdd, Int.reduceSub, Int.reduceMul, Int.reduceEq, Int.reduceNeg, ↓reduceIte, ↓reduceDIte, Nat.beq, reduceCtorEq, Value.int.injEq, Nat.reduceSub, sto_ptr, hsz, hlt, hx, e10, hw1, ih]
theorem oneV_le {a b : Asm} {T : List ByteArray} (h : oneV a T = .ok b) (ha : a.wants.length ≤ a.words.length) : b.wants.length ≤ b.words.length ∧ b.words.length ≤ 65536 := by
 unfold oneV at h
 split at h
 · cases h
 · rename_i ws i lab hrd
   split at h
   · cases h
   · split at h
     · cases h
     · cases h
       simp only [List.length_append]
       refine ⟨?_, by omega⟩
       split
       · omega
       · rename_i hl
         have := rdV_lab hrd hl
         simp only [List.length_append, List.length_cons, List.length_nil]
         omega
structure D1 (H : Hp) (F A mb : Nat) (a : Asm) (wb tb : Option Nat) : Prop where
 s : DsS H A mb a wb tb
 f : H.rwc F = some [.int .i64 0, .int .i64 0]
 lf : H.lim ≤ F
 nf : F < H.next
 fne : F ≠ A ∧ F ≠ mb ∧ wb ≠ some F ∧ tb ≠ some F
theorem D1.step {H H' : Hp} {F A mb : Nat} {a a' : Asm} {wb tb wb' tb' : Option Nat} (h : D1 H F A mb a wb tb) (hs : DsS H' A mb a' wb' tb') (hk : KeS H H' A mb wb tb wb' tb') : D1 H' F A mb a' wb' tb' := by
 have hn := h.nf
 obtain ⟨f1, f2, f3, f4⟩ := h.fne
 refine ⟨hs, ?_, by rw [hk.lim]; exact h.lf, by have := hk.next; omega, f1, f2, fun e => ?_, fun e => ?_⟩
 · have := hk.old F hn f1 f2 f3 f4
   unfold Hp.rwc
   rw [this]
   exact h.f
 · rcases hk.w F e with h1 | h1
   · exact f3 h1
   · omega
 · rcases hk.t F e with h1 | h1
   · exact f4 h1
   · omega
theorem as_l2 (hnm : (Mx.nm : Option Blk) = some (.ro namesC)) (n : Nat) (s : Bs) (hs : s.length ≤ 400000) (hn : 400000 < n) (F A mb : Nat) : ∀ (N from_ m k : Nat), s.length - from_ < N → N ≤ m → k ≤ from_ → ∀ (H : Hp) (a : Asm) (wb tb : Option Nat), D1 H F A mb a wb tb → a.words.length ≤ 65536 → a.wants.length ≤ a.words.length →
   match asmL a k (lin (s.drop from_) []) with
   | .error (p, e) => ∃ H', (∀ (kx : Nat → Fr → Hp → Option (Out × Hp)) (kr : Fr → Hp → Option (Out × Hp)), lp (s6_b2 (evCall cfc (n+132)) (n+132)) m [.string (bs s), ptr F 0, ptr A 0, .int .i64 k, .int .i64 from_] H kx kr = kr (Fr.of [2, 3, 4] [.slice none 0 0, ptr F 0, ptr A 0]) H') ∧ H'.rwc F = some [.int .i64 p, .int .i64 e]
   | .ok a' => ∃ H' wb' tb', (∀ (kx : Nat → Fr → Hp → Option (Out × Hp)) (kr : Fr → Hp → Option (Out × Hp)), lp (s6_b2 (evCall cfc (n+132)) (n+132)) m [.string (bs s), ptr F 0, ptr A 0, .int .i64 k, .int .i64 from_] H kx kr = kx 0 (Fr.of [2, 3, 4] [dead, ptr F 0, ptr A 0]) H') ∧ D1 H' F A mb a' wb' tb' ∧ a'.words.length ≤ 65536 ∧ a'.wants.length ≤ a'.words.length ∧ H'.lim = H.lim ∧ (∀ b, wb' = some b → wb = some b ∨ H.next ≤ b) := by
 have hsz : (bs s).size = s.length := by rw [Lib.size_eq, bs_list]
 intro N
 induction N with
 | zero => intro f m k h; omega
 | succ N ih =>
   intro from_ m k hN hm hkf H a wb tb hD hw1 hw2
   obtain ⟨m, rfl⟩ : ∃ q, m = q + 1 := ⟨m - 1, by omega⟩
   by_cases hend : s.length ≤ from_
   · have e : s.drop from_ = [] := List.drop_eq_nil_of_le hend
     have hlt : ((from_ : Int) < (s.length : Int)) = False := eq_false (by omega)
     rw [e]
     simp only [lin, if_true, asmL]
     refine ⟨H, wb, tb, fun kx kr => ?_, hD, hw1, hw2, rfl, fun b e => .inl e⟩
     rw [lp_succ]
     simp -implicitDefEqProofs only [s6_b2, ↓GVdn, GVup, goInt, splice, okC, Fr.of, Fr.ofI, Fr.g, Nat.reduceAdd, Nat.reduceMul, Nat.reduceEqDiff, Nat.reduceLT, Nat.reduceLeDiff, Nat.reduceBEq, Int.reduceLT, Int.reduceLE, Int.reduceToNat, Int.reduceAdd, Int.reduceSub, Int.reduceMul, Int.reduceEq, Int.reduceNeg, ↓reduceIte, ↓reduceDIte, Nat.beq, reduceCtorEq, Value.int.injEq, Nat.reduceSub, sto_ptr, hsz, hlt]
   · have hlt : ((from_ : Int) < (s.length : Int)) = True := eq_true (by omega)
     have hne : s.drop from_ ≠ [] := fun e => by have := congrArg List.length e; simp only [List.length_drop, List.length_nil] at this; omega
     have hle := lineN_le (s.drop from_)
     rw [List.length_drop] at hle
     rw [lin_step _ hne]
     have l1 := fun kx kr => as_l1 (evCall cfc (n+132)) (n+132) s (by omega) (ptr F 0) (ptr A 0) (.int .i64 k) (.int .i64 from_) H kx kr (s.length - from_) from_ (n+132) (by omega) (by omega)
     have hsl := slS_bs s from_ (from_ + lineN (s.drop from_)) (by omega) (by omega)
     rw [Nat.add_sub_cancel_left] at hsl
     have hdd : (s.drop from_).drop (lineN (s.drop from_) + 1) = s.drop (from_ + lineN (s.drop from_) + 1) := by rw [List.drop_drop]; congr 1
     rw [hdd]
     generalize hto : lineN (s.drop from_) = t at *
     generalize hl : (s.drop from_).take t = l at *
     have hll : l.length ≤ 400000 := by rw [← hl, List.length_take, List.length_drop]; omega
     have hk1 : IntKind.wrap .i64 ((k : Int) + 1) = ((k + 1 : Nat) : Int) := by rw [IntWalk.i64_in _ (by omega)]; rfl
     have ht1 : IntKind.wrap .i64 (((from_ + t : Nat) : Int) + 1) = ((from_ + t + 1 : Nat) : Int) := by rw [IntWalk.i64_in _ (by omega)]; rfl
     have h17 := v17 hnm n H A mb a wb tb l (k + 1) hD.s hll (by omega) hw1 hw2
     simp only [asmL]
     cases ho : oneV { a with line := ((k + 1 : Nat) : Int) } (lineT l) with
     | error e =>
       rw [ho] at h17
       obtain ⟨H2, g1, g2, g3, g4⟩ := h17
       simp only
       have he := oneV_err ho
       have he' : (e = 0) = False := eq_false he
       obtain ⟨f1, f2, f3, f4⟩ := hD.fne
       have fr2 : H2.rwc F = some [.int .i64 0, .int .i64 0] := by
         have := g4 F hD.nf f1 f2 f3 f4
         unfold Hp.rwc; rw [this]; exact hD.f
       have fst2 : st 2 (ptr F 0) (.agg #[.int .i64 ((k + 1 : Nat) : Int), .int .i64 e]) H2 = some (H2.set F (.rw [.int .i64 ((k + 1 : Nat) : Int), .int .i64 e])) :=
         st_rwc (cs := [.int .i64 0, .int .i64 0]) (o := 0) (n := 2) (vs := [.int .i64 ((k + 1 : Nat) : Int), .int .i64 e]) fr2 (by rw [g3]; exact hD.lf) rfl rfl (by simp) rfl
       refine ⟨H2.set F (.rw [.int .i64 ((k + 1 : Nat) : Int), .int .i64 e]), fun kx kr => ?_, by rw [rwc_set, if_pos rfl]⟩
       rw [lp_succ]
       simp -implicitDefEqProofs only [s6_b2, ↓GVdn, GVup, goInt, splice, okC, Fr.of, Fr.ofI, Fr.g, Nat.reduceAdd, Nat.reduceMul, Nat.reduceEqDiff, Nat.reduceLT, Nat.reduceLeDiff, Nat.reduceBEq, Int.reduceLT, Int.reduceLE, Int.reduceToNat, Int.reduceAdd, Int.reduceSub, Int.reduceMul, Int.reduceEq, Int.reduceNeg, ↓reduceIte, ↓reduceDIte, Nat.beq, reduceCtorEq, Value.int.injEq, Nat.reduceSub, sto_ptr, hsz, hlt, l1, hk1, hsl, g1, he', fst2]
     | ok a' =>
       rw [ho] at h17
       obtain ⟨H2, wb2, tb2, g1, g2, g3⟩ := h17
       simp only
       have hD2 := hD.step g2 g3
       have hle2 := oneV_le ho hw2
       have ih := ih (from_ + t + 1) m (k + 1) (by omega) (by omega) (by omega) H2 a' wb2 tb2 hD2 hle2.2 hle2.1
       have step : ∀ kx kr, lp (s6_b2 (evCall cfc (n+132)) (n+132)) (m + 1) [.string (bs s), ptr F 0, ptr A 0, .int .i64 k, .int .i64 from_] H kx kr = lp (s6_b2 (evCall cfc (n+132)) (n+132)) m [.string (bs s), ptr F 0, ptr A 0, .int .i64 ((k + 1 : Nat) : Int), .int .i64 ((from_ + t + 1 : Nat) : Int)] H2 kx kr := by
         intro kx kr
         rw [lp_succ]
         simp -implicitDefEqProofs only [s6_b2, ↓GVdn, GVup, goInt, splice, okC, Fr.of, Fr.ofI, Fr.g, Nat.reduceAdd, Nat.reduceMul, Nat.reduceEqDiff, Nat.reduceLT, Nat.reduceLeDiff, Nat.reduceBEq, Int.reduceLT, Int.reduceLE, Int.reduceToNat, Int.reduceAdd, Int.reduceSub, Int.reduceMul, Int.reduceEq, Int.reduceNeg, ↓reduceIte, ↓reduceDIte, Nat.beq, reduceCtorEq, Value.int.injEq, Nat.reduceSub, sto_ptr, hsz, hlt, l1, hk1, ht1, hsl, g1]
       simp only [step]
       cases hr : asmL a' (k + 1) (lin (s.drop (from_ + t + 1)) []) with
       | error q =>
         obtain ⟨p, e⟩ := q
         rw [hr] at ih
         exact ih
       | ok a2 =>
         rw [hr] at ih
         obtain ⟨H3, wb3, tb3, i1, i2, i3, i4, i5, i6⟩ := ih
         refine ⟨H3, wb3, tb3, i1, i2, i3, i4, by rw [i5, g3.lim], fun b e => ?_⟩
         rcases i6 b e with h1 | h1
         · exact g3.w b h1
         · exact .inr (by have := g3.next; omega)
end Go.Proofs.YtbaooebafijenaaGreatDoor
namespace Go.Proofs.YtbaooebafijenaaGreatDoor
open Go Go.Ev
set_option maxRecDepth 100000
set_option linter.unusedSimpArgs false
set_option linter.unusedVariables false
set_option maxHeartbeats 4000000
set_option linter.unusedSectionVars false
variable [Mx]
attribute [local congr] bind_front callK_front jn_front ifB_front ifG_front lp_front
theorem uns_at : ∀ (l : List Want) (k : Nat) (h : k < l.length), ((uns l).drop (k * 8)).take 8 = (l[k]).ucells
 | w :: l, 0, h => by
   have e : uns (w :: l) = w.ucells ++ uns l := rfl
   rw [Nat.zero_mul, List.drop_zero, e, List.take_append_of_le_length (by show 8 ≤ 8; exact Nat.le_refl _)]
   rfl
 | w :: l, k + 1, h => by
   have e : uns (w :: l) = w.ucells ++ uns l := rfl
   have e2 : (k + 1) * 8 = w.ucells.length + k * 8 := by show (k + 1) * 8 = 8 + k * 8; omega
   rw [e2, e, List.drop_append, List.drop_of_length_le (Nat.le_add_right _ _), List.nil_append, Nat.add_sub_cancel_left]
   simp only [List.getElem_cons_succ]
   exact uns_at l k (by simpa using h)
def U8 : List Value := [.int .i64 0, .int .i64 0, .string ⟨#[]⟩, .int .i64 0, .int .i64 0, .int .i64 0, .int .i64 0, .int .i64 0]
theorem st_wd {H : Hp} {A mb : Nat} {a : Asm} {wb tb : Option Nat} (hS : DsS H A mb a wb tb) {j : Nat} (hj : j < a.words.length) (z : Int) :
   ∃ b, wb = some b ∧ st 1 (ptr b j) (.int .u32 z) H = some (H.set b (.rw (wvs (a.words.set j z)))) := by
 have hr := hS.wr
 cases wb with
 | none =>
   have : wvs a.words = [] := hr
   have := congrArg List.length this
   rw [wvs_len] at this
   simp only [List.length_nil] at this
   omega
 | some b =>
   refine ⟨b, rfl, ?_⟩
   have h1 := st_rwc (H := H) (b := b) (o := j) (n := 1) (cs := wvs a.words) (v := .int .u32 z) (vs := [.int .u32 z]) (rwc_get hr.1) hr.2.1 rfl rfl (by rw [wvs_len]; omega) rfl
   rw [h1]
   congr 3
   simp only [splice]
   unfold wvs
   rw [List.map_set]
theorem DsS.setW {H : Hp} {A mb : Nat} {a : Asm} {b : Nat} {tb : Option Nat} (hS : DsS H A mb a (some b) tb) (j : Nat) (z : Int) : DsS (H.set b (.rw (wvs (a.words.set j z)))) A mb { a with words := a.words.set j z } (some b) tb := by
 obtain ⟨es, ck, m1, m2⟩ := hS.mp
 have hr := hS.wr
 have hbA := (hS.dw b rfl).1
 have hbT := (hS.dw b rfl).2
 have hbm : b ≠ mb := fun e => by
   have := hr.1
   rw [e, m1] at this
   cases this
 refine ⟨hS.h13, hS.gn, hS.lA, hS.lm, hS.nA, hS.nm, hS.ne, ?_, ⟨es, ck, by rw [Hp.get_set, if_neg (fun e => hbm e.symm)]; exact m1, m2⟩, ?_, row_set hS.tr _ hbT, hS.dw, hS.dt, ?_⟩
 · rw [Hp.get_set, if_neg (fun e => hbA e.symm)]
   simp only [List.length_set]
   exact hS.cell
 · refine ⟨by rw [Hp.get_set, if_pos rfl], hr.2.1, hr.2.2.1, fun e => hr.2.2.2 ?_⟩
   have := congrArg List.length e
   rw [wvs_len, List.length_set] at this
   exact List.eq_nil_of_length_eq_zero (by rw [wvs_len]; exact this)
 · simp only [List.length_set]
   exact hS.bw
theorem as_l3 (n : Nat) (F A mb : Nat) (wants : List Want) (hwn : wants.length ≤ 70000) : ∀ (r k m : Nat), k + r = wants.length → r < m → ∀ (H : Hp) (a : Asm) (wb tb : Option Nat), D1 H F A mb a wb tb → a.wants = wants → (∀ w ∈ wants, 0 ≤ w.at_ ∧ w.at_ < a.words.length) → (∀ b, wb = some b → Tabs.gn ≤ b) →
   match resGo a (wants.drop k) with
   | .error (p, e) => ∃ H', (∀ (kx : Nat → Fr → Hp → Option (Out × Hp)) (kr : Fr → Hp → Option (Out × Hp)), lp (s6_b3 (evCall cfc (n+20)) (n+20)) m [ptr F 0, ptr A 0, .int .i64 k] H kx kr = kr (Fr.of [2, 3, 4] [.slice none 0 0, ptr F 0, ptr A 0]) H') ∧ H'.rwc F = some [.int .i64 p, .int .i64 e]
   | .ok a' => ∃ H', (∀ (kx : Nat → Fr → Hp → Option (Out × Hp)) (kr : Fr → Hp → Option (Out × Hp)), lp (s6_b3 (evCall cfc (n+20)) (n+20)) m [ptr F 0, ptr A 0, .int .i64 k] H kx kr = kx 4 (Fr.of [2, 3, 4] [dead, ptr F 0, ptr A 0]) H') ∧ D1 H' F A mb a' wb tb := by
 intro r
 induction r with
 | zero =>
   intro k m hk hm H a wb tb hD haw hat hgnb
   obtain ⟨m, rfl⟩ : ∃ q, m = q + 1 := ⟨m - 1, by omega⟩
   have e : wants.drop k = [] := List.drop_eq_nil_of_le (by omega)
   have hlt : ((k : Int) < (wants.length : Int)) = False := eq_false (by omega)
   have cA := cells_get hD.s.cell
   have hll : ∀ H, len 1 (svOf tb a.wants.length 8) H = some (.int .i64 wants.length) := fun H => by
     rw [← haw]
     refine len_sv _ _ _ _ (fun e => ?_)
     have h := hD.s.tr
     subst e
     have h : uns a.wants = [] := h
     have := congrArg List.length h
     rw [uns_len, List.length_nil] at this
     omega
   rw [e]
   simp only [resGo]
   refine ⟨H, fun kx kr => ?_, hD⟩
   rw [lp_succ]
   simp -implicitDefEqProofs only [s6_b3, ↓GVdn, GVup, goInt, splice, okC, Fr.of, Fr.ofI, Fr.g, Nat.reduceAdd, Nat.reduceMul, Nat.reduceEqDiff, Nat.reduceLT, Nat.reduceLeDiff, Nat.reduceBEq, Int.reduceLT, Int.reduceLE, Int.reduceToNat, Int.reduceAdd, Int.reduceSub, Int.reduceMul, Int.reduceEq, Int.reduceNeg, ↓reduceIte, ↓reduceDIte, Nat.beq, reduceCtorEq, Value.int.injEq, Nat.reduceSub, sto_ptr, cA, hll, hlt]
 | succ r ih =>
   intro k m hk hm H a wb tb hD haw hat hgnb
   obtain ⟨m, rfl⟩ : ∃ q, m = q + 1 := ⟨m - 1, by omega⟩
   have hkl : k < wants.length := by omega
   have hd : wants.drop k = wants[k] :: wants.drop (k + 1) := List.drop_eq_getElem_cons hkl
   have hmem : wants[k] ∈ wants := List.getElem_mem hkl
   have hat8 := uns_at wants k hkl
   have hatk := hat _ hmem
   rw [hd]
   simp only [resGo]
   generalize wants[k] = w at hmem hat8 hatk ⊢
   have hlt : ((k : Int) < (wants.length : Int)) = True := eq_true (by omega)
   have hw1 : IntKind.wrap .i64 ((k : Int) + 1) = ((k + 1 : Nat) : Int) := by rw [IntWalk.i64_in _ (by omega)]; rfl
   have hS := hD.s
   have nA := hS.nA
   have nm := hS.nm
   have lA := hS.lA
   have cA := cells_get hS.cell
   have htr := hS.tr
   rw [haw] at htr
   obtain ⟨es, ck, m1, m2⟩ := hS.mp
   have hbw := hS.bw
   cases tb with
   | none =>
     have : uns wants = [] := htr
     have := congrArg List.length this
     rw [uns_len, List.length_nil] at this
     omega
   | some bb =>
     have ct := cells_get htr.1
     have hbb := htr.2.2.1
     have hbl := htr.2.1
     have hll : ∀ H, len 1 (svOf (some bb) a.wants.length 8) H = some (.int .i64 wants.length) := fun H => by rw [← haw]; rfl
     have hsa : sa 8 (svOf (some bb) a.wants.length 8) (.int .i64 k) = some (ptr bb (k * 8)) := by
       rw [haw]
       simp only [sa, svOf]
       rw [if_pos (by omega)]
       simp
     have hld8 : ldN 8 (ptr bb (k * 8)) H = some (.agg w.ucells.toArray) := by
       simp only [ldN, ptr, ct, Option.bind_some]
       rw [if_pos (by rw [uns_len]; omega), hat8]
     have fW : st 8 (ptr H.next 0) (.agg w.ucells.toArray) (H.new (.rw U8)) = some ((H.new (.rw U8)).set H.next (.rw w.ucells)) :=
       st_rwc (H := H.new (.rw U8)) (b := H.next) (o := 0) (n := 8) (cs := U8) (v := .agg w.ucells.toArray) (vs := w.ucells) (by rw [rwc_new, if_pos rfl]) (by show H.lim ≤ H.next; omega) rfl rfl (by show 0 + 8 ≤ 8; omega) rfl
     have o1 : ∀ c, c < H.next → ((H.new (.rw U8)).set H.next (.rw w.ucells)).get c = H.get c := fun c hc => by rw [Hp.get_set, if_neg (by omega), Hp.get_new, if_neg (by omega)]
     have g1 : ((H.new (.rw U8)).set H.next (.rw w.ucells)).get H.next = some (.rw w.ucells) := by rw [Hp.get_set, if_pos rfl]
     have n1 : ((H.new (.rw U8)).set H.next (.rw w.ucells)).next = H.next + 1 := rfl
     have l1 : ((H.new (.rw U8)).set H.next (.rw w.ucells)).lim = H.lim := rfl
     generalize hH1 : (H.new (.rw U8)).set H.next (.rw w.ucells) = H1 at fW o1 g1 n1 l1
     have hS1 := hS.keep o1 (by omega) l1
     have hD1 := hD.step hS1 (KeS.ofKeep o1 (by omega) l1)
     have cA1 := cells_get hS1.cell
     have cW1 := cells_get g1
     have uc : w.ucells = [.int .i64 w.line, .int .i64 w.at_, .string w.lab, .int .i64 w.i.op, .int .i64 w.i.A, .int .i64 w.i.B, .int .i64 w.i.C, .int .i64 w.i.I] := rfl
     have hlk0 := lkup_MR (H := H1) (by rw [o1 mb nm]; exact m1) m2 w.lab
     have hlk : ∀ L, lkup true (.int .i64 0) true (.map (some mb)) (.string w.lab) (H1.opn L) = _ := fun L => (by
       have : lkup true (.int .i64 0) true (.map (some mb)) (.string w.lab) (H1.opn L) = lkup true (.int .i64 0) true (.map (some mb)) (.string w.lab) H1 := by
         simp only [lkup, entries, get_opn]
       exact this.trans hlk0)
     have bad : ∀ (e : Int) (H2 : Hp), H2.rwc F = some [.int .i64 0, .int .i64 0] → H2.lim = H.lim → st 2 (ptr F 0) (.agg #[.int .i64 w.line, .int .i64 e]) H2 = some (H2.set F (.rw [.int .i64 w.line, .int .i64 e])) := fun e H2 h1 h2 =>
       st_rwc (cs := [.int .i64 0, .int .i64 0]) (o := 0) (n := 2) (vs := [.int .i64 w.line, .int .i64 e]) h1 (by rw [h2]; exact hD.lf) rfl rfl (by simp) rfl
     unfold resV
     cases hf : findL w.lab a.labels with
     | none =>
       rw [hf] at hlk
       simp only at hlk ⊢
       have fb := bad 302 H1 hD1.f l1
       refine ⟨H1.set F (.rw [.int .i64 w.line, .int .i64 302]), fun kx kr => ?_, by rw [rwc_set, if_pos rfl]⟩
       rw [lp_succ]
       rw [uc] at fW cW1 hld8
       simp only [U8] at fW
       simp -implicitDefEqProofs only [s6_b3, ↓GVdn, GVup, goInt, splice, okC, Fr.of, Fr.ofI, Fr.g, Nat.reduceAdd, Nat.reduceMul, Nat.reduceEqDiff, Nat.reduceLT, Nat.reduceLeDiff, Nat.reduceBEq, Int.reduceLT, Int.reduceLE, Int.reduceToNat, Int.reduceAdd, Int.reduceSub, Int.reduceMul, Int.reduceEq, Int.reduceNeg, ↓reduceIte, ↓reduceDIte, Nat.beq, reduceCtorEq, Value.int.injEq, Nat.reduceSub, opn_lim, hlt, cA, cA1, hll, hsa, hld8, fW, cW1, hlk, fb]
     | some z =>
       rw [hf] at hlk
       simp only at hlk ⊢
       have fI : st 1 (ptr H.next 7) (.int .i64 (IntKind.wrap .i64 (z - w.at_))) H1 = some (H1.set H.next (.rw [.int .i64 w.line, .int .i64 w.at_, .string w.lab, .int .i64 w.i.op, .int .i64 w.i.A, .int .i64 w.i.B, .int .i64 w.i.C, .int .i64 (IntKind.wrap .i64 (z - w.at_))])) :=
         st_rwc (o := 7) (n := 1) (vs := [.int .i64 (IntKind.wrap .i64 (z - w.at_))]) (rwc_get g1) (by rw [l1]; omega) rfl rfl (by rw [uc]; simp) rfl
       have o2 : ∀ c, c < H.next → (H1.set H.next (.rw [.int .i64 w.line, .int .i64 w.at_, .string w.lab, .int .i64 w.i.op, .int .i64 w.i.A, .int .i64 w.i.B, .int .i64 w.i.C, .int .i64 (IntKind.wrap .i64 (z - w.at_))])).get c = H.get c := fun c hc => by rw [Hp.get_set, if_neg (by omega)]; exact o1 c hc
       have g2 : (H1.set H.next (.rw [.int .i64 w.line, .int .i64 w.at_, .string w.lab, .int .i64 w.i.op, .int .i64 w.i.A, .int .i64 w.i.B, .int .i64 w.i.C, .int .i64 (IntKind.wrap .i64 (z - w.at_))])).get H.next = some (.rw [.int .i64 w.line, .int .i64 w.at_, .string w.lab, .int .i64 w.i.op, .int .i64 w.i.A, .int .i64 w.i.B, .int .i64 w.i.C, .int .i64 (IntKind.wrap .i64 (z - w.at_))]) := by rw [Hp.get_set, if_pos rfl]
       have n2 : (H1.set H.next (.rw [.int .i64 w.line, .int .i64 w.at_, .string w.lab, .int .i64 w.i.op, .int .i64 w.i.A, .int .i64 w.i.B, .int .i64 w.i.C, .int .i64 (IntKind.wrap .i64 (z - w.at_))])).next = H.next + 1 := n1
       have l2 : (H1.set H.next (.rw [.int .i64 w.line, .int .i64 w.at_, .string w.lab, .int .i64 w.i.op, .int .i64 w.i.A, .int .i64 w.i.B, .int .i64 w.i.C, .int .i64 (IntKind.wrap .i64 (z - w.at_))])).lim = H.lim := l1
       generalize hH2 : H1.set H.next (.rw [.int .i64 w.line, .int .i64 w.at_, .string w.lab, .int .i64 w.i.op, .int .i64 w.i.A, .int .i64 w.i.B, .int .i64 w.i.C, .int .i64 (IntKind.wrap .i64 (z - w.at_))]) = H2 at fI o2 g2 n2 l2
       have hS2 := hS.keep o2 (by omega) l2
       have hD2 := hD.step hS2 (KeS.ofKeep o2 (by omega) l2)
       have cA2 := cells_get hS2.cell
       have cW2 := cells_get g2
       have kE := fun H => enc_t (n + 12) H w.i.op w.i.A w.i.B w.i.C (IntKind.wrap .i64 (z - w.at_))
       have hchk : (w.ins z).chk = chkV w.i.op w.i.A w.i.B w.i.C (IntKind.wrap .i64 (z - w.at_)) := rfl
       rw [hchk]
       by_cases hk0 : chkV w.i.op w.i.A w.i.B w.i.C (IntKind.wrap .i64 (z - w.at_)) = 0
       · rw [if_pos hk0]
         simp only
         have hword : encW w.i.op w.i.A w.i.B w.i.C (IntKind.wrap .i64 (z - w.at_)) = (w.ins z).word := if_pos hk0
         rw [hword, hk0] at kE
         generalize (w.ins z).word = W at kE ⊢
         obtain ⟨aw, haw2⟩ : ∃ j : Nat, w.at_ = (j : Int) := ⟨w.at_.toNat, by omega⟩
         have hjl : aw < a.words.length := by omega
         obtain ⟨b, hwb, fB⟩ := st_wd hS2 hjl W
         subst hwb
         have hto : w.at_.toNat = aw := by omega
         rw [hto]
         have hS3 := hS2.setW aw W
         have hbF : b ≠ F := fun e => hD.fne.2.2.1 (by rw [e])
         have hD3 : D1 (H2.set b (.rw (wvs (a.words.set aw W)))) F A mb { a with words := a.words.set aw W } (some b) (some bb) :=
           ⟨hS3, by rw [rwc_set, if_neg (fun e => hbF e.symm)]; exact hD2.f, hD2.lf, hD2.nf, hD2.fne⟩
         have ih := ih (k + 1) m (by omega) (by omega) _ _ _ _ hD3 haw (fun v hv => by simp only [List.length_set]; exact hat v hv) hgnb
         have hsw : sa 1 (svOf (some b) a.words.length 1) (.int .i64 (aw : Int)) = some (ptr b aw) := by
           simp only [sa, svOf]
           rw [if_pos (by omega)]
           simp
         have step : ∀ kx kr, lp (s6_b3 (evCall cfc (n+20)) (n+20)) (m + 1) [ptr F 0, ptr A 0, .int .i64 k] H kx kr = lp (s6_b3 (evCall cfc (n+20)) (n+20)) m [ptr F 0, ptr A 0, .int .i64 ((k + 1 : Nat) : Int)] (H2.set b (.rw (wvs (a.words.set aw W)))) kx kr := by
           intro kx kr
           rw [lp_succ]
           rw [uc] at fW cW1 hld8
           simp only [U8] at fW
           rw [haw2] at fW cW1 hld8 fI cW2 kE
           simp -implicitDefEqProofs only [s6_b3, ↓GVdn, GVup, goInt, splice, okC, Fr.of, Fr.ofI, Fr.g, Nat.reduceAdd, Nat.reduceMul, Nat.reduceEqDiff, Nat.reduceLT, Nat.reduceLeDiff, Nat.reduceBEq, Int.reduceLT, Int.reduceLE, Int.reduceToNat, Int.reduceAdd, Int.reduceSub, Int.reduceMul, Int.reduceEq, Int.reduceNeg, ↓reduceIte, ↓reduceDIte, Nat.beq, reduceCtorEq, Value.int.injEq, Nat.reduceSub, opn_lim, hlt, cA, cA1, cA2, hll, hsa, hld8, fW, cW1, hlk, fI, cW2, kE, hsw, fB, hw1]
         simp only [step]
         exact ih
       · rw [if_neg hk0]
         simp only
         have hk0' : (chkV w.i.op w.i.A w.i.B w.i.C (IntKind.wrap .i64 (z - w.at_)) = 0) = False := eq_false hk0
         have fb := bad 2 H2 hD2.f l2
         refine ⟨H2.set F (.rw [.int .i64 w.line, .int .i64 2]), fun kx kr => ?_, by rw [rwc_set, if_pos rfl]⟩
         rw [lp_succ]
         rw [uc] at fW cW1 hld8
         simp only [U8] at fW
         simp -implicitDefEqProofs only [s6_b3, ↓GVdn, GVup, goInt, splice, okC, Fr.of, Fr.ofI, Fr.g, Nat.reduceAdd, Nat.reduceMul, Nat.reduceEqDiff, Nat.reduceLT, Nat.reduceLeDiff, Nat.reduceBEq, Int.reduceLT, Int.reduceLE, Int.reduceToNat, Int.reduceAdd, Int.reduceSub, Int.reduceMul, Int.reduceEq, Int.reduceNeg, ↓reduceIte, ↓reduceDIte, Nat.beq, reduceCtorEq, Value.int.injEq, Nat.reduceSub, opn_lim, hlt, cA, cA1, hll, hsa, hld8, fW, cW1, hlk, fI, cW2, kE, hk0', fb]
end Go.Proofs.YtbaooebafijenaaGreatDoor
namespace Go.Proofs.YtbaooebafijenaaGreatDoor
open Go Go.Ev
set_option maxRecDepth 100000
set_option linter.unusedSimpArgs false
set_option linter.unusedVariables false
set_option maxHeartbeats 4000000
set_option linter.unusedSectionVars false
variable [Mx]
attribute [local congr] bind_front callK_front jn_front ifB_front ifG_front lp_front
def asmD (r : Except (Int × Int) (List Int)) (H : Hp) : R :=
 match r with
 | .error (l, e) => some (.ret (.tuple #[.slice none 0 0, .agg #[.int .i64 l, .int .i64 e]]), H)
 | .ok ws => if ws = [] then some (.ret (.tuple #[.slice none 0 0, .agg #[.int .i64 0, .int .i64 0]]), H) else some (.ret (.tuple #[.slice (some ⟨H.next, 0, none⟩) ws.length 1, .agg #[.int .i64 0, .int .i64 0]]), H.new (.rw (wvs ws)))
theorem mov_okD (H Hs : Hp) {wb : Option Nat} {lo : Nat} {ws : List Int} (h : RowS Hs wb lo (wvs ws)) (hlo : Tabs.gn ≤ lo) : movR [] H (some (.ret (.tuple #[svOf wb ws.length 1, .agg #[.int .i64 0, .int .i64 0]]), Hs)) = asmD (.ok ws) H := by
 cases wb with
 | none =>
   have hw : wvs ws = [] := h
   have : ws = [] := List.map_eq_nil_iff.1 hw
   subst this
   exact movR_flat (bl := []) (H := H) (Hs := Hs) (v := .tuple #[.slice none 0 0, .agg #[.int .i64 0, .int .i64 0]]) rfl
 | some b =>
   obtain ⟨h1, h2, h3, h4⟩ := h
   have hne : ¬ ws = [] := fun e => h4 (by rw [e]; rfl)
   have hm : mvA (mvV [] Hs 4) [] Hs b 0 (H, []) = some (⟨H.next, 0, none⟩, (H.new (.rw (wvs ws)), [b])) := by
     unfold mvA
     rw [if_neg (by omega)]
     simp only [List.getElem?_nil, h1]
     rw [mvL_flat [] Hs 3 _ _ (wvs_flat ws)]
     simp
   have e1 : mvV [] Hs 6 (.tuple #[.slice (some ⟨b, 0, none⟩) ws.length 1, .agg #[.int .i64 0, .int .i64 0]]) (H, []) = (mvL (mvV [] Hs 5) [.slice (some ⟨b, 0, none⟩) ws.length 1, .agg #[.int .i64 0, .int .i64 0]] (H, [])).map fun (cs, s) => (.tuple cs.toArray, s) := rfl
   have e2 : mvV [] Hs 5 (.slice (some ⟨b, 0, none⟩) ws.length 1) (H, []) = (mvA (mvV [] Hs 4) [] Hs b 0 (H, [])).map fun (a, s) => (.slice (some a) ws.length 1, s) := rfl
   have e3 : ∀ s, mvV [] Hs 5 (.agg #[.int .i64 0, .int .i64 0]) s = some (.agg #[.int .i64 0, .int .i64 0], s) := fun s => rfl
   simp only [movR, svOf, e1, mvL, e2, hm, Option.map_some, Option.bind_some, e3]
   simp only [asmD]
   rw [if_neg hne]
theorem q6 (n : Nat) (x0 : Value) (hx0 : flat x0 = true) (H : Hp) : evCall cfc (n+1) 6 [x0] H = movR [] H (s6 (evCall cfc n) n x0 Hp.fl) := by
 rw [evCall_quiet (fn := Tryz.f6) (by rfl) (by rfl) Tryz.func6 (by rfl) (by simp [hx0])]
 exact congrArg (movR [] H) (s6_eq _ _ _ _)
def run6 (n : Nat) (l : Bs) (r : Except (Int × Int) (List Int)) : Prop :=
 match r with
 | .error (p, e) => ∃ Hs, s6 (evCall cfc (n+132)) (n+132) (.string (bs l)) Hp.fl = some (.ret (.tuple #[.slice none 0 0, .agg #[.int .i64 p, .int .i64 e]]), Hs)
 | .ok ws => ∃ wb Hs, s6 (evCall cfc (n+132)) (n+132) (.string (bs l)) Hp.fl = some (.ret (.tuple #[svOf wb ws.length 1, .agg #[.int .i64 0, .int .i64 0]]), Hs) ∧ RowS Hs wb 11 (wvs ws)
theorem asmL_le : ∀ (l : List Bs) (a : Asm) (k : Nat) (b : Asm), asmL a k l = .ok b → (∀ w ∈ a.wants, 0 ≤ w.at_ ∧ w.at_ < a.words.length) → ∀ w ∈ b.wants, 0 ≤ w.at_ ∧ w.at_ < b.words.length
 | [], a, k, b, h, ha => by simp only [asmL] at h; cases h; exact ha
 | x :: l, a, k, b, h, ha => by
   simp only [asmL] at h
   split at h
   · cases h
   · rename_i c hc
     exact asmL_le l c (k + 1) b h (oneV_ats hc ha)
theorem run6_ok (hnm : (Mx.nm : Option Blk) = some (.ro namesC)) (n : Nat) (l : Bs) (hl : l.length ≤ 400000 ∨ 1048576 < l.length) (hn : 400000 < n) : run6 n l (asmV (bs l)) := by
 have hsz : (bs l).size = l.length := by rw [Lib.size_eq, bs_list]
 generalize hH0 : Hp.fl = H0
 have n0 : H0.next = 11 := by subst hH0; rfl
 have l0 : H0.lim = 11 := by subst hH0; rfl
 by_cases hbig : 1048576 < l.length
 · have hbig' : (1048576 < (l.length : Int)) = True := eq_true (by omega)
   have hv : asmV (bs l) = .error (0, 9) := by unfold asmV; rw [if_pos (by rw [hsz]; exact hbig)]
   have f1 : st 2 (ptr 11 0) (.agg #[.int .i64 0, .int .i64 9]) (H0.new (.rw [.int .i64 0, .int .i64 0])) = some ((H0.new (.rw [.int .i64 0, .int .i64 0])).set 11 (.rw [.int .i64 0, .int .i64 9])) :=
     st_rwc (cs := [.int .i64 0, .int .i64 0]) (o := 0) (n := 2) (vs := [.int .i64 0, .int .i64 9]) (by rw [rwc_new, if_pos n0.symm]) (by show H0.lim ≤ 11; omega) rfl rfl (by simp) rfl
   have c1 : ((H0.new (.rw [.int .i64 0, .int .i64 0])).set 11 (.rw [.int .i64 0, .int .i64 9])).cells 11 = some [.int .i64 0, .int .i64 9] := by rw [cells_set, if_pos rfl]
   rw [hv]
   refine ⟨(H0.new (.rw [.int .i64 0, .int .i64 0])).set 11 (.rw [.int .i64 0, .int .i64 9]), ?_⟩
   rw [hH0]
   simp -implicitDefEqProofs only [s6, ↓GVdn, GVup, goInt, splice, okC, Fr.of, Fr.ofI, Fr.g, Nat.reduceAdd, Nat.reduceMul, Nat.reduceEqDiff, Nat.reduceLT, Nat.reduceLeDiff, Nat.reduceBEq, Int.reduceLT, Int.reduceLE, Int.reduceToNat, Int.reduceAdd, Int.reduceSub, Int.reduceMul, Int.reduceEq, Int.reduceNeg, ↓reduceIte, ↓reduceDIte, Nat.beq, reduceCtorEq, Value.int.injEq, Nat.reduceSub, hsz, hbig', n0, f1, c1]
 · have hl4 : l.length ≤ 400000 := by omega
   have hbig' : (1048576 < (l.length : Int)) = False := eq_false (by omega)
   rw [asmV_L l (by omega)]
   generalize hH7 : ((H0.new (.rw [.int .i64 0, .int .i64 0])).new (.mp [] 0)).new (.rw [.slice none 0 0, .map (some 12), .slice none 0 0]) = H7
   have g7 : H7.get 13 = some (.rw [.slice none 0 0, .map (some 12), .slice none 0 0]) ∧ H7.get 12 = some (.mp [] 0) ∧ H7.get 11 = some (.rw [.int .i64 0, .int .i64 0]) := by
     subst hH7
     have e1 : (H0.new (.rw [.int .i64 0, .int .i64 0])).next = 12 := by show H0.next + 1 = 12; omega
     have e2 : ((H0.new (.rw [.int .i64 0, .int .i64 0])).new (.mp [] 0)).next = 13 := by show H0.next + 1 + 1 = 13; omega
     refine ⟨?_, ?_, ?_⟩
     · rw [Hp.get_new, if_pos e2.symm]
     · rw [Hp.get_new, if_neg (by rw [e2]; decide), Hp.get_new, if_pos e1.symm]
     · rw [Hp.get_new, if_neg (by rw [e2]; decide), Hp.get_new, if_neg (by rw [e1]; decide), Hp.get_new, if_pos n0.symm]
   have n7 : H7.next = 14 := by subst hH7; show H0.next + 1 + 1 + 1 = 14; omega
   have l7 : H7.lim = 11 := by subst hH7; exact l0
   have hS : DsS H7 13 12 asm0 none none := ⟨⟨by decide, by decide⟩, by rw [l7]; exact Nat.le_refl 11, by omega, by omega, by omega, by omega, by decide, g7.1, ⟨[], 0, g7.2.1, rfl⟩, rfl, rfl, fun b hb => (by cases hb), fun b hb => (by cases hb), by decide⟩
   have hD : D1 H7 11 13 12 asm0 none none := ⟨hS, rwc_get g7.2.2, by omega, by omega, by decide, by decide, by simp, by simp⟩
   have l2 := as_l2 hnm n l hl4 hn 11 13 12 (n + 132) 0 (n + 132) 0 (by omega) (Nat.le_refl _) (Nat.le_refl _) H7 asm0 none none hD (by decide) (by decide)
   rw [List.drop_zero] at l2
   cases hg : asmL asm0 0 (lin l []) with
   | error q =>
     obtain ⟨p, e⟩ := q
     rw [hg] at l2
     obtain ⟨H8, i1, i2⟩ := l2
     have i1 : ∀ kx kr, lp (s6_b2 (evCall cfc (n+132)) (n+132)) (n+132) [.string (bs l), ptr 11 0, ptr 13 0, .int .i64 0, .int .i64 0] H7 kx kr = _ := i1
     have c8 := cells_rwc i2
     simp only [asmF]
     refine ⟨H8, ?_⟩
     rw [hH0]
     simp -implicitDefEqProofs only [s6, bx_map, ↓GVdn, GVup, goInt, splice, okC, Fr.of, Fr.ofI, Fr.g, Nat.reduceAdd, Nat.reduceMul, Nat.reduceEqDiff, Nat.reduceLT, Nat.reduceLeDiff, Nat.reduceBEq, Int.reduceLT, Int.reduceLE, Int.reduceToNat, Int.reduceAdd, Int.reduceSub, Int.reduceMul, Int.reduceEq, Int.reduceNeg, ↓reduceIte, ↓reduceDIte, Nat.beq, reduceCtorEq, Value.int.injEq, Nat.reduceSub, hsz, hbig', n0, hH7, i1, c8]
   | ok a =>
     rw [hg] at l2
     obtain ⟨H8, wb, tb, i1, hD8, w1, w2, i5, i6⟩ := l2
     have i1 : ∀ kx kr, lp (s6_b2 (evCall cfc (n+132)) (n+132)) (n+132) [.string (bs l), ptr 11 0, ptr 13 0, .int .i64 0, .int .i64 0] H7 kx kr = _ := i1
     have hat := asmL_le _ _ _ _ hg (fun w hw => by cases hw)
     have hwb : ∀ b, wb = some b → 14 ≤ b := fun b e => by
       rcases i6 b e with h | h
       · cases h
       · omega
     have l3 := as_l3 (n + 112) 11 13 12 a.wants (by omega) a.wants.length 0 (n + 132) (by omega) (by omega) H8 a wb tb hD8 rfl hat (fun b e => by have := hwb b e; show 11 ≤ b; omega)
     rw [List.drop_zero] at l3
     simp only [asmF]
     cases hr : resGo a a.wants with
     | error q =>
       obtain ⟨p, e⟩ := q
       rw [hr] at l3
       obtain ⟨H9, j1, j2⟩ := l3
       have j1 : ∀ kx kr, lp (s6_b3 (evCall cfc (n+132)) (n+132)) (n+132) [ptr 11 0, ptr 13 0, .int .i64 0] H8 kx kr = _ := j1
       have c9 := cells_rwc j2
       simp only
       refine ⟨H9, ?_⟩
       rw [hH0]
       simp -implicitDefEqProofs only [s6, bx_map, ↓GVdn, GVup, goInt, splice, okC, Fr.of, Fr.ofI, Fr.g, Nat.reduceAdd, Nat.reduceMul, Nat.reduceEqDiff, Nat.reduceLT, Nat.reduceLeDiff, Nat.reduceBEq, Int.reduceLT, Int.reduceLE, Int.reduceToNat, Int.reduceAdd, Int.reduceSub, Int.reduceMul, Int.reduceEq, Int.reduceNeg, ↓reduceIte, ↓reduceDIte, Nat.beq, reduceCtorEq, Value.int.injEq, Nat.reduceSub, hsz, hbig', n0, hH7, i1, j1, c9]
     | ok a2 =>
       rw [hr] at l3
       obtain ⟨H9, j1, hD9⟩ := l3
       have j1 : ∀ kx kr, lp (s6_b3 (evCall cfc (n+132)) (n+132)) (n+132) [ptr 11 0, ptr 13 0, .int .i64 0] H8 kx kr = _ := j1
       have cA := cells_get hD9.s.cell
       have f1 : st 2 (ptr 11 0) (.agg #[.int .i64 0, .int .i64 0]) H9 = some (H9.set 11 (.rw [.int .i64 0, .int .i64 0])) :=
         st_rwc (cs := [.int .i64 0, .int .i64 0]) (o := 0) (n := 2) (vs := [.int .i64 0, .int .i64 0]) hD9.f hD9.lf rfl rfl (by simp) rfl
       have c1 : (H9.set 11 (.rw [.int .i64 0, .int .i64 0])).cells 11 = some [.int .i64 0, .int .i64 0] := by rw [cells_set, if_pos rfl]
       simp only
       refine ⟨wb, H9.set 11 (.rw [.int .i64 0, .int .i64 0]), ?_, ?_⟩
       · rw [hH0]
         simp -implicitDefEqProofs only [s6, bx_map, ↓GVdn, GVup, goInt, splice, okC, Fr.of, Fr.ofI, Fr.g, Nat.reduceAdd, Nat.reduceMul, Nat.reduceEqDiff, Nat.reduceLT, Nat.reduceLeDiff, Nat.reduceBEq, Int.reduceLT, Int.reduceLE, Int.reduceToNat, Int.reduceAdd, Int.reduceSub, Int.reduceMul, Int.reduceEq, Int.reduceNeg, ↓reduceIte, ↓reduceDIte, Nat.beq, reduceCtorEq, Value.int.injEq, Nat.reduceSub, hsz, hbig', n0, hH7, i1, j1, cA, f1, c1]
       · have hrow := hD9.s.wr
         have hgn9 := hD9.s.gn
         have hx : RowS H9 wb 11 (wvs a2.words) := by
           cases wb with
           | none => exact hrow
           | some b => exact ⟨hrow.1, by have := hwb b rfl; omega, hrow.2.2.1, hrow.2.2.2⟩
         exact row_set hx _ hD9.fne.2.2.1
theorem v6 (hnm : (Mx.nm : Option Blk) = some (.ro namesC)) (n : Nat) (l : Bs) (hl : l.length ≤ 400000 ∨ 1048576 < l.length) (hn : 400000 < n) (H : Hp) : evCall cfc (n+133) 6 [.string (bs l)] H = asmD (asmV (bs l)) H := by
 rw [q6 (n+132) _ rfl H]
 have h := run6_ok hnm n l hl hn
 generalize asmV (bs l) = r at h ⊢
 match r, h with
 | .error (p, e), ⟨Hs, h1⟩ => rw [h1]; exact movR_flat rfl
 | .ok ws, ⟨wb, Hs, h1, h2⟩ => rw [h1]; exact mov_okD H Hs h2 (Nat.le_refl 11)
end Go.Proofs.YtbaooebafijenaaGreatDoor
