/- The words of a line. -/
import Derived.Test.YtbaooebafijenaaGreatDoorHvBun
import Derived.Test.YtbaooebafijenaaGreatDoorHNamed
namespace Go.Ev
open Go
set_option linter.unusedSectionVars false
set_option linter.unusedSimpArgs false
variable [Tabs]
theorem cells_rwc {H : Hp} {b : Nat} {cs : List Value} (h : H.rwc b = some cs) : H.cells b = some cs := by
 unfold Hp.rwc at h
 unfold Hp.cells
 split at h
 · rename_i c hg; rw [hg]; exact h
 · cases h
theorem get_rwc {H : Hp} {b : Nat} {cs : List Value} (h : H.rwc b = some cs) : H.get b = some (.rw cs) := by
 unfold Hp.rwc at h
 split at h
 · rename_i c hg; rw [hg]; cases h; rfl
 · cases h
theorem rwc_del (H : Hp) {b : Nat} (hb : Tabs.gn ≤ b) (c : Nat) : (H.del b).rwc c = if c = b then none else H.rwc c := by
 unfold Hp.rwc
 rw [Hp.get_del H hb]
 by_cases h : c = b <;> simp [h]
theorem st_rwc {H : Hp} {b o n : Nat} {cs vs : List Value} {v : Value} (h : H.rwc b = some cs) (hl : H.lim ≤ b) (hbx : bx v = some vs) (hn : vs.length = n) (ho : o + n ≤ cs.length) (hok : vs.all okC = true) : st n (ptr b o) v H = some (H.set b (.rw (splice cs o vs))) := by
 rw [sto_ptr, if_pos hl, h]
 simp only [Option.bind_some, hbx]
 rw [if_pos ⟨hn, ho, hok⟩]
def svOf (lb : Option Nat) (n sz : Nat) : Value :=
 match lb with
 | none => .slice none 0 0
 | some l => .slice (some ⟨l, 0, none⟩) n sz
theorem Lst.app {sz by_ : Nat} {H : Hp} {n : Nat} {cs : List Value} {sv : Value} {lb : Option Nat} (hsv : sv = svOf lb n sz) (hr : n * sz = cs.length)
   (hh : match lb with | none => n = 0 ∧ cs = [] | some l => H.rwc l = some cs ∧ H.lim ≤ l ∧ l < H.next) (hgn : Tabs.gn ≤ H.lim) {m : Nat} {xs : List Value} (hm : 0 < m) (hroom : roomy (n + m) by_ = true) (hxs : xs.all okC = true) :
   ∃ H2, appd sz by_ sv m xs H = some (.slice (some ⟨H.next, 0, none⟩) (n + m) sz, H2) ∧ H2.rwc H.next = some (cs ++ xs) ∧ H2.next = H.next + 1 ∧ H2.lim = H.lim ∧ ∀ c, c ≠ H.next → lb ≠ some c → H2.rwc c = H.rwc c := by
 cases lb with
 | none =>
   obtain ⟨rfl, rfl⟩ := hh
   subst hsv
   rw [Nat.zero_add] at hroom
   refine ⟨H.new (.rw xs), ?_, by rw [rwc_new, if_pos rfl]; rfl, rfl, rfl, fun c hc _ => by rw [rwc_new, if_neg hc]⟩
   simp only [appd, svOf]
   rw [if_neg (by omega), if_pos ⟨hroom, hxs⟩, Nat.zero_add]
 | some l =>
   obtain ⟨h1, h2, h3⟩ := hh
   subst hsv
   refine ⟨(H.del l).new (.rw (cs ++ xs)), ?_, by rw [rwc_new]; exact if_pos rfl, rfl, rfl, fun c hc hl => ?_⟩
   · simp only [appd, svOf]
     rw [if_pos ⟨trivial, h2, hroom, hxs⟩, get_rwc h1]
     simp only
     rw [if_pos (by omega), List.drop_zero]
   · rw [rwc_new, if_neg (by simpa using hc), rwc_del H (by omega), if_neg (fun e => hl (by rw [e]))]
theorem mvL_flat (bl : Pk) (Hs : Hp) (n : Nat) (st : Hp × List Nat) : ∀ cs : List Value, cs.all flat = true → mvL (mvV bl Hs (n + 1)) cs st = some (cs, st)
 | [], _ => rfl
 | c :: cs, h => by
   simp only [List.all_cons, Bool.and_eq_true] at h
   simp only [mvL]
   have : mvV bl Hs (n + 1) c st = some (c, st) := by simp [mvV, h.1]
   rw [this]
   simp [mvL_flat bl Hs n st cs h.2]
theorem movR_row (H Hs : Hp) {b : Nat} {cs : List Value} (hb : Tabs.gn ≤ b) (h : Hs.rwc b = some cs) (hf : cs.all flat = true) (n sz : Nat) :
   movR [] H (some (.ret (.slice (some ⟨b, 0, none⟩) n sz), Hs)) = some (.ret (.slice (some ⟨H.next, 0, none⟩) n sz), H.new (.rw cs)) := by
 have hfl : flat (.slice (some ⟨b, 0, none⟩) n sz) = false := rfl
 have h1 : mvA (mvV [] Hs 5) [] Hs b 0 (H, []) = some (⟨H.next, 0, none⟩, (H.new (.rw cs), [b])) := by
   unfold mvA
   rw [if_neg (by omega)]
   simp only [List.getElem?_nil, get_rwc h]
   rw [mvL_flat [] Hs 4 _ cs hf]
   simp
 have h2 : mvV [] Hs 6 (.slice (some ⟨b, 0, none⟩) n sz) (H, []) = (mvA (mvV [] Hs 5) [] Hs b 0 (H, [])).map fun (a, s) => (.slice (some a) n sz, s) := rfl
 simp only [movR]
 rw [h2, h1]
 rfl
theorem strs_flat (l : List ByteArray) : (l.map Value.string).all flat = true := by
 induction l with
 | nil => rfl
 | cons x l ih => rw [List.map_cons, List.all_cons, ih]; rfl
end Go.Ev
namespace Go.Proofs.YtbaooebafijenaaGreatDoor
open Go Go.Ev
set_option maxRecDepth 100000
set_option linter.unusedSimpArgs false
set_option linter.unusedVariables false
set_option maxHeartbeats 2000000
set_option linter.unusedSectionVars false
variable [Mx]
attribute [local congr] bind_front callK_front jn_front ifB_front ifG_front lp_front
def blB (c : UInt8) : Bool := decide (c.toNat = 32 ∨ c.toNat = 9)
def mkB (c : UInt8) : Bool := decide (c.toNat = 44 ∨ c.toNat = 58 ∨ c.toNat = 40 ∨ c.toNat = 41)
theorem q28 (n : Nat) (x0 : Value) (hx0 : flat x0 = true) (H : Hp) : evCall cfc (n+1) 28 [x0] H = movR [] H (s28 (evCall cfc n) n x0 Hp.fl) := by
 rw [evCall_quiet (fn := Tryz.f28) (by rfl) (by rfl) Tryz.func28 (by rfl) (by simp [hx0])]
 exact congrArg (movR [] H) (s28_eq _ _ _ _)
theorem q29 (n : Nat) (x0 : Value) (hx0 : flat x0 = true) (H : Hp) : evCall cfc (n+1) 29 [x0] H = movR [] H (s29 (evCall cfc n) n x0 Hp.fl) := by
 rw [evCall_quiet (fn := Tryz.f29) (by rfl) (by rfl) Tryz.func29 (by rfl) (by simp [hx0])]
 exact congrArg (movR [] H) (s29_eq _ _ _ _)
theorem v28 (n : Nat) (c : UInt8) (H : Hp) : evCall cfc (n+1) 28 [.int .u8 c.toNat] H = some (.ret (.bool (blB c)), H) := by
 rw [q28 n _ rfl H]
 by_cases h1 : (c.toNat : Int) = 32
 · have e : blB c = true := decide_eq_true (by omega)
   simp -implicitDefEqProofs only [s28, ↓GVdn, GVup, goInt, splice, okC, Fr.of, Fr.ofI, Fr.g, Nat.reduceAdd, Nat.reduceMul, Nat.reduceEqDiff, Nat.reduceLT, Nat.reduceLeDiff, Nat.reduceBEq, Int.reduceLT, Int.reduceLE, Int.reduceToNat, Int.reduceAdd, Int.reduceSub, Int.reduceMul, Int.reduceEq, Int.reduceNeg, ↓reduceIte, ↓reduceDIte, Nat.beq, reduceCtorEq, Value.int.injEq, Nat.reduceSub, sto_ptr, lp_succ, flat_bool, h1, e]
 · by_cases h2 : (c.toNat : Int) = 9
   · have e : blB c = true := decide_eq_true (by omega)
     simp -implicitDefEqProofs only [s28, ↓GVdn, GVup, goInt, splice, okC, Fr.of, Fr.ofI, Fr.g, Nat.reduceAdd, Nat.reduceMul, Nat.reduceEqDiff, Nat.reduceLT, Nat.reduceLeDiff, Nat.reduceBEq, Int.reduceLT, Int.reduceLE, Int.reduceToNat, Int.reduceAdd, Int.reduceSub, Int.reduceMul, Int.reduceEq, Int.reduceNeg, ↓reduceIte, ↓reduceDIte, Nat.beq, reduceCtorEq, Value.int.injEq, Nat.reduceSub, sto_ptr, lp_succ, flat_bool, h1, h2, e]
   · have e : blB c = false := decide_eq_false (by omega)
     simp -implicitDefEqProofs only [s28, ↓GVdn, GVup, goInt, splice, okC, Fr.of, Fr.ofI, Fr.g, Nat.reduceAdd, Nat.reduceMul, Nat.reduceEqDiff, Nat.reduceLT, Nat.reduceLeDiff, Nat.reduceBEq, Int.reduceLT, Int.reduceLE, Int.reduceToNat, Int.reduceAdd, Int.reduceSub, Int.reduceMul, Int.reduceEq, Int.reduceNeg, ↓reduceIte, ↓reduceDIte, Nat.beq, reduceCtorEq, Value.int.injEq, Nat.reduceSub, sto_ptr, lp_succ, flat_bool, h1, h2, e]
theorem v29 (n : Nat) (c : UInt8) (H : Hp) : evCall cfc (n+1) 29 [.int .u8 c.toNat] H = some (.ret (.bool (mkB c)), H) := by
 rw [q29 n _ rfl H]
 have hc : ((c.toNat : Int) = 44 ∧ mkB c = true) ∨ (¬ (c.toNat : Int) = 44 ∧ (c.toNat : Int) = 58 ∧ mkB c = true) ∨ (¬ (c.toNat : Int) = 44 ∧ ¬ (c.toNat : Int) = 58 ∧ (c.toNat : Int) = 40 ∧ mkB c = true) ∨
     (¬ (c.toNat : Int) = 44 ∧ ¬ (c.toNat : Int) = 58 ∧ ¬ (c.toNat : Int) = 40 ∧ (c.toNat : Int) = 41 ∧ mkB c = true) ∨ (¬ (c.toNat : Int) = 44 ∧ ¬ (c.toNat : Int) = 58 ∧ ¬ (c.toNat : Int) = 40 ∧ ¬ (c.toNat : Int) = 41 ∧ mkB c = false) := by
   simp only [mkB, decide_eq_true_eq, decide_eq_false_iff_not]
   omega
 rcases hc with ⟨h1, e⟩ | ⟨h1, h2, e⟩ | ⟨h1, h2, h3, e⟩ | ⟨h1, h2, h3, h4, e⟩ | ⟨h1, h2, h3, h4, e⟩
 all_goals simp -implicitDefEqProofs only [s29, ↓GVdn, GVup, goInt, splice, okC, Fr.of, Fr.ofI, Fr.g, Nat.reduceAdd, Nat.reduceMul, Nat.reduceEqDiff, Nat.reduceLT, Nat.reduceLeDiff, Nat.reduceBEq, Int.reduceLT, Int.reduceLE, Int.reduceToNat, Int.reduceAdd, Int.reduceSub, Int.reduceMul, Int.reduceEq, Int.reduceNeg, ↓reduceIte, ↓reduceDIte, Nat.beq, reduceCtorEq, Value.int.injEq, Nat.reduceSub, sto_ptr, lp_succ, flat_bool, *]
def flushT (s : ByteArray) (i : Nat) (l : List ByteArray) (at_ : Int) : List ByteArray := if 0 ≤ at_ then l ++ [s.extract at_.toNat i] else l
structure TkS (H : Hp) (s : ByteArray) (l : List ByteArray) (at_ : Int) (lb : Option Nat) : Prop where
 hs : H.rwc 11 = some [.string s]
 hl : H.rwc 12 = some [svOf lb l.length 1]
 hat : H.rwc 13 = some [.int .i64 at_]
 row : match lb with | none => l = [] | some b => H.rwc b = some (l.map Value.string) ∧ 14 ≤ b ∧ b < H.next ∧ l ≠ []
 next : 14 ≤ H.next
 lim : H.lim = 11
theorem roomy16 {n : Nat} (h : n ≤ 4294967296) : roomy n 16 = true := decide_eq_true ⟨by omega, by omega⟩
theorem TkS.push {H : Hp} {s : ByteArray} {l : List ByteArray} {at_ : Int} {lb : Option Nat} (h : TkS H s l at_ lb) (x : ByteArray) (hl : l.length < 4294967296) :
   ∃ sv sv' H2 H3, H.cells 12 = some [sv] ∧ appd 1 16 sv 1 [.string x] (H.new (.rw [.string x])) = some (sv', H2) ∧ st 1 (ptr 12 0) sv' H2 = some H3 ∧ TkS H3 s (l ++ [x]) at_ (some (H.next + 1)) ∧ H.next ≤ H3.next := by
 have hn := h.next
 have hlim : (H.new (.rw [.string x])).lim = 11 := h.lim
 have hrow := h.row
 have hnew : ∀ c, c < H.next → (H.new (.rw [.string x])).rwc c = H.rwc c := fun c hc => by rw [rwc_new, if_neg (by omega)]
 obtain ⟨H2, h1, h2, h3, h4, h5⟩ := Lst.app (sz := 1) (by_ := 16) (H := H.new (.rw [.string x])) (n := l.length) (cs := l.map Value.string) (lb := lb) (sv := svOf lb l.length 1) rfl (by simp)
   (by cases lb with
     | none => simp only at hrow ⊢; subst hrow; exact ⟨rfl, rfl⟩
     | some b => exact ⟨by rw [hnew b hrow.2.2.1]; exact hrow.1, by rw [hlim]; omega, by have := hrow.2.2.1; simp; omega⟩) (by rw [hlim]; exact Nat.le_refl 11) (m := 1) (xs := [.string x]) (by decide) (roomy16 (by omega)) rfl
 have hne : ∀ c, c < 14 → lb ≠ some c := fun c hc e => by subst e; have := hrow.2.1; omega
 have old : ∀ c, c < 14 → H2.rwc c = H.rwc c := fun c hc => by
   rw [h5 c (by simp; omega) (hne c hc), hnew c (by omega)]
 refine ⟨_, _, H2, _, cells_rwc h.hl, h1, st_rwc (by rw [old 12 (by omega)]; exact h.hl) (by rw [h4, hlim]; decide) (vs := [.slice (some ⟨(H.new (.rw [.string x])).next, 0, none⟩) (l.length + 1) 1]) rfl rfl (by simp) rfl, ?_, by simp only [Hp.next_set]; rw [h3]; simp; omega⟩
 refine ⟨?_, ?_, ?_, ?_, ?_, ?_⟩
 · rw [rwc_set, if_neg (by decide), old 11 (by omega)]; exact h.hs
 · rw [rwc_set, if_pos rfl]
   simp [splice, svOf]
 · rw [rwc_set, if_neg (by decide), old 13 (by omega)]; exact h.hat
 · refine ⟨?_, by omega, by simp only [Hp.next_set]; rw [h3]; simp, by simp⟩
   rw [rwc_set, if_neg (by omega)]
   have : (H.new (.rw [.string x])).next = H.next + 1 := rfl
   rw [← this, h2]
   simp
 · simp only [Hp.next_set]; rw [h3]; simp; omega
 · simp only [Hp.lim_set]; rw [h4, hlim]
theorem TkS.setAt {H : Hp} {s : ByteArray} {l : List ByteArray} {at_ : Int} {lb : Option Nat} (h : TkS H s l at_ lb) (z : Int) : st 1 (ptr 13 0) (.int .i64 z) H = some (H.set 13 (.rw [.int .i64 z])) ∧ TkS (H.set 13 (.rw [.int .i64 z])) s l z lb := by
 refine ⟨st_rwc h.hat (by rw [h.lim]; decide) (vs := [.int .i64 z]) rfl rfl (by simp) rfl, ?_, ?_, ?_, ?_, h.next, h.lim⟩
 · rw [rwc_set, if_neg (by decide)]; exact h.hs
 · rw [rwc_set, if_neg (by decide)]; exact h.hl
 · rw [rwc_set, if_pos rfl]
 · have := h.row
   cases lb with
   | none => exact this
   | some b => exact ⟨by rw [rwc_set, if_neg (by have := this.2.1; omega)]; exact this.1, this.2⟩
theorem q27 (n : Nat) (x y z u : Value) (H : Hp) : evCall cfc (n+1) 27 [x, y, z, u] H = s27 (evCall cfc n) n x y z u H := by
 rw [evCall_open (fn := Tryz.f27) (by rfl) (by rfl) Tryz.func27 (by rfl)]
 exact s27_eq _ _ _ _ _ _ _
theorem opn_lim (H : Hp) : H.opn H.lim = H := rfl
theorem srcC_new (H : Hp) (v : Value) : srcC 1 (.slice (some ⟨H.next, 0, none⟩) 1 1) (H.new (.rw [v])) = some (1, [v]) := by
 simp [srcC, cells_new]
theorem v27 (n : Nat) {H : Hp} {s : ByteArray} {l : List ByteArray} {at_ : Int} {lb : Option Nat} (h : TkS H s l at_ lb) (i : Nat) (hi : i ≤ s.size) (hat : at_ ≤ i) (hl : l.length < 4294967296) :
   ∃ H' lb', evCall cfc (n+1) 27 [.int .i64 i, ptr 13 0, ptr 12 0, ptr 11 0] H = some (.ret (.tuple #[]), H') ∧ TkS H' s (flushT s i l at_) (-1) lb' ∧ H.next ≤ H'.next := by
 have c10 := cells_rwc h.hs
 have c12 := cells_rwc h.hat
 by_cases h0 : 0 ≤ at_
 · obtain ⟨sv, sv', H2, H3, h1, h2, h3, h4, hx⟩ := h.push (s.extract at_.toNat i) hl
   obtain ⟨h5, h6⟩ := h4.setAt (-1)
   have hr : ((i : Int) ≤ (s.size : Int)) = True := eq_true (by omega)
   refine ⟨H3.set 13 (.rw [.int .i64 (-1)]), _, ?_, by unfold flushT; rw [if_pos h0]; exact h6, ?_⟩
   · rw [q27]
     simp -implicitDefEqProofs only [s27, ↓GVdn, GVup, goInt, splice, okC, Fr.of, Fr.ofI, Fr.g, Nat.reduceAdd, Nat.reduceMul, Nat.reduceEqDiff, Nat.reduceLT, Nat.reduceLeDiff, Nat.reduceBEq, Int.reduceLT, Int.reduceLE, Int.reduceToNat, Int.reduceAdd, Int.reduceSub, Int.reduceMul, Int.reduceEq, Int.reduceNeg, ↓reduceIte, ↓reduceDIte, Nat.beq, reduceCtorEq, Value.int.injEq, Nat.reduceSub, opn_lim, c10, c12, h0, hr, hat, h1, h2, h3, h5, rep, List.replicate, List.flatten_cons, List.flatten_nil, srcC_new]
   · simpa using hx
 · obtain ⟨h5, h6⟩ := h.setAt (-1)
   refine ⟨H.set 13 (.rw [.int .i64 (-1)]), lb, ?_, by unfold flushT; rw [if_neg h0]; exact h6, Nat.le_refl _⟩
   rw [q27]
   simp -implicitDefEqProofs only [s27, ↓GVdn, GVup, goInt, splice, okC, Fr.of, Fr.ofI, Fr.g, Nat.reduceAdd, Nat.reduceMul, Nat.reduceEqDiff, Nat.reduceLT, Nat.reduceLeDiff, Nat.reduceBEq, Int.reduceLT, Int.reduceLE, Int.reduceToNat, Int.reduceAdd, Int.reduceSub, Int.reduceMul, Int.reduceEq, Int.reduceNeg, ↓reduceIte, ↓reduceDIte, Nat.beq, reduceCtorEq, Value.int.injEq, Nat.reduceSub, opn_lim, c10, c12, h0, h5]
def tkGo (s : ByteArray) : List UInt8 → Nat → List ByteArray → Int → List ByteArray × Int
 | [], _, l, a => (l, a)
 | c :: r, i, l, a => if blB c = true then tkGo s r (i + 1) (flushT s i l a) (-1) else if mkB c = true then tkGo s r (i + 1) (flushT s i l a ++ [s.extract i (i + 1)]) (-1) else if a < 0 then tkGo s r (i + 1) l i else tkGo s r (i + 1) l a
def tokensV (s : ByteArray) : List ByteArray := flushT s s.size (tkGo s s.data.toList 0 [] (-1)).1 (tkGo s s.data.toList 0 [] (-1)).2
theorem flushT_len (s : ByteArray) (i : Nat) (l : List ByteArray) (a : Int) : (flushT s i l a).length ≤ l.length + 1 := by
 unfold flushT
 split <;> simp
def cloT : Value := .func (.func 27) #[] #[ptr 13 0, ptr 12 0, ptr 11 0]
theorem tok_loop (n : Nat) (s : ByteArray) (hs : s.size ≤ 1073741824) (kx : Nat → Fr → Hp → Option (Out × Hp)) (kr : Fr → Hp → Option (Out × Hp)) : ∀ (k i m : Nat), i + k = s.size → k < m → ∀ (H : Hp) (l : List ByteArray) (a : Int) (lb : Option Nat), TkS H s l a lb → a < i ∨ a = -1 → l.length ≤ 2 * i →
   ∃ H' lb', lp (s15_b1 (evCall cfc (n+1)) (n+1)) m [ptr 11 0, ptr 12 0, ptr 13 0, cloT, .int .i64 s.size, .int .i64 i] H kx kr = kx 0 (Fr.of [1, 3, 5] [ptr 11 0, ptr 12 0, cloT]) H' ∧
     TkS H' s (tkGo s (s.data.toList.drop i) i l a).1 (tkGo s (s.data.toList.drop i) i l a).2 lb' ∧ (tkGo s (s.data.toList.drop i) i l a).2 ≤ s.size ∧ (tkGo s (s.data.toList.drop i) i l a).1.length ≤ 2 * s.size := by
 intro k
 induction k with
 | zero =>
   intro i m hi hm H l a lb hT ha hl
   obtain ⟨m, rfl⟩ : ∃ q, m = q + 1 := ⟨m - 1, by omega⟩
   have e : s.data.toList.drop i = [] := List.drop_eq_nil_of_le (by rw [← Lib.size_eq]; omega)
   have hlt : ¬ ((i : Int) < (s.size : Int)) := by omega
   rw [e]
   refine ⟨H, lb, ?_, hT, by simp only [tkGo]; omega, by simp only [tkGo]; omega⟩
   rw [lp_succ]
   simp -implicitDefEqProofs only [s15_b1, ↓GVdn, GVup, goInt, splice, okC, Fr.of, Fr.ofI, Fr.g, Nat.reduceAdd, Nat.reduceMul, Nat.reduceEqDiff, Nat.reduceLT, Nat.reduceLeDiff, Nat.reduceBEq, Int.reduceLT, Int.reduceLE, Int.reduceToNat, Int.reduceAdd, Int.reduceSub, Int.reduceMul, Int.reduceEq, Int.reduceNeg, ↓reduceIte, ↓reduceDIte, Nat.beq, reduceCtorEq, Value.int.injEq, Nat.reduceSub, sto_ptr, hlt]
 | succ k ih =>
   intro i m hi hm H l a lb hT ha hl
   obtain ⟨m, rfl⟩ : ∃ q, m = q + 1 := ⟨m - 1, by omega⟩
   have hlt : ((i : Int) < (s.size : Int)) := by omega
   obtain ⟨c, hc, hd⟩ := str_at s i (by omega)
   have hw : IntKind.wrap .i64 ((i : Int) + 1) = ((i + 1 : Nat) : Int) := by rw [IntWalk.i64_in _ (by omega)]; rfl
   have hi0 : (0 : Int) ≤ (i : Int) := by omega
   have c10 := cells_rwc hT.hs
   have c12 := cells_rwc hT.hat
   have b55 := fun H => v28 n c H
   have b56 := fun H => v29 n c H
   have ecl : ∀ H, clV (evCall cfc (n+1)) cloT [.int .i64 i] H = evCall cfc (n+1) 27 [.int .i64 i, ptr 13 0, ptr 12 0, ptr 11 0] H := fun H => rfl
   have hai : a ≤ (i : Int) := by omega
   rw [lp_succ, hd]
   simp only [tkGo]
   cases hb : blB c with
   | true =>
     rw [hb] at b55
     obtain ⟨H1, lb1, h1, h2, _⟩ := v27 n hT i (by omega) hai (by omega)
     obtain ⟨H', lb', g1, g2, g3, g4⟩ := ih (i + 1) m (by omega) (by omega) H1 _ _ lb1 h2 (.inr rfl) (by have := flushT_len s i l a; omega)
     simp only [if_true]
     refine ⟨H', lb', ?_, g2, g3, g4⟩
     rw [← g1]
     simp -implicitDefEqProofs only [s15_b1, ↓GVdn, GVup, goInt, splice, okC, Fr.of, Fr.ofI, Fr.g, Nat.reduceAdd, Nat.reduceMul, Nat.reduceEqDiff, Nat.reduceLT, Nat.reduceLeDiff, Nat.reduceBEq, Int.reduceLT, Int.reduceLE, Int.reduceToNat, Int.reduceAdd, Int.reduceSub, Int.reduceMul, Int.reduceEq, Int.reduceNeg, ↓reduceIte, ↓reduceDIte, Nat.beq, reduceCtorEq, Value.int.injEq, Nat.reduceSub, hlt, c10, c12, hi0, hc, b55, ecl, h1, hw]
   | false =>
     rw [hb] at b55
     simp only [Bool.false_eq_true, if_false]
     cases hk : mkB c with
     | true =>
       rw [hk] at b56
       obtain ⟨H1, lb1, h1, h2, _⟩ := v27 n hT i (by omega) hai (by omega)
       have hfl := flushT_len s i l a
       obtain ⟨sv, sv', H2, H3, p1, p2, p3, p4, _⟩ := h2.push (s.extract i (i + 1)) (by omega)
       obtain ⟨H', lb', g1, g2, g3, g4⟩ := ih (i + 1) m (by omega) (by omega) H3 _ _ _ p4 (.inr rfl) (by simp only [List.length_append, List.length_cons, List.length_nil]; omega)
       have d10 := cells_rwc h2.hs
       have hr1 : ((i : Int) ≤ ((i + 1 : Nat) : Int)) = True := eq_true (by omega)
       have hr2 : (((i + 1 : Nat) : Int) ≤ (s.size : Int)) = True := eq_true (by omega)
       simp only [if_true]
       refine ⟨H', lb', ?_, g2, g3, g4⟩
       rw [← g1]
       simp -implicitDefEqProofs only [s15_b1, ↓GVdn, GVup, goInt, splice, okC, Fr.of, Fr.ofI, Fr.g, Nat.reduceAdd, Nat.reduceMul, Nat.reduceEqDiff, Nat.reduceLT, Nat.reduceLeDiff, Nat.reduceBEq, Int.reduceLT, Int.reduceLE, Int.reduceToNat, Int.reduceAdd, Int.reduceSub, Int.reduceMul, Int.reduceEq, Int.reduceNeg, ↓reduceIte, ↓reduceDIte, Nat.beq, reduceCtorEq, Value.int.injEq, Nat.reduceSub, opn_lim, hlt, c10, c12, d10, hi0, hc, b55, b56, ecl, h1, hw, hr1, hr2, p1, p2, p3, rep, List.replicate, List.flatten_cons, List.flatten_nil, srcC_new]
     | false =>
       rw [hk] at b56
       simp only [Bool.false_eq_true, if_false]
       by_cases h0 : a < 0
       · obtain ⟨h5, h6⟩ := hT.setAt i
         obtain ⟨H', lb', g1, g2, g3, g4⟩ := ih (i + 1) m (by omega) (by omega) _ _ _ lb h6 (.inl (by omega)) (by omega)
         rw [if_pos h0]
         refine ⟨H', lb', ?_, g2, g3, g4⟩
         rw [← g1]
         simp -implicitDefEqProofs only [s15_b1, ↓GVdn, GVup, goInt, splice, okC, Fr.of, Fr.ofI, Fr.g, Nat.reduceAdd, Nat.reduceMul, Nat.reduceEqDiff, Nat.reduceLT, Nat.reduceLeDiff, Nat.reduceBEq, Int.reduceLT, Int.reduceLE, Int.reduceToNat, Int.reduceAdd, Int.reduceSub, Int.reduceMul, Int.reduceEq, Int.reduceNeg, ↓reduceIte, ↓reduceDIte, Nat.beq, reduceCtorEq, Value.int.injEq, Nat.reduceSub, hlt, c10, c12, hi0, hc, b55, b56, hw, h0, h5]
       · obtain ⟨H', lb', g1, g2, g3, g4⟩ := ih (i + 1) m (by omega) (by omega) H _ _ lb hT (.inl (by omega)) (by omega)
         rw [if_neg h0]
         refine ⟨H', lb', ?_, g2, g3, g4⟩
         rw [← g1]
         simp -implicitDefEqProofs only [s15_b1, ↓GVdn, GVup, goInt, splice, okC, Fr.of, Fr.ofI, Fr.g, Nat.reduceAdd, Nat.reduceMul, Nat.reduceEqDiff, Nat.reduceLT, Nat.reduceLeDiff, Nat.reduceBEq, Int.reduceLT, Int.reduceLE, Int.reduceToNat, Int.reduceAdd, Int.reduceSub, Int.reduceMul, Int.reduceEq, Int.reduceNeg, ↓reduceIte, ↓reduceDIte, Nat.beq, reduceCtorEq, Value.int.injEq, Nat.reduceSub, hlt, c10, c12, hi0, hc, b55, b56, hw, h0]
def lstR (l : List ByteArray) (H : Hp) : R := if l = [] then some (.ret (.slice none 0 0), H) else some (.ret (.slice (some ⟨H.next, 0, none⟩) l.length 1), H.new (.rw (l.map Value.string)))
theorem q15 (n : Nat) (x0 : Value) (hx0 : flat x0 = true) (H : Hp) : evCall cfc (n+1) 15 [x0] H = movR [] H (s15 (evCall cfc n) n x0 Hp.fl) := by
 rw [evCall_quiet (fn := Tryz.f15) (by rfl) (by rfl) Tryz.func15 (by rfl) (by simp [hx0])]
 exact congrArg (movR [] H) (s15_eq _ _ _ _)
theorem v15 (n : Nat) (s : ByteArray) (hs : s.size ≤ 1073741824) (hn : s.size ≤ n) (H : Hp) : evCall cfc (n+2) 15 [.string s] H = lstR (tokensV s) H := by
 rw [q15 (n+1) _ rfl H]
 have hT : TkS ((((Hp.fl.new (.rw [.string s])).new (.rw [.slice none 0 0])).new (.rw [.int .i64 0])).set 13 (.rw [.int .i64 (-1)])) s [] (-1) none :=
   ⟨by rw [rwc_set, if_neg (by decide), rwc_new, if_neg (by show ¬ (11 = 13); decide), rwc_new, if_neg (by show ¬ (11 = 12); decide), rwc_new, if_pos (by rfl)],
    by rw [rwc_set, if_neg (by decide), rwc_new, if_neg (by show ¬ (12 = 13); decide), rwc_new, if_pos (by rfl)]; rfl,
    by rw [rwc_set, if_pos rfl], rfl, by show 14 ≤ 14; decide, rfl⟩
 have h0 : (((Hp.fl.new (.rw [.string s])).new (.rw [.slice none 0 0])).new (.rw [.int .i64 0])).rwc 13 = some [.int .i64 0] := by rw [rwc_new, if_pos (by rfl)]
 have hst : st 1 (ptr 13 0) (.int .i64 (-1)) (((Hp.fl.new (.rw [.string s])).new (.rw [.slice none 0 0])).new (.rw [.int .i64 0])) = some ((((Hp.fl.new (.rw [.string s])).new (.rw [.slice none 0 0])).new (.rw [.int .i64 0])).set 13 (.rw [.int .i64 (-1)])) :=
   st_rwc h0 (by show 11 ≤ 13; decide) (vs := [.int .i64 (-1)]) rfl rfl (by simp) rfl
 unfold s15
 have e1 : (Hp.fl).next = 11 := rfl
 have e2 : (Hp.fl.new (.rw [.string s])).next = 12 := rfl
 have e3 : ((Hp.fl.new (.rw [.string s])).new (.rw [.slice none 0 0])).next = 13 := rfl
 simp only [bx_str, Option.bind_some]
 rw [e3, hst, e1, e2]
 simp only [Option.bind_some]
 generalize hH : ((((Hp.fl.new (.rw [.string s])).new (.rw [.slice none 0 0])).new (.rw [.int .i64 0])).set 13 (.rw [.int .i64 (-1)])) = H1 at hT ⊢
 have c10 := cells_rwc hT.hs
 have e4 : (.func (.func 27) [].toArray [ptr 13 0, ptr 12 0, ptr 11 0].toArray : Value) = cloT := rfl
 rw [e4]
 have hl := fun kx kr => tok_loop n s hs kx kr s.size 0 (n+1) (by omega) (by omega) H1 [] (-1) none hT (.inr rfl) (by simp)
 simp only [List.drop_zero] at hl
 generalize hg : tkGo s s.data.toList 0 [] (-1) = g at hl
 obtain ⟨H', lb', g1, g2, g3, g4⟩ := hl (fun j23 f24 H25 => if j23 = 0 then (ld (f24.g 1) H25).bind fun t43 =>
  (len 0 t43 H25).bind fun t44 =>
  callK (clV (evCall cfc (n+1)) (f24.g 5) [t44] H25) pnK fun t45 H26 =>
  (ld (f24.g 3) H26).bind fun t46 =>
  some (.ret t46, H26) else none) noR
 obtain ⟨H2, lb2, p1, p2, _⟩ := v27 n g2 s.size (Nat.le_refl _) g3 (by omega)
 have ecl : ∀ H, clV (evCall cfc (n+1)) cloT [.int .i64 s.size] H = evCall cfc (n+1) 27 [.int .i64 s.size, ptr 13 0, ptr 12 0, ptr 11 0] H := fun H => rfl
 have d10 := cells_rwc g2.hs
 have d11 := cells_rwc p2.hl
 have et : tokensV s = flushT s s.size g.1 g.2 := by unfold tokensV; rw [hg]
 have hlp : lp (s15_b1 (evCall cfc (n+1)) (n+1)) (n+1) [ptr 11 0, ptr 12 0, ptr 13 0, cloT, .int .i64 s.size, .int .i64 0] H1 (fun j23 f24 H25 => if j23 = 0 then (ld (f24.g 1) H25).bind fun t43 =>
  (len 0 t43 H25).bind fun t44 =>
  callK (clV (evCall cfc (n+1)) (f24.g 5) [t44] H25) pnK fun t45 H26 =>
  (ld (f24.g 3) H26).bind fun t46 =>
  some (.ret t46, H26) else none) noR = some (.ret (svOf lb2 (tokensV s).length 1), H2) := by
   refine g1.trans ?_
   rw [et]
   simp -implicitDefEqProofs only [↓GVdn, GVup, goInt, splice, okC, Fr.of, Fr.ofI, Fr.g, Nat.reduceAdd, Nat.reduceMul, Nat.reduceEqDiff, Nat.reduceLT, Nat.reduceLeDiff, Nat.reduceBEq, Int.reduceLT, Int.reduceLE, Int.reduceToNat, Int.reduceAdd, Int.reduceSub, Int.reduceMul, Int.reduceEq, Int.reduceNeg, ↓reduceIte, ↓reduceDIte, Nat.beq, reduceCtorEq, Value.int.injEq, Nat.reduceSub, sto_ptr, lp_succ, d10, ecl, p1, d11]
 simp -implicitDefEqProofs only [↓GVdn, GVup, goInt, splice, okC, Fr.of, Fr.ofI, Fr.g, Nat.reduceAdd, Nat.reduceMul, Nat.reduceEqDiff, Nat.reduceLT, Nat.reduceLeDiff, Nat.reduceBEq, Int.reduceLT, Int.reduceLE, Int.reduceToNat, Int.reduceAdd, Int.reduceSub, Int.reduceMul, Int.reduceEq, Int.reduceNeg, ↓reduceIte, ↓reduceDIte, Nat.beq, reduceCtorEq, Value.int.injEq, Nat.reduceSub, c10, hlp]
 rw [← et] at p2
 have hrow := p2.row
 unfold lstR
 cases lb2 with
 | none =>
   simp only at hrow
   rw [hrow, if_pos rfl]
   exact movR_flat (bl := []) (H := H) (Hs := H2) (v := .slice none 0 0) rfl
 | some b =>
   rw [if_neg hrow.2.2.2]
   exact movR_row H H2 (Nat.le_trans (by show 11 ≤ 14; decide) hrow.2.1) hrow.1 (strs_flat _) _ _
end Go.Proofs.YtbaooebafijenaaGreatDoor
