/- A line put in: the document's. -/
import Derived.Test.YtbaooebafijenaaGreatDoorHSay2
import Derived.Test.YtbaooebafijenaaGreatDoorHLin
import Derived.Test.YtbaooebafijenaaGreatDoorHvBun
namespace Go.Proofs.YtbaooebafijenaaGreatDoor
open Go Go.Ev
set_option maxRecDepth 100000
set_option linter.unusedSimpArgs false
set_option linter.unusedVariables false
set_option maxHeartbeats 4000000
set_option linter.unusedSectionVars false
variable [Mx]
attribute [local congr] bind_front callK_front jn_front ifB_front ifG_front lp_front
theorem q17 (n : Nat) (x y z : Value) (H : Hp) : evCall cfc (n+1) 17 [x, y, z] H = s17 (evCall cfc n) n x y z H := by
 rw [evCall_open (fn := Tryz.f17) (by rfl) (by rfl) Tryz.func17 (by rfl)]
 exact s17_eq _ _ _ _ _ _
theorem sx_bs (s : Bs) (k : Nat) (h : k < s.length) : sx (.string (bs s)) (.int .i64 k) = some (.int .u8 (s[k]).toNat) := by
 have h1 : (bs s)[k]? = some s[k] := by
   rw [getElem?_pos (bs s) k (by rw [Lib.size_eq, bs_list]; exact h)]
   rfl
 simp only [sx]
 rw [if_pos (by omega), Int.toNat_natCast, h1]
 rfl
theorem slS_bs (s : Bs) (i j : Nat) (h : i ≤ j) (h2 : j ≤ s.length) : slS (.string (bs s)) (some (.int .i64 i)) (some (.int .i64 j)) = some (.string (bs ((s.drop i).take (j - i)))) := by
 simp only [slS, optInt, Option.bind_some]
 rw [if_pos ⟨Int.natCast_nonneg _, Int.ofNat_le.2 h, Int.ofNat_le.2 (by rw [Lib.size_eq, bs_list]; exact h2)⟩, Int.toNat_natCast, Int.toNat_natCast]
 congr 2
 exact bytes_inj (by rw [extract_list]; rfl)
theorem slS_bs0 (s : Bs) (j : Nat) (h2 : j ≤ s.length) : slS (.string (bs s)) none (some (.int .i64 j)) = some (.string (bs (s.take j))) := by
 simp only [slS, optInt, Option.bind_some]
 rw [if_pos ⟨by decide, Int.natCast_nonneg _, Int.ofNat_le.2 (by rw [Lib.size_eq, bs_list]; exact h2)⟩, Int.toNat_natCast]
 congr 2
 exact bytes_inj (by rw [extract_list]; rfl)
theorem line_l1 (C : Cl) (n : Nat) (x0 ln : Value) (s : Bs) (hs : s.length ≤ 1073741824) (H : Hp) (kx : Nat → Fr → Hp → Option (Out × Hp)) (kr : Fr → Hp → Option (Out × Hp)) : ∀ (r k m : Nat), k + r = s.length → r < m →
   lp (s17_b1 C n) m [x0, .string (bs s), ln, .int .i64 k] H kx kr = kx 0 (Fr.of [0, 1, 2] [x0, .string (bs (s.take k ++ cutL 59 (s.drop k))), ln]) H := by
 have hsz : (bs s).size = s.length := by rw [Lib.size_eq, bs_list]
 intro r
 induction r with
 | zero =>
   intro k m hk hm
   obtain ⟨m, rfl⟩ : ∃ q, m = q + 1 := ⟨m - 1, by omega⟩
   have hlt : ((k : Int) < (s.length : Int)) = False := eq_false (by omega)
   have e : s.drop k = [] := List.drop_eq_nil_of_le (by omega)
   have e2 : s.take k = s := List.take_of_length_le (by omega)
   rw [lp_succ, e, e2]
   simp only [cutL, List.append_nil]
   simp -implicitDefEqProofs only [s17_b1, ↓GVdn, GVup, goInt, splice, okC, Fr.of, Fr.ofI, Fr.g, Nat.reduceAdd, Nat.reduceMul, Nat.reduceEqDiff, Nat.reduceLT, Nat.reduceLeDiff, Nat.reduceBEq, Int.reduceLT, Int.reduceLE, Int.reduceToNat, Int.reduceAdd, Int.reduceSub, Int.reduceMul, Int.reduceEq, Int.reduceNeg, ↓reduceIte, ↓reduceDIte, Nat.beq, reduceCtorEq, Value.int.injEq, Nat.reduceSub, sto_ptr, hsz, hlt]
 | succ r ih =>
   intro k m hk hm
   obtain ⟨m, rfl⟩ : ∃ q, m = q + 1 := ⟨m - 1, by omega⟩
   have hkl : k < s.length := by omega
   have hlt : ((k : Int) < (s.length : Int)) = True := eq_true (by omega)
   have hd : s.drop k = s[k] :: s.drop (k + 1) := List.drop_eq_getElem_cons hkl
   have hx := sx_bs s k hkl
   have hsl := slS_bs0 s k (by omega)
   have hw1 : IntKind.wrap .i64 ((k : Int) + 1) = ((k + 1 : Nat) : Int) := by rw [IntWalk.i64_in _ (by omega)]; rfl
   have ih := ih (k + 1) m (by omega) (by omega)
   rw [hd]
   simp only [cutL]
   by_cases h59 : s[k] = 59
   · have e59 : (((s[k]).toNat : Int) = 59) = True := eq_true (by rw [h59]; rfl)
     rw [lp_succ, if_pos h59, List.append_nil]
     simp -implicitDefEqProofs only [s17_b1, ↓GVdn, GVup, goInt, splice, okC, Fr.of, Fr.ofI, Fr.g, Nat.reduceAdd, Nat.reduceMul, Nat.reduceEqDiff, Nat.reduceLT, Nat.reduceLeDiff, Nat.reduceBEq, Int.reduceLT, Int.reduceLE, Int.reduceToNat, Int.reduceAdd, Int.reduceSub, Int.reduceMul, Int.reduceEq, Int.reduceNeg, ↓reduceIte, ↓reduceDIte, Nat.beq, reduceCtorEq, Value.int.injEq, Nat.reduceSub, sto_ptr, hsz, hlt, hx, e59, hsl]
   · have e59 : (((s[k]).toNat : Int) = 59) = False := eq_false (fun e => h59 (UInt8.toNat_inj.1 (by simpa using (by omega : (s[k]).toNat = 59))))
     have et : s.take (k + 1) ++ cutL 59 (s.drop (k + 1)) = s.take k ++ s[k] :: cutL 59 (s.drop (k + 1)) := by
       rw [List.take_succ_eq_append_getElem hkl, List.append_assoc]
       rfl
     rw [et] at ih
     rw [lp_succ, if_neg h59]
     simp -implicitDefEqProofs only [s17_b1, ↓GVdn, GVup, goInt, splice, okC, Fr.of, Fr.ofI, Fr.g, Nat.reduceAdd, Nat.reduceMul, Nat.reduceEqDiff, Nat.reduceLT, Nat.reduceLeDiff, Nat.reduceBEq, Int.reduceLT, Int.reduceLE, Int.reduceToNat, Int.reduceAdd, Int.reduceSub, Int.reduceMul, Int.reduceEq, Int.reduceNeg, ↓reduceIte, ↓reduceDIte, Nat.beq, reduceCtorEq, Value.int.injEq, Nat.reduceSub, sto_ptr, hsz, hlt, hx, e59, hw1, ih]
def lbD : List (Bs × Bool) → List ByteArray × List (Bs × Bool) × Bool
 | p :: q :: r => if q.1 = [58] then (if labelV (bs p.1) = true then (bs p.1 :: (lbD r).1, (lbD r).2.1, (lbD r).2.2) else ([], p :: q :: r, true)) else ([], p :: q :: r, false)
 | T => ([], T, false)
theorem lbD_go : ∀ T : List (Bs × Bool), lbGo (ww T) = ((lbD T).1, ww (lbD T).2.1)
 | [] => rfl
 | [p] => rfl
 | p :: q :: r => by
   have e : ww (p :: q :: r) = bs p.1 :: bs q.1 :: ww r := rfl
   rw [e]
   simp only [lbGo, lbD]
   have hc : bs q.1 = colon ↔ q.1 = [58] := ⟨fun h => bs_inj (b := [58]) h, fun h => by rw [h]; rfl⟩
   by_cases h1 : q.1 = [58]
   · by_cases h2 : labelV (bs p.1) = true
     · rw [if_pos ⟨hc.2 h1, h2⟩, if_pos h1, if_pos h2, lbD_go r]
     · rw [if_neg (fun h => h2 h.2), if_pos h1, if_neg h2]
       rfl
   · rw [if_neg (fun h => h1 (hc.1 h.1)), if_neg h1]
     rfl
theorem lbD_len : ∀ T : List (Bs × Bool), (lbD T).2.1.length ≤ T.length ∧ (lbD T).1.length ≤ T.length
 | [] => ⟨Nat.le_refl _, Nat.le_refl _⟩
 | [p] => ⟨Nat.le_refl _, by simp [lbD]⟩
 | p :: q :: r => by
   simp only [lbD]
   have := lbD_len r
   split
   · split
     · simp only [List.length_cons]; omega
     · simp
   · simp
theorem lbD_wd : ∀ (T : List (Bs × Bool)) (N : Nat), (∀ j, (wd T j).length ≤ N) → ∀ j, (wd (lbD T).2.1 j).length ≤ N
 | [], N, h => h
 | [p], N, h => h
 | p :: q :: r, N, h => by
   simp only [lbD]
   have := lbD_wd r N (fun j => h (j + 2))
   split
   · split
     · exact this
     · exact h
   · exact h
theorem lbD_adj : ∀ (T : List (Bs × Bool)), Adj T → Adj (lbD T).2.1
 | [], h => h
 | [p], h => h
 | p :: q :: r, h => by
   simp only [lbD]
   have := lbD_adj r h.tail.tail
   split
   · split
     · exact this
     · exact h
   · exact h
theorem lbD_bad : ∀ (T : List (Bs × Bool)), (lbD T).2.2 = true → rdV (ww (lbD T).2.1) = none
 | [], h => by cases h
 | [p], h => by cases h
 | p :: q :: r, h => by
   simp only [lbD] at h ⊢
   split at h
   · rename_i h1
     split at h
     · rename_i h2
       rw [if_pos h1, if_pos h2]
       exact lbD_bad r h
     · rename_i h2
       rw [if_pos h1, if_neg h2]
       have e : ww (p :: q :: r) = bs p.1 :: bs q.1 :: ww r := rfl
       rw [e, h1]
       exact mark2_none (.inr (.inr (.inr rfl))) _ _
   · cases h
def TkV (H : Hp) (v : Value) (T : List (Bs × Bool)) : Prop := (v = .slice none 0 0 ∧ T = []) ∨ ∃ b o CL, SlK H v b o CL T
theorem TkV.len {H : Hp} {v : Value} {T : List (Bs × Bool)} (h : TkV H v T) (H' : Hp) : Go.Ev.len 1 v H' = some (.int .i64 T.length) := by
 rcases h with ⟨rfl, rfl⟩ | ⟨b, o, CL, h⟩
 · rfl
 · exact h.len H'
def Lab2R (n : Nat) (m : Nat) (x0 ln at_ v : Value) (names : List ByteArray) (nb : Option Nat) (H0 H : Hp) (r : List ByteArray × List (Bs × Bool) × Bool) : Prop :=
 ∃ H' nb' v', LpS H0 H' (names ++ r.1) nb' ∧ TkV H0 v' r.2.1 ∧ ∀ (kx : Nat → Fr → Hp → Option (Out × Hp)) (kr : Fr → Hp → Option (Out × Hp)),
   lp (s17_b2 (evCall cfc (n+30)) (n+30)) m [x0, ln, v, at_, svOf nb names.length 1] H kx kr = if r.2.2 = true then kr (Fr.of [0, 2, 6, 8, 9, 10] [x0, ln, .int .i64 3, v', at_, svOf nb' (names ++ r.1).length 1]) H' else kx 2 (Fr.of [0, 2, 6, 8, 9, 10] [x0, ln, dead, v', at_, svOf nb' (names ++ r.1).length 1]) H'
theorem line_l2 (n : Nat) (H0 : Hp) (hgn : Tabs.gn ≤ H0.lim) (hlim : H0.lim ≤ H0.next) (x0 ln at_ : Value) : ∀ (N m : Nat) (T : List (Bs × Bool)), T.length ≤ N → N < m → (∀ j, (wd T j).length ≤ 1000000) → ∀ (H : Hp) (names : List ByteArray) (nb : Option Nat) (v : Value), LpS H0 H names nb → TkV H0 v T → names.length + T.length ≤ 1000000 →
   Lab2R n m x0 ln at_ v names nb H0 H (lbD T) := by
 intro N
 induction N with
 | zero =>
   intro m T hT hm hw H names nb v hL hv hsz
   obtain ⟨m, rfl⟩ : ∃ q, m = q + 1 := ⟨m - 1, by omega⟩
   have : T = [] := List.eq_nil_of_length_eq_zero (by omega)
   subst this
   have hl := hv.len
   have hl : ∀ H, len 1 v H = some (.int .i64 0) := hl
   refine ⟨H, nb, v, by simpa [lbD] using hL, hv, fun kx kr => ?_⟩
   rw [lp_succ]
   simp only [lbD, List.append_nil, Bool.false_eq_true, if_false]
   simp -implicitDefEqProofs only [s17_b2, ↓GVdn, GVup, goInt, splice, okC, Fr.of, Fr.ofI, Fr.g, Nat.reduceAdd, Nat.reduceMul, Nat.reduceEqDiff, Nat.reduceLT, Nat.reduceLeDiff, Nat.reduceBEq, Int.reduceLT, Int.reduceLE, Int.reduceToNat, Int.reduceAdd, Int.reduceSub, Int.reduceMul, Int.reduceEq, Int.reduceNeg, ↓reduceIte, ↓reduceDIte, Nat.beq, reduceCtorEq, Value.int.injEq, Nat.reduceSub, sto_ptr, hl, show ((1 : Int) < 0) = False from eq_false (by decide)]
 | succ N ih =>
   intro m T hT hm hw H names nb v hL hv hsz
   obtain ⟨m, rfl⟩ : ∃ q, m = q + 1 := ⟨m - 1, by omega⟩
   have hl := hv.len
   match T, hT, hw, hv, hsz, hl with
   | [], hT, hw, hv, hsz, hl =>
     have hl : ∀ H, len 1 v H = some (.int .i64 0) := hl
     refine ⟨H, nb, v, by simpa [lbD] using hL, hv, fun kx kr => ?_⟩
     rw [lp_succ]
     simp only [lbD, List.append_nil, Bool.false_eq_true, if_false]
     simp -implicitDefEqProofs only [s17_b2, ↓GVdn, GVup, goInt, splice, okC, Fr.of, Fr.ofI, Fr.g, Nat.reduceAdd, Nat.reduceMul, Nat.reduceEqDiff, Nat.reduceLT, Nat.reduceLeDiff, Nat.reduceBEq, Int.reduceLT, Int.reduceLE, Int.reduceToNat, Int.reduceAdd, Int.reduceSub, Int.reduceMul, Int.reduceEq, Int.reduceNeg, ↓reduceIte, ↓reduceDIte, Nat.beq, reduceCtorEq, Value.int.injEq, Nat.reduceSub, sto_ptr, hl, show ((1 : Int) < 0) = False from eq_false (by decide)]
   | [p], hT, hw, hv, hsz, hl =>
     have hl : ∀ H, len 1 v H = some (.int .i64 1) := hl
     refine ⟨H, nb, v, by simpa [lbD] using hL, hv, fun kx kr => ?_⟩
     rw [lp_succ]
     simp only [lbD, List.append_nil, Bool.false_eq_true, if_false]
     simp -implicitDefEqProofs only [s17_b2, ↓GVdn, GVup, goInt, splice, okC, Fr.of, Fr.ofI, Fr.g, Nat.reduceAdd, Nat.reduceMul, Nat.reduceEqDiff, Nat.reduceLT, Nat.reduceLeDiff, Nat.reduceBEq, Int.reduceLT, Int.reduceLE, Int.reduceToNat, Int.reduceAdd, Int.reduceSub, Int.reduceMul, Int.reduceEq, Int.reduceNeg, ↓reduceIte, ↓reduceDIte, Nat.beq, reduceCtorEq, Value.int.injEq, Nat.reduceSub, sto_ptr, hl, show ((1 : Int) < 1) = False from eq_false (by decide)]
   | p :: q :: r, hT, hw, hv, hsz, hl =>
     obtain ⟨_, h0⟩ | ⟨b, o, CL, hK⟩ := hv
     · cases h0
     have hv0 : TkV H0 v (p :: q :: r) := .inr ⟨b, o, CL, hK⟩
     have hl : ∀ H, len 1 v H = some (.int .i64 ((r.length + 1 + 1 : Nat) : Int)) := hl
     have hcl : H.cells b = some CL := by
       unfold Hp.cells
       rw [hL.old b hK.n]
       exact hK.c
     have e0 := (hK.get (j := 0) (by simp)).1
     have s0 := hK.sa (j := 0) (by simp)
     have e1 := (hK.get (j := 1) (by simp)).1
     have s1 := hK.sa (j := 1) (by simp)
     have s0 : sa 2 v (.int .i64 0) = some (ptr b o) := s0
     have s1 : sa 2 v (.int .i64 1) = some (ptr b (o + 2)) := s1
     have e0 : CL[o]? = some (.string (bs p.1)) := e0
     have e1 : CL[o + 2]? = some (.string (bs q.1)) := e1
     have h3 : ((1 : Int) < ((r.length + 1 + 1 : Nat) : Int)) = True := eq_true (by omega)
     simp only [lbD]
     by_cases hcc : q.1 = [58]
     · rw [if_pos hcc]
       have hq : (bs q.1 = ⟨#[58]⟩) = True := eq_true (by rw [hcc]; rfl)
       have h31 := fun H => v31 (n + 29) p.1 (by omega) H (by have := hw 0; have e : wd (p :: q :: r) 0 = p.1 := rfl; rw [e] at this; omega)
       by_cases hla : labelV (bs p.1) = true
       · rw [if_pos hla]
         have hnx : (H.new (.rw [.string (bs p.1)])).next = H.next + 1 := rfl
         have hrow := hL.row
         have hLn := hL.next
         obtain ⟨H2, nb2, a1, a2, a3, a4, a5, a6⟩ := app_row (sz := 1) (by_ := 16) (H := H.new (.rw [.string (bs p.1)])) (n := names.length) (cs := names.map Value.string) (lb := nb) (lo := H0.next) (by simp) (row_new hrow _)
           (by show H.lim ≤ H0.next; rw [hL.lim]; exact hlim) (by rw [hnx]; omega) (by show Tabs.gn ≤ H.lim; rw [hL.lim]; exact hgn) (m := 1) (xs := [.string (bs p.1)]) (by simp) (by decide) (roomy16 (by simp at hsz; omega)) rfl
         have hL2 : LpS H0 H2 (names ++ [bs p.1]) nb2 := by
           refine ⟨fun c hc => ?_, by rw [hnx] at a3; omega, by rw [a4]; exact hL.lim, by simpa using a2⟩
           rw [a5 c (by rw [hnx]; omega) (fun e => by subst e; have := hrow.2.1; omega), Hp.get_new, if_neg (by omega)]
           exact hL.old c hc
         have hsl := hK.sl (j := 2) (by simp)
         have hKd := hK.drop (j := 2) (by simp)
         have hsl : slV 2 v (some (.int .i64 2)) none = some (.slice (some ⟨b, o + 4, none⟩) r.length 2) := hsl
         have hKd : SlK H0 (.slice (some ⟨b, o + 4, none⟩) r.length 2) b (o + 4) CL r := hKd
         obtain ⟨H', nb', v', i1, i2, i3⟩ := ih m r (by simp at hT; omega) (by omega) (fun j => hw (j + 2)) H2 (names ++ [bs p.1]) nb2 _ hL2 (.inr ⟨b, o + 4, CL, hKd⟩) (by simp at hsz ⊢; omega)
         rw [List.append_assoc, List.singleton_append] at i1 i3
         refine ⟨H', nb', v', i1, i2, fun kx kr => ?_⟩
         have i3' := i3 kx kr
         simp only [List.length_append, List.length_cons, List.length_nil, Nat.zero_add] at i3' ⊢
         rw [lp_succ]
         simp -implicitDefEqProofs only [s17_b2, ↓GVdn, GVup, goInt, splice, okC, Fr.of, Fr.ofI, Fr.g, Nat.reduceAdd, Nat.reduceMul, Nat.reduceEqDiff, Nat.reduceLT, Nat.reduceLeDiff, Nat.reduceBEq, Int.reduceLT, Int.reduceLE, Int.reduceToNat, Int.reduceAdd, Int.reduceSub, Int.reduceMul, Int.reduceEq, Int.reduceNeg, ↓reduceIte, ↓reduceDIte, Nat.beq, reduceCtorEq, Value.int.injEq, Nat.reduceSub, sto_ptr, opn_lim, hl, h3, hcl, s0, s1, e0, e1, hq, h31, hla, rep, List.replicate, List.flatten_cons, List.flatten_nil, srcC_new, a1, hsl, i3']
       · rw [if_neg hla]
         have hla' : labelV (bs p.1) = false := by simpa using hla
         refine ⟨H, nb, v, by simpa using hL, hv0, fun kx kr => ?_⟩
         rw [lp_succ]
         simp only [List.append_nil, if_true]
         simp -implicitDefEqProofs only [s17_b2, ↓GVdn, GVup, goInt, splice, okC, Fr.of, Fr.ofI, Fr.g, Nat.reduceAdd, Nat.reduceMul, Nat.reduceEqDiff, Nat.reduceLT, Nat.reduceLeDiff, Nat.reduceBEq, Int.reduceLT, Int.reduceLE, Int.reduceToNat, Int.reduceAdd, Int.reduceSub, Int.reduceMul, Int.reduceEq, Int.reduceNeg, ↓reduceIte, ↓reduceDIte, Nat.beq, reduceCtorEq, Value.int.injEq, Nat.reduceSub, sto_ptr, opn_lim, hl, h3, hcl, s0, s1, e0, e1, hq, h31, hla']
     · rw [if_neg hcc]
       have hq : (bs q.1 = ⟨#[58]⟩) = False := eq_false (fun e => hcc (bs_inj (b := [58]) e))
       refine ⟨H, nb, v, by simpa using hL, hv0, fun kx kr => ?_⟩
       rw [lp_succ]
       simp only [List.append_nil, Bool.false_eq_true, if_false]
       simp -implicitDefEqProofs only [s17_b2, ↓GVdn, GVup, goInt, splice, okC, Fr.of, Fr.ofI, Fr.g, Nat.reduceAdd, Nat.reduceMul, Nat.reduceEqDiff, Nat.reduceLT, Nat.reduceLeDiff, Nat.reduceBEq, Int.reduceLT, Int.reduceLE, Int.reduceToNat, Int.reduceAdd, Int.reduceSub, Int.reduceMul, Int.reduceEq, Int.reduceNeg, ↓reduceIte, ↓reduceDIte, Nat.beq, reduceCtorEq, Value.int.injEq, Nat.reduceSub, sto_ptr, opn_lim, hl, h3, hcl, s0, s1, e0, e1, hq]
structure P3S (H : Hp) (A mb : Nat) (wv tv : Value) (ls : List (ByteArray × Int)) (names : List ByteArray) (nb : Option Nat) (lo : Nat) : Prop where
 lm : H.lim ≤ mb
 ne : A ≠ mb
 cell : H.get A = some (.rw [wv, .map (some mb), tv])
 mp : ∃ es ck, H.get mb = some (.mp es ck) ∧ MR es ls
 row : RowS H nb lo (names.map Value.string)
theorem line_l3 (C : Cl) (n : Nat) (A mb : Nat) (wv tv : Value) (nW : Nat) (names : List ByteArray) (nb : Option Nat) (lo : Nat) (hnl : names.length ≤ 4294967296) : ∀ (r k m : Nat), k + r = names.length → r < m → ∀ (H : Hp) (ls : List (ByteArray × Int)), P3S H A mb wv tv ls names nb lo →
   match addL ls nW (names.drop k) with
   | none => ∃ H', (∀ (kx : Nat → Fr → Hp → Option (Out × Hp)) (kr : Fr → Hp → Option (Out × Hp)), lp (s17_b3 C n) m [ptr A 0, .int .i64 nW, svOf nb names.length 1, .int .i64 k] H kx kr = kr (Fr.of [0, 6] [ptr A 0, .int .i64 301]) H') ∧ H'.next = H.next ∧ H'.lim = H.lim ∧ ∀ b, b ≠ mb → H'.get b = H.get b
   | some ls' => ∃ H', (∀ (kx : Nat → Fr → Hp → Option (Out × Hp)) (kr : Fr → Hp → Option (Out × Hp)), lp (s17_b3 C n) m [ptr A 0, .int .i64 nW, svOf nb names.length 1, .int .i64 k] H kx kr = kx 4 (Fr.of [0, 6] [ptr A 0, dead]) H') ∧ P3S H' A mb wv tv ls' names nb lo ∧ H'.next = H.next ∧ H'.lim = H.lim ∧ ∀ b, b ≠ mb → H'.get b = H.get b := by
 intro r
 induction r with
 | zero =>
   intro k m hk hm H ls hL
   obtain ⟨m, rfl⟩ : ∃ q, m = q + 1 := ⟨m - 1, by omega⟩
   have e : names.drop k = [] := List.drop_eq_nil_of_le (by omega)
   rw [e]
   simp only [addL]
   refine ⟨H, fun kx kr => ?_, hL, rfl, rfl, fun _ _ => rfl⟩
   have hlt : ((k : Int) < (names.length : Int)) = False := eq_false (by omega)
   have hnn : ∀ H, len 1 (svOf nb names.length 1) H = some (.int .i64 names.length) := fun H => len_sv _ _ _ _ (row_none hL.row)
   rw [lp_succ]
   simp -implicitDefEqProofs only [s17_b3, ↓GVdn, GVup, goInt, splice, okC, Fr.of, Fr.ofI, Fr.g, Nat.reduceAdd, Nat.reduceMul, Nat.reduceEqDiff, Nat.reduceLT, Nat.reduceLeDiff, Nat.reduceBEq, Int.reduceLT, Int.reduceLE, Int.reduceToNat, Int.reduceAdd, Int.reduceSub, Int.reduceMul, Int.reduceEq, Int.reduceNeg, ↓reduceIte, ↓reduceDIte, Nat.beq, reduceCtorEq, Value.int.injEq, Nat.reduceSub, sto_ptr, hnn, hlt]
 | succ r ih =>
   intro k m hk hm H ls hL
   obtain ⟨m, rfl⟩ : ∃ q, m = q + 1 := ⟨m - 1, by omega⟩
   have hkl : k < names.length := by omega
   have hd : names.drop k = names[k] :: names.drop (k + 1) := List.drop_eq_getElem_cons hkl
   have hlt : ((k : Int) < (names.length : Int)) = True := eq_true (by omega)
   have hi0 : ((0 : Int) ≤ (k : Int)) = True := eq_true (by omega)
   have hw1 : IntKind.wrap .i64 ((k : Int) + 1) = ((k + 1 : Nat) : Int) := by rw [IntWalk.i64_in _ (by omega)]; rfl
   have hrow := hL.row
   have hg : (names.map Value.string)[k]? = some (.string names[k]) := by simp [hkl]
   obtain ⟨es, ck, hm1, hm2⟩ := hL.mp
   have hnm := row_ne hL.row hm1
   rw [hd]
   simp only [addL]
   generalize names[k] = s at hg ⊢
   have cA := cells_get hL.cell
   have hlk0 := lkup_MR hm1 hm2 s
   have hlk : ∀ L, lkup true (.int .i64 0) true (.map (some mb)) (.string s) (H.opn L) = _ := fun L => (by
     have : lkup true (.int .i64 0) true (.map (some mb)) (.string s) (H.opn L) = lkup true (.int .i64 0) true (.map (some mb)) (.string s) H := by
       simp only [lkup, entries, get_opn]
     exact this.trans hlk0)
   cases nb with
   | none => exact absurd (show names.map Value.string = [] from hrow) (by intro e; rw [e] at hg; cases hg)
   | some bb =>
     have cN := cells_get hrow.1
     cases hf : findL s ls with
     | some z =>
       rw [hf] at hlk
       simp only at hlk
       simp only
       refine ⟨H, fun kx kr => ?_, rfl, rfl, fun _ _ => rfl⟩
       rw [lp_succ]
       simp -implicitDefEqProofs only [s17_b3, ↓GVdn, GVup, goInt, splice, okC, Fr.of, Fr.ofI, Fr.g, Nat.reduceAdd, Nat.reduceMul, Nat.reduceEqDiff, Nat.reduceLT, Nat.reduceLeDiff, Nat.reduceBEq, Int.reduceLT, Int.reduceLE, Int.reduceToNat, Int.reduceAdd, Int.reduceSub, Int.reduceMul, Int.reduceEq, Int.reduceNeg, ↓reduceIte, ↓reduceDIte, Nat.beq, reduceCtorEq, Value.int.injEq, Nat.reduceSub, sto_ptr, opn_lim, svOf, hlt, hi0, cA, cN, hg, hlk]
     | none =>
       rw [hf] at hlk
       simp only at hlk
       simp only
       obtain ⟨es', u1, u2⟩ := mupd_MR hm1 hm2 hL.lm s hf nW
       have hL2 : P3S (H.set mb (.mp es' (ck + 1))) A mb wv tv (ls ++ [(s, (nW : Int))]) names (some bb) lo :=
         ⟨hL.lm, hL.ne, by rw [Hp.get_set, if_neg hL.ne]; exact hL.cell, ⟨es', ck + 1, by rw [Hp.get_set, if_pos rfl], u2⟩, row_set hrow _ hnm⟩
       have ih := ih (k + 1) m (by omega) (by omega) (H.set mb (.mp es' (ck + 1))) _ hL2
       have step : ∀ kx kr, lp (s17_b3 C n) (m + 1) [ptr A 0, .int .i64 nW, svOf (some bb) names.length 1, .int .i64 k] H kx kr = lp (s17_b3 C n) m [ptr A 0, .int .i64 nW, svOf (some bb) names.length 1, .int .i64 ((k + 1 : Nat) : Int)] (H.set mb (.mp es' (ck + 1))) kx kr := by
         intro kx kr
         rw [lp_succ]
         simp -implicitDefEqProofs only [s17_b3, ↓GVdn, GVup, goInt, splice, okC, Fr.of, Fr.ofI, Fr.g, Nat.reduceAdd, Nat.reduceMul, Nat.reduceEqDiff, Nat.reduceLT, Nat.reduceLeDiff, Nat.reduceBEq, Int.reduceLT, Int.reduceLE, Int.reduceToNat, Int.reduceAdd, Int.reduceSub, Int.reduceMul, Int.reduceEq, Int.reduceNeg, ↓reduceIte, ↓reduceDIte, Nat.beq, reduceCtorEq, Value.int.injEq, Nat.reduceSub, sto_ptr, opn_lim, svOf, hlt, hi0, cA, cN, hg, hlk, u1, hw1]
       simp only [step]
       cases ha : addL (ls ++ [(s, (nW : Int))]) nW (names.drop (k + 1)) with
       | none =>
         rw [ha] at ih
         obtain ⟨H', i1, i3, i4, i5⟩ := ih
         exact ⟨H', i1, i3, i4, fun b hb => by rw [i5 b hb, Hp.get_set, if_neg hb]⟩
       | some ls' =>
         rw [ha] at ih
         obtain ⟨H', i1, i2, i3, i4, i5⟩ := ih
         exact ⟨H', i1, i2, i3, i4, fun b hb => by rw [i5 b hb, Hp.get_set, if_neg hb]⟩
end Go.Proofs.YtbaooebafijenaaGreatDoor
namespace Go.Proofs.YtbaooebafijenaaGreatDoor
open Go Go.Ev
set_option maxRecDepth 100000
set_option linter.unusedSimpArgs false
set_option linter.unusedVariables false
set_option maxHeartbeats 4000000
set_option linter.unusedSectionVars false
variable [Mx]
attribute [local congr] bind_front callK_front jn_front ifB_front ifG_front lp_front
theorem v32 (hnm : (Mx.nm : Option Blk) = some (.ro namesC)) (n : Nat) (H : Hp) (A mb : Nat) (a : Asm) (wb tb : Option Nat) (v : Value) (line : Int) (T : List (Bs × Bool)) (hS : DsS H A mb a wb tb) (hv : TkV H v T) (hA : Adj T) (hw : ∀ j, (wd T j).length ≤ 1000000) (hT : T.length ≤ 1000000) (hb : a.words.length ≤ 65536) (hb2 : a.wants.length ≤ 65536) :
   SayR n H A mb a wb tb v line (rdV (ww T)) := by
 have hlen := hv.len
 match T, hv, hA, hw, hT, hlen with
 | [], hv, hA, hw, hT, hlen =>
   have hl : ∀ H, len 1 v H = some (.int .i64 0) := hlen
   refine ⟨H, wb, tb, ?_, ?_, KeS.ofKeep (fun _ _ => rfl) (Nat.le_refl _) rfl⟩
   · rw [q32]
     simp -implicitDefEqProofs only [s32, ↓GVdn, GVup, goInt, splice, okC, Fr.of, Fr.ofI, Fr.g, Nat.reduceAdd, Nat.reduceMul, Nat.reduceEqDiff, Nat.reduceLT, Nat.reduceLeDiff, Nat.reduceBEq, Int.reduceLT, Int.reduceLE, Int.reduceToNat, Int.reduceAdd, Int.reduceSub, Int.reduceMul, Int.reduceEq, Int.reduceNeg, ↓reduceIte, ↓reduceDIte, Nat.beq, reduceCtorEq, Value.int.injEq, Nat.reduceSub, hl]
   · rw [if_pos rfl, List.append_nil]
     exact hS
 | p :: T, hv, hA, hw, hT, hlen =>
   obtain ⟨_, h0⟩ | ⟨b, o, CL, hK⟩ := hv
   · cases h0
   by_cases hg : ∀ q r, T = q :: r → q.2 = true
   · by_cases h1 : bs p.1 = liB
     · exact v32_li n H A mb a wb tb v line b o CL p T hS hK hw hb hg h1
     · by_cases h2 : bs p.1 = wordB
       · exact v32_word n H A mb a wb tb v line b o CL p T hS hK hw hb hg h2
       · exact v32_op hnm n H A mb a wb tb v line b o CL p T hS hK hw (by simp at hT; omega) hb hb2 hg h1 h2
   · obtain ⟨q, r, rfl, hq⟩ : ∃ q r, T = q :: r ∧ q.2 = false := by
       cases T with
       | nil => exact absurd (fun q r h => by cases h) hg
       | cons q r =>
         refine ⟨q, r, rfl, ?_⟩
         cases hq : q.2 with
         | false => rfl
         | true => exact absurd (fun q' r' e => by cases e; exact hq) hg
     rw [gap_none hA hq]
     have e1 := hK.get (j := 1) (by simp)
     have s1 := hK.sa (j := 1) (by simp)
     have g1 : ((p :: q :: r).getD 1 ([], false)).2 = false := hq
     rw [g1] at e1
     have s1 : sa 2 v (.int .i64 1) = some (ptr b (o + 2)) := s1
     have e1 : CL[o + 2 + 1]? = some (.bool false) := e1.2
     have hc := hK.c
     have hl : ∀ H, len 1 v H = some (.int .i64 ((r.length + 1 + 1 : Nat) : Int)) := hlen
     have hl0 : (((r.length + 1 + 1 : Nat) : Int) = 0) = False := eq_false (by omega)
     have hl1 : (1 < ((r.length + 1 + 1 : Nat) : Int)) = True := eq_true (by omega)
     refine ⟨H, ?_, fun _ _ => rfl, Nat.le_refl _, rfl⟩
     rw [q32]
     simp -implicitDefEqProofs only [s32, ↓GVdn, GVup, goInt, splice, okC, Fr.of, Fr.ofI, Fr.g, Nat.reduceAdd, Nat.reduceMul, Nat.reduceEqDiff, Nat.reduceLT, Nat.reduceLeDiff, Nat.reduceBEq, Int.reduceLT, Int.reduceLE, Int.reduceToNat, Int.reduceAdd, Int.reduceSub, Int.reduceMul, Int.reduceEq, Int.reduceNeg, ↓reduceIte, ↓reduceDIte, Nat.beq, reduceCtorEq, Value.int.injEq, Nat.reduceSub, hl, hl0, hl1, s1, hc, e1]
def LineR (n : Nat) (H : Hp) (A mb : Nat) (wb tb : Option Nat) (l : Bs) (line : Int) (r : Except Int Asm) : Prop :=
 match r with
 | .error e => ∃ H', evCall cfc (n+132) 17 [ptr A 0, .string (bs l), .int .i64 line] H = some (.ret (.int .i64 e), H') ∧ H.next ≤ H'.next ∧ H'.lim = H.lim ∧ ∀ b, b < H.next → b ≠ A → b ≠ mb → wb ≠ some b → tb ≠ some b → H'.get b = H.get b
 | .ok a' => ∃ H' wb' tb', evCall cfc (n+132) 17 [ptr A 0, .string (bs l), .int .i64 line] H = some (.ret (.int .i64 0), H') ∧ DsS H' A mb a' wb' tb' ∧ KeS H H' A mb wb tb wb' tb'
theorem rtk_len : ∀ (k : Nat) (l : Bs), (rtk k l).length ≤ l.length ∧ ∀ p ∈ rtk k l, p.1.length ≤ l.length
 | 0, l => ⟨Nat.zero_le _, fun p hp => by simp [rtk] at hp⟩
 | k + 1, [] => ⟨Nat.zero_le _, fun p hp => by simp [rtk] at hp⟩
 | k + 1, c0 :: l0 => by
   simp only [rtk]
   generalize hg : decide (0 < skipB (c0 :: l0)) = g
   cases hr : (c0 :: l0).drop (skipB (c0 :: l0)) with
   | nil => exact ⟨Nat.zero_le _, fun p hp => by simp at hp⟩
   | cons c r =>
     have hbl := skip_drop _ hr
     have hlr : r.length + 1 ≤ (c0 :: l0).length := by
       have := congrArg List.length hr
       simp only [List.length_drop, List.length_cons] at this ⊢
       omega
     generalize (c0 :: l0).length = N at hlr ⊢
     dsimp only
     by_cases hk : mkB c = true
     · rw [if_pos hk]
       obtain ⟨h1, h2⟩ := rtk_len k r
       refine ⟨by rw [List.length_cons]; omega, fun p hp => ?_⟩
       rcases List.mem_cons.1 hp with rfl | hp
       · show 1 ≤ N
         omega
       · have := h2 p hp; omega
     · rw [if_neg hk]
       have hwn : wordN (c :: r) = wordN r + 1 := by simp [wordN, hbl, hk]
       obtain ⟨h1, h2⟩ := rtk_len k ((c :: r).drop (wordN (c :: r)))
       rw [List.length_drop, hwn, List.length_cons] at h1 h2
       rw [hwn]
       refine ⟨by rw [List.length_cons]; omega, fun p hp => ?_⟩
       rcases List.mem_cons.1 hp with rfl | hp
       · simp only [List.length_take, List.length_cons]
         omega
       · have := h2 p hp; omega
theorem ww_rtk (l : Bs) : ww (rtk (l.length + 1) l) = (tk2 l []).map bs := by
 have := rtk_fst (l.length + 1) l (by omega)
 unfold ww
 rw [← this, List.map_map]
 rfl
theorem cutL_len (c : UInt8) : ∀ l : Bs, (cutL c l).length ≤ l.length
 | [] => Nat.le_refl _
 | x :: l => by
   have := cutL_len c l
   simp only [cutL]
   split
   · simp
   · simp only [List.length_cons]; omega
theorem v17 (hnm : (Mx.nm : Option Blk) = some (.ro namesC)) (n : Nat) (H : Hp) (A mb : Nat) (a : Asm) (wb tb : Option Nat) (l : Bs) (line : Nat) (hS : DsS H A mb a wb tb) (hl : l.length ≤ 400000) (hln : l.length < n) (hb : a.words.length ≤ 65536) (hb2 : a.wants.length ≤ a.words.length) :
   LineR n H A mb wb tb l line (oneV { a with line := (line : Int) } (lineT l)) := by
 have hlimN : H.lim ≤ H.next := by have := hS.lA; have := hS.nA; omega
 have l1 := fun kx kr => line_l1 (evCall cfc (n+131)) (n+131) (ptr A 0) (.int .i64 line) l (by omega) H kx kr l.length 0 (n+131) (by omega) (by omega)
 simp only [List.take_zero, List.nil_append, List.drop_zero] at l1
 have l1 : ∀ kx kr, lp (s17_b1 (evCall cfc (n+131)) (n+131)) (n+131) [ptr A 0, .string (bs l), .int .i64 line, .int .i64 0] H kx kr = _ := l1
 have hcl := cutL_len 59 l
 generalize hs : cutL 59 l = s at l1 hcl
 have hwT : ww (rtk (s.length + 1) s) = lineT l := by rw [ww_rtk]; unfold lineT; rw [hs]
 have hadj := rtk_adj (s.length + 1) s
 obtain ⟨tl1, tl2⟩ := rtk_len (s.length + 1) s
 have h30 := v30 (n + 129) s (by omega) (by omega) H
 have h30 : evCall cfc (n + 131) 30 [.string (bs s)] H = tokR (rtk (s.length + 1) s) H := h30
 generalize rtk (s.length + 1) s = T at hwT hadj tl1 tl2 h30
 have hwd : ∀ j, (wd T j).length ≤ 1000000 := fun j => by
   unfold wd
   rw [List.getD_eq_getElem?_getD]
   cases hj : T[j]? with
   | none => simp
   | some p => have := tl2 p (List.mem_of_getElem? hj); simp only [Option.getD_some]; omega
 obtain ⟨H1, v, h30', o1, n1, m1, hv⟩ : ∃ H1 v, evCall cfc (n + 131) 30 [.string (bs s)] H = some (.ret v, H1) ∧ (∀ b, b < H.next → H1.get b = H.get b) ∧ H.next ≤ H1.next ∧ H1.lim = H.lim ∧ TkV H1 v T := by
   rw [h30]
   unfold tokR
   by_cases hT : T = []
   · rw [if_pos hT]
     exact ⟨H, _, rfl, fun _ _ => rfl, Nat.le_refl _, rfl, .inl ⟨rfl, hT⟩⟩
   · rw [if_neg hT]
     refine ⟨_, _, rfl, fun b hb => by rw [Hp.get_new, if_neg (by omega)], by simp, rfl, .inr ⟨H.next, 0, tkc T, rfl, by rw [cells_new, if_pos rfl], ?_, ?_, by simp⟩⟩
     · rw [List.drop_zero, List.take_of_length_le (by rw [tkc_len]; omega)]
     · rw [tkc_len]; omega
 have hS1 := hS.keep o1 n1 m1
 have hK1 : KeS H H1 A mb wb tb wb tb := KeS.ofKeep o1 n1 m1
 have cA1 := cells_get hS1.cell
 have hwl : ∀ H, len 1 (svOf wb a.words.length 1) H = some (.int .i64 a.words.length) := fun H => len_sv _ _ _ _ (row_none hS.wr)
 have hL0 : LpS H1 H1 [] none := ⟨fun _ _ => rfl, Nat.le_refl _, rfl, rfl⟩
 have hA1 := hS1.nA
 have hmb1 := hS1.nm
 have hlim1 : H1.lim ≤ H1.next := by have := hS1.lA; omega
 obtain ⟨H2, nb, v', hL2, hv2, l2⟩ := line_l2 (n + 101) H1 hS1.gn hlim1 (ptr A 0) (.int .i64 line) (.int .i64 a.words.length) T.length (n+131) T (Nat.le_refl _) (by omega) hwd H1 [] none v hL0 hv (by simp; omega)
 simp only [List.nil_append] at hL2 l2
 have l2 : ∀ kx kr, lp (s17_b2 (evCall cfc (n+131)) (n+131)) (n+131) [ptr A 0, .int .i64 line, v, .int .i64 a.words.length, .slice none 0 0] H1 kx kr = _ := l2
 have hgo := lbD_go T
 rw [hwT] at hgo
 have hlenD := lbD_len T
 have hwD := lbD_wd T 1000000 hwd
 have haD := lbD_adj T hadj
 have hbD := lbD_bad T
 unfold oneV
 rw [hgo]
 simp only
 generalize (lbD T).1 = names at *
 generalize (lbD T).2.1 = R at *
 generalize (lbD T).2.2 = bad at *
 cases bad with
 | true =>
   rw [hbD rfl]
   refine ⟨H2, ?_, by have := hL2.next; omega, by rw [hL2.lim, m1], fun b h1 _ _ _ _ => by rw [hL2.old b (by omega), o1 b h1]⟩
   simp only [if_true] at l2
   rw [q17]
   simp -implicitDefEqProofs only [s17, ↓GVdn, GVup, goInt, splice, okC, Fr.of, Fr.ofI, Fr.g, Nat.reduceAdd, Nat.reduceMul, Nat.reduceEqDiff, Nat.reduceLT, Nat.reduceLeDiff, Nat.reduceBEq, Int.reduceLT, Int.reduceLE, Int.reduceToNat, Int.reduceAdd, Int.reduceSub, Int.reduceMul, Int.reduceEq, Int.reduceNeg, ↓reduceIte, ↓reduceDIte, Nat.beq, reduceCtorEq, Value.int.injEq, Nat.reduceSub, l1, h30', cA1, hwl, l2]
 | false =>
   simp only [Bool.false_eq_true, if_false] at l2
   have hS2 := hS1.keep hL2.old hL2.next hL2.lim
   have hK2 : KeS H1 H2 A mb wb tb wb tb := KeS.ofKeep hL2.old hL2.next hL2.lim
   have hv2' : TkV H2 v' R := by
     rcases hv2 with h | ⟨b, o, CL, hK⟩
     · exact .inl h
     · exact .inr ⟨b, o, CL, hK.v, by unfold Hp.cells; rw [hL2.old b hK.n]; exact hK.c, hK.r, hK.l, by have := hK.n; have := hL2.next; omega⟩
   have hsay := v32 hnm (n + 31) H2 A mb a wb tb v' line R hS2 hv2' haD hwD (by omega) hb (by omega)
   cases hrd : rdV (ww R) with
   | none =>
     rw [hrd] at hsay
     obtain ⟨H3, g1, g2, g3, g4⟩ := hsay
     have g1 : evCall cfc (n + 131) 32 [ptr A 0, v', .int .i64 line] H2 = _ := g1
     refine ⟨H3, ?_, by have := hL2.next; omega, by rw [g4, hL2.lim, m1], fun b h1 _ _ _ _ => by rw [g2 b (by have := hL2.next; omega), hL2.old b (by omega), o1 b h1]⟩
     rw [q17]
     simp -implicitDefEqProofs only [s17, ↓GVdn, GVup, goInt, splice, okC, Fr.of, Fr.ofI, Fr.g, Nat.reduceAdd, Nat.reduceMul, Nat.reduceEqDiff, Nat.reduceLT, Nat.reduceLeDiff, Nat.reduceBEq, Int.reduceLT, Int.reduceLE, Int.reduceToNat, Int.reduceAdd, Int.reduceSub, Int.reduceMul, Int.reduceEq, Int.reduceNeg, ↓reduceIte, ↓reduceDIte, Nat.beq, reduceCtorEq, Value.int.injEq, Nat.reduceSub, l1, h30', cA1, hwl, l2, g1]
   | some q =>
     obtain ⟨ws, i, lab⟩ := q
     rw [hrd] at hsay
     obtain ⟨H3, wb3, tb3, g1, hS3, hK3⟩ := hsay
     have g1 : evCall cfc (n + 131) 32 [ptr A 0, v', .int .i64 line] H2 = _ := g1
     simp only
     have hkk := (hK1.trans hK2).trans hK3
     obtain ⟨es, ck, p1, p2⟩ := hS3.mp
     have hrow2 := hL2.row
     have nr3 : RowS H3 nb H1.next (names.map Value.string) := row_keep hrow2 (fun b hb => by
       subst hb
       have hr := hrow2
       exact hK3.old b hr.2.2.1 (by have := hr.2.1; omega) (by have := hr.2.1; omega) (fun e => by have := hS1.wlt _ e; have := hr.2.1; omega) (fun e => by have := hS1.tlt _ e; have := hr.2.1; omega)) hK3.next
     have hP : P3S H3 A mb (svOf wb3 (a.words ++ ws).length 1) (svOf tb3 (if lab = emp then a.wants else a.wants ++ [⟨(line : Int), a.words.length, i, lab⟩]).length 8) a.labels names nb H1.next :=
       ⟨hS3.lm, hS3.ne, hS3.cell, ⟨es, ck, p1, p2⟩, nr3⟩
     have l3 := line_l3 (evCall cfc (n+131)) (n+131) A mb _ _ a.words.length names nb H1.next (by omega) names.length 0 (n+131) (by omega) (by omega) H3 a.labels hP
     rw [List.drop_zero] at l3
     cases had : addL a.labels a.words.length names with
     | none =>
       rw [had] at l3
       obtain ⟨H4, i1, i2, i3, i4⟩ := l3
       have i1 : ∀ kx kr, lp (s17_b3 (evCall cfc (n+131)) (n+131)) (n+131) [ptr A 0, .int .i64 a.words.length, svOf nb names.length 1, .int .i64 0] H3 kx kr = _ := i1
       simp only
       refine ⟨H4, ?_, by rw [i2]; exact hkk.next, by rw [i3]; exact hkk.lim, fun b h1 h2 h3 h4 h5 => by rw [i4 b h3]; exact hkk.old b h1 h2 h3 h4 h5⟩
       rw [q17]
       simp -implicitDefEqProofs only [s17, ↓GVdn, GVup, goInt, splice, okC, Fr.of, Fr.ofI, Fr.g, Nat.reduceAdd, Nat.reduceMul, Nat.reduceEqDiff, Nat.reduceLT, Nat.reduceLeDiff, Nat.reduceBEq, Int.reduceLT, Int.reduceLE, Int.reduceToNat, Int.reduceAdd, Int.reduceSub, Int.reduceMul, Int.reduceEq, Int.reduceNeg, ↓reduceIte, ↓reduceDIte, Nat.beq, reduceCtorEq, Value.int.injEq, Nat.reduceSub, l1, h30', cA1, hwl, l2, g1, i1]
     | some ls =>
       rw [had] at l3
       obtain ⟨H4, i1, hP4, i2, i3, i4⟩ := l3
       have i1 : ∀ kx kr, lp (s17_b3 (evCall cfc (n+131)) (n+131)) (n+131) [ptr A 0, .int .i64 a.words.length, svOf nb names.length 1, .int .i64 0] H3 kx kr = _ := i1
       simp only
       obtain ⟨es4, ck4, p3, p4⟩ := hP4.mp
       have hS4 : DsS H4 A mb { words := a.words ++ ws, labels := ls, wants := if lab = emp then a.wants else a.wants ++ [⟨(line : Int), a.words.length, i, lab⟩], line := (line : Int) } wb3 tb3 := by
         have wne : wb3 ≠ some mb := row_ne hS3.wr p1
         have tne : tb3 ≠ some mb := row_ne hS3.tr p1
         refine ⟨hS3.h13, by rw [i3]; exact hS3.gn, by rw [i3]; exact hS3.lA, by rw [i3]; exact hS3.lm, by rw [i2]; exact hS3.nA, by rw [i2]; exact hS3.nm, hS3.ne, hP4.cell, ⟨es4, ck4, p3, p4⟩, ?_, ?_, hS3.dw, hS3.dt, hS3.bw⟩
         · rw [i3]; exact row_keep hS3.wr (fun b hb => i4 b (fun e => wne (by rw [hb, e]))) (by omega)
         · rw [i3]; exact row_keep hS3.tr (fun b hb => i4 b (fun e => tne (by rw [hb, e]))) (by omega)
       have hKK : KeS H H4 A mb wb tb wb3 tb3 := ⟨by rw [i2]; exact hkk.next, by rw [i3]; exact hkk.lim, fun b h1 h2 h3 h4 h5 => by rw [i4 b h3]; exact hkk.old b h1 h2 h3 h4 h5, hkk.w, hkk.t⟩
       have cA4 := cells_get hP4.cell
       have hwl4 : ∀ H, len 1 (svOf wb3 (a.words ++ ws).length 1) H = some (.int .i64 (a.words ++ ws).length) := fun H => len_sv _ _ _ _ (row_none hS3.wr)
       by_cases hgt : 65536 < a.words.length + ws.length
       · rw [if_pos hgt]
         have hgt' : (65536 < ((a.words ++ ws).length : Int)) = True := eq_true (by rw [List.length_append]; omega)
         refine ⟨H4, ?_, hKK.next, hKK.lim, hKK.old⟩
         rw [q17]
         simp -implicitDefEqProofs only [s17, ↓GVdn, GVup, goInt, splice, okC, Fr.of, Fr.ofI, Fr.g, Nat.reduceAdd, Nat.reduceMul, Nat.reduceEqDiff, Nat.reduceLT, Nat.reduceLeDiff, Nat.reduceBEq, Int.reduceLT, Int.reduceLE, Int.reduceToNat, Int.reduceAdd, Int.reduceSub, Int.reduceMul, Int.reduceEq, Int.reduceNeg, ↓reduceIte, ↓reduceDIte, Nat.beq, reduceCtorEq, Value.int.injEq, Nat.reduceSub, l1, h30', cA1, hwl, l2, g1, i1, cA4, hwl4, hgt']
       · rw [if_neg hgt]
         have hgt' : (65536 < ((a.words ++ ws).length : Int)) = False := eq_false (by rw [List.length_append]; omega)
         refine ⟨H4, wb3, tb3, ?_, hS4, hKK⟩
         rw [q17]
         simp -implicitDefEqProofs only [s17, ↓GVdn, GVup, goInt, splice, okC, Fr.of, Fr.ofI, Fr.g, Nat.reduceAdd, Nat.reduceMul, Nat.reduceEqDiff, Nat.reduceLT, Nat.reduceLeDiff, Nat.reduceBEq, Int.reduceLT, Int.reduceLE, Int.reduceToNat, Int.reduceAdd, Int.reduceSub, Int.reduceMul, Int.reduceEq, Int.reduceNeg, ↓reduceIte, ↓reduceDIte, Nat.beq, reduceCtorEq, Value.int.injEq, Nat.reduceSub, l1, h30', cA1, hwl, l2, g1, i1, cA4, hwl4, hgt']
end Go.Proofs.YtbaooebafijenaaGreatDoor
