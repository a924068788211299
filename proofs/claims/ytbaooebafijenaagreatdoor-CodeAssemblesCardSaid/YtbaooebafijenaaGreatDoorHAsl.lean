/- Every text is assembled to the document's words, or refused with its fault: the law answers true. -/
import Derived.Test.YtbaooebafijenaaGreatDoorHAsm2
import Derived.Test.YtbaooebafijenaaGreatDoorHvBun
import Derived.Test.YtbaooebafijenaaGreatDoorHAd3
namespace Go.Proofs.YtbaooebafijenaaGreatDoor
open Go Go.Ev
set_option maxRecDepth 100000
set_option linter.unusedSimpArgs false
set_option linter.unusedVariables false
set_option maxHeartbeats 4000000
set_option linter.unusedSectionVars false
variable [Mx]
attribute [local congr] bind_front callK_front jn_front ifB_front ifG_front lp_front
theorem q7 (n : Nat) (x : Value) (H : Hp) : evCall cfc (n+1) 7 [x] H = s7 (evCall cfc n) n x H := by
 rw [evCall_open (fn := Tryz.f7) (by rfl) (by rfl) Tryz.func7 (by rfl)]
 exact s7_eq _ _ _ _
theorem bin_nil_ifn : bin 5 .eql .nilIface .nilIface = some (.bool true) := rfl
theorem bin_nil_ifs (t : TypeId) (v : Value) : bin 5 .eql (.iface t v) .nilIface = some (.bool false) := rfl
theorem bin_pn (b o : Nat) : bin 3 .eql (ptr b o) (.pointer none) = some (.bool false) := rfl
def Z2 : List Value := [.int .i64 0, .int .i64 0]
def keepH (H H' : Hp) : Prop := H.next ≤ H'.next ∧ H'.lim = H.lim ∧ ∀ b, b < H.next → H'.get b = H.get b
theorem v7_nil (n : Nat) (H : Hp) (hl : H.lim ≤ H.next) : ∃ H', evCall cfc (n+2) 7 [.nilIface] H = some (.ret (.tuple #[.agg #[.int .i64 0, .int .i64 0], .bool true]), H') ∧ keepH H H' := by
 have f1 : st 2 (ptr H.next 0) (.agg #[.int .i64 0, .int .i64 0]) (H.new (.rw Z2)) = some ((H.new (.rw Z2)).set H.next (.rw Z2)) :=
   st_rwc (cs := Z2) (o := 0) (n := 2) (vs := Z2) (by rw [rwc_new, if_pos rfl]) hl rfl rfl (by decide) rfl
 have c1 : ((H.new (.rw Z2)).set H.next (.rw Z2)).cells H.next = some Z2 := by rw [cells_set, if_pos rfl]
 refine ⟨(H.new (.rw Z2)).set H.next (.rw Z2), ?_, by simp, rfl, fun b hb => by rw [Hp.get_set, if_neg (by omega), Hp.get_new, if_neg (by omega)]⟩
 rw [q7]
 simp only [Z2] at f1 c1 ⊢
 simp -implicitDefEqProofs only [s7, bin_nil_ifn, ↓GVdn, GVup, goInt, splice, okC, Fr.of, Fr.ofI, Fr.g, Nat.reduceAdd, Nat.reduceMul, Nat.reduceEqDiff, Nat.reduceLT, Nat.reduceLeDiff, Nat.reduceBEq, Int.reduceLT, Int.reduceLE, Int.reduceToNat, Int.reduceAdd, Int.reduceSub, Int.reduceMul, Int.reduceEq, Int.reduceNeg, ↓reduceIte, ↓reduceDIte, Nat.beq, reduceCtorEq, Value.int.injEq, Nat.reduceSub, opn_lim, f1, c1]
theorem v7_err (n : Nat) (H : Hp) (p : Nat) (l e : Int) (he : e ≠ 0) (hp : H.rwc p = some [.int .i64 l, .iface 27 (.int .i64 e)]) (hpn : p < H.next) (hl : H.lim ≤ H.next) :
   ∃ H', evCall cfc (n+2) 7 [.iface 39 (ptr p 0)] H = some (.ret (.tuple #[.agg #[.int .i64 l, .int .i64 e], .bool true]), H') ∧ keepH H H' := by
 generalize h6 : ((H.new (.rw Z2)).new (.rw [.pointer none])).new (.rw [.int .i64 0]) = H6
 have n6 : H6.next = H.next + 3 := by subst h6; rfl
 have l6 : H6.lim = H.lim := by subst h6; rfl
 have r6 : ∀ b, H6.rwc b = if b = H.next + 1 + 1 then some [.int .i64 0] else if b = H.next + 1 then some [.pointer none] else if b = H.next then some Z2 else H.rwc b := fun b => by
   subst h6; rw [rwc_new, rwc_new, rwc_new]; rfl
 have g6 : ∀ b, b < H.next → H6.get b = H.get b := fun b hb => by subst h6; rw [Hp.get_new, if_neg (by simp; omega), Hp.get_new, if_neg (by simp; omega), Hp.get_new, if_neg (by omega)]
 have f7 : st 1 (ptr (H.next + 1) 0) (ptr p 0) H6 = some (H6.set (H.next + 1) (.rw [ptr p 0])) :=
   st_rwc (cs := [.pointer none]) (o := 0) (n := 1) (vs := [ptr p 0]) (by rw [r6, if_neg (by omega), if_pos rfl]) (by rw [l6]; omega) rfl rfl (by decide) rfl
 have e7 : evCall cfc (n+1) 19 [.iface 39 (ptr p 0), .iface 69 (ptr (H.next + 1) 0)] H6 = some (.ret (.bool true), H6.set (H.next + 1) (.rw [ptr p 0])) :=
   evCall_exh (by rfl) (show exhA [.iface 39 (ptr p 0), .iface 69 (ptr (H.next + 1) 0)] H6 = _ from congrArg (Option.map fun H' => (Out.ret (.bool true), H')) f7) n
 generalize h7 : H6.set (H.next + 1) (.rw [ptr p 0]) = H7 at e7
 have r7 : ∀ b, H7.rwc b = if b = H.next + 1 then some [ptr p 0] else H6.rwc b := fun b => by subst h7; rw [rwc_set]
 have n7 : H7.next = H.next + 3 := by subst h7; exact n6
 have l7 : H7.lim = H.lim := by subst h7; exact l6
 have g7 : ∀ b, b < H.next → H7.get b = H.get b := fun b hb => by subst h7; rw [Hp.get_set, if_neg (by omega), g6 b hb]
 have c7 : H7.cells (H.next + 1) = some [ptr p 0] := cells_rwc (by rw [r7, if_pos rfl])
 have f8 : st 1 (ptr (H.next + 1 + 1) 0) (.int .i64 e) H7 = some (H7.set (H.next + 1 + 1) (.rw [.int .i64 e])) :=
   st_rwc (cs := [.int .i64 0]) (o := 0) (n := 1) (vs := [.int .i64 e]) (by rw [r7, if_neg (by omega), r6, if_pos rfl]) (by rw [l7]; omega) rfl rfl (by decide) rfl
 have p7 : H7.rwc p = some [.int .i64 l, .iface 27 (.int .i64 e)] := by rw [r7, if_neg (by omega), r6, if_neg (by omega), if_neg (by omega), if_neg (by omega)]; exact hp
 have e8 : evCall cfc (n+1) 19 [.iface 39 (ptr p 0), .iface 70 (ptr (H.next + 1 + 1) 0)] H7 = some (.ret (.bool true), H7.set (H.next + 1 + 1) (.rw [.int .i64 e])) := by
   have hld : ld (ptr p (0 + 1)) H7 = some (.iface 27 (.int .i64 e)) := by
     simp only [ld, ptr, cells_rwc p7]; rfl
   refine evCall_exh (by rfl) (show exhA [.iface 39 (ptr p 0), .iface 70 (ptr (H.next + 1 + 1) 0)] H7 = _ from ?_) n
   simp only [exhA, ptr]
   rw [show ld (.pointer (some ⟨p, 0 + 1, none⟩)) H7 = some (.iface 27 (.int .i64 e)) from hld]
   exact congrArg (Option.map fun H' => (Out.ret (.bool true), H')) f8
 generalize h8 : H7.set (H.next + 1 + 1) (.rw [.int .i64 e]) = H8 at e8
 have r8 : ∀ b, H8.rwc b = if b = H.next + 1 + 1 then some [.int .i64 e] else H7.rwc b := fun b => by subst h8; rw [rwc_set]
 have l8 : H8.lim = H.lim := by subst h8; exact l7
 have g8 : ∀ b, b < H.next → H8.get b = H.get b := fun b hb => by subst h8; rw [Hp.get_set, if_neg (by omega), g7 b hb]
 have c8 : H8.cells (H.next + 1 + 1) = some [.int .i64 e] := cells_rwc (by rw [r8, if_pos rfl])
 have d8 : H8.cells (H.next + 1) = some [ptr p 0] := cells_rwc (by rw [r8, if_neg (by omega), r7, if_pos rfl])
 have p8 : H8.cells p = some [.int .i64 l, .iface 27 (.int .i64 e)] := cells_rwc (by rw [r8, if_neg (by omega)]; exact p7)
 have f9 : st 2 (ptr H.next 0) (.agg #[.int .i64 l, .int .i64 e]) H8 = some (H8.set H.next (.rw [.int .i64 l, .int .i64 e])) :=
   st_rwc (cs := Z2) (o := 0) (n := 2) (vs := [.int .i64 l, .int .i64 e]) (by rw [r8, if_neg (by omega), r7, if_neg (by omega), r6, if_neg (by omega), if_neg (by omega), if_pos rfl]) (by rw [l8]; exact hl) rfl rfl (by decide) rfl
 have c9 : (H8.set H.next (.rw [.int .i64 l, .int .i64 e])).cells H.next = some [.int .i64 l, .int .i64 e] := by rw [cells_set, if_pos rfl]
 refine ⟨H8.set H.next (.rw [.int .i64 l, .int .i64 e]), ?_, ?_, l8, fun b hb => by rw [Hp.get_set, if_neg (by omega), g8 b hb]⟩
 · rw [q7]
   simp only [Z2] at h6
   have x7 := e7
   have x8 := e8
   have hd : (H.next = H.next + 1 + 1) = False := eq_false (by omega)
   have hne : (e = 0) = False := eq_false he
   simp -implicitDefEqProofs only [s7, bin_nil_ifs, bin_pn, ↓GVdn, GVup, goInt, splice, okC, Fr.of, Fr.ofI, Fr.g, Nat.reduceAdd, Nat.reduceMul, Nat.reduceEqDiff, Nat.reduceLT, Nat.reduceLeDiff, Nat.reduceBEq, Int.reduceLT, Int.reduceLE, Int.reduceToNat, Int.reduceAdd, Int.reduceSub, Int.reduceMul, Int.reduceEq, Int.reduceNeg, ↓reduceIte, ↓reduceDIte, Nat.beq, reduceCtorEq, Value.int.injEq, Nat.reduceSub, opn_lim, h6, x7, x8, c7, c8, d8, p8, f9, c9, hne, hd]
 · subst h8; show H.next ≤ H7.next; omega
end Go.Proofs.YtbaooebafijenaaGreatDoor
namespace Go.Proofs.YtbaooebafijenaaGreatDoor
open Go Go.Ev
set_option maxRecDepth 100000
set_option linter.unusedSimpArgs false
set_option linter.unusedVariables false
set_option maxHeartbeats 4000000
set_option linter.unusedSectionVars false
variable [Mx]
attribute [local congr] bind_front callK_front jn_front ifB_front ifG_front lp_front
theorem same_loop (C : Cl) (n : Nat) (ws : List Int) (hl : ws.length ≤ 4294967296) (kx : Nat → Fr → Hp → Option (Out × Hp)) (kr : Fr → Hp → Option (Out × Hp)) (H : Hp) (c10 : H.cells 11 = some (wvs ws)) (c11 : H.cells 12 = some (wvs ws)) : ∀ (r k m : Nat), k + r = ws.length → r < m →
   lp (s8_b1 C n) m [.slice (some ⟨11, 0, none⟩) ws.length 1, .slice (some ⟨12, 0, none⟩) ws.length 1, .int .i64 k] H kx kr = kx 0 (Fr.of [4] [dead]) H := by
 intro r
 induction r with
 | zero =>
   intro k m hk hm
   obtain ⟨m, rfl⟩ : ∃ q, m = q + 1 := ⟨m - 1, by omega⟩
   have hlt : ((k : Int) < (ws.length : Int)) = False := eq_false (by omega)
   rw [lp_succ]
   simp -implicitDefEqProofs only [s8_b1, ↓GVdn, GVup, goInt, splice, okC, Fr.of, Fr.ofI, Fr.g, Nat.reduceAdd, Nat.reduceMul, Nat.reduceEqDiff, Nat.reduceLT, Nat.reduceLeDiff, Nat.reduceBEq, Int.reduceLT, Int.reduceLE, Int.reduceToNat, Int.reduceAdd, Int.reduceSub, Int.reduceMul, Int.reduceEq, Int.reduceNeg, ↓reduceIte, ↓reduceDIte, Nat.beq, reduceCtorEq, Value.int.injEq, Nat.reduceSub, sto_ptr, hlt]
 | succ r ih =>
   intro k m hk hm
   obtain ⟨m, rfl⟩ : ∃ q, m = q + 1 := ⟨m - 1, by omega⟩
   have hlt : ((k : Int) < (ws.length : Int)) = True := eq_true (by omega)
   have hi0 : ((0 : Int) ≤ (k : Int)) = True := eq_true (by omega)
   have hkl : k < ws.length := by omega
   have hg : (wvs ws)[k]? = some (.int .u32 ws[k]) := by unfold wvs; simp [hkl]
   have hw1 : IntKind.wrap .i64 ((k : Int) + 1) = ((k + 1 : Nat) : Int) := by rw [IntWalk.i64_in _ (by omega)]; rfl
   have ih := ih (k + 1) m (by omega) (by omega)
   rw [lp_succ]
   simp -implicitDefEqProofs only [s8_b1, ↓GVdn, GVup, goInt, splice, okC, Fr.of, Fr.ofI, Fr.g, Nat.reduceAdd, Nat.reduceMul, Nat.reduceEqDiff, Nat.reduceLT, Nat.reduceLeDiff, Nat.reduceBEq, Int.reduceLT, Int.reduceLE, Int.reduceToNat, Int.reduceAdd, Int.reduceSub, Int.reduceMul, Int.reduceEq, Int.reduceNeg, ↓reduceIte, ↓reduceDIte, Nat.beq, reduceCtorEq, Value.int.injEq, Nat.reduceSub, sto_ptr, opn_lim, hlt, hi0, c10, c11, hg, hw1, ih]
theorem v17_nil (n : Nat) (H : Hp) : evCall cfc (n+2) 8 [.slice none 0 0, .slice none 0 0] H = some (.ret (.bool true), H) := by
 rw [evCall_quiet (fn := Tryz.f8) (by rfl) (by rfl) Tryz.func8 (by rfl) (by rfl)]
 refine (congrArg (movR [] H) (s8_eq _ _ _ _ _)).trans ?_
 simp -implicitDefEqProofs only [s8, s8_b1, ↓GVdn, GVup, goInt, splice, okC, Fr.of, Fr.ofI, Fr.g, Nat.reduceAdd, Nat.reduceMul, Nat.reduceEqDiff, Nat.reduceLT, Nat.reduceLeDiff, Nat.reduceBEq, Int.reduceLT, Int.reduceLE, Int.reduceToNat, Int.reduceAdd, Int.reduceSub, Int.reduceMul, Int.reduceEq, Int.reduceNeg, ↓reduceIte, ↓reduceDIte, Nat.beq, reduceCtorEq, Value.int.injEq, Nat.reduceSub, sto_ptr, lp_succ, opn_lim, flat_bool]
theorem pk_two (x y : Nat × Nat × List Value) : (Hp.pk [x, y]).get 11 = some (.ro x.2.2) ∧ (Hp.pk [x, y]).get 12 = some (.ro y.2.2) := by
 have e : Hp.pk [x, y] = Hp.cl ((Hp.fl.new (.ro x.2.2)).new (.ro y.2.2)) := rfl
 have e1 : (Hp.fl).next = 11 := rfl
 have e2 : (Hp.fl.new (.ro x.2.2)).next = 12 := rfl
 rw [e, cl_opn]
 constructor
 · rw [get_opn, Hp.get_new, if_neg (by rw [e2]; decide), Hp.get_new, if_pos e1.symm]
 · rw [get_opn, Hp.get_new, if_pos e2.symm]
theorem cells_ro {H : Hp} {b : Nat} {cs : List Value} (h : H.get b = some (.ro cs)) : H.cells b = some cs := by unfold Hp.cells; rw [h]
theorem v8 (n : Nat) (H : Hp) (ws : List Int) {b c : Nat} (hb : H.cells b = some (wvs ws)) (hc : H.cells c = some (wvs ws)) (hn : ws.length < n) (hl : ws.length ≤ 4294967296) : evCall cfc (n+1) 8 [.slice (some ⟨b, 0, none⟩) ws.length 1, .slice (some ⟨c, 0, none⟩) ws.length 1] H = some (.ret (.bool true), H) := by
 have hf : ∀ d, flat (.slice (some ⟨d, 0, none⟩) ws.length 1) = false := fun d => rfl
 have htk : ((wvs ws).drop 0).take ws.length = wvs ws := by rw [List.drop_zero, List.take_of_length_le (by rw [wvs_len]; omega)]
 have hp : pkA H [.slice (some ⟨b, 0, none⟩) ws.length 1, .slice (some ⟨c, 0, none⟩) ws.length 1] [] = some ([.slice (some ⟨11, 0, none⟩) ws.length 1, .slice (some ⟨12, 0, none⟩) ws.length 1], [(b, 0, wvs ws), (c, 0, wvs ws)]) := by
   simp only [pkA, pkV, hf, hb, hc, Option.bind_some, Nat.mul_one, htk, Bool.false_eq_true, if_false]
   rw [if_pos ⟨by rw [wvs_len]; omega, wvs_flat ws⟩]
   simp only [Option.bind_some]
   rw [if_pos ⟨by rw [wvs_len]; omega, wvs_flat ws⟩]
   rfl
 rw [evCall_pk (fn := Tryz.f8) (by rfl) (by rfl) Tryz.func8 (by rfl) hp]
 refine (congrArg (movR _ H) (s8_eq _ _ _ _ _)).trans ?_
 generalize hH0 : Hp.pk [(b, 0, wvs ws), (c, 0, wvs ws)] = H0
 have c10 : H0.cells 11 = some (wvs ws) := by subst hH0; exact cells_ro (pk_two _ _).1
 have c11 : H0.cells 12 = some (wvs ws) := by subst hH0; exact cells_ro (pk_two _ _).2
 have hlp := fun kx kr => same_loop (evCall cfc n) n ws hl kx kr H0 c10 c11 ws.length 0 n (by omega) hn
 have hlp' : ∀ kx kr, lp (s8_b1 (evCall cfc n) n) n [.slice (some ⟨11, 0, none⟩) ws.length 1, .slice (some ⟨12, 0, none⟩) ws.length 1, .int .i64 0] H0 kx kr = _ := hlp
 have hs : s8 (evCall cfc n) n (.slice (some ⟨11, 0, none⟩) ws.length 1) (.slice (some ⟨12, 0, none⟩) ws.length 1) H0 = some (.ret (.bool true), H0) := by
   simp -implicitDefEqProofs only [s8, ↓GVdn, GVup, goInt, splice, okC, Fr.of, Fr.ofI, Fr.g, Nat.reduceAdd, Nat.reduceMul, Nat.reduceEqDiff, Nat.reduceLT, Nat.reduceLeDiff, Nat.reduceBEq, Int.reduceLT, Int.reduceLE, Int.reduceToNat, Int.reduceAdd, Int.reduceSub, Int.reduceMul, Int.reduceEq, Int.reduceNeg, ↓reduceIte, ↓reduceDIte, Nat.beq, reduceCtorEq, Value.int.injEq, Nat.reduceSub, sto_ptr, opn_lim, hlp']
 rw [hs]
 exact movR_flat rfl
end Go.Proofs.YtbaooebafijenaaGreatDoor
namespace Go.Proofs.YtbaooebafijenaaGreatDoor
open Go Go.Ev
set_option maxRecDepth 100000
set_option linter.unusedSimpArgs false
set_option linter.unusedVariables false
set_option maxHeartbeats 4000000
set_option linter.unusedSectionVars false
variable [Mx]
attribute [local congr] bind_front callK_front jn_front ifB_front ifG_front lp_front
theorem s3_ok (hnm : (Mx.nm : Option Blk) = some (.ro namesC)) (n : Nat) (text : Bs) : ∃ H', s3 (evCall cfc (n+800000)) (n+800000) (.string (bs text)) Hp.fl = some (.ret (.bool true), H') := by
 have sz : (bs text).size = text.length := by rw [Lib.size_eq, bs_list]
 generalize hH0 : Hp.fl = H0
 have n0 : H0.next = 11 := by subst hH0; rfl
 have l0 : H0.lim = 11 := by subst hH0; rfl
 by_cases hmid : 262144 < text.length ∧ text.length ≤ 1048576
 · have a1 : (262144 < (text.length : Int)) = True := eq_true (by omega)
   have a2 : ((text.length : Int) ≤ 1048576) = True := eq_true (by omega)
   exact ⟨_, by simp -implicitDefEqProofs only [s3, ↓GVdn, GVup, goInt, splice, okC, Fr.of, Fr.ofI, Fr.g, Nat.reduceAdd, Nat.reduceMul, Nat.reduceEqDiff, Nat.reduceLT, Nat.reduceLeDiff, Nat.reduceBEq, Int.reduceLT, Int.reduceLE, Int.reduceToNat, Int.reduceAdd, Int.reduceSub, Int.reduceMul, Int.reduceEq, Int.reduceNeg, ↓reduceIte, ↓reduceDIte, Nat.beq, reduceCtorEq, Value.int.injEq, Nat.reduceSub, sz, a1, a2]; rfl⟩
 have e1 : ∀ H, evCall cfc (n+800000) 5 [.string (bs text)] H = asmR (asmV (bs text)) H := fun H =>
   v5 (n+799915) (bs text) H (fun h => by have := count_le (bs text); rw [sz] at this h ⊢; omega) (by omega)
 have e2 : ∀ H, evCall cfc (n+800000) 6 [.string (bs text)] H = asmD (asmV (bs text)) H := fun H => v6 hnm (n+799867) text (by omega) (by omega) H
 have front : ((262144 < (text.length : Int)) = False) ∨ ((262144 < (text.length : Int)) = True ∧ ((text.length : Int) ≤ 1048576) = False) := by
   by_cases h : 262144 < text.length
   · exact .inr ⟨eq_true (by omega), eq_false (by omega)⟩
   · exact .inl (eq_false (by omega))
 cases ha : asmV (bs text) with
 | error q =>
   obtain ⟨p, e⟩ := q
   have he : e ≠ 0 := by
     by_cases h : text.length ≤ 1048576
     · exact (asmV_err text h p e ha).2.2
     · have : asmV (bs text) = .error (0, 9) := by unfold asmV; rw [if_pos (by rw [sz]; omega)]
       rw [this] at ha
       cases ha
       decide
   rw [ha] at e1 e2
   simp only [asmR, asmD] at e1 e2
   generalize hH1 : H0.new (.rw [.int .i64 p, .iface 27 (.int .i64 e)]) = H1 at *
   have n1 : H1.next = 12 := by subst hH1; show H0.next + 1 = 12; omega
   have lm1 : H1.lim = 11 := by subst hH1; exact l0
   have c1 : H1.rwc 11 = some [.int .i64 p, .iface 27 (.int .i64 e)] := by subst hH1; rw [rwc_new, if_pos n0.symm]
   have s1 : Go.Ev.st 2 (ptr H1.next 0) (.agg #[.int .i64 p, .int .i64 e]) (H1.new (.rw [.int .i64 0, .int .i64 0])) = some ((H1.new (.rw [.int .i64 0, .int .i64 0])).set H1.next (.rw [.int .i64 p, .int .i64 e])) :=
     st_rwc (cs := [.int .i64 0, .int .i64 0]) (o := 0) (n := 2) (vs := [.int .i64 p, .int .i64 e]) (by rw [rwc_new, if_pos rfl]) (by show H1.lim ≤ H1.next; omega) rfl rfl (by simp) rfl
   generalize hH2 : (H1.new (.rw [.int .i64 0, .int .i64 0])).set H1.next (.rw [.int .i64 p, .int .i64 e]) = H2 at s1
   have n2 : H2.next = 13 := by subst hH2; show H1.next + 1 = 13; omega
   have lm2 : H2.lim = 11 := by subst hH2; exact lm1
   have c2 : H2.rwc 11 = some [.int .i64 p, .iface 27 (.int .i64 e)] := by subst hH2; rw [rwc_set, if_neg (by omega), rwc_new, if_neg (by omega)]; exact c1
   have d2 : H2.get 12 = some (.rw [.int .i64 p, .int .i64 e]) := by subst hH2; rw [Hp.get_set, if_pos n1.symm]
   obtain ⟨H3, f3, k31, k32, k33⟩ := v7_err (n+799998) H2 11 p e he c2 (by omega) (by omega)
   have s2 : Go.Ev.st 2 (ptr H3.next 0) (.agg #[.int .i64 p, .int .i64 e]) (H3.new (.rw [.int .i64 0, .int .i64 0])) = some ((H3.new (.rw [.int .i64 0, .int .i64 0])).set H3.next (.rw [.int .i64 p, .int .i64 e])) :=
     st_rwc (cs := [.int .i64 0, .int .i64 0]) (o := 0) (n := 2) (vs := [.int .i64 p, .int .i64 e]) (by rw [rwc_new, if_pos rfl]) (by show H3.lim ≤ H3.next; omega) rfl rfl (by simp) rfl
   generalize hH4 : (H3.new (.rw [.int .i64 0, .int .i64 0])).set H3.next (.rw [.int .i64 p, .int .i64 e]) = H4 at s2
   have c4 : H4.cells H3.next = some [.int .i64 p, .int .i64 e] := by subst hH4; rw [cells_set, if_pos rfl]
   have c5 : H4.cells 12 = some [.int .i64 p, .int .i64 e] := cells_get (by subst hH4; rw [Hp.get_set, if_neg (by omega), Hp.get_new, if_neg (by omega), k33 12 (by omega)]; exact d2)
   have f3' : evCall cfc (n+800000) 7 [.iface 39 (ptr 11 0)] H2 = _ := f3
   have h8 : ∀ H, evCall cfc (n+800000) 8 [.slice none 0 0, .slice none 0 0] H = _ := fun H => v17_nil (n+799998) H
   rw [n1] at s1
   rcases front with a1 | ⟨a1, a2⟩
   · exact ⟨_, by simp -implicitDefEqProofs only [s3, ↓GVdn, GVup, goInt, splice, okC, Fr.of, Fr.ofI, Fr.g, Nat.reduceAdd, Nat.reduceMul, Nat.reduceEqDiff, Nat.reduceLT, Nat.reduceLeDiff, Nat.reduceBEq, Int.reduceLT, Int.reduceLE, Int.reduceToNat, Int.reduceAdd, Int.reduceSub, Int.reduceMul, Int.reduceEq, Int.reduceNeg, ↓reduceIte, ↓reduceDIte, Nat.beq, reduceCtorEq, Value.int.injEq, Nat.reduceSub, sz, a1, e1, e2, n0, n1, hH1, f3', s1, s2, c4, c5, h8]; rfl⟩
   · exact ⟨_, by simp -implicitDefEqProofs only [s3, ↓GVdn, GVup, goInt, splice, okC, Fr.of, Fr.ofI, Fr.g, Nat.reduceAdd, Nat.reduceMul, Nat.reduceEqDiff, Nat.reduceLT, Nat.reduceLeDiff, Nat.reduceBEq, Int.reduceLT, Int.reduceLE, Int.reduceToNat, Int.reduceAdd, Int.reduceSub, Int.reduceMul, Int.reduceEq, Int.reduceNeg, ↓reduceIte, ↓reduceDIte, Nat.beq, reduceCtorEq, Value.int.injEq, Nat.reduceSub, sz, a1, a2, e1, e2, n0, n1, hH1, f3', s1, s2, c4, c5, h8]; rfl⟩
 | ok ws =>
   have hlen : text.length ≤ 1048576 := by
     by_cases h : text.length ≤ 1048576
     · exact h
     · have : asmV (bs text) = .error (0, 9) := by unfold asmV; rw [if_pos (by rw [sz]; omega)]
       rw [this] at ha
       cases ha
   have hwl := asmV_words text hlen ws ha
   rw [ha] at e1 e2
   simp only [asmR, asmD] at e1 e2
   by_cases hw0 : ws = []
   · simp only [if_pos hw0] at e1 e2
     have s1 : Go.Ev.st 2 (ptr H0.next 0) (.agg #[.int .i64 0, .int .i64 0]) (H0.new (.rw [.int .i64 0, .int .i64 0])) = some ((H0.new (.rw [.int .i64 0, .int .i64 0])).set H0.next (.rw [.int .i64 0, .int .i64 0])) :=
       st_rwc (cs := [.int .i64 0, .int .i64 0]) (o := 0) (n := 2) (vs := [.int .i64 0, .int .i64 0]) (by rw [rwc_new, if_pos rfl]) (by show H0.lim ≤ H0.next; omega) rfl rfl (by simp) rfl
     generalize hH2 : (H0.new (.rw [.int .i64 0, .int .i64 0])).set H0.next (.rw [.int .i64 0, .int .i64 0]) = H2 at s1
     have n2 : H2.next = 12 := by subst hH2; show H0.next + 1 = 12; omega
     have lm2 : H2.lim = 11 := by subst hH2; exact l0
     have d2 : H2.get 11 = some (.rw [.int .i64 0, .int .i64 0]) := by subst hH2; rw [Hp.get_set, if_pos n0.symm]
     obtain ⟨H3, f3, k31, k32, k33⟩ := v7_nil (n+799998) H2 (by omega)
     have s2 : Go.Ev.st 2 (ptr H3.next 0) (.agg #[.int .i64 0, .int .i64 0]) (H3.new (.rw [.int .i64 0, .int .i64 0])) = some ((H3.new (.rw [.int .i64 0, .int .i64 0])).set H3.next (.rw [.int .i64 0, .int .i64 0])) :=
       st_rwc (cs := [.int .i64 0, .int .i64 0]) (o := 0) (n := 2) (vs := [.int .i64 0, .int .i64 0]) (by rw [rwc_new, if_pos rfl]) (by show H3.lim ≤ H3.next; omega) rfl rfl (by simp) rfl
     generalize hH4 : (H3.new (.rw [.int .i64 0, .int .i64 0])).set H3.next (.rw [.int .i64 0, .int .i64 0]) = H4 at s2
     have c4 : H4.cells H3.next = some [.int .i64 0, .int .i64 0] := by subst hH4; rw [cells_set, if_pos rfl]
     have c5 : H4.cells 11 = some [.int .i64 0, .int .i64 0] := cells_get (by subst hH4; rw [Hp.get_set, if_neg (by omega), Hp.get_new, if_neg (by omega), k33 11 (by omega)]; exact d2)
     have f3' : evCall cfc (n+800000) 7 [.nilIface] H2 = _ := f3
     have h8 : ∀ H, evCall cfc (n+800000) 8 [.slice none 0 0, .slice none 0 0] H = _ := fun H => v17_nil (n+799998) H
     rw [n0] at s1
     rcases front with a1 | ⟨a1, a2⟩
     · exact ⟨_, by simp -implicitDefEqProofs only [s3, ↓GVdn, GVup, goInt, splice, okC, Fr.of, Fr.ofI, Fr.g, Nat.reduceAdd, Nat.reduceMul, Nat.reduceEqDiff, Nat.reduceLT, Nat.reduceLeDiff, Nat.reduceBEq, Int.reduceLT, Int.reduceLE, Int.reduceToNat, Int.reduceAdd, Int.reduceSub, Int.reduceMul, Int.reduceEq, Int.reduceNeg, ↓reduceIte, ↓reduceDIte, Nat.beq, reduceCtorEq, Value.int.injEq, Nat.reduceSub, sz, a1, e1, e2, n0, f3', s1, s2, c4, c5, h8]; rfl⟩
     · exact ⟨_, by simp -implicitDefEqProofs only [s3, ↓GVdn, GVup, goInt, splice, okC, Fr.of, Fr.ofI, Fr.g, Nat.reduceAdd, Nat.reduceMul, Nat.reduceEqDiff, Nat.reduceLT, Nat.reduceLeDiff, Nat.reduceBEq, Int.reduceLT, Int.reduceLE, Int.reduceToNat, Int.reduceAdd, Int.reduceSub, Int.reduceMul, Int.reduceEq, Int.reduceNeg, ↓reduceIte, ↓reduceDIte, Nat.beq, reduceCtorEq, Value.int.injEq, Nat.reduceSub, sz, a1, a2, e1, e2, n0, f3', s1, s2, c4, c5, h8]; rfl⟩
   · simp only [if_neg hw0] at e1 e2
     generalize hH1 : (H0.new (.rw (wvs ws))).new (.rw (wvs ws)) = H1 at *
     have n1 : H1.next = 13 := by subst hH1; show H0.next + 1 + 1 = 13; omega
     have lm1 : H1.lim = 11 := by subst hH1; exact l0
     have c11 : H1.get 11 = some (.rw (wvs ws)) := by subst hH1; rw [Hp.get_new, if_neg (by show ¬ 11 = H0.next + 1; omega), Hp.get_new, if_pos n0.symm]
     have c12 : H1.get 12 = some (.rw (wvs ws)) := by subst hH1; rw [Hp.get_new, if_pos (by show 12 = H0.next + 1; omega)]
     have s1 : Go.Ev.st 2 (ptr H1.next 0) (.agg #[.int .i64 0, .int .i64 0]) (H1.new (.rw [.int .i64 0, .int .i64 0])) = some ((H1.new (.rw [.int .i64 0, .int .i64 0])).set H1.next (.rw [.int .i64 0, .int .i64 0])) :=
       st_rwc (cs := [.int .i64 0, .int .i64 0]) (o := 0) (n := 2) (vs := [.int .i64 0, .int .i64 0]) (by rw [rwc_new, if_pos rfl]) (by show H1.lim ≤ H1.next; omega) rfl rfl (by simp) rfl
     generalize hH2 : (H1.new (.rw [.int .i64 0, .int .i64 0])).set H1.next (.rw [.int .i64 0, .int .i64 0]) = H2 at s1
     have n2 : H2.next = 14 := by subst hH2; show H1.next + 1 = 14; omega
     have lm2 : H2.lim = 11 := by subst hH2; exact lm1
     have g2 : ∀ b, b < 13 → H2.get b = H1.get b := fun b hb => by subst hH2; rw [Hp.get_set, if_neg (by omega), Hp.get_new, if_neg (by omega)]
     have d2 : H2.get 13 = some (.rw [.int .i64 0, .int .i64 0]) := by subst hH2; rw [Hp.get_set, if_pos n1.symm]
     obtain ⟨H3, f3, k31, k32, k33⟩ := v7_nil (n+799998) H2 (by omega)
     have s2 : Go.Ev.st 2 (ptr H3.next 0) (.agg #[.int .i64 0, .int .i64 0]) (H3.new (.rw [.int .i64 0, .int .i64 0])) = some ((H3.new (.rw [.int .i64 0, .int .i64 0])).set H3.next (.rw [.int .i64 0, .int .i64 0])) :=
       st_rwc (cs := [.int .i64 0, .int .i64 0]) (o := 0) (n := 2) (vs := [.int .i64 0, .int .i64 0]) (by rw [rwc_new, if_pos rfl]) (by show H3.lim ≤ H3.next; omega) rfl rfl (by simp) rfl
     generalize hH4 : (H3.new (.rw [.int .i64 0, .int .i64 0])).set H3.next (.rw [.int .i64 0, .int .i64 0]) = H4 at s2
     have g4 : ∀ b, b < 14 → H4.get b = H2.get b := fun b hb => by subst hH4; rw [Hp.get_set, if_neg (by omega), Hp.get_new, if_neg (by omega), k33 b (by omega)]
     have c4 : H4.cells H3.next = some [.int .i64 0, .int .i64 0] := by subst hH4; rw [cells_set, if_pos rfl]
     have c5 : H4.cells 13 = some [.int .i64 0, .int .i64 0] := cells_get (by rw [g4 13 (by decide)]; exact d2)
     have f3' : evCall cfc (n+800000) 7 [.nilIface] H2 = _ := f3
     have h8 := v8 (n+799999) H4 ws (b := 11) (c := 12) (cells_get (by rw [g4 11 (by decide), g2 11 (by decide)]; exact c11)) (cells_get (by rw [g4 12 (by decide), g2 12 (by decide)]; exact c12)) (by omega) (by omega)
     have h8' : evCall cfc (n+800000) 8 [.slice (some ⟨11, 0, none⟩) ws.length 1, .slice (some ⟨12, 0, none⟩) ws.length 1] H4 = _ := h8
     have m1 : (H0.new (.rw (wvs ws))).next = 12 := by show H0.next + 1 = 12; omega
     rw [n1] at s1
     rcases front with a1 | ⟨a1, a2⟩
     · exact ⟨_, by simp -implicitDefEqProofs only [s3, ↓GVdn, GVup, goInt, splice, okC, Fr.of, Fr.ofI, Fr.g, Nat.reduceAdd, Nat.reduceMul, Nat.reduceEqDiff, Nat.reduceLT, Nat.reduceLeDiff, Nat.reduceBEq, Int.reduceLT, Int.reduceLE, Int.reduceToNat, Int.reduceAdd, Int.reduceSub, Int.reduceMul, Int.reduceEq, Int.reduceNeg, ↓reduceIte, ↓reduceDIte, Nat.beq, reduceCtorEq, Value.int.injEq, Nat.reduceSub, sz, a1, e1, e2, n0, m1, n1, hH1, f3', s1, s2, c4, c5, h8']; rfl⟩
     · exact ⟨_, by simp -implicitDefEqProofs only [s3, ↓GVdn, GVup, goInt, splice, okC, Fr.of, Fr.ofI, Fr.g, Nat.reduceAdd, Nat.reduceMul, Nat.reduceEqDiff, Nat.reduceLT, Nat.reduceLeDiff, Nat.reduceBEq, Int.reduceLT, Int.reduceLE, Int.reduceToNat, Int.reduceAdd, Int.reduceSub, Int.reduceMul, Int.reduceEq, Int.reduceNeg, ↓reduceIte, ↓reduceDIte, Nat.beq, reduceCtorEq, Value.int.injEq, Nat.reduceSub, sz, a1, a2, e1, e2, n0, m1, n1, hH1, f3', s1, s2, c4, c5, h8']; rfl⟩
theorem v3 (hnm : (Mx.nm : Option Blk) = some (.ro namesC)) (n : Nat) (H : Hp) (s : ByteArray) : evCall cfc (n+800001) 3 [.string s] H = some (.ret (.bool true), H) := by
 rw [evCall_quiet (fn := Tryz.f3) (by rfl) (by rfl) Tryz.func3 (by rfl) (by rfl)]
 obtain ⟨H', h⟩ := s3_ok hnm n s.data.toList
 rw [list_bs] at h
 refine (congrArg (movR [] H) ((s3_eq _ _ _ _).trans h)).trans (movR_flat rfl)
end Go.Proofs.YtbaooebafijenaaGreatDoor
