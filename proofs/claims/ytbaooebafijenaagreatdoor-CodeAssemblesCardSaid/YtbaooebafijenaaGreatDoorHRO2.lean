/- The document's operands, whole. -/
import Derived.Test.YtbaooebafijenaaGreatDoorHRN2
import Derived.Test.YtbaooebafijenaaGreatDoorHCodeC
import Derived.Test.YtbaooebafijenaaGreatDoorHIns
import Derived.Test.YtbaooebafijenaaGreatDoorHvBun
namespace Go.Proofs.YtbaooebafijenaaGreatDoor
open Go Go.Ev
set_option maxRecDepth 100000
set_option linter.unusedSimpArgs false
set_option linter.unusedVariables false
set_option maxHeartbeats 4000000
set_option linter.unusedSectionVars false
variable [Mx]
attribute [local congr] bind_front callK_front jn_front ifB_front ifG_front lp_front
noncomputable def a34 (C : Cl) (n : Nat) (vs7 : List Value) (H8 : Hp) (K : List Value → Hp → Option (Out × Hp)) : Option (Out × Hp) :=
 (sx (vs7.getD 4 dead) (vs7.getD 7 dead)).bind fun t31 =>
 jn ((bin 0 .eql (vs7.getD 3 dead) (.int .i64 5)).bind fun t33 =>
 (ifG t33 false (some ((vs7.getD 3 dead), H8)) (some (undef, H8))).bind fun p14 =>
 (ifG t33 false ((bin 0 .eql p14.1 (.int .i64 6)).bind fun t36 =>
 some (t36, p14.2)) (some (undef, p14.2))).bind fun p15 =>
 (pick t33 (.bool true) p15.1).bind fun t37 =>
 ifB t37 ((fillL (plA 1) [(.string ⟨#[]⟩), (.string ⟨#[]⟩), (.string ⟨#[]⟩)] [(0, (.string ⟨#[]⟩)), (1, (.string ⟨#[44]⟩)), (2, (.string ⟨#[40]⟩))]).bind fun c16 =>
 (ix false 3 1 (.agg c16.toArray) (vs7.getD 7 dead)).bind fun t40 =>
 (sx (vs7.getD 4 dead) (.int .i64 0)).bind fun t42 =>
 (fillL (plA 1) [(.int .u8 0), (.int .u8 0), (.int .u8 0)] [(0, t42), (1, (.int .u8 105)), (2, (.int .u8 114))]).bind fun c17 =>
 (ix false 3 1 (.agg c17.toArray) (vs7.getD 7 dead)).bind fun t45 =>
 some (.nrm [(vs7.getD 0 dead), (vs7.getD 1 dead), (vs7.getD 2 dead), (vs7.getD 3 dead), (vs7.getD 4 dead), (vs7.getD 5 dead), (vs7.getD 6 dead), (vs7.getD 7 dead), t40, t45] p15.2)) (some (.nrm [(vs7.getD 0 dead), (vs7.getD 1 dead), (vs7.getD 2 dead), (vs7.getD 3 dead), (vs7.getD 4 dead), (vs7.getD 5 dead), (vs7.getD 6 dead), (vs7.getD 7 dead), (.string ⟨#[44]⟩), t31] p15.2))) pnK noX noR K
noncomputable def b34 (C : Cl) (n : Nat) (vs12 : List Value) (H13 : Hp) (kr11 : Fr → Hp → Option (Out × Hp)) (K : List Value → Hp → Option (Out × Hp)) : Option (Out × Hp) :=
 jn ((bin 0 .gtr (vs12.getD 7 dead) (.int .i64 0)).bind fun t47 =>
 ifB t47 ((len 1 (vs12.getD 0 dead) H13).bind fun t50 =>
 (bin 0 .geq (vs12.getD 6 dead) t50).bind fun t51 =>
 (ifG t51 false (some ((vs12.getD 0 dead), H13)) (some (undef, H13))).bind fun p20 =>
 (ifG t51 false (some ((vs12.getD 6 dead), p20.2)) (some (undef, p20.2))).bind fun p21 =>
 (ifG t51 false ((sa 2 p20.1 p21.1).bind fun t55 =>
 some (t55, p21.2)) (some (undef, p21.2))).bind fun p22 =>
 (ifG t51 false ((fa 0 p22.1).bind fun t56 =>
 some (t56, p22.2)) (some (undef, p22.2))).bind fun p23 =>
 (ifG t51 false ((ld p23.1 p23.2).bind fun t57 =>
 some (t57, p23.2)) (some (undef, p23.2))).bind fun p24 =>
 (ifG t51 false (some ((vs12.getD 8 dead), p24.2)) (some (undef, p24.2))).bind fun p25 =>
 (ifG t51 false ((bin 0 .neq p24.1 p25.1).bind fun t59 =>
 some (t59, p25.2)) (some (undef, p25.2))).bind fun p26 =>
 (pick t51 (.bool true) p26.1).bind fun t60 =>
 ifB t60 ((ldN 5 (vs12.getD 2 dead) p26.2).bind fun t61 =>
 (st 5 (vs12.getD 1 dead) t61 p26.2).bind fun H27 =>
 some (.rt (Fr.of [4, 5, 6] [(vs12.getD 1 dead), (.string ⟨#[]⟩), (.bool false)]) H27)) ((bin 0 .add (vs12.getD 6 dead) (.int .i64 1)).bind fun t63 =>
 some (.nrm [(vs12.getD 0 dead), (vs12.getD 1 dead), (vs12.getD 2 dead), (vs12.getD 3 dead), (vs12.getD 4 dead), (vs12.getD 5 dead), t63, (vs12.getD 7 dead), (vs12.getD 9 dead)] p26.2))) (some (.nrm [(vs12.getD 0 dead), (vs12.getD 1 dead), (vs12.getD 2 dead), (vs12.getD 3 dead), (vs12.getD 4 dead), (vs12.getD 5 dead), (vs12.getD 6 dead), (vs12.getD 7 dead), (vs12.getD 9 dead)] H13))) pnK noX (fun f63 H64 => kr11 (Fr.of [1, 4, 5, 6, 7, 8, 10, 11] [(f63.g 1), (f63.g 4), (f63.g 5), (f63.g 6), (f63.g 7), (f63.g 8), (f63.g 10), (f63.g 11)]) H64) K
noncomputable def c34 (C : Cl) (n : Nat) (vs18 : List Value) (H19 : Hp) (kr11 : Fr → Hp → Option (Out × Hp)) (K : List Value → Hp → Option (Out × Hp)) : Option (Out × Hp) :=
 (len 1 (vs18.getD 0 dead) H19).bind fun t66 =>
 (bin 0 .geq (vs18.getD 6 dead) t66).bind fun t67 =>
 ifB t67 ((ldN 5 (vs18.getD 2 dead) H19).bind fun t68 =>
 (st 5 (vs18.getD 1 dead) t68 H19).bind fun H28 =>
 kr11 (Fr.of [1, 4, 5, 6, 7, 8, 10, 11] [(vs18.getD 0 dead), (vs18.getD 1 dead), (.string ⟨#[]⟩), (.bool false), (vs18.getD 2 dead), (vs18.getD 3 dead), (vs18.getD 5 dead), (vs18.getD 6 dead)]) H28) (jn ((bin 0 .eql (vs18.getD 8 dead) (.int .u8 105)).bind fun t70 =>
 ifB t70 ((sa 2 (vs18.getD 0 dead) (vs18.getD 6 dead)).bind fun t74 =>
 (fa 0 t74).bind fun t75 =>
 (ld t75 H19).bind fun t76 =>
 callK (C 52 [t76] H19) pnJ fun t77 H31 =>
 (ext1 t77 0).bind fun t78 =>
 (ext1 t77 1).bind fun t79 =>
 jn ((un .not t79).bind fun t81 =>
 (ifG t81 true (some ((vs18.getD 3 dead), H31)) (some (undef, H31))).bind fun p34 =>
 (ifG t81 true ((bin 0 .eql p34.1 (.int .i64 7)).bind fun t84 =>
 some (t84, p34.2)) (some (undef, p34.2))).bind fun p35 =>
 (ifG t81 true (some (p35.1, p35.2)) (some (undef, p35.2))).bind fun p36 =>
 (ifG p36.1 false (some ((vs18.getD 3 dead), p36.2)) (some (undef, p36.2))).bind fun p37 =>
 (ifG p36.1 false ((bin 0 .eql p37.1 (.int .i64 8)).bind fun t87 =>
 some (t87, p37.2)) (some (undef, p37.2))).bind fun p38 =>
 (ifG t81 true ((pick p36.1 (.bool true) p38.1).bind fun t88 =>
 some (t88, p38.2)) (some (undef, p38.2))).bind fun p39 =>
 (pick t81 p39.1 (.bool false)).bind fun t89 =>
 (ifG t89 true (some ((vs18.getD 0 dead), p39.2)) (some (undef, p39.2))).bind fun p40 =>
 (ifG t89 true (some ((vs18.getD 6 dead), p40.2)) (some (undef, p40.2))).bind fun p41 =>
 (ifG t89 true ((sa 2 p40.1 p41.1).bind fun t93 =>
 some (t93, p41.2)) (some (undef, p41.2))).bind fun p42 =>
 (ifG t89 true ((fa 0 p42.1).bind fun t94 =>
 some (t94, p42.2)) (some (undef, p42.2))).bind fun p43 =>
 (ifG t89 true ((ld p43.1 p43.2).bind fun t95 =>
 some (t95, p43.2)) (some (undef, p43.2))).bind fun p44 =>
 (ifG t89 true (callK (C 31 [p44.1] p44.2) pnN fun t96 H45 =>
 some (t96, H45)) (some (undef, p44.2))).bind fun p46 =>
 (pick t89 p46.1 (.bool false)).bind fun t97 =>
 ifB t97 ((sa 2 (vs18.getD 0 dead) (vs18.getD 6 dead)).bind fun t100 =>
 (fa 0 t100).bind fun t101 =>
 (ld t101 p46.2).bind fun t102 =>
 some (.nrm [(vs18.getD 0 dead), (vs18.getD 1 dead), (vs18.getD 2 dead), (vs18.getD 3 dead), (vs18.getD 4 dead), t102, (vs18.getD 6 dead), (vs18.getD 7 dead), (.int .i64 0), (.bool true)] p46.2)) (some (.nrm [(vs18.getD 0 dead), (vs18.getD 1 dead), (vs18.getD 2 dead), (vs18.getD 3 dead), (vs18.getD 4 dead), (vs18.getD 5 dead), (vs18.getD 6 dead), (vs18.getD 7 dead), t78, t79] p46.2))) pnJ noX noR fun vs32 H33 =>
 (fa 4 (vs32.getD 2 dead)).bind fun t104 =>
 (st 1 t104 (vs32.getD 8 dead) H33).bind fun H47 =>
 some (.nrm [(vs32.getD 0 dead), (vs32.getD 1 dead), (vs32.getD 2 dead), (vs32.getD 3 dead), (vs32.getD 4 dead), (vs32.getD 5 dead), (vs32.getD 6 dead), (vs32.getD 7 dead), (vs32.getD 9 dead)] H47)) ((sa 2 (vs18.getD 0 dead) (vs18.getD 6 dead)).bind fun t108 =>
 (fa 0 t108).bind fun t109 =>
 (ld t109 H19).bind fun t110 =>
 callK (C 51 [t110, (vs18.getD 8 dead)] H19) pnJ fun t112 H48 =>
 (ext1 t112 0).bind fun t113 =>
 (ext1 t112 1).bind fun t114 =>
 (bin 0 .eql (vs18.getD 7 dead) (.int .i64 0)).bind fun t119 =>
 ifB t119 ((fa 1 (vs18.getD 2 dead)).bind fun t121 =>
 (st 1 t121 t113 H48).bind fun H49 =>
 some (.nrm [(vs18.getD 0 dead), (vs18.getD 1 dead), (vs18.getD 2 dead), (vs18.getD 3 dead), (vs18.getD 4 dead), (vs18.getD 5 dead), (vs18.getD 6 dead), (vs18.getD 7 dead), t114] H49)) ((bin 0 .eql (vs18.getD 7 dead) (.int .i64 1)).bind fun t124 =>
 (ifG t124 false (some ((vs18.getD 8 dead), H48)) (some (undef, H48))).bind fun p50 =>
 (ifG t124 false ((bin 0 .eql p50.1 (.int .u8 114)).bind fun t127 =>
 some (t127, p50.2)) (some (undef, p50.2))).bind fun p51 =>
 (ifG t124 false (some (p51.1, p51.2)) (some (undef, p51.2))).bind fun p52 =>
 (ifG p52.1 true (some ((vs18.getD 3 dead), p52.2)) (some (undef, p52.2))).bind fun p53 =>
 (ifG p52.1 true ((bin 0 .eql p53.1 (.int .i64 5)).bind fun t130 =>
 some (t130, p53.2)) (some (undef, p53.2))).bind fun p54 =>
 (ifG p52.1 true (some (p54.1, p54.2)) (some (undef, p54.2))).bind fun p55 =>
 (ifG p55.1 false (some ((vs18.getD 3 dead), p55.2)) (some (undef, p55.2))).bind fun p56 =>
 (ifG p55.1 false ((bin 0 .eql p56.1 (.int .i64 6)).bind fun t133 =>
 some (t133, p56.2)) (some (undef, p56.2))).bind fun p57 =>
 (ifG p52.1 true ((pick p55.1 (.bool true) p57.1).bind fun t134 =>
 some (t134, p57.2)) (some (undef, p57.2))).bind fun p58 =>
 (ifG t124 false ((pick p52.1 p58.1 (.bool false)).bind fun t135 =>
 some (t135, p58.2)) (some (undef, p58.2))).bind fun p59 =>
 (pick t124 (.bool true) p59.1).bind fun t136 =>
 ifB t136 ((fa 2 (vs18.getD 2 dead)).bind fun t138 =>
 (st 1 t138 t113 p59.2).bind fun H60 =>
 some (.nrm [(vs18.getD 0 dead), (vs18.getD 1 dead), (vs18.getD 2 dead), (vs18.getD 3 dead), (vs18.getD 4 dead), (vs18.getD 5 dead), (vs18.getD 6 dead), (vs18.getD 7 dead), t114] H60)) ((fa 3 (vs18.getD 2 dead)).bind fun t116 =>
 (st 1 t116 t113 p59.2).bind fun H61 =>
 some (.nrm [(vs18.getD 0 dead), (vs18.getD 1 dead), (vs18.getD 2 dead), (vs18.getD 3 dead), (vs18.getD 4 dead), (vs18.getD 5 dead), (vs18.getD 6 dead), (vs18.getD 7 dead), t114] H61))))) pnK noX noR K)
noncomputable def d34 (C : Cl) (n : Nat) (vs29 : List Value) (H30 : Hp) (kn9 : List Value → Hp → Option (Out × Hp)) (kr11 : Fr → Hp → Option (Out × Hp)) : Option (Out × Hp) :=
 (un .not (vs29.getD 8 dead)).bind fun t140 =>
 ifB t140 ((ldN 5 (vs29.getD 2 dead) H30).bind fun t141 =>
 (st 5 (vs29.getD 1 dead) t141 H30).bind fun H62 =>
 kr11 (Fr.of [1, 4, 5, 6, 7, 8, 10, 11] [(vs29.getD 0 dead), (vs29.getD 1 dead), (.string ⟨#[]⟩), (.bool false), (vs29.getD 2 dead), (vs29.getD 3 dead), (vs29.getD 5 dead), (vs29.getD 6 dead)]) H62) ((bin 0 .add (vs29.getD 6 dead) (.int .i64 1)).bind fun t143 =>
 (bin 0 .add (vs29.getD 7 dead) (.int .i64 1)).bind fun t28 =>
 kn9 [(vs29.getD 0 dead), (vs29.getD 1 dead), (vs29.getD 2 dead), (vs29.getD 3 dead), (vs29.getD 4 dead), (vs29.getD 5 dead), t143, t28] H30)
theorem s34_parts (C : Cl) (n : Nat) (vs7 : List Value) (H8 : Hp) (kn9 : List Value → Hp → Option (Out × Hp)) (kx10 : Nat → Fr → Hp → Option (Out × Hp)) (kr11 : Fr → Hp → Option (Out × Hp)) : s54_b1 C n vs7 H8 kn9 kx10 kr11 =
 (len 0 (vs7.getD 4 dead) H8).bind fun t25 =>
 (bin 0 .lss (vs7.getD 7 dead) t25).bind fun t26 =>
 ifB t26 (a34 C n vs7 H8 fun vs12 H13 => b34 C n vs12 H13 kr11 fun vs18 H19 => c34 C n vs18 H19 kr11 fun vs29 H30 => d34 C n vs29 H30 kn9 kr11) (kx10 0 (Fr.of [1, 4, 5, 6, 7, 8, 10, 11] [(vs7.getD 0 dead), (vs7.getD 1 dead), ((Fr.of [1, 4, 7, 8, 9, 10, 11, 12] vs7).g 5), ((Fr.of [1, 4, 7, 8, 9, 10, 11, 12] vs7).g 6), (vs7.getD 2 dead), (vs7.getD 3 dead), (vs7.getD 5 dead), (vs7.getD 6 dead)]) H8) := rfl
def wd (T : List (Bs × Bool)) (j : Nat) : Bs := (T.getD j ([], false)).1
def wantD (f : Int) (k : Nat) : Bs := if f = 5 ∨ f = 6 then (if k = 0 then [] else if k = 1 then [44] else [40]) else [44]
def cD (f : Int) (k : Nat) (c0 : UInt8) : UInt8 := if (f = 5 ∨ f = 6) ∧ 0 < k then (if k = 1 then 105 else 114) else c0
theorem tkc_get {T : List (Bs × Bool)} {j : Nat} (h : j < T.length) : (tkc T)[j * 2]? = some (.string (bs (wd T j))) := by
 unfold wd
 induction T generalizing j with
 | nil => simp at h
 | cons p T ih =>
   have e : tkc (p :: T) = .string (bs p.1) :: .bool p.2 :: tkc T := rfl
   cases j with
   | zero => rw [e]; rfl
   | succ j =>
     rw [e, show (j + 1) * 2 = j * 2 + 1 + 1 by omega, List.getElem?_cons_succ, List.getElem?_cons_succ, ih (by simpa using h)]
     rfl
theorem a34_eq (C : Cl) (n : Nat) (f : Int) (S : Bs) (k : Nat) (c0 x0 : UInt8) (hS : S.length ≤ 3) (hk : (bs S)[k]? = some c0) (hk3 : k < S.length) (hx : (bs S)[0]? = some x0) (sl p1 p2 lab at_ : Value) (H : Hp) (K : List Value → Hp → Option (Out × Hp)) :
   a34 C n [sl, p1, p2, .int .i64 f, .string (bs S), lab, at_, .int .i64 k] H K = K [sl, p1, p2, .int .i64 f, .string (bs S), lab, at_, .int .i64 k, .string (bs (wantD f k)), .int .u8 (cD f k c0).toNat] H := by
 have k0 : ((0 : Int) ≤ (k : Int)) = True := eq_true (by omega)
 by_cases f5 : f = 5
 · subst f5
   have : k = 0 ∨ k = 1 ∨ k = 2 := by omega
   rcases this with rfl | rfl | rfl
   · cases Option.some.inj (hk.symm.trans hx)
     simp -implicitDefEqProofs only [a34, ↓GVdn, GVup, goInt, splice, okC, Fr.of, Fr.ofI, Fr.g, Nat.reduceAdd, Nat.reduceMul, Nat.reduceEqDiff, Nat.reduceLT, Nat.reduceLeDiff, Nat.reduceBEq, Int.reduceLT, Int.reduceLE, Int.reduceToNat, Int.reduceAdd, Int.reduceSub, Int.reduceMul, Int.reduceEq, Int.reduceNeg, ↓reduceIte, ↓reduceDIte, Nat.beq, reduceCtorEq, Value.int.injEq, Nat.reduceSub, sto_ptr, hk, hx, k0]
     rfl
   · simp -implicitDefEqProofs only [a34, ↓GVdn, GVup, goInt, splice, okC, Fr.of, Fr.ofI, Fr.g, Nat.reduceAdd, Nat.reduceMul, Nat.reduceEqDiff, Nat.reduceLT, Nat.reduceLeDiff, Nat.reduceBEq, Int.reduceLT, Int.reduceLE, Int.reduceToNat, Int.reduceAdd, Int.reduceSub, Int.reduceMul, Int.reduceEq, Int.reduceNeg, ↓reduceIte, ↓reduceDIte, Nat.beq, reduceCtorEq, Value.int.injEq, Nat.reduceSub, sto_ptr, hk, hx, k0]
     rfl
   · simp -implicitDefEqProofs only [a34, ↓GVdn, GVup, goInt, splice, okC, Fr.of, Fr.ofI, Fr.g, Nat.reduceAdd, Nat.reduceMul, Nat.reduceEqDiff, Nat.reduceLT, Nat.reduceLeDiff, Nat.reduceBEq, Int.reduceLT, Int.reduceLE, Int.reduceToNat, Int.reduceAdd, Int.reduceSub, Int.reduceMul, Int.reduceEq, Int.reduceNeg, ↓reduceIte, ↓reduceDIte, Nat.beq, reduceCtorEq, Value.int.injEq, Nat.reduceSub, sto_ptr, hk, hx, k0]
     rfl
 · by_cases f6 : f = 6
   · subst f6
     have : k = 0 ∨ k = 1 ∨ k = 2 := by omega
     rcases this with rfl | rfl | rfl
     · cases Option.some.inj (hk.symm.trans hx)
       simp -implicitDefEqProofs only [a34, ↓GVdn, GVup, goInt, splice, okC, Fr.of, Fr.ofI, Fr.g, Nat.reduceAdd, Nat.reduceMul, Nat.reduceEqDiff, Nat.reduceLT, Nat.reduceLeDiff, Nat.reduceBEq, Int.reduceLT, Int.reduceLE, Int.reduceToNat, Int.reduceAdd, Int.reduceSub, Int.reduceMul, Int.reduceEq, Int.reduceNeg, ↓reduceIte, ↓reduceDIte, Nat.beq, reduceCtorEq, Value.int.injEq, Nat.reduceSub, sto_ptr, hk, hx, k0]
       rfl
     · simp -implicitDefEqProofs only [a34, ↓GVdn, GVup, goInt, splice, okC, Fr.of, Fr.ofI, Fr.g, Nat.reduceAdd, Nat.reduceMul, Nat.reduceEqDiff, Nat.reduceLT, Nat.reduceLeDiff, Nat.reduceBEq, Int.reduceLT, Int.reduceLE, Int.reduceToNat, Int.reduceAdd, Int.reduceSub, Int.reduceMul, Int.reduceEq, Int.reduceNeg, ↓reduceIte, ↓reduceDIte, Nat.beq, reduceCtorEq, Value.int.injEq, Nat.reduceSub, sto_ptr, hk, hx, k0]
       rfl
     · simp -implicitDefEqProofs only [a34, ↓GVdn, GVup, goInt, splice, okC, Fr.of, Fr.ofI, Fr.g, Nat.reduceAdd, Nat.reduceMul, Nat.reduceEqDiff, Nat.reduceLT, Nat.reduceLeDiff, Nat.reduceBEq, Int.reduceLT, Int.reduceLE, Int.reduceToNat, Int.reduceAdd, Int.reduceSub, Int.reduceMul, Int.reduceEq, Int.reduceNeg, ↓reduceIte, ↓reduceDIte, Nat.beq, reduceCtorEq, Value.int.injEq, Nat.reduceSub, sto_ptr, hk, hx, k0]
       rfl
   · have hw : wantD f k = [44] := if_neg (by omega)
     have hc : cD f k c0 = c0 := if_neg (by omega)
     rw [hw, hc]
     simp -implicitDefEqProofs only [a34, ↓GVdn, GVup, goInt, splice, okC, Fr.of, Fr.ofI, Fr.g, Nat.reduceAdd, Nat.reduceMul, Nat.reduceEqDiff, Nat.reduceLT, Nat.reduceLeDiff, Nat.reduceBEq, Int.reduceLT, Int.reduceLE, Int.reduceToNat, Int.reduceAdd, Int.reduceSub, Int.reduceMul, Int.reduceEq, Int.reduceNeg, ↓reduceIte, ↓reduceDIte, Nat.beq, reduceCtorEq, Value.int.injEq, Nat.reduceSub, sto_ptr, hk, hx, k0, f5, f6]
     rfl
structure OpS (H : Hp) (T : List (Bs × Bool)) (i : Ins) : Prop where
 row : H.cells 11 = some (tkc T)
 res : ∃ z : Ins, H.rwc 12 = some z.cells
 ins : H.rwc 13 = some i.cells
 lim : H.lim ≤ 12
def SL (T : List (Bs × Bool)) : Value := .slice (some ⟨11, 0, none⟩) T.length 2
theorem OpS.get {H : Hp} {T : List (Bs × Bool)} {i : Ins} (h : OpS H T i) {j : Nat} (hj : j < T.length) : (tkc T)[j * 2]? = some (.string (bs (wd T j))) := tkc_get hj
theorem OpS.fail {H : Hp} {T : List (Bs × Bool)} {i : Ins} (h : OpS H T i) : H.cells 13 = some i.cells ∧ st 5 (ptr 12 0) (.agg i.cells.toArray) H = some (H.set 12 (.rw i.cells)) ∧ (H.set 12 (.rw i.cells)).cells 12 = some i.cells := by
 obtain ⟨z, hz⟩ := h.res
 have hr := st_rwc (H := H) hz h.lim (v := .agg i.cells.toArray) (vs := i.cells) rfl (n := 5) rfl (by show 0 + 5 ≤ 5; decide) rfl
 have hzs : splice z.cells 0 i.cells = i.cells := rfl
 rw [hzs] at hr
 exact ⟨cells_rwc h.ins, hr, cells_rwc (by rw [rwc_set, if_pos rfl])⟩
def FailD (fr : Fr) (H : Hp) : Prop := fr.g 4 = ptr 12 0 ∧ fr.g 5 = .string emp ∧ fr.g 6 = .bool false ∧ ∃ i : Ins, H.cells 12 = some i.cells
theorem OpS.put {H : Hp} {T : List (Bs × Bool)} {i : Ins} (h : OpS H T i) (i' : Ins) : OpS (H.set 13 (.rw i'.cells)) T i' where
 row := by rw [cells_set, if_neg (by decide)]; exact h.row
 res := by obtain ⟨z, hz⟩ := h.res; exact ⟨z, by rw [rwc_set, if_neg (by decide)]; exact hz⟩
 ins := by rw [rwc_set, if_pos rfl]
 lim := h.lim
theorem OpS.st1 {H : Hp} {T : List (Bs × Bool)} {i : Ins} (h : OpS H T i) (k : Nat) (hk : k < 5) (z : Int) : st 1 (ptr 13 k) (.int .i64 z) H = some (H.set 13 (.rw (splice i.cells k [.int .i64 z]))) :=
 st_rwc (H := H) h.ins (by have := h.lim; omega) (v := .int .i64 z) (vs := [.int .i64 z]) rfl (n := 1) rfl (by show k + 1 ≤ 5; omega) rfl
theorem b34_0 (C : Cl) (n : Nat) (T : List (Bs × Bool)) (p1 p2 f S lab at_ w c : Value) (H : Hp) (kr : Fr → Hp → Option (Out × Hp)) (K : List Value → Hp → Option (Out × Hp)) :
   b34 C n [SL T, p1, p2, f, S, lab, at_, .int .i64 0, w, c] H kr K = K [SL T, p1, p2, f, S, lab, at_, .int .i64 0, c] H := by
 simp -implicitDefEqProofs only [b34, ↓GVdn, GVup, goInt, splice, okC, Fr.of, Fr.ofI, Fr.g, Nat.reduceAdd, Nat.reduceMul, Nat.reduceEqDiff, Nat.reduceLT, Nat.reduceLeDiff, Nat.reduceBEq, Int.reduceLT, Int.reduceLE, Int.reduceToNat, Int.reduceAdd, Int.reduceSub, Int.reduceMul, Int.reduceEq, Int.reduceNeg, ↓reduceIte, ↓reduceDIte, Nat.beq, reduceCtorEq, Value.int.injEq, Nat.reduceSub, sto_ptr]
theorem b34_ok (C : Cl) (n : Nat) (T : List (Bs × Bool)) (k : Nat) (hk : 0 < k) (w : Bs) (hj : 2 * k - 1 < T.length) (hT : T.length ≤ 1000000) (hw : wd T (2 * k - 1) = w) (p1 p2 f S lab c : Value) (H : Hp) (i : Ins) (hS : OpS H T i) (kr : Fr → Hp → Option (Out × Hp)) (K : List Value → Hp → Option (Out × Hp)) :
   b34 C n [SL T, p1, p2, f, S, lab, .int .i64 ((2 * k - 1 : Nat) : Int), .int .i64 k, .string (bs w), c] H kr K = K [SL T, p1, p2, f, S, lab, .int .i64 ((2 * k : Nat) : Int), .int .i64 k, c] H := by
 have k0 : ((0 : Int) < (k : Int)) = True := eq_true (by omega)
 have hg := hS.get hj
 rw [hw] at hg
 have hrow := hS.row
 have h1 : ((T.length : Int) ≤ ((2 * k - 1 : Nat) : Int)) = False := eq_false (by omega)
 have h2 : (((2 * k - 1 : Nat) : Int) < (T.length : Int)) = True := eq_true (by omega)
 have hw1 : IntKind.wrap .i64 (((2 * k - 1 : Nat) : Int) + 1) = ((2 * k : Nat) : Int) := by rw [IntWalk.i64_in _ (by omega)]; omega
 generalize 2 * k - 1 = j at hg h1 h2 hw1 ⊢
 generalize 2 * k = j2 at hw1 ⊢
 unfold SL
 simp -implicitDefEqProofs only [b34, ↓GVdn, GVup, goInt, splice, okC, Fr.of, Fr.ofI, Fr.g, Nat.reduceAdd, Nat.reduceMul, Nat.reduceEqDiff, Nat.reduceLT, Nat.reduceLeDiff, Nat.reduceBEq, Int.reduceLT, Int.reduceLE, Int.reduceToNat, Int.reduceAdd, Int.reduceSub, Int.reduceMul, Int.reduceEq, Int.reduceNeg, ↓reduceIte, ↓reduceDIte, Nat.beq, reduceCtorEq, Value.int.injEq, Nat.reduceSub, sto_ptr, k0, hrow, hg, h1, h2, hw1]
theorem b34_no (C : Cl) (n : Nat) (T : List (Bs × Bool)) (k : Nat) (hk : 0 < k) (w : Bs) (hT : T.length ≤ 1000000) (hw : ¬ (2 * k - 1 < T.length ∧ wd T (2 * k - 1) = w)) (f S lab c : Value) (H : Hp) (i : Ins) (hS : OpS H T i) : ∃ fr H', FailD fr H' ∧ ∀ (kr : Fr → Hp → Option (Out × Hp)) (K : List Value → Hp → Option (Out × Hp)),
   b34 C n [SL T, ptr 12 0, ptr 13 0, f, S, lab, .int .i64 ((2 * k - 1 : Nat) : Int), .int .i64 k, .string (bs w), c] H kr K = kr fr H' := by
 obtain ⟨hld, hst, hc⟩ := hS.fail
 have zlen : i.cells.length = 5 := rfl
 have ztk : i.cells.take 5 = i.cells := rfl
 refine ⟨Fr.of [1, 4, 5, 6, 7, 8, 10, 11] [dead, ptr 12 0, .string ⟨#[]⟩, .bool false, dead, dead, dead, dead], _, ⟨rfl, rfl, rfl, _, hc⟩, fun kr K => ?_⟩
 have k0 : ((0 : Int) < (k : Int)) = True := eq_true (by omega)
 have hrow := hS.row
 generalize 2 * k - 1 = j at hw ⊢
 by_cases hj : j < T.length
 · have hg := hS.get hj
   have h1 : ((T.length : Int) ≤ (j : Int)) = False := eq_false (by omega)
   have h2 : ((j : Int) < (T.length : Int)) = True := eq_true (by omega)
   have hne : (bs (wd T j) = bs w) = False := eq_false (fun e => hw ⟨hj, bs_inj e⟩)
   unfold SL
   simp -implicitDefEqProofs only [b34, ↓GVdn, GVup, goInt, splice, okC, Fr.of, Fr.ofI, Fr.g, Nat.reduceAdd, Nat.reduceMul, Nat.reduceEqDiff, Nat.reduceLT, Nat.reduceLeDiff, Nat.reduceBEq, Int.reduceLT, Int.reduceLE, Int.reduceToNat, Int.reduceAdd, Int.reduceSub, Int.reduceMul, Int.reduceEq, Int.reduceNeg, ↓reduceIte, ↓reduceDIte, Nat.beq, reduceCtorEq, Value.int.injEq, Nat.reduceSub, k0, hrow, hg, h1, h2, hne, hld, hst, zlen, ztk]
 · have h1 : ((T.length : Int) ≤ (j : Int)) = True := eq_true (by omega)
   unfold SL
   simp -implicitDefEqProofs only [b34, ↓GVdn, GVup, goInt, splice, okC, Fr.of, Fr.ofI, Fr.g, Nat.reduceAdd, Nat.reduceMul, Nat.reduceEqDiff, Nat.reduceLT, Nat.reduceLeDiff, Nat.reduceBEq, Int.reduceLT, Int.reduceLE, Int.reduceToNat, Int.reduceAdd, Int.reduceSub, Int.reduceMul, Int.reduceEq, Int.reduceNeg, ↓reduceIte, ↓reduceDIte, Nat.beq, reduceCtorEq, Value.int.injEq, Nat.reduceSub, k0, h1, hld, hst, zlen, ztk]
def setD (f : Int) (k : Nat) (c : UInt8) (i : Ins) (z : Int) : Ins := if k = 0 then { i with A := z } else if k = 1 ∨ (c = 114 ∧ (f = 5 ∨ f = 6)) then { i with B := z } else { i with C := z }
def stpD (f : Int) (k : Nat) (c : UInt8) (w : Bs) (i : Ins) (lab : Bs) : Bool × Ins × Bs :=
 if c = 105 then
   if ((numV w).2 = false ∧ (f = 7 ∨ f = 8)) ∧ labelV (bs w) = true then (true, { i with I := 0 }, w) else ((numV w).2, { i with I := (numV w).1 }, lab)
 else ((regD c w).2, setD f k c i (regD c w).1, lab)
theorem c34_no (C : Cl) (n : Nat) (T : List (Bs × Bool)) (k : Nat) (hj : ¬ 2 * k < T.length) (f S lab kv c : Value) (H : Hp) (i : Ins) (hS : OpS H T i) : ∃ fr H', FailD fr H' ∧ ∀ (kr : Fr → Hp → Option (Out × Hp)) (K : List Value → Hp → Option (Out × Hp)),
   c34 C n [SL T, ptr 12 0, ptr 13 0, f, S, lab, .int .i64 ((2 * k : Nat) : Int), kv, c] H kr K = kr fr H' := by
 obtain ⟨hld, hst, hc⟩ := hS.fail
 have zlen : i.cells.length = 5 := rfl
 have ztk : i.cells.take 5 = i.cells := rfl
 refine ⟨Fr.of [1, 4, 5, 6, 7, 8, 10, 11] [SL T, ptr 12 0, .string ⟨#[]⟩, .bool false, ptr 13 0, f, lab, .int .i64 ((2 * k : Nat) : Int)], _, ⟨rfl, rfl, rfl, _, hc⟩, fun kr K => ?_⟩
 generalize 2 * k = j at hj ⊢
 have h1 : ((T.length : Int) ≤ (j : Int)) = True := eq_true (by omega)
 unfold SL
 simp -implicitDefEqProofs only [c34, ↓GVdn, GVup, goInt, splice, okC, Fr.of, Fr.ofI, Fr.g, Nat.reduceAdd, Nat.reduceMul, Nat.reduceEqDiff, Nat.reduceLT, Nat.reduceLeDiff, Nat.reduceBEq, Int.reduceLT, Int.reduceLE, Int.reduceToNat, Int.reduceAdd, Int.reduceSub, Int.reduceMul, Int.reduceEq, Int.reduceNeg, ↓reduceIte, ↓reduceDIte, Nat.beq, reduceCtorEq, Value.int.injEq, Nat.reduceSub, h1, hld, hst, zlen, ztk]
theorem d34_no (C : Cl) (n : Nat) (T : List (Bs × Bool)) (f S lab at_ kv : Value) (H : Hp) (i : Ins) (hS : OpS H T i) : ∃ fr H', FailD fr H' ∧ ∀ (kn : List Value → Hp → Option (Out × Hp)) (kr : Fr → Hp → Option (Out × Hp)),
   d34 C n [SL T, ptr 12 0, ptr 13 0, f, S, lab, at_, kv, .bool false] H kn kr = kr fr H' := by
 obtain ⟨hld, hst, hc⟩ := hS.fail
 have zlen : i.cells.length = 5 := rfl
 have ztk : i.cells.take 5 = i.cells := rfl
 refine ⟨Fr.of [1, 4, 5, 6, 7, 8, 10, 11] [SL T, ptr 12 0, .string ⟨#[]⟩, .bool false, ptr 13 0, f, lab, at_], _, ⟨rfl, rfl, rfl, _, hc⟩, fun kr K => ?_⟩
 simp -implicitDefEqProofs only [d34, ↓GVdn, GVup, goInt, splice, okC, Fr.of, Fr.ofI, Fr.g, Nat.reduceAdd, Nat.reduceMul, Nat.reduceEqDiff, Nat.reduceLT, Nat.reduceLeDiff, Nat.reduceBEq, Int.reduceLT, Int.reduceLE, Int.reduceToNat, Int.reduceAdd, Int.reduceSub, Int.reduceMul, Int.reduceEq, Int.reduceNeg, ↓reduceIte, ↓reduceDIte, Nat.beq, reduceCtorEq, Value.int.injEq, Nat.reduceSub, hld, hst, zlen, ztk]
theorem d34_ok (C : Cl) (n : Nat) (sl p1 p2 f S lab : Value) (k : Nat) (hk : k ≤ 1000000) (H : Hp) (kn : List Value → Hp → Option (Out × Hp)) (kr : Fr → Hp → Option (Out × Hp)) :
   d34 C n [sl, p1, p2, f, S, lab, .int .i64 ((2 * k : Nat) : Int), .int .i64 k, .bool true] H kn kr = kn [sl, p1, p2, f, S, lab, .int .i64 ((2 * (k + 1) - 1 : Nat) : Int), .int .i64 ((k + 1 : Nat) : Int)] H := by
 have hw1 : IntKind.wrap .i64 (((2 * k : Nat) : Int) + 1) = ((2 * (k + 1) - 1 : Nat) : Int) := by rw [IntWalk.i64_in _ (by omega)]; omega
 have hw2 : IntKind.wrap .i64 ((k : Int) + 1) = ((k + 1 : Nat) : Int) := by rw [IntWalk.i64_in _ (by omega)]; omega
 generalize 2 * (k + 1) - 1 = j at hw1 ⊢
 generalize 2 * k = j2 at hw1 ⊢
 simp -implicitDefEqProofs only [d34, ↓GVdn, GVup, goInt, splice, okC, Fr.of, Fr.ofI, Fr.g, Nat.reduceAdd, Nat.reduceMul, Nat.reduceEqDiff, Nat.reduceLT, Nat.reduceLeDiff, Nat.reduceBEq, Int.reduceLT, Int.reduceLE, Int.reduceToNat, Int.reduceAdd, Int.reduceSub, Int.reduceMul, Int.reduceEq, Int.reduceNeg, ↓reduceIte, ↓reduceDIte, Nat.beq, reduceCtorEq, Value.int.injEq, Nat.reduceSub, sto_ptr, hw1, hw2]
theorem c34_ok (C : Cl) (n : Nat) (T : List (Bs × Bool)) (k : Nat) (hj : 2 * k < T.length) (f : Int) (S : Value) (lab : Bs) (c : UInt8) (h59 : ∀ H, C 52 [.string (bs (wd T (2 * k)))] H = some (.ret (.tuple #[.int .i64 (numV (wd T (2 * k))).1, .bool (numV (wd T (2 * k))).2]), H))
   (h60 : ∀ H, C 31 [.string (bs (wd T (2 * k)))] H = some (.ret (.bool (labelV (bs (wd T (2 * k))))), H)) (h61 : ∀ H, C 51 [.string (bs (wd T (2 * k))), .int .u8 c.toNat] H = some (.ret (.tuple #[.int .i64 (regD c (wd T (2 * k))).1, .bool (regD c (wd T (2 * k))).2]), H))
   (H : Hp) (i : Ins) (hS : OpS H T i) : ∃ H', OpS H' T (stpD f k c (wd T (2 * k)) i lab).2.1 ∧ ∀ (kr : Fr → Hp → Option (Out × Hp)) (K : List Value → Hp → Option (Out × Hp)),
   c34 C n [SL T, ptr 12 0, ptr 13 0, .int .i64 f, S, .string (bs lab), .int .i64 ((2 * k : Nat) : Int), .int .i64 k, .int .u8 c.toNat] H kr K = K [SL T, ptr 12 0, ptr 13 0, .int .i64 f, S, .string (bs (stpD f k c (wd T (2 * k)) i lab).2.2), .int .i64 ((2 * k : Nat) : Int), .int .i64 k, .bool (stpD f k c (wd T (2 * k)) i lab).1] H' := by
 have hg := hS.get hj
 have hrow := hS.row
 refine ⟨_, hS.put _, fun kr K => ?_⟩
 generalize wd T (2 * k) = w at *
 generalize 2 * k = j at *
 have h1 : ((T.length : Int) ≤ (j : Int)) = False := eq_false (by omega)
 have h2 : ((j : Int) < (T.length : Int)) = True := eq_true (by omega)
 have s4 := fun z => hS.st1 4 (by decide) z
 have s1 := fun z => hS.st1 1 (by decide) z
 have s2 := fun z => hS.st1 2 (by decide) z
 have s3 := fun z => hS.st1 3 (by decide) z
 have e4 : ∀ z, splice i.cells 4 [.int .i64 z] = ({ i with I := z } : Ins).cells := fun _ => rfl
 have e1 : ∀ z, splice i.cells 1 [.int .i64 z] = ({ i with A := z } : Ins).cells := fun _ => rfl
 have e2 : ∀ z, splice i.cells 2 [.int .i64 z] = ({ i with B := z } : Ins).cells := fun _ => rfl
 have e3 : ∀ z, splice i.cells 3 [.int .i64 z] = ({ i with C := z } : Ins).cells := fun _ => rfl
 simp only [e1, e2, e3, e4] at s1 s2 s3 s4
 unfold SL stpD
 by_cases hc : c = 105
 · have c1 : ((c.toNat : Int) = 105) = True := eq_true (by rw [hc]; rfl)
   rw [if_pos hc]
   rcases hnm : numV w with ⟨z, b⟩
   simp only [hnm] at h59 ⊢
   cases b with
   | true =>
     rw [if_neg (by rintro ⟨⟨h, _⟩, _⟩; exact absurd h (by simp))]
     simp -implicitDefEqProofs only [c34, ↓GVdn, GVup, goInt, splice, okC, Fr.of, Fr.ofI, Fr.g, Nat.reduceAdd, Nat.reduceMul, Nat.reduceEqDiff, Nat.reduceLT, Nat.reduceLeDiff, Nat.reduceBEq, Int.reduceLT, Int.reduceLE, Int.reduceToNat, Int.reduceAdd, Int.reduceSub, Int.reduceMul, Int.reduceEq, Int.reduceNeg, ↓reduceIte, ↓reduceDIte, Nat.beq, reduceCtorEq, Value.int.injEq, Nat.reduceSub, hrow, hg, h1, h2, c1, h59, s4]
   | false =>
     cases hl : labelV (bs w) with
     | true =>
       rw [hl] at h60
       by_cases f7 : f = 7
       · rw [if_pos ⟨⟨rfl, Or.inl f7⟩, rfl⟩]
         simp -implicitDefEqProofs only [c34, ↓GVdn, GVup, goInt, splice, okC, Fr.of, Fr.ofI, Fr.g, Nat.reduceAdd, Nat.reduceMul, Nat.reduceEqDiff, Nat.reduceLT, Nat.reduceLeDiff, Nat.reduceBEq, Int.reduceLT, Int.reduceLE, Int.reduceToNat, Int.reduceAdd, Int.reduceSub, Int.reduceMul, Int.reduceEq, Int.reduceNeg, ↓reduceIte, ↓reduceDIte, Nat.beq, reduceCtorEq, Value.int.injEq, Nat.reduceSub, hrow, hg, h1, h2, c1, h59, s4, f7, h60]
       · by_cases f8 : f = 8
         · rw [if_pos ⟨⟨rfl, Or.inr f8⟩, rfl⟩]
           simp -implicitDefEqProofs only [c34, ↓GVdn, GVup, goInt, splice, okC, Fr.of, Fr.ofI, Fr.g, Nat.reduceAdd, Nat.reduceMul, Nat.reduceEqDiff, Nat.reduceLT, Nat.reduceLeDiff, Nat.reduceBEq, Int.reduceLT, Int.reduceLE, Int.reduceToNat, Int.reduceAdd, Int.reduceSub, Int.reduceMul, Int.reduceEq, Int.reduceNeg, ↓reduceIte, ↓reduceDIte, Nat.beq, reduceCtorEq, Value.int.injEq, Nat.reduceSub, hrow, hg, h1, h2, c1, h59, s4, f7, f8, h60]
         · rw [if_neg (by rintro ⟨⟨_, h⟩, _⟩; omega)]
           simp -implicitDefEqProofs only [c34, ↓GVdn, GVup, goInt, splice, okC, Fr.of, Fr.ofI, Fr.g, Nat.reduceAdd, Nat.reduceMul, Nat.reduceEqDiff, Nat.reduceLT, Nat.reduceLeDiff, Nat.reduceBEq, Int.reduceLT, Int.reduceLE, Int.reduceToNat, Int.reduceAdd, Int.reduceSub, Int.reduceMul, Int.reduceEq, Int.reduceNeg, ↓reduceIte, ↓reduceDIte, Nat.beq, reduceCtorEq, Value.int.injEq, Nat.reduceSub, hrow, hg, h1, h2, c1, h59, s4, f7, f8]
     | false =>
       rw [hl] at h60
       rw [if_neg (by rintro ⟨_, h⟩; exact absurd h (by simp))]
       by_cases f7 : f = 7
       · simp -implicitDefEqProofs only [c34, ↓GVdn, GVup, goInt, splice, okC, Fr.of, Fr.ofI, Fr.g, Nat.reduceAdd, Nat.reduceMul, Nat.reduceEqDiff, Nat.reduceLT, Nat.reduceLeDiff, Nat.reduceBEq, Int.reduceLT, Int.reduceLE, Int.reduceToNat, Int.reduceAdd, Int.reduceSub, Int.reduceMul, Int.reduceEq, Int.reduceNeg, ↓reduceIte, ↓reduceDIte, Nat.beq, reduceCtorEq, Value.int.injEq, Nat.reduceSub, hrow, hg, h1, h2, c1, h59, s4, f7, h60]
       · by_cases f8 : f = 8
         · simp -implicitDefEqProofs only [c34, ↓GVdn, GVup, goInt, splice, okC, Fr.of, Fr.ofI, Fr.g, Nat.reduceAdd, Nat.reduceMul, Nat.reduceEqDiff, Nat.reduceLT, Nat.reduceLeDiff, Nat.reduceBEq, Int.reduceLT, Int.reduceLE, Int.reduceToNat, Int.reduceAdd, Int.reduceSub, Int.reduceMul, Int.reduceEq, Int.reduceNeg, ↓reduceIte, ↓reduceDIte, Nat.beq, reduceCtorEq, Value.int.injEq, Nat.reduceSub, hrow, hg, h1, h2, c1, h59, s4, f7, f8, h60]
         · simp -implicitDefEqProofs only [c34, ↓GVdn, GVup, goInt, splice, okC, Fr.of, Fr.ofI, Fr.g, Nat.reduceAdd, Nat.reduceMul, Nat.reduceEqDiff, Nat.reduceLT, Nat.reduceLeDiff, Nat.reduceBEq, Int.reduceLT, Int.reduceLE, Int.reduceToNat, Int.reduceAdd, Int.reduceSub, Int.reduceMul, Int.reduceEq, Int.reduceNeg, ↓reduceIte, ↓reduceDIte, Nat.beq, reduceCtorEq, Value.int.injEq, Nat.reduceSub, hrow, hg, h1, h2, c1, h59, s4, f7, f8]
 · have c1 := u8ne 105 hc
   have c1 : ((c.toNat : Int) = 105) = False := c1
   rw [if_neg hc]
   rcases hnm : regD c w with ⟨z, b⟩
   simp only [hnm] at h61 ⊢
   unfold setD
   by_cases k0 : k = 0
   · subst k0
     rw [if_pos rfl]
     simp -implicitDefEqProofs only [c34, ↓GVdn, GVup, goInt, splice, okC, Fr.of, Fr.ofI, Fr.g, Nat.reduceAdd, Nat.reduceMul, Nat.reduceEqDiff, Nat.reduceLT, Nat.reduceLeDiff, Nat.reduceBEq, Int.reduceLT, Int.reduceLE, Int.reduceToNat, Int.reduceAdd, Int.reduceSub, Int.reduceMul, Int.reduceEq, Int.reduceNeg, ↓reduceIte, ↓reduceDIte, Nat.beq, reduceCtorEq, Value.int.injEq, Nat.reduceSub, hrow, hg, h1, h2, c1, h61, s1, Int.natCast_zero]
   · rw [if_neg k0]
     have q0 : ((k : Int) = 0) = False := eq_false (by omega)
     by_cases k1 : k = 1
     · have q1 : ((k : Int) = 1) = True := eq_true (by omega)
       rw [if_pos (Or.inl k1)]
       simp -implicitDefEqProofs only [c34, ↓GVdn, GVup, goInt, splice, okC, Fr.of, Fr.ofI, Fr.g, Nat.reduceAdd, Nat.reduceMul, Nat.reduceEqDiff, Nat.reduceLT, Nat.reduceLeDiff, Nat.reduceBEq, Int.reduceLT, Int.reduceLE, Int.reduceToNat, Int.reduceAdd, Int.reduceSub, Int.reduceMul, Int.reduceEq, Int.reduceNeg, ↓reduceIte, ↓reduceDIte, Nat.beq, reduceCtorEq, Value.int.injEq, Nat.reduceSub, hrow, hg, h1, h2, c1, h61, s2, q0, q1]
     · have q1 : ((k : Int) = 1) = False := eq_false (by omega)
       by_cases c2 : c = 114
       · have c3 : ((c.toNat : Int) = 114) = True := eq_true (by rw [c2]; rfl)
         by_cases f5 : f = 5
         · rw [if_pos (Or.inr ⟨c2, Or.inl f5⟩)]
           simp -implicitDefEqProofs only [c34, ↓GVdn, GVup, goInt, splice, okC, Fr.of, Fr.ofI, Fr.g, Nat.reduceAdd, Nat.reduceMul, Nat.reduceEqDiff, Nat.reduceLT, Nat.reduceLeDiff, Nat.reduceBEq, Int.reduceLT, Int.reduceLE, Int.reduceToNat, Int.reduceAdd, Int.reduceSub, Int.reduceMul, Int.reduceEq, Int.reduceNeg, ↓reduceIte, ↓reduceDIte, Nat.beq, reduceCtorEq, Value.int.injEq, Nat.reduceSub, hrow, hg, h1, h2, c1, h61, s2, q0, q1, c3, f5]
         · by_cases f6 : f = 6
           · rw [if_pos (Or.inr ⟨c2, Or.inr f6⟩)]
             simp -implicitDefEqProofs only [c34, ↓GVdn, GVup, goInt, splice, okC, Fr.of, Fr.ofI, Fr.g, Nat.reduceAdd, Nat.reduceMul, Nat.reduceEqDiff, Nat.reduceLT, Nat.reduceLeDiff, Nat.reduceBEq, Int.reduceLT, Int.reduceLE, Int.reduceToNat, Int.reduceAdd, Int.reduceSub, Int.reduceMul, Int.reduceEq, Int.reduceNeg, ↓reduceIte, ↓reduceDIte, Nat.beq, reduceCtorEq, Value.int.injEq, Nat.reduceSub, hrow, hg, h1, h2, c1, h61, s2, q0, q1, c3, f5, f6]
           · rw [if_neg (by rintro (h | ⟨_, h⟩) <;> omega)]
             simp -implicitDefEqProofs only [c34, ↓GVdn, GVup, goInt, splice, okC, Fr.of, Fr.ofI, Fr.g, Nat.reduceAdd, Nat.reduceMul, Nat.reduceEqDiff, Nat.reduceLT, Nat.reduceLeDiff, Nat.reduceBEq, Int.reduceLT, Int.reduceLE, Int.reduceToNat, Int.reduceAdd, Int.reduceSub, Int.reduceMul, Int.reduceEq, Int.reduceNeg, ↓reduceIte, ↓reduceDIte, Nat.beq, reduceCtorEq, Value.int.injEq, Nat.reduceSub, hrow, hg, h1, h2, c1, h61, s3, q0, q1, c3, f5, f6]
       · have c3 : ((c.toNat : Int) = 114) = False := u8ne 114 c2
         rw [if_neg (by rintro (h | ⟨h, _⟩); exact k1 h; exact c2 h)]
         simp -implicitDefEqProofs only [c34, ↓GVdn, GVup, goInt, splice, okC, Fr.of, Fr.ofI, Fr.g, Nat.reduceAdd, Nat.reduceMul, Nat.reduceEqDiff, Nat.reduceLT, Nat.reduceLeDiff, Nat.reduceBEq, Int.reduceLT, Int.reduceLE, Int.reduceToNat, Int.reduceAdd, Int.reduceSub, Int.reduceMul, Int.reduceEq, Int.reduceNeg, ↓reduceIte, ↓reduceDIte, Nat.beq, reduceCtorEq, Value.int.injEq, Nat.reduceSub, hrow, hg, h1, h2, c1, h61, s3, q0, q1, c3]
end Go.Proofs.YtbaooebafijenaaGreatDoor
namespace Go.Proofs.YtbaooebafijenaaGreatDoor
open Go Go.Ev
set_option maxRecDepth 100000
set_option linter.unusedSimpArgs false
set_option linter.unusedVariables false
set_option maxHeartbeats 4000000
set_option linter.unusedSectionVars false
variable [Mx]
attribute [local congr] bind_front callK_front jn_front ifB_front ifG_front lp_front
noncomputable def k34 (C : Cl) (n : Nat) : Nat → Fr → Hp → Option (Out × Hp) := (fun j65 f66 H67 => if j65 = 0 then jn ((bin 0 .eql (f66.g 8) (.int .i64 5)).bind fun t145 =>
 (ifG t145 false (some ((f66.g 8), H67)) (some (undef, H67))).bind fun p70 =>
 (ifG t145 false ((bin 0 .eql p70.1 (.int .i64 6)).bind fun t148 =>
 some (t148, p70.2)) (some (undef, p70.2))).bind fun p71 =>
 (pick t145 (.bool true) p71.1).bind fun t149 =>
 ifB t149 ((len 1 (f66.g 1) p71.2).bind fun t152 =>
 (bin 0 .geq (f66.g 11) t152).bind fun t153 =>
 (ifG t153 false (some ((f66.g 1), p71.2)) (some (undef, p71.2))).bind fun p72 =>
 (ifG t153 false (some ((f66.g 11), p72.2)) (some (undef, p72.2))).bind fun p73 =>
 (ifG t153 false ((sa 2 p72.1 p73.1).bind fun t157 =>
 some (t157, p73.2)) (some (undef, p73.2))).bind fun p74 =>
 (ifG t153 false ((fa 0 p74.1).bind fun t158 =>
 some (t158, p74.2)) (some (undef, p74.2))).bind fun p75 =>
 (ifG t153 false ((ld p75.1 p75.2).bind fun t159 =>
 some (t159, p75.2)) (some (undef, p75.2))).bind fun p76 =>
 (ifG t153 false ((bin 0 .neq p76.1 (.string ⟨#[41]⟩)).bind fun t160 =>
 some (t160, p76.2)) (some (undef, p76.2))).bind fun p77 =>
 (pick t153 (.bool true) p77.1).bind fun t161 =>
 ifB t161 ((ldN 5 (f66.g 7) p77.2).bind fun t162 =>
 (st 5 (f66.g 4) t162 p77.2).bind fun H78 =>
 some (.rt (Fr.of [4, 5, 6] [(f66.g 4), (.string ⟨#[]⟩), (.bool false)]) H78)) ((bin 0 .add (f66.g 11) (.int .i64 1)).bind fun t164 =>
 some (.nrm [(f66.g 1), (f66.g 4), (f66.g 7), (f66.g 10), t164] p77.2))) (some (.nrm [(f66.g 1), (f66.g 4), (f66.g 7), (f66.g 10), (f66.g 11)] p71.2))) pnK noX (fun f86 H87 => (ldN 5 (f86.g 4) H87).bind fun r88 =>
 some (.ret (.tuple #[r88, (f86.g 5), (f86.g 6)]), H87)) fun vs68 H69 =>
 (ldN 5 (vs68.getD 2 dead) H69.cl).bind fun t165 =>
 (len 1 (vs68.getD 0 dead) H69.cl.cl.cl.cl.cl).bind fun t169 =>
 (bin 0 .eql (vs68.getD 4 dead) t169).bind fun t170 =>
 (ifG t170 true ((ldN 5 (vs68.getD 2 dead) H69.cl.cl.cl.cl.cl.cl.cl.cl).bind fun t172 =>
 some (t172, H69.cl.cl.cl.cl.cl.cl.cl.cl)) (some (undef, H69.cl.cl.cl.cl.cl.cl.cl.cl))).bind fun p79 =>
 (ifG t170 true (callK (C 33 [p79.1] p79.2.cl) pnN fun t173 H80 =>
 some (t173, H80)) (some (undef, p79.2.cl))).bind fun p81 =>
 (ifG t170 true ((bin 0 .eql p81.1 (.int .i64 0)).bind fun t174 =>
 some (t174, p81.2.cl)) (some (undef, p81.2.cl))).bind fun p82 =>
 (pick t170 p82.1 (.bool false)).bind fun t175 =>
 (rdA (vs68.getD 1 dead)).bind fun b83 => bif memN b83 [] then none else (st 5 (vs68.getD 1 dead) t165 (p82.2.cl.cl.cl.opn H69.lim)).bind fun H84 =>
 (ldN 5 (vs68.getD 1 dead) H84).bind fun r85 =>
 some (.ret (.tuple #[r85, (vs68.getD 3 dead), t175]), H84) else none)
def r34 : Fr → Hp → Option (Out × Hp) := (fun f89 H90 => (ldN 5 (f89.g 4) H90).bind fun r91 =>
 some (.ret (.tuple #[r91, (f89.g 5), (f89.g 6)]), H90))
theorem s34_k (C : Cl) (n : Nat) (x0 x1 : Value) (H : Hp) : s54 C n x0 x1 H =
 let H1 := H.new (.rw [(.int .i64 0), (.int .i64 0), (.int .i64 0), (.int .i64 0), (.int .i64 0)])
 (fillL (pl [(0, 1), (1, 1), (2, 1), (3, 1), (4, 1)]) [(.int .i64 0), (.int .i64 0), (.int .i64 0), (.int .i64 0), (.int .i64 0)] [(0, x0)]).bind fun c2 =>
 let H3 := H1.new (.rw [(.int .i64 0), (.int .i64 0), (.int .i64 0), (.int .i64 0), (.int .i64 0)])
 (st 5 (ptr H1.next 0) (.agg c2.toArray) H3).bind fun H4 =>
 callK (C 55 [x0] H4) pnK fun t20 H5 =>
 callK (C 56 [t20] H5) pnK fun t22 H6 =>
 lp (s54_b1 C n) n [x1, (ptr H.next 0), (ptr H1.next 0), t20, t22, (.string ⟨#[]⟩), (.int .i64 0), (.int .i64 0)] H6 (k34 C n) r34 := rfl
theorem rOps_len (f : Int) : (rOps f).data.toList.length ≤ 3 := by
 by_cases h : 0 ≤ f ∧ f < 16
 · have := of_decide_eq_true (List.all_eq_true.1 (show (List.range 16).all (fun k => decide ((rOps (k : Int)).data.toList.length ≤ 3)) = true by kernel_rfl) f.toNat (List.mem_range.2 (by omega)))
   rwa [show ((f.toNat : Nat) : Int) = f by omega] at this
 · unfold rOps
   rw [if_neg h]
   decide
def opGo (f : Int) (T : List (Bs × Bool)) : Bs → Nat → Ins → Bs → Option (Ins × Bs)
 | [], _, i, lab => some (i, lab)
 | c0 :: r, k, i, lab =>
   if 0 < k ∧ ¬ (2 * k - 1 < T.length ∧ wd T (2 * k - 1) = wantD f k) then none
   else if ¬ 2 * k < T.length then none
   else if (stpD f k (cD f k c0) (wd T (2 * k)) i lab).1 = true then opGo f T r (k + 1) (stpD f k (cD f k c0) (wd T (2 * k)) i lab).2.1 (stpD f k (cD f k c0) (wd T (2 * k)) i lab).2.2
   else none
def LoopR (n N : Nat) (S : Bs) (f : Int) (T : List (Bs × Bool)) (k m : Nat) (lab : Bs) (H : Hp) : Option (Ins × Bs) → Prop
 | none => ∃ fr H', FailD fr H' ∧ ∀ (kx : Nat → Fr → Hp → Option (Out × Hp)) (kr : Fr → Hp → Option (Out × Hp)), lp (s54_b1 (evCall cfc n) N) m [SL T, ptr 12 0, ptr 13 0, .int .i64 f, .string (bs S), .string (bs lab), .int .i64 ((2 * k - 1 : Nat) : Int), .int .i64 k] H kx kr = kr fr H'
 | some p => ∃ H', OpS H' T p.1 ∧ ∀ (kx : Nat → Fr → Hp → Option (Out × Hp)) (kr : Fr → Hp → Option (Out × Hp)), lp (s54_b1 (evCall cfc n) N) m [SL T, ptr 12 0, ptr 13 0, .int .i64 f, .string (bs S), .string (bs lab), .int .i64 ((2 * k - 1 : Nat) : Int), .int .i64 k] H kx kr = kx 0 (Fr.of [1, 4, 5, 6, 7, 8, 10, 11] [SL T, ptr 12 0, dead, dead, ptr 13 0, .int .i64 f, .string (bs p.2), .int .i64 ((2 * S.length - 1 : Nat) : Int)]) H'
theorem op_loop (n N : Nat) (hn : 30 < n) (f : Int) (S : Bs) (hS3 : S.length ≤ 3) (T : List (Bs × Bool)) (hT : T.length ≤ 1000000) (hw : ∀ j, (wd T j).length ≤ 1000000) : ∀ (r : Bs) (k m : Nat), S.drop k = r → r.length < m → k ≤ S.length → ∀ (H : Hp) (i : Ins) (lab : Bs), OpS H T i →
   LoopR n N S f T k m lab H (opGo f T r k i lab) := by
 obtain ⟨q, rfl⟩ : ∃ q, n = q + 1 := ⟨n - 1, by omega⟩
 have hsz : (bs S).size = S.length := by rw [Lib.size_eq, bs_list]
 have h59 : ∀ j H, evCall cfc (q + 1) 52 [.string (bs (wd T j))] H = some (.ret (.tuple #[.int .i64 (numV (wd T j)).1, .bool (numV (wd T j)).2]), H) := fun j H => v52 q _ (by omega) H (hw j)
 have h60 : ∀ j H, evCall cfc (q + 1) 31 [.string (bs (wd T j))] H = some (.ret (.bool (labelV (bs (wd T j)))), H) := fun j H => v31 q _ (by omega) H (by have := hw j; omega)
 have h61 : ∀ (c : UInt8) j H, evCall cfc (q + 1) 51 [.string (bs (wd T j)), .int .u8 c.toNat] H = some (.ret (.tuple #[.int .i64 (regD c (wd T j)).1, .bool (regD c (wd T j)).2]), H) := fun c j H => v51 q c _ (by omega) H (hw j)
 intro r
 induction r with
 | nil =>
   intro k m hd hm hk H i lab hS
   obtain ⟨m, rfl⟩ : ∃ q, m = q + 1 := ⟨m - 1, by omega⟩
   have hkl : k = S.length := by
     have := congrArg List.length hd
     simp only [List.length_drop, List.length_nil] at this
     omega
   have hlt : ((k : Int) < (S.length : Int)) = False := eq_false (by omega)
   refine ⟨H, hS, fun kx kr => ?_⟩
   subst hkl
   rw [lp_succ, s34_parts]
   generalize 2 * S.length - 1 = j
   simp -implicitDefEqProofs only [↓GVdn, GVup, goInt, splice, okC, Fr.of, Fr.ofI, Fr.g, Nat.reduceAdd, Nat.reduceMul, Nat.reduceEqDiff, Nat.reduceLT, Nat.reduceLeDiff, Nat.reduceBEq, Int.reduceLT, Int.reduceLE, Int.reduceToNat, Int.reduceAdd, Int.reduceSub, Int.reduceMul, Int.reduceEq, Int.reduceNeg, ↓reduceIte, ↓reduceDIte, Nat.beq, reduceCtorEq, Value.int.injEq, Nat.reduceSub, sto_ptr, hsz, hlt]
 | cons c0 r ih =>
   intro k m hd hm hk H i lab hS
   obtain ⟨m, rfl⟩ : ∃ q, m = q + 1 := ⟨m - 1, by omega⟩
   obtain ⟨h1, h2, h3⟩ := drop_cons hd
   have hlt : ((k : Int) < (S.length : Int)) = True := eq_true (by omega)
   obtain ⟨x0, hx0⟩ : ∃ x0, (bs S)[0]? = some x0 := by
     cases S with
     | nil => simp at h3
     | cons x S => exact ⟨x, (drop_cons (s := x :: S) (i := 0) rfl).1⟩
   have hA := fun lab at_ H K => a34_eq (evCall cfc (q + 1)) N f S k c0 x0 hS3 h1 h3 hx0 (SL T) (ptr 12 0) (ptr 13 0) lab at_ H K
   have hfr : ∀ (lab at_ : Value) (kn : List Value → Hp → Option (Out × Hp)) (kx : Nat → Fr → Hp → Option (Out × Hp)) (kr : Fr → Hp → Option (Out × Hp)), s54_b1 (evCall cfc (q + 1)) N [SL T, ptr 12 0, ptr 13 0, .int .i64 f, .string (bs S), lab, at_, .int .i64 k] H kn kx kr =
       a34 (evCall cfc (q + 1)) N [SL T, ptr 12 0, ptr 13 0, .int .i64 f, .string (bs S), lab, at_, .int .i64 k] H fun vs12 H13 => b34 (evCall cfc (q + 1)) N vs12 H13 kr fun vs18 H19 => c34 (evCall cfc (q + 1)) N vs18 H19 kr fun vs29 H30 => d34 (evCall cfc (q + 1)) N vs29 H30 kn kr := by
     intro lab at_ kn kx kr
     rw [s34_parts]
     simp -implicitDefEqProofs only [↓GVdn, GVup, goInt, splice, okC, Fr.of, Fr.ofI, Fr.g, Nat.reduceAdd, Nat.reduceMul, Nat.reduceEqDiff, Nat.reduceLT, Nat.reduceLeDiff, Nat.reduceBEq, Int.reduceLT, Int.reduceLE, Int.reduceToNat, Int.reduceAdd, Int.reduceSub, Int.reduceMul, Int.reduceEq, Int.reduceNeg, ↓reduceIte, ↓reduceDIte, Nat.beq, reduceCtorEq, Value.int.injEq, Nat.reduceSub, sto_ptr, hsz, hlt]
   have hB : (0 < k ∧ ¬ (2 * k - 1 < T.length ∧ wd T (2 * k - 1) = wantD f k)) ∨ ∀ (C : Cl) (p1 p2 f' S' lab' c' : Value) (kr : Fr → Hp → Option (Out × Hp)) (K : List Value → Hp → Option (Out × Hp)), b34 C N [SL T, p1, p2, f', S', lab', .int .i64 ((2 * k - 1 : Nat) : Int), .int .i64 k, .string (bs (wantD f k)), c'] H kr K = K [SL T, p1, p2, f', S', lab', .int .i64 ((2 * k : Nat) : Int), .int .i64 k, c'] H := by
     by_cases hk0 : k = 0
     · subst hk0
       exact .inr fun C p1 p2 f' S' lab' c' kr K => b34_0 C N T p1 p2 f' S' lab' _ _ c' H kr K
     · by_cases hb : 2 * k - 1 < T.length ∧ wd T (2 * k - 1) = wantD f k
       · exact .inr fun C p1 p2 f' S' lab' c' kr K => b34_ok C N T k (by omega) _ hb.1 hT hb.2 p1 p2 f' S' lab' c' H i hS kr K
       · exact .inl ⟨by omega, hb⟩
   unfold opGo
   rcases hB with hB | hB
   · rw [if_pos hB]
     obtain ⟨fr, H', hF, hb⟩ := b34_no (evCall cfc (q + 1)) N T k hB.1 (wantD f k) hT hB.2 (.int .i64 f) (.string (bs S)) (.string (bs lab)) (.int .u8 (cD f k c0).toNat) H i hS
     refine ⟨fr, H', hF, fun kx kr => ?_⟩
     rw [lp_succ, hfr, hA, hb]
   · by_cases hB' : 0 < k ∧ ¬ (2 * k - 1 < T.length ∧ wd T (2 * k - 1) = wantD f k)
     · rw [if_pos hB']
       obtain ⟨fr, H', hF, hb⟩ := b34_no (evCall cfc (q + 1)) N T k hB'.1 (wantD f k) hT hB'.2 (.int .i64 f) (.string (bs S)) (.string (bs lab)) (.int .u8 (cD f k c0).toNat) H i hS
       refine ⟨fr, H', hF, fun kx kr => ?_⟩
       rw [lp_succ, hfr, hA, hb]
     · rw [if_neg hB']
       by_cases hj : 2 * k < T.length
       · rw [if_neg (fun h => h hj)]
         obtain ⟨H', hS', hc⟩ := c34_ok (evCall cfc (q + 1)) N T k hj f (.string (bs S)) lab (cD f k c0) (h59 _) (h60 _) (h61 _ _) H i hS
         generalize stpD f k (cD f k c0) (wd T (2 * k)) i lab = p at hS' hc ⊢
         obtain ⟨b, i2, lab2⟩ := p
         simp only at hS' hc ⊢
         cases b with
         | true =>
           rw [if_pos rfl]
           have ih := ih (k + 1) m h2 (by simp at hm; omega) (by omega) H' i2 lab2 hS'
           cases hg : opGo f T r (k + 1) i2 lab2 with
           | none =>
             rw [hg] at ih
             obtain ⟨fr, H2, hF, hl⟩ := ih
             refine ⟨fr, H2, hF, fun kx kr => ?_⟩
             rw [← hl kx kr, lp_succ, hfr, hA, hB, hc, d34_ok _ _ _ _ _ _ _ _ _ (by omega)]
           | some p =>
             rw [hg] at ih
             obtain ⟨H2, hF, hl⟩ := ih
             refine ⟨H2, hF, fun kx kr => ?_⟩
             rw [← hl kx kr, lp_succ, hfr, hA, hB, hc, d34_ok _ _ _ _ _ _ _ _ _ (by omega)]
         | false =>
           rw [if_neg (by simp)]
           obtain ⟨fr, H2, hF, hd⟩ := d34_no (evCall cfc (q + 1)) N T (.int .i64 f) (.string (bs S)) (.string (bs lab2)) (.int .i64 ((2 * k : Nat) : Int)) (.int .i64 k) H' i2 hS'
           refine ⟨fr, H2, hF, fun kx kr => ?_⟩
           rw [lp_succ, hfr, hA, hB, hc, hd]
       · rw [if_pos hj]
         obtain ⟨fr, H', hF, hc⟩ := c34_no (evCall cfc (q + 1)) N T k hj (.int .i64 f) (.string (bs S)) (.string (bs lab)) (.int .i64 k) (.int .u8 (cD f k c0).toNat) H i hS
         refine ⟨fr, H', hF, fun kx kr => ?_⟩
         rw [lp_succ, hfr, hA, hB, hc]
def opR (p : Ins × Bs × Bool) : Value := .tuple #[p.1.val, .string (bs p.2.1), .bool p.2.2]
def opGood (f : Int) (T : List (Bs × Bool)) (a : Nat) (i : Ins) : Prop := ((f = 5 ∨ f = 6) → (a < T.length ∧ wd T a = [41]) ∧ T.length = a + 1) ∧ (¬ (f = 5 ∨ f = 6) → T.length = a) ∧ chkV i.op i.A i.B i.C i.I = 0
theorem r34_eq (fr : Fr) (H : Hp) (h : FailD fr H) : ∃ i, r34 fr H = some (.ret (opR (i, [], false)), H) := by
 obtain ⟨h1, h2, h3, i, h4⟩ := h
 refine ⟨i, ?_⟩
 have zlen : i.cells.length = 5 := rfl
 have ztk : i.cells.take 5 = i.cells := rfl
 unfold r34
 rw [h1, h2, h3]
 simp -implicitDefEqProofs only [↓GVdn, GVup, goInt, splice, okC, Fr.of, Fr.ofI, Fr.g, Nat.reduceAdd, Nat.reduceMul, Nat.reduceEqDiff, Nat.reduceLT, Nat.reduceLeDiff, Nat.reduceBEq, Int.reduceLT, Int.reduceLE, Int.reduceToNat, Int.reduceAdd, Int.reduceSub, Int.reduceMul, Int.reduceEq, Int.reduceNeg, ↓reduceIte, ↓reduceDIte, Nat.beq, reduceCtorEq, Value.int.injEq, Nat.reduceSub, sto_ptr, h4, zlen, ztk]
 rfl
theorem k34_eq (C : Cl) (n : Nat) (f : Int) (T : List (Bs × Bool)) (hT : T.length ≤ 1000000) (a : Nat) (ha : a ≤ 1000000) (lab : Bs) (H : Hp) (i : Ins) (hS : OpS H T i) (h26 : ∀ H, C 33 [i.val] H = some (.ret (.int .i64 (chkV i.op i.A i.B i.C i.I)), H)) : ∃ p H', k34 C n 0 (Fr.of [1, 4, 5, 6, 7, 8, 10, 11] [SL T, ptr 12 0, dead, dead, ptr 13 0, .int .i64 f, .string (bs lab), .int .i64 a]) H = some (.ret (opR p), H') ∧ (opGood f T a i → p = (i, lab, true)) ∧ (¬ opGood f T a i → p.2.2 = false) := by
 obtain ⟨hld, hst, hc⟩ := hS.fail
 have zlen : i.cells.length = 5 := rfl
 have ztk : i.cells.take 5 = i.cells := rfl
 have hlim := hS.lim
 have hrow := hS.row
 have hval : i.val = .agg i.cells.toArray := rfl
 rw [hval] at h26
 have h26 := h26
 unfold SL
 have fin : ∀ b : Nat, b ≤ 1000001 → ((f = 5 ∨ f = 6) → (a < T.length ∧ wd T a = [41]) ∧ b = a + 1) → (¬ (f = 5 ∨ f = 6) → b = a) → ∃ p H', k34 C n 0 (Fr.of [1, 4, 5, 6, 7, 8, 10, 11] [SL T, ptr 12 0, dead, dead, ptr 13 0, .int .i64 f, .string (bs lab), .int .i64 a]) H = some (.ret (opR p), H') ∧ (opGood f T a i → p = (i, lab, true)) ∧ (¬ opGood f T a i → p.2.2 = false) := by
   intro b hb1 hb2 hb3
   unfold SL
   have hw1 : (f = 5 ∨ f = 6) → IntKind.wrap .i64 ((a : Int) + 1) = (b : Int) := fun h => by rw [IntWalk.i64_in _ (by omega), (hb2 h).2]; rfl
   have hg : (f = 5 ∨ f = 6) → (tkc T)[a * 2]? = some (.string (bs [41])) := fun h => by rw [hS.get (hb2 h).1.1, (hb2 h).1.2]
   have hlt : (f = 5 ∨ f = 6) → ((T.length : Int) ≤ (a : Int)) = False := fun h => eq_false (by have := (hb2 h).1.1; omega)
   have hlt2 : (f = 5 ∨ f = 6) → ((a : Int) < (T.length : Int)) = True := fun h => eq_true (by have := (hb2 h).1.1; omega)
   have he : (bs [41] : ByteArray) = ⟨#[41]⟩ := rfl
   by_cases hl : b = T.length
   · have hl1 : ((b : Int) = (T.length : Int)) = True := eq_true (by omega)
     have hl2 : ¬ (f = 5 ∨ f = 6) → ((a : Int) = (T.length : Int)) = True := fun h => eq_true (by have := hb3 h; omega)
     by_cases hk : chkV i.op i.A i.B i.C i.I = 0
     · refine ⟨(i, lab, true), H.set 12 (.rw i.cells), ?_, fun _ => rfl, fun h => absurd ⟨fun f56 => ⟨(hb2 f56).1, by rw [← hl]; exact (hb2 f56).2⟩, fun f56 => by rw [← hl]; exact hb3 f56, hk⟩ h⟩
       by_cases f5 : f = 5
       · have w1 := hw1 (.inl f5); have w2 := hg (.inl f5); have w3 := hlt (.inl f5); have w4 := hlt2 (.inl f5)
         simp -implicitDefEqProofs only [k34, ↓GVdn, GVup, goInt, splice, okC, Fr.of, Fr.ofI, Fr.g, Nat.reduceAdd, Nat.reduceMul, Nat.reduceEqDiff, Nat.reduceLT, Nat.reduceLeDiff, Nat.reduceBEq, Int.reduceLT, Int.reduceLE, Int.reduceToNat, Int.reduceAdd, Int.reduceSub, Int.reduceMul, Int.reduceEq, Int.reduceNeg, ↓reduceIte, ↓reduceDIte, Nat.beq, reduceCtorEq, Value.int.injEq, Nat.reduceSub, opn_lim, f5, hrow, w1, w2, w3, w4, he, hl1, hld, hst, hc, zlen, ztk, h26, hk]
         rfl
       · by_cases f6 : f = 6
         · have w1 := hw1 (.inr f6); have w2 := hg (.inr f6); have w3 := hlt (.inr f6); have w4 := hlt2 (.inr f6)
           simp -implicitDefEqProofs only [k34, ↓GVdn, GVup, goInt, splice, okC, Fr.of, Fr.ofI, Fr.g, Nat.reduceAdd, Nat.reduceMul, Nat.reduceEqDiff, Nat.reduceLT, Nat.reduceLeDiff, Nat.reduceBEq, Int.reduceLT, Int.reduceLE, Int.reduceToNat, Int.reduceAdd, Int.reduceSub, Int.reduceMul, Int.reduceEq, Int.reduceNeg, ↓reduceIte, ↓reduceDIte, Nat.beq, reduceCtorEq, Value.int.injEq, Nat.reduceSub, opn_lim, f5, f6, hrow, w1, w2, w3, w4, he, hl1, hld, hst, hc, zlen, ztk, h26, hk]
           rfl
         · have w1 := hl2 (by omega)
           simp -implicitDefEqProofs only [k34, ↓GVdn, GVup, goInt, splice, okC, Fr.of, Fr.ofI, Fr.g, Nat.reduceAdd, Nat.reduceMul, Nat.reduceEqDiff, Nat.reduceLT, Nat.reduceLeDiff, Nat.reduceBEq, Int.reduceLT, Int.reduceLE, Int.reduceToNat, Int.reduceAdd, Int.reduceSub, Int.reduceMul, Int.reduceEq, Int.reduceNeg, ↓reduceIte, ↓reduceDIte, Nat.beq, reduceCtorEq, Value.int.injEq, Nat.reduceSub, opn_lim, f5, f6, hrow, w1, hld, hst, hc, zlen, ztk, h26, hk]
           rfl
     · have hkd : (chkV i.op i.A i.B i.C i.I = 0) = False := eq_false hk
       refine ⟨(i, lab, false), H.set 12 (.rw i.cells), ?_, fun h => absurd h.2.2 hk, fun _ => rfl⟩
       by_cases f5 : f = 5
       · have w1 := hw1 (.inl f5); have w2 := hg (.inl f5); have w3 := hlt (.inl f5); have w4 := hlt2 (.inl f5)
         simp -implicitDefEqProofs only [k34, ↓GVdn, GVup, goInt, splice, okC, Fr.of, Fr.ofI, Fr.g, Nat.reduceAdd, Nat.reduceMul, Nat.reduceEqDiff, Nat.reduceLT, Nat.reduceLeDiff, Nat.reduceBEq, Int.reduceLT, Int.reduceLE, Int.reduceToNat, Int.reduceAdd, Int.reduceSub, Int.reduceMul, Int.reduceEq, Int.reduceNeg, ↓reduceIte, ↓reduceDIte, Nat.beq, reduceCtorEq, Value.int.injEq, Nat.reduceSub, opn_lim, f5, hrow, w1, w2, w3, w4, he, hl1, hld, hst, hc, zlen, ztk, h26, hkd]
         rfl
       · by_cases f6 : f = 6
         · have w1 := hw1 (.inr f6); have w2 := hg (.inr f6); have w3 := hlt (.inr f6); have w4 := hlt2 (.inr f6)
           simp -implicitDefEqProofs only [k34, ↓GVdn, GVup, goInt, splice, okC, Fr.of, Fr.ofI, Fr.g, Nat.reduceAdd, Nat.reduceMul, Nat.reduceEqDiff, Nat.reduceLT, Nat.reduceLeDiff, Nat.reduceBEq, Int.reduceLT, Int.reduceLE, Int.reduceToNat, Int.reduceAdd, Int.reduceSub, Int.reduceMul, Int.reduceEq, Int.reduceNeg, ↓reduceIte, ↓reduceDIte, Nat.beq, reduceCtorEq, Value.int.injEq, Nat.reduceSub, opn_lim, f5, f6, hrow, w1, w2, w3, w4, he, hl1, hld, hst, hc, zlen, ztk, h26, hkd]
           rfl
         · have w1 := hl2 (by omega)
           simp -implicitDefEqProofs only [k34, ↓GVdn, GVup, goInt, splice, okC, Fr.of, Fr.ofI, Fr.g, Nat.reduceAdd, Nat.reduceMul, Nat.reduceEqDiff, Nat.reduceLT, Nat.reduceLeDiff, Nat.reduceBEq, Int.reduceLT, Int.reduceLE, Int.reduceToNat, Int.reduceAdd, Int.reduceSub, Int.reduceMul, Int.reduceEq, Int.reduceNeg, ↓reduceIte, ↓reduceDIte, Nat.beq, reduceCtorEq, Value.int.injEq, Nat.reduceSub, opn_lim, f5, f6, hrow, w1, hld, hst, hc, zlen, ztk, h26, hkd]
           rfl
   · have hl1 : ((b : Int) = (T.length : Int)) = False := eq_false (by omega)
     have hl2 : ¬ (f = 5 ∨ f = 6) → ((a : Int) = (T.length : Int)) = False := fun h => eq_false (by have := hb3 h; omega)
     refine ⟨(i, lab, false), H.set 12 (.rw i.cells), ?_, fun h => ?_, fun _ => rfl⟩
     · by_cases f5 : f = 5
       · have w1 := hw1 (.inl f5); have w2 := hg (.inl f5); have w3 := hlt (.inl f5); have w4 := hlt2 (.inl f5)
         simp -implicitDefEqProofs only [k34, ↓GVdn, GVup, goInt, splice, okC, Fr.of, Fr.ofI, Fr.g, Nat.reduceAdd, Nat.reduceMul, Nat.reduceEqDiff, Nat.reduceLT, Nat.reduceLeDiff, Nat.reduceBEq, Int.reduceLT, Int.reduceLE, Int.reduceToNat, Int.reduceAdd, Int.reduceSub, Int.reduceMul, Int.reduceEq, Int.reduceNeg, ↓reduceIte, ↓reduceDIte, Nat.beq, reduceCtorEq, Value.int.injEq, Nat.reduceSub, opn_lim, f5, hrow, w1, w2, w3, w4, he, hl1, hld, hst, hc, zlen, ztk]
         rfl
       · by_cases f6 : f = 6
         · have w1 := hw1 (.inr f6); have w2 := hg (.inr f6); have w3 := hlt (.inr f6); have w4 := hlt2 (.inr f6)
           simp -implicitDefEqProofs only [k34, ↓GVdn, GVup, goInt, splice, okC, Fr.of, Fr.ofI, Fr.g, Nat.reduceAdd, Nat.reduceMul, Nat.reduceEqDiff, Nat.reduceLT, Nat.reduceLeDiff, Nat.reduceBEq, Int.reduceLT, Int.reduceLE, Int.reduceToNat, Int.reduceAdd, Int.reduceSub, Int.reduceMul, Int.reduceEq, Int.reduceNeg, ↓reduceIte, ↓reduceDIte, Nat.beq, reduceCtorEq, Value.int.injEq, Nat.reduceSub, opn_lim, f5, f6, hrow, w1, w2, w3, w4, he, hl1, hld, hst, hc, zlen, ztk]
           rfl
         · have w1 := hl2 (by omega)
           simp -implicitDefEqProofs only [k34, ↓GVdn, GVup, goInt, splice, okC, Fr.of, Fr.ofI, Fr.g, Nat.reduceAdd, Nat.reduceMul, Nat.reduceEqDiff, Nat.reduceLT, Nat.reduceLeDiff, Nat.reduceBEq, Int.reduceLT, Int.reduceLE, Int.reduceToNat, Int.reduceAdd, Int.reduceSub, Int.reduceMul, Int.reduceEq, Int.reduceNeg, ↓reduceIte, ↓reduceDIte, Nat.beq, reduceCtorEq, Value.int.injEq, Nat.reduceSub, opn_lim, f5, f6, hrow, w1, hld, hst, hc, zlen, ztk]
           rfl
     · by_cases f56 : f = 5 ∨ f = 6
       · exact absurd ((hb2 f56).2.trans (h.1 f56).2.symm) hl
       · exact absurd ((hb3 f56).trans (h.2.1 f56).symm) hl
 by_cases f56 : f = 5 ∨ f = 6
 · by_cases hp : a < T.length ∧ wd T a = [41]
   · exact fin (a + 1) (by omega) (fun _ => ⟨hp, rfl⟩) (fun h => absurd f56 h)
   · refine ⟨(i, [], false), H.set 12 (.rw i.cells), ?_, fun h => absurd (h.1 f56).1 hp, fun _ => rfl⟩
     have he : (bs [] : ByteArray) = ⟨#[]⟩ := rfl
     by_cases hj : a < T.length
     · have w2 := hS.get hj
       have w3 : ((T.length : Int) ≤ (a : Int)) = False := eq_false (by omega)
       have w4 : ((a : Int) < (T.length : Int)) = True := eq_true (by omega)
       have w5 : (bs (wd T a) = ⟨#[41]⟩) = False := eq_false (fun e => hp ⟨hj, bs_inj (b := [41]) e⟩)
       by_cases f5 : f = 5
       · simp -implicitDefEqProofs only [k34, ↓GVdn, GVup, goInt, splice, okC, Fr.of, Fr.ofI, Fr.g, Nat.reduceAdd, Nat.reduceMul, Nat.reduceEqDiff, Nat.reduceLT, Nat.reduceLeDiff, Nat.reduceBEq, Int.reduceLT, Int.reduceLE, Int.reduceToNat, Int.reduceAdd, Int.reduceSub, Int.reduceMul, Int.reduceEq, Int.reduceNeg, ↓reduceIte, ↓reduceDIte, Nat.beq, reduceCtorEq, Value.int.injEq, Nat.reduceSub, opn_lim, f5, hrow, w2, w3, w4, w5, hld, hst, hc, zlen, ztk]
         rfl
       · have f6 : f = 6 := by omega
         simp -implicitDefEqProofs only [k34, ↓GVdn, GVup, goInt, splice, okC, Fr.of, Fr.ofI, Fr.g, Nat.reduceAdd, Nat.reduceMul, Nat.reduceEqDiff, Nat.reduceLT, Nat.reduceLeDiff, Nat.reduceBEq, Int.reduceLT, Int.reduceLE, Int.reduceToNat, Int.reduceAdd, Int.reduceSub, Int.reduceMul, Int.reduceEq, Int.reduceNeg, ↓reduceIte, ↓reduceDIte, Nat.beq, reduceCtorEq, Value.int.injEq, Nat.reduceSub, opn_lim, f5, f6, hrow, w2, w3, w4, w5, hld, hst, hc, zlen, ztk]
         rfl
     · have w3 : ((T.length : Int) ≤ (a : Int)) = True := eq_true (by omega)
       by_cases f5 : f = 5
       · simp -implicitDefEqProofs only [k34, ↓GVdn, GVup, goInt, splice, okC, Fr.of, Fr.ofI, Fr.g, Nat.reduceAdd, Nat.reduceMul, Nat.reduceEqDiff, Nat.reduceLT, Nat.reduceLeDiff, Nat.reduceBEq, Int.reduceLT, Int.reduceLE, Int.reduceToNat, Int.reduceAdd, Int.reduceSub, Int.reduceMul, Int.reduceEq, Int.reduceNeg, ↓reduceIte, ↓reduceDIte, Nat.beq, reduceCtorEq, Value.int.injEq, Nat.reduceSub, opn_lim, f5, hrow, w3, hld, hst, hc, zlen, ztk]
         rfl
       · have f6 : f = 6 := by omega
         simp -implicitDefEqProofs only [k34, ↓GVdn, GVup, goInt, splice, okC, Fr.of, Fr.ofI, Fr.g, Nat.reduceAdd, Nat.reduceMul, Nat.reduceEqDiff, Nat.reduceLT, Nat.reduceLeDiff, Nat.reduceBEq, Int.reduceLT, Int.reduceLE, Int.reduceToNat, Int.reduceAdd, Int.reduceSub, Int.reduceMul, Int.reduceEq, Int.reduceNeg, ↓reduceIte, ↓reduceDIte, Nat.beq, reduceCtorEq, Value.int.injEq, Nat.reduceSub, opn_lim, f5, f6, hrow, w3, hld, hst, hc, zlen, ztk]
         rfl
 · exact fin a (by omega) (fun h => absurd h f56) (fun _ => rfl)
theorem q54 (n : Nat) (H : Hp) {b o : Nat} {CL : List Value} {T : List (Bs × Bool)} (x0 : Value) (hx0 : flat x0 = true) (hc : H.cells b = some CL) (hr : (CL.drop o).take (T.length * 2) = tkc T) (hl : o + T.length * 2 ≤ CL.length) :
   evCall cfc (n+1) 54 [x0, .slice (some ⟨b, o, none⟩) T.length 2] H = movR [(b, o, tkc T)] H (s54 (evCall cfc n) n x0 (SL T) (Hp.cl (Hp.fl.new (.ro (tkc T))))) := by
 have hp : pkA H [x0, .slice (some ⟨b, o, none⟩) T.length 2] [] = some ([x0, .slice (some ⟨11, 0, none⟩) T.length 2], [(b, o, tkc T)]) := by
   have hfl : flat (.slice (some ⟨b, o, none⟩) T.length 2) = false := rfl
   simp only [pkA, pkV, hx0, hfl, hc, Option.bind_some, hr, Bool.false_eq_true, if_false, if_true]
   rw [if_pos ⟨hl, tkc_flat T⟩]
   rfl
 rw [evCall_pk (fn := Tryz.f54) (by rfl) (by rfl) Tryz.func54 (by rfl) hp]
 exact congrArg (movR _ H) (s54_eq _ _ _ _ _)
theorem v54 (n : Nat) (hn : 60 < n) (H : Hp) {b o : Nat} {CL : List Value} {T : List (Bs × Bool)} (hc : H.cells b = some CL) (hr : (CL.drop o).take (T.length * 2) = tkc T) (hl : o + T.length * 2 ≤ CL.length) (op : Int) (hT : T.length ≤ 1000000) (hw : ∀ j, (wd T j).length ≤ 1000000) :
   ∃ p, evCall cfc (n+1) 54 [.int .i64 op, .slice (some ⟨b, o, none⟩) T.length 2] H = some (.ret (opR p), H) ∧
     (∀ i lab, opGo (formV op) T (rOps (formV op)).data.toList 0 ⟨op, 0, 0, 0, 0⟩ [] = some (i, lab) → opGood (formV op) T (2 * (rOps (formV op)).data.toList.length - 1) i → p = (i, lab, true)) ∧
     ((∀ i lab, opGo (formV op) T (rOps (formV op)).data.toList 0 ⟨op, 0, 0, 0, 0⟩ [] = some (i, lab) → ¬ opGood (formV op) T (2 * (rOps (formV op)).data.toList.length - 1) i) → p.2.2 = false) := by
 obtain ⟨q, rfl⟩ : ∃ q, n = q + 60 := ⟨n - 60, by omega⟩
 rw [q54 _ H _ rfl hc hr hl]
 have fin : ∀ (p : Ins × Bs × Bool) (H' : Hp), movR [(b, o, tkc T)] H (some (.ret (opR p), H')) = some (.ret (opR p), H) := fun p H' => movR_flat (show flat (opR p) = true from rfl)
 have hS3 := rOps_len (formV op)
 have h28 := fun H => v28f (q + 58) H op
 have h27 := fun H => v55 (q + 58) H op
 have hb : rOps (formV op) = bs (rOps (formV op)).data.toList := (list_bs _).symm
 rw [hb] at h28
 generalize (rOps (formV op)).data.toList = S at *
 generalize hH0 : Hp.cl (Hp.fl.new (.ro (tkc T))) = H0
 have n0 : H0.next = 12 := by subst hH0; rfl
 have l0 : H0.lim = 12 := by subst hH0; rfl
 have c0 : H0.cells 11 = some (tkc T) := by subst hH0; rfl
 have hI : OpS (((H0.new (.rw [.int .i64 0, .int .i64 0, .int .i64 0, .int .i64 0, .int .i64 0])).new (.rw [.int .i64 0, .int .i64 0, .int .i64 0, .int .i64 0, .int .i64 0])).set 13 (.rw [.int .i64 op, .int .i64 0, .int .i64 0, .int .i64 0, .int .i64 0])) T ⟨op, 0, 0, 0, 0⟩ :=
   ⟨by simp -implicitDefEqProofs only [cells_new, cells_set, Hp.next_new, Hp.next_set, n0, c0]; rfl,
    ⟨zer, by simp -implicitDefEqProofs only [rwc_new, rwc_set, Hp.next_new, Hp.next_set, n0]; rfl⟩,
    by simp -implicitDefEqProofs only [rwc_new, rwc_set, Hp.next_new, Hp.next_set, n0]; rfl,
    by simp only [Hp.lim_new, Hp.lim_set, l0]; exact Nat.le_refl _⟩
 have hL := op_loop (q + 60) (q + 60) (by omega) (formV op) S hS3 T hT hw S 0 (q + 60) rfl (by omega) (by omega) _ _ [] hI
 have lim1 : (12 ≤ 13) = True := eq_true (by omega)
 have hs : ∀ X, lp (s54_b1 (evCall cfc (q + 60)) (q + 60)) (q + 60) [SL T, ptr 12 0, ptr 13 0, .int .i64 (formV op), .string (bs S), .string ⟨#[]⟩, .int .i64 0, .int .i64 0] (((H0.new (.rw [.int .i64 0, .int .i64 0, .int .i64 0, .int .i64 0, .int .i64 0])).new (.rw [.int .i64 0, .int .i64 0, .int .i64 0, .int .i64 0, .int .i64 0])).set 13 (.rw [.int .i64 op, .int .i64 0, .int .i64 0, .int .i64 0, .int .i64 0])) (k34 (evCall cfc (q + 60)) (q + 60)) r34 = X → s54 (evCall cfc (q + 60)) (q + 60) (.int .i64 op) (SL T) H0 = X := by
   intro X hX
   rw [← hX, s34_k]
   generalize k34 (evCall cfc (q + 60)) (q + 60) = kx
   generalize r34 = kr
   simp -implicitDefEqProofs only [↓GVdn, GVup, goInt, splice, okC, Fr.of, Fr.ofI, Fr.g, Nat.reduceAdd, Nat.reduceMul, Nat.reduceEqDiff, Nat.reduceLT, Nat.reduceLeDiff, Nat.reduceBEq, Int.reduceLT, Int.reduceLE, Int.reduceToNat, Int.reduceAdd, Int.reduceSub, Int.reduceMul, Int.reduceEq, Int.reduceNeg, ↓reduceIte, ↓reduceDIte, Nat.beq, reduceCtorEq, Value.int.injEq, Nat.reduceSub, sto_ptr, n0, l0, lim1, h27, h28]
 cases hg : opGo (formV op) T S 0 ⟨op, 0, 0, 0, 0⟩ [] with
 | none =>
   rw [hg] at hL
   obtain ⟨fr, H', hF, hl⟩ := hL
   obtain ⟨i, hi⟩ := r34_eq fr H' hF
   refine ⟨(i, [], false), ?_, fun i lab h => absurd h (by simp), fun _ => rfl⟩
   rw [hs _ ((hl _ _).trans hi)]
   exact fin _ _
 | some pr =>
   rw [hg] at hL
   obtain ⟨i, lab⟩ := pr
   obtain ⟨H', hO, hl⟩ := hL
   obtain ⟨p, H2, hp, hgd, hbd⟩ := k34_eq (evCall cfc (q + 60)) (q + 60) (formV op) T hT (2 * S.length - 1) (by omega) lab H' i hO (fun H => v33 (q + 54) H i.op i.A i.B i.C i.I)
   refine ⟨p, ?_, fun i' lab' h hG => ?_, fun h => hbd (h i lab rfl)⟩
   · rw [hs _ ((hl _ _).trans hp)]
     exact fin _ _
   · cases h
     exact hgd hG
end Go.Proofs.YtbaooebafijenaaGreatDoor
