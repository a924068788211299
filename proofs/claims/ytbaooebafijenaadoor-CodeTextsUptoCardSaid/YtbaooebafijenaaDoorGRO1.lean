/- The document's operands. -/
import Derived.Test.YtbaooebafijenaaDoorGRN2
import Derived.Test.YtbaooebafijenaaDoorGCodeC
import Derived.Test.YtbaooebafijenaaDoorGIns
import Derived.Test.YtbaooebafijenaaDoorGvBun
namespace Go.Proofs.YtbaooebafijenaaDoor
open Go Go.Ev
set_option maxRecDepth 100000
set_option linter.unusedSimpArgs false
set_option linter.unusedVariables false
set_option maxHeartbeats 4000000
set_option linter.unusedSectionVars false
variable [Mx]
attribute [local congr] bind_front callK_front jn_front ifB_front ifG_front lp_front
noncomputable def a34 (C : Cl) (n : Nat) (vs7 : List Value) (H8 : Hp) (K : List Value → Hp → Option (Out × Hp)) : Option (Out × Hp) :=
 (sx (vs7.getD 4 dead) (vs7.getD 7 dead)).bind fun t31 =>
 jn ((bin 0 .eql (vs7.getD 3 dead) (.int .i64 5)).bind fun t33 =>
 (ifG t33 false (some ((vs7.getD 3 dead), H8)) (some (undef, H8))).bind fun p14 =>
 (ifG t33 false ((bin 0 .eql p14.1 (.int .i64 6)).bind fun t36 =>
 some (t36, p14.2)) (some (undef, p14.2))).bind fun p15 =>
 (pick t33 (.bool true) p15.1).bind fun t37 =>
 ifB t37 ((fillL (plA 1) [(.string ⟨#[]⟩), (.string ⟨#[]⟩), (.string ⟨#[]⟩)] [(0, (.string ⟨#[]⟩)), (1, (.string ⟨#[44]⟩)), (2, (.string ⟨#[40]⟩))]).bind fun c16 =>
 (ix false 3 1 (.agg c16.toArray) (vs7.getD 7 dead)).bind fun t40 =>
 (sx (vs7.getD 4 dead) (.int .i64 0)).bind fun t42 =>
 (fillL (plA 1) [(.int .u8 0), (.int .u8 0), (.int .u8 0)] [(0, t42), (1, (.int .u8 105)), (2, (.int .u8 114))]).bind fun c17 =>
 (ix false 3 1 (.agg c17.toArray) (vs7.getD 7 dead)).bind fun t45 =>
 some (.nrm [(vs7.getD 0 dead), (vs7.getD 1 dead), (vs7.getD 2 dead), (vs7.getD 3 dead), (vs7.getD 4 dead), (vs7.getD 5 dead), (vs7.getD 6 dead), (vs7.getD 7 dead), t40, t45] p15.2)) (some (.nrm [(vs7.getD 0 dead), (vs7.getD 1 dead), (vs7.getD 2 dead), (vs7.getD 3 dead), (vs7.getD 4 dead), (vs7.getD 5 dead), (vs7.getD 6 dead), (vs7.getD 7 dead), (.string ⟨#[44]⟩), t31] p15.2))) pnK noX noR K
noncomputable def b34 (C : Cl) (n : Nat) (vs12 : List Value) (H13 : Hp) (kr11 : Fr → Hp → Option (Out × Hp)) (K : List Value → Hp → Option (Out × Hp)) : Option (Out × Hp) :=
 jn ((bin 0 .gtr (vs12.getD 7 dead) (.int .i64 0)).bind fun t47 =>
 ifB t47 ((len 1 (vs12.getD 0 dead) H13).bind fun t50 =>
 (bin 0 .geq (vs12.getD 6 dead) t50).bind fun t51 =>
 (ifG t51 false (some ((vs12.getD 0 dead), H13)) (some (undef, H13))).bind fun p20 =>
 (ifG t51 false (some ((vs12.getD 6 dead), p20.2)) (some (undef, p20.2))).bind fun p21 =>
 (ifG t51 false ((sa 2 p20.1 p21.1).bind fun t55 =>
 some (t55, p21.2)) (some (undef, p21.2))).bind fun p22 =>
 (ifG t51 false ((fa 0 p22.1).bind fun t56 =>
 some (t56, p22.2)) (some (undef, p22.2))).bind fun p23 =>
 (ifG t51 false ((ld p23.1 p23.2).bind fun t57 =>
 some (t57, p23.2)) (some (undef, p23.2))).bind fun p24 =>
 (ifG t51 false (some ((vs12.getD 8 dead), p24.2)) (some (undef, p24.2))).bind fun p25 =>
 (ifG t51 false ((bin 0 .neq p24.1 p25.1).bind fun t59 =>
 some (t59, p25.2)) (some (undef, p25.2))).bind fun p26 =>
 (pick t51 (.bool true) p26.1).bind fun t60 =>
 ifB t60 ((ldN 5 (vs12.getD 2 dead) p26.2).bind fun t61 =>
 (st 5 (vs12.getD 1 dead) t61 p26.2).bind fun H27 =>
 some (.rt (Fr.of [4, 5, 6] [(vs12.getD 1 dead), (.string ⟨#[]⟩), (.bool false)]) H27)) ((bin 0 .add (vs12.getD 6 dead) (.int .i64 1)).bind fun t63 =>
 some (.nrm [(vs12.getD 0 dead), (vs12.getD 1 dead), (vs12.getD 2 dead), (vs12.getD 3 dead), (vs12.getD 4 dead), (vs12.getD 5 dead), t63, (vs12.getD 7 dead), (vs12.getD 9 dead)] p26.2))) (some (.nrm [(vs12.getD 0 dead), (vs12.getD 1 dead), (vs12.getD 2 dead), (vs12.getD 3 dead), (vs12.getD 4 dead), (vs12.getD 5 dead), (vs12.getD 6 dead), (vs12.getD 7 dead), (vs12.getD 9 dead)] H13))) pnK noX (fun f63 H64 => kr11 (Fr.of [1, 4, 5, 6, 7, 8, 10, 11] [(f63.g 1), (f63.g 4), (f63.g 5), (f63.g 6), (f63.g 7), (f63.g 8), (f63.g 10), (f63.g 11)]) H64) K
noncomputable def c34 (C : Cl) (n : Nat) (vs18 : List Value) (H19 : Hp) (kr11 : Fr → Hp → Option (Out × Hp)) (K : List Value → Hp → Option (Out × Hp)) : Option (Out × Hp) :=
  (len 1 (vs18.getD 0 dead) H19).bind fun t66 =>
 (bin 0 .geq (vs18.getD 6 dead) t66).bind fun t67 =>
 ifB t67 ((ldN 5 (vs18.getD 2 dead) H19).bind fun t68 =>
 (st 5 (vs18.getD 1 dead) t68 H19).bind fun H28 =>
 kr11 (Fr.of [1, 4, 5, 6, 7, 8, 10, 11] [(vs18.getD 0 dead), (vs18.getD 1 dead), (.string ⟨#[]⟩), (.bool false), (vs18.getD 2 dead), (vs18.getD 3 dead), (vs18.getD 5 dead), (vs18.getD 6 dead)]) H28) (jn ((bin 0 .eql (vs18.getD 8 dead) (.int .u8 105)).bind fun t70 =>
 ifB t70 ((sa 2 (vs18.getD 0 dead) (vs18.getD 6 dead)).bind fun t74 =>
 (fa 0 t74).bind fun t75 =>
 (ld t75 H19).bind fun t76 =>
 callK (C 59 [t76] H19) pnJ fun t77 H31 =>
 (ext1 t77 0).bind fun t78 =>
 (ext1 t77 1).bind fun t79 =>
 jn ((un .not t79).bind fun t81 =>
 (ifG t81 true (some ((vs18.getD 3 dead), H31)) (some (undef, H31))).bind fun p34 =>
 (ifG t81 true ((bin 0 .eql p34.1 (.int .i64 7)).bind fun t84 =>
 some (t84, p34.2)) (some (undef, p34.2))).bind fun p35 =>
 (ifG t81 true (some (p35.1, p35.2)) (some (undef, p35.2))).bind fun p36 =>
 (ifG p36.1 false (some ((vs18.getD 3 dead), p36.2)) (some (undef, p36.2))).bind fun p37 =>
 (ifG p36.1 false ((bin 0 .eql p37.1 (.int .i64 8)).bind fun t87 =>
 some (t87, p37.2)) (some (undef, p37.2))).bind fun p38 =>
 (ifG t81 true ((pick p36.1 (.bool true) p38.1).bind fun t88 =>
 some (t88, p38.2)) (some (undef, p38.2))).bind fun p39 =>
 (pick t81 p39.1 (.bool false)).bind fun t89 =>
 (ifG t89 true (some ((vs18.getD 0 dead), p39.2)) (some (undef, p39.2))).bind fun p40 =>
 (ifG t89 true (some ((vs18.getD 6 dead), p40.2)) (some (undef, p40.2))).bind fun p41 =>
 (ifG t89 true ((sa 2 p40.1 p41.1).bind fun t93 =>
 some (t93, p41.2)) (some (undef, p41.2))).bind fun p42 =>
 (ifG t89 true ((fa 0 p42.1).bind fun t94 =>
 some (t94, p42.2)) (some (undef, p42.2))).bind fun p43 =>
 (ifG t89 true ((ld p43.1 p43.2).bind fun t95 =>
 some (t95, p43.2)) (some (undef, p43.2))).bind fun p44 =>
 (ifG t89 true (callK (C 60 [p44.1] p44.2) pnN fun t96 H45 =>
 some (t96, H45)) (some (undef, p44.2))).bind fun p46 =>
 (pick t89 p46.1 (.bool false)).bind fun t97 =>
 ifB t97 ((sa 2 (vs18.getD 0 dead) (vs18.getD 6 dead)).bind fun t100 =>
 (fa 0 t100).bind fun t101 =>
 (ld t101 p46.2).bind fun t102 =>
 some (.nrm [(vs18.getD 0 dead), (vs18.getD 1 dead), (vs18.getD 2 dead), (vs18.getD 3 dead), (vs18.getD 4 dead), t102, (vs18.getD 6 dead), (vs18.getD 7 dead), (.int .i64 0), (.bool true)] p46.2)) (some (.nrm [(vs18.getD 0 dead), (vs18.getD 1 dead), (vs18.getD 2 dead), (vs18.getD 3 dead), (vs18.getD 4 dead), (vs18.getD 5 dead), (vs18.getD 6 dead), (vs18.getD 7 dead), t78, t79] p46.2))) pnJ noX noR fun vs32 H33 =>
 (fa 4 (vs32.getD 2 dead)).bind fun t104 =>
 (st 1 t104 (vs32.getD 8 dead) H33).bind fun H47 =>
 some (.nrm [(vs32.getD 0 dead), (vs32.getD 1 dead), (vs32.getD 2 dead), (vs32.getD 3 dead), (vs32.getD 4 dead), (vs32.getD 5 dead), (vs32.getD 6 dead), (vs32.getD 7 dead), (vs32.getD 9 dead)] H47)) ((sa 2 (vs18.getD 0 dead) (vs18.getD 6 dead)).bind fun t108 =>
 (fa 0 t108).bind fun t109 =>
 (ld t109 H19).bind fun t110 =>
 callK (C 61 [t110, (vs18.getD 8 dead)] H19) pnJ fun t112 H48 =>
 (ext1 t112 0).bind fun t113 =>
 (ext1 t112 1).bind fun t114 =>
 (bin 0 .eql (vs18.getD 7 dead) (.int .i64 0)).bind fun t119 =>
 ifB t119 ((fa 1 (vs18.getD 2 dead)).bind fun t121 =>
 (st 1 t121 t113 H48).bind fun H49 =>
 some (.nrm [(vs18.getD 0 dead), (vs18.getD 1 dead), (vs18.getD 2 dead), (vs18.getD 3 dead), (vs18.getD 4 dead), (vs18.getD 5 dead), (vs18.getD 6 dead), (vs18.getD 7 dead), t114] H49)) ((bin 0 .eql (vs18.getD 7 dead) (.int .i64 1)).bind fun t124 =>
 (ifG t124 false (some ((vs18.getD 8 dead), H48)) (some (undef, H48))).bind fun p50 =>
 (ifG t124 false ((bin 0 .eql p50.1 (.int .u8 114)).bind fun t127 =>
 some (t127, p50.2)) (some (undef, p50.2))).bind fun p51 =>
 (ifG t124 false (some (p51.1, p51.2)) (some (undef, p51.2))).bind fun p52 =>
 (ifG p52.1 true (some ((vs18.getD 3 dead), p52.2)) (some (undef, p52.2))).bind fun p53 =>
 (ifG p52.1 true ((bin 0 .eql p53.1 (.int .i64 5)).bind fun t130 =>
 some (t130, p53.2)) (some (undef, p53.2))).bind fun p54 =>
 (ifG p52.1 true (some (p54.1, p54.2)) (some (undef, p54.2))).bind fun p55 =>
 (ifG p55.1 false (some ((vs18.getD 3 dead), p55.2)) (some (undef, p55.2))).bind fun p56 =>
 (ifG p55.1 false ((bin 0 .eql p56.1 (.int .i64 6)).bind fun t133 =>
 some (t133, p56.2)) (some (undef, p56.2))).bind fun p57 =>
 (ifG p52.1 true ((pick p55.1 (.bool true) p57.1).bind fun t134 =>
 some (t134, p57.2)) (some (undef, p57.2))).bind fun p58 =>
 (ifG t124 false ((pick p52.1 p58.1 (.bool false)).bind fun t135 =>
 some (t135, p58.2)) (some (undef, p58.2))).bind fun p59 =>
 (pick t124 (.bool true) p59.1).bind fun t136 =>
 ifB t136 ((fa 2 (vs18.getD 2 dead)).bind fun t138 =>
 (st 1 t138 t113 p59.2).bind fun H60 =>
 some (.nrm [(vs18.getD 0 dead), (vs18.getD 1 dead), (vs18.getD 2 dead), (vs18.getD 3 dead), (vs18.getD 4 dead), (vs18.getD 5 dead), (vs18.getD 6 dead), (vs18.getD 7 dead), t114] H60)) ((fa 3 (vs18.getD 2 dead)).bind fun t116 =>
 (st 1 t116 t113 p59.2).bind fun H61 =>
 some (.nrm [(vs18.getD 0 dead), (vs18.getD 1 dead), (vs18.getD 2 dead), (vs18.getD 3 dead), (vs18.getD 4 dead), (vs18.getD 5 dead), (vs18.getD 6 dead), (vs18.getD 7 dead), t114] H61))))) pnK noX noR K)
noncomputable def d34 (C : Cl) (n : Nat) (vs29 : List Value) (H30 : Hp) (kn9 : List Value → Hp → Option (Out × Hp)) (kr11 : Fr → Hp → Option (Out × Hp)) : Option (Out × Hp) :=
  (un .not (vs29.getD 8 dead)).bind fun t140 =>
 ifB t140 ((ldN 5 (vs29.getD 2 dead) H30).bind fun t141 =>
 (st 5 (vs29.getD 1 dead) t141 H30).bind fun H62 =>
 kr11 (Fr.of [1, 4, 5, 6, 7, 8, 10, 11] [(vs29.getD 0 dead), (vs29.getD 1 dead), (.string ⟨#[]⟩), (.bool false), (vs29.getD 2 dead), (vs29.getD 3 dead), (vs29.getD 5 dead), (vs29.getD 6 dead)]) H62) ((bin 0 .add (vs29.getD 6 dead) (.int .i64 1)).bind fun t143 =>
 (bin 0 .add (vs29.getD 7 dead) (.int .i64 1)).bind fun t28 =>
 kn9 [(vs29.getD 0 dead), (vs29.getD 1 dead), (vs29.getD 2 dead), (vs29.getD 3 dead), (vs29.getD 4 dead), (vs29.getD 5 dead), t143, t28] H30)
theorem s34_parts (C : Cl) (n : Nat) (vs7 : List Value) (H8 : Hp) (kn9 : List Value → Hp → Option (Out × Hp)) (kx10 : Nat → Fr → Hp → Option (Out × Hp)) (kr11 : Fr → Hp → Option (Out × Hp)) : s34_b1 C n vs7 H8 kn9 kx10 kr11 =
  (len 0 (vs7.getD 4 dead) H8).bind fun t25 =>
 (bin 0 .lss (vs7.getD 7 dead) t25).bind fun t26 =>
 ifB t26 (a34 C n vs7 H8 fun vs12 H13 => b34 C n vs12 H13 kr11 fun vs18 H19 => c34 C n vs18 H19 kr11 fun vs29 H30 => d34 C n vs29 H30 kn9 kr11) (kx10 0 (Fr.of [1, 4, 5, 6, 7, 8, 10, 11] [(vs7.getD 0 dead), (vs7.getD 1 dead), ((Fr.of [1, 4, 7, 8, 9, 10, 11, 12] vs7).g 5), ((Fr.of [1, 4, 7, 8, 9, 10, 11, 12] vs7).g 6), (vs7.getD 2 dead), (vs7.getD 3 dead), (vs7.getD 5 dead), (vs7.getD 6 dead)]) H8) := rfl


def wd (T : List (Bs × Bool)) (j : Nat) : Bs := (T.getD j ([], false)).1
def wantD (f : Int) (k : Nat) : Bs := if f = 5 ∨ f = 6 then (if k = 0 then [] else if k = 1 then [44] else [40]) else [44]
def cD (f : Int) (k : Nat) (c0 : UInt8) : UInt8 := if (f = 5 ∨ f = 6) ∧ 0 < k then (if k = 1 then 105 else 114) else c0
theorem tkc_get {T : List (Bs × Bool)} {j : Nat} (h : j < T.length) : (tkc T)[j * 2]? = some (.string (bs (wd T j))) := by
  unfold wd
  induction T generalizing j with
  | nil => simp at h
  | cons p T ih =>
    have e : tkc (p :: T) = .string (bs p.1) :: .bool p.2 :: tkc T := rfl
    cases j with
    | zero => rw [e]; rfl
    | succ j =>
      rw [e, show (j + 1) * 2 = j * 2 + 1 + 1 by omega, List.getElem?_cons_succ, List.getElem?_cons_succ, ih (by simpa using h)]
      rfl
theorem a34_eq (C : Cl) (n : Nat) (f : Int) (S : Bs) (k : Nat) (c0 x0 : UInt8) (hS : S.length ≤ 3) (hk : (bs S)[k]? = some c0) (hk3 : k < S.length) (hx : (bs S)[0]? = some x0) (sl p1 p2 lab at_ : Value) (H : Hp) (K : List Value → Hp → Option (Out × Hp)) :
    a34 C n [sl, p1, p2, .int .i64 f, .string (bs S), lab, at_, .int .i64 k] H K = K [sl, p1, p2, .int .i64 f, .string (bs S), lab, at_, .int .i64 k, .string (bs (wantD f k)), .int .u8 (cD f k c0).toNat] H := by
  have k0 : ((0 : Int) ≤ (k : Int)) = True := eq_true (by omega)
  by_cases f5 : f = 5
  · subst f5
    have : k = 0 ∨ k = 1 ∨ k = 2 := by omega
    rcases this with rfl | rfl | rfl
    · cases Option.some.inj (hk.symm.trans hx)
      simp -implicitDefEqProofs only [a34, ↓GVdn, GVup, goInt, splice, okC, Fr.of, Fr.ofI, Fr.g, Nat.reduceAdd, Nat.reduceMul, Nat.reduceEqDiff, Nat.reduceLT, Nat.reduceLeDiff, Nat.reduceBEq, Int.reduceLT, Int.reduceLE, Int.reduceToNat, Int.reduceAdd, Int.reduceSub, Int.reduceMul, Int.reduceEq, Int.reduceNeg, ↓reduceIte, ↓reduceDIte, Nat.beq, reduceCtorEq, Value.int.injEq, Nat.reduceSub, sto_ptr, hk, hx, k0]
      rfl
    · simp -implicitDefEqProofs only [a34, ↓GVdn, GVup, goInt, splice, okC, Fr.of, Fr.ofI, Fr.g, Nat.reduceAdd, Nat.reduceMul, Nat.reduceEqDiff, Nat.reduceLT, Nat.reduceLeDiff, Nat.reduceBEq, Int.reduceLT, Int.reduceLE, Int.reduceToNat, Int.reduceAdd, Int.reduceSub, Int.reduceMul, Int.reduceEq, Int.reduceNeg, ↓reduceIte, ↓reduceDIte, Nat.beq, reduceCtorEq, Value.int.injEq, Nat.reduceSub, sto_ptr, hk, hx, k0]
      rfl
    · simp -implicitDefEqProofs only [a34, ↓GVdn, GVup, goInt, splice, okC, Fr.of, Fr.ofI, Fr.g, Nat.reduceAdd, Nat.reduceMul, Nat.reduceEqDiff, Nat.reduceLT, Nat.reduceLeDiff, Nat.reduceBEq, Int.reduceLT, Int.reduceLE, Int.reduceToNat, Int.reduceAdd, Int.reduceSub, Int.reduceMul, Int.reduceEq, Int.reduceNeg, ↓reduceIte, ↓reduceDIte, Nat.beq, reduceCtorEq, Value.int.injEq, Nat.reduceSub, sto_ptr, hk, hx, k0]
      rfl
  · by_cases f6 : f = 6
    · subst f6
      have : k = 0 ∨ k = 1 ∨ k = 2 := by omega
      rcases this with rfl | rfl | rfl
      · cases Option.some.inj (hk.symm.trans hx)
        simp -implicitDefEqProofs only [a34, ↓GVdn, GVup, goInt, splice, okC, Fr.of, Fr.ofI, Fr.g, Nat.reduceAdd, Nat.reduceMul, Nat.reduceEqDiff, Nat.reduceLT, Nat.reduceLeDiff, Nat.reduceBEq, Int.reduceLT, Int.reduceLE, Int.reduceToNat, Int.reduceAdd, Int.reduceSub, Int.reduceMul, Int.reduceEq, Int.reduceNeg, ↓reduceIte, ↓reduceDIte, Nat.beq, reduceCtorEq, Value.int.injEq, Nat.reduceSub, sto_ptr, hk, hx, k0]
        rfl
      · simp -implicitDefEqProofs only [a34, ↓GVdn, GVup, goInt, splice, okC, Fr.of, Fr.ofI, Fr.g, Nat.reduceAdd, Nat.reduceMul, Nat.reduceEqDiff, Nat.reduceLT, Nat.reduceLeDiff, Nat.reduceBEq, Int.reduceLT, Int.reduceLE, Int.reduceToNat, Int.reduceAdd, Int.reduceSub, Int.reduceMul, Int.reduceEq, Int.reduceNeg, ↓reduceIte, ↓reduceDIte, Nat.beq, reduceCtorEq, Value.int.injEq, Nat.reduceSub, sto_ptr, hk, hx, k0]
        rfl
      · simp -implicitDefEqProofs only [a34, ↓GVdn, GVup, goInt, splice, okC, Fr.of, Fr.ofI, Fr.g, Nat.reduceAdd, Nat.reduceMul, Nat.reduceEqDiff, Nat.reduceLT, Nat.reduceLeDiff, Nat.reduceBEq, Int.reduceLT, Int.reduceLE, Int.reduceToNat, Int.reduceAdd, Int.reduceSub, Int.reduceMul, Int.reduceEq, Int.reduceNeg, ↓reduceIte, ↓reduceDIte, Nat.beq, reduceCtorEq, Value.int.injEq, Nat.reduceSub, sto_ptr, hk, hx, k0]
        rfl
    · have hw : wantD f k = [44] := if_neg (by omega)
      have hc : cD f k c0 = c0 := if_neg (by omega)
      rw [hw, hc]
      simp -implicitDefEqProofs only [a34, ↓GVdn, GVup, goInt, splice, okC, Fr.of, Fr.ofI, Fr.g, Nat.reduceAdd, Nat.reduceMul, Nat.reduceEqDiff, Nat.reduceLT, Nat.reduceLeDiff, Nat.reduceBEq, Int.reduceLT, Int.reduceLE, Int.reduceToNat, Int.reduceAdd, Int.reduceSub, Int.reduceMul, Int.reduceEq, Int.reduceNeg, ↓reduceIte, ↓reduceDIte, Nat.beq, reduceCtorEq, Value.int.injEq, Nat.reduceSub, sto_ptr, hk, hx, k0, f5, f6]
      rfl
structure OpS (H : Hp) (T : List (Bs × Bool)) (i : Ins) : Prop where
  row : H.cells 10 = some (tkc T)
  res : ∃ z : Ins, H.rwc 11 = some z.cells
  ins : H.rwc 12 = some i.cells
  lim : H.lim ≤ 11
def SL (T : List (Bs × Bool)) : Value := .slice (some ⟨10, 0, none⟩) T.length 2
theorem OpS.get {H : Hp} {T : List (Bs × Bool)} {i : Ins} (h : OpS H T i) {j : Nat} (hj : j < T.length) : (tkc T)[j * 2]? = some (.string (bs (wd T j))) := tkc_get hj
theorem OpS.fail {H : Hp} {T : List (Bs × Bool)} {i : Ins} (h : OpS H T i) : H.cells 12 = some i.cells ∧ st 5 (ptr 11 0) (.agg i.cells.toArray) H = some (H.set 11 (.rw i.cells)) ∧ (H.set 11 (.rw i.cells)).cells 11 = some i.cells := by
  obtain ⟨z, hz⟩ := h.res
  have hr := st_rwc (H := H) hz h.lim (v := .agg i.cells.toArray) (vs := i.cells) rfl (n := 5) rfl (by show 0 + 5 ≤ 5; decide) rfl
  have hzs : splice z.cells 0 i.cells = i.cells := rfl
  rw [hzs] at hr
  exact ⟨cells_rwc h.ins, hr, cells_rwc (by rw [rwc_set, if_pos rfl])⟩
def FailD (fr : Fr) (H : Hp) : Prop := fr.g 4 = ptr 11 0 ∧ fr.g 5 = .string emp ∧ fr.g 6 = .bool false ∧ ∃ i : Ins, H.cells 11 = some i.cells
theorem OpS.put {H : Hp} {T : List (Bs × Bool)} {i : Ins} (h : OpS H T i) (i' : Ins) : OpS (H.set 12 (.rw i'.cells)) T i' where
  row := by rw [cells_set, if_neg (by decide)]; exact h.row
  res := by obtain ⟨z, hz⟩ := h.res; exact ⟨z, by rw [rwc_set, if_neg (by decide)]; exact hz⟩
  ins := by rw [rwc_set, if_pos rfl]
  lim := h.lim
theorem OpS.st1 {H : Hp} {T : List (Bs × Bool)} {i : Ins} (h : OpS H T i) (k : Nat) (hk : k < 5) (z : Int) : st 1 (ptr 12 k) (.int .i64 z) H = some (H.set 12 (.rw (splice i.cells k [.int .i64 z]))) :=
  st_rwc (H := H) h.ins (by have := h.lim; omega) (v := .int .i64 z) (vs := [.int .i64 z]) rfl (n := 1) rfl (by show k + 1 ≤ 5; omega) rfl
theorem b34_0 (C : Cl) (n : Nat) (T : List (Bs × Bool)) (p1 p2 f S lab at_ w c : Value) (H : Hp) (kr : Fr → Hp → Option (Out × Hp)) (K : List Value → Hp → Option (Out × Hp)) :
    b34 C n [SL T, p1, p2, f, S, lab, at_, .int .i64 0, w, c] H kr K = K [SL T, p1, p2, f, S, lab, at_, .int .i64 0, c] H := by
  simp -implicitDefEqProofs only [b34, ↓GVdn, GVup, goInt, splice, okC, Fr.of, Fr.ofI, Fr.g, Nat.reduceAdd, Nat.reduceMul, Nat.reduceEqDiff, Nat.reduceLT, Nat.reduceLeDiff, Nat.reduceBEq, Int.reduceLT, Int.reduceLE, Int.reduceToNat, Int.reduceAdd, Int.reduceSub, Int.reduceMul, Int.reduceEq, Int.reduceNeg, ↓reduceIte, ↓reduceDIte, Nat.beq, reduceCtorEq, Value.int.injEq, Nat.reduceSub, sto_ptr]
theorem b34_ok (C : Cl) (n : Nat) (T : List (Bs × Bool)) (k : Nat) (hk : 0 < k) (w : Bs) (hj : 2 * k - 1 < T.length) (hT : T.length ≤ 1000) (hw : wd T (2 * k - 1) = w) (p1 p2 f S lab c : Value) (H : Hp) (i : Ins) (hS : OpS H T i) (kr : Fr → Hp → Option (Out × Hp)) (K : List Value → Hp → Option (Out × Hp)) :
    b34 C n [SL T, p1, p2, f, S, lab, .int .i64 ((2 * k - 1 : Nat) : Int), .int .i64 k, .string (bs w), c] H kr K = K [SL T, p1, p2, f, S, lab, .int .i64 ((2 * k : Nat) : Int), .int .i64 k, c] H := by
  have k0 : ((0 : Int) < (k : Int)) = True := eq_true (by omega)
  have hg := hS.get hj
  rw [hw] at hg
  have hrow := hS.row
  have h1 : ((T.length : Int) ≤ ((2 * k - 1 : Nat) : Int)) = False := eq_false (by omega)
  have h2 : (((2 * k - 1 : Nat) : Int) < (T.length : Int)) = True := eq_true (by omega)
  have hw1 : IntKind.wrap .i64 (((2 * k - 1 : Nat) : Int) + 1) = ((2 * k : Nat) : Int) := by rw [IntWalk.i64_in _ (by omega)]; omega
  generalize 2 * k - 1 = j at hg h1 h2 hw1 ⊢
  generalize 2 * k = j2 at hw1 ⊢
  unfold SL
  simp -implicitDefEqProofs only [b34, ↓GVdn, GVup, goInt, splice, okC, Fr.of, Fr.ofI, Fr.g, Nat.reduceAdd, Nat.reduceMul, Nat.reduceEqDiff, Nat.reduceLT, Nat.reduceLeDiff, Nat.reduceBEq, Int.reduceLT, Int.reduceLE, Int.reduceToNat, Int.reduceAdd, Int.reduceSub, Int.reduceMul, Int.reduceEq, Int.reduceNeg, ↓reduceIte, ↓reduceDIte, Nat.beq, reduceCtorEq, Value.int.injEq, Nat.reduceSub, sto_ptr, k0, hrow, hg, h1, h2, hw1]
theorem b34_no (C : Cl) (n : Nat) (T : List (Bs × Bool)) (k : Nat) (hk : 0 < k) (w : Bs) (hT : T.length ≤ 1000) (hw : ¬ (2 * k - 1 < T.length ∧ wd T (2 * k - 1) = w)) (f S lab c : Value) (H : Hp) (i : Ins) (hS : OpS H T i) : ∃ fr H', FailD fr H' ∧ ∀ (kr : Fr → Hp → Option (Out × Hp)) (K : List Value → Hp → Option (Out × Hp)),
    b34 C n [SL T, ptr 11 0, ptr 12 0, f, S, lab, .int .i64 ((2 * k - 1 : Nat) : Int), .int .i64 k, .string (bs w), c] H kr K = kr fr H' := by
  obtain ⟨hld, hst, hc⟩ := hS.fail
  have zlen : i.cells.length = 5 := rfl
  have ztk : i.cells.take 5 = i.cells := rfl
  refine ⟨Fr.of [1, 4, 5, 6, 7, 8, 10, 11] [dead, ptr 11 0, .string ⟨#[]⟩, .bool false, dead, dead, dead, dead], _, ⟨rfl, rfl, rfl, _, hc⟩, fun kr K => ?_⟩
  have k0 : ((0 : Int) < (k : Int)) = True := eq_true (by omega)
  have hrow := hS.row
  generalize 2 * k - 1 = j at hw ⊢
  by_cases hj : j < T.length
  · have hg := hS.get hj
    have h1 : ((T.length : Int) ≤ (j : Int)) = False := eq_false (by omega)
    have h2 : ((j : Int) < (T.length : Int)) = True := eq_true (by omega)
    have hne : (bs (wd T j) = bs w) = False := eq_false (fun e => hw ⟨hj, bs_inj e⟩)
    unfold SL
    simp -implicitDefEqProofs only [b34, ↓GVdn, GVup, goInt, splice, okC, Fr.of, Fr.ofI, Fr.g, Nat.reduceAdd, Nat.reduceMul, Nat.reduceEqDiff, Nat.reduceLT, Nat.reduceLeDiff, Nat.reduceBEq, Int.reduceLT, Int.reduceLE, Int.reduceToNat, Int.reduceAdd, Int.reduceSub, Int.reduceMul, Int.reduceEq, Int.reduceNeg, ↓reduceIte, ↓reduceDIte, Nat.beq, reduceCtorEq, Value.int.injEq, Nat.reduceSub, k0, hrow, hg, h1, h2, hne, hld, hst, zlen, ztk]
  · have h1 : ((T.length : Int) ≤ (j : Int)) = True := eq_true (by omega)
    unfold SL
    simp -implicitDefEqProofs only [b34, ↓GVdn, GVup, goInt, splice, okC, Fr.of, Fr.ofI, Fr.g, Nat.reduceAdd, Nat.reduceMul, Nat.reduceEqDiff, Nat.reduceLT, Nat.reduceLeDiff, Nat.reduceBEq, Int.reduceLT, Int.reduceLE, Int.reduceToNat, Int.reduceAdd, Int.reduceSub, Int.reduceMul, Int.reduceEq, Int.reduceNeg, ↓reduceIte, ↓reduceDIte, Nat.beq, reduceCtorEq, Value.int.injEq, Nat.reduceSub, k0, h1, hld, hst, zlen, ztk]

def setD (f : Int) (k : Nat) (c : UInt8) (i : Ins) (z : Int) : Ins := if k = 0 then { i with A := z } else if k = 1 ∨ (c = 114 ∧ (f = 5 ∨ f = 6)) then { i with B := z } else { i with C := z }
def stpD (f : Int) (k : Nat) (c : UInt8) (w : Bs) (i : Ins) (lab : Bs) : Bool × Ins × Bs :=
  if c = 105 then
    if ((numV w).2 = false ∧ (f = 7 ∨ f = 8)) ∧ labelV (bs w) = true then (true, { i with I := 0 }, w) else ((numV w).2, { i with I := (numV w).1 }, lab)
  else ((regD c w).2, setD f k c i (regD c w).1, lab)
theorem c34_no (C : Cl) (n : Nat) (T : List (Bs × Bool)) (k : Nat) (hj : ¬ 2 * k < T.length) (f S lab kv c : Value) (H : Hp) (i : Ins) (hS : OpS H T i) : ∃ fr H', FailD fr H' ∧ ∀ (kr : Fr → Hp → Option (Out × Hp)) (K : List Value → Hp → Option (Out × Hp)),
    c34 C n [SL T, ptr 11 0, ptr 12 0, f, S, lab, .int .i64 ((2 * k : Nat) : Int), kv, c] H kr K = kr fr H' := by
  obtain ⟨hld, hst, hc⟩ := hS.fail
  have zlen : i.cells.length = 5 := rfl
  have ztk : i.cells.take 5 = i.cells := rfl
  refine ⟨Fr.of [1, 4, 5, 6, 7, 8, 10, 11] [SL T, ptr 11 0, .string ⟨#[]⟩, .bool false, ptr 12 0, f, lab, .int .i64 ((2 * k : Nat) : Int)], _, ⟨rfl, rfl, rfl, _, hc⟩, fun kr K => ?_⟩
  generalize 2 * k = j at hj ⊢
  have h1 : ((T.length : Int) ≤ (j : Int)) = True := eq_true (by omega)
  unfold SL
  simp -implicitDefEqProofs only [c34, ↓GVdn, GVup, goInt, splice, okC, Fr.of, Fr.ofI, Fr.g, Nat.reduceAdd, Nat.reduceMul, Nat.reduceEqDiff, Nat.reduceLT, Nat.reduceLeDiff, Nat.reduceBEq, Int.reduceLT, Int.reduceLE, Int.reduceToNat, Int.reduceAdd, Int.reduceSub, Int.reduceMul, Int.reduceEq, Int.reduceNeg, ↓reduceIte, ↓reduceDIte, Nat.beq, reduceCtorEq, Value.int.injEq, Nat.reduceSub, h1, hld, hst, zlen, ztk]
theorem d34_no (C : Cl) (n : Nat) (T : List (Bs × Bool)) (f S lab at_ kv : Value) (H : Hp) (i : Ins) (hS : OpS H T i) : ∃ fr H', FailD fr H' ∧ ∀ (kn : List Value → Hp → Option (Out × Hp)) (kr : Fr → Hp → Option (Out × Hp)),
    d34 C n [SL T, ptr 11 0, ptr 12 0, f, S, lab, at_, kv, .bool false] H kn kr = kr fr H' := by
  obtain ⟨hld, hst, hc⟩ := hS.fail
  have zlen : i.cells.length = 5 := rfl
  have ztk : i.cells.take 5 = i.cells := rfl
  refine ⟨Fr.of [1, 4, 5, 6, 7, 8, 10, 11] [SL T, ptr 11 0, .string ⟨#[]⟩, .bool false, ptr 12 0, f, lab, at_], _, ⟨rfl, rfl, rfl, _, hc⟩, fun kr K => ?_⟩
  simp -implicitDefEqProofs only [d34, ↓GVdn, GVup, goInt, splice, okC, Fr.of, Fr.ofI, Fr.g, Nat.reduceAdd, Nat.reduceMul, Nat.reduceEqDiff, Nat.reduceLT, Nat.reduceLeDiff, Nat.reduceBEq, Int.reduceLT, Int.reduceLE, Int.reduceToNat, Int.reduceAdd, Int.reduceSub, Int.reduceMul, Int.reduceEq, Int.reduceNeg, ↓reduceIte, ↓reduceDIte, Nat.beq, reduceCtorEq, Value.int.injEq, Nat.reduceSub, hld, hst, zlen, ztk]
theorem d34_ok (C : Cl) (n : Nat) (sl p1 p2 f S lab : Value) (k : Nat) (hk : k ≤ 1000) (H : Hp) (kn : List Value → Hp → Option (Out × Hp)) (kr : Fr → Hp → Option (Out × Hp)) :
    d34 C n [sl, p1, p2, f, S, lab, .int .i64 ((2 * k : Nat) : Int), .int .i64 k, .bool true] H kn kr = kn [sl, p1, p2, f, S, lab, .int .i64 ((2 * (k + 1) - 1 : Nat) : Int), .int .i64 ((k + 1 : Nat) : Int)] H := by
  have hw1 : IntKind.wrap .i64 (((2 * k : Nat) : Int) + 1) = ((2 * (k + 1) - 1 : Nat) : Int) := by rw [IntWalk.i64_in _ (by omega)]; omega
  have hw2 : IntKind.wrap .i64 ((k : Int) + 1) = ((k + 1 : Nat) : Int) := by rw [IntWalk.i64_in _ (by omega)]; omega
  generalize 2 * (k + 1) - 1 = j at hw1 ⊢
  generalize 2 * k = j2 at hw1 ⊢
  simp -implicitDefEqProofs only [d34, ↓GVdn, GVup, goInt, splice, okC, Fr.of, Fr.ofI, Fr.g, Nat.reduceAdd, Nat.reduceMul, Nat.reduceEqDiff, Nat.reduceLT, Nat.reduceLeDiff, Nat.reduceBEq, Int.reduceLT, Int.reduceLE, Int.reduceToNat, Int.reduceAdd, Int.reduceSub, Int.reduceMul, Int.reduceEq, Int.reduceNeg, ↓reduceIte, ↓reduceDIte, Nat.beq, reduceCtorEq, Value.int.injEq, Nat.reduceSub, sto_ptr, hw1, hw2]
theorem c34_ok (C : Cl) (n : Nat) (T : List (Bs × Bool)) (k : Nat) (hj : 2 * k < T.length) (f : Int) (S : Value) (lab : Bs) (c : UInt8) (h59 : ∀ H, C 59 [.string (bs (wd T (2 * k)))] H = some (.ret (.tuple #[.int .i64 (numV (wd T (2 * k))).1, .bool (numV (wd T (2 * k))).2]), H))
    (h60 : ∀ H, C 60 [.string (bs (wd T (2 * k)))] H = some (.ret (.bool (labelV (bs (wd T (2 * k))))), H)) (h61 : ∀ H, C 61 [.string (bs (wd T (2 * k))), .int .u8 c.toNat] H = some (.ret (.tuple #[.int .i64 (regD c (wd T (2 * k))).1, .bool (regD c (wd T (2 * k))).2]), H))
    (H : Hp) (i : Ins) (hS : OpS H T i) : ∃ H', OpS H' T (stpD f k c (wd T (2 * k)) i lab).2.1 ∧ ∀ (kr : Fr → Hp → Option (Out × Hp)) (K : List Value → Hp → Option (Out × Hp)),
    c34 C n [SL T, ptr 11 0, ptr 12 0, .int .i64 f, S, .string (bs lab), .int .i64 ((2 * k : Nat) : Int), .int .i64 k, .int .u8 c.toNat] H kr K = K [SL T, ptr 11 0, ptr 12 0, .int .i64 f, S, .string (bs (stpD f k c (wd T (2 * k)) i lab).2.2), .int .i64 ((2 * k : Nat) : Int), .int .i64 k, .bool (stpD f k c (wd T (2 * k)) i lab).1] H' := by
  have hg := hS.get hj
  have hrow := hS.row
  refine ⟨_, hS.put _, fun kr K => ?_⟩
  generalize wd T (2 * k) = w at *
  generalize 2 * k = j at *
  have h1 : ((T.length : Int) ≤ (j : Int)) = False := eq_false (by omega)
  have h2 : ((j : Int) < (T.length : Int)) = True := eq_true (by omega)
  have s4 := fun z => hS.st1 4 (by decide) z
  have s1 := fun z => hS.st1 1 (by decide) z
  have s2 := fun z => hS.st1 2 (by decide) z
  have s3 := fun z => hS.st1 3 (by decide) z
  have e4 : ∀ z, splice i.cells 4 [.int .i64 z] = ({ i with I := z } : Ins).cells := fun _ => rfl
  have e1 : ∀ z, splice i.cells 1 [.int .i64 z] = ({ i with A := z } : Ins).cells := fun _ => rfl
  have e2 : ∀ z, splice i.cells 2 [.int .i64 z] = ({ i with B := z } : Ins).cells := fun _ => rfl
  have e3 : ∀ z, splice i.cells 3 [.int .i64 z] = ({ i with C := z } : Ins).cells := fun _ => rfl
  simp only [e1, e2, e3, e4] at s1 s2 s3 s4
  unfold SL stpD
  by_cases hc : c = 105
  · have c1 : ((c.toNat : Int) = 105) = True := eq_true (by rw [hc]; rfl)
    rw [if_pos hc]
    rcases hnm : numV w with ⟨z, b⟩
    simp only [hnm] at h59 ⊢
    cases b with
    | true =>
      rw [if_neg (by rintro ⟨⟨h, _⟩, _⟩; exact absurd h (by simp))]
      simp -implicitDefEqProofs only [c34, ↓GVdn, GVup, goInt, splice, okC, Fr.of, Fr.ofI, Fr.g, Nat.reduceAdd, Nat.reduceMul, Nat.reduceEqDiff, Nat.reduceLT, Nat.reduceLeDiff, Nat.reduceBEq, Int.reduceLT, Int.reduceLE, Int.reduceToNat, Int.reduceAdd, Int.reduceSub, Int.reduceMul, Int.reduceEq, Int.reduceNeg, ↓reduceIte, ↓reduceDIte, Nat.beq, reduceCtorEq, Value.int.injEq, Nat.reduceSub, hrow, hg, h1, h2, c1, h59, s4]
    | false =>
      cases hl : labelV (bs w) with
      | true =>
        rw [hl] at h60
        by_cases f7 : f = 7
        · rw [if_pos ⟨⟨rfl, Or.inl f7⟩, rfl⟩]
          simp -implicitDefEqProofs only [c34, ↓GVdn, GVup, goInt, splice, okC, Fr.of, Fr.ofI, Fr.g, Nat.reduceAdd, Nat.reduceMul, Nat.reduceEqDiff, Nat.reduceLT, Nat.reduceLeDiff, Nat.reduceBEq, Int.reduceLT, Int.reduceLE, Int.reduceToNat, Int.reduceAdd, Int.reduceSub, Int.reduceMul, Int.reduceEq, Int.reduceNeg, ↓reduceIte, ↓reduceDIte, Nat.beq, reduceCtorEq, Value.int.injEq, Nat.reduceSub, hrow, hg, h1, h2, c1, h59, s4, f7, h60]
        · by_cases f8 : f = 8
          · rw [if_pos ⟨⟨rfl, Or.inr f8⟩, rfl⟩]
            simp -implicitDefEqProofs only [c34, ↓GVdn, GVup, goInt, splice, okC, Fr.of, Fr.ofI, Fr.g, Nat.reduceAdd, Nat.reduceMul, Nat.reduceEqDiff, Nat.reduceLT, Nat.reduceLeDiff, Nat.reduceBEq, Int.reduceLT, Int.reduceLE, Int.reduceToNat, Int.reduceAdd, Int.reduceSub, Int.reduceMul, Int.reduceEq, Int.reduceNeg, ↓reduceIte, ↓reduceDIte, Nat.beq, reduceCtorEq, Value.int.injEq, Nat.reduceSub, hrow, hg, h1, h2, c1, h59, s4, f7, f8, h60]
          · rw [if_neg (by rintro ⟨⟨_, h⟩, _⟩; omega)]
            simp -implicitDefEqProofs only [c34, ↓GVdn, GVup, goInt, splice, okC, Fr.of, Fr.ofI, Fr.g, Nat.reduceAdd, Nat.reduceMul, Nat.reduceEqDiff, Nat.reduceLT, Nat.reduceLeDiff, Nat.reduceBEq, Int.reduceLT, Int.reduceLE, Int.reduceToNat, Int.reduceAdd, Int.reduceSub, Int.reduceMul, Int.reduceEq, Int.reduceNeg, ↓reduceIte, ↓reduceDIte, Nat.beq, reduceCtorEq, Value.int.injEq, Nat.reduceSub, hrow, hg, h1, h2, c1, h59, s4, f7, f8]
      | false =>
        rw [hl] at h60
        rw [if_neg (by rintro ⟨_, h⟩; exact absurd h (by simp))]
        by_cases f7 : f = 7
        · simp -implicitDefEqProofs only [c34, ↓GVdn, GVup, goInt, splice, okC, Fr.of, Fr.ofI, Fr.g, Nat.reduceAdd, Nat.reduceMul, Nat.reduceEqDiff, Nat.reduceLT, Nat.reduceLeDiff, Nat.reduceBEq, Int.reduceLT, Int.reduceLE, Int.reduceToNat, Int.reduceAdd, Int.reduceSub, Int.reduceMul, Int.reduceEq, Int.reduceNeg, ↓reduceIte, ↓reduceDIte, Nat.beq, reduceCtorEq, Value.int.injEq, Nat.reduceSub, hrow, hg, h1, h2, c1, h59, s4, f7, h60]
        · by_cases f8 : f = 8
          · simp -implicitDefEqProofs only [c34, ↓GVdn, GVup, goInt, splice, okC, Fr.of, Fr.ofI, Fr.g, Nat.reduceAdd, Nat.reduceMul, Nat.reduceEqDiff, Nat.reduceLT, Nat.reduceLeDiff, Nat.reduceBEq, Int.reduceLT, Int.reduceLE, Int.reduceToNat, Int.reduceAdd, Int.reduceSub, Int.reduceMul, Int.reduceEq, Int.reduceNeg, ↓reduceIte, ↓reduceDIte, Nat.beq, reduceCtorEq, Value.int.injEq, Nat.reduceSub, hrow, hg, h1, h2, c1, h59, s4, f7, f8, h60]
          · simp -implicitDefEqProofs only [c34, ↓GVdn, GVup, goInt, splice, okC, Fr.of, Fr.ofI, Fr.g, Nat.reduceAdd, Nat.reduceMul, Nat.reduceEqDiff, Nat.reduceLT, Nat.reduceLeDiff, Nat.reduceBEq, Int.reduceLT, Int.reduceLE, Int.reduceToNat, Int.reduceAdd, Int.reduceSub, Int.reduceMul, Int.reduceEq, Int.reduceNeg, ↓reduceIte, ↓reduceDIte, Nat.beq, reduceCtorEq, Value.int.injEq, Nat.reduceSub, hrow, hg, h1, h2, c1, h59, s4, f7, f8]
  · have c1 := u8ne 105 hc
    have c1 : ((c.toNat : Int) = 105) = False := c1
    rw [if_neg hc]
    rcases hnm : regD c w with ⟨z, b⟩
    simp only [hnm] at h61 ⊢
    unfold setD
    by_cases k0 : k = 0
    · subst k0
      rw [if_pos rfl]
      simp -implicitDefEqProofs only [c34, ↓GVdn, GVup, goInt, splice, okC, Fr.of, Fr.ofI, Fr.g, Nat.reduceAdd, Nat.reduceMul, Nat.reduceEqDiff, Nat.reduceLT, Nat.reduceLeDiff, Nat.reduceBEq, Int.reduceLT, Int.reduceLE, Int.reduceToNat, Int.reduceAdd, Int.reduceSub, Int.reduceMul, Int.reduceEq, Int.reduceNeg, ↓reduceIte, ↓reduceDIte, Nat.beq, reduceCtorEq, Value.int.injEq, Nat.reduceSub, hrow, hg, h1, h2, c1, h61, s1, Int.natCast_zero]
    · rw [if_neg k0]
      have q0 : ((k : Int) = 0) = False := eq_false (by omega)
      by_cases k1 : k = 1
      · have q1 : ((k : Int) = 1) = True := eq_true (by omega)
        rw [if_pos (Or.inl k1)]
        simp -implicitDefEqProofs only [c34, ↓GVdn, GVup, goInt, splice, okC, Fr.of, Fr.ofI, Fr.g, Nat.reduceAdd, Nat.reduceMul, Nat.reduceEqDiff, Nat.reduceLT, Nat.reduceLeDiff, Nat.reduceBEq, Int.reduceLT, Int.reduceLE, Int.reduceToNat, Int.reduceAdd, Int.reduceSub, Int.reduceMul, Int.reduceEq, Int.reduceNeg, ↓reduceIte, ↓reduceDIte, Nat.beq, reduceCtorEq, Value.int.injEq, Nat.reduceSub, hrow, hg, h1, h2, c1, h61, s2, q0, q1]
      · have q1 : ((k : Int) = 1) = False := eq_false (by omega)
        by_cases c2 : c = 114
        · have c3 : ((c.toNat : Int) = 114) = True := eq_true (by rw [c2]; rfl)
          by_cases f5 : f = 5
          · rw [if_pos (Or.inr ⟨c2, Or.inl f5⟩)]
            simp -implicitDefEqProofs only [c34, ↓GVdn, GVup, goInt, splice, okC, Fr.of, Fr.ofI, Fr.g, Nat.reduceAdd, Nat.reduceMul, Nat.reduceEqDiff, Nat.reduceLT, Nat.reduceLeDiff, Nat.reduceBEq, Int.reduceLT, Int.reduceLE, Int.reduceToNat, Int.reduceAdd, Int.reduceSub, Int.reduceMul, Int.reduceEq, Int.reduceNeg, ↓reduceIte, ↓reduceDIte, Nat.beq, reduceCtorEq, Value.int.injEq, Nat.reduceSub, hrow, hg, h1, h2, c1, h61, s2, q0, q1, c3, f5]
          · by_cases f6 : f = 6
            · rw [if_pos (Or.inr ⟨c2, Or.inr f6⟩)]
              simp -implicitDefEqProofs only [c34, ↓GVdn, GVup, goInt, splice, okC, Fr.of, Fr.ofI, Fr.g, Nat.reduceAdd, Nat.reduceMul, Nat.reduceEqDiff, Nat.reduceLT, Nat.reduceLeDiff, Nat.reduceBEq, Int.reduceLT, Int.reduceLE, Int.reduceToNat, Int.reduceAdd, Int.reduceSub, Int.reduceMul, Int.reduceEq, Int.reduceNeg, ↓reduceIte, ↓reduceDIte, Nat.beq, reduceCtorEq, Value.int.injEq, Nat.reduceSub, hrow, hg, h1, h2, c1, h61, s2, q0, q1, c3, f5, f6]
            · rw [if_neg (by rintro (h | ⟨_, h⟩) <;> omega)]
              simp -implicitDefEqProofs only [c34, ↓GVdn, GVup, goInt, splice, okC, Fr.of, Fr.ofI, Fr.g, Nat.reduceAdd, Nat.reduceMul, Nat.reduceEqDiff, Nat.reduceLT, Nat.reduceLeDiff, Nat.reduceBEq, Int.reduceLT, Int.reduceLE, Int.reduceToNat, Int.reduceAdd, Int.reduceSub, Int.reduceMul, Int.reduceEq, Int.reduceNeg, ↓reduceIte, ↓reduceDIte, Nat.beq, reduceCtorEq, Value.int.injEq, Nat.reduceSub, hrow, hg, h1, h2, c1, h61, s3, q0, q1, c3, f5, f6]
        · have c3 : ((c.toNat : Int) = 114) = False := u8ne 114 c2
          rw [if_neg (by rintro (h | ⟨h, _⟩); exact k1 h; exact c2 h)]
          simp -implicitDefEqProofs only [c34, ↓GVdn, GVup, goInt, splice, okC, Fr.of, Fr.ofI, Fr.g, Nat.reduceAdd, Nat.reduceMul, Nat.reduceEqDiff, Nat.reduceLT, Nat.reduceLeDiff, Nat.reduceBEq, Int.reduceLT, Int.reduceLE, Int.reduceToNat, Int.reduceAdd, Int.reduceSub, Int.reduceMul, Int.reduceEq, Int.reduceNeg, ↓reduceIte, ↓reduceDIte, Nat.beq, reduceCtorEq, Value.int.injEq, Nat.reduceSub, hrow, hg, h1, h2, c1, h61, s3, q0, q1, c3]
end Go.Proofs.YtbaooebafijenaaDoor
