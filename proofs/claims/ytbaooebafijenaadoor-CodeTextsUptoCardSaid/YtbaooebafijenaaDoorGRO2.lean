/- The document's operands, whole. -/
import Derived.Test.YtbaooebafijenaaDoorGRO1
import Derived.Test.YtbaooebafijenaaDoorGRTx
import Derived.Test.YtbaooebafijenaaDoorGvBun
namespace Go.Proofs.YtbaooebafijenaaDoor
open Go Go.Ev
set_option maxRecDepth 100000
set_option linter.unusedSimpArgs false
set_option linter.unusedVariables false
set_option maxHeartbeats 4000000
set_option linter.unusedSectionVars false
variable [Mx]
attribute [local congr] bind_front callK_front jn_front ifB_front ifG_front lp_front
noncomputable def k34 (C : Cl) (n : Nat) : Nat → Fr → Hp → Option (Out × Hp) := (fun j65 f66 H67 => if j65 = 0 then jn ((bin 0 .eql (f66.g 8) (.int .i64 5)).bind fun t145 =>
 (ifG t145 false (some ((f66.g 8), H67)) (some (undef, H67))).bind fun p70 =>
 (ifG t145 false ((bin 0 .eql p70.1 (.int .i64 6)).bind fun t148 =>
 some (t148, p70.2)) (some (undef, p70.2))).bind fun p71 =>
 (pick t145 (.bool true) p71.1).bind fun t149 =>
 ifB t149 ((len 1 (f66.g 1) p71.2).bind fun t152 =>
 (bin 0 .geq (f66.g 11) t152).bind fun t153 =>
 (ifG t153 false (some ((f66.g 1), p71.2)) (some (undef, p71.2))).bind fun p72 =>
 (ifG t153 false (some ((f66.g 11), p72.2)) (some (undef, p72.2))).bind fun p73 =>
 (ifG t153 false ((sa 2 p72.1 p73.1).bind fun t157 =>
 some (t157, p73.2)) (some (undef, p73.2))).bind fun p74 =>
 (ifG t153 false ((fa 0 p74.1).bind fun t158 =>
 some (t158, p74.2)) (some (undef, p74.2))).bind fun p75 =>
 (ifG t153 false ((ld p75.1 p75.2).bind fun t159 =>
 some (t159, p75.2)) (some (undef, p75.2))).bind fun p76 =>
 (ifG t153 false ((bin 0 .neq p76.1 (.string ⟨#[41]⟩)).bind fun t160 =>
 some (t160, p76.2)) (some (undef, p76.2))).bind fun p77 =>
 (pick t153 (.bool true) p77.1).bind fun t161 =>
 ifB t161 ((ldN 5 (f66.g 7) p77.2).bind fun t162 =>
 (st 5 (f66.g 4) t162 p77.2).bind fun H78 =>
 some (.rt (Fr.of [4, 5, 6] [(f66.g 4), (.string ⟨#[]⟩), (.bool false)]) H78)) ((bin 0 .add (f66.g 11) (.int .i64 1)).bind fun t164 =>
 some (.nrm [(f66.g 1), (f66.g 4), (f66.g 7), (f66.g 10), t164] p77.2))) (some (.nrm [(f66.g 1), (f66.g 4), (f66.g 7), (f66.g 10), (f66.g 11)] p71.2))) pnK noX (fun f86 H87 => (ldN 5 (f86.g 4) H87).bind fun r88 =>
 some (.ret (.tuple #[r88, (f86.g 5), (f86.g 6)]), H87)) fun vs68 H69 =>
 (ldN 5 (vs68.getD 2 dead) H69.cl).bind fun t165 =>
 (len 1 (vs68.getD 0 dead) H69.cl.cl.cl.cl.cl).bind fun t169 =>
 (bin 0 .eql (vs68.getD 4 dead) t169).bind fun t170 =>
 (ifG t170 true ((ldN 5 (vs68.getD 2 dead) H69.cl.cl.cl.cl.cl.cl.cl.cl).bind fun t172 =>
 some (t172, H69.cl.cl.cl.cl.cl.cl.cl.cl)) (some (undef, H69.cl.cl.cl.cl.cl.cl.cl.cl))).bind fun p79 =>
 (ifG t170 true (callK (C 26 [p79.1] p79.2.cl) pnN fun t173 H80 =>
 some (t173, H80)) (some (undef, p79.2.cl))).bind fun p81 =>
 (ifG t170 true ((bin 0 .eql p81.1 (.int .i64 0)).bind fun t174 =>
 some (t174, p81.2.cl)) (some (undef, p81.2.cl))).bind fun p82 =>
 (pick t170 p82.1 (.bool false)).bind fun t175 =>
 (rdA (vs68.getD 1 dead)).bind fun b83 => bif memN b83 [] then none else (st 5 (vs68.getD 1 dead) t165 (p82.2.cl.cl.cl.opn H69.lim)).bind fun H84 =>
 (ldN 5 (vs68.getD 1 dead) H84).bind fun r85 =>
 some (.ret (.tuple #[r85, (vs68.getD 3 dead), t175]), H84) else none)
def r34 : Fr → Hp → Option (Out × Hp) := (fun f89 H90 => (ldN 5 (f89.g 4) H90).bind fun r91 =>
 some (.ret (.tuple #[r91, (f89.g 5), (f89.g 6)]), H90))
theorem s34_k (C : Cl) (n : Nat) (x0 x1 : Value) (H : Hp) : s34 C n x0 x1 H =
 let H1 := H.new (.rw [(.int .i64 0), (.int .i64 0), (.int .i64 0), (.int .i64 0), (.int .i64 0)])
 (fillL (pl [(0, 1), (1, 1), (2, 1), (3, 1), (4, 1)]) [(.int .i64 0), (.int .i64 0), (.int .i64 0), (.int .i64 0), (.int .i64 0)] [(0, x0)]).bind fun c2 =>
 let H3 := H1.new (.rw [(.int .i64 0), (.int .i64 0), (.int .i64 0), (.int .i64 0), (.int .i64 0)])
 (st 5 (ptr H1.next 0) (.agg c2.toArray) H3).bind fun H4 =>
 callK (C 27 [x0] H4) pnK fun t20 H5 =>
 callK (C 28 [t20] H5) pnK fun t22 H6 =>
 lp (s34_b1 C n) n [x1, (ptr H.next 0), (ptr H1.next 0), t20, t22, (.string ⟨#[]⟩), (.int .i64 0), (.int .i64 0)] H6 (k34 C n) r34 := rfl

def opGo (f : Int) (T : List (Bs × Bool)) : Bs → Nat → Ins → Bs → Option (Ins × Bs)
  | [], _, i, lab => some (i, lab)
  | c0 :: r, k, i, lab =>
    if 0 < k ∧ ¬ (2 * k - 1 < T.length ∧ wd T (2 * k - 1) = wantD f k) then none
    else if ¬ 2 * k < T.length then none
    else if (stpD f k (cD f k c0) (wd T (2 * k)) i lab).1 = true then opGo f T r (k + 1) (stpD f k (cD f k c0) (wd T (2 * k)) i lab).2.1 (stpD f k (cD f k c0) (wd T (2 * k)) i lab).2.2
    else none
def LoopR (n N : Nat) (S : Bs) (f : Int) (T : List (Bs × Bool)) (k m : Nat) (lab : Bs) (H : Hp) : Option (Ins × Bs) → Prop
  | none => ∃ fr H', FailD fr H' ∧ ∀ (kx : Nat → Fr → Hp → Option (Out × Hp)) (kr : Fr → Hp → Option (Out × Hp)), lp (s34_b1 (evCall cfc n) N) m [SL T, ptr 11 0, ptr 12 0, .int .i64 f, .string (bs S), .string (bs lab), .int .i64 ((2 * k - 1 : Nat) : Int), .int .i64 k] H kx kr = kr fr H'
  | some p => ∃ H', OpS H' T p.1 ∧ ∀ (kx : Nat → Fr → Hp → Option (Out × Hp)) (kr : Fr → Hp → Option (Out × Hp)), lp (s34_b1 (evCall cfc n) N) m [SL T, ptr 11 0, ptr 12 0, .int .i64 f, .string (bs S), .string (bs lab), .int .i64 ((2 * k - 1 : Nat) : Int), .int .i64 k] H kx kr = kx 0 (Fr.of [1, 4, 5, 6, 7, 8, 10, 11] [SL T, ptr 11 0, dead, dead, ptr 12 0, .int .i64 f, .string (bs p.2), .int .i64 ((2 * S.length - 1 : Nat) : Int)]) H'
theorem op_loop (n N : Nat) (hn : 30 < n) (f : Int) (S : Bs) (hS3 : S.length ≤ 3) (T : List (Bs × Bool)) (hT : T.length ≤ 1000) (hw : ∀ j, (wd T j).length ≤ 1000) : ∀ (r : Bs) (k m : Nat), S.drop k = r → r.length < m → k ≤ S.length → ∀ (H : Hp) (i : Ins) (lab : Bs), OpS H T i →
    LoopR n N S f T k m lab H (opGo f T r k i lab) := by
  obtain ⟨q, rfl⟩ : ∃ q, n = q + 1 := ⟨n - 1, by omega⟩
  have hsz : (bs S).size = S.length := by rw [Lib.size_eq, bs_list]
  have h59 : ∀ j H, evCall cfc (q + 1) 59 [.string (bs (wd T j))] H = some (.ret (.tuple #[.int .i64 (numV (wd T j)).1, .bool (numV (wd T j)).2]), H) := fun j H => v59 q _ (by omega) H (hw j)
  have h60 : ∀ j H, evCall cfc (q + 1) 60 [.string (bs (wd T j))] H = some (.ret (.bool (labelV (bs (wd T j)))), H) := fun j H => v60 q _ (by omega) H (by have := hw j; omega)
  have h61 : ∀ (c : UInt8) j H, evCall cfc (q + 1) 61 [.string (bs (wd T j)), .int .u8 c.toNat] H = some (.ret (.tuple #[.int .i64 (regD c (wd T j)).1, .bool (regD c (wd T j)).2]), H) := fun c j H => v61 q c _ (by omega) H (hw j)
  intro r
  induction r with
  | nil =>
    intro k m hd hm hk H i lab hS
    obtain ⟨m, rfl⟩ : ∃ q, m = q + 1 := ⟨m - 1, by omega⟩
    have hkl : k = S.length := by
      have := congrArg List.length hd
      simp only [List.length_drop, List.length_nil] at this
      omega
    have hlt : ((k : Int) < (S.length : Int)) = False := eq_false (by omega)
    refine ⟨H, hS, fun kx kr => ?_⟩
    subst hkl
    rw [lp_succ, s34_parts]
    generalize 2 * S.length - 1 = j
    simp -implicitDefEqProofs only [↓GVdn, GVup, goInt, splice, okC, Fr.of, Fr.ofI, Fr.g, Nat.reduceAdd, Nat.reduceMul, Nat.reduceEqDiff, Nat.reduceLT, Nat.reduceLeDiff, Nat.reduceBEq, Int.reduceLT, Int.reduceLE, Int.reduceToNat, Int.reduceAdd, Int.reduceSub, Int.reduceMul, Int.reduceEq, Int.reduceNeg, ↓reduceIte, ↓reduceDIte, Nat.beq, reduceCtorEq, Value.int.injEq, Nat.reduceSub, sto_ptr, hsz, hlt]
  | cons c0 r ih =>
    intro k m hd hm hk H i lab hS
    obtain ⟨m, rfl⟩ : ∃ q, m = q + 1 := ⟨m - 1, by omega⟩
    obtain ⟨h1, h2, h3⟩ := drop_cons hd
    have hlt : ((k : Int) < (S.length : Int)) = True := eq_true (by omega)
    obtain ⟨x0, hx0⟩ : ∃ x0, (bs S)[0]? = some x0 := by
      cases S with
      | nil => simp at h3
      | cons x S => exact ⟨x, (drop_cons (s := x :: S) (i := 0) rfl).1⟩
    have hA := fun lab at_ H K => a34_eq (evCall cfc (q + 1)) N f S k c0 x0 hS3 h1 h3 hx0 (SL T) (ptr 11 0) (ptr 12 0) lab at_ H K
    have hfr : ∀ (lab at_ : Value) (kn : List Value → Hp → Option (Out × Hp)) (kx : Nat → Fr → Hp → Option (Out × Hp)) (kr : Fr → Hp → Option (Out × Hp)), s34_b1 (evCall cfc (q + 1)) N [SL T, ptr 11 0, ptr 12 0, .int .i64 f, .string (bs S), lab, at_, .int .i64 k] H kn kx kr =
        a34 (evCall cfc (q + 1)) N [SL T, ptr 11 0, ptr 12 0, .int .i64 f, .string (bs S), lab, at_, .int .i64 k] H fun vs12 H13 => b34 (evCall cfc (q + 1)) N vs12 H13 kr fun vs18 H19 => c34 (evCall cfc (q + 1)) N vs18 H19 kr fun vs29 H30 => d34 (evCall cfc (q + 1)) N vs29 H30 kn kr := by
      intro lab at_ kn kx kr
      rw [s34_parts]
      simp -implicitDefEqProofs only [↓GVdn, GVup, goInt, splice, okC, Fr.of, Fr.ofI, Fr.g, Nat.reduceAdd, Nat.reduceMul, Nat.reduceEqDiff, Nat.reduceLT, Nat.reduceLeDiff, Nat.reduceBEq, Int.reduceLT, Int.reduceLE, Int.reduceToNat, Int.reduceAdd, Int.reduceSub, Int.reduceMul, Int.reduceEq, Int.reduceNeg, ↓reduceIte, ↓reduceDIte, Nat.beq, reduceCtorEq, Value.int.injEq, Nat.reduceSub, sto_ptr, hsz, hlt]
    -- what stands between
    have hB : (0 < k ∧ ¬ (2 * k - 1 < T.length ∧ wd T (2 * k - 1) = wantD f k)) ∨ ∀ (C : Cl) (p1 p2 f' S' lab' c' : Value) (kr : Fr → Hp → Option (Out × Hp)) (K : List Value → Hp → Option (Out × Hp)), b34 C N [SL T, p1, p2, f', S', lab', .int .i64 ((2 * k - 1 : Nat) : Int), .int .i64 k, .string (bs (wantD f k)), c'] H kr K = K [SL T, p1, p2, f', S', lab', .int .i64 ((2 * k : Nat) : Int), .int .i64 k, c'] H := by
      by_cases hk0 : k = 0
      · subst hk0
        exact .inr fun C p1 p2 f' S' lab' c' kr K => b34_0 C N T p1 p2 f' S' lab' _ _ c' H kr K
      · by_cases hb : 2 * k - 1 < T.length ∧ wd T (2 * k - 1) = wantD f k
        · exact .inr fun C p1 p2 f' S' lab' c' kr K => b34_ok C N T k (by omega) _ hb.1 hT hb.2 p1 p2 f' S' lab' c' H i hS kr K
        · exact .inl ⟨by omega, hb⟩
    unfold opGo
    rcases hB with hB | hB
    · rw [if_pos hB]
      obtain ⟨fr, H', hF, hb⟩ := b34_no (evCall cfc (q + 1)) N T k hB.1 (wantD f k) hT hB.2 (.int .i64 f) (.string (bs S)) (.string (bs lab)) (.int .u8 (cD f k c0).toNat) H i hS
      refine ⟨fr, H', hF, fun kx kr => ?_⟩
      rw [lp_succ, hfr, hA, hb]
    · by_cases hB' : 0 < k ∧ ¬ (2 * k - 1 < T.length ∧ wd T (2 * k - 1) = wantD f k)
      · rw [if_pos hB']
        obtain ⟨fr, H', hF, hb⟩ := b34_no (evCall cfc (q + 1)) N T k hB'.1 (wantD f k) hT hB'.2 (.int .i64 f) (.string (bs S)) (.string (bs lab)) (.int .u8 (cD f k c0).toNat) H i hS
        refine ⟨fr, H', hF, fun kx kr => ?_⟩
        rw [lp_succ, hfr, hA, hb]
      · rw [if_neg hB']
        by_cases hj : 2 * k < T.length
        · rw [if_neg (fun h => h hj)]
          obtain ⟨H', hS', hc⟩ := c34_ok (evCall cfc (q + 1)) N T k hj f (.string (bs S)) lab (cD f k c0) (h59 _) (h60 _) (h61 _ _) H i hS
          generalize stpD f k (cD f k c0) (wd T (2 * k)) i lab = p at hS' hc ⊢
          obtain ⟨b, i2, lab2⟩ := p
          simp only at hS' hc ⊢
          cases b with
          | true =>
            rw [if_pos rfl]
            have ih := ih (k + 1) m h2 (by simp at hm; omega) (by omega) H' i2 lab2 hS'
            cases hg : opGo f T r (k + 1) i2 lab2 with
            | none =>
              rw [hg] at ih
              obtain ⟨fr, H2, hF, hl⟩ := ih
              refine ⟨fr, H2, hF, fun kx kr => ?_⟩
              rw [← hl kx kr, lp_succ, hfr, hA, hB, hc, d34_ok _ _ _ _ _ _ _ _ _ (by omega)]
            | some p =>
              rw [hg] at ih
              obtain ⟨H2, hF, hl⟩ := ih
              refine ⟨H2, hF, fun kx kr => ?_⟩
              rw [← hl kx kr, lp_succ, hfr, hA, hB, hc, d34_ok _ _ _ _ _ _ _ _ _ (by omega)]
          | false =>
            rw [if_neg (by simp)]
            obtain ⟨fr, H2, hF, hd⟩ := d34_no (evCall cfc (q + 1)) N T (.int .i64 f) (.string (bs S)) (.string (bs lab2)) (.int .i64 ((2 * k : Nat) : Int)) (.int .i64 k) H' i2 hS'
            refine ⟨fr, H2, hF, fun kx kr => ?_⟩
            rw [lp_succ, hfr, hA, hB, hc, hd]
        · rw [if_pos hj]
          obtain ⟨fr, H', hF, hc⟩ := c34_no (evCall cfc (q + 1)) N T k hj (.int .i64 f) (.string (bs S)) (.string (bs lab)) (.int .i64 k) (.int .u8 (cD f k c0).toNat) H i hS
          refine ⟨fr, H', hF, fun kx kr => ?_⟩
          rw [lp_succ, hfr, hA, hB, hc]

def opR (p : Ins × Bs × Bool) : Value := .tuple #[p.1.val, .string (bs p.2.1), .bool p.2.2]
def opGood (f : Int) (T : List (Bs × Bool)) (a : Nat) (i : Ins) : Prop := ((f = 5 ∨ f = 6) → (a < T.length ∧ wd T a = [41]) ∧ T.length = a + 1) ∧ (¬ (f = 5 ∨ f = 6) → T.length = a) ∧ chkV i.op i.A i.B i.C i.I = 0
theorem r34_eq (fr : Fr) (H : Hp) (h : FailD fr H) : ∃ i, r34 fr H = some (.ret (opR (i, [], false)), H) := by
  obtain ⟨h1, h2, h3, i, h4⟩ := h
  refine ⟨i, ?_⟩
  have zlen : i.cells.length = 5 := rfl
  have ztk : i.cells.take 5 = i.cells := rfl
  unfold r34
  rw [h1, h2, h3]
  simp -implicitDefEqProofs only [↓GVdn, GVup, goInt, splice, okC, Fr.of, Fr.ofI, Fr.g, Nat.reduceAdd, Nat.reduceMul, Nat.reduceEqDiff, Nat.reduceLT, Nat.reduceLeDiff, Nat.reduceBEq, Int.reduceLT, Int.reduceLE, Int.reduceToNat, Int.reduceAdd, Int.reduceSub, Int.reduceMul, Int.reduceEq, Int.reduceNeg, ↓reduceIte, ↓reduceDIte, Nat.beq, reduceCtorEq, Value.int.injEq, Nat.reduceSub, sto_ptr, h4, zlen, ztk]
  rfl
theorem k34_eq (C : Cl) (n : Nat) (f : Int) (T : List (Bs × Bool)) (hT : T.length ≤ 1000) (a : Nat) (ha : a ≤ 1000) (lab : Bs) (H : Hp) (i : Ins) (hS : OpS H T i) (h26 : ∀ H, C 26 [i.val] H = some (.ret (.int .i64 (chkV i.op i.A i.B i.C i.I)), H)) : ∃ p H', k34 C n 0 (Fr.of [1, 4, 5, 6, 7, 8, 10, 11] [SL T, ptr 11 0, dead, dead, ptr 12 0, .int .i64 f, .string (bs lab), .int .i64 a]) H = some (.ret (opR p), H') ∧ (opGood f T a i → p = (i, lab, true)) := by
  obtain ⟨hld, hst, hc⟩ := hS.fail
  have zlen : i.cells.length = 5 := rfl
  have ztk : i.cells.take 5 = i.cells := rfl
  have hlim := hS.lim
  have hrow := hS.row
  have hval : i.val = .agg i.cells.toArray := rfl
  rw [hval] at h26
  have h26 := h26
  unfold SL
  -- the end
  have fin : ∀ b : Nat, b ≤ 1001 → ((f = 5 ∨ f = 6) → (a < T.length ∧ wd T a = [41]) ∧ b = a + 1) → (¬ (f = 5 ∨ f = 6) → b = a) → ∃ p H', k34 C n 0 (Fr.of [1, 4, 5, 6, 7, 8, 10, 11] [SL T, ptr 11 0, dead, dead, ptr 12 0, .int .i64 f, .string (bs lab), .int .i64 a]) H = some (.ret (opR p), H') ∧ (opGood f T a i → p = (i, lab, true)) := by
    intro b hb1 hb2 hb3
    unfold SL
    have hw1 : (f = 5 ∨ f = 6) → IntKind.wrap .i64 ((a : Int) + 1) = (b : Int) := fun h => by rw [IntWalk.i64_in _ (by omega), (hb2 h).2]; rfl
    have hg : (f = 5 ∨ f = 6) → (tkc T)[a * 2]? = some (.string (bs [41])) := fun h => by rw [hS.get (hb2 h).1.1, (hb2 h).1.2]
    have hlt : (f = 5 ∨ f = 6) → ((T.length : Int) ≤ (a : Int)) = False := fun h => eq_false (by have := (hb2 h).1.1; omega)
    have hlt2 : (f = 5 ∨ f = 6) → ((a : Int) < (T.length : Int)) = True := fun h => eq_true (by have := (hb2 h).1.1; omega)
    have he : (bs [41] : ByteArray) = ⟨#[41]⟩ := rfl
    by_cases hl : b = T.length
    · have hl1 : ((b : Int) = (T.length : Int)) = True := eq_true (by omega)
      have hl2 : ¬ (f = 5 ∨ f = 6) → ((a : Int) = (T.length : Int)) = True := fun h => eq_true (by have := hb3 h; omega)
      by_cases hk : chkV i.op i.A i.B i.C i.I = 0
      · refine ⟨(i, lab, true), H.set 11 (.rw i.cells), ?_, fun _ => rfl⟩
        by_cases f5 : f = 5
        · have w1 := hw1 (.inl f5); have w2 := hg (.inl f5); have w3 := hlt (.inl f5); have w4 := hlt2 (.inl f5)
          simp -implicitDefEqProofs only [k34, ↓GVdn, GVup, goInt, splice, okC, Fr.of, Fr.ofI, Fr.g, Nat.reduceAdd, Nat.reduceMul, Nat.reduceEqDiff, Nat.reduceLT, Nat.reduceLeDiff, Nat.reduceBEq, Int.reduceLT, Int.reduceLE, Int.reduceToNat, Int.reduceAdd, Int.reduceSub, Int.reduceMul, Int.reduceEq, Int.reduceNeg, ↓reduceIte, ↓reduceDIte, Nat.beq, reduceCtorEq, Value.int.injEq, Nat.reduceSub, opn_lim, f5, hrow, w1, w2, w3, w4, he, hl1, hld, hst, hc, zlen, ztk, h26, hk]
          rfl
        · by_cases f6 : f = 6
          · have w1 := hw1 (.inr f6); have w2 := hg (.inr f6); have w3 := hlt (.inr f6); have w4 := hlt2 (.inr f6)
            simp -implicitDefEqProofs only [k34, ↓GVdn, GVup, goInt, splice, okC, Fr.of, Fr.ofI, Fr.g, Nat.reduceAdd, Nat.reduceMul, Nat.reduceEqDiff, Nat.reduceLT, Nat.reduceLeDiff, Nat.reduceBEq, Int.reduceLT, Int.reduceLE, Int.reduceToNat, Int.reduceAdd, Int.reduceSub, Int.reduceMul, Int.reduceEq, Int.reduceNeg, ↓reduceIte, ↓reduceDIte, Nat.beq, reduceCtorEq, Value.int.injEq, Nat.reduceSub, opn_lim, f5, f6, hrow, w1, w2, w3, w4, he, hl1, hld, hst, hc, zlen, ztk, h26, hk]
            rfl
          · have w1 := hl2 (by omega)
            simp -implicitDefEqProofs only [k34, ↓GVdn, GVup, goInt, splice, okC, Fr.of, Fr.ofI, Fr.g, Nat.reduceAdd, Nat.reduceMul, Nat.reduceEqDiff, Nat.reduceLT, Nat.reduceLeDiff, Nat.reduceBEq, Int.reduceLT, Int.reduceLE, Int.reduceToNat, Int.reduceAdd, Int.reduceSub, Int.reduceMul, Int.reduceEq, Int.reduceNeg, ↓reduceIte, ↓reduceDIte, Nat.beq, reduceCtorEq, Value.int.injEq, Nat.reduceSub, opn_lim, f5, f6, hrow, w1, hld, hst, hc, zlen, ztk, h26, hk]
            rfl
      · have hkd : (chkV i.op i.A i.B i.C i.I = 0) = False := eq_false hk
        refine ⟨(i, lab, false), H.set 11 (.rw i.cells), ?_, fun h => absurd h.2.2 hk⟩
        by_cases f5 : f = 5
        · have w1 := hw1 (.inl f5); have w2 := hg (.inl f5); have w3 := hlt (.inl f5); have w4 := hlt2 (.inl f5)
          simp -implicitDefEqProofs only [k34, ↓GVdn, GVup, goInt, splice, okC, Fr.of, Fr.ofI, Fr.g, Nat.reduceAdd, Nat.reduceMul, Nat.reduceEqDiff, Nat.reduceLT, Nat.reduceLeDiff, Nat.reduceBEq, Int.reduceLT, Int.reduceLE, Int.reduceToNat, Int.reduceAdd, Int.reduceSub, Int.reduceMul, Int.reduceEq, Int.reduceNeg, ↓reduceIte, ↓reduceDIte, Nat.beq, reduceCtorEq, Value.int.injEq, Nat.reduceSub, opn_lim, f5, hrow, w1, w2, w3, w4, he, hl1, hld, hst, hc, zlen, ztk, h26, hkd]
          rfl
        · by_cases f6 : f = 6
          · have w1 := hw1 (.inr f6); have w2 := hg (.inr f6); have w3 := hlt (.inr f6); have w4 := hlt2 (.inr f6)
            simp -implicitDefEqProofs only [k34, ↓GVdn, GVup, goInt, splice, okC, Fr.of, Fr.ofI, Fr.g, Nat.reduceAdd, Nat.reduceMul, Nat.reduceEqDiff, Nat.reduceLT, Nat.reduceLeDiff, Nat.reduceBEq, Int.reduceLT, Int.reduceLE, Int.reduceToNat, Int.reduceAdd, Int.reduceSub, Int.reduceMul, Int.reduceEq, Int.reduceNeg, ↓reduceIte, ↓reduceDIte, Nat.beq, reduceCtorEq, Value.int.injEq, Nat.reduceSub, opn_lim, f5, f6, hrow, w1, w2, w3, w4, he, hl1, hld, hst, hc, zlen, ztk, h26, hkd]
            rfl
          · have w1 := hl2 (by omega)
            simp -implicitDefEqProofs only [k34, ↓GVdn, GVup, goInt, splice, okC, Fr.of, Fr.ofI, Fr.g, Nat.reduceAdd, Nat.reduceMul, Nat.reduceEqDiff, Nat.reduceLT, Nat.reduceLeDiff, Nat.reduceBEq, Int.reduceLT, Int.reduceLE, Int.reduceToNat, Int.reduceAdd, Int.reduceSub, Int.reduceMul, Int.reduceEq, Int.reduceNeg, ↓reduceIte, ↓reduceDIte, Nat.beq, reduceCtorEq, Value.int.injEq, Nat.reduceSub, opn_lim, f5, f6, hrow, w1, hld, hst, hc, zlen, ztk, h26, hkd]
            rfl
    · have hl1 : ((b : Int) = (T.length : Int)) = False := eq_false (by omega)
      have hl2 : ¬ (f = 5 ∨ f = 6) → ((a : Int) = (T.length : Int)) = False := fun h => eq_false (by have := hb3 h; omega)
      refine ⟨(i, lab, false), H.set 11 (.rw i.cells), ?_, fun h => ?_⟩
      · by_cases f5 : f = 5
        · have w1 := hw1 (.inl f5); have w2 := hg (.inl f5); have w3 := hlt (.inl f5); have w4 := hlt2 (.inl f5)
          simp -implicitDefEqProofs only [k34, ↓GVdn, GVup, goInt, splice, okC, Fr.of, Fr.ofI, Fr.g, Nat.reduceAdd, Nat.reduceMul, Nat.reduceEqDiff, Nat.reduceLT, Nat.reduceLeDiff, Nat.reduceBEq, Int.reduceLT, Int.reduceLE, Int.reduceToNat, Int.reduceAdd, Int.reduceSub, Int.reduceMul, Int.reduceEq, Int.reduceNeg, ↓reduceIte, ↓reduceDIte, Nat.beq, reduceCtorEq, Value.int.injEq, Nat.reduceSub, opn_lim, f5, hrow, w1, w2, w3, w4, he, hl1, hld, hst, hc, zlen, ztk]
          rfl
        · by_cases f6 : f = 6
          · have w1 := hw1 (.inr f6); have w2 := hg (.inr f6); have w3 := hlt (.inr f6); have w4 := hlt2 (.inr f6)
            simp -implicitDefEqProofs only [k34, ↓GVdn, GVup, goInt, splice, okC, Fr.of, Fr.ofI, Fr.g, Nat.reduceAdd, Nat.reduceMul, Nat.reduceEqDiff, Nat.reduceLT, Nat.reduceLeDiff, Nat.reduceBEq, Int.reduceLT, Int.reduceLE, Int.reduceToNat, Int.reduceAdd, Int.reduceSub, Int.reduceMul, Int.reduceEq, Int.reduceNeg, ↓reduceIte, ↓reduceDIte, Nat.beq, reduceCtorEq, Value.int.injEq, Nat.reduceSub, opn_lim, f5, f6, hrow, w1, w2, w3, w4, he, hl1, hld, hst, hc, zlen, ztk]
            rfl
          · have w1 := hl2 (by omega)
            simp -implicitDefEqProofs only [k34, ↓GVdn, GVup, goInt, splice, okC, Fr.of, Fr.ofI, Fr.g, Nat.reduceAdd, Nat.reduceMul, Nat.reduceEqDiff, Nat.reduceLT, Nat.reduceLeDiff, Nat.reduceBEq, Int.reduceLT, Int.reduceLE, Int.reduceToNat, Int.reduceAdd, Int.reduceSub, Int.reduceMul, Int.reduceEq, Int.reduceNeg, ↓reduceIte, ↓reduceDIte, Nat.beq, reduceCtorEq, Value.int.injEq, Nat.reduceSub, opn_lim, f5, f6, hrow, w1, hld, hst, hc, zlen, ztk]
            rfl
      · by_cases f56 : f = 5 ∨ f = 6
        · exact absurd ((hb2 f56).2.trans (h.1 f56).2.symm) hl
        · exact absurd ((hb3 f56).trans (h.2.1 f56).symm) hl
  by_cases f56 : f = 5 ∨ f = 6
  · by_cases hp : a < T.length ∧ wd T a = [41]
    · exact fin (a + 1) (by omega) (fun _ => ⟨hp, rfl⟩) (fun h => absurd f56 h)
    · refine ⟨(i, [], false), H.set 11 (.rw i.cells), ?_, fun h => absurd (h.1 f56).1 hp⟩
      have he : (bs [] : ByteArray) = ⟨#[]⟩ := rfl
      by_cases hj : a < T.length
      · have w2 := hS.get hj
        have w3 : ((T.length : Int) ≤ (a : Int)) = False := eq_false (by omega)
        have w4 : ((a : Int) < (T.length : Int)) = True := eq_true (by omega)
        have w5 : (bs (wd T a) = ⟨#[41]⟩) = False := eq_false (fun e => hp ⟨hj, bs_inj (b := [41]) e⟩)
        by_cases f5 : f = 5
        · simp -implicitDefEqProofs only [k34, ↓GVdn, GVup, goInt, splice, okC, Fr.of, Fr.ofI, Fr.g, Nat.reduceAdd, Nat.reduceMul, Nat.reduceEqDiff, Nat.reduceLT, Nat.reduceLeDiff, Nat.reduceBEq, Int.reduceLT, Int.reduceLE, Int.reduceToNat, Int.reduceAdd, Int.reduceSub, Int.reduceMul, Int.reduceEq, Int.reduceNeg, ↓reduceIte, ↓reduceDIte, Nat.beq, reduceCtorEq, Value.int.injEq, Nat.reduceSub, opn_lim, f5, hrow, w2, w3, w4, w5, hld, hst, hc, zlen, ztk]
          rfl
        · have f6 : f = 6 := by omega
          simp -implicitDefEqProofs only [k34, ↓GVdn, GVup, goInt, splice, okC, Fr.of, Fr.ofI, Fr.g, Nat.reduceAdd, Nat.reduceMul, Nat.reduceEqDiff, Nat.reduceLT, Nat.reduceLeDiff, Nat.reduceBEq, Int.reduceLT, Int.reduceLE, Int.reduceToNat, Int.reduceAdd, Int.reduceSub, Int.reduceMul, Int.reduceEq, Int.reduceNeg, ↓reduceIte, ↓reduceDIte, Nat.beq, reduceCtorEq, Value.int.injEq, Nat.reduceSub, opn_lim, f5, f6, hrow, w2, w3, w4, w5, hld, hst, hc, zlen, ztk]
          rfl
      · have w3 : ((T.length : Int) ≤ (a : Int)) = True := eq_true (by omega)
        by_cases f5 : f = 5
        · simp -implicitDefEqProofs only [k34, ↓GVdn, GVup, goInt, splice, okC, Fr.of, Fr.ofI, Fr.g, Nat.reduceAdd, Nat.reduceMul, Nat.reduceEqDiff, Nat.reduceLT, Nat.reduceLeDiff, Nat.reduceBEq, Int.reduceLT, Int.reduceLE, Int.reduceToNat, Int.reduceAdd, Int.reduceSub, Int.reduceMul, Int.reduceEq, Int.reduceNeg, ↓reduceIte, ↓reduceDIte, Nat.beq, reduceCtorEq, Value.int.injEq, Nat.reduceSub, opn_lim, f5, hrow, w3, hld, hst, hc, zlen, ztk]
          rfl
        · have f6 : f = 6 := by omega
          simp -implicitDefEqProofs only [k34, ↓GVdn, GVup, goInt, splice, okC, Fr.of, Fr.ofI, Fr.g, Nat.reduceAdd, Nat.reduceMul, Nat.reduceEqDiff, Nat.reduceLT, Nat.reduceLeDiff, Nat.reduceBEq, Int.reduceLT, Int.reduceLE, Int.reduceToNat, Int.reduceAdd, Int.reduceSub, Int.reduceMul, Int.reduceEq, Int.reduceNeg, ↓reduceIte, ↓reduceDIte, Nat.beq, reduceCtorEq, Value.int.injEq, Nat.reduceSub, opn_lim, f5, f6, hrow, w3, hld, hst, hc, zlen, ztk]
          rfl
  · exact fin a (by omega) (fun h => absurd h f56) (fun _ => rfl)

theorem q34 (n : Nat) (H : Hp) {b o : Nat} {CL : List Value} {T : List (Bs × Bool)} (x0 : Value) (hx0 : flat x0 = true) (hc : H.cells b = some CL) (hr : (CL.drop o).take (T.length * 2) = tkc T) (hl : o + T.length * 2 ≤ CL.length) :
    evCall cfc (n+1) 34 [x0, .slice (some ⟨b, o, none⟩) T.length 2] H = movR [(b, o, tkc T)] H (s34 (evCall cfc n) n x0 (SL T) (Hp.cl (Hp.fl.new (.ro (tkc T))))) := by
  have hp : pkA H [x0, .slice (some ⟨b, o, none⟩) T.length 2] [] = some ([x0, .slice (some ⟨10, 0, none⟩) T.length 2], [(b, o, tkc T)]) := by
    have hfl : flat (.slice (some ⟨b, o, none⟩) T.length 2) = false := rfl
    simp only [pkA, pkV, hx0, hfl, hc, Option.bind_some, hr, Bool.false_eq_true, if_false, if_true]
    rw [if_pos ⟨hl, tkc_flat T⟩]
    rfl
  rw [evCall_pk (fn := Tryd.f34) (by rfl) (by rfl) Tryd.func34 (by rfl) hp]
  exact congrArg (movR _ H) (s34_eq _ _ _ _ _)
theorem v34 (n : Nat) (hn : 60 < n) (H : Hp) {b o : Nat} {CL : List Value} {T : List (Bs × Bool)} (hc : H.cells b = some CL) (hr : (CL.drop o).take (T.length * 2) = tkc T) (hl : o + T.length * 2 ≤ CL.length) (op : Int) (hT : T.length ≤ 1000) (hw : ∀ j, (wd T j).length ≤ 1000) :
    ∃ p, evCall cfc (n+1) 34 [.int .i64 op, .slice (some ⟨b, o, none⟩) T.length 2] H = some (.ret (opR p), H) ∧
      ∀ i, opGo (formV op) T (rOps (formV op)).data.toList 0 ⟨op, 0, 0, 0, 0⟩ [] = some (i, []) → opGood (formV op) T (2 * (rOps (formV op)).data.toList.length - 1) i → p = (i, [], true) := by
  obtain ⟨q, rfl⟩ : ∃ q, n = q + 60 := ⟨n - 60, by omega⟩
  rw [q34 _ H _ rfl hc hr hl]
  have fin : ∀ (p : Ins × Bs × Bool) (H' : Hp), movR [(b, o, tkc T)] H (some (.ret (opR p), H')) = some (.ret (opR p), H) := fun p H' => movR_flat (show flat (opR p) = true from rfl)
  have hS3 := rOps_len (formV op)
  have h28 := fun H => v28f (q + 58) H op
  have h27 := fun H => v27 (q + 58) H op
  have hb : rOps (formV op) = bs (rOps (formV op)).data.toList := (list_bs _).symm
  rw [hb] at h28
  generalize (rOps (formV op)).data.toList = S at *
  generalize hH0 : Hp.cl (Hp.fl.new (.ro (tkc T))) = H0
  have n0 : H0.next = 11 := by subst hH0; rfl
  have l0 : H0.lim = 11 := by subst hH0; rfl
  have c0 : H0.cells 10 = some (tkc T) := by subst hH0; rfl
  have hI : OpS (((H0.new (.rw [.int .i64 0, .int .i64 0, .int .i64 0, .int .i64 0, .int .i64 0])).new (.rw [.int .i64 0, .int .i64 0, .int .i64 0, .int .i64 0, .int .i64 0])).set 12 (.rw [.int .i64 op, .int .i64 0, .int .i64 0, .int .i64 0, .int .i64 0])) T ⟨op, 0, 0, 0, 0⟩ :=
    ⟨by simp -implicitDefEqProofs only [cells_new, cells_set, Hp.next_new, Hp.next_set, n0, c0]; rfl,
     ⟨zer, by simp -implicitDefEqProofs only [rwc_new, rwc_set, Hp.next_new, Hp.next_set, n0]; rfl⟩,
     by simp -implicitDefEqProofs only [rwc_new, rwc_set, Hp.next_new, Hp.next_set, n0]; rfl,
     by simp only [Hp.lim_new, Hp.lim_set, l0]; exact Nat.le_refl _⟩
  have hL := op_loop (q + 60) (q + 60) (by omega) (formV op) S hS3 T hT hw S 0 (q + 60) rfl (by omega) (by omega) _ _ [] hI
  have lim1 : (11 ≤ 12) = True := eq_true (by omega)
  have hs : ∀ X, lp (s34_b1 (evCall cfc (q + 60)) (q + 60)) (q + 60) [SL T, ptr 11 0, ptr 12 0, .int .i64 (formV op), .string (bs S), .string ⟨#[]⟩, .int .i64 0, .int .i64 0] (((H0.new (.rw [.int .i64 0, .int .i64 0, .int .i64 0, .int .i64 0, .int .i64 0])).new (.rw [.int .i64 0, .int .i64 0, .int .i64 0, .int .i64 0, .int .i64 0])).set 12 (.rw [.int .i64 op, .int .i64 0, .int .i64 0, .int .i64 0, .int .i64 0])) (k34 (evCall cfc (q + 60)) (q + 60)) r34 = X → s34 (evCall cfc (q + 60)) (q + 60) (.int .i64 op) (SL T) H0 = X := by
    intro X hX
    rw [← hX, s34_k]
    generalize k34 (evCall cfc (q + 60)) (q + 60) = kx
    generalize r34 = kr
    simp -implicitDefEqProofs only [↓GVdn, GVup, goInt, splice, okC, Fr.of, Fr.ofI, Fr.g, Nat.reduceAdd, Nat.reduceMul, Nat.reduceEqDiff, Nat.reduceLT, Nat.reduceLeDiff, Nat.reduceBEq, Int.reduceLT, Int.reduceLE, Int.reduceToNat, Int.reduceAdd, Int.reduceSub, Int.reduceMul, Int.reduceEq, Int.reduceNeg, ↓reduceIte, ↓reduceDIte, Nat.beq, reduceCtorEq, Value.int.injEq, Nat.reduceSub, sto_ptr, n0, l0, lim1, h27, h28]
  cases hg : opGo (formV op) T S 0 ⟨op, 0, 0, 0, 0⟩ [] with
  | none =>
    rw [hg] at hL
    obtain ⟨fr, H', hF, hl⟩ := hL
    obtain ⟨i, hi⟩ := r34_eq fr H' hF
    refine ⟨(i, [], false), ?_, fun i h => absurd h (by simp)⟩
    rw [hs _ ((hl _ _).trans hi)]
    exact fin _ _
  | some pr =>
    rw [hg] at hL
    obtain ⟨i, lab⟩ := pr
    obtain ⟨H', hO, hl⟩ := hL
    obtain ⟨p, H2, hp, hgd⟩ := k34_eq (evCall cfc (q + 60)) (q + 60) (formV op) T hT (2 * S.length - 1) (by omega) lab H' i hO (fun H => v26 (q + 54) H i.op i.A i.B i.C i.I)
    refine ⟨p, ?_, fun i' h hG => ?_⟩
    · rw [hs _ ((hl _ _).trans hp)]
      exact fin _ _
    · cases h
      exact hgd hG
end Go.Proofs.YtbaooebafijenaaDoor
