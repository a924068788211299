/- The instruction that words are. -/
import Derived.Test.YtbaooebafijenaaGreatDoorHIns
import Derived.Test.YtbaooebafijenaaGreatDoorHCodeB
import Derived.Test.YtbaooebafijenaaGreatDoorHvBun
namespace Go.Proofs.YtbaooebafijenaaGreatDoor
open Go Go.Ev
set_option maxRecDepth 100000
set_option linter.unusedSimpArgs false
set_option linter.unusedVariables false
set_option maxHeartbeats 2000000
set_option linter.unusedSectionVars false
variable [Mx]
attribute [local congr] bind_front callK_front jn_front ifB_front ifG_front lp_front
def shpL : List ByteArray := [⟨#[]⟩, ⟨#[]⟩, ⟨#[97, 98, 99]⟩, ⟨#[97, 98, 105]⟩, ⟨#[97, 105]⟩, ⟨#[97, 105, 98]⟩, ⟨#[65, 105, 98]⟩, ⟨#[97, 98, 105]⟩, ⟨#[97, 105]⟩, ⟨#[65, 66, 67]⟩, ⟨#[65, 66]⟩, ⟨#[97, 66, 67]⟩, ⟨#[97, 66]⟩, ⟨#[65, 98]⟩, ⟨#[65, 98, 99]⟩, ⟨#[97, 105]⟩]
def shpB (f : Int) : ByteArray := shpL.getD f.toNat emp
theorem shp_tab (f : Int) (hf : 1 ≤ f ∧ f < 16) : shapesC[f.toNat]? = some (.string (shpB f)) := by
 have : f = 1 ∨ f = 2 ∨ f = 3 ∨ f = 4 ∨ f = 5 ∨ f = 6 ∨ f = 7 ∨ f = 8 ∨ f = 9 ∨ f = 10 ∨ f = 11 ∨ f = 12 ∨ f = 13 ∨ f = 14 ∨ f = 15 := by omega
 rcases this with rfl | rfl | rfl | rfl | rfl | rfl | rfl | rfl | rfl | rfl | rfl | rfl | rfl | rfl | rfl <;> (show _ = _; kernel_rfl)
theorem shp_facts (f : Int) (hf : 1 ≤ f ∧ f < 16) : (shpB f).size ≤ 3 ∧ (betw f).length = (shpB f).size - 1 ∧ (∀ c ∈ (shpB f).data.toList, shpC c.toNat) := by
 have : f = 1 ∨ f = 2 ∨ f = 3 ∨ f = 4 ∨ f = 5 ∨ f = 6 ∨ f = 7 ∨ f = 8 ∨ f = 9 ∨ f = 10 ∨ f = 11 ∨ f = 12 ∨ f = 13 ∨ f = 14 ∨ f = 15 := by omega
 unfold shpC
 rcases this with rfl | rfl | rfl | rfl | rfl | rfl | rfl | rfl | rfl | rfl | rfl | rfl | rfl | rfl | rfl <;> decide
theorem findN_pos (s : ByteArray) : ∀ (l : List ByteArray) (i j : Nat), findN s l i = some j → i ≤ j ∧ j < i + l.length ∧ l.getD (j - i) emp = s ∧ ¬ s = emp
 | [], i, j, h => by simp [findN] at h
 | x :: l, i, j, h => by
   simp only [findN] at h
   split at h
   · rename_i hx
     cases h
     exact ⟨Nat.le_refl _, by simp, by simpa using hx.1, hx.2⟩
   · obtain ⟨h1, h2, h3, h4⟩ := findN_pos s l (i + 1) j h
     refine ⟨by omega, by simp; omega, ?_, h4⟩
     have e : j - i = (j - (i + 1)) + 1 := by omega
     rw [e]
     simpa using h3
theorem named_form {s : ByteArray} (h : 0 ≤ namedV s) : 1 ≤ formV (namedV s) ∧ formV (namedV s) < 16 := by
 unfold namedV at h ⊢
 cases hf : findN s nmL 0 with
 | none => rw [hf] at h; exact absurd h (by decide)
 | some j =>
   obtain ⟨_, h2, h3, h4⟩ := findN_pos s nmL 0 j hf
   rw [nmL_len] at h2
   have hj : j < 72 := by omega
   have hne : j ≠ 0 := fun e => by
     subst e
     exact h4 (h3.symm.trans (by rfl))
   have := of_decide_eq_true (List.all_eq_true.1 (show (List.range 72).all (fun k => decide (k = 0 ∨ 1 ≤ formV (k : Int) ∧ formV (k : Int) < 16)) = true by kernel_rfl) j (List.mem_range.2 hj))
   exact this.resolve_left hne
def cpar : ByteArray := ⟨#[41]⟩
def opL (f : Int) (T1 : List ByteArray) : List ByteArray := if f = 5 ∨ f = 6 then T1.take 5 else T1
def insV : List ByteArray → Ins × ByteArray × Bool
 | [] => (zer, emp, false)
 | t :: T1 =>
   if namedV t < 0 then (zer, emp, false)
   else if (formV (namedV t) = 5 ∨ formV (namedV t) = 6) ∧ (¬ T1.length = 6 ∨ ¬ T1.getD 5 emp = cpar) then (zer, emp, false)
   else if ¬ (opL (formV (namedV t)) T1).length = 2 * (shpB (formV (namedV t))).size - 1 then (zer, emp, false)
   else match insGo (formV (namedV t)) (betw (formV (namedV t))) (opL (formV (namedV t)) T1) (shpB (formV (namedV t))).data.toList 0 ⟨namedV t, 0, 0, 0, 0⟩ emp with
     | none => (zer, emp, false)
     | some (i, tl) => (i, tl, decide (chkV i.op i.A i.B i.C i.I = 0))
def insR (p : Ins × ByteArray × Bool) : Value := .tuple #[p.1.val, .string p.2.1, .bool p.2.2]
theorem insR_flat (p : Ins × ByteArray × Bool) : flat (insR p) = true := rfl
theorem mx0 (s : Nat) (h : s ≤ 3) : mxI true (.int .i64 0) [.int .i64 (IntKind.wrap .i64 (IntKind.wrap .i64 (2 * (s : Int)) - 1))] = some (.int .i64 ((2 * s - 1 : Nat) : Int)) := by
 have : s = 0 ∨ s = 1 ∨ s = 2 ∨ s = 3 := by omega
 rcases this with rfl | rfl | rfl | rfl <;> rfl
theorem q48 (n : Nat) (H : Hp) {b o : Nat} {CL : List Value} {T : List ByteArray} (hc : H.cells b = some CL) (hr : (CL.drop o).take T.length = T.map Value.string) (hl : o + T.length ≤ CL.length) :
   evCall cfc (n+1) 48 [.slice (some ⟨b, o, none⟩) T.length 1] H = movR [(b, o, T.map Value.string)] H (s48 (evCall cfc n) n (.slice (some ⟨11, 0, none⟩) T.length 1) (Hp.cl (Hp.fl.new (.ro (T.map Value.string))))) := by
 have hp : pkA H [.slice (some ⟨b, o, none⟩) T.length 1] [] = some ([.slice (some ⟨11, 0, none⟩) T.length 1], [(b, o, T.map Value.string)]) := by
   have hfl : flat (.slice (some ⟨b, o, none⟩) T.length 1) = false := rfl
   simp only [pkA, pkV, hfl, hc, Option.bind_some, Nat.mul_one, hr, Bool.false_eq_true, if_false]
   rw [if_pos ⟨hl, strs_flat T⟩]
   rfl
 rw [evCall_pk (fn := Tryz.f48) (by rfl) (by rfl) Tryz.func48 (by rfl) hp]
 exact congrArg (movR _ H) (s48_eq _ _ _ _)
theorem v48 (n : Nat) (H : Hp) {b o : Nat} {CL : List Value} {T : List ByteArray} (hc : H.cells b = some CL) (hr : (CL.drop o).take T.length = T.map Value.string) (hl : o + T.length ≤ CL.length) (hw : ∀ w ∈ T, w.size < n ∧ w.size ≤ 281474976710656) :
   evCall cfc (n+81) 48 [.slice (some ⟨b, o, none⟩) T.length 1] H = some (.ret (insR (insV T)), H) := by
 rw [q48 (n+80) H hc hr hl]
 have fin : ∀ (p : Ins × ByteArray × Bool) (H' : Hp), movR [(b, o, T.map Value.string)] H (some (.ret (insR p), H')) = some (.ret (insR p), H) := fun p H' => movR_flat (insR_flat p)
 suffices hs : (s48 (evCall cfc (n+80)) (n+80) (.slice (some ⟨11, 0, none⟩) T.length 1) (Hp.cl (Hp.fl.new (.ro (T.map Value.string))))).map Prod.fst = some (.ret (insR (insV T))) by
   obtain ⟨⟨v, H'⟩, h, h2⟩ := Option.map_eq_some_iff.1 hs
   rw [h]
   simp only at h2
   rw [h2]
   exact fin _ _
 generalize hH0 : Hp.cl (Hp.fl.new (.ro (T.map Value.string))) = H0
 have n0 : H0.next = 12 := by subst hH0; rfl
 have l0 : H0.lim = 12 := by subst hH0; rfl
 have c0 : H0.cells 11 = some (T.map Value.string) := by subst hH0; rfl
 have t0 : H0.cells 1 = some shapesC := by subst hH0; rfl
 have lim1 : (12 ≤ 12) = True := eq_true (Nat.le_refl _)
 cases T with
 | nil =>
   simp -implicitDefEqProofs only [s48, ↓GVdn, GVup, goInt, splice, okC, Fr.of, Fr.ofI, Fr.g, Nat.reduceAdd, Nat.reduceMul, Nat.reduceEqDiff, Nat.reduceLT, Nat.reduceLeDiff, Nat.reduceBEq, Int.reduceLT, Int.reduceLE, Int.reduceToNat, Int.reduceAdd, Int.reduceSub, Int.reduceMul, Int.reduceEq, Int.reduceNeg, ↓reduceIte, ↓reduceDIte, Nat.beq, reduceCtorEq, Value.int.injEq, Nat.reduceSub, sto_ptr, lp_succ, opn_lim, n0, l0, c0, insV, insR, Ins.val, Ins.cells, zer, List.map_nil, emp, Option.map_some]
 | cons t T1 =>
   have hlen : (((T1.length + 1 : Nat) : Int) = 0) = False := eq_false (by omega)
   have hlt : ((0 : Int) < ((T1.length + 1 : Nat) : Int)) = True := eq_true (by omega)
   have h50 := fun H => v73 (n+77) (by omega) t H
   by_cases hneg : namedV t < 0
   · have hd : decide (0 ≤ namedV t) = false := decide_eq_false (by omega)
     have e : insV (t :: T1) = (zer, emp, false) := by simp only [insV, if_pos hneg]
     rw [e]
     rw [hd] at h50
     simp -implicitDefEqProofs only [s48, ↓GVdn, GVup, goInt, splice, okC, Fr.of, Fr.ofI, Fr.g, Nat.reduceAdd, Nat.reduceMul, Nat.reduceEqDiff, Nat.reduceLT, Nat.reduceLeDiff, Nat.reduceBEq, Int.reduceLT, Int.reduceLE, Int.reduceToNat, Int.reduceAdd, Int.reduceSub, Int.reduceMul, Int.reduceEq, Int.reduceNeg, ↓reduceIte, ↓reduceDIte, Nat.beq, reduceCtorEq, Value.int.injEq, Nat.reduceSub, sto_ptr, lp_succ, opn_lim, n0, l0, c0, hlen, hlt, h50, insR, Ins.val, Ins.cells, zer, emp, List.map_cons, Option.map_some]
   · have hd : decide (0 ≤ namedV t) = true := decide_eq_true (by omega)
     rw [hd] at h50
     obtain ⟨hf1, hf2⟩ := named_form (s := t) (by omega)
     generalize hop : namedV t = op at *
     have h18 := fun H => v40 (n+77) H op
     have h51 := fun H => v74 (n+75) H (formV op) ⟨hf1, hf2⟩
     obtain ⟨sz, bl, sc⟩ := shp_facts (formV op) ⟨hf1, hf2⟩
     have stb := shp_tab (formV op) ⟨hf1, hf2⟩
     have hmx := mx0 (shpB (formV op)).size sz
     have o0 : H0.opn 12 = H0 := by rw [← l0]; rfl
     have hin16 : (0 ≤ formV op) = True := eq_true (by omega)
     have hin17 : (formV op < 16) = True := eq_true (by omega)
     have hle1 : ((1 : Int) ≤ ((T1.length + 1 : Nat) : Int)) = True := eq_true (by omega)
     have eI : insV (t :: T1) = if (formV op = 5 ∨ formV op = 6) ∧ (¬ T1.length = 6 ∨ ¬ T1.getD 5 emp = cpar) then (zer, emp, false)
         else if ¬ (opL (formV op) T1).length = 2 * (shpB (formV op)).size - 1 then (zer, emp, false)
         else match insGo (formV op) (betw (formV op)) (opL (formV op) T1) (shpB (formV op)).data.toList 0 ⟨op, 0, 0, 0, 0⟩ emp with
           | none => (zer, emp, false)
           | some (i, tl) => (i, tl, decide (chkV i.op i.A i.B i.C i.I = 0)) := by
       simp only [insV, hop, if_neg hneg]
     have hI : ∀ L : List ByteArray, (((t :: T1).map Value.string).drop 1).take L.length = L.map Value.string → InS ((((((H0.new (.rw [.int .i64 0, .int .i64 0, .int .i64 0, .int .i64 0, .int .i64 0])).new (.rw [.int .i64 0, .int .i64 0, .int .i64 0, .int .i64 0, .int .i64 0])).new (.rw [.int .i64 0, .int .i64 0, .int .i64 0, .int .i64 0, .int .i64 0])).set 14 (.rw [.int .i64 op, .int .i64 0, .int .i64 0, .int .i64 0, .int .i64 0])).new (.rw ((betw (formV op)).map Value.string)))) 1 ((t :: T1).map Value.string) L (betw (formV op)) ⟨op, 0, 0, 0, 0⟩ := fun L hL =>
       ⟨by simp -implicitDefEqProofs only [cells_new, cells_set, Hp.next_new, Hp.next_set, n0, c0]; rfl, hL,
        by simp -implicitDefEqProofs only [cells_new, cells_set, Hp.next_new, Hp.next_set, n0]; rfl,
        by simp -implicitDefEqProofs only [rwc_new, rwc_set, Hp.next_new, Hp.next_set, n0]; rfl,
        by simp -implicitDefEqProofs only [rwc_new, rwc_set, Hp.next_new, Hp.next_set, n0]; rfl,
        by simp -implicitDefEqProofs only [cells_new, cells_set, Hp.next_new, Hp.next_set, n0]; rfl,
        by simp only [Hp.lim_new, Hp.lim_set, l0]; exact Nat.le_refl _⟩
     rw [eI]
     generalize formV op = f at *
     have hT1 : ∀ w ∈ T1, w.size < n + 75 + 4 ∧ w.size ≤ 281474976710656 := fun w h => ⟨by have := (hw w (List.mem_cons_of_mem _ h)).1; omega, (hw w (List.mem_cons_of_mem _ h)).2⟩
     have hz : st 5 (ptr 12 0) (.agg #[.int .i64 0, .int .i64 0, .int .i64 0, .int .i64 0, .int .i64 0]) = st 5 (ptr 12 0) (.agg zer.cells.toArray) := rfl
     by_cases h56 : f = 5 ∨ f = 6
     · by_cases h6 : T1.length = 6
       · by_cases h5 : T1.getD 5 emp = cpar
         · have hx : ¬ ((f = 5 ∨ f = 6) ∧ (¬ T1.length = 6 ∨ ¬ T1.getD 5 emp = cpar)) := fun h => h.2.elim (fun h => h h6) (fun h => h h5)
           rw [if_neg hx]
           have hopL : opL f T1 = T1.take 5 := if_pos h56
           have hL5 : (T1.take 5).length = 5 := by simp [h6]
           have g5 : (T1.map Value.string)[5]? = some (.string (T1.getD 5 emp)) := by
             rw [List.getElem?_map, List.getElem?_eq_getElem (by omega)]
             simp [List.getD_eq_getElem?_getD, h6]
           have h5' : (T1.getD 5 ⟨#[]⟩ = ⟨#[41]⟩) = True := eq_true h5
           rw [hopL]
           have hII := hI (T1.take 5) (by rw [hL5, List.map_cons, List.drop_succ_cons, List.drop_zero, List.map_take])
           by_cases hlen2 : (T1.take 5).length = 2 * (shpB f).size - 1
           · rw [if_neg (fun h => h hlen2)]
             obtain ⟨H', i', hlp, hIS, hres⟩ := ins_loop (n+75) f (shpB f) 1 ((t :: T1).map Value.string) (T1.take 5) (betw f) hlen2 bl sz sc (fun w h => hT1 w (List.mem_of_mem_take h)) (shpB f).size 0 (n+80) (by omega) (by omega) _ _ emp hII
             simp only [List.drop_zero] at hlp hres
             generalize insGo f (betw f) (T1.take 5) (shpB f).data.toList 0 ⟨op, 0, 0, 0, 0⟩ emp = g at hlp hres ⊢
             rw [hL5] at hlp hlen2
             have hcmp : ((5 : Int) = ((2 * (shpB f).size - 1 : Nat) : Int)) = True := eq_true (by omega)
             have hlp' : ∀ (kx : Nat → Fr → Hp → Option (Out × Hp)) (kr : Fr → Hp → Option (Out × Hp)), lp (s48_b1 (evCall cfc (n+80)) (n+80)) (n+80) [.slice (some ⟨11, 1, none⟩) 5 1, ptr 12 0, ptr 13 0, ptr 14 0, .int .i64 f, .string (shpB f), .slice (some ⟨15, 0, none⟩) (betw f).length 1, .string ⟨#[]⟩, .int .i64 (shpB f).size, .int .i64 0] _ kx kr = _ := hlp
             have cres := cells_rwc hIS.res
             have rres := hIS.res
             have c13 := cells_rwc hIS.ins
             have hlim := eq_true hIS.lim
             cases g with
             | none =>
               simp only at hlp'
               rcases h56 with rfl | rfl
               · have stb : shapesC[5]? = some (.string (shpB 5)) := stb
                 simp -implicitDefEqProofs only [s48, ↓GVdn, GVup, goInt, splice, okC, Fr.of, Fr.ofI, Fr.g, Nat.reduceAdd, Nat.reduceMul, Nat.reduceEqDiff, Nat.reduceLT, Nat.reduceLeDiff, Nat.reduceBEq, Int.reduceLT, Int.reduceLE, Int.reduceToNat, Int.reduceAdd, Int.reduceSub, Int.reduceMul, Int.reduceEq, Int.reduceNeg, ↓reduceIte, ↓reduceDIte, Nat.beq, reduceCtorEq, Value.int.injEq, Nat.reduceSub, sto_ptr, opn_lim, n0, l0, c0, t0, o0, hlen, hlt, h50, h18, h51, stb, hmx, hin16, hin17, hle1, Nat.add_sub_cancel, List.map_cons, Option.map_some, List.cons_append, h6, g5, h5', hcmp, hlp', cres, insR, Ins.val, Ins.cells, zer, emp]
               · have stb : shapesC[6]? = some (.string (shpB 6)) := stb
                 simp -implicitDefEqProofs only [s48, ↓GVdn, GVup, goInt, splice, okC, Fr.of, Fr.ofI, Fr.g, Nat.reduceAdd, Nat.reduceMul, Nat.reduceEqDiff, Nat.reduceLT, Nat.reduceLeDiff, Nat.reduceBEq, Int.reduceLT, Int.reduceLE, Int.reduceToNat, Int.reduceAdd, Int.reduceSub, Int.reduceMul, Int.reduceEq, Int.reduceNeg, ↓reduceIte, ↓reduceDIte, Nat.beq, reduceCtorEq, Value.int.injEq, Nat.reduceSub, sto_ptr, opn_lim, n0, l0, c0, t0, o0, hlen, hlt, h50, h18, h51, stb, hmx, hin16, hin17, hle1, Nat.add_sub_cancel, List.map_cons, Option.map_some, List.cons_append, h6, g5, h5', hcmp, hlp', cres, insR, Ins.val, Ins.cells, zer, emp]
             | some q =>
               obtain ⟨i2, tl2⟩ := q
               have := hres i2 tl2 rfl
               subst this
               have h21' := fun H => v38 (n+74) H i'.op i'.A i'.B i'.C i'.I
               simp only at hlp'
               rcases h56 with rfl | rfl
               · have stb : shapesC[5]? = some (.string (shpB 5)) := stb
                 simp -implicitDefEqProofs only [s48, ↓GVdn, GVup, goInt, splice, okC, Fr.of, Fr.ofI, Fr.g, Nat.reduceAdd, Nat.reduceMul, Nat.reduceEqDiff, Nat.reduceLT, Nat.reduceLeDiff, Nat.reduceBEq, Int.reduceLT, Int.reduceLE, Int.reduceToNat, Int.reduceAdd, Int.reduceSub, Int.reduceMul, Int.reduceEq, Int.reduceNeg, ↓reduceIte, ↓reduceDIte, Nat.beq, reduceCtorEq, Value.int.injEq, Nat.reduceSub, sto_ptr, opn_lim, n0, l0, c0, t0, o0, hlen, hlt, h50, h18, h51, stb, hmx, hin16, hin17, hle1, Nat.add_sub_cancel, List.map_cons, Option.map_some, List.cons_append, h6, g5, h5', hcmp, hlp', cres, rres, c13, hlim, h21', insR, Ins.val, Ins.cells, zer, emp]
               · have stb : shapesC[6]? = some (.string (shpB 6)) := stb
                 simp -implicitDefEqProofs only [s48, ↓GVdn, GVup, goInt, splice, okC, Fr.of, Fr.ofI, Fr.g, Nat.reduceAdd, Nat.reduceMul, Nat.reduceEqDiff, Nat.reduceLT, Nat.reduceLeDiff, Nat.reduceBEq, Int.reduceLT, Int.reduceLE, Int.reduceToNat, Int.reduceAdd, Int.reduceSub, Int.reduceMul, Int.reduceEq, Int.reduceNeg, ↓reduceIte, ↓reduceDIte, Nat.beq, reduceCtorEq, Value.int.injEq, Nat.reduceSub, sto_ptr, opn_lim, n0, l0, c0, t0, o0, hlen, hlt, h50, h18, h51, stb, hmx, hin16, hin17, hle1, Nat.add_sub_cancel, List.map_cons, Option.map_some, List.cons_append, h6, g5, h5', hcmp, hlp', cres, rres, c13, hlim, h21', insR, Ins.val, Ins.cells, zer, emp]
           · rw [if_pos hlen2]
             rw [hL5] at hlen2
             have hcmp : ((5 : Int) = ((2 * (shpB f).size - 1 : Nat) : Int)) = False := eq_false (by omega)
             rcases h56 with rfl | rfl
             · have stb : shapesC[5]? = some (.string (shpB 5)) := stb
               simp -implicitDefEqProofs only [s48, ↓GVdn, GVup, goInt, splice, okC, Fr.of, Fr.ofI, Fr.g, Nat.reduceAdd, Nat.reduceMul, Nat.reduceEqDiff, Nat.reduceLT, Nat.reduceLeDiff, Nat.reduceBEq, Int.reduceLT, Int.reduceLE, Int.reduceToNat, Int.reduceAdd, Int.reduceSub, Int.reduceMul, Int.reduceEq, Int.reduceNeg, ↓reduceIte, ↓reduceDIte, Nat.beq, reduceCtorEq, Value.int.injEq, Nat.reduceSub, sto_ptr, opn_lim, n0, l0, c0, t0, o0, hlen, hlt, h50, h18, h51, stb, hmx, hin16, hin17, hle1, Nat.add_sub_cancel, List.map_cons, Option.map_some, List.cons_append, h6, g5, h5', hcmp, insR, Ins.val, Ins.cells, zer, emp]
             · have stb : shapesC[6]? = some (.string (shpB 6)) := stb
               simp -implicitDefEqProofs only [s48, ↓GVdn, GVup, goInt, splice, okC, Fr.of, Fr.ofI, Fr.g, Nat.reduceAdd, Nat.reduceMul, Nat.reduceEqDiff, Nat.reduceLT, Nat.reduceLeDiff, Nat.reduceBEq, Int.reduceLT, Int.reduceLE, Int.reduceToNat, Int.reduceAdd, Int.reduceSub, Int.reduceMul, Int.reduceEq, Int.reduceNeg, ↓reduceIte, ↓reduceDIte, Nat.beq, reduceCtorEq, Value.int.injEq, Nat.reduceSub, sto_ptr, opn_lim, n0, l0, c0, t0, o0, hlen, hlt, h50, h18, h51, stb, hmx, hin16, hin17, hle1, Nat.add_sub_cancel, List.map_cons, Option.map_some, List.cons_append, h6, g5, h5', hcmp, insR, Ins.val, Ins.cells, zer, emp]
         · have hx : ((f = 5 ∨ f = 6) ∧ (¬ T1.length = 6 ∨ ¬ T1.getD 5 emp = cpar)) := ⟨h56, .inr h5⟩
           rw [if_pos hx]
           have g5 : (T1.map Value.string)[5]? = some (.string (T1.getD 5 emp)) := by
             rw [List.getElem?_map, List.getElem?_eq_getElem (by omega)]
             simp [List.getD_eq_getElem?_getD, h6]
           have h5' : (T1.getD 5 ⟨#[]⟩ = ⟨#[41]⟩) = False := eq_false h5
           rcases h56 with rfl | rfl
           · have stb : shapesC[5]? = some (.string (shpB 5)) := stb
             simp -implicitDefEqProofs only [s48, ↓GVdn, GVup, goInt, splice, okC, Fr.of, Fr.ofI, Fr.g, Nat.reduceAdd, Nat.reduceMul, Nat.reduceEqDiff, Nat.reduceLT, Nat.reduceLeDiff, Nat.reduceBEq, Int.reduceLT, Int.reduceLE, Int.reduceToNat, Int.reduceAdd, Int.reduceSub, Int.reduceMul, Int.reduceEq, Int.reduceNeg, ↓reduceIte, ↓reduceDIte, Nat.beq, reduceCtorEq, Value.int.injEq, Nat.reduceSub, sto_ptr, opn_lim, n0, l0, c0, t0, o0, hlen, hlt, h50, h18, h51, stb, hmx, hin16, hin17, hle1, Nat.add_sub_cancel, List.map_cons, Option.map_some, List.cons_append, h6, g5, h5', insR, Ins.val, Ins.cells, zer, emp]
           · have stb : shapesC[6]? = some (.string (shpB 6)) := stb
             simp -implicitDefEqProofs only [s48, ↓GVdn, GVup, goInt, splice, okC, Fr.of, Fr.ofI, Fr.g, Nat.reduceAdd, Nat.reduceMul, Nat.reduceEqDiff, Nat.reduceLT, Nat.reduceLeDiff, Nat.reduceBEq, Int.reduceLT, Int.reduceLE, Int.reduceToNat, Int.reduceAdd, Int.reduceSub, Int.reduceMul, Int.reduceEq, Int.reduceNeg, ↓reduceIte, ↓reduceDIte, Nat.beq, reduceCtorEq, Value.int.injEq, Nat.reduceSub, sto_ptr, opn_lim, n0, l0, c0, t0, o0, hlen, hlt, h50, h18, h51, stb, hmx, hin16, hin17, hle1, Nat.add_sub_cancel, List.map_cons, Option.map_some, List.cons_append, h6, g5, h5', insR, Ins.val, Ins.cells, zer, emp]
       · have hx : ((f = 5 ∨ f = 6) ∧ (¬ T1.length = 6 ∨ ¬ T1.getD 5 emp = cpar)) := ⟨h56, .inl h6⟩
         rw [if_pos hx]
         have h6' : (((T1.length : Nat) : Int) = 6) = False := eq_false (by omega)
         rcases h56 with rfl | rfl
         · have stb : shapesC[5]? = some (.string (shpB 5)) := stb
           simp -implicitDefEqProofs only [s48, ↓GVdn, GVup, goInt, splice, okC, Fr.of, Fr.ofI, Fr.g, Nat.reduceAdd, Nat.reduceMul, Nat.reduceEqDiff, Nat.reduceLT, Nat.reduceLeDiff, Nat.reduceBEq, Int.reduceLT, Int.reduceLE, Int.reduceToNat, Int.reduceAdd, Int.reduceSub, Int.reduceMul, Int.reduceEq, Int.reduceNeg, ↓reduceIte, ↓reduceDIte, Nat.beq, reduceCtorEq, Value.int.injEq, Nat.reduceSub, sto_ptr, opn_lim, n0, l0, c0, t0, o0, hlen, hlt, h50, h18, h51, stb, hmx, hin16, hin17, hle1, Nat.add_sub_cancel, List.map_cons, Option.map_some, List.cons_append, h6', insR, Ins.val, Ins.cells, zer, emp]
         · have stb : shapesC[6]? = some (.string (shpB 6)) := stb
           simp -implicitDefEqProofs only [s48, ↓GVdn, GVup, goInt, splice, okC, Fr.of, Fr.ofI, Fr.g, Nat.reduceAdd, Nat.reduceMul, Nat.reduceEqDiff, Nat.reduceLT, Nat.reduceLeDiff, Nat.reduceBEq, Int.reduceLT, Int.reduceLE, Int.reduceToNat, Int.reduceAdd, Int.reduceSub, Int.reduceMul, Int.reduceEq, Int.reduceNeg, ↓reduceIte, ↓reduceDIte, Nat.beq, reduceCtorEq, Value.int.injEq, Nat.reduceSub, sto_ptr, opn_lim, n0, l0, c0, t0, o0, hlen, hlt, h50, h18, h51, stb, hmx, hin16, hin17, hle1, Nat.add_sub_cancel, List.map_cons, Option.map_some, List.cons_append, h6', insR, Ins.val, Ins.cells, zer, emp]
     · have hx : ¬ ((f = 5 ∨ f = 6) ∧ (¬ T1.length = 6 ∨ ¬ T1.getD 5 emp = cpar)) := fun h => h56 h.1
       rw [if_neg hx]
       have hopL : opL f T1 = T1 := if_neg h56
       rw [hopL]
       have e5 : (f = 5) = False := eq_false (fun h => h56 (.inl h))
       have e6 : (f = 6) = False := eq_false (fun h => h56 (.inr h))
       have hII := hI (T1) (by rw [List.map_cons, List.drop_succ_cons, List.drop_zero, List.take_of_length_le (by simp)])
       by_cases hlen2 : (T1).length = 2 * (shpB f).size - 1
       · rw [if_neg (fun h => h hlen2)]
         obtain ⟨H', i', hlp, hIS, hres⟩ := ins_loop (n+75) f (shpB f) 1 ((t :: T1).map Value.string) (T1) (betw f) hlen2 bl sz sc (fun w h => hT1 w (h)) (shpB f).size 0 (n+80) (by omega) (by omega) _ _ emp hII
         simp only [List.drop_zero] at hlp hres
         generalize insGo f (betw f) (T1) (shpB f).data.toList 0 ⟨op, 0, 0, 0, 0⟩ emp = g at hlp hres ⊢
         have hcmp : (((T1.length : Nat) : Int) = ((2 * (shpB f).size - 1 : Nat) : Int)) = True := eq_true (by omega)
         have hlp' : ∀ (kx : Nat → Fr → Hp → Option (Out × Hp)) (kr : Fr → Hp → Option (Out × Hp)), lp (s48_b1 (evCall cfc (n+80)) (n+80)) (n+80) [.slice (some ⟨11, 1, none⟩) T1.length 1, ptr 12 0, ptr 13 0, ptr 14 0, .int .i64 f, .string (shpB f), .slice (some ⟨15, 0, none⟩) (betw f).length 1, .string ⟨#[]⟩, .int .i64 (shpB f).size, .int .i64 0] _ kx kr = _ := hlp
         have cres := cells_rwc hIS.res
         have rres := hIS.res
         have c13 := cells_rwc hIS.ins
         have hlim := eq_true hIS.lim
         cases g with
         | none =>
           simp only at hlp'
           skip
           simp -implicitDefEqProofs only [s48, ↓GVdn, GVup, goInt, splice, okC, Fr.of, Fr.ofI, Fr.g, Nat.reduceAdd, Nat.reduceMul, Nat.reduceEqDiff, Nat.reduceLT, Nat.reduceLeDiff, Nat.reduceBEq, Int.reduceLT, Int.reduceLE, Int.reduceToNat, Int.reduceAdd, Int.reduceSub, Int.reduceMul, Int.reduceEq, Int.reduceNeg, ↓reduceIte, ↓reduceDIte, Nat.beq, reduceCtorEq, Value.int.injEq, Nat.reduceSub, sto_ptr, opn_lim, n0, l0, c0, t0, o0, hlen, hlt, h50, h18, h51, stb, hmx, hin16, hin17, hle1, Nat.add_sub_cancel, List.map_cons, Option.map_some, List.cons_append, e5, e6, hcmp, hlp', cres, insR, Ins.val, Ins.cells, zer, emp]
         | some q =>
           obtain ⟨i2, tl2⟩ := q
           have := hres i2 tl2 rfl
           subst this
           have h21' := fun H => v38 (n+74) H i'.op i'.A i'.B i'.C i'.I
           simp only at hlp'
           skip
           simp -implicitDefEqProofs only [s48, ↓GVdn, GVup, goInt, splice, okC, Fr.of, Fr.ofI, Fr.g, Nat.reduceAdd, Nat.reduceMul, Nat.reduceEqDiff, Nat.reduceLT, Nat.reduceLeDiff, Nat.reduceBEq, Int.reduceLT, Int.reduceLE, Int.reduceToNat, Int.reduceAdd, Int.reduceSub, Int.reduceMul, Int.reduceEq, Int.reduceNeg, ↓reduceIte, ↓reduceDIte, Nat.beq, reduceCtorEq, Value.int.injEq, Nat.reduceSub, sto_ptr, opn_lim, n0, l0, c0, t0, o0, hlen, hlt, h50, h18, h51, stb, hmx, hin16, hin17, hle1, Nat.add_sub_cancel, List.map_cons, Option.map_some, List.cons_append, e5, e6, hcmp, hlp', cres, rres, c13, hlim, h21', insR, Ins.val, Ins.cells, zer, emp]
       · rw [if_pos hlen2]
         have hcmp : (((T1.length : Nat) : Int) = ((2 * (shpB f).size - 1 : Nat) : Int)) = False := eq_false (by omega)
         skip
         simp -implicitDefEqProofs only [s48, ↓GVdn, GVup, goInt, splice, okC, Fr.of, Fr.ofI, Fr.g, Nat.reduceAdd, Nat.reduceMul, Nat.reduceEqDiff, Nat.reduceLT, Nat.reduceLeDiff, Nat.reduceBEq, Int.reduceLT, Int.reduceLE, Int.reduceToNat, Int.reduceAdd, Int.reduceSub, Int.reduceMul, Int.reduceEq, Int.reduceNeg, ↓reduceIte, ↓reduceDIte, Nat.beq, reduceCtorEq, Value.int.injEq, Nat.reduceSub, sto_ptr, opn_lim, n0, l0, c0, t0, o0, hlen, hlt, h50, h18, h51, stb, hmx, hin16, hin17, hle1, Nat.add_sub_cancel, List.map_cons, Option.map_some, List.cons_append, e5, e6, hcmp, insR, Ins.val, Ins.cells, zer, emp]
end Go.Proofs.YtbaooebafijenaaGreatDoor
