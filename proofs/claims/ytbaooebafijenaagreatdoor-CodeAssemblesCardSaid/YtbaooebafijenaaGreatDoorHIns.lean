/- An instruction's words. -/
import Derived.Test.YtbaooebafijenaaGreatDoorHPut
import Derived.Test.YtbaooebafijenaaGreatDoorHvBun
namespace Go.Proofs.YtbaooebafijenaaGreatDoor
open Go Go.Ev
set_option maxRecDepth 100000
set_option linter.unusedSimpArgs false
set_option linter.unusedVariables false
set_option maxHeartbeats 2000000
set_option linter.unusedSectionVars false
variable [Mx]
attribute [local congr] bind_front callK_front jn_front ifB_front ifG_front lp_front
def comma : ByteArray := ⟨#[44]⟩
def betw (f : Int) : List ByteArray := if f = 5 ∨ f = 6 then [⟨#[44]⟩, ⟨#[40]⟩] else if f = 1 then [] else if f = 4 ∨ f = 8 ∨ f = 10 ∨ f = 12 ∨ f = 13 ∨ f = 15 then [comma] else [comma, comma]
theorem q74 (n : Nat) (x0 : Value) (hx0 : flat x0 = true) (H : Hp) : evCall cfc (n+1) 74 [x0] H = movR [] H (s74 (evCall cfc n) n x0 Hp.fl) := by
 rw [evCall_quiet (fn := Tryz.f74) (by rfl) (by rfl) Tryz.func74 (by rfl) (by simp [hx0])]
 exact congrArg (movR [] H) (s74_eq _ _ _ _)
theorem v74 (n : Nat) (H : Hp) (f : Int) (hf : 1 ≤ f ∧ f < 16) : evCall cfc (n+5) 74 [.int .i64 f] H = some (.ret (.slice (some ⟨H.next, 0, none⟩) (betw f).length 1), H.new (.rw ((betw f).map Value.string))) := by
 rw [q74 (n+4) _ rfl H]
 have : f = 1 ∨ f = 2 ∨ f = 3 ∨ f = 4 ∨ f = 5 ∨ f = 6 ∨ f = 7 ∨ f = 8 ∨ f = 9 ∨ f = 10 ∨ f = 11 ∨ f = 12 ∨ f = 13 ∨ f = 14 ∨ f = 15 := by omega
 rcases this with rfl | rfl | rfl | rfl | rfl | rfl | rfl | rfl | rfl | rfl | rfl | rfl | rfl | rfl | rfl <;> (show _ = _; kernel_rfl)
def zer : Ins := ⟨0, 0, 0, 0, 0⟩
def insGo (f : Int) (bt L : List ByteArray) : List UInt8 → Nat → Ins → ByteArray → Option (Ins × ByteArray)
 | [], _, i, tl => some (i, tl)
 | c :: r, k, i, tl =>
   if 0 < k ∧ ¬ L.getD (2 * k - 1) emp = bt.getD (k - 1) emp then none
   else if (c.toNat = 105 ∧ (f = 7 ∨ f = 8)) ∧ labelV (L.getD (2 * k) emp) = true then insGo f bt L r (k + 1) i (L.getD (2 * k) emp)
   else if (putV c.toNat (L.getD (2 * k) emp)).2 = true then insGo f bt L r (k + 1) (i.set c.toNat (putV c.toNat (L.getD (2 * k) emp)).1) tl
   else none
structure InS (H : Hp) (o : Nat) (CL : List Value) (L bt : List ByteArray) (i : Ins) : Prop where
 row : H.cells 11 = some CL
 rows : (CL.drop o).take L.length = L.map Value.string
 bet : H.cells 15 = some (bt.map Value.string)
 ins : H.rwc 14 = some i.cells
 res : H.rwc 12 = some zer.cells
 non : H.cells 13 = some zer.cells
 lim : H.lim ≤ 12
theorem InS.get {H : Hp} {o : Nat} {CL : List Value} {L bt : List ByteArray} {i : Ins} (h : InS H o CL L bt i) {j : Nat} (hj : j < L.length) : CL[o + j]? = some (.string (L.getD j emp)) := by
 have h1 : ((CL.drop o).take L.length)[j]? = some (.string (L.getD j emp)) := by
   rw [h.rows, List.getElem?_map, List.getElem?_eq_getElem hj]
   simp [List.getD_eq_getElem?_getD, hj]
 rw [List.getElem?_take, if_pos hj, List.getElem?_drop] at h1
 exact h1
theorem bt_get {bt : List ByteArray} {j : Nat} (hj : j < bt.length) : (bt.map Value.string)[j]? = some (.string (bt.getD j emp)) := by
 rw [List.getElem?_map, List.getElem?_eq_getElem hj]
 simp [List.getD_eq_getElem?_getD, hj]
theorem InS.setI {H : Hp} {o : Nat} {CL : List Value} {L bt : List ByteArray} {i : Ins} (h : InS H o CL L bt i) (i' : Ins) : InS (H.set 14 (.rw i'.cells)) o CL L bt i' where
 row := by rw [cells_set, if_neg (by decide)]; exact h.row
 rows := h.rows
 bet := by rw [cells_set, if_neg (by decide)]; exact h.bet
 ins := by rw [rwc_set, if_pos rfl]
 res := by rw [rwc_set, if_neg (by decide)]; exact h.res
 non := by rw [cells_set, if_neg (by decide)]; exact h.non
 lim := h.lim
theorem InS.setR {H : Hp} {o : Nat} {CL : List Value} {L bt : List ByteArray} {i : Ins} (h : InS H o CL L bt i) : InS (H.set 12 (.rw zer.cells)) o CL L bt i where
 row := by rw [cells_set, if_neg (by decide)]; exact h.row
 rows := h.rows
 bet := by rw [cells_set, if_neg (by decide)]; exact h.bet
 ins := by rw [rwc_set, if_neg (by decide)]; exact h.ins
 res := by rw [rwc_set, if_pos rfl]
 non := by rw [cells_set, if_neg (by decide)]; exact h.non
 lim := h.lim
theorem ins_loop (n : Nat) (f : Int) (sh : ByteArray) (o : Nat) (CL : List Value) (L bt : List ByteArray) (hL : L.length = 2 * sh.size - 1) (hbt : bt.length = sh.size - 1) (hsh : sh.size ≤ 3) (hc : ∀ c ∈ sh.data.toList, shpC c.toNat) (hw : ∀ w ∈ L, w.size < n + 4 ∧ w.size ≤ 281474976710656) : ∀ (r k m : Nat), k + r = sh.size → r < m → ∀ (H : Hp) (i : Ins) (tl : ByteArray), InS H o CL L bt i →
   ∃ H' i', (∀ (kx : Nat → Fr → Hp → Option (Out × Hp)) (kr : Fr → Hp → Option (Out × Hp)), lp (s48_b1 (evCall cfc (n+5)) (n+5)) m [.slice (some ⟨11, o, none⟩) L.length 1, ptr 12 0, ptr 13 0, ptr 14 0, .int .i64 f, .string sh, .slice (some ⟨15, 0, none⟩) bt.length 1, .string tl, .int .i64 sh.size, .int .i64 k] H kx kr =
     (match insGo f bt L (sh.data.toList.drop k) k i tl with
     | none => kr (Fr.of [2, 3, 4, 8, 12] [ptr 12 0, .string ⟨#[]⟩, .bool false, dead, dead]) H'
     | some (i2, tl') => kx 0 (Fr.of [2, 3, 4, 8, 12] [ptr 12 0, dead, dead, ptr 14 0, .string tl']) H')) ∧ InS H' o CL L bt i' ∧ ∀ i2 tl', insGo f bt L (sh.data.toList.drop k) k i tl = some (i2, tl') → i' = i2 := by
 intro r
 induction r with
 | zero =>
   intro k m hk hm H i tl hS
   obtain ⟨m, rfl⟩ : ∃ q, m = q + 1 := ⟨m - 1, by omega⟩
   have e : sh.data.toList.drop k = [] := List.drop_eq_nil_of_le (by rw [← Lib.size_eq]; omega)
   have hlt : ¬ ((k : Int) < (sh.size : Int)) := by omega
   rw [e]
   refine ⟨H, i, fun kx kr => ?_, hS, fun i2 tl' h => by simp only [insGo] at h; cases h; rfl⟩
   rw [lp_succ]
   simp only [insGo]
   simp -implicitDefEqProofs only [s48_b1, ↓GVdn, GVup, goInt, splice, okC, Fr.of, Fr.ofI, Fr.g, Nat.reduceAdd, Nat.reduceMul, Nat.reduceEqDiff, Nat.reduceLT, Nat.reduceLeDiff, Nat.reduceBEq, Int.reduceLT, Int.reduceLE, Int.reduceToNat, Int.reduceAdd, Int.reduceSub, Int.reduceMul, Int.reduceEq, Int.reduceNeg, ↓reduceIte, ↓reduceDIte, Nat.beq, reduceCtorEq, Value.int.injEq, Nat.reduceSub, sto_ptr, hlt]
 | succ r ih =>
   intro k m hk hm H i tl hS
   obtain ⟨m, rfl⟩ : ∃ q, m = q + 1 := ⟨m - 1, by omega⟩
   have hlt : ((k : Int) < (sh.size : Int)) := by omega
   obtain ⟨c, hcc, hd⟩ := str_at sh k (by omega)
   have hw1 : IntKind.wrap .i64 ((k : Int) + 1) = ((k + 1 : Nat) : Int) := by rw [IntWalk.i64_in _ (by omega)]; rfl
   have hw2 : IntKind.wrap .i64 (2 * (k : Int)) = ((2 * k : Nat) : Int) := by rw [IntWalk.i64_in _ (by omega)]; omega
   have hmem : c ∈ sh.data.toList := List.mem_of_mem_drop (hd ▸ List.mem_cons_self)
   have hlen : 2 * k < L.length := by omega
   have g0 := hS.get hlen
   have hs0 := hw (L.getD (2 * k) emp) (by simp [List.getD_eq_getElem?_getD, hlen])
   have hin : (((2 * k : Nat) : Int) < (L.length : Int)) = True := eq_true (by omega)
   have h52 := fun H => v25 (n+4) (L.getD (2 * k) emp) (by omega) hs0.1 H
   have h53 := v47 n hS.ins (by have := hS.lim; omega) c.toNat (hc c hmem) (L.getD (2 * k) emp) hs0.2
   have hlim := hS.lim
   have hr := st_rwc (H := H) hS.res hS.lim (v := .agg zer.cells.toArray) (vs := zer.cells) rfl (n := 5) rfl (by show 0 + 5 ≤ 5; decide) rfl
   have hzs : splice zer.cells 0 zer.cells = zer.cells := rfl
   rw [hzs] at hr
   have hn0 := hS.non
   have hrow := hS.row
   have hbet := hS.bet
   have zlen : zer.cells.length = 5 := rfl
   have ztk : zer.cells.take 5 = zer.cells := rfl
   have hbn : 0 < k → k - 1 < bt.length := fun h => by omega
   have hk2 : 0 < k → 2 * k - 1 < L.length := fun h => by omega
   have hw5 : 0 < k → IntKind.wrap .i64 (((2 * k : Nat) : Int) - 1) = ((2 * k - 1 : Nat) : Int) := fun h => by rw [IntWalk.i64_in _ (by omega)]; omega
   have hw6 : 0 < k → IntKind.wrap .i64 ((k : Int) - 1) = ((k - 1 : Nat) : Int) := fun h => by rw [IntWalk.i64_in _ (by omega)]; omega
   have ht := fun H (i : Ins) (tl : ByteArray) (hS : InS H o CL L bt i) => ih (k + 1) m (by omega) (by omega) H i tl hS
   simp only [lp_succ, hd]
   simp only [insGo]
   by_cases hkp : 0 < k
   · have kp : (0 < (k : Int)) = True := eq_true (by omega)
     have g1 := hS.get (hk2 hkp)
     have b1 := bt_get (hbn hkp)
     have hin1 : (((2 * k - 1 : Nat) : Int) < (L.length : Int)) = True := eq_true (by have := hk2 hkp; omega)
     have hin2 : (((k - 1 : Nat) : Int) < (bt.length : Int)) = True := eq_true (by have := hbn hkp; omega)
     have hw3 := hw5 hkp
     have hw4 := hw6 hkp
     by_cases heq : L.getD (2 * k - 1) emp = bt.getD (k - 1) emp
     · have hcond : ¬ (0 < k ∧ ¬ L.getD (2 * k - 1) emp = bt.getD (k - 1) emp) := fun h => h.2 heq
       rw [if_neg hcond]
       by_cases c1 : (c.toNat : Int) = 105
       · rw [c1] at h53
         by_cases f7 : f = 7
         · by_cases hlb : labelV (L.getD (2 * k) emp) = true
           · skip
             have hx : (c.toNat = 105 ∧ (f = 7 ∨ f = 8)) ∧ labelV (L.getD (2 * k) emp) = true := ⟨⟨by omega, by omega⟩, hlb⟩
             rw [if_pos hx]
             rw [hlb] at h52
             obtain ⟨H', i', g2, g3, g4⟩ := ht H i (L.getD (2 * k) emp) hS
             refine ⟨H', i', fun kx kr => ?_, g3, g4⟩
             rw [← g2 kx kr]
             simp -implicitDefEqProofs only [s48_b1, ↓GVdn, GVup, goInt, splice, okC, Fr.of, Fr.ofI, Fr.g, Nat.reduceAdd, Nat.reduceMul, Nat.reduceEqDiff, Nat.reduceLT, Nat.reduceLeDiff, Nat.reduceBEq, Int.reduceLT, Int.reduceLE, Int.reduceToNat, Int.reduceAdd, Int.reduceSub, Int.reduceMul, Int.reduceEq, Int.reduceNeg, ↓reduceIte, ↓reduceDIte, Nat.beq, reduceCtorEq, Value.int.injEq, Nat.reduceSub, opn_lim, hlt, hrow, hbet, hn0, hr, zlen, ztk, hcc, hin, g0, hw1, hw2, kp, g1, b1, hin1, hin2, hw3, hw4, heq, c1, f7, h52]
           · have hlb : labelV (L.getD (2 * k) emp) = false := by simpa using hlb
             have hx : ¬ ((c.toNat = 105 ∧ (f = 7 ∨ f = 8)) ∧ labelV (L.getD (2 * k) emp) = true) := fun h => by rw [hlb] at h; exact absurd h.2 (by decide)
             rw [if_neg hx]
             rw [hlb] at h52
             cases hpt : (putV c.toNat (L.getD (2 * k) emp)).2 with
             | true =>
               rw [hpt] at h53
               obtain ⟨H', i', g2, g3, g4⟩ := ht _ _ tl (hS.setI (i.set c.toNat (putV c.toNat (L.getD (2 * k) emp)).1))
               simp only [if_true]
               refine ⟨H', i', fun kx kr => ?_, g3, g4⟩
               rw [← g2 kx kr]
               simp -implicitDefEqProofs only [s48_b1, ↓GVdn, GVup, goInt, splice, okC, Fr.of, Fr.ofI, Fr.g, Nat.reduceAdd, Nat.reduceMul, Nat.reduceEqDiff, Nat.reduceLT, Nat.reduceLeDiff, Nat.reduceBEq, Int.reduceLT, Int.reduceLE, Int.reduceToNat, Int.reduceAdd, Int.reduceSub, Int.reduceMul, Int.reduceEq, Int.reduceNeg, ↓reduceIte, ↓reduceDIte, Nat.beq, reduceCtorEq, Value.int.injEq, Nat.reduceSub, opn_lim, hlt, hrow, hbet, hn0, hr, zlen, ztk, hcc, hin, g0, hw1, hw2, kp, g1, b1, hin1, hin2, hw3, hw4, heq, c1, f7, h52, h53]
             | false =>
               rw [hpt] at h53
               have hS2 := hS.setI (i.set c.toNat (putV c.toNat (L.getD (2 * k) emp)).1)
               have hn2 := hS2.non
               have hr2 := st_rwc hS2.res hS2.lim (v := .agg zer.cells.toArray) (vs := zer.cells) rfl (n := 5) rfl (by show 0 + 5 ≤ 5; decide) rfl
               rw [hzs] at hr2
               simp only [Bool.false_eq_true, if_false]
               refine ⟨_, _, fun kx kr => ?_, hS2.setR, fun i2 t2 h => by cases h⟩
               simp -implicitDefEqProofs only [s48_b1, ↓GVdn, GVup, goInt, splice, okC, Fr.of, Fr.ofI, Fr.g, Nat.reduceAdd, Nat.reduceMul, Nat.reduceEqDiff, Nat.reduceLT, Nat.reduceLeDiff, Nat.reduceBEq, Int.reduceLT, Int.reduceLE, Int.reduceToNat, Int.reduceAdd, Int.reduceSub, Int.reduceMul, Int.reduceEq, Int.reduceNeg, ↓reduceIte, ↓reduceDIte, Nat.beq, reduceCtorEq, Value.int.injEq, Nat.reduceSub, opn_lim, hlt, hrow, hbet, hn0, hr, zlen, ztk, hcc, hin, g0, hw1, hw2, kp, g1, b1, hin1, hin2, hw3, hw4, heq, c1, f7, h52, h53, hn2, hr2]
         · by_cases f8 : f = 8
           · by_cases hlb : labelV (L.getD (2 * k) emp) = true
             · skip
               have hx : (c.toNat = 105 ∧ (f = 7 ∨ f = 8)) ∧ labelV (L.getD (2 * k) emp) = true := ⟨⟨by omega, by omega⟩, hlb⟩
               rw [if_pos hx]
               rw [hlb] at h52
               obtain ⟨H', i', g2, g3, g4⟩ := ht H i (L.getD (2 * k) emp) hS
               refine ⟨H', i', fun kx kr => ?_, g3, g4⟩
               rw [← g2 kx kr]
               simp -implicitDefEqProofs only [s48_b1, ↓GVdn, GVup, goInt, splice, okC, Fr.of, Fr.ofI, Fr.g, Nat.reduceAdd, Nat.reduceMul, Nat.reduceEqDiff, Nat.reduceLT, Nat.reduceLeDiff, Nat.reduceBEq, Int.reduceLT, Int.reduceLE, Int.reduceToNat, Int.reduceAdd, Int.reduceSub, Int.reduceMul, Int.reduceEq, Int.reduceNeg, ↓reduceIte, ↓reduceDIte, Nat.beq, reduceCtorEq, Value.int.injEq, Nat.reduceSub, opn_lim, hlt, hrow, hbet, hn0, hr, zlen, ztk, hcc, hin, g0, hw1, hw2, kp, g1, b1, hin1, hin2, hw3, hw4, heq, c1, f7, f8, h52]
             · have hlb : labelV (L.getD (2 * k) emp) = false := by simpa using hlb
               have hx : ¬ ((c.toNat = 105 ∧ (f = 7 ∨ f = 8)) ∧ labelV (L.getD (2 * k) emp) = true) := fun h => by rw [hlb] at h; exact absurd h.2 (by decide)
               rw [if_neg hx]
               rw [hlb] at h52
               cases hpt : (putV c.toNat (L.getD (2 * k) emp)).2 with
               | true =>
                 rw [hpt] at h53
                 obtain ⟨H', i', g2, g3, g4⟩ := ht _ _ tl (hS.setI (i.set c.toNat (putV c.toNat (L.getD (2 * k) emp)).1))
                 simp only [if_true]
                 refine ⟨H', i', fun kx kr => ?_, g3, g4⟩
                 rw [← g2 kx kr]
                 simp -implicitDefEqProofs only [s48_b1, ↓GVdn, GVup, goInt, splice, okC, Fr.of, Fr.ofI, Fr.g, Nat.reduceAdd, Nat.reduceMul, Nat.reduceEqDiff, Nat.reduceLT, Nat.reduceLeDiff, Nat.reduceBEq, Int.reduceLT, Int.reduceLE, Int.reduceToNat, Int.reduceAdd, Int.reduceSub, Int.reduceMul, Int.reduceEq, Int.reduceNeg, ↓reduceIte, ↓reduceDIte, Nat.beq, reduceCtorEq, Value.int.injEq, Nat.reduceSub, opn_lim, hlt, hrow, hbet, hn0, hr, zlen, ztk, hcc, hin, g0, hw1, hw2, kp, g1, b1, hin1, hin2, hw3, hw4, heq, c1, f7, f8, h52, h53]
               | false =>
                 rw [hpt] at h53
                 have hS2 := hS.setI (i.set c.toNat (putV c.toNat (L.getD (2 * k) emp)).1)
                 have hn2 := hS2.non
                 have hr2 := st_rwc hS2.res hS2.lim (v := .agg zer.cells.toArray) (vs := zer.cells) rfl (n := 5) rfl (by show 0 + 5 ≤ 5; decide) rfl
                 rw [hzs] at hr2
                 simp only [Bool.false_eq_true, if_false]
                 refine ⟨_, _, fun kx kr => ?_, hS2.setR, fun i2 t2 h => by cases h⟩
                 simp -implicitDefEqProofs only [s48_b1, ↓GVdn, GVup, goInt, splice, okC, Fr.of, Fr.ofI, Fr.g, Nat.reduceAdd, Nat.reduceMul, Nat.reduceEqDiff, Nat.reduceLT, Nat.reduceLeDiff, Nat.reduceBEq, Int.reduceLT, Int.reduceLE, Int.reduceToNat, Int.reduceAdd, Int.reduceSub, Int.reduceMul, Int.reduceEq, Int.reduceNeg, ↓reduceIte, ↓reduceDIte, Nat.beq, reduceCtorEq, Value.int.injEq, Nat.reduceSub, opn_lim, hlt, hrow, hbet, hn0, hr, zlen, ztk, hcc, hin, g0, hw1, hw2, kp, g1, b1, hin1, hin2, hw3, hw4, heq, c1, f7, f8, h52, h53, hn2, hr2]
           · skip
             have hx : ¬ ((c.toNat = 105 ∧ (f = 7 ∨ f = 8)) ∧ labelV (L.getD (2 * k) emp) = true) := fun h => h.1.2.elim f7 f8
             rw [if_neg hx]
             cases hpt : (putV c.toNat (L.getD (2 * k) emp)).2 with
             | true =>
               rw [hpt] at h53
               obtain ⟨H', i', g2, g3, g4⟩ := ht _ _ tl (hS.setI (i.set c.toNat (putV c.toNat (L.getD (2 * k) emp)).1))
               simp only [if_true]
               refine ⟨H', i', fun kx kr => ?_, g3, g4⟩
               rw [← g2 kx kr]
               simp -implicitDefEqProofs only [s48_b1, ↓GVdn, GVup, goInt, splice, okC, Fr.of, Fr.ofI, Fr.g, Nat.reduceAdd, Nat.reduceMul, Nat.reduceEqDiff, Nat.reduceLT, Nat.reduceLeDiff, Nat.reduceBEq, Int.reduceLT, Int.reduceLE, Int.reduceToNat, Int.reduceAdd, Int.reduceSub, Int.reduceMul, Int.reduceEq, Int.reduceNeg, ↓reduceIte, ↓reduceDIte, Nat.beq, reduceCtorEq, Value.int.injEq, Nat.reduceSub, opn_lim, hlt, hrow, hbet, hn0, hr, zlen, ztk, hcc, hin, g0, hw1, hw2, kp, g1, b1, hin1, hin2, hw3, hw4, heq, c1, f7, f8, h53]
             | false =>
               rw [hpt] at h53
               have hS2 := hS.setI (i.set c.toNat (putV c.toNat (L.getD (2 * k) emp)).1)
               have hn2 := hS2.non
               have hr2 := st_rwc hS2.res hS2.lim (v := .agg zer.cells.toArray) (vs := zer.cells) rfl (n := 5) rfl (by show 0 + 5 ≤ 5; decide) rfl
               rw [hzs] at hr2
               simp only [Bool.false_eq_true, if_false]
               refine ⟨_, _, fun kx kr => ?_, hS2.setR, fun i2 t2 h => by cases h⟩
               simp -implicitDefEqProofs only [s48_b1, ↓GVdn, GVup, goInt, splice, okC, Fr.of, Fr.ofI, Fr.g, Nat.reduceAdd, Nat.reduceMul, Nat.reduceEqDiff, Nat.reduceLT, Nat.reduceLeDiff, Nat.reduceBEq, Int.reduceLT, Int.reduceLE, Int.reduceToNat, Int.reduceAdd, Int.reduceSub, Int.reduceMul, Int.reduceEq, Int.reduceNeg, ↓reduceIte, ↓reduceDIte, Nat.beq, reduceCtorEq, Value.int.injEq, Nat.reduceSub, opn_lim, hlt, hrow, hbet, hn0, hr, zlen, ztk, hcc, hin, g0, hw1, hw2, kp, g1, b1, hin1, hin2, hw3, hw4, heq, c1, f7, f8, h53, hn2, hr2]
       · skip
         have hx : ¬ ((c.toNat = 105 ∧ (f = 7 ∨ f = 8)) ∧ labelV (L.getD (2 * k) emp) = true) := fun h => c1 (by omega)
         rw [if_neg hx]
         cases hpt : (putV c.toNat (L.getD (2 * k) emp)).2 with
         | true =>
           rw [hpt] at h53
           obtain ⟨H', i', g2, g3, g4⟩ := ht _ _ tl (hS.setI (i.set c.toNat (putV c.toNat (L.getD (2 * k) emp)).1))
           simp only [if_true]
           refine ⟨H', i', fun kx kr => ?_, g3, g4⟩
           rw [← g2 kx kr]
           simp -implicitDefEqProofs only [s48_b1, ↓GVdn, GVup, goInt, splice, okC, Fr.of, Fr.ofI, Fr.g, Nat.reduceAdd, Nat.reduceMul, Nat.reduceEqDiff, Nat.reduceLT, Nat.reduceLeDiff, Nat.reduceBEq, Int.reduceLT, Int.reduceLE, Int.reduceToNat, Int.reduceAdd, Int.reduceSub, Int.reduceMul, Int.reduceEq, Int.reduceNeg, ↓reduceIte, ↓reduceDIte, Nat.beq, reduceCtorEq, Value.int.injEq, Nat.reduceSub, opn_lim, hlt, hrow, hbet, hn0, hr, zlen, ztk, hcc, hin, g0, hw1, hw2, kp, g1, b1, hin1, hin2, hw3, hw4, heq, c1, h53]
         | false =>
           rw [hpt] at h53
           have hS2 := hS.setI (i.set c.toNat (putV c.toNat (L.getD (2 * k) emp)).1)
           have hn2 := hS2.non
           have hr2 := st_rwc hS2.res hS2.lim (v := .agg zer.cells.toArray) (vs := zer.cells) rfl (n := 5) rfl (by show 0 + 5 ≤ 5; decide) rfl
           rw [hzs] at hr2
           simp only [Bool.false_eq_true, if_false]
           refine ⟨_, _, fun kx kr => ?_, hS2.setR, fun i2 t2 h => by cases h⟩
           simp -implicitDefEqProofs only [s48_b1, ↓GVdn, GVup, goInt, splice, okC, Fr.of, Fr.ofI, Fr.g, Nat.reduceAdd, Nat.reduceMul, Nat.reduceEqDiff, Nat.reduceLT, Nat.reduceLeDiff, Nat.reduceBEq, Int.reduceLT, Int.reduceLE, Int.reduceToNat, Int.reduceAdd, Int.reduceSub, Int.reduceMul, Int.reduceEq, Int.reduceNeg, ↓reduceIte, ↓reduceDIte, Nat.beq, reduceCtorEq, Value.int.injEq, Nat.reduceSub, opn_lim, hlt, hrow, hbet, hn0, hr, zlen, ztk, hcc, hin, g0, hw1, hw2, kp, g1, b1, hin1, hin2, hw3, hw4, heq, c1, h53, hn2, hr2]
     · have hcond : (0 < k ∧ ¬ L.getD (2 * k - 1) emp = bt.getD (k - 1) emp) := ⟨hkp, heq⟩
       rw [if_pos hcond]
       refine ⟨H.set 12 (.rw zer.cells), i, fun kx kr => ?_, hS.setR, fun i2 t2 h => by cases h⟩
       simp -implicitDefEqProofs only [s48_b1, ↓GVdn, GVup, goInt, splice, okC, Fr.of, Fr.ofI, Fr.g, Nat.reduceAdd, Nat.reduceMul, Nat.reduceEqDiff, Nat.reduceLT, Nat.reduceLeDiff, Nat.reduceBEq, Int.reduceLT, Int.reduceLE, Int.reduceToNat, Int.reduceAdd, Int.reduceSub, Int.reduceMul, Int.reduceEq, Int.reduceNeg, ↓reduceIte, ↓reduceDIte, Nat.beq, reduceCtorEq, Value.int.injEq, Nat.reduceSub, opn_lim, hlt, hrow, hbet, hn0, hr, zlen, ztk, kp, g1, b1, hin1, hin2, hw2, hw3, hw4, heq]
   · have kz : (0 < (k : Int)) = False := eq_false (by omega)
     have hcond : ¬ (0 < k ∧ ¬ L.getD (2 * k - 1) emp = bt.getD (k - 1) emp) := fun h => hkp h.1
     rw [if_neg hcond]
     by_cases c1 : (c.toNat : Int) = 105
     · rw [c1] at h53
       by_cases f7 : f = 7
       · by_cases hlb : labelV (L.getD (2 * k) emp) = true
         · skip
           have hx : (c.toNat = 105 ∧ (f = 7 ∨ f = 8)) ∧ labelV (L.getD (2 * k) emp) = true := ⟨⟨by omega, by omega⟩, hlb⟩
           rw [if_pos hx]
           rw [hlb] at h52
           obtain ⟨H', i', g2, g3, g4⟩ := ht H i (L.getD (2 * k) emp) hS
           refine ⟨H', i', fun kx kr => ?_, g3, g4⟩
           rw [← g2 kx kr]
           simp -implicitDefEqProofs only [s48_b1, ↓GVdn, GVup, goInt, splice, okC, Fr.of, Fr.ofI, Fr.g, Nat.reduceAdd, Nat.reduceMul, Nat.reduceEqDiff, Nat.reduceLT, Nat.reduceLeDiff, Nat.reduceBEq, Int.reduceLT, Int.reduceLE, Int.reduceToNat, Int.reduceAdd, Int.reduceSub, Int.reduceMul, Int.reduceEq, Int.reduceNeg, ↓reduceIte, ↓reduceDIte, Nat.beq, reduceCtorEq, Value.int.injEq, Nat.reduceSub, opn_lim, hlt, hrow, hbet, hn0, hr, zlen, ztk, hcc, hin, g0, hw1, hw2, kz, c1, f7, h52]
         · have hlb : labelV (L.getD (2 * k) emp) = false := by simpa using hlb
           have hx : ¬ ((c.toNat = 105 ∧ (f = 7 ∨ f = 8)) ∧ labelV (L.getD (2 * k) emp) = true) := fun h => by rw [hlb] at h; exact absurd h.2 (by decide)
           rw [if_neg hx]
           rw [hlb] at h52
           cases hpt : (putV c.toNat (L.getD (2 * k) emp)).2 with
           | true =>
             rw [hpt] at h53
             obtain ⟨H', i', g2, g3, g4⟩ := ht _ _ tl (hS.setI (i.set c.toNat (putV c.toNat (L.getD (2 * k) emp)).1))
             simp only [if_true]
             refine ⟨H', i', fun kx kr => ?_, g3, g4⟩
             rw [← g2 kx kr]
             simp -implicitDefEqProofs only [s48_b1, ↓GVdn, GVup, goInt, splice, okC, Fr.of, Fr.ofI, Fr.g, Nat.reduceAdd, Nat.reduceMul, Nat.reduceEqDiff, Nat.reduceLT, Nat.reduceLeDiff, Nat.reduceBEq, Int.reduceLT, Int.reduceLE, Int.reduceToNat, Int.reduceAdd, Int.reduceSub, Int.reduceMul, Int.reduceEq, Int.reduceNeg, ↓reduceIte, ↓reduceDIte, Nat.beq, reduceCtorEq, Value.int.injEq, Nat.reduceSub, opn_lim, hlt, hrow, hbet, hn0, hr, zlen, ztk, hcc, hin, g0, hw1, hw2, kz, c1, f7, h52, h53]
           | false =>
             rw [hpt] at h53
             have hS2 := hS.setI (i.set c.toNat (putV c.toNat (L.getD (2 * k) emp)).1)
             have hn2 := hS2.non
             have hr2 := st_rwc hS2.res hS2.lim (v := .agg zer.cells.toArray) (vs := zer.cells) rfl (n := 5) rfl (by show 0 + 5 ≤ 5; decide) rfl
             rw [hzs] at hr2
             simp only [Bool.false_eq_true, if_false]
             refine ⟨_, _, fun kx kr => ?_, hS2.setR, fun i2 t2 h => by cases h⟩
             simp -implicitDefEqProofs only [s48_b1, ↓GVdn, GVup, goInt, splice, okC, Fr.of, Fr.ofI, Fr.g, Nat.reduceAdd, Nat.reduceMul, Nat.reduceEqDiff, Nat.reduceLT, Nat.reduceLeDiff, Nat.reduceBEq, Int.reduceLT, Int.reduceLE, Int.reduceToNat, Int.reduceAdd, Int.reduceSub, Int.reduceMul, Int.reduceEq, Int.reduceNeg, ↓reduceIte, ↓reduceDIte, Nat.beq, reduceCtorEq, Value.int.injEq, Nat.reduceSub, opn_lim, hlt, hrow, hbet, hn0, hr, zlen, ztk, hcc, hin, g0, hw1, hw2, kz, c1, f7, h52, h53, hn2, hr2]
       · by_cases f8 : f = 8
         · by_cases hlb : labelV (L.getD (2 * k) emp) = true
           · skip
             have hx : (c.toNat = 105 ∧ (f = 7 ∨ f = 8)) ∧ labelV (L.getD (2 * k) emp) = true := ⟨⟨by omega, by omega⟩, hlb⟩
             rw [if_pos hx]
             rw [hlb] at h52
             obtain ⟨H', i', g2, g3, g4⟩ := ht H i (L.getD (2 * k) emp) hS
             refine ⟨H', i', fun kx kr => ?_, g3, g4⟩
             rw [← g2 kx kr]
             simp -implicitDefEqProofs only [s48_b1, ↓GVdn, GVup, goInt, splice, okC, Fr.of, Fr.ofI, Fr.g, Nat.reduceAdd, Nat.reduceMul, Nat.reduceEqDiff, Nat.reduceLT, Nat.reduceLeDiff, Nat.reduceBEq, Int.reduceLT, Int.reduceLE, Int.reduceToNat, Int.reduceAdd, Int.reduceSub, Int.reduceMul, Int.reduceEq, Int.reduceNeg, ↓reduceIte, ↓reduceDIte, Nat.beq, reduceCtorEq, Value.int.injEq, Nat.reduceSub, opn_lim, hlt, hrow, hbet, hn0, hr, zlen, ztk, hcc, hin, g0, hw1, hw2, kz, c1, f7, f8, h52]
           · have hlb : labelV (L.getD (2 * k) emp) = false := by simpa using hlb
             have hx : ¬ ((c.toNat = 105 ∧ (f = 7 ∨ f = 8)) ∧ labelV (L.getD (2 * k) emp) = true) := fun h => by rw [hlb] at h; exact absurd h.2 (by decide)
             rw [if_neg hx]
             rw [hlb] at h52
             cases hpt : (putV c.toNat (L.getD (2 * k) emp)).2 with
             | true =>
               rw [hpt] at h53
               obtain ⟨H', i', g2, g3, g4⟩ := ht _ _ tl (hS.setI (i.set c.toNat (putV c.toNat (L.getD (2 * k) emp)).1))
               simp only [if_true]
               refine ⟨H', i', fun kx kr => ?_, g3, g4⟩
               rw [← g2 kx kr]
               simp -implicitDefEqProofs only [s48_b1, ↓GVdn, GVup, goInt, splice, okC, Fr.of, Fr.ofI, Fr.g, Nat.reduceAdd, Nat.reduceMul, Nat.reduceEqDiff, Nat.reduceLT, Nat.reduceLeDiff, Nat.reduceBEq, Int.reduceLT, Int.reduceLE, Int.reduceToNat, Int.reduceAdd, Int.reduceSub, Int.reduceMul, Int.reduceEq, Int.reduceNeg, ↓reduceIte, ↓reduceDIte, Nat.beq, reduceCtorEq, Value.int.injEq, Nat.reduceSub, opn_lim, hlt, hrow, hbet, hn0, hr, zlen, ztk, hcc, hin, g0, hw1, hw2, kz, c1, f7, f8, h52, h53]
             | false =>
               rw [hpt] at h53
               have hS2 := hS.setI (i.set c.toNat (putV c.toNat (L.getD (2 * k) emp)).1)
               have hn2 := hS2.non
               have hr2 := st_rwc hS2.res hS2.lim (v := .agg zer.cells.toArray) (vs := zer.cells) rfl (n := 5) rfl (by show 0 + 5 ≤ 5; decide) rfl
               rw [hzs] at hr2
               simp only [Bool.false_eq_true, if_false]
               refine ⟨_, _, fun kx kr => ?_, hS2.setR, fun i2 t2 h => by cases h⟩
               simp -implicitDefEqProofs only [s48_b1, ↓GVdn, GVup, goInt, splice, okC, Fr.of, Fr.ofI, Fr.g, Nat.reduceAdd, Nat.reduceMul, Nat.reduceEqDiff, Nat.reduceLT, Nat.reduceLeDiff, Nat.reduceBEq, Int.reduceLT, Int.reduceLE, Int.reduceToNat, Int.reduceAdd, Int.reduceSub, Int.reduceMul, Int.reduceEq, Int.reduceNeg, ↓reduceIte, ↓reduceDIte, Nat.beq, reduceCtorEq, Value.int.injEq, Nat.reduceSub, opn_lim, hlt, hrow, hbet, hn0, hr, zlen, ztk, hcc, hin, g0, hw1, hw2, kz, c1, f7, f8, h52, h53, hn2, hr2]
         · skip
           have hx : ¬ ((c.toNat = 105 ∧ (f = 7 ∨ f = 8)) ∧ labelV (L.getD (2 * k) emp) = true) := fun h => h.1.2.elim f7 f8
           rw [if_neg hx]
           cases hpt : (putV c.toNat (L.getD (2 * k) emp)).2 with
           | true =>
             rw [hpt] at h53
             obtain ⟨H', i', g2, g3, g4⟩ := ht _ _ tl (hS.setI (i.set c.toNat (putV c.toNat (L.getD (2 * k) emp)).1))
             simp only [if_true]
             refine ⟨H', i', fun kx kr => ?_, g3, g4⟩
             rw [← g2 kx kr]
             simp -implicitDefEqProofs only [s48_b1, ↓GVdn, GVup, goInt, splice, okC, Fr.of, Fr.ofI, Fr.g, Nat.reduceAdd, Nat.reduceMul, Nat.reduceEqDiff, Nat.reduceLT, Nat.reduceLeDiff, Nat.reduceBEq, Int.reduceLT, Int.reduceLE, Int.reduceToNat, Int.reduceAdd, Int.reduceSub, Int.reduceMul, Int.reduceEq, Int.reduceNeg, ↓reduceIte, ↓reduceDIte, Nat.beq, reduceCtorEq, Value.int.injEq, Nat.reduceSub, opn_lim, hlt, hrow, hbet, hn0, hr, zlen, ztk, hcc, hin, g0, hw1, hw2, kz, c1, f7, f8, h53]
           | false =>
             rw [hpt] at h53
             have hS2 := hS.setI (i.set c.toNat (putV c.toNat (L.getD (2 * k) emp)).1)
             have hn2 := hS2.non
             have hr2 := st_rwc hS2.res hS2.lim (v := .agg zer.cells.toArray) (vs := zer.cells) rfl (n := 5) rfl (by show 0 + 5 ≤ 5; decide) rfl
             rw [hzs] at hr2
             simp only [Bool.false_eq_true, if_false]
             refine ⟨_, _, fun kx kr => ?_, hS2.setR, fun i2 t2 h => by cases h⟩
             simp -implicitDefEqProofs only [s48_b1, ↓GVdn, GVup, goInt, splice, okC, Fr.of, Fr.ofI, Fr.g, Nat.reduceAdd, Nat.reduceMul, Nat.reduceEqDiff, Nat.reduceLT, Nat.reduceLeDiff, Nat.reduceBEq, Int.reduceLT, Int.reduceLE, Int.reduceToNat, Int.reduceAdd, Int.reduceSub, Int.reduceMul, Int.reduceEq, Int.reduceNeg, ↓reduceIte, ↓reduceDIte, Nat.beq, reduceCtorEq, Value.int.injEq, Nat.reduceSub, opn_lim, hlt, hrow, hbet, hn0, hr, zlen, ztk, hcc, hin, g0, hw1, hw2, kz, c1, f7, f8, h53, hn2, hr2]
     · skip
       have hx : ¬ ((c.toNat = 105 ∧ (f = 7 ∨ f = 8)) ∧ labelV (L.getD (2 * k) emp) = true) := fun h => c1 (by omega)
       rw [if_neg hx]
       cases hpt : (putV c.toNat (L.getD (2 * k) emp)).2 with
       | true =>
         rw [hpt] at h53
         obtain ⟨H', i', g2, g3, g4⟩ := ht _ _ tl (hS.setI (i.set c.toNat (putV c.toNat (L.getD (2 * k) emp)).1))
         simp only [if_true]
         refine ⟨H', i', fun kx kr => ?_, g3, g4⟩
         rw [← g2 kx kr]
         simp -implicitDefEqProofs only [s48_b1, ↓GVdn, GVup, goInt, splice, okC, Fr.of, Fr.ofI, Fr.g, Nat.reduceAdd, Nat.reduceMul, Nat.reduceEqDiff, Nat.reduceLT, Nat.reduceLeDiff, Nat.reduceBEq, Int.reduceLT, Int.reduceLE, Int.reduceToNat, Int.reduceAdd, Int.reduceSub, Int.reduceMul, Int.reduceEq, Int.reduceNeg, ↓reduceIte, ↓reduceDIte, Nat.beq, reduceCtorEq, Value.int.injEq, Nat.reduceSub, opn_lim, hlt, hrow, hbet, hn0, hr, zlen, ztk, hcc, hin, g0, hw1, hw2, kz, c1, h53]
       | false =>
         rw [hpt] at h53
         have hS2 := hS.setI (i.set c.toNat (putV c.toNat (L.getD (2 * k) emp)).1)
         have hn2 := hS2.non
         have hr2 := st_rwc hS2.res hS2.lim (v := .agg zer.cells.toArray) (vs := zer.cells) rfl (n := 5) rfl (by show 0 + 5 ≤ 5; decide) rfl
         rw [hzs] at hr2
         simp only [Bool.false_eq_true, if_false]
         refine ⟨_, _, fun kx kr => ?_, hS2.setR, fun i2 t2 h => by cases h⟩
         simp -implicitDefEqProofs only [s48_b1, ↓GVdn, GVup, goInt, splice, okC, Fr.of, Fr.ofI, Fr.g, Nat.reduceAdd, Nat.reduceMul, Nat.reduceEqDiff, Nat.reduceLT, Nat.reduceLeDiff, Nat.reduceBEq, Int.reduceLT, Int.reduceLE, Int.reduceToNat, Int.reduceAdd, Int.reduceSub, Int.reduceMul, Int.reduceEq, Int.reduceNeg, ↓reduceIte, ↓reduceDIte, Nat.beq, reduceCtorEq, Value.int.injEq, Nat.reduceSub, opn_lim, hlt, hrow, hbet, hn0, hr, zlen, ztk, hcc, hin, g0, hw1, hw2, kz, c1, h53, hn2, hr2]
end Go.Proofs.YtbaooebafijenaaGreatDoor
