/- The words of what stands behind a line's labels. -/
import Derived.Test.YtbaooebafijenaaGreatDoorHPar
import Derived.Test.YtbaooebafijenaaGreatDoorHCodeW
import Derived.Test.YtbaooebafijenaaGreatDoorHvBun
namespace Go.Proofs.YtbaooebafijenaaGreatDoor
open Go Go.Ev
set_option maxRecDepth 100000
set_option linter.unusedSimpArgs false
set_option linter.unusedVariables false
set_option maxHeartbeats 2000000
set_option linter.unusedSectionVars false
variable [Mx]
attribute [local congr] bind_front callK_front jn_front ifB_front ifG_front lp_front
def SlI (H : Hp) (v : Value) (T : List ByteArray) : Prop := (v = .slice none 0 0 ∧ T = []) ∨ ∃ b o CL, v = .slice (some ⟨b, o, none⟩) T.length 1 ∧ H.cells b = some CL ∧ (CL.drop o).take T.length = T.map Value.string ∧ o + T.length ≤ CL.length ∧ b < H.next
def faultP (p : Nat) : List PanicEntry := [{ v := .iface 39 (ptr p 0), recovered := false }]
theorem q11 (n : Nat) (x y z : Value) (H : Hp) : evCall cfc (n+1) 11 [x, y, z] H = s11 (evCall cfc n) n x y z H := by
 rw [evCall_open (fn := Tryz.f11) (by rfl) (by rfl) Tryz.func11 (by rfl)]
 exact s11_eq _ _ _ _ _ _
theorem v11 (n : Nat) (H : Hp) (x : Value) (l e : Int) : evCall cfc (n+1) 11 [x, .int .i64 l, .int .i64 e] H = some (.pan (faultP H.next), H.new (.rw [.int .i64 l, .iface 27 (.int .i64 e)])) := by
 rw [q11]
 rfl
theorem callK_pan {α : Type} (c : List PanicEntry) (H : Hp) (pn : List PanicEntry → Hp → Option α) (k : Value → Hp → Option α) : callK (some (.pan c, H)) pn k = pn c H := rfl
theorem jn_pan {α : Type} (c : List PanicEntry) (H : Hp) (pn : List PanicEntry → Hp → Option α) (kx : Nat → Fr → Hp → Option α) (kr : Fr → Hp → Option α) (g : List Value → Hp → Option α) : jn (some (.pan c H)) pn kx kr g = pn c H := rfl
theorem pnJ_eq (c : List PanicEntry) (H : Hp) : pnJ c H = some (.pan c H) := rfl
theorem pnK_eq (c : List PanicEntry) (H : Hp) : pnK c H = some (.pan c, H) := rfl
def encW (op A B C I : Int) : Int := if chkV op A B C I = 0 then encV op A B C I else 0
theorem encR_W (op A B C I : Int) : encR op A B C I = .tuple #[.int .u32 (encW op A B C I), .int .i64 (chkV op A B C I)] := by
 unfold encR encW
 split
 · rename_i h; rw [h]
 · rfl
def liB : ByteArray := ⟨#[108, 105]⟩
def wordB : ByteArray := ⟨#[46, 119, 111, 114, 100]⟩
def liW (A n : Int) : List Int := [encW 27 A 0 0 (IntKind.wrap .i64 (shrK .u32 n 16)), encW 20 A A 0 (IntKind.wrap .i64 (andK .u32 n 65535))]
def liOk (l : List ByteArray) : Prop := (l.length = 4 ∧ l.getD 2 emp = comma) ∧ (((putV 97 (l.getD 1 emp)).2 = true ∧ 0 ≤ (putV 97 (l.getD 1 emp)).1) ∧ (putV 97 (l.getD 1 emp)).1 ≤ 15) ∧ (valueV (l.getD 3 emp)).2 = true
instance (l : List ByteArray) : Decidable (liOk l) := by unfold liOk; infer_instance
def rdV (l : List ByteArray) : Option (List Int × Ins × ByteArray) :=
 match l with
 | [] => some ([], zer, emp)
 | t :: _ =>
   if t = liB then (if liOk l then some (liW (putV 97 (l.getD 1 emp)).1 (valueV (l.getD 3 emp)).1, zer, emp) else none)
   else if t = wordB then (if l.length = 2 ∧ (valueV (l.getD 1 emp)).2 = true then some ([(valueV (l.getD 1 emp)).1], zer, emp) else none)
   else if (insV l).2.2 = true then some ([encW (insV l).1.op (insV l).1.A (insV l).1.B (insV l).1.C (insV l).1.I], (insV l).1, (insV l).2.1) else none
def wantV (i : Ins) (lab : ByteArray) : Value := .agg #[.int .i64 0, .int .i64 0, .int .i64 i.op, .int .i64 i.A, .int .i64 i.B, .int .i64 i.C, .int .i64 i.I, .string lab]
theorem q26 (n : Nat) (x y : Value) (H : Hp) : evCall cfc (n+1) 26 [x, y] H = s26 (evCall cfc n) n x y H := by
 rw [evCall_open (fn := Tryz.f26) (by rfl) (by rfl) Tryz.func26 (by rfl)]
 exact s26_eq _ _ _ _ _
structure RdS (H H' : Hp) (sv : Value) (ws : List Int) : Prop where
 row : ∃ rb, sv = svOf rb ws.length 1 ∧ match rb with | none => ws = [] | some b => H'.rwc b = some (ws.map fun w => Value.int .u32 w) ∧ H.next ≤ b ∧ b < H'.next ∧ ws ≠ []
 old : ∀ b, b < H.next → H'.get b = H.get b
 next : H.next ≤ H'.next
 lim : H'.lim = H.lim
structure PanS (H H' : Hp) (p : Nat) (l e : Int) : Prop where
 cell : H'.rwc p = some [.int .i64 l, .iface 27 (.int .i64 e)]
 new : H.next ≤ p
 lim : H'.lim = H.lim
 old : ∀ b, b < 13 → b < H.next → H'.get b = H.get b
def RdR (n : Nat) (H : Hp) (A : Nat) (v : Value) (line : Int) (r : Option (List Int × Ins × ByteArray)) : Prop :=
 match r with
 | none => ∃ H' p, evCall cfc (n+82) 26 [ptr A 0, v] H = some (.pan (faultP p), H') ∧ PanS H H' p line 3
 | some (ws, i, lab) => ∃ H' sv, evCall cfc (n+82) 26 [ptr A 0, v] H = some (.ret (.tuple #[sv, wantV i lab]), H') ∧ RdS H H' sv ws
def Z8 : List Value := [.int .i64 0, .int .i64 0, .int .i64 0, .int .i64 0, .int .i64 0, .int .i64 0, .int .i64 0, .string ⟨#[]⟩]
theorem v64_nil (n : Nat) (H : Hp) (A : Nat) (v : Value) (line : Int) (hv : SlI H v []) (hlim : H.lim ≤ H.next) : RdR n H A v line (rdV []) := by
 simp only [RdR, rdV]
 have hlen : ∀ H', len 1 v H' = some (.int .i64 0) := by
   intro H'
   rcases hv with ⟨rfl, _⟩ | ⟨b, o, CL, rfl, _⟩ <;> rfl
 have hl : (H.lim ≤ H.next) = True := eq_true hlim
 refine ⟨(H.new (.rw Z8)).set H.next (.rw Z8), .slice none 0 0, ?_, ⟨⟨none, rfl, rfl⟩, fun b hb => ?_, ?_, ?_⟩⟩
 · rw [q26]
   simp -implicitDefEqProofs only [s26, ↓GVdn, GVup, goInt, splice, okC, Fr.of, Fr.ofI, Fr.g, Nat.reduceAdd, Nat.reduceMul, Nat.reduceEqDiff, Nat.reduceLT, Nat.reduceLeDiff, Nat.reduceBEq, Int.reduceLT, Int.reduceLE, Int.reduceToNat, Int.reduceAdd, Int.reduceSub, Int.reduceMul, Int.reduceEq, Int.reduceNeg, ↓reduceIte, ↓reduceDIte, Nat.beq, reduceCtorEq, Value.int.injEq, Nat.reduceSub, sto_ptr, lp_succ, hlen, hl, wantV, zer, emp, Z8]
 · rw [Hp.get_set, if_neg (by omega), Hp.get_new, if_neg (by omega)]
 · simp
 · simp
theorem sl_get {T : List ByteArray} {CL : List Value} {o j : Nat} (hr : (CL.drop o).take T.length = T.map Value.string) (hj : j < T.length) : CL[o + j]? = some (.string (T.getD j emp)) := by
 have h1 : ((CL.drop o).take T.length)[j]? = some (.string (T.getD j emp)) := by
   rw [hr, List.getElem?_map, List.getElem?_eq_getElem hj]
   simp [List.getD_eq_getElem?_getD, hj]
 rw [List.getElem?_take, if_pos hj, List.getElem?_drop] at h1
 exact h1
theorem v64_li (n : Nat) (H : Hp) (A : Nat) (v : Value) (line : Int) (wv mv tv : Value) (T : List ByteArray) (hv : SlI H v T) (hT : T.getD 0 emp = liB) (hlim : H.lim ≤ H.next) (hA : H.rwc A = some [wv, mv, tv, .int .i64 line]) (hAn : A < H.next) (hw : ∀ w ∈ T, w.size ≤ 281474976710656) : RdR n H A v line (rdV T) := by
 obtain ⟨rfl, rfl⟩ | ⟨b, o, CL, rfl, hc, hr, hl, hb⟩ := hv
 · exact absurd hT (by decide)
 cases T with
 | nil => exact absurd hT (by decide)
 | cons t T1 =>
   have ht : t = liB := hT
   have hlen0 : (((T1.length + 1 : Nat) : Int) = 0) = False := eq_false (by omega)
   have hlt0 : ((0 : Int) < ((T1.length + 1 : Nat) : Int)) = True := eq_true (by omega)
   have hbn : (b = H.next) = False := eq_false (by omega)
   have hbn1 : (b = H.next + 1) = False := eq_false (by omega)
   have hAn0 : (A = H.next) = False := eq_false (by omega)
   have hAn1 : (A = H.next + 1) = False := eq_false (by omega)
   have hl0 : (H.lim ≤ H.next) = True := eq_true hlim
   have hl1 : (H.lim ≤ H.next + 1) = True := eq_true (by omega)
   have hn1 : (H.next = H.next + 1) = False := eq_false (by omega)
   have hn2 : (H.next + 1 = H.next) = False := eq_false (by omega)
   have hn3 : (H.next = H.next + 1 + 1) = False := eq_false (by omega)
   have cA := cells_rwc hA
   have g0 : CL[o]? = some (.string ⟨#[108, 105]⟩) := by
     have := sl_get (j := 0) hr (by simp)
     rw [Nat.add_zero] at this
     rw [this, List.getD_cons_zero, ht]; rfl
   have ewb : (⟨#[108, 105]⟩ : ByteArray) = liB := rfl
   simp only [rdV]
   rw [if_pos ht]
   by_cases h4 : (t :: T1).length = 4
   · have hl4 : T1.length = 3 := by simpa using h4
     have g1 := sl_get (j := 1) hr (by omega)
     have g2 := sl_get (j := 2) hr (by omega)
     have g3 := sl_get (j := 3) hr (by omega)
     have hs1 : ((t :: T1).getD 1 emp).size ≤ 281474976710656 := hw _ (by simp [List.getD_eq_getElem?_getD, hl4])
     have hs3 : ((t :: T1).getD 3 emp).size ≤ 281474976710656 := hw _ (by simp [List.getD_eq_getElem?_getD, hl4])
     have hli : liOk (t :: T1) ↔ ((t :: T1).getD 2 emp = comma ∧ ((((putV 97 ((t :: T1).getD 1 emp)).2 = true ∧ 0 ≤ (putV 97 ((t :: T1).getD 1 emp)).1) ∧ (putV 97 ((t :: T1).getD 1 emp)).1 ≤ 15) ∧ (valueV ((t :: T1).getD 3 emp)).2 = true)) := by
       unfold liOk
       exact ⟨fun h => ⟨h.1.2, h.2⟩, fun h => ⟨⟨h4, h.1⟩, h.2⟩⟩
     simp only [hli]
     generalize (t :: T1).getD 1 emp = w1 at g1 hs1 ⊢
     generalize (t :: T1).getD 2 emp = w2 at g2 ⊢
     generalize (t :: T1).getD 3 emp = w3 at g3 hs3 ⊢
     by_cases hcm : w2 = comma
     · subst hcm
       simp only [true_and]
       have h78 := fun H => v46 (n + 78) w3 hs3 H
       have h53 : evCall cfc (n+81) 47 [ptr (H.next + 1) 0, .int .u8 97, .string w1] ((H.new (.rw Z8)).new (.rw zer.cells)) = _ := v47 (n + 76) (i := zer) (H := (H.new (.rw Z8)).new (.rw zer.cells)) (b := H.next + 1) (by rw [rwc_new, if_pos (by rfl)]) (by show H.lim ≤ H.next + 1; omega) 97 (.inl rfl) w1 hs1
       generalize putV 97 w1 = pv at h53 ⊢
       generalize valueV w3 = vv at h78 ⊢
       obtain ⟨z, okp⟩ := pv
       obtain ⟨m, okv⟩ := vv
       simp only [Ins.cells, zer, Z8, Ins.set, true_or, if_true] at h53 h78 ⊢
       have h16a := fun H => v20 (n + 73) H 27 z 0 0 (IntKind.wrap .i64 (shrK .u32 m 16))
       have h16b := fun H => v20 (n + 73) H 20 z z 0 (IntKind.wrap .i64 (andK .u32 m 65535))
       simp only [encR_W] at h16a h16b
       have fail : okp = false ∨ ¬ 0 ≤ z ∨ ¬ z ≤ 15 ∨ okv = false → RdR n H A (.slice (some ⟨b, o, none⟩) (t :: T1).length 1) line none := by
         intro hf
         refine ⟨((((H.new (.rw Z8)).new (.rw zer.cells)).set (H.next + 1) (.rw [.int .i64 0, .int .i64 z, .int .i64 0, .int .i64 0, .int .i64 0])).new (.rw [.int .i64 line, .iface 27 (.int .i64 3)])), H.next + 2, ?_, ⟨by rw [rwc_new, if_pos (by rfl)], by omega, rfl, fun b h1 h2 => by simp only [Hp.get_new, Hp.get_set, Hp.next_new, Hp.next_set]; repeat rw [if_neg (by omega)]⟩⟩
         have h36 := fun H x => v11 (n + 80) H x line 3
         rw [q26]
         cases okp with
         | false => simp -implicitDefEqProofs only [s26, ↓GVdn, GVup, goInt, splice, okC, Fr.of, Fr.ofI, Fr.g, Nat.reduceAdd, Nat.reduceMul, Nat.reduceEqDiff, Nat.reduceLT, Nat.reduceLeDiff, Nat.reduceBEq, Int.reduceLT, Int.reduceLE, Int.reduceToNat, Int.reduceAdd, Int.reduceSub, Int.reduceMul, Int.reduceEq, Int.reduceNeg, ↓reduceIte, ↓reduceDIte, Nat.beq, reduceCtorEq, Value.int.injEq, Nat.reduceSub, sto_ptr, lp_succ, List.length_cons, hl4, hlen0, hlt0, hbn, hbn1, hAn0, hAn1, hl0, hl1, hn1, hn2, cA, hc, g0, g1, g2, g3, comma, h78, h53, h36, callK_pan, pnK_eq, Z8, zer, Ins.cells]
         | true =>
           by_cases hz0 : 0 ≤ z
           · by_cases hz15 : z ≤ 15
             · have hv : okv = false := by simpa [hz0, hz15] using hf
               subst hv
               simp -implicitDefEqProofs only [s26, ↓GVdn, GVup, goInt, splice, okC, Fr.of, Fr.ofI, Fr.g, Nat.reduceAdd, Nat.reduceMul, Nat.reduceEqDiff, Nat.reduceLT, Nat.reduceLeDiff, Nat.reduceBEq, Int.reduceLT, Int.reduceLE, Int.reduceToNat, Int.reduceAdd, Int.reduceSub, Int.reduceMul, Int.reduceEq, Int.reduceNeg, ↓reduceIte, ↓reduceDIte, Nat.beq, reduceCtorEq, Value.int.injEq, Nat.reduceSub, sto_ptr, lp_succ, List.length_cons, hl4, hlen0, hlt0, hbn, hbn1, hAn0, hAn1, hl0, hl1, hn1, hn2, cA, hc, g0, g1, g2, g3, comma, h78, h53, h36, hz0, hz15, callK_pan, pnK_eq, Z8, zer, Ins.cells]
             · simp -implicitDefEqProofs only [s26, ↓GVdn, GVup, goInt, splice, okC, Fr.of, Fr.ofI, Fr.g, Nat.reduceAdd, Nat.reduceMul, Nat.reduceEqDiff, Nat.reduceLT, Nat.reduceLeDiff, Nat.reduceBEq, Int.reduceLT, Int.reduceLE, Int.reduceToNat, Int.reduceAdd, Int.reduceSub, Int.reduceMul, Int.reduceEq, Int.reduceNeg, ↓reduceIte, ↓reduceDIte, Nat.beq, reduceCtorEq, Value.int.injEq, Nat.reduceSub, sto_ptr, lp_succ, List.length_cons, hl4, hlen0, hlt0, hbn, hbn1, hAn0, hAn1, hl0, hl1, hn1, hn2, cA, hc, g0, g1, g2, g3, comma, h78, h53, h36, hz0, hz15, callK_pan, pnK_eq, Z8, zer, Ins.cells]
           · simp -implicitDefEqProofs only [s26, ↓GVdn, GVup, goInt, splice, okC, Fr.of, Fr.ofI, Fr.g, Nat.reduceAdd, Nat.reduceMul, Nat.reduceEqDiff, Nat.reduceLT, Nat.reduceLeDiff, Nat.reduceBEq, Int.reduceLT, Int.reduceLE, Int.reduceToNat, Int.reduceAdd, Int.reduceSub, Int.reduceMul, Int.reduceEq, Int.reduceNeg, ↓reduceIte, ↓reduceDIte, Nat.beq, reduceCtorEq, Value.int.injEq, Nat.reduceSub, sto_ptr, lp_succ, List.length_cons, hl4, hlen0, hlt0, hbn, hbn1, hAn0, hAn1, hl0, hl1, hn1, hn2, cA, hc, g0, g1, g2, g3, comma, h78, h53, h36, hz0, callK_pan, pnK_eq, Z8, zer, Ins.cells]
       by_cases hall : ((okp = true ∧ 0 ≤ z) ∧ z ≤ 15) ∧ okv = true
       · rw [if_pos hall]
         obtain ⟨⟨⟨rfl, hz0⟩, hz15⟩, rfl⟩ := hall
         refine ⟨((((H.new (.rw Z8)).new (.rw zer.cells)).set (H.next + 1) (.rw [.int .i64 0, .int .i64 z, .int .i64 0, .int .i64 0, .int .i64 0])).new (.rw ((liW z m).map fun w => .int .u32 w))).set H.next (.rw Z8), .slice (some ⟨H.next + 1 + 1, 0, none⟩) 2 1, ?_, ⟨⟨some (H.next + 1 + 1), rfl, ?_, by omega, ?_, by simp [liW]⟩, fun c hc => ?_, ?_, rfl⟩⟩
         · rw [q26]
           simp -implicitDefEqProofs only [s26, ↓GVdn, GVup, goInt, splice, okC, Fr.of, Fr.ofI, Fr.g, Nat.reduceAdd, Nat.reduceMul, Nat.reduceEqDiff, Nat.reduceLT, Nat.reduceLeDiff, Nat.reduceBEq, Int.reduceLT, Int.reduceLE, Int.reduceToNat, Int.reduceAdd, Int.reduceSub, Int.reduceMul, Int.reduceEq, Int.reduceNeg, ↓reduceIte, ↓reduceDIte, Nat.beq, reduceCtorEq, Value.int.injEq, Nat.reduceSub, sto_ptr, lp_succ, List.length_cons, hl4, hlen0, hlt0, hbn, hbn1, hAn0, hAn1, hl0, hl1, hn1, hn2, cA, hc, g0, g1, g2, g3, comma, h78, h53, h16a, h16b, hz0, hz15, hn3, Z8, zer, Ins.cells, liW, List.map_cons, List.map_nil, rep, List.replicate, List.flatten_cons, List.flatten_nil, wantV, emp]
         · rw [rwc_set, if_neg (by omega), rwc_new, if_pos (by rfl)]
         · show H.next + 2 < H.next + 3; omega
         · rw [Hp.get_set, if_neg (by omega), Hp.get_new, if_neg (by show ¬ c = H.next + 2; omega), Hp.get_set, if_neg (by omega), Hp.get_new, if_neg (by show ¬ c = H.next + 1; omega), Hp.get_new, if_neg (by omega)]
         · show H.next ≤ H.next + 3; omega
       · rw [if_neg hall]
         refine fail ?_
         cases okp with
         | false => exact .inl rfl
         | true =>
           cases okv with
           | false => exact .inr (.inr (.inr rfl))
           | true =>
             by_cases hz0 : 0 ≤ z
             · by_cases hz15 : z ≤ 15
               · exact absurd ⟨⟨⟨rfl, hz0⟩, hz15⟩, rfl⟩ hall
               · exact .inr (.inr (.inl hz15))
             · exact .inr (.inl hz0)
     · rw [if_neg (fun h => hcm h.1)]
       have h36 := fun H x => v11 (n + 80) H x line 3
       have hcm' : (w2 = ⟨#[44]⟩) = False := eq_false hcm
       refine ⟨(H.new (.rw Z8)).new (.rw [.int .i64 line, .iface 27 (.int .i64 3)]), H.next + 1, ?_, ⟨by rw [rwc_new, if_pos (by rfl)], by omega, rfl, fun b h1 h2 => by simp only [Hp.get_new, Hp.get_set, Hp.next_new, Hp.next_set]; repeat rw [if_neg (by omega)]⟩⟩
       rw [q26]
       simp -implicitDefEqProofs only [s26, ↓GVdn, GVup, goInt, splice, okC, Fr.of, Fr.ofI, Fr.g, Nat.reduceAdd, Nat.reduceMul, Nat.reduceEqDiff, Nat.reduceLT, Nat.reduceLeDiff, Nat.reduceBEq, Int.reduceLT, Int.reduceLE, Int.reduceToNat, Int.reduceAdd, Int.reduceSub, Int.reduceMul, Int.reduceEq, Int.reduceNeg, ↓reduceIte, ↓reduceDIte, Nat.beq, reduceCtorEq, Value.int.injEq, Nat.reduceSub, sto_ptr, lp_succ, List.length_cons, hl4, hlen0, hlt0, hbn, hbn1, hAn0, hAn1, hl0, hl1, hn1, hn2, cA, hc, g0, g1, g2, g3, hcm', h36, callK_pan, pnK_eq, Z8]
   · have hli : ¬ liOk (t :: T1) := fun h => h4 h.1.1
     rw [if_neg hli]
     have h36 := fun H x => v11 (n + 80) H x line 3
     have h4' : (((T1.length + 1 : Nat) : Int) = 4) = False := eq_false (by simp at h4; omega)
     refine ⟨(H.new (.rw Z8)).new (.rw [.int .i64 line, .iface 27 (.int .i64 3)]), H.next + 1, ?_, ⟨by rw [rwc_new, if_pos (by rfl)], by omega, rfl, fun b h1 h2 => by simp only [Hp.get_new, Hp.get_set, Hp.next_new, Hp.next_set]; repeat rw [if_neg (by omega)]⟩⟩
     rw [q26]
     simp -implicitDefEqProofs only [s26, ↓GVdn, GVup, goInt, splice, okC, Fr.of, Fr.ofI, Fr.g, Nat.reduceAdd, Nat.reduceMul, Nat.reduceEqDiff, Nat.reduceLT, Nat.reduceLeDiff, Nat.reduceBEq, Int.reduceLT, Int.reduceLE, Int.reduceToNat, Int.reduceAdd, Int.reduceSub, Int.reduceMul, Int.reduceEq, Int.reduceNeg, ↓reduceIte, ↓reduceDIte, Nat.beq, reduceCtorEq, Value.int.injEq, Nat.reduceSub, sto_ptr, lp_succ, List.length_cons, h4', hlen0, hlt0, hbn, hbn1, hAn0, hAn1, hl0, hl1, hn1, hn2, cA, hc, g0, h36, callK_pan, pnK_eq, Z8]
theorem v64_word (n : Nat) (H : Hp) (A : Nat) (v : Value) (line : Int) (wv mv tv : Value) (T : List ByteArray) (hv : SlI H v T) (hT : T.getD 0 emp = wordB) (hlim : H.lim ≤ H.next) (hA : H.rwc A = some [wv, mv, tv, .int .i64 line]) (hAn : A < H.next) (hw : ∀ w ∈ T, w.size ≤ 281474976710656) : RdR n H A v line (rdV T) := by
 obtain ⟨rfl, rfl⟩ | ⟨b, o, CL, rfl, hc, hr, hl, hb⟩ := hv
 · exact absurd hT (by decide)
 cases T with
 | nil => exact absurd hT (by decide)
 | cons t T1 =>
   have ht : t = wordB := hT
   have hlen0 : (((T1.length + 1 : Nat) : Int) = 0) = False := eq_false (by omega)
   have hlt0 : ((0 : Int) < ((T1.length + 1 : Nat) : Int)) = True := eq_true (by omega)
   have hbn : (b = H.next) = False := eq_false (by omega)
   have hAn0 : (A = H.next) = False := eq_false (by omega)
   have hl0 : (H.lim ≤ H.next) = True := eq_true hlim
   have hn1 : (H.next = H.next + 1) = False := eq_false (by omega)
   have hne : ((⟨#[46, 119, 111, 114, 100]⟩ : ByteArray) = ⟨#[108, 105]⟩) = False := eq_false (by decide)
   have cA := cells_rwc hA
   have h36 := fun H x => v11 (n + 80) H x line 3
   have g0 : CL[o]? = some (.string ⟨#[46, 119, 111, 114, 100]⟩) := by
     have := sl_get (j := 0) hr (by simp)
     rw [Nat.add_zero] at this
     rw [this, List.getD_cons_zero, ht]; rfl
   simp only [rdV]
   rw [if_neg (by rw [ht]; decide), if_pos ht]
   by_cases h2 : (t :: T1).length = 2
   · have hl2 : T1.length = 1 := by simpa using h2
     have g1 := sl_get (j := 1) hr (by omega)
     have hs1 : ((t :: T1).getD 1 emp).size ≤ 281474976710656 := hw _ (by simp [List.getD_eq_getElem?_getD, hl2])
     simp only [h2, true_and]
     generalize (t :: T1).getD 1 emp = w1 at g1 hs1 ⊢
     have h78 := fun H => v46 (n + 78) w1 hs1 H
     generalize valueV w1 = vv at h78 ⊢
     obtain ⟨m, okv⟩ := vv
     cases okv with
     | true =>
       rw [if_pos rfl]
       refine ⟨((H.new (.rw Z8)).new (.rw [.int .u32 m])).set H.next (.rw Z8), .slice (some ⟨H.next + 1, 0, none⟩) 1 1, ?_, ⟨⟨some (H.next + 1), rfl, ?_, by omega, ?_, by simp⟩, fun c hc => ?_, ?_, rfl⟩⟩
       · rw [q26]
         simp -implicitDefEqProofs only [s26, ↓GVdn, GVup, goInt, splice, okC, Fr.of, Fr.ofI, Fr.g, Nat.reduceAdd, Nat.reduceMul, Nat.reduceEqDiff, Nat.reduceLT, Nat.reduceLeDiff, Nat.reduceBEq, Int.reduceLT, Int.reduceLE, Int.reduceToNat, Int.reduceAdd, Int.reduceSub, Int.reduceMul, Int.reduceEq, Int.reduceNeg, ↓reduceIte, ↓reduceDIte, Nat.beq, reduceCtorEq, Value.int.injEq, Nat.reduceSub, sto_ptr, lp_succ, List.length_cons, hl2, hlen0, hlt0, hbn, hAn0, hl0, hn1, hne, cA, hc, g0, g1, h78, Z8, zer, Ins.cells, List.map_cons, List.map_nil, rep, List.replicate, List.flatten_cons, List.flatten_nil, wantV, emp]
       · rw [rwc_set, if_neg (by omega), rwc_new, if_pos (by rfl)]; rfl
       · show H.next + 1 < H.next + 2; omega
       · rw [Hp.get_set, if_neg (by omega), Hp.get_new, if_neg (by show ¬ c = H.next + 1; omega), Hp.get_new, if_neg (by omega)]
       · show H.next ≤ H.next + 2; omega
     | false =>
       rw [if_neg (by simp)]
       refine ⟨(H.new (.rw Z8)).new (.rw [.int .i64 line, .iface 27 (.int .i64 3)]), H.next + 1, ?_, ⟨by rw [rwc_new, if_pos (by rfl)], by omega, rfl, fun b h1 h2 => by simp only [Hp.get_new, Hp.get_set, Hp.next_new, Hp.next_set]; repeat rw [if_neg (by omega)]⟩⟩
       rw [q26]
       simp -implicitDefEqProofs only [s26, ↓GVdn, GVup, goInt, splice, okC, Fr.of, Fr.ofI, Fr.g, Nat.reduceAdd, Nat.reduceMul, Nat.reduceEqDiff, Nat.reduceLT, Nat.reduceLeDiff, Nat.reduceBEq, Int.reduceLT, Int.reduceLE, Int.reduceToNat, Int.reduceAdd, Int.reduceSub, Int.reduceMul, Int.reduceEq, Int.reduceNeg, ↓reduceIte, ↓reduceDIte, Nat.beq, reduceCtorEq, Value.int.injEq, Nat.reduceSub, sto_ptr, lp_succ, List.length_cons, hl2, hlen0, hlt0, hbn, hAn0, hl0, hn1, hne, cA, hc, g0, g1, h78, h36, callK_pan, pnK_eq, Z8]
   · rw [if_neg (fun h => h2 h.1)]
     have h2' : (((T1.length + 1 : Nat) : Int) = 2) = False := eq_false (by simp at h2; omega)
     refine ⟨(H.new (.rw Z8)).new (.rw [.int .i64 line, .iface 27 (.int .i64 3)]), H.next + 1, ?_, ⟨by rw [rwc_new, if_pos (by rfl)], by omega, rfl, fun b h1 h2 => by simp only [Hp.get_new, Hp.get_set, Hp.next_new, Hp.next_set]; repeat rw [if_neg (by omega)]⟩⟩
     rw [q26]
     simp -implicitDefEqProofs only [s26, ↓GVdn, GVup, goInt, splice, okC, Fr.of, Fr.ofI, Fr.g, Nat.reduceAdd, Nat.reduceMul, Nat.reduceEqDiff, Nat.reduceLT, Nat.reduceLeDiff, Nat.reduceBEq, Int.reduceLT, Int.reduceLE, Int.reduceToNat, Int.reduceAdd, Int.reduceSub, Int.reduceMul, Int.reduceEq, Int.reduceNeg, ↓reduceIte, ↓reduceDIte, Nat.beq, reduceCtorEq, Value.int.injEq, Nat.reduceSub, sto_ptr, lp_succ, List.length_cons, h2', hlen0, hlt0, hbn, hAn0, hl0, hn1, hne, cA, hc, g0, h36, callK_pan, pnK_eq, Z8]
theorem v64_ins (n : Nat) (H : Hp) (A : Nat) (v : Value) (line : Int) (wv mv tv : Value) (t : ByteArray) (T1 : List ByteArray) (hv : SlI H v (t :: T1)) (ht1 : ¬ t = liB) (ht2 : ¬ t = wordB) (hlim : H.lim ≤ H.next) (hA : H.rwc A = some [wv, mv, tv, .int .i64 line]) (hAn : A < H.next) (hw : ∀ w ∈ (t :: T1), w.size < n ∧ w.size ≤ 281474976710656) : RdR n H A v line (rdV (t :: T1)) := by
 obtain ⟨_, h0⟩ | ⟨b, o, CL, rfl, hc, hr, hl, hb⟩ := hv
 · cases h0
 have hlen0 : (((T1.length + 1 : Nat) : Int) = 0) = False := eq_false (by omega)
 have hlt0 : ((0 : Int) < ((T1.length + 1 : Nat) : Int)) = True := eq_true (by omega)
 have hbn : (b = H.next) = False := eq_false (by omega)
 have hAn0 : (A = H.next) = False := eq_false (by omega)
 have hAn1 : (A = H.next + 1) = False := eq_false (by omega)
 have hl0 : (H.lim ≤ H.next) = True := eq_true hlim
 have hl1 : (H.lim ≤ H.next + 1) = True := eq_true (by omega)
 have hn1 : (H.next = H.next + 1) = False := eq_false (by omega)
 have hn3 : (H.next = H.next + 1 + 1) = False := eq_false (by omega)
 have hn4 : (H.next + 1 = H.next + 1 + 1) = False := eq_false (by omega)
 have hn5 : (H.next + 1 = H.next) = False := eq_false (by omega)
 have ht1' : (t = ⟨#[108, 105]⟩) = False := eq_false ht1
 have ht2' : (t = ⟨#[46, 119, 111, 114, 100]⟩) = False := eq_false ht2
 have cA := cells_rwc hA
 have h36 := fun H x => v11 (n + 80) H x line 3
 have g0 : CL[o]? = some (.string t) := by
   have := sl_get (j := 0) hr (by simp)
   rw [Nat.add_zero] at this
   rw [this, List.getD_cons_zero]
 have h30 := v48 n (H.new (.rw Z8)) (b := b) (o := o) (CL := CL) (T := t :: T1) (by rw [cells_new, if_neg (by omega)]; exact hc) hr hl hw
 simp only [rdV]
 rw [if_neg ht1, if_neg ht2]
 generalize insV (t :: T1) = p at h30 ⊢
 obtain ⟨i, lab, ok⟩ := p
 simp only [insR, Ins.val, Ins.cells, Z8, List.length_cons] at h30
 have h16 := fun H => v20 (n + 73) H i.op i.A i.B i.C i.I
 simp only [encR_W] at h16
 cases ok with
 | true =>
   rw [if_pos rfl]
   refine ⟨(((((H.new (.rw Z8)).new (.rw zer.cells)).set (H.next + 1) (.rw i.cells)).new (.rw [.int .u32 (encW i.op i.A i.B i.C i.I)])).set H.next (.rw [.int .i64 0, .int .i64 0, .int .i64 i.op, .int .i64 i.A, .int .i64 i.B, .int .i64 i.C, .int .i64 i.I, .string lab])), .slice (some ⟨H.next + 1 + 1, 0, none⟩) 1 1, ?_, ⟨⟨some (H.next + 1 + 1), rfl, ?_, by omega, ?_, by simp [liW]⟩, fun c hc => ?_, ?_, rfl⟩⟩
   · rw [q26]
     simp -implicitDefEqProofs only [s26, ↓GVdn, GVup, goInt, splice, okC, Fr.of, Fr.ofI, Fr.g, Nat.reduceAdd, Nat.reduceMul, Nat.reduceEqDiff, Nat.reduceLT, Nat.reduceLeDiff, Nat.reduceBEq, Int.reduceLT, Int.reduceLE, Int.reduceToNat, Int.reduceAdd, Int.reduceSub, Int.reduceMul, Int.reduceEq, Int.reduceNeg, ↓reduceIte, ↓reduceDIte, Nat.beq, reduceCtorEq, Value.int.injEq, Nat.reduceSub, sto_ptr, lp_succ, opn_lim, List.length_cons, hlen0, hlt0, hbn, hAn0, hAn1, hl0, hl1, hn1, hn3, hn4, hn5, ht1', ht2', cA, hc, g0, h30, h16, Z8, zer, Ins.cells, List.map_cons, List.map_nil, rep, List.replicate, List.flatten_cons, List.flatten_nil, wantV]
   · rw [rwc_set, if_neg (by omega), rwc_new, if_pos (by rfl)]; rfl
   · show H.next + 2 < H.next + 3; omega
   · rw [Hp.get_set, if_neg (by omega), Hp.get_new, if_neg (by show ¬ c = H.next + 2; omega), Hp.get_set, if_neg (by omega), Hp.get_new, if_neg (by show ¬ c = H.next + 1; omega), Hp.get_new, if_neg (by omega)]
   · show H.next ≤ H.next + 3; omega
 | false =>
   rw [if_neg (by simp)]
   refine ⟨((((H.new (.rw Z8)).new (.rw zer.cells)).set (H.next + 1) (.rw i.cells)).new (.rw [.int .i64 line, .iface 27 (.int .i64 3)])), H.next + 1 + 1, ?_, ⟨by rw [rwc_new, if_pos (by rfl)], by omega, rfl, fun b h1 h2 => by simp only [Hp.get_new, Hp.get_set, Hp.next_new, Hp.next_set]; repeat rw [if_neg (by omega)]⟩⟩
   rw [q26]
   simp -implicitDefEqProofs only [s26, ↓GVdn, GVup, goInt, splice, okC, Fr.of, Fr.ofI, Fr.g, Nat.reduceAdd, Nat.reduceMul, Nat.reduceEqDiff, Nat.reduceLT, Nat.reduceLeDiff, Nat.reduceBEq, Int.reduceLT, Int.reduceLE, Int.reduceToNat, Int.reduceAdd, Int.reduceSub, Int.reduceMul, Int.reduceEq, Int.reduceNeg, ↓reduceIte, ↓reduceDIte, Nat.beq, reduceCtorEq, Value.int.injEq, Nat.reduceSub, sto_ptr, lp_succ, opn_lim, List.length_cons, hlen0, hlt0, hbn, hAn0, hAn1, hl0, hl1, hn1, hn3, hn4, hn5, ht1', ht2', cA, hc, g0, h30, h36, callK_pan, pnK_eq, Z8, zer, Ins.cells]
theorem rdV_len {l : List ByteArray} {ws : List Int} {i : Ins} {lab : ByteArray} (h : rdV l = some (ws, i, lab)) : ws.length ≤ 2 := by
 unfold rdV at h
 split at h
 · cases h; simp
 · split at h
   · split at h
     · cases h; simp [liW]
     · cases h
   · split at h
     · split at h
       · cases h; simp
       · cases h
     · split at h
       · cases h; simp
       · cases h
theorem v26 (n : Nat) (H : Hp) (A : Nat) (v : Value) (line : Int) (wv mv tv : Value) (T : List ByteArray) (hv : SlI H v T) (hlim : H.lim ≤ H.next) (hA : H.rwc A = some [wv, mv, tv, .int .i64 line]) (hAn : A < H.next) (hw : ∀ w ∈ T, w.size < n ∧ w.size ≤ 281474976710656) : RdR n H A v line (rdV T) := by
 cases T with
 | nil => exact v64_nil n H A v line hv hlim
 | cons t T1 =>
   by_cases h1 : t = liB
   · exact v64_li n H A v line wv mv tv _ hv h1 hlim hA hAn fun w h => (hw w h).2
   · by_cases h2 : t = wordB
     · exact v64_word n H A v line wv mv tv _ hv h2 hlim hA hAn fun w h => (hw w h).2
     · exact v64_ins n H A v line wv mv tv t T1 hv h1 h2 hlim hA hAn hw
end Go.Proofs.YtbaooebafijenaaGreatDoor
