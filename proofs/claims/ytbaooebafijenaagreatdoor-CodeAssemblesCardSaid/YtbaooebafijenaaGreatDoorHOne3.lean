/- A line put in: the function. -/
import Derived.Test.YtbaooebafijenaaGreatDoorHRead
import Derived.Test.YtbaooebafijenaaGreatDoorHMin
import Derived.Test.YtbaooebafijenaaGreatDoorHvBun
namespace Go.Proofs.YtbaooebafijenaaGreatDoor
open Go Go.Ev
set_option maxRecDepth 100000
set_option linter.unusedSimpArgs false
set_option linter.unusedVariables false
set_option maxHeartbeats 2000000
set_option linter.unusedSectionVars false
variable [Mx]
attribute [local congr] bind_front callK_front jn_front ifB_front ifG_front lp_front
structure Want where
 line : Int
 at_ : Int
 i : Ins
 lab : ByteArray
def Want.cells (w : Want) : List Value := [.int .i64 w.line, .int .i64 w.at_, .int .i64 w.i.op, .int .i64 w.i.A, .int .i64 w.i.B, .int .i64 w.i.C, .int .i64 w.i.I, .string w.lab]
structure Asm where
 words : List Int
 labels : List (ByteArray × Int)
 wants : List Want
 line : Int
def wvs (l : List Int) : List Value := l.map fun w => .int .u32 w
theorem wvs_len (l : List Int) : (wvs l).length = l.length := by simp [wvs]
def wns (l : List Want) : List Value := l.flatMap Want.cells
theorem wns_len (l : List Want) : (wns l).length = l.length * 8 := by
 induction l with
 | nil => rfl
 | cons w l ih =>
   have e : wns (w :: l) = w.cells ++ wns l := rfl
   rw [e, List.length_append, ih, List.length_cons]
   have : w.cells.length = 8 := rfl
   omega
def findL (k : ByteArray) : List (ByteArray × Int) → Option Int
 | [] => none
 | p :: l => if k = p.1 then some p.2 else findL k l
def MR (es : List MapEntry) (ls : List (ByteArray × Int)) : Prop := es.map (fun e => (e.key, e.val)) = ls.map fun p => (Value.string p.1, Value.int .i64 p.2)
theorem beq_bytes (a b : ByteArray) : (a.data.toList == b.data.toList) = decide (a = b) := by
 by_cases h : a = b
 · subst h; simp
 · rw [decide_eq_false h]
   exact beq_false_of_ne fun e => h (bytes_inj e)
theorem findE_MR (k : ByteArray) : ∀ (es : List MapEntry) (ls : List (ByteArray × Int)) (i : Nat), MR es ls → ∃ r, findE true (.string k) es i = some r ∧ match findL k ls with | none => r = none | some z => ∃ j, r = some (j, .int .i64 z)
 | [], [], i, _ => ⟨none, rfl, rfl⟩
 | [], p :: ls, i, h => by cases h
 | e :: es, [], i, h => by cases h
 | e :: es, p :: ls, i, h => by
   simp only [MR, List.map_cons, List.cons.injEq, Prod.mk.injEq] at h
   obtain ⟨⟨h1, h2⟩, h3⟩ := h
   simp only [findE, findL, h1, keyEq, beq_bytes]
   by_cases hk : k = p.1
   · rw [decide_eq_true hk, if_pos hk, h2]
     exact ⟨_, rfl, i, rfl⟩
   · rw [decide_eq_false hk, if_neg hk]
     exact findE_MR k es ls (i + 1) h3
theorem lkup_MR {H : Hp} {m : Nat} {es : List MapEntry} {ck : Nat} {ls : List (ByteArray × Int)} (h : H.get m = some (.mp es ck)) (hM : MR es ls) (k : ByteArray) :
   lkup true (.int .i64 0) true (.map (some m)) (.string k) H = some (match findL k ls with | none => .tuple #[.int .i64 0, .bool false] | some z => .tuple #[.int .i64 z, .bool true]) := by
 obtain ⟨r, h1, h2⟩ := findE_MR k es ls 0 hM
 simp only [lkup, entries, h, Option.bind_some, h1, Option.map_some]
 cases hf : findL k ls with
 | none => rw [hf] at h2; simp only at h2; subst h2; rfl
 | some z => rw [hf] at h2; simp only at h2; obtain ⟨j, rfl⟩ := h2; rfl
theorem mupd_MR {H : Hp} {m : Nat} {es : List MapEntry} {ck : Nat} {ls : List (ByteArray × Int)} (h : H.get m = some (.mp es ck)) (hM : MR es ls) (hl : H.lim ≤ m) (k : ByteArray) (hk : findL k ls = none) (z : Int) :
   ∃ es', mupd true (.map (some m)) (.string k) (.int .i64 z) H = some (H.set m (.mp es' (ck + 1))) ∧ MR es' (ls ++ [(k, z)]) := by
 obtain ⟨r, h1, h2⟩ := findE_MR k es ls 0 hM
 rw [hk] at h2
 simp only at h2
 subst h2
 refine ⟨es ++ [{ key := .string k, val := .int .i64 z, born := ck }], ?_, ?_⟩
 · simp only [mupd, h, h1, Option.map_some]
   rw [if_pos ⟨hl, rfl⟩]
 · unfold MR at hM ⊢
   simp [hM]
theorem len_sv (lb : Option Nat) (n sz : Nat) (H : Hp) (h : lb = none → n = 0) : len 1 (svOf lb n sz) H = some (.int .i64 n) := by
 cases lb with
 | none => rw [h rfl]; rfl
 | some b => rfl
structure AsS (H : Hp) (A mb : Nat) (a : Asm) (wb tb : Option Nat) : Prop where
 h12 : 13 ≤ A ∧ 13 ≤ mb
 gn : Tabs.gn ≤ H.lim
 lA : H.lim ≤ A
 lm : H.lim ≤ mb
 nA : A < H.next
 nm : mb < H.next
 ne : A ≠ mb
 cell : H.get A = some (.rw [svOf wb a.words.length 1, .map (some mb), svOf tb a.wants.length 8, .int .i64 a.line])
 mp : ∃ es ck, H.get mb = some (.mp es ck) ∧ MR es a.labels
 wr : RowS H wb H.lim (wvs a.words)
 tr : RowS H tb H.lim (wns a.wants)
 dw : ∀ b, wb = some b → b ≠ A ∧ tb ≠ some b
 dt : ∀ b, tb = some b → b ≠ A
 bw : a.words.length ≤ 65536 ∧ a.wants.length ≤ a.words.length
def colon : ByteArray := ⟨#[58]⟩
def lbGo : List ByteArray → List ByteArray × List ByteArray
 | a :: c :: r => if c = colon ∧ labelV a = true then (a :: (lbGo r).1, (lbGo r).2) else ([], a :: c :: r)
 | l => ([], l)
theorem SlI.len {H : Hp} {v : Value} {T : List ByteArray} (h : SlI H v T) (H' : Hp) : Go.Ev.len 1 v H' = some (.int .i64 T.length) := by
 rcases h with ⟨rfl, rfl⟩ | ⟨b, o, CL, rfl, _⟩ <;> rfl
structure LpS (H0 H : Hp) (names : List ByteArray) (nb : Option Nat) : Prop where
 old : ∀ b, b < H0.next → H.get b = H0.get b
 next : H0.next ≤ H.next
 lim : H.lim = H0.lim
 row : RowS H nb H0.next (names.map Value.string)
theorem row_none {H : Hp} {lb : Option Nat} {lo : Nat} {α : Type} {l : List α} {f : α → Value} (h : RowS H lb lo (l.map f)) : lb = none → l.length = 0 := by
 intro e
 subst e
 have h : l.map f = [] := h
 simpa using congrArg List.length h
theorem one_l1 (n : Nat) (H0 : Hp) (hgn : Tabs.gn ≤ H0.lim) (hlim : H0.lim ≤ H0.next) (A : Nat) : ∀ (k m : Nat) (T : List ByteArray), T.length ≤ k → k < m → (∀ w ∈ T, w.size < n ∧ w.size ≤ 281474976710656) → ∀ (H : Hp) (names : List ByteArray) (nb : Option Nat) (v : Value), LpS H0 H names nb → SlI H0 v T → names.length + T.length ≤ 4294967296 →
   ∃ H' nb' v', (∀ (kx : Nat → Fr → Hp → Option (Out × Hp)) (kr : Fr → Hp → Option (Out × Hp)), lp (s14_b1 (evCall cfc (n+82)) (n+82)) m [ptr A 0, v, svOf nb names.length 1] H kx kr = kx 0 (Fr.of [0, 1, 4] [ptr A 0, v', svOf nb' (names ++ (lbGo T).1).length 1]) H') ∧
     LpS H0 H' (names ++ (lbGo T).1) nb' ∧ SlI H0 v' (lbGo T).2 := by
 intro k
 induction k with
 | zero =>
   intro m T hT hm hw H names nb v hL hv hsz
   obtain ⟨m, rfl⟩ : ∃ q, m = q + 1 := ⟨m - 1, by omega⟩
   have hT0 : T = [] := List.eq_nil_of_length_eq_zero (by omega)
   subst hT0
   have hlen := hv.len
   simp only [lbGo, List.append_nil]
   refine ⟨H, nb, v, fun kx kr => ?_, hL, hv⟩
   have h2 : ((2 : Int) ≤ (([] : List ByteArray).length : Int)) = False := eq_false (by simp)
   rw [lp_succ]
   simp -implicitDefEqProofs only [s14_b1, ↓GVdn, GVup, goInt, splice, okC, Fr.of, Fr.ofI, Fr.g, Nat.reduceAdd, Nat.reduceMul, Nat.reduceEqDiff, Nat.reduceLT, Nat.reduceLeDiff, Nat.reduceBEq, Int.reduceLT, Int.reduceLE, Int.reduceToNat, Int.reduceAdd, Int.reduceSub, Int.reduceMul, Int.reduceEq, Int.reduceNeg, ↓reduceIte, ↓reduceDIte, Nat.beq, reduceCtorEq, Value.int.injEq, Nat.reduceSub, sto_ptr, hlen, h2]
 | succ k ih =>
   intro m T hT hm hw H names nb v hL hv hsz
   obtain ⟨m, rfl⟩ : ∃ q, m = q + 1 := ⟨m - 1, by omega⟩
   have hlen := hv.len
   match T, hT, hw, hv, hsz with
   | [], _, _, hv, _ =>
     simp only [lbGo, List.append_nil]
     refine ⟨H, nb, v, fun kx kr => ?_, hL, hv⟩
     have h2 : ((2 : Int) ≤ (([] : List ByteArray).length : Int)) = False := eq_false (by simp)
     have hlen := hv.len
     rw [lp_succ]
     simp -implicitDefEqProofs only [s14_b1, ↓GVdn, GVup, goInt, splice, okC, Fr.of, Fr.ofI, Fr.g, Nat.reduceAdd, Nat.reduceMul, Nat.reduceEqDiff, Nat.reduceLT, Nat.reduceLeDiff, Nat.reduceBEq, Int.reduceLT, Int.reduceLE, Int.reduceToNat, Int.reduceAdd, Int.reduceSub, Int.reduceMul, Int.reduceEq, Int.reduceNeg, ↓reduceIte, ↓reduceDIte, Nat.beq, reduceCtorEq, Value.int.injEq, Nat.reduceSub, sto_ptr, hlen, h2]
   | [x], _, _, hv, _ =>
     simp only [lbGo, List.append_nil]
     refine ⟨H, nb, v, fun kx kr => ?_, hL, hv⟩
     have h2 : ((2 : Int) ≤ (([x] : List ByteArray).length : Int)) = False := eq_false (by simp)
     have hlen := hv.len
     rw [lp_succ]
     simp -implicitDefEqProofs only [s14_b1, ↓GVdn, GVup, goInt, splice, okC, Fr.of, Fr.ofI, Fr.g, Nat.reduceAdd, Nat.reduceMul, Nat.reduceEqDiff, Nat.reduceLT, Nat.reduceLeDiff, Nat.reduceBEq, Int.reduceLT, Int.reduceLE, Int.reduceToNat, Int.reduceAdd, Int.reduceSub, Int.reduceMul, Int.reduceEq, Int.reduceNeg, ↓reduceIte, ↓reduceDIte, Nat.beq, reduceCtorEq, Value.int.injEq, Nat.reduceSub, sto_ptr, hlen, h2]
   | a :: c :: r, hT, hw, hv, hsz =>
     have hv0 := hv
     obtain ⟨_, h0⟩ | ⟨b, o, CL, rfl, hc, hr, hl, hb⟩ := hv
     · cases h0
     have hcl : H.cells b = some CL := by
       unfold Hp.cells
       rw [hL.old b hb]
       exact hc
     have g0 : CL[o]? = some (.string a) := by
       have := sl_get (j := 0) hr (by simp)
       rw [Nat.add_zero] at this
       rw [this, List.getD_cons_zero]
     have g1 : CL[o + 1]? = some (.string c) := by
       have := sl_get (j := 1) hr (by simp)
       rw [this, List.getD_cons_succ, List.getD_cons_zero]
     have h2 : ((2 : Int) ≤ ((r.length + 1 + 1 : Nat) : Int)) = True := eq_true (by omega)
     have h3 : ((1 : Int) < ((r.length + 1 + 1 : Nat) : Int)) = True := eq_true (by omega)
     have h4 : ((0 : Int) < ((r.length + 1 + 1 : Nat) : Int)) = True := eq_true (by omega)
     simp only [lbGo]
     by_cases hcc : c = colon
     · subst hcc
       have hwa := hw a (by simp)
       have h52 := fun H => v25 (n + 81) a (by omega) (by omega) H
       cases hla : labelV a with
       | true =>
         rw [hla] at h52
         rw [if_pos ⟨rfl, rfl⟩]
         have hnx : (H.new (.rw [.string a])).next = H.next + 1 := rfl
         obtain ⟨H2, nb2, a1, a2, a3, a4, a5, a6⟩ := app_row (sz := 1) (by_ := 16) (H := H.new (.rw [.string a])) (n := names.length) (cs := names.map Value.string) (lb := nb) (lo := H0.next) (by simp)
           (by have hrow := hL.row
               cases nb with
               | none => exact hrow
               | some l => exact ⟨by rw [Hp.get_new, if_neg (by have := hrow.2.2.1; omega)]; exact hrow.1, hrow.2.1, by have := hrow.2.2.1; rw [hnx]; omega, hrow.2.2.2⟩)
           (by show H.lim ≤ H0.next; rw [hL.lim]; exact hlim) (by have := hL.next; rw [hnx]; omega) (by show Tabs.gn ≤ H.lim; rw [hL.lim]; exact hgn) (m := 1) (xs := [.string a]) (by simp) (by decide) (roomy16 (by simp at hsz; omega)) rfl
         have hrowb := hL.row
         have hL2 : LpS H0 H2 (names ++ [a]) nb2 := by
           refine ⟨fun b hb => ?_, by have := hL.next; rw [hnx] at a3; omega, by rw [a4]; exact hL.lim, by simpa using a2⟩
           rw [a5 b (by have := hL.next; rw [hnx]; omega) (fun e => by subst e; have := hrowb.2.1; omega), Hp.get_new, if_neg (by have := hL.next; omega)]
           exact hL.old b hb
         have hv2 : SlI H0 (.slice (some ⟨b, o + 2, none⟩) r.length 1) r := by
           refine .inr ⟨b, o + 2, CL, rfl, hc, ?_, by simp at hl; omega, hb⟩
           have := congrArg (List.drop 2) hr
           rw [List.drop_take, List.drop_drop] at this
           simpa using this
         obtain ⟨H', nb', v', i1, i2, i3⟩ := ih m r (by simp at hT; omega) (by omega) (fun w hw' => hw w (by simp [hw'])) H2 (names ++ [a]) nb2 _ hL2 hv2 (by simp at hsz ⊢; omega)
         rw [List.append_assoc, List.singleton_append] at i1 i2
         refine ⟨H', nb', v', fun kx kr => ?_, i2, i3⟩
         have i1' := i1 kx kr
         rw [lp_succ]
         simp only [List.length_append, List.length_cons, List.length_nil] at i1' ⊢
         have e5 : ((2 : Int) ≤ ((r.length + 1 + 1 : Nat) : Int) ∧ ((r.length + 1 + 1 : Nat) : Int) ≤ ((r.length + 1 + 1 : Nat) : Int)) = True := eq_true (by omega)
         have e6 : r.length + 1 + 1 - 2 = r.length := by omega
         simp -implicitDefEqProofs only [s14_b1, ↓GVdn, GVup, goInt, splice, okC, Fr.of, Fr.ofI, Fr.g, Nat.reduceAdd, Nat.reduceMul, Nat.reduceEqDiff, Nat.reduceLT, Nat.reduceLeDiff, Nat.reduceBEq, Int.reduceLT, Int.reduceLE, Int.reduceToNat, Int.reduceAdd, Int.reduceSub, Int.reduceMul, Int.reduceEq, Int.reduceNeg, ↓reduceIte, ↓reduceDIte, Nat.beq, reduceCtorEq, Value.int.injEq, Nat.reduceSub, sto_ptr, opn_lim, List.length_cons, hcl, g0, g1, h2, h3, h4, colon, h52, rep, List.replicate, List.flatten_cons, List.flatten_nil, srcC_new, a1, e5, e6, i1']
       | false =>
         rw [hla] at h52
         rw [if_neg (by simp)]
         simp only [List.append_nil]
         refine ⟨H, nb, _, fun kx kr => ?_, hL, hv0⟩
         rw [lp_succ]
         simp -implicitDefEqProofs only [s14_b1, ↓GVdn, GVup, goInt, splice, okC, Fr.of, Fr.ofI, Fr.g, Nat.reduceAdd, Nat.reduceMul, Nat.reduceEqDiff, Nat.reduceLT, Nat.reduceLeDiff, Nat.reduceBEq, Int.reduceLT, Int.reduceLE, Int.reduceToNat, Int.reduceAdd, Int.reduceSub, Int.reduceMul, Int.reduceEq, Int.reduceNeg, ↓reduceIte, ↓reduceDIte, Nat.beq, reduceCtorEq, Value.int.injEq, Nat.reduceSub, sto_ptr, opn_lim, List.length_cons, hcl, g0, g1, h2, h3, h4, colon, h52]
     · rw [if_neg (fun h => hcc h.1)]
       simp only [List.append_nil]
       refine ⟨H, nb, _, fun kx kr => ?_, hL, hv0⟩
       have hcc' : (c = ⟨#[58]⟩) = False := eq_false hcc
       rw [lp_succ]
       simp -implicitDefEqProofs only [s14_b1, ↓GVdn, GVup, goInt, splice, okC, Fr.of, Fr.ofI, Fr.g, Nat.reduceAdd, Nat.reduceMul, Nat.reduceEqDiff, Nat.reduceLT, Nat.reduceLeDiff, Nat.reduceBEq, Int.reduceLT, Int.reduceLE, Int.reduceToNat, Int.reduceAdd, Int.reduceSub, Int.reduceMul, Int.reduceEq, Int.reduceNeg, ↓reduceIte, ↓reduceDIte, Nat.beq, reduceCtorEq, Value.int.injEq, Nat.reduceSub, sto_ptr, opn_lim, List.length_cons, hcl, g0, g1, h2, h3, h4, hcc']
end Go.Proofs.YtbaooebafijenaaGreatDoor
namespace Go.Proofs.YtbaooebafijenaaGreatDoor
open Go Go.Ev
set_option maxRecDepth 100000
set_option linter.unusedSimpArgs false
set_option linter.unusedVariables false
set_option maxHeartbeats 2000000
set_option linter.unusedSectionVars false
variable [Mx]
attribute [local congr] bind_front callK_front jn_front ifB_front ifG_front lp_front
def addL (ls : List (ByteArray × Int)) (n : Int) : List ByteArray → Option (List (ByteArray × Int))
 | [] => some ls
 | s :: r => match findL s ls with
   | some _ => none
   | none => addL (ls ++ [(s, n)]) n r
structure L2S (H : Hp) (A mb : Nat) (wv tv : Value) (line : Int) (ls : List (ByteArray × Int)) (names : List ByteArray) (nb : Option Nat) (lo : Nat) : Prop where
 h12 : 13 ≤ mb
 lm : H.lim ≤ mb
 ne : A ≠ mb
 cell : H.get A = some (.rw [wv, .map (some mb), tv, .int .i64 line])
 mp : ∃ es ck, H.get mb = some (.mp es ck) ∧ MR es ls
 row : RowS H nb lo (names.map Value.string)
theorem row_set {H : Hp} {lb : Option Nat} {lo : Nat} {cs : List Value} (h : RowS H lb lo cs) {b : Nat} (x : Blk) (hb : lb ≠ some b) : RowS (H.set b x) lb lo cs := by
 cases lb with
 | none => exact h
 | some l => exact ⟨by rw [Hp.get_set, if_neg (fun e => hb (by rw [e]))]; exact h.1, h.2.1, h.2.2.1, h.2.2.2⟩
theorem row_keep {H H' : Hp} {lb : Option Nat} {lo : Nat} {cs : List Value} (h : RowS H lb lo cs) (hk : ∀ b, lb = some b → H'.get b = H.get b) (hn : H.next ≤ H'.next) : RowS H' lb lo cs := by
 cases lb with
 | none => exact h
 | some l => exact ⟨by rw [hk l rfl]; exact h.1, h.2.1, by have := h.2.2.1; omega, h.2.2.2⟩
theorem row_ne {H : Hp} {lb : Option Nat} {lo : Nat} {cs : List Value} (h : RowS H lb lo cs) {b : Nat} {es : List MapEntry} {ck : Nat} (hm : H.get b = some (.mp es ck)) : lb ≠ some b := by
 intro e
 subst e
 have := h.1
 rw [hm] at this
 cases this
theorem one_l2 (n : Nat) (A mb W : Nat) (wv tv sv : Value) (line : Int) (nW : Nat) (hwv : ∀ H, len 1 wv H = some (.int .i64 nW)) (names : List ByteArray) (nb : Option Nat) (lo : Nat) (hnl : names.length ≤ 4294967296) : ∀ (r k m : Nat), k + r = names.length → r < m → ∀ (H : Hp) (ls : List (ByteArray × Int)), L2S H A mb wv tv line ls names nb lo →
   match addL ls nW (names.drop k) with
   | none => ∃ H' p, (∀ (kx : Nat → Fr → Hp → Option (Out × Hp)) (kr : Fr → Hp → Option (Out × Hp)), lp (s14_b2 (evCall cfc (n+1)) (n+1)) m [ptr A 0, sv, ptr W 0, svOf nb names.length 1, .int .i64 names.length, .int .i64 k] H kx kr = some (.pan (faultP p), H')) ∧ PanS H H' p line 301
   | some ls' => ∃ H', (∀ (kx : Nat → Fr → Hp → Option (Out × Hp)) (kr : Fr → Hp → Option (Out × Hp)), lp (s14_b2 (evCall cfc (n+1)) (n+1)) m [ptr A 0, sv, ptr W 0, svOf nb names.length 1, .int .i64 names.length, .int .i64 k] H kx kr = kx 2 (Fr.of [0, 5, 6] [ptr A 0, sv, ptr W 0]) H') ∧ L2S H' A mb wv tv line ls' names nb lo ∧ H'.next = H.next ∧ H'.lim = H.lim ∧ ∀ b, b ≠ mb → H'.get b = H.get b := by
 intro r
 induction r with
 | zero =>
   intro k m hk hm H ls hL
   obtain ⟨m, rfl⟩ : ∃ q, m = q + 1 := ⟨m - 1, by omega⟩
   have e : names.drop k = [] := List.drop_eq_nil_of_le (by omega)
   rw [e]
   simp only [addL]
   refine ⟨H, fun kx kr => ?_, hL, rfl, rfl, fun _ _ => rfl⟩
   have hlt : ((k : Int) < (names.length : Int)) = False := eq_false (by omega)
   rw [lp_succ]
   simp -implicitDefEqProofs only [s14_b2, ↓GVdn, GVup, goInt, splice, okC, Fr.of, Fr.ofI, Fr.g, Nat.reduceAdd, Nat.reduceMul, Nat.reduceEqDiff, Nat.reduceLT, Nat.reduceLeDiff, Nat.reduceBEq, Int.reduceLT, Int.reduceLE, Int.reduceToNat, Int.reduceAdd, Int.reduceSub, Int.reduceMul, Int.reduceEq, Int.reduceNeg, ↓reduceIte, ↓reduceDIte, Nat.beq, reduceCtorEq, Value.int.injEq, Nat.reduceSub, sto_ptr, hlt]
 | succ r ih =>
   intro k m hk hm H ls hL
   obtain ⟨m, rfl⟩ : ∃ q, m = q + 1 := ⟨m - 1, by omega⟩
   have hkl : k < names.length := by omega
   have hd : names.drop k = names[k] :: names.drop (k + 1) := List.drop_eq_getElem_cons hkl
   have hlt : ((k : Int) < (names.length : Int)) = True := eq_true (by omega)
   have hi0 : ((0 : Int) ≤ (k : Int)) = True := eq_true (by omega)
   have hw1 : IntKind.wrap .i64 ((k : Int) + 1) = ((k + 1 : Nat) : Int) := by rw [IntWalk.i64_in _ (by omega)]; rfl
   have hrow := hL.row
   have hg : (names.map Value.string)[k]? = some (.string names[k]) := by simp [hkl]
   obtain ⟨es, ck, hm1, hm2⟩ := hL.mp
   have hnm := row_ne hL.row hm1
   rw [hd]
   simp only [addL]
   generalize names[k] = s at hg ⊢
   have cA := cells_get hL.cell
   have hlk := lkup_MR hm1 hm2 s
   cases nb with
   | none => exact absurd (show names.map Value.string = [] from hrow) (by intro e; rw [e] at hg; cases hg)
   | some bb =>
     have cN := cells_get hrow.1
     cases hf : findL s ls with
     | some z =>
       rw [hf] at hlk
       simp only at hlk
       simp only
       have h36 := fun H x => v11 n H x line 301
       refine ⟨_, _, fun kx kr => ?_, ⟨(by rw [rwc_new, if_pos rfl] : (H.new (.rw [.int .i64 line, .iface 27 (.int .i64 301)])).rwc H.next = _), Nat.le_refl _, rfl, fun b h1 h2 => by simp only [Hp.get_new, Hp.get_set, Hp.next_new, Hp.next_set]; repeat rw [if_neg (by omega)]⟩⟩
       rw [lp_succ]
       simp -implicitDefEqProofs only [s14_b2, ↓GVdn, GVup, goInt, splice, okC, Fr.of, Fr.ofI, Fr.g, Nat.reduceAdd, Nat.reduceMul, Nat.reduceEqDiff, Nat.reduceLT, Nat.reduceLeDiff, Nat.reduceBEq, Int.reduceLT, Int.reduceLE, Int.reduceToNat, Int.reduceAdd, Int.reduceSub, Int.reduceMul, Int.reduceEq, Int.reduceNeg, ↓reduceIte, ↓reduceDIte, Nat.beq, reduceCtorEq, Value.int.injEq, Nat.reduceSub, sto_ptr, opn_lim, svOf, hlt, hi0, cA, cN, hg, hlk, h36, callK_pan, jn_pan, pnJ_eq, pnK_eq]
     | none =>
       rw [hf] at hlk
       simp only at hlk
       simp only
       obtain ⟨es', u1, u2⟩ := mupd_MR hm1 hm2 hL.lm s hf nW
       have hL2 : L2S (H.set mb (.mp es' (ck + 1))) A mb wv tv line (ls ++ [(s, (nW : Int))]) names (some bb) lo :=
         ⟨hL.h12, hL.lm, hL.ne, by rw [Hp.get_set, if_neg hL.ne]; exact hL.cell, ⟨es', ck + 1, by rw [Hp.get_set, if_pos rfl], u2⟩, row_set hrow _ hnm⟩
       have ih := ih (k + 1) m (by omega) (by omega) (H.set mb (.mp es' (ck + 1))) _ hL2
       have step : ∀ kx kr, lp (s14_b2 (evCall cfc (n+1)) (n+1)) (m + 1) [ptr A 0, sv, ptr W 0, svOf (some bb) names.length 1, .int .i64 names.length, .int .i64 k] H kx kr = lp (s14_b2 (evCall cfc (n+1)) (n+1)) m [ptr A 0, sv, ptr W 0, svOf (some bb) names.length 1, .int .i64 names.length, .int .i64 ((k + 1 : Nat) : Int)] (H.set mb (.mp es' (ck + 1))) kx kr := by
         intro kx kr
         rw [lp_succ]
         simp -implicitDefEqProofs only [s14_b2, ↓GVdn, GVup, goInt, splice, okC, Fr.of, Fr.ofI, Fr.g, Nat.reduceAdd, Nat.reduceMul, Nat.reduceEqDiff, Nat.reduceLT, Nat.reduceLeDiff, Nat.reduceBEq, Int.reduceLT, Int.reduceLE, Int.reduceToNat, Int.reduceAdd, Int.reduceSub, Int.reduceMul, Int.reduceEq, Int.reduceNeg, ↓reduceIte, ↓reduceDIte, Nat.beq, reduceCtorEq, Value.int.injEq, Nat.reduceSub, sto_ptr, opn_lim, svOf, hlt, hi0, cA, cN, hg, hlk, hwv, u1, hw1]
       simp only [step]
       cases ha : addL (ls ++ [(s, (nW : Int))]) nW (names.drop (k + 1)) with
       | none =>
         rw [ha] at ih
         obtain ⟨H', p, i1, i2⟩ := ih
         exact ⟨H', p, i1, ⟨i2.cell, i2.new, i2.lim, fun b h1 h2 => by rw [i2.old b h1 h2, Hp.get_set, if_neg (by have := hL.h12; omega)]⟩⟩
       | some ls' =>
         rw [ha] at ih
         obtain ⟨H', i1, i2, i3, i4, i5⟩ := ih
         exact ⟨H', i1, i2, i3, i4, fun b hb => by rw [i5 b hb, Hp.get_set, if_neg hb]⟩
end Go.Proofs.YtbaooebafijenaaGreatDoor
namespace Go.Proofs.YtbaooebafijenaaGreatDoor
open Go Go.Ev
set_option maxRecDepth 100000
set_option linter.unusedSimpArgs false
set_option linter.unusedVariables false
set_option maxHeartbeats 4000000
set_option linter.unusedSectionVars false
variable [Mx]
attribute [local congr] bind_front callK_front jn_front ifB_front ifG_front lp_front
theorem q14 (n : Nat) (x y : Value) (H : Hp) : evCall cfc (n+1) 14 [x, y] H = s14 (evCall cfc n) n x y H := by
 rw [evCall_open (fn := Tryz.f14) (by rfl) (by rfl) Tryz.func14 (by rfl)]
 exact s14_eq _ _ _ _ _
def oneV (a : Asm) (T : List ByteArray) : Except Int Asm :=
 match rdV (lbGo T).2 with
 | none => .error 3
 | some (ws, i, lab) =>
   match addL a.labels a.words.length (lbGo T).1 with
   | none => .error 301
   | some ls => if 65536 < a.words.length + ws.length then .error 9
     else .ok { words := a.words ++ ws, labels := ls, wants := if lab = emp then a.wants else a.wants ++ [⟨a.line, a.words.length, i, lab⟩], line := a.line }
theorem bx_sv (lb : Option Nat) (n sz : Nat) : bx (svOf lb n sz) = some [svOf lb n sz] := by cases lb <;> rfl
theorem okC_sv (lb : Option Nat) (n sz : Nat) : okC (svOf lb n sz) = true := by cases lb <;> rfl
theorem wvs_ok (l : List Int) : (wvs l).all okC = true := by
 induction l with
 | nil => rfl
 | cons x l ih => show (okC (.int .u32 x) && (wvs l).all okC) = true; rw [ih]; rfl
theorem srcC_row {H : Hp} {lb : Option Nat} {lo sz n : Nat} {cs : List Value} (h : RowS H lb lo cs) (hn : n * sz = cs.length) (hsz : 0 < sz) : srcC sz (svOf lb n sz) H = some (n, cs) := by
 cases lb with
 | none =>
   have hcs : cs = [] := h
   subst hcs
   have : n = 0 := by
     rcases Nat.mul_eq_zero.1 (show n * sz = 0 from hn) with h | h
     · exact h
     · omega
   subst this
   rfl
 | some b =>
   have h0 : ¬ n = 0 := fun e => h.2.2.2 (List.eq_nil_of_length_eq_zero (by rw [← hn, e, Nat.zero_mul]))
   simp only [svOf, srcC]
   rw [if_neg h0, cells_get h.1]
   simp only [Option.bind_some]
   rw [if_pos (by omega), List.drop_zero, List.take_of_length_le (by omega)]
theorem lbGo_len : ∀ T : List ByteArray, (lbGo T).1.length + (lbGo T).2.length ≤ T.length
 | [] => by simp [lbGo]
 | [x] => by simp [lbGo]
 | a :: c :: r => by
   simp only [lbGo]
   split
   · have := lbGo_len r
     simp only [List.length_cons]
     omega
   · simp
theorem lbGo_mem : ∀ T : List ByteArray, ∀ w ∈ (lbGo T).2, w ∈ T
 | [], w, h => h
 | [x], w, h => h
 | a :: c :: r, w, h => by
   simp only [lbGo] at h
   split at h
   · have := lbGo_mem r w h
     simp [this]
   · exact h
theorem rdV_lab {l : List ByteArray} {ws : List Int} {i : Ins} {lab : ByteArray} (h : rdV l = some (ws, i, lab)) (hl : ¬ lab = emp) : ws.length = 1 := by
 unfold rdV at h
 split at h
 · cases h; exact absurd rfl hl
 · split at h
   · split at h
     · cases h; exact absurd rfl hl
     · cases h
   · split at h
     · split at h
       · cases h; rfl
       · cases h
     · split at h
       · cases h; rfl
       · cases h
def st39 (n : Nat) (A mb : Nat) (H : Hp) (a : Asm) (wb tb : Option Nat) (v : Value) (r : Except Int Asm) : Prop :=
 match r with
 | .error e => ∃ H' p, evCall cfc (n+84) 14 [ptr A 0, v] H = some (.pan (faultP p), H') ∧ PanS H H' p a.line e
 | .ok a' => ∃ H' wb' tb', evCall cfc (n+84) 14 [ptr A 0, v] H = some (.ret (.tuple #[]), H') ∧ AsS H' A mb a' wb' tb' ∧ H.next ≤ H'.next ∧ H'.lim = H.lim ∧ (∀ b, b < H.next → b ≠ A → b ≠ mb → wb ≠ some b → tb ≠ some b → H'.get b = H.get b) ∧ (∀ b, wb' = some b → wb = some b ∨ H.next ≤ b) ∧ (∀ b, tb' = some b → tb = some b ∨ H.next ≤ b)
theorem v14 (n : Nat) (A mb : Nat) (H : Hp) (a : Asm) (wb tb : Option Nat) (v : Value) (T : List ByteArray) (hS : AsS H A mb a wb tb) (hv : SlI H v T) (hw : ∀ w ∈ T, w.size < n ∧ w.size ≤ 281474976710656) (hT : T.length < n) (hT2 : T.length ≤ 2147483648) : st39 n A mb H a wb tb v (oneV a T) := by
 have hlimN : H.lim ≤ H.next := by have := hS.lA; have := hS.nA; omega
 have hL0 : LpS H H [] none := ⟨fun _ _ => rfl, Nat.le_refl _, rfl, rfl⟩
 obtain ⟨H1, nb, v', l1, hL1, hv1⟩ := one_l1 (n+1) H hS.gn hlimN A T.length (n+83) T (Nat.le_refl _) (by omega) (fun w h => by have := hw w h; omega) H [] none v hL0 hv (by simp; omega)
 simp only [List.nil_append] at l1 hL1
 generalize hnames : (lbGo T).1 = names at l1 hL1
 have hnl : names.length ≤ T.length := by rw [← hnames]; have := lbGo_len T; omega
 have l1' : ∀ kx kr, lp (s14_b1 (evCall cfc (n+83)) (n+83)) (n+83) [ptr A 0, v, .slice none 0 0] H kx kr = kx 0 (Fr.of [0, 1, 4] [ptr A 0, v', svOf nb names.length 1]) H1 := l1
 have cell1 : H1.get A = some (.rw [svOf wb a.words.length 1, .map (some mb), svOf tb a.wants.length 8, .int .i64 a.line]) := by rw [hL1.old A hS.nA]; exact hS.cell
 have hv1' : SlI H1 v' (lbGo T).2 := by
   rcases hv1 with h | ⟨b, o, CL, e1, e2, e3, e4, e5⟩
   · exact .inl h
   · exact .inr ⟨b, o, CL, e1, by unfold Hp.cells; rw [hL1.old b e5]; exact e2, e3, e4, by have := hL1.next; omega⟩
 have h64 := v26 (n+1) H1 A v' a.line _ _ _ (lbGo T).2 hv1' (by rw [hL1.lim]; have := hL1.next; omega) (rwc_get cell1) (by have := hL1.next; have := hS.nA; omega) (fun w h => by have := hw w (lbGo_mem T w h); omega)
 unfold oneV
 rw [hnames]
 cases hrd : rdV (lbGo T).2 with
 | none =>
   rw [hrd] at h64
   obtain ⟨H', p, g1, g2⟩ := h64
   simp only [st39]
   refine ⟨H', p, ?_, ⟨g2.cell, by have := g2.new; have := hL1.next; omega, by rw [g2.lim, hL1.lim], fun b h1 h2 => by rw [g2.old b h1 (by have := hL1.next; omega)]; exact hL1.old b h2⟩⟩
   rw [q14]
   simp -implicitDefEqProofs only [s14, ↓GVdn, GVup, goInt, splice, okC, Fr.of, Fr.ofI, Fr.g, Nat.reduceAdd, Nat.reduceMul, Nat.reduceEqDiff, Nat.reduceLT, Nat.reduceLeDiff, Nat.reduceBEq, Int.reduceLT, Int.reduceLE, Int.reduceToNat, Int.reduceAdd, Int.reduceSub, Int.reduceMul, Int.reduceEq, Int.reduceNeg, ↓reduceIte, ↓reduceDIte, Nat.beq, reduceCtorEq, Value.int.injEq, Nat.reduceSub, l1', g1, callK_pan, pnK_eq]
 | some q =>
   obtain ⟨ws, i, lab⟩ := q
   rw [hrd] at h64
   obtain ⟨H2, sv, g1, g2⟩ := h64
   simp only
   have o2 : ∀ b, b < H.next → H2.get b = H.get b := fun b hb => by rw [g2.old b (by have := hL1.next; omega), hL1.old b hb]
   have n12 : H.next ≤ H1.next := hL1.next
   have n23 : H1.next ≤ H2.next := g2.next
   have nA := hS.nA
   have nm := hS.nm
   have lA := hS.lA
   have lm := hS.lm
   have lim2 : H2.lim = H.lim := by rw [g2.lim, hL1.lim]
   obtain ⟨rb, rfl, hrb⟩ := g2.row
   have cell2 : H2.get A = _ := (o2 A nA).trans hS.cell
   obtain ⟨es, ck, m1, m2⟩ := hS.mp
   have mp2 : H2.get mb = _ := (o2 mb nm).trans m1
   have wr2 : RowS H2 wb H.lim (wvs a.words) := row_keep hS.wr (fun b hb => o2 b (by have := hS.wr; subst hb; exact this.2.2.1)) (by omega)
   have tr2 : RowS H2 tb H.lim (wns a.wants) := row_keep hS.tr (fun b hb => o2 b (by have := hS.tr; subst hb; exact this.2.2.1)) (by omega)
   have nr2 : RowS H2 nb H.next (names.map Value.string) := row_keep hL1.row (fun b hb => g2.old b (by have := hL1.row; subst hb; exact this.2.2.1)) (by omega)
   have rr2 : RowS H2 rb H1.next (wvs ws) := by
     cases rb with
     | none => exact (by rw [show ws = [] from hrb]; rfl)
     | some b => exact ⟨get_rwc hrb.1, hrb.2.1, hrb.2.2.1, fun e => hrb.2.2.2 (List.map_eq_nil_iff.1 e)⟩
   have hwl := rdV_len hrd
   have hbw := hS.bw
   have st8 : st 8 (ptr H2.next 0) (wantV i lab) (H2.new (.rw Z8)) = some ((H2.new (.rw Z8)).set H2.next (.rw [.int .i64 0, .int .i64 0, .int .i64 i.op, .int .i64 i.A, .int .i64 i.B, .int .i64 i.C, .int .i64 i.I, .string lab])) :=
     st_rwc (H := H2.new (.rw Z8)) (b := H2.next) (o := 0) (n := 8) (cs := Z8) (v := wantV i lab) (vs := [.int .i64 0, .int .i64 0, .int .i64 i.op, .int .i64 i.A, .int .i64 i.B, .int .i64 i.C, .int .i64 i.I, .string lab]) (by rw [rwc_new, if_pos rfl]) (by show H2.lim ≤ H2.next; rw [lim2]; omega) rfl rfl (by decide) rfl
   have n4 : ((H2.new (.rw Z8)).set H2.next (.rw [.int .i64 0, .int .i64 0, .int .i64 i.op, .int .i64 i.A, .int .i64 i.B, .int .i64 i.C, .int .i64 i.I, .string lab])).next = H2.next + 1 := rfl
   have o4 : ∀ b, b < H2.next → ((H2.new (.rw Z8)).set H2.next (.rw [.int .i64 0, .int .i64 0, .int .i64 i.op, .int .i64 i.A, .int .i64 i.B, .int .i64 i.C, .int .i64 i.I, .string lab])).get b = H2.get b := fun b hb => by rw [Hp.get_set, if_neg (by omega), Hp.get_new, if_neg (by omega)]
   have w4 : ((H2.new (.rw Z8)).set H2.next (.rw [.int .i64 0, .int .i64 0, .int .i64 i.op, .int .i64 i.A, .int .i64 i.B, .int .i64 i.C, .int .i64 i.I, .string lab])).get H2.next = some (.rw [.int .i64 0, .int .i64 0, .int .i64 i.op, .int .i64 i.A, .int .i64 i.B, .int .i64 i.C, .int .i64 i.I, .string lab]) := by rw [Hp.get_set, if_pos rfl]
   have lim4 : ((H2.new (.rw Z8)).set H2.next (.rw [.int .i64 0, .int .i64 0, .int .i64 i.op, .int .i64 i.A, .int .i64 i.B, .int .i64 i.C, .int .i64 i.I, .string lab])).lim = H.lim := lim2
   have rlt : ∀ {lb : Option Nat} {lo : Nat} {cs : List Value}, RowS H2 lb lo cs → ∀ b, lb = some b → b < H2.next := fun h b e => by subst e; exact h.2.2.1
   generalize ((H2.new (.rw Z8)).set H2.next (.rw [.int .i64 0, .int .i64 0, .int .i64 i.op, .int .i64 i.A, .int .i64 i.B, .int .i64 i.C, .int .i64 i.I, .string lab])) = H4 at *
   have row4 : ∀ {lb : Option Nat} {lo : Nat} {cs : List Value}, RowS H2 lb lo cs → RowS H4 lb lo cs := fun h => row_keep h (fun b hb => o4 b (rlt h b hb)) (by omega)
   have hwv : ∀ H, len 1 (svOf wb a.words.length 1) H = some (.int .i64 a.words.length) := fun H => len_sv _ _ _ _ (row_none hS.wr)
   have hsv : ∀ H, len 1 (svOf rb ws.length 1) H = some (.int .i64 ws.length) := fun H => len_sv _ _ _ _ (row_none rr2)
   have hnn : ∀ H, len 1 (svOf nb names.length 1) H = some (.int .i64 names.length) := fun H => len_sv _ _ _ _ (row_none hL1.row)
   have hL4 : L2S H4 A mb (svOf wb a.words.length 1) (svOf tb a.wants.length 8) a.line a.labels names nb H.next :=
     ⟨hS.h12.2, by rw [lim4]; exact lm, hS.ne, (o4 A (by omega)).trans cell2, ⟨es, ck, (o4 mb (by omega)).trans mp2, m2⟩, row4 nr2⟩
   have l2 := one_l2 (n+82) A mb H2.next (svOf wb a.words.length 1) (svOf tb a.wants.length 8) (svOf rb ws.length 1) a.line a.words.length hwv names nb H.next (by omega) names.length 0 (n+83) (by omega) (by omega) H4 a.labels hL4
   rw [List.drop_zero] at l2
   cases had : addL a.labels a.words.length names with
   | none =>
     rw [had] at l2
     obtain ⟨H', p, i1, i2⟩ := l2
     simp only [st39]
     refine ⟨H', p, ?_, ⟨i2.cell, by have := i2.new; omega, by rw [i2.lim, lim4], fun b h1 h2 => by rw [i2.old b h1 (by omega), o4 b (by omega)]; exact o2 b h2⟩⟩
     have i1' : ∀ kx kr, lp (s14_b2 (evCall cfc (n+83)) (n+83)) (n+83) [ptr A 0, svOf rb ws.length 1, ptr H2.next 0, svOf nb names.length 1, .int .i64 names.length, .int .i64 0] H4 kx kr = some (.pan (faultP p), H') := i1
     rw [q14]
     simp only [Z8] at st8
     simp -implicitDefEqProofs only [s14, ↓GVdn, GVup, goInt, splice, okC, Fr.of, Fr.ofI, Fr.g, Nat.reduceAdd, Nat.reduceMul, Nat.reduceEqDiff, Nat.reduceLT, Nat.reduceLeDiff, Nat.reduceBEq, Int.reduceLT, Int.reduceLE, Int.reduceToNat, Int.reduceAdd, Int.reduceSub, Int.reduceMul, Int.reduceEq, Int.reduceNeg, ↓reduceIte, ↓reduceDIte, Nat.beq, reduceCtorEq, Value.int.injEq, Nat.reduceSub, l1', g1, st8, hnn, i1', callK_pan, pnK_eq]
   | some ls =>
     rw [had] at l2
     obtain ⟨H5, i1, hL5, n5, lim5, o5⟩ := l2
     have i1' : ∀ kx kr, lp (s14_b2 (evCall cfc (n+83)) (n+83)) (n+83) [ptr A 0, svOf rb ws.length 1, ptr H2.next 0, svOf nb names.length 1, .int .i64 names.length, .int .i64 0] H4 kx kr = kx 2 (Fr.of [0, 5, 6] [ptr A 0, svOf rb ws.length 1, ptr H2.next 0]) H5 := i1
     obtain ⟨es5, ck5, mp5, mr5⟩ := hL5.mp
     have mbne : ∀ {lb : Option Nat} {lo : Nat} {cs : List Value}, RowS H4 lb lo cs → lb ≠ some mb := fun h => row_ne h hL4.mp.choose_spec.choose_spec.1
     have row5 : ∀ {lb : Option Nat} {lo : Nat} {cs : List Value}, RowS H4 lb lo cs → RowS H5 lb lo cs := fun h => row_keep h (fun b hb => o5 b (fun e => mbne h (by rw [hb, e]))) (by omega)
     have wr5 := row5 (row4 wr2)
     have tr5 := row5 (row4 tr2)
     have rr5 := row5 (row4 rr2)
     have cell5 := hL5.cell
     have w5 : H5.get H2.next = _ := (o5 H2.next (by omega)).trans w4
     have l5 : H5.lim = H.lim := by rw [lim5, lim4]
     have cA5 := cells_get cell5
     have cW5 := cells_get w5
     have hsum : IntKind.wrap .i64 ((a.words.length : Int) + (ws.length : Int)) = ((a.words.length + ws.length : Nat) : Int) := by rw [IntWalk.i64_in _ (by omega)]; omega
     simp only
     by_cases hgt : 65536 < a.words.length + ws.length
     · rw [if_pos hgt]
       simp only [st39]
       have h36 := fun H x => v11 (n + 82) H x a.line 9
       have hgt' : (65536 < ((a.words.length + ws.length : Nat) : Int)) = True := eq_true (by omega)
       refine ⟨_, _, ?_, ⟨(by rw [rwc_new, if_pos rfl] : (H5.new (.rw [.int .i64 a.line, .iface 27 (.int .i64 9)])).rwc H5.next = _), by omega, l5, fun b h1 h2 => by rw [Hp.get_new, if_neg (by omega), o5 b (by have := hS.h12; omega), o4 b (by omega)]; exact o2 b h2⟩⟩
       rw [q14]
       simp only [Z8] at st8
       simp -implicitDefEqProofs only [s14, ↓GVdn, GVup, goInt, splice, okC, Fr.of, Fr.ofI, Fr.g, Nat.reduceAdd, Nat.reduceMul, Nat.reduceEqDiff, Nat.reduceLT, Nat.reduceLeDiff, Nat.reduceBEq, Int.reduceLT, Int.reduceLE, Int.reduceToNat, Int.reduceAdd, Int.reduceSub, Int.reduceMul, Int.reduceEq, Int.reduceNeg, ↓reduceIte, ↓reduceDIte, Nat.beq, reduceCtorEq, Value.int.injEq, Nat.reduceSub, opn_lim, l1', g1, st8, hnn, i1', cA5, hwv, hsv, hsum, hgt', h36, callK_pan, jn_pan, pnJ_eq, pnK_eq]
     · rw [if_neg hgt]
       have hgt' : (65536 < ((a.words.length + ws.length : Nat) : Int)) = False := eq_false (by omega)
       have AneW : A ≠ H2.next := by omega
       by_cases hlab : lab = emp
       · rw [if_pos hlab]
         have hlab' : (lab = ⟨#[]⟩) = True := eq_true hlab
         obtain ⟨H6, wb6, a1, a2, a3, a4, a5, a6⟩ := app_row (sz := 1) (by_ := 4) (H := H5) (n := a.words.length) (cs := wvs a.words) (lb := wb) (lo := H.lim) (by rw [wvs_len]; omega) wr5 (by rw [l5]; omega) (by omega) (by rw [l5]; exact hS.gn) (m := ws.length) (xs := wvs ws) (by cases ws <;> simp [wvs]) (by decide) (decide_eq_true ⟨by omega, by omega⟩) (wvs_ok ws)
         have wneA : wb ≠ some A := fun e => (hS.dw A e).1 rfl
         have cell6 : H6.get A = _ := (a5 A (by omega) wneA).trans cell5
         have srow := srcC_row (sz := 1) (n := ws.length) rr5 (by rw [wvs_len]; omega) (by decide)
         have fA : st 1 (ptr A 0) (svOf wb6 (a.words.length + ws.length) 1) H6 = some (H6.set A (.rw [svOf wb6 (a.words.length + ws.length) 1, .map (some mb), svOf tb a.wants.length 8, .int .i64 a.line])) :=
           st_rwc (o := 0) (n := 1) (rwc_get cell6) (by rw [a4, l5]; exact lA) (bx_sv _ _ _) rfl (by simp) (by simp [okC_sv])
         have wlt : ∀ b, wb = some b → b < H.next := fun b e => by have := hS.wr; subst e; exact this.2.2.1
         have tlt : ∀ b, tb = some b → b < H.next := fun b e => by have := hS.tr; subst e; exact this.2.2.1
         have wb6lt : ∀ b, wb6 = some b → H5.next ≤ b := fun b e => a6 b e
         simp only [st39]
         refine ⟨H6.set A (.rw [svOf wb6 (a.words.length + ws.length) 1, .map (some mb), svOf tb a.wants.length 8, .int .i64 a.line]), wb6, tb, ?_, ?_, ?_, ?_, ?_, ?_, ?_⟩
         · rw [q14]
           simp only [Z8] at st8
           simp -implicitDefEqProofs only [s14, ↓GVdn, GVup, goInt, splice, okC, Fr.of, Fr.ofI, Fr.g, Nat.reduceAdd, Nat.reduceMul, Nat.reduceEqDiff, Nat.reduceLT, Nat.reduceLeDiff, Nat.reduceBEq, Int.reduceLT, Int.reduceLE, Int.reduceToNat, Int.reduceAdd, Int.reduceSub, Int.reduceMul, Int.reduceEq, Int.reduceNeg, ↓reduceIte, ↓reduceDIte, Nat.beq, reduceCtorEq, Value.int.injEq, Nat.reduceSub, opn_lim, l1', g1, st8, hnn, i1', cA5, cW5, hwv, hsv, hsum, hgt', hlab', srow, a1, fA]
         · refine ⟨hS.h12, by show Tabs.gn ≤ H6.lim; rw [a4, l5]; exact hS.gn, by show H6.lim ≤ A; rw [a4, l5]; exact lA, by show H6.lim ≤ mb; rw [a4, l5]; exact lm, by show A < H6.next; omega, by show mb < H6.next; omega, hS.ne, ?_, ?_, ?_, ?_, ?_, ?_, ?_⟩
           · rw [Hp.get_set, if_pos rfl]
             simp
           · refine ⟨es5, ck5, ?_, mr5⟩
             rw [Hp.get_set, if_neg (fun e => hS.ne e.symm), a5 mb (by omega) (fun e => row_ne wr5 mp5 e)]
             exact mp5
           · have e : wvs (a.words ++ ws) = wvs a.words ++ wvs ws := by simp [wvs]
             show RowS _ wb6 H6.lim (wvs (a.words ++ ws))
             rw [e, a4, l5]
             exact row_set a2 _ (fun e => by have := wb6lt A e; omega)
           · show RowS _ tb H6.lim (wns a.wants)
             rw [a4, l5]
             exact row_set (row_keep tr5 (fun b hb => a5 b (by have := tlt b hb; omega) (fun e => (hS.dw b e).2 hb)) a3) _ (fun e => hS.dt A e rfl)
           · intro b hb
             have := wb6lt b hb
             exact ⟨by omega, fun e => by have := tlt b e; omega⟩
           · exact hS.dt
           · simp only [List.length_append]
             omega
         · show H.next ≤ H6.next; omega
         · show H6.lim = H.lim; rw [a4, l5]
         · intro b h1 h2 h3 h4 h5
           rw [Hp.get_set, if_neg h2, a5 b (by omega) h4, o5 b h3, o4 b (by omega)]
           exact o2 b h1
         · intro b hb
           have := wb6lt b hb
           exact .inr (by omega)
         · exact fun b hb => .inl hb
       · rw [if_neg hlab]
         have hlab' : (lab = ⟨#[]⟩) = False := eq_false hlab
         have hWA : (H2.next = A) = False := eq_false (by omega)
         have hAW : (A = H2.next) = False := eq_false (by omega)
         have hW5 : H2.next < H5.next := by omega
         have wlt : ∀ b, wb = some b → b < H.next := fun b e => by have := hS.wr; subst e; exact this.2.2.1
         have tlt : ∀ b, tb = some b → b < H.next := fun b e => by have := hS.tr; subst e; exact this.2.2.1
         have rlt5 : ∀ b, rb = some b → H1.next ≤ b ∧ b < H2.next := fun b e => by have := rr2; subst e; exact ⟨this.2.1, this.2.2.1⟩
         have fW1 : st 1 (ptr H2.next 0) (.int .i64 a.line) H5 = some (H5.set H2.next (.rw [.int .i64 a.line, .int .i64 0, .int .i64 i.op, .int .i64 i.A, .int .i64 i.B, .int .i64 i.C, .int .i64 i.I, .string lab])) :=
           st_rwc (o := 0) (n := 1) (vs := [.int .i64 a.line]) (rwc_get w5) (by rw [l5]; omega) rfl rfl (by simp) rfl
         have fW2 : st 1 (ptr H2.next 1) (.int .i64 a.words.length) (H5.set H2.next (.rw [.int .i64 a.line, .int .i64 0, .int .i64 i.op, .int .i64 i.A, .int .i64 i.B, .int .i64 i.C, .int .i64 i.I, .string lab])) = some ((H5.set H2.next (.rw [.int .i64 a.line, .int .i64 0, .int .i64 i.op, .int .i64 i.A, .int .i64 i.B, .int .i64 i.C, .int .i64 i.I, .string lab])).set H2.next (.rw [.int .i64 a.line, .int .i64 a.words.length, .int .i64 i.op, .int .i64 i.A, .int .i64 i.B, .int .i64 i.C, .int .i64 i.I, .string lab])) :=
           st_rwc (o := 1) (n := 1) (cs := [.int .i64 a.line, .int .i64 0, .int .i64 i.op, .int .i64 i.A, .int .i64 i.B, .int .i64 i.C, .int .i64 i.I, .string lab]) (vs := [.int .i64 a.words.length]) (by rw [rwc_set, if_pos rfl]) (by show H5.lim ≤ _; rw [l5]; omega) rfl rfl (by simp) rfl
         have oT : ∀ b, b < H5.next → b ≠ H2.next → (((H5.set H2.next (.rw [.int .i64 a.line, .int .i64 0, .int .i64 i.op, .int .i64 i.A, .int .i64 i.B, .int .i64 i.C, .int .i64 i.I, .string lab])).set H2.next (.rw [.int .i64 a.line, .int .i64 a.words.length, .int .i64 i.op, .int .i64 i.A, .int .i64 i.B, .int .i64 i.C, .int .i64 i.I, .string lab])).new (.rw [.int .i64 a.line, .int .i64 a.words.length, .int .i64 i.op, .int .i64 i.A, .int .i64 i.B, .int .i64 i.C, .int .i64 i.I, .string lab])).get b = H5.get b := fun b h1 h2 => by
           rw [Hp.get_new, if_neg (by show ¬ b = H5.next; omega), Hp.get_set, if_neg h2, Hp.get_set, if_neg h2]
         have nT : (((H5.set H2.next (.rw [.int .i64 a.line, .int .i64 0, .int .i64 i.op, .int .i64 i.A, .int .i64 i.B, .int .i64 i.C, .int .i64 i.I, .string lab])).set H2.next (.rw [.int .i64 a.line, .int .i64 a.words.length, .int .i64 i.op, .int .i64 i.A, .int .i64 i.B, .int .i64 i.C, .int .i64 i.I, .string lab])).new (.rw [.int .i64 a.line, .int .i64 a.words.length, .int .i64 i.op, .int .i64 i.A, .int .i64 i.B, .int .i64 i.C, .int .i64 i.I, .string lab])).next = H5.next + 1 := rfl
         have lT : (((H5.set H2.next (.rw [.int .i64 a.line, .int .i64 0, .int .i64 i.op, .int .i64 i.A, .int .i64 i.B, .int .i64 i.C, .int .i64 i.I, .string lab])).set H2.next (.rw [.int .i64 a.line, .int .i64 a.words.length, .int .i64 i.op, .int .i64 i.A, .int .i64 i.B, .int .i64 i.C, .int .i64 i.I, .string lab])).new (.rw [.int .i64 a.line, .int .i64 a.words.length, .int .i64 i.op, .int .i64 i.A, .int .i64 i.B, .int .i64 i.C, .int .i64 i.I, .string lab])).lim = H.lim := l5
         have gT : (((H5.set H2.next (.rw [.int .i64 a.line, .int .i64 0, .int .i64 i.op, .int .i64 i.A, .int .i64 i.B, .int .i64 i.C, .int .i64 i.I, .string lab])).set H2.next (.rw [.int .i64 a.line, .int .i64 a.words.length, .int .i64 i.op, .int .i64 i.A, .int .i64 i.B, .int .i64 i.C, .int .i64 i.I, .string lab])).new (.rw [.int .i64 a.line, .int .i64 a.words.length, .int .i64 i.op, .int .i64 i.A, .int .i64 i.B, .int .i64 i.C, .int .i64 i.I, .string lab])).get H5.next = some (.rw [.int .i64 a.line, .int .i64 a.words.length, .int .i64 i.op, .int .i64 i.A, .int .i64 i.B, .int .i64 i.C, .int .i64 i.I, .string lab]) := by rw [Hp.get_new]; exact if_pos rfl
         generalize hHT : ((H5.set H2.next (.rw [.int .i64 a.line, .int .i64 0, .int .i64 i.op, .int .i64 i.A, .int .i64 i.B, .int .i64 i.C, .int .i64 i.I, .string lab])).set H2.next (.rw [.int .i64 a.line, .int .i64 a.words.length, .int .i64 i.op, .int .i64 i.A, .int .i64 i.B, .int .i64 i.C, .int .i64 i.I, .string lab])).new (.rw [.int .i64 a.line, .int .i64 a.words.length, .int .i64 i.op, .int .i64 i.A, .int .i64 i.B, .int .i64 i.C, .int .i64 i.I, .string lab]) = HT at oT nT lT gT
         have rowT : ∀ {lb : Option Nat} {lo : Nat} {cs : List Value}, RowS H5 lb lo cs → (∀ b, lb = some b → b < H2.next) → RowS HT lb lo cs := fun h hl => row_keep h (fun b hb => oT b (by have := hl b hb; omega) (by have := hl b hb; omega)) (by omega)
         have srow8 : srcC 8 (.slice (some ⟨H5.next, 0, none⟩) 1 8) HT = some (1, [.int .i64 a.line, .int .i64 a.words.length, .int .i64 i.op, .int .i64 i.A, .int .i64 i.B, .int .i64 i.C, .int .i64 i.I, .string lab]) :=
           srcC_row (lb := some H5.next) (lo := 0) (sz := 8) (n := 1) ⟨gT, Nat.zero_le _, by omega, by simp⟩ rfl (by decide)
         obtain ⟨H6, tb6, t1, t2, t3, t4, t5, t6⟩ := app_row (sz := 8) (by_ := 72) (H := HT) (n := a.wants.length) (cs := wns a.wants) (lb := tb) (lo := H.lim) (wns_len _).symm (rowT tr5 (fun b e => by have := tlt b e; omega)) (by omega) (by omega) (by rw [lT]; exact hS.gn) (m := 1) (xs := [.int .i64 a.line, .int .i64 a.words.length, .int .i64 i.op, .int .i64 i.A, .int .i64 i.B, .int .i64 i.C, .int .i64 i.I, .string lab]) (by simp) (by decide) (decide_eq_true ⟨by omega, by omega⟩) rfl
         have tb6lt : ∀ b, tb6 = some b → H5.next + 1 ≤ b := fun b e => by have := t6 b e; omega
         have cell6 : H6.get A = _ := (t5 A (by omega) (fun e => hS.dt A e rfl)).trans ((oT A (by omega) AneW).trans cell5)
         have fT : st 1 (ptr A 2) (svOf tb6 (a.wants.length + 1) 8) H6 = some (H6.set A (.rw [svOf wb a.words.length 1, .map (some mb), svOf tb6 (a.wants.length + 1) 8, .int .i64 a.line])) :=
           st_rwc (o := 2) (n := 1) (rwc_get cell6) (by rw [t4, lT]; exact lA) (bx_sv _ _ _) rfl (by simp) (by simp [okC_sv])
         have o7 : ∀ b, b < H5.next → b ≠ H2.next → b ≠ A → tb ≠ some b → (H6.set A (.rw [svOf wb a.words.length 1, .map (some mb), svOf tb6 (a.wants.length + 1) 8, .int .i64 a.line])).get b = H5.get b := fun b h1 h2 h3 h4 => by
           rw [Hp.get_set, if_neg h3, t5 b (by omega) h4, oT b h1 h2]
         have c7 : (H6.set A (.rw [svOf wb a.words.length 1, .map (some mb), svOf tb6 (a.wants.length + 1) 8, .int .i64 a.line])).get A = some (.rw [svOf wb a.words.length 1, .map (some mb), svOf tb6 (a.wants.length + 1) 8, .int .i64 a.line]) := by rw [Hp.get_set, if_pos rfl]
         have l7 : (H6.set A (.rw [svOf wb a.words.length 1, .map (some mb), svOf tb6 (a.wants.length + 1) 8, .int .i64 a.line])).lim = H.lim := by show H6.lim = _; rw [t4, lT]
         have n7 : HT.next ≤ (H6.set A (.rw [svOf wb a.words.length 1, .map (some mb), svOf tb6 (a.wants.length + 1) 8, .int .i64 a.line])).next := t3
         have tr7 : RowS (H6.set A (.rw [svOf wb a.words.length 1, .map (some mb), svOf tb6 (a.wants.length + 1) 8, .int .i64 a.line])) tb6 H.lim (wns a.wants ++ [.int .i64 a.line, .int .i64 a.words.length, .int .i64 i.op, .int .i64 i.A, .int .i64 i.B, .int .i64 i.C, .int .i64 i.I, .string lab]) := row_set t2 _ (fun e => by have := tb6lt A e; omega)
         generalize hH7 : H6.set A (.rw [svOf wb a.words.length 1, .map (some mb), svOf tb6 (a.wants.length + 1) 8, .int .i64 a.line]) = H7 at fT o7 c7 l7 n7 tr7
         have wr7 : RowS H7 wb H.lim (wvs a.words) := row_keep wr5 (fun b hb => o7 b (by have := wlt b hb; omega) (by have := wlt b hb; omega) (hS.dw b hb).1 (hS.dw b hb).2) (by omega)
         have rr7 : RowS H7 rb H1.next (wvs ws) := row_keep rr5 (fun b hb => o7 b (by have := rlt5 b hb; omega) (by have := rlt5 b hb; omega) (by have := rlt5 b hb; omega) (fun e => by have := rlt5 b hb; have := tlt b e; omega)) (by omega)
         have mp7 : H7.get mb = _ := (o7 mb (by omega) (by omega) (fun e => hS.ne e.symm) (row_ne tr5 mp5)).trans mp5
         have srow := srcC_row (sz := 1) (n := ws.length) rr7 (by rw [wvs_len]; omega) (by decide)
         obtain ⟨H8, wb8, a1, a2, a3, a4, a5, a6⟩ := app_row (sz := 1) (by_ := 4) (H := H7) (n := a.words.length) (cs := wvs a.words) (lb := wb) (lo := H.lim) (by rw [wvs_len]; omega) wr7 (by rw [l7]; omega) (by omega) (by rw [l7]; exact hS.gn) (m := ws.length) (xs := wvs ws) (by cases ws <;> simp [wvs]) (by decide) (decide_eq_true ⟨by omega, by omega⟩) (wvs_ok ws)
         have wneA : wb ≠ some A := fun e => (hS.dw A e).1 rfl
         have wb8lt : ∀ b, wb8 = some b → H7.next ≤ b := fun b e => a6 b e
         have tb6u : ∀ b, tb6 = some b → b < H7.next := fun b e => by have := tr7; subst e; exact this.2.2.1
         have cell8 : H8.get A = _ := (a5 A (by omega) wneA).trans c7
         have fA : st 1 (ptr A 0) (svOf wb8 (a.words.length + ws.length) 1) H8 = some (H8.set A (.rw [svOf wb8 (a.words.length + ws.length) 1, .map (some mb), svOf tb6 (a.wants.length + 1) 8, .int .i64 a.line])) :=
           st_rwc (o := 0) (n := 1) (rwc_get cell8) (by rw [a4, l7]; exact lA) (bx_sv _ _ _) rfl (by simp) (by simp [okC_sv])
         have cA7 := cells_get c7
         simp only [st39]
         refine ⟨H8.set A (.rw [svOf wb8 (a.words.length + ws.length) 1, .map (some mb), svOf tb6 (a.wants.length + 1) 8, .int .i64 a.line]), wb8, tb6, ?_, ?_, ?_, ?_, ?_, ?_, ?_⟩
         · rw [q14]
           simp only [Z8] at st8
           simp -implicitDefEqProofs only [s14, ↓GVdn, GVup, goInt, splice, okC, Fr.of, Fr.ofI, Fr.g, Nat.reduceAdd, Nat.reduceMul, Nat.reduceEqDiff, Nat.reduceLT, Nat.reduceLeDiff, Nat.reduceBEq, Int.reduceLT, Int.reduceLE, Int.reduceToNat, Int.reduceAdd, Int.reduceSub, Int.reduceMul, Int.reduceEq, Int.reduceNeg, ↓reduceIte, ↓reduceDIte, Nat.beq, reduceCtorEq, Value.int.injEq, Nat.reduceSub, opn_lim, l1', g1, st8, hnn, i1', cA5, cW5, cA7, hwv, hsv, hsum, hgt', hlab', hWA, hAW, fW1, fW2, rep, List.replicate, List.flatten_cons, List.flatten_nil, hHT, srow8, t1, fT, srow, a1, fA]
         · refine ⟨hS.h12, by show Tabs.gn ≤ H8.lim; rw [a4, l7]; exact hS.gn, by show H8.lim ≤ A; rw [a4, l7]; exact lA, by show H8.lim ≤ mb; rw [a4, l7]; exact lm, by show A < H8.next; omega, by show mb < H8.next; omega, hS.ne, ?_, ?_, ?_, ?_, ?_, ?_, ?_⟩
           · rw [Hp.get_set, if_pos rfl]
             simp
           · refine ⟨es5, ck5, ?_, mr5⟩
             rw [Hp.get_set, if_neg (fun e => hS.ne e.symm), a5 mb (by omega) (fun e => row_ne wr5 mp5 e)]
             exact mp7
           · have e : wvs (a.words ++ ws) = wvs a.words ++ wvs ws := by simp [wvs]
             show RowS _ wb8 H8.lim (wvs (a.words ++ ws))
             rw [e, a4, l7]
             exact row_set a2 _ (fun e => by have := wb8lt A e; omega)
           · have e : wns (a.wants ++ [⟨a.line, a.words.length, i, lab⟩]) = wns a.wants ++ [.int .i64 a.line, .int .i64 a.words.length, .int .i64 i.op, .int .i64 i.A, .int .i64 i.B, .int .i64 i.C, .int .i64 i.I, .string lab] := by simp [wns, Want.cells]
             show RowS _ tb6 H8.lim (wns (a.wants ++ [⟨a.line, a.words.length, i, lab⟩]))
             rw [e, a4, l7]
             exact row_set (row_keep tr7 (fun b hb => a5 b (tb6u b hb) (fun e => by have := wlt b e; have := tb6lt b hb; omega)) a3) _ (fun e => by have := tb6lt A e; omega)
           · intro b hb
             have := wb8lt b hb
             exact ⟨by omega, fun e => by have := tb6u b e; omega⟩
           · intro b hb
             have := tb6lt b hb
             omega
           · simp only [List.length_append, List.length_cons, List.length_nil]
             have h1 : ws.length = 1 := rdV_lab hrd hlab
             omega
         · show H.next ≤ H8.next; omega
         · show H8.lim = H.lim; rw [a4, l7]
         · intro b h1 h2 h3 h4 h5
           rw [Hp.get_set, if_neg h2, a5 b (by omega) h4, o7 b (by omega) (by omega) h2 h5, o5 b h3, o4 b (by omega)]
           exact o2 b h1
         · intro b hb
           have := wb8lt b hb
           exact .inr (by omega)
         · intro b hb
           have := tb6lt b hb
           exact .inr (by omega)
end Go.Proofs.YtbaooebafijenaaGreatDoor
