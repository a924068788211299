/- A line put in. -/
import Derived.Test.YtbaooebafijenaaGreatDoorHRead
import Derived.Test.YtbaooebafijenaaGreatDoorHMin
import Derived.Test.YtbaooebafijenaaGreatDoorHvBun
namespace Go.Proofs.YtbaooebafijenaaGreatDoor
open Go Go.Ev
set_option maxRecDepth 100000
set_option linter.unusedSimpArgs false
set_option linter.unusedVariables false
set_option maxHeartbeats 2000000
set_option linter.unusedSectionVars false
variable [Mx]
attribute [local congr] bind_front callK_front jn_front ifB_front ifG_front lp_front
/-! ### The assembler's memory -/
structure Want where
  line : Int
  at_ : Int
  i : Ins
  lab : ByteArray
def Want.cells (w : Want) : List Value := [.int .i64 w.line, .int .i64 w.at_, .int .i64 w.i.op, .int .i64 w.i.A, .int .i64 w.i.B, .int .i64 w.i.C, .int .i64 w.i.I, .string w.lab]
structure Asm where
  words : List Int
  labels : List (ByteArray × Int)
  wants : List Want
  line : Int
def wvs (l : List Int) : List Value := l.map fun w => .int .u32 w
theorem wvs_len (l : List Int) : (wvs l).length = l.length := by simp [wvs]
def wns (l : List Want) : List Value := l.flatMap Want.cells
theorem wns_len (l : List Want) : (wns l).length = l.length * 8 := by
  induction l with
  | nil => rfl
  | cons w l ih =>
    have e : wns (w :: l) = w.cells ++ wns l := rfl
    rw [e, List.length_append, ih, List.length_cons]
    have : w.cells.length = 8 := rfl
    omega
def findL (k : ByteArray) : List (ByteArray × Int) → Option Int
  | [] => none
  | p :: l => if k = p.1 then some p.2 else findL k l
def MR (es : List MapEntry) (ls : List (ByteArray × Int)) : Prop := es.map (fun e => (e.key, e.val)) = ls.map fun p => (Value.string p.1, Value.int .i64 p.2)
theorem beq_bytes (a b : ByteArray) : (a.data.toList == b.data.toList) = decide (a = b) := by
  by_cases h : a = b
  · subst h; simp
  · rw [decide_eq_false h]
    exact beq_false_of_ne fun e => h (bytes_inj e)
theorem findE_MR (k : ByteArray) : ∀ (es : List MapEntry) (ls : List (ByteArray × Int)) (i : Nat), MR es ls → ∃ r, findE true (.string k) es i = some r ∧ match findL k ls with | none => r = none | some z => ∃ j, r = some (j, .int .i64 z)
  | [], [], i, _ => ⟨none, rfl, rfl⟩
  | [], p :: ls, i, h => by cases h
  | e :: es, [], i, h => by cases h
  | e :: es, p :: ls, i, h => by
    simp only [MR, List.map_cons, List.cons.injEq, Prod.mk.injEq] at h
    obtain ⟨⟨h1, h2⟩, h3⟩ := h
    simp only [findE, findL, h1, keyEq, beq_bytes]
    by_cases hk : k = p.1
    · rw [decide_eq_true hk, if_pos hk, h2]
      exact ⟨_, rfl, i, rfl⟩
    · rw [decide_eq_false hk, if_neg hk]
      exact findE_MR k es ls (i + 1) h3
theorem lkup_MR {H : Hp} {m : Nat} {es : List MapEntry} {ck : Nat} {ls : List (ByteArray × Int)} (h : H.get m = some (.mp es ck)) (hM : MR es ls) (k : ByteArray) :
    lkup true (.int .i64 0) true (.map (some m)) (.string k) H = some (match findL k ls with | none => .tuple #[.int .i64 0, .bool false] | some z => .tuple #[.int .i64 z, .bool true]) := by
  obtain ⟨r, h1, h2⟩ := findE_MR k es ls 0 hM
  simp only [lkup, entries, h, Option.bind_some, h1, Option.map_some]
  cases hf : findL k ls with
  | none => rw [hf] at h2; simp only at h2; subst h2; rfl
  | some z => rw [hf] at h2; simp only at h2; obtain ⟨j, rfl⟩ := h2; rfl
theorem mupd_MR {H : Hp} {m : Nat} {es : List MapEntry} {ck : Nat} {ls : List (ByteArray × Int)} (h : H.get m = some (.mp es ck)) (hM : MR es ls) (hl : H.lim ≤ m) (k : ByteArray) (hk : findL k ls = none) (z : Int) :
    ∃ es', mupd true (.map (some m)) (.string k) (.int .i64 z) H = some (H.set m (.mp es' (ck + 1))) ∧ MR es' (ls ++ [(k, z)]) := by
  obtain ⟨r, h1, h2⟩ := findE_MR k es ls 0 hM
  rw [hk] at h2
  simp only at h2
  subst h2
  refine ⟨es ++ [{ key := .string k, val := .int .i64 z, born := ck }], ?_, ?_⟩
  · simp only [mupd, h, h1, Option.map_some]
    rw [if_pos ⟨hl, rfl⟩]
  · unfold MR at hM ⊢
    simp [hM]
theorem len_sv (lb : Option Nat) (n sz : Nat) (H : Hp) (h : lb = none → n = 0) : len 1 (svOf lb n sz) H = some (.int .i64 n) := by
  cases lb with
  | none => rw [h rfl]; rfl
  | some b => rfl
structure AsS (H : Hp) (A mb : Nat) (a : Asm) (wb tb : Option Nat) : Prop where
  h12 : 13 ≤ A ∧ 13 ≤ mb
  gn : Tabs.gn ≤ H.lim
  lA : H.lim ≤ A
  lm : H.lim ≤ mb
  nA : A < H.next
  nm : mb < H.next
  ne : A ≠ mb
  cell : H.get A = some (.rw [svOf wb a.words.length 1, .map (some mb), svOf tb a.wants.length 8, .int .i64 a.line])
  mp : ∃ es ck, H.get mb = some (.mp es ck) ∧ MR es a.labels
  wr : RowS H wb H.lim (wvs a.words)
  tr : RowS H tb H.lim (wns a.wants)
  dw : ∀ b, wb = some b → b ≠ A ∧ tb ≠ some b
  dt : ∀ b, tb = some b → b ≠ A
  bw : a.words.length ≤ 65536 ∧ a.wants.length ≤ a.words.length
/-! ### The labels ahead of a line -/
def colon : ByteArray := ⟨#[58]⟩
def lbGo : List ByteArray → List ByteArray × List ByteArray
  | a :: c :: r => if c = colon ∧ labelV a = true then (a :: (lbGo r).1, (lbGo r).2) else ([], a :: c :: r)
  | l => ([], l)
theorem SlI.len {H : Hp} {v : Value} {T : List ByteArray} (h : SlI H v T) (H' : Hp) : Go.Ev.len 1 v H' = some (.int .i64 T.length) := by
  rcases h with ⟨rfl, rfl⟩ | ⟨b, o, CL, rfl, _⟩ <;> rfl
structure LpS (H0 H : Hp) (names : List ByteArray) (nb : Option Nat) : Prop where
  old : ∀ b, b < H0.next → H.get b = H0.get b
  next : H0.next ≤ H.next
  lim : H.lim = H0.lim
  row : RowS H nb H0.next (names.map Value.string)
theorem row_none {H : Hp} {lb : Option Nat} {lo : Nat} {α : Type} {l : List α} {f : α → Value} (h : RowS H lb lo (l.map f)) : lb = none → l.length = 0 := by
  intro e
  subst e
  have h : l.map f = [] := h
  simpa using congrArg List.length h
theorem okC_strs (l : List ByteArray) : (l.map Value.string).all okC = true := by
  induction l with
  | nil => rfl
  | cons x l ih => rw [List.map_cons, List.all_cons, ih]; rfl
theorem one_l1 (n : Nat) (H0 : Hp) (hgn : Tabs.gn ≤ H0.lim) (hlim : H0.lim ≤ H0.next) (A : Nat) : ∀ (k m : Nat) (T : List ByteArray), T.length ≤ k → k < m → (∀ w ∈ T, w.size < n ∧ w.size ≤ 281474976710656) → ∀ (H : Hp) (names : List ByteArray) (nb : Option Nat) (v : Value), LpS H0 H names nb → SlI H0 v T → names.length + T.length ≤ 4294967296 →
    ∃ H' nb' v', (∀ (kx : Nat → Fr → Hp → Option (Out × Hp)) (kr : Fr → Hp → Option (Out × Hp)), lp (s14_b1 (evCall cfc (n+82)) (n+82)) m [ptr A 0, v, svOf nb names.length 1] H kx kr = kx 0 (Fr.of [0, 1, 4] [ptr A 0, v', svOf nb' (names ++ (lbGo T).1).length 1]) H') ∧
      LpS H0 H' (names ++ (lbGo T).1) nb' ∧ SlI H0 v' (lbGo T).2 := by
  intro k
  induction k with
  | zero =>
    intro m T hT hm hw H names nb v hL hv hsz
    obtain ⟨m, rfl⟩ : ∃ q, m = q + 1 := ⟨m - 1, by omega⟩
    have hT0 : T = [] := List.eq_nil_of_length_eq_zero (by omega)
    subst hT0
    have hlen := hv.len
    simp only [lbGo, List.append_nil]
    refine ⟨H, nb, v, fun kx kr => ?_, hL, hv⟩
    have h2 : ((2 : Int) ≤ (([] : List ByteArray).length : Int)) = False := eq_false (by simp)
    rw [lp_succ]
    simp -implicitDefEqProofs only [s14_b1, ↓GVdn, GVup, goInt, splice, okC, Fr.of, Fr.ofI, Fr.g, Nat.reduceAdd, Nat.reduceMul, Nat.reduceEqDiff, Nat.reduceLT, Nat.reduceLeDiff, Nat.reduceBEq, Int.reduceLT, Int.reduceLE, Int.reduceToNat, Int.reduceAdd, Int.reduceSub, Int.reduceMul, Int.reduceEq, Int.reduceNeg, ↓reduceIte, ↓reduceDIte, Nat.beq, reduceCtorEq, Value.int.injEq, Nat.reduceSub, sto_ptr, hlen, h2]
  | succ k ih =>
    intro m T hT hm hw H names nb v hL hv hsz
    obtain ⟨m, rfl⟩ : ∃ q, m = q + 1 := ⟨m - 1, by omega⟩
    have hlen := hv.len
    match T, hT, hw, hv, hsz with
    | [], _, _, hv, _ =>
      simp only [lbGo, List.append_nil]
      refine ⟨H, nb, v, fun kx kr => ?_, hL, hv⟩
      have h2 : ((2 : Int) ≤ (([] : List ByteArray).length : Int)) = False := eq_false (by simp)
      have hlen := hv.len
      rw [lp_succ]
      simp -implicitDefEqProofs only [s14_b1, ↓GVdn, GVup, goInt, splice, okC, Fr.of, Fr.ofI, Fr.g, Nat.reduceAdd, Nat.reduceMul, Nat.reduceEqDiff, Nat.reduceLT, Nat.reduceLeDiff, Nat.reduceBEq, Int.reduceLT, Int.reduceLE, Int.reduceToNat, Int.reduceAdd, Int.reduceSub, Int.reduceMul, Int.reduceEq, Int.reduceNeg, ↓reduceIte, ↓reduceDIte, Nat.beq, reduceCtorEq, Value.int.injEq, Nat.reduceSub, sto_ptr, hlen, h2]
    | [x], _, _, hv, _ =>
      simp only [lbGo, List.append_nil]
      refine ⟨H, nb, v, fun kx kr => ?_, hL, hv⟩
      have h2 : ((2 : Int) ≤ (([x] : List ByteArray).length : Int)) = False := eq_false (by simp)
      have hlen := hv.len
      rw [lp_succ]
      simp -implicitDefEqProofs only [s14_b1, ↓GVdn, GVup, goInt, splice, okC, Fr.of, Fr.ofI, Fr.g, Nat.reduceAdd, Nat.reduceMul, Nat.reduceEqDiff, Nat.reduceLT, Nat.reduceLeDiff, Nat.reduceBEq, Int.reduceLT, Int.reduceLE, Int.reduceToNat, Int.reduceAdd, Int.reduceSub, Int.reduceMul, Int.reduceEq, Int.reduceNeg, ↓reduceIte, ↓reduceDIte, Nat.beq, reduceCtorEq, Value.int.injEq, Nat.reduceSub, sto_ptr, hlen, h2]
    | a :: c :: r, hT, hw, hv, hsz =>
      have hv0 := hv
      obtain ⟨_, h0⟩ | ⟨b, o, CL, rfl, hc, hr, hl, hb⟩ := hv
      · cases h0
      have hcl : H.cells b = some CL := by
        unfold Hp.cells
        rw [hL.old b hb]
        exact hc
      have g0 : CL[o]? = some (.string a) := by
        have := sl_get (j := 0) hr (by simp)
        rw [Nat.add_zero] at this
        rw [this, List.getD_cons_zero]
      have g1 : CL[o + 1]? = some (.string c) := by
        have := sl_get (j := 1) hr (by simp)
        rw [this, List.getD_cons_succ, List.getD_cons_zero]
      have h2 : ((2 : Int) ≤ ((r.length + 1 + 1 : Nat) : Int)) = True := eq_true (by omega)
      have h3 : ((1 : Int) < ((r.length + 1 + 1 : Nat) : Int)) = True := eq_true (by omega)
      have h4 : ((0 : Int) < ((r.length + 1 + 1 : Nat) : Int)) = True := eq_true (by omega)
      simp only [lbGo]
      by_cases hcc : c = colon
      · subst hcc
        have hwa := hw a (by simp)
        have h52 := fun H => v25 (n + 81) a (by omega) (by omega) H
        cases hla : labelV a with
        | true =>
          rw [hla] at h52
          rw [if_pos ⟨rfl, rfl⟩]
          have hnx : (H.new (.rw [.string a])).next = H.next + 1 := rfl
          obtain ⟨H2, nb2, a1, a2, a3, a4, a5, a6⟩ := app_row (sz := 1) (by_ := 16) (H := H.new (.rw [.string a])) (n := names.length) (cs := names.map Value.string) (lb := nb) (lo := H0.next) (by simp)
            (by have hrow := hL.row
                cases nb with
                | none => exact hrow
                | some l => exact ⟨by rw [Hp.get_new, if_neg (by have := hrow.2.2.1; omega)]; exact hrow.1, hrow.2.1, by have := hrow.2.2.1; rw [hnx]; omega, hrow.2.2.2⟩)
            (by show H.lim ≤ H0.next; rw [hL.lim]; exact hlim) (by have := hL.next; rw [hnx]; omega) (by show Tabs.gn ≤ H.lim; rw [hL.lim]; exact hgn) (m := 1) (xs := [.string a]) (by simp) (by decide) (roomy16 (by simp at hsz; omega)) rfl
          have hrowb := hL.row
          have hL2 : LpS H0 H2 (names ++ [a]) nb2 := by
            refine ⟨fun b hb => ?_, by have := hL.next; rw [hnx] at a3; omega, by rw [a4]; exact hL.lim, by simpa using a2⟩
            rw [a5 b (by have := hL.next; rw [hnx]; omega) (fun e => by subst e; have := hrowb.2.1; omega), Hp.get_new, if_neg (by have := hL.next; omega)]
            exact hL.old b hb
          have hv2 : SlI H0 (.slice (some ⟨b, o + 2, none⟩) r.length 1) r := by
            refine .inr ⟨b, o + 2, CL, rfl, hc, ?_, by simp at hl; omega, hb⟩
            have := congrArg (List.drop 2) hr
            rw [List.drop_take, List.drop_drop] at this
            simpa using this
          obtain ⟨H', nb', v', i1, i2, i3⟩ := ih m r (by simp at hT; omega) (by omega) (fun w hw' => hw w (by simp [hw'])) H2 (names ++ [a]) nb2 _ hL2 hv2 (by simp at hsz ⊢; omega)
          rw [List.append_assoc, List.singleton_append] at i1 i2
          refine ⟨H', nb', v', fun kx kr => ?_, i2, i3⟩
          have i1' := i1 kx kr
          rw [lp_succ]
          simp only [List.length_append, List.length_cons, List.length_nil] at i1' ⊢
          have e5 : ((2 : Int) ≤ ((r.length + 1 + 1 : Nat) : Int) ∧ ((r.length + 1 + 1 : Nat) : Int) ≤ ((r.length + 1 + 1 : Nat) : Int)) = True := eq_true (by omega)
          have e6 : r.length + 1 + 1 - 2 = r.length := by omega
          simp -implicitDefEqProofs only [s14_b1, ↓GVdn, GVup, goInt, splice, okC, Fr.of, Fr.ofI, Fr.g, Nat.reduceAdd, Nat.reduceMul, Nat.reduceEqDiff, Nat.reduceLT, Nat.reduceLeDiff, Nat.reduceBEq, Int.reduceLT, Int.reduceLE, Int.reduceToNat, Int.reduceAdd, Int.reduceSub, Int.reduceMul, Int.reduceEq, Int.reduceNeg, ↓reduceIte, ↓reduceDIte, Nat.beq, reduceCtorEq, Value.int.injEq, Nat.reduceSub, sto_ptr, opn_lim, List.length_cons, hcl, g0, g1, h2, h3, h4, colon, h52, rep, List.replicate, List.flatten_cons, List.flatten_nil, srcC_new, a1, e5, e6, i1']
        | false =>
          rw [hla] at h52
          rw [if_neg (by simp)]
          simp only [List.append_nil]
          refine ⟨H, nb, _, fun kx kr => ?_, hL, hv0⟩
          rw [lp_succ]
          simp -implicitDefEqProofs only [s14_b1, ↓GVdn, GVup, goInt, splice, okC, Fr.of, Fr.ofI, Fr.g, Nat.reduceAdd, Nat.reduceMul, Nat.reduceEqDiff, Nat.reduceLT, Nat.reduceLeDiff, Nat.reduceBEq, Int.reduceLT, Int.reduceLE, Int.reduceToNat, Int.reduceAdd, Int.reduceSub, Int.reduceMul, Int.reduceEq, Int.reduceNeg, ↓reduceIte, ↓reduceDIte, Nat.beq, reduceCtorEq, Value.int.injEq, Nat.reduceSub, sto_ptr, opn_lim, List.length_cons, hcl, g0, g1, h2, h3, h4, colon, h52]
      · rw [if_neg (fun h => hcc h.1)]
        simp only [List.append_nil]
        refine ⟨H, nb, _, fun kx kr => ?_, hL, hv0⟩
        have hcc' : (c = ⟨#[58]⟩) = False := eq_false hcc
        rw [lp_succ]
        simp -implicitDefEqProofs only [s14_b1, ↓GVdn, GVup, goInt, splice, okC, Fr.of, Fr.ofI, Fr.g, Nat.reduceAdd, Nat.reduceMul, Nat.reduceEqDiff, Nat.reduceLT, Nat.reduceLeDiff, Nat.reduceBEq, Int.reduceLT, Int.reduceLE, Int.reduceToNat, Int.reduceAdd, Int.reduceSub, Int.reduceMul, Int.reduceEq, Int.reduceNeg, ↓reduceIte, ↓reduceDIte, Nat.beq, reduceCtorEq, Value.int.injEq, Nat.reduceSub, sto_ptr, opn_lim, List.length_cons, hcl, g0, g1, h2, h3, h4, hcc']
end Go.Proofs.YtbaooebafijenaaGreatDoor
