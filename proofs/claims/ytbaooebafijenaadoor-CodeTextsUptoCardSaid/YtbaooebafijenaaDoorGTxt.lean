/- An instruction's text. -/
import Derived.Test.YtbaooebafijenaaDoorGInsV
import Derived.Test.YtbaooebafijenaaDoorGvBun
namespace Go.Proofs.YtbaooebafijenaaDoor
open Go Go.Ev
set_option maxRecDepth 100000
set_option linter.unusedSimpArgs false
set_option linter.unusedVariables false
set_option maxHeartbeats 2000000
set_option linter.unusedSectionVars false
variable [Mx]
attribute [local congr] bind_front callK_front jn_front ifB_front ifG_front lp_front
theorem bin_sadd (q : Nat) (a b : ByteArray) (h : a.size + b.size ≤ 9223372036854775807) : bin q .add (.string a) (.string b) = some (.string (a ++ b)) := by
  show binS .add a b = _
  simp only [binS]
  rw [if_neg]
  show ¬ (((a.size + b.size : Nat) : Int) > 9223372036854775807)
  omega
def Ins.get (i : Ins) (c : Nat) : Int := if c = 97 ∨ c = 65 then i.A else if c = 98 ∨ c = 66 then i.B else if c = 99 ∨ c = 67 then i.C else i.I
/-- an operand's text -/
def opdV (i : Ins) (c : Nat) : ByteArray := if c = 105 then itoaB (i.get c) else if c < 97 then ⟨#[102]⟩ ++ itoaB (i.get c) else ⟨#[114]⟩ ++ itoaB (i.get c)
theorem digF_len : ∀ (f u : Nat), (digF f u).length ≤ f
  | 0, _ => Nat.le_refl _
  | f + 1, u => by
    simp only [digF]
    split
    · simp
    · have := digF_len f (u / 10)
      simp; omega
theorem itoaB_size (z : Int) : (itoaB z).size ≤ 21 := by
  show (itoaF z).toArray.size ≤ 21
  unfold itoaF
  have h1 := digF_len 20 z.natAbs
  have h2 := digF_len 20 z.toNat
  split <;> simp <;> omega
theorem opdV_size (i : Ins) (c : Nat) : (opdV i c).size ≤ 22 := by
  have h := itoaB_size (i.get c)
  unfold opdV
  split
  · omega
  · split
    · rw [ByteArray.size_append]
      have : (⟨#[102]⟩ : ByteArray).size = 1 := rfl
      omega
    · rw [ByteArray.size_append]
      have : (⟨#[114]⟩ : ByteArray).size = 1 := rfl
      omega
/-- the place of an operand among an instruction's fields -/
def offV (c : Nat) : Nat := if c = 97 ∨ c = 65 then 1 else if c = 98 ∨ c = 66 then 2 else if c = 99 ∨ c = 67 then 3 else 4
theorem v23g (n : Nat) {H : Hp} {b : Nat} {i : Ins} (hb : H.cells b = some i.cells) (c : Nat) (hc : shpC c) :
    ∃ lo hi, evCall cfc (n+4) 23 [ptr b 0, .int .u8 c] H = some (.ret (.tuple #[ptr b (offV c), .int .i64 lo, .int .i64 hi]), H) := by
  have c42 := v42 (n+1) H
  simp only [Ins.cells] at hb
  rcases hc with rfl | rfl | rfl | rfl | rfl | rfl | rfl
  · exact ⟨0, 15, by rw [q23]; simp -implicitDefEqProofs only [s23, ↓GVdn, GVup, goInt, splice, okC, Fr.of, Fr.ofI, Fr.g, Nat.reduceAdd, Nat.reduceMul, Nat.reduceEqDiff, Nat.reduceLT, Nat.reduceLeDiff, Nat.reduceBEq, Int.reduceLT, Int.reduceLE, Int.reduceToNat, Int.reduceAdd, Int.reduceSub, Int.reduceMul, Int.reduceEq, Int.reduceNeg, ↓reduceIte, ↓reduceDIte, Nat.beq, reduceCtorEq, Value.int.injEq, Nat.reduceSub, sto_ptr, lp_succ, offV, hb, c42, false_or, or_false, true_or, or_true]⟩
  · exact ⟨0, 15, by rw [q23]; simp -implicitDefEqProofs only [s23, ↓GVdn, GVup, goInt, splice, okC, Fr.of, Fr.ofI, Fr.g, Nat.reduceAdd, Nat.reduceMul, Nat.reduceEqDiff, Nat.reduceLT, Nat.reduceLeDiff, Nat.reduceBEq, Int.reduceLT, Int.reduceLE, Int.reduceToNat, Int.reduceAdd, Int.reduceSub, Int.reduceMul, Int.reduceEq, Int.reduceNeg, ↓reduceIte, ↓reduceDIte, Nat.beq, reduceCtorEq, Value.int.injEq, Nat.reduceSub, sto_ptr, lp_succ, offV, hb, c42, false_or, or_false, true_or, or_true]⟩
  · exact ⟨0, 15, by rw [q23]; simp -implicitDefEqProofs only [s23, ↓GVdn, GVup, goInt, splice, okC, Fr.of, Fr.ofI, Fr.g, Nat.reduceAdd, Nat.reduceMul, Nat.reduceEqDiff, Nat.reduceLT, Nat.reduceLeDiff, Nat.reduceBEq, Int.reduceLT, Int.reduceLE, Int.reduceToNat, Int.reduceAdd, Int.reduceSub, Int.reduceMul, Int.reduceEq, Int.reduceNeg, ↓reduceIte, ↓reduceDIte, Nat.beq, reduceCtorEq, Value.int.injEq, Nat.reduceSub, sto_ptr, lp_succ, offV, hb, c42, false_or, or_false, true_or, or_true]⟩
  · exact ⟨0, 7, by rw [q23]; simp -implicitDefEqProofs only [s23, ↓GVdn, GVup, goInt, splice, okC, Fr.of, Fr.ofI, Fr.g, Nat.reduceAdd, Nat.reduceMul, Nat.reduceEqDiff, Nat.reduceLT, Nat.reduceLeDiff, Nat.reduceBEq, Int.reduceLT, Int.reduceLE, Int.reduceToNat, Int.reduceAdd, Int.reduceSub, Int.reduceMul, Int.reduceEq, Int.reduceNeg, ↓reduceIte, ↓reduceDIte, Nat.beq, reduceCtorEq, Value.int.injEq, Nat.reduceSub, sto_ptr, lp_succ, offV, hb, c42, false_or, or_false, true_or, or_true]⟩
  · exact ⟨0, 7, by rw [q23]; simp -implicitDefEqProofs only [s23, ↓GVdn, GVup, goInt, splice, okC, Fr.of, Fr.ofI, Fr.g, Nat.reduceAdd, Nat.reduceMul, Nat.reduceEqDiff, Nat.reduceLT, Nat.reduceLeDiff, Nat.reduceBEq, Int.reduceLT, Int.reduceLE, Int.reduceToNat, Int.reduceAdd, Int.reduceSub, Int.reduceMul, Int.reduceEq, Int.reduceNeg, ↓reduceIte, ↓reduceDIte, Nat.beq, reduceCtorEq, Value.int.injEq, Nat.reduceSub, sto_ptr, lp_succ, offV, hb, c42, false_or, or_false, true_or, or_true]⟩
  · exact ⟨0, 7, by rw [q23]; simp -implicitDefEqProofs only [s23, ↓GVdn, GVup, goInt, splice, okC, Fr.of, Fr.ofI, Fr.g, Nat.reduceAdd, Nat.reduceMul, Nat.reduceEqDiff, Nat.reduceLT, Nat.reduceLeDiff, Nat.reduceBEq, Int.reduceLT, Int.reduceLE, Int.reduceToNat, Int.reduceAdd, Int.reduceSub, Int.reduceMul, Int.reduceEq, Int.reduceNeg, ↓reduceIte, ↓reduceDIte, Nat.beq, reduceCtorEq, Value.int.injEq, Nat.reduceSub, sto_ptr, lp_succ, offV, hb, c42, false_or, or_false, true_or, or_true]⟩
  · exact ⟨lowV i.op, highV i.op, by rw [q23]; simp -implicitDefEqProofs only [s23, ↓GVdn, GVup, goInt, splice, okC, Fr.of, Fr.ofI, Fr.g, Nat.reduceAdd, Nat.reduceMul, Nat.reduceEqDiff, Nat.reduceLT, Nat.reduceLeDiff, Nat.reduceBEq, Int.reduceLT, Int.reduceLE, Int.reduceToNat, Int.reduceAdd, Int.reduceSub, Int.reduceMul, Int.reduceEq, Int.reduceNeg, ↓reduceIte, ↓reduceDIte, Nat.beq, reduceCtorEq, Value.int.injEq, Nat.reduceSub, sto_ptr, lp_succ, offV, hb, c42, false_or, or_false, true_or, or_true]⟩
theorem off_get (i : Ins) (c : Nat) : i.cells[offV c]? = some (.int .i64 (i.get c)) := by
  unfold offV Ins.get
  split
  · rfl
  · split
    · rfl
    · split <;> rfl
structure TxS (H : Hp) (i : Ins) (S : List UInt8) (nm : ByteArray) (f co : Int) (l : List ByteArray) (lb : Option Nat) : Prop where
  c10 : H.rwc 10 = some i.cells
  c11 : H.rwc 11 = some [.string nm, .int .i64 f, .int .i64 co]
  c12 : H.rwc 12 = some (S.map fun c => .int .u8 c.toNat)
  row : match lb with | none => l = [] | some b => H.rwc b = some (l.map Value.string) ∧ 13 ≤ b ∧ b < H.next ∧ l ≠ []
  next : 13 ≤ H.next
  lim : H.lim = 10
theorem TxS.push {H : Hp} {i : Ins} {S : List UInt8} {nm : ByteArray} {f co : Int} {l : List ByteArray} {lb : Option Nat} (h : TxS H i S nm f co l lb) (x : ByteArray) (hl : l.length < 4294967296) :
    ∃ H2, appd 1 16 (svOf lb l.length 1) 1 [.string x] (H.new (.rw [.string x])) = some (svOf (some (H.next + 1)) (l ++ [x]).length 1, H2) ∧ TxS H2 i S nm f co (l ++ [x]) (some (H.next + 1)) := by
  have hn := h.next
  have hlim : (H.new (.rw [.string x])).lim = 10 := h.lim
  have hrow := h.row
  have hnew : ∀ c, c < H.next → (H.new (.rw [.string x])).rwc c = H.rwc c := fun c hc => by rw [rwc_new, if_neg (by omega)]
  obtain ⟨H2, h1, h2, h3, h4, h5⟩ := Lst.app (sz := 1) (by_ := 16) (H := H.new (.rw [.string x])) (n := l.length) (cs := l.map Value.string) (lb := lb) (sv := svOf lb l.length 1) rfl (by simp)
    (by cases lb with
      | none => simp only at hrow ⊢; subst hrow; exact ⟨rfl, rfl⟩
      | some b => exact ⟨by rw [hnew b hrow.2.2.1]; exact hrow.1, by rw [hlim]; omega, by have := hrow.2.2.1; simp; omega⟩) (by rw [hlim]; exact Nat.le_refl 10) (m := 1) (xs := [.string x]) (by decide) (roomy16 (by omega)) rfl
  have hne : ∀ c, c < 13 → lb ≠ some c := fun c hc e => by subst e; have := hrow.2.1; omega
  have old : ∀ c, c < 13 → H2.rwc c = H.rwc c := fun c hc => by
    rw [h5 c (by simp; omega) (hne c hc), hnew c (by omega)]
  refine ⟨H2, by rw [h1]; simp [svOf], ?_, ?_, ?_, ?_, ?_, ?_⟩
  · rw [old 10 (by omega)]; exact h.c10
  · rw [old 11 (by omega)]; exact h.c11
  · rw [old 12 (by omega)]; exact h.c12
  · refine ⟨?_, by omega, by rw [h3]; simp, by simp⟩
    have : (H.new (.rw [.string x])).next = H.next + 1 := rfl
    rw [← this, h2]
    simp
  · rw [h3]; simp; omega
  · rw [h4, hlim]
theorem txt_loop (n : Nat) (i : Ins) (S : List UInt8) (nm : ByteArray) (f co : Int) (hS : S.length ≤ 3) (hc : ∀ c ∈ S, shpC c.toNat) (hb : ∀ c, -9223372036854775808 ≤ i.get c ∧ i.get c ≤ 9223372036854775807) : ∀ (r k m : Nat), k + r = S.length → r < m → ∀ (H : Hp) (l : List ByteArray) (lb : Option Nat), TxS H i S nm f co l lb → l.length ≤ k →
    ∃ H' lb', (∀ (kx : Nat → Fr → Hp → Option (Out × Hp)) (kr : Fr → Hp → Option (Out × Hp)), lp (s8_b1 (evCall cfc (n+4)) (n+4)) m [ptr 10 0, ptr 11 0, svOf lb l.length 1, .slice (some ⟨12, 0, none⟩) S.length 1, .int .i64 S.length, .int .i64 k] H kx kr =
      kx 0 (Fr.of [5, 6] [ptr 11 0, svOf lb' (l ++ (S.drop k).map fun c => opdV i c.toNat).length 1]) H') ∧ TxS H' i S nm f co (l ++ (S.drop k).map fun c => opdV i c.toNat) lb' := by
  intro r
  induction r with
  | zero =>
    intro k m hk hm H l lb hT hl
    obtain ⟨m, rfl⟩ : ∃ q, m = q + 1 := ⟨m - 1, by omega⟩
    have e : S.drop k = [] := List.drop_eq_nil_of_le (by omega)
    have hlt : ¬ ((k : Int) < (S.length : Int)) := by omega
    rw [e]
    simp only [List.map_nil, List.append_nil]
    refine ⟨H, lb, fun kx kr => ?_, hT⟩
    rw [lp_succ]
    simp -implicitDefEqProofs only [s8_b1, ↓GVdn, GVup, goInt, splice, okC, Fr.of, Fr.ofI, Fr.g, Nat.reduceAdd, Nat.reduceMul, Nat.reduceEqDiff, Nat.reduceLT, Nat.reduceLeDiff, Nat.reduceBEq, Int.reduceLT, Int.reduceLE, Int.reduceToNat, Int.reduceAdd, Int.reduceSub, Int.reduceMul, Int.reduceEq, Int.reduceNeg, ↓reduceIte, ↓reduceDIte, Nat.beq, reduceCtorEq, Value.int.injEq, Nat.reduceSub, sto_ptr, hlt]
  | succ r ih =>
    intro k m hk hm H l lb hT hl
    obtain ⟨m, rfl⟩ : ∃ q, m = q + 1 := ⟨m - 1, by omega⟩
    have hlt : ((k : Int) < (S.length : Int)) := by omega
    have hkl : k < S.length := by omega
    have hd : S.drop k = S[k] :: S.drop (k + 1) := List.drop_eq_getElem_cons hkl
    have hmem : S[k] ∈ S := List.getElem_mem hkl
    have hcc : (S.map fun c => Value.int .u8 c.toNat)[k]? = some (.int .u8 S[k].toNat) := by simp [hkl]
    generalize S[k] = c at hd hmem hcc
    have hsc := hc c hmem
    have hw1 : IntKind.wrap .i64 ((k : Int) + 1) = ((k + 1 : Nat) : Int) := by rw [IntWalk.i64_in _ (by omega)]; rfl
    have c10 := cells_rwc hT.c10
    have c12 := cells_rwc hT.c12
    obtain ⟨lo, hi, h23⟩ := v23g n c10 c.toNat hsc
    have h24 := fun H => e24 (n+3) (i.get c.toNat) (hb _) H
    have hog := off_get i c.toNat
    have hin : (0 ≤ (k : Int) ∧ (k : Int) < (S.length : Int)) = True := eq_true (by omega)
    have hin2 : (0 ≤ (k : Int)) = True := eq_true (by omega)
    obtain ⟨H2, h1, h2⟩ := hT.push (opdV i c.toNat) (by omega)
    obtain ⟨H', lb', h3, h4⟩ := ih (k + 1) m (by omega) (by omega) H2 _ _ h2 (by simp; omega)
    have e3 : (l ++ [opdV i c.toNat]) ++ (S.drop (k + 1)).map (fun c => opdV i c.toNat) = l ++ (S.drop k).map (fun c => opdV i c.toNat) := by rw [hd]; simp
    rw [e3] at h3 h4
    refine ⟨H', lb', fun kx kr => ?_, h4⟩
    rw [← h3 kx kr]
    have hsz := itoaB_size (i.get c.toNat)
    have s1 := bin_sadd 0 ⟨#[102]⟩ (itoaB (i.get c.toNat)) (by have : (⟨#[102]⟩ : ByteArray).size = 1 := rfl; omega)
    have s2 := bin_sadd 0 ⟨#[114]⟩ (itoaB (i.get c.toNat)) (by have : (⟨#[114]⟩ : ByteArray).size = 1 := rfl; omega)
    rw [lp_succ]
    by_cases c1 : (c.toNat : Int) = 105
    · have e1 : opdV i c.toNat = itoaB (i.get c.toNat) := if_pos (by omega)
      rw [e1] at h1
      rw [c1] at h23
      simp -implicitDefEqProofs only [s8_b1, ↓GVdn, GVup, goInt, splice, okC, Fr.of, Fr.ofI, Fr.g, Nat.reduceAdd, Nat.reduceMul, Nat.reduceEqDiff, Nat.reduceLT, Nat.reduceLeDiff, Nat.reduceBEq, Int.reduceLT, Int.reduceLE, Int.reduceToNat, Int.reduceAdd, Int.reduceSub, Int.reduceMul, Int.reduceEq, Int.reduceNeg, ↓reduceIte, ↓reduceDIte, Nat.beq, reduceCtorEq, Value.int.injEq, Nat.reduceSub, sto_ptr, hlt, hin, hin2, c12, hcc, h23, c10, hog, h24, c1, rep, List.replicate, List.flatten_cons, List.flatten_nil, srcC_new, h1, hw1, e1]
    · by_cases c2 : (c.toNat : Int) < 97
      · have e1 : opdV i c.toNat = ⟨#[102]⟩ ++ itoaB (i.get c.toNat) := (if_neg (by omega)).trans (if_pos (by omega))
        rw [e1] at h1
        simp -implicitDefEqProofs only [s8_b1, ↓GVdn, GVup, goInt, splice, okC, Fr.of, Fr.ofI, Fr.g, Nat.reduceAdd, Nat.reduceMul, Nat.reduceEqDiff, Nat.reduceLT, Nat.reduceLeDiff, Nat.reduceBEq, Int.reduceLT, Int.reduceLE, Int.reduceToNat, Int.reduceAdd, Int.reduceSub, Int.reduceMul, Int.reduceEq, Int.reduceNeg, ↓reduceIte, ↓reduceDIte, Nat.beq, reduceCtorEq, Value.int.injEq, Nat.reduceSub, sto_ptr, hlt, hin, hin2, c12, hcc, h23, c10, hog, h24, c1, c2, s1, rep, List.replicate, List.flatten_cons, List.flatten_nil, srcC_new, h1, hw1, e1]
      · have e1 : opdV i c.toNat = ⟨#[114]⟩ ++ itoaB (i.get c.toNat) := (if_neg (by omega)).trans (if_neg (by omega))
        rw [e1] at h1
        simp -implicitDefEqProofs only [s8_b1, ↓GVdn, GVup, goInt, splice, okC, Fr.of, Fr.ofI, Fr.g, Nat.reduceAdd, Nat.reduceMul, Nat.reduceEqDiff, Nat.reduceLT, Nat.reduceLeDiff, Nat.reduceBEq, Int.reduceLT, Int.reduceLE, Int.reduceToNat, Int.reduceAdd, Int.reduceSub, Int.reduceMul, Int.reduceEq, Int.reduceNeg, ↓reduceIte, ↓reduceDIte, Nat.beq, reduceCtorEq, Value.int.injEq, Nat.reduceSub, sto_ptr, hlt, hin, hin2, c12, hcc, h23, c10, hog, h24, c1, c2, s2, rep, List.replicate, List.flatten_cons, List.flatten_nil, srcC_new, h1, hw1, e1]
theorem e25 (n : Nat) {H : Hp} {b m : Nat} {l : List ByteArray} (hb : H.cells b = some (l.map Value.string)) (hm : m = l.length) (hl : l.length ≤ 140737488355328) (sep : ByteArray) (hj : (Lib.join (l.map (·.data.toList)) sep.data.toList).length ≤ 140737488355328) :
    evCall cfc (n+1) 25 [.slice (some ⟨b, 0, none⟩) m 1, .string sep] H = some (.ret (.string ⟨(Lib.join (l.map (·.data.toList)) sep.data.toList).toArray⟩), H) := by
  subst hm
  refine evCall_exh (by rfl) (show exhL 25 [.slice (some ⟨b, 0, none⟩) l.length 1, .string sep] H = some (.ret (.string ⟨(Lib.join (l.map (·.data.toList)) sep.data.toList).toArray⟩), H) from ?_) n
  simp only [exhL, hb, Option.bind_some, List.drop_zero]
  rw [List.take_of_length_le (by simp), strsOf_map]
  simp only [Option.bind_some]
  rw [if_pos ⟨trivial, hl, hj⟩]
def lpar : ByteArray := ⟨#[40]⟩
/-- the operands' texts -/
def opsV (i : Ins) : List ByteArray := (shpB (formV i.op)).data.toList.map fun c => opdV i c.toNat
def joinV (l : List ByteArray) : ByteArray := ⟨(Lib.join (l.map (·.data.toList)) [44, 32]).toArray⟩
def rowV (f : Int) (l : List ByteArray) : List ByteArray := if f = 5 ∨ f = 6 then [l.getD 0 emp, l.getD 1 emp ++ ⟨#[40]⟩ ++ l.getD 2 emp ++ ⟨#[41]⟩] else l
def textV (i : Ins) : ByteArray := if rowV (formV i.op) (opsV i) = [] then nameV i.op else nameV i.op ++ ⟨#[32]⟩ ++ joinV (rowV (formV i.op) (opsV i))
def textR (i : Ins) : Value := if chkV i.op i.A i.B i.C i.I = 0 then .tuple #[.string (textV i), .int .i64 0] else .tuple #[.string emp, .int .i64 (chkV i.op i.A i.B i.C i.I)]
theorem textR_flat (i : Ins) : flat (textR i) = true := by unfold textR; split <;> rfl
theorem mx_small (f : Int) : mxA f ≤ 15 ∧ mxB f ≤ 15 ∧ mxC f ≤ 15 := by
  by_cases h : 0 ≤ f ∧ f < 16
  · have := of_decide_eq_true (List.all_eq_true.1 (show (List.range 16).all (fun k => decide (mxA (k : Int) ≤ 15 ∧ mxB (k : Int) ≤ 15 ∧ mxC (k : Int) ≤ 15))= true by kernel_rfl) f.toNat (List.mem_range.2 (by omega)))
    rwa [show ((f.toNat : Nat) : Int) = f by omega] at this
  · unfold mxA mxB mxC
    rw [if_neg h, if_neg h, if_neg h]
    decide
theorem lim_small (op : Int) : -32768 ≤ lowV op ∧ highV op ≤ 65535 := by
  by_cases h : 0 ≤ op ∧ op < 72
  · have := of_decide_eq_true (List.all_eq_true.1 (show (List.range 72).all (fun k => decide (-32768 ≤ lowV (k : Int) ∧ highV (k : Int) ≤ 65535))= true by kernel_rfl) op.toNat (List.mem_range.2 (by omega)))
    rwa [show ((op.toNat : Nat) : Int) = op by omega] at this
  · unfold lowV highV
    rw [if_neg h, if_neg h]
    decide
/-- what an instruction that is none the wrong can hold -/
theorem chk_small {i : Ins} (h : chkV i.op i.A i.B i.C i.I = 0) : 1 ≤ formV i.op ∧ formV i.op < 16 ∧ (0 ≤ i.A ∧ i.A ≤ 15) ∧ (0 ≤ i.B ∧ i.B ≤ 15) ∧ (0 ≤ i.C ∧ i.C ≤ 15) ∧ -32768 ≤ i.I ∧ i.I ≤ 65535 := by
  unfold chkV at h
  split at h
  · exact absurd h (by decide)
  · rename_i hf
    split at h
    · rename_i ho
      have hfc : 1 ≤ formV i.op ∧ formV i.op < 16 := by
        rcases form_cases i.op with e | e | e | e | e | e | e | e | e | e | e | e | e | e | e | e <;> (rw [e] at hf ⊢; first | exact absurd rfl hf | decide)
      obtain ⟨h1, h2, h3⟩ := mx_small (formV i.op)
      obtain ⟨h4, h5⟩ := lim_small i.op
      obtain ⟨o1, o2, o3, o4⟩ := ho
      refine ⟨hfc.1, hfc.2, by omega, by omega, by omega, ?_⟩
      cases hh : hasF (formV i.op) with
      | true => rw [hh] at o4; simp only [cond_true] at o4; omega
      | false => rw [hh] at o4; simp only [cond_false] at o4; omega
    · exact absurd h (by decide)
theorem get_small {i : Ins} (h : chkV i.op i.A i.B i.C i.I = 0) (c : Nat) : -32768 ≤ i.get c ∧ i.get c ≤ 65535 := by
  obtain ⟨_, _, h1, h2, h3, h4⟩ := chk_small h
  unfold Ins.get
  split
  · omega
  · split
    · omega
    · split <;> omega
theorem joinTail_len (sep : List UInt8) (hs : sep.length = 2) : ∀ l : List (List UInt8), (∀ x ∈ l, x.length ≤ 100) → (Lib.joinTail sep l).length ≤ 102 * l.length
  | [], _ => by simp [Lib.joinTail]
  | x :: l, h => by
    have h1 := joinTail_len sep hs l fun y hy => h y (List.mem_cons_of_mem _ hy)
    have h2 := h x List.mem_cons_self
    have e : Lib.joinTail sep (x :: l) = sep ++ x ++ Lib.joinTail sep l := by simp [Lib.joinTail]
    rw [e]
    simp only [List.length_append, hs, List.length_cons]
    omega
theorem join_len (sep : List UInt8) (hs : sep.length = 2) (l : List (List UInt8)) (h : ∀ x ∈ l, x.length ≤ 100) : (Lib.join l sep).length ≤ 102 * l.length := by
  cases l with
  | nil => simp [Lib.join_nil]
  | cons x l =>
    have h1 := joinTail_len sep hs l fun y hy => h y (List.mem_cons_of_mem _ hy)
    have h2 := h x List.mem_cons_self
    rw [Lib.join_cons]
    simp only [List.length_append, List.length_cons]
    omega
theorem cvB_str (s : ByteArray) (H : Hp) : cvB (.string s) H = some (.slice (some ⟨H.next, 0, none⟩) s.size 1, H.new (.rw (bytesV s))) := rfl
theorem q8 (n : Nat) (x0 : Value) (hx0 : flat x0 = true) (H : Hp) : evCall cfc (n+1) 8 [x0] H = movR [] H (s8 (evCall cfc n) n x0 Hp.fl) := by
  rw [evCall_quiet (fn := Tryd.f8) (by rfl) (by rfl) Tryd.func8 (by rfl) (by simp [hx0])]
  exact congrArg (movR [] H) (s8_eq _ _ _ _)
theorem flat_sI (s : ByteArray) (k : IntKind) (a : Int) : flat (.tuple #[.string s, .int k a]) = true := rfl
theorem opsV_len (i : Ins) (hf : 1 ≤ formV i.op ∧ formV i.op < 16) : (opsV i).length ≤ 3 := by
  have := (shp_facts _ hf).1
  rw [Lib.size_eq] at this
  simp [opsV]
  simpa using this
theorem ops56 (i : Ins) (h : formV i.op = 5 ∨ formV i.op = 6) : ∃ a b c, opsV i = [a, b, c] ∧ a.size ≤ 22 ∧ b.size ≤ 22 ∧ c.size ≤ 22 := by
  unfold opsV
  rcases h with h | h
  · rw [h]
    exact ⟨_, _, _, rfl, opdV_size _ _, opdV_size _ _, opdV_size _ _⟩
  · rw [h]
    exact ⟨_, _, _, rfl, opdV_size _ _, opdV_size _ _, opdV_size _ _⟩
theorem nameV_size (op : Int) : (nameV op).size ≤ 10 := by
  by_cases h : 0 ≤ op ∧ op < 72
  · have := of_decide_eq_true (List.all_eq_true.1 (show (List.range 72).all (fun k => decide ((nameV (k : Int)).size ≤ 10))= true by kernel_rfl) op.toNat (List.mem_range.2 (by omega)))
    rwa [show ((op.toNat : Nat) : Int) = op by omega] at this
  · unfold nameV
    rw [if_neg h]
    decide
theorem app1 (a b : ByteArray) : (a ++ b).size = a.size + b.size := ByteArray.size_append
theorem row_small (i : Ins) (hf : 1 ≤ formV i.op ∧ formV i.op < 16) : (rowV (formV i.op) (opsV i)).length ≤ 3 ∧ ∀ x ∈ (rowV (formV i.op) (opsV i)).map (·.data.toList), x.length ≤ 100 := by
  unfold rowV
  split
  · rename_i h
    obtain ⟨a, b, c, e, h1, h2, h3⟩ := ops56 i h
    rw [e]
    refine ⟨by simp, fun x hx => ?_⟩
    simp only [List.map_cons, List.map_nil, List.mem_cons, List.not_mem_nil, or_false] at hx
    have e1 : (⟨#[40]⟩ : ByteArray).size = 1 := rfl
    have e2 : (⟨#[41]⟩ : ByteArray).size = 1 := rfl
    rcases hx with rfl | rfl
    · rw [← Lib.size_eq]
      show a.size ≤ 100
      omega
    · rw [← Lib.size_eq]
      simp only [List.getD_cons_succ, List.getD_cons_zero, app1, e1, e2]
      omega
  · refine ⟨opsV_len i hf, fun x hx => ?_⟩
    simp only [opsV, List.map_map, List.mem_map, Function.comp_def] at hx
    obtain ⟨c, _, rfl⟩ := hx
    rw [← Lib.size_eq]
    have := opdV_size i c.toNat
    omega
theorem v8 (n : Nat) (H : Hp) (i : Ins) : evCall cfc (n+10) 8 [i.val] H = some (.ret (textR i), H) := by
  have hfl : flat i.val = true := rfl
  rw [q8 (n+9) _ hfl H]
  suffices hs : (s8 (evCall cfc (n+9)) (n+9) i.val Hp.fl).map Prod.fst = some (.ret (textR i)) by
    obtain ⟨⟨v, H'⟩, h, h2⟩ := Option.map_eq_some_iff.1 hs
    rw [h]
    simp only at h2
    rw [h2]
    exact movR_flat (textR_flat i)
  generalize hH0 : Hp.fl = H0
  have n0 : H0.next = 10 := by subst hH0; rfl
  have l0 : H0.lim = 10 := by subst hH0; rfl
  have t0 : H0.cells 0 = some shapesC := by subst hH0; kernel_rfl
  have h21 := fun H => v21 (n+3) H i.op i.A i.B i.C i.I
  have h22 := fun H => v22 (n+7) H i.op
  by_cases hk : chkV i.op i.A i.B i.C i.I = 0
  · have hr : textR i = .tuple #[.string (textV i), .int .i64 0] := if_pos hk
    rw [hr]
    rw [hk] at h21
    obtain ⟨hf1, hf2, _⟩ := chk_small hk
    have hf : 1 ≤ formV i.op ∧ formV i.op < 16 := ⟨hf1, hf2⟩
    obtain ⟨sz, bl, sc⟩ := shp_facts (formV i.op) hf
    have stb := shp_tab (formV i.op) hf
    have hin16 : (0 ≤ formV i.op) = True := eq_true (by omega)
    have hin17 : (formV i.op < 16) = True := eq_true (by omega)
    obtain ⟨rs1, rs2⟩ := row_small i hf
    have jl := join_len [44, 32] rfl _ rs2
    rw [List.length_map] at jl
    have nsz := nameV_size i.op
    have hT : TxS ((((H0.new (.rw [.int .i64 i.op, .int .i64 i.A, .int .i64 i.B, .int .i64 i.C, .int .i64 i.I])).new (.rw [.string ⟨#[]⟩, .int .i64 0, .int .i64 0])).set 11 (.rw [.string (nameV i.op), .int .i64 (formV i.op), .int .i64 (costV i.op)])).new (.rw (bytesV (shpB (formV i.op))))) i (shpB (formV i.op)).data.toList (nameV i.op) (formV i.op) (costV i.op) [] none :=
      ⟨by simp -implicitDefEqProofs only [rwc_new, rwc_set, Hp.next_new, Hp.next_set, n0]; rfl,
       by simp -implicitDefEqProofs only [rwc_new, rwc_set, Hp.next_new, Hp.next_set, n0]; rfl,
       by simp -implicitDefEqProofs only [rwc_new, rwc_set, Hp.next_new, Hp.next_set, n0]; rfl,
       rfl, by simp only [Hp.next_new, Hp.next_set, n0]; decide, l0⟩
    obtain ⟨H', lb', hlp, hTx⟩ := txt_loop (n+5) i (shpB (formV i.op)).data.toList (nameV i.op) (formV i.op) (costV i.op) (by rw [← Lib.size_eq]; exact sz) sc (fun c => by have := get_small hk c; omega) (shpB (formV i.op)).data.toList.length 0 (n+9) (by omega) (by rw [← Lib.size_eq]; omega) _ [] none hT (Nat.le_refl _)
    rw [← Lib.size_eq] at hlp
    have hll : ([] ++ ((shpB (formV i.op)).data.toList.drop 0).map fun c => opdV i c.toNat) = opsV i := rfl
    rw [hll] at hlp hTx
    have hlp' : ∀ (kx : Nat → Fr → Hp → Option (Out × Hp)) (kr : Fr → Hp → Option (Out × Hp)), lp (s8_b1 (evCall cfc (n+9)) (n+9)) (n+9) [ptr 10 0, ptr 11 0, .slice none 0 0, .slice (some ⟨12, 0, none⟩) (shpB (formV i.op)).size 1, .int .i64 (shpB (formV i.op)).size, .int .i64 0] _ kx kr = _ := hlp
    have c11 := cells_rwc hTx.c11
    have hl' := hTx.lim
    have hrow := hTx.row
    have hnx : (11 = H'.next) = False := eq_false (by have := hTx.next; omega)
    generalize hfe : formV i.op = f at *
    have tx : textV i = if rowV f (opsV i) = [] then nameV i.op else nameV i.op ++ ⟨#[32]⟩ ++ joinV (rowV f (opsV i)) := by unfold textV; rw [hfe]
    rw [tx]
    by_cases h56 : f = 5 ∨ f = 6
    · obtain ⟨a, b, c, e, h1, h2, h3⟩ := ops56 i (by rw [hfe]; exact h56)
      have hrv : rowV f (opsV i) = [a, b ++ ⟨#[40]⟩ ++ c ++ ⟨#[41]⟩] := by unfold rowV; rw [if_pos h56, e]; rfl
      rw [hrv] at jl rs1 ⊢
      rw [if_neg (by simp)]
      have z40 : (⟨#[40]⟩ : ByteArray).size = 1 := rfl
      have z41 : (⟨#[41]⟩ : ByteArray).size = 1 := rfl
      have z32 : (⟨#[32]⟩ : ByteArray).size = 1 := rfl
      have s1 := bin_sadd 0 b ⟨#[40]⟩ (by omega)
      have s2 := bin_sadd 0 (b ++ ⟨#[40]⟩) c (by rw [app1]; omega)
      have s3 := bin_sadd 0 (b ++ ⟨#[40]⟩ ++ c) ⟨#[41]⟩ (by rw [app1, app1]; omega)
      have s4 := bin_sadd 0 (nameV i.op) ⟨#[32]⟩ (by omega)
      have s5 := bin_sadd 0 (nameV i.op ++ ⟨#[32]⟩) (joinV [a, b ++ ⟨#[40]⟩ ++ c ++ ⟨#[41]⟩]) (by
        have : (joinV [a, b ++ ⟨#[40]⟩ ++ c ++ ⟨#[41]⟩]).size ≤ 102 * 2 := by rw [Lib.size_eq]; exact jl
        rw [app1]; omega)
      have h25 : ∀ L, evCall cfc (n+9) 25 [.slice (some ⟨H'.next, 0, none⟩) 2 1, .string ⟨#[44, 32]⟩] ((H'.opn L).new (.rw [.string a, .string (b ++ ⟨#[40]⟩ ++ c ++ ⟨#[41]⟩)])) = some (.ret (.string (joinV [a, b ++ ⟨#[40]⟩ ++ c ++ ⟨#[41]⟩])), (H'.opn L).new (.rw [.string a, .string (b ++ ⟨#[40]⟩ ++ c ++ ⟨#[41]⟩)])) := fun L =>
        e25 (n+8) (l := [a, b ++ ⟨#[40]⟩ ++ c ++ ⟨#[41]⟩]) (by rw [cells_new, if_pos (by rfl)]; rfl) rfl (by simp only [List.length_cons, List.length_nil]; omega) ⟨#[44, 32]⟩ (by
          have jl2 := jl
          simp only [List.length_cons, List.length_nil] at jl2
          refine Nat.le_trans jl2 (by omega))
      cases lb' with
      | none =>
        simp only at hrow
        rw [hrow] at e
        cases e
      | some bb =>
        simp only at hrow
        rw [e] at hlp' hrow
        simp only [svOf] at hlp'
        have cbb := cells_rwc hrow.1
        rcases h56 with rfl | rfl
        · have stb : shapesC[5]? = some (.string (shpB 5)) := stb
          simp -implicitDefEqProofs only [s8, ↓GVdn, GVup, goInt, splice, okC, Fr.of, Fr.ofI, Fr.g, Nat.reduceAdd, Nat.reduceMul, Nat.reduceEqDiff, Nat.reduceLT, Nat.reduceLeDiff, Nat.reduceBEq, Int.reduceLT, Int.reduceLE, Int.reduceToNat, Int.reduceAdd, Int.reduceSub, Int.reduceMul, Int.reduceEq, Int.reduceNeg, ↓reduceIte, ↓reduceDIte, Nat.beq, reduceCtorEq, Value.int.injEq, Nat.reduceSub, sto_ptr, opn_lim, n0, l0, t0, h21, h22, Ins.val, Ins.cells, stb, hin16, hin17, cvB_str, hlp', c11, cbb, s1, s2, s3, s4, s5, h25, hnx, rep, List.replicate, List.flatten_cons, List.flatten_nil, List.map_cons, List.map_nil, List.cons_append, List.nil_append, List.length_cons, List.length_nil, Option.map_some]
        · have stb : shapesC[6]? = some (.string (shpB 6)) := stb
          simp -implicitDefEqProofs only [s8, ↓GVdn, GVup, goInt, splice, okC, Fr.of, Fr.ofI, Fr.g, Nat.reduceAdd, Nat.reduceMul, Nat.reduceEqDiff, Nat.reduceLT, Nat.reduceLeDiff, Nat.reduceBEq, Int.reduceLT, Int.reduceLE, Int.reduceToNat, Int.reduceAdd, Int.reduceSub, Int.reduceMul, Int.reduceEq, Int.reduceNeg, ↓reduceIte, ↓reduceDIte, Nat.beq, reduceCtorEq, Value.int.injEq, Nat.reduceSub, sto_ptr, opn_lim, n0, l0, t0, h21, h22, Ins.val, Ins.cells, stb, hin16, hin17, cvB_str, hlp', c11, cbb, s1, s2, s3, s4, s5, h25, hnx, rep, List.replicate, List.flatten_cons, List.flatten_nil, List.map_cons, List.map_nil, List.cons_append, List.nil_append, List.length_cons, List.length_nil, Option.map_some]
    · have hrv : rowV f (opsV i) = opsV i := if_neg h56
      rw [hrv] at jl rs1 ⊢
      have e5 : (f = 5) = False := eq_false (fun h => h56 (.inl h))
      have e6 : (f = 6) = False := eq_false (fun h => h56 (.inr h))
      cases lb' with
      | none =>
        simp only at hrow
        rw [hrow]
        rw [hrow] at hlp'
        simp only [svOf] at hlp'
        simp -implicitDefEqProofs only [s8, ↓GVdn, GVup, goInt, splice, okC, Fr.of, Fr.ofI, Fr.g, Nat.reduceAdd, Nat.reduceMul, Nat.reduceEqDiff, Nat.reduceLT, Nat.reduceLeDiff, Nat.reduceBEq, Int.reduceLT, Int.reduceLE, Int.reduceToNat, Int.reduceAdd, Int.reduceSub, Int.reduceMul, Int.reduceEq, Int.reduceNeg, ↓reduceIte, ↓reduceDIte, Nat.beq, reduceCtorEq, Value.int.injEq, Nat.reduceSub, sto_ptr, opn_lim, n0, l0, t0, h21, h22, Ins.val, Ins.cells, stb, hin16, hin17, cvB_str, hlp', e5, e6, c11, List.length_nil, Option.map_some]
      | some bb =>
        simp only at hrow
        rw [if_neg hrow.2.2.2]
        have z32 : (⟨#[32]⟩ : ByteArray).size = 1 := rfl
        have s4 := bin_sadd 0 (nameV i.op) ⟨#[32]⟩ (by omega)
        have s5 := bin_sadd 0 (nameV i.op ++ ⟨#[32]⟩) (joinV (opsV i)) (by
          have : (joinV (opsV i)).size ≤ 102 * (opsV i).length := by rw [Lib.size_eq]; exact jl
          rw [app1]; omega)
        have cbb := cells_rwc hrow.1
        have h25 : ∀ L, evCall cfc (n+9) 25 [.slice (some ⟨bb, 0, none⟩) (opsV i).length 1, .string ⟨#[44, 32]⟩] (H'.opn L) = some (.ret (.string (joinV (opsV i))), (H'.opn L)) := fun L =>
          e25 (n+8) (l := opsV i) (by rw [cells_opn]; exact cbb) rfl (by omega) ⟨#[44, 32]⟩ (Nat.le_trans jl (by omega))
        have hlen0 : (((opsV i).length : Int) = 0) = False := eq_false (by have := List.length_pos_iff.2 hrow.2.2.2; omega)
        simp only [svOf] at hlp'
        simp -implicitDefEqProofs only [s8, ↓GVdn, GVup, goInt, splice, okC, Fr.of, Fr.ofI, Fr.g, Nat.reduceAdd, Nat.reduceMul, Nat.reduceEqDiff, Nat.reduceLT, Nat.reduceLeDiff, Nat.reduceBEq, Int.reduceLT, Int.reduceLE, Int.reduceToNat, Int.reduceAdd, Int.reduceSub, Int.reduceMul, Int.reduceEq, Int.reduceNeg, ↓reduceIte, ↓reduceDIte, Nat.beq, reduceCtorEq, Value.int.injEq, Nat.reduceSub, sto_ptr, opn_lim, n0, l0, t0, h21, h22, Ins.val, Ins.cells, stb, hin16, hin17, cvB_str, hlp', e5, e6, c11, cbb, s4, s5, h25, hlen0, Option.map_some]
  · have hr : textR i = .tuple #[.string emp, .int .i64 (chkV i.op i.A i.B i.C i.I)] := if_neg hk
    rw [hr]
    simp -implicitDefEqProofs only [s8, ↓GVdn, GVup, goInt, splice, okC, Fr.of, Fr.ofI, Fr.g, Nat.reduceAdd, Nat.reduceMul, Nat.reduceEqDiff, Nat.reduceLT, Nat.reduceLeDiff, Nat.reduceBEq, Int.reduceLT, Int.reduceLE, Int.reduceToNat, Int.reduceAdd, Int.reduceSub, Int.reduceMul, Int.reduceEq, Int.reduceNeg, ↓reduceIte, ↓reduceDIte, Nat.beq, reduceCtorEq, Value.int.injEq, Nat.reduceSub, sto_ptr, opn_lim, n0, l0, t0, h21, h22, hk, Ins.val, Ins.cells, emp, Option.map_some]
end Go.Proofs.YtbaooebafijenaaDoor
