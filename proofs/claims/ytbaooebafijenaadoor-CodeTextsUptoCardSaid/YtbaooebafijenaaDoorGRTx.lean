/- The document's text of an instruction. -/
import Derived.Test.YtbaooebafijenaaDoorGDg
import Derived.Test.YtbaooebafijenaaDoorGCodeC
import Derived.Test.YtbaooebafijenaaDoorGvBun
namespace Go.Proofs.YtbaooebafijenaaDoor
open Go Go.Ev
set_option maxRecDepth 100000
set_option linter.unusedSimpArgs false
set_option linter.unusedVariables false
set_option maxHeartbeats 4000000
set_option linter.unusedSectionVars false
variable [Mx]
attribute [local congr] bind_front callK_front jn_front ifB_front ifG_front lp_front
def regAt (i : Ins) (k : Nat) : Int := if k = 0 then i.A else if k = 1 then i.B else i.C
def rgo (i : Ins) : Nat → Bs → Bs
  | _, [] => []
  | k, c :: r => (if k = 0 then [32] else [44, 32]) ++ ((if c = 105 then Lib.itoa i.I else c :: Lib.itoa (regAt i k)) ++ rgo i (k + 1) r)
theorem itoa_len {z : Int} (h : -32768 ≤ z ∧ z ≤ 65535) : (Lib.itoa z).length ≤ 21 := by
  have := itoaB_size z
  rwa [Lib.size_eq, itoa_list (by omega)] at this
theorem itoaB_bs {z : Int} (h : -32768 ≤ z ∧ z ≤ 65535) : itoaB z = bs (Lib.itoa z) := bytes_inj (itoa_list (by omega))
theorem bs_at {s : Bs} {k : Nat} {c : UInt8} {r : Bs} (h : s.drop k = c :: r) : (bs s)[k]? = some c ∧ (bs s).extract k (k + 1) = bs [c] ∧ k < s.length := by
  have hk : k < s.length := by
    have := congrArg List.length h
    simp only [List.length_drop, List.length_cons] at this
    omega
  have h0 : s[k]? = some c := by
    have := congrArg List.head? h
    simpa [List.head?_drop] using this
  refine ⟨?_, ?_, hk⟩
  · have h2 := Lib.data_getElem? (bs s) k (by rw [Lib.size_eq, bs_list]; exact hk)
    obtain ⟨d, hd, _⟩ := str_at (bs s) k (by rw [Lib.size_eq, bs_list]; exact hk)
    have h3 := str_at (bs s) k (by rw [Lib.size_eq, bs_list]; exact hk)
    obtain ⟨d, hd1, hd2⟩ := h3
    rw [bs_list, h] at hd2
    rw [hd1]
    injection hd2 with e1 e2
    rw [e1]
  · refine bytes_inj ?_
    rw [extract_list, bs_list, h, bs_list]
    have : k + 1 - k = 1 := by omega
    rw [this]
    rfl
theorem rt_loop (n : Nat) (i : Ins) (s : Bs) (hs : s.length ≤ 3) (hA : -32768 ≤ i.A ∧ i.A ≤ 65535) (hB : -32768 ≤ i.B ∧ i.B ≤ 65535) (hC : -32768 ≤ i.C ∧ i.C ≤ 65535) (hI : -32768 ≤ i.I ∧ i.I ≤ 65535) (H : Hp) (c10 : H.cells 10 = some i.cells) (c11 : H.cells 11 = some [.int .i64 i.A, .int .i64 i.B, .int .i64 i.C]) (kx : Nat → Fr → Hp → Option (Out × Hp)) (kr : Fr → Hp → Option (Out × Hp)) : ∀ (r : Bs) (k m : Nat) (o : Bs), s.drop k = r → r.length < m → o.length ≤ 100 + 100 * k →
    lp (s9_b1 (evCall cfc (n+24)) (n+24)) m [ptr 10 0, .string (bs s), ptr 11 0, .string (bs o), .int .i64 k] H kx kr = kx 0 (Fr.of [8] [.string (bs (o ++ rgo i k r))]) H := by
  have hsz : (bs s).size = s.length := by rw [Lib.size_eq, bs_list]
  simp only [Ins.cells] at c10
  intro r
  induction r with
  | nil =>
    intro k m o hd hm ho
    obtain ⟨m, rfl⟩ : ∃ q, m = q + 1 := ⟨m - 1, by omega⟩
    have hk : s.length ≤ k := by
      have := congrArg List.length hd
      simp only [List.length_drop, List.length_nil] at this
      omega
    have hlt : ((k : Int) < (s.length : Int)) = False := eq_false (by omega)
    simp only [rgo, List.append_nil]
    rw [lp_succ]
    simp -implicitDefEqProofs only [s9_b1, ↓GVdn, GVup, goInt, splice, okC, Fr.of, Fr.ofI, Fr.g, Nat.reduceAdd, Nat.reduceMul, Nat.reduceEqDiff, Nat.reduceLT, Nat.reduceLeDiff, Nat.reduceBEq, Int.reduceLT, Int.reduceLE, Int.reduceToNat, Int.reduceAdd, Int.reduceSub, Int.reduceMul, Int.reduceEq, Int.reduceNeg, ↓reduceIte, ↓reduceDIte, Nat.beq, reduceCtorEq, Value.int.injEq, Nat.reduceSub, sto_ptr, hsz, hlt]
  | cons c r ih =>
    intro k m o hd hm ho
    obtain ⟨m, rfl⟩ : ∃ q, m = q + 1 := ⟨m - 1, by omega⟩
    obtain ⟨h1, h2, hk⟩ := bs_at hd
    have hd2 : s.drop (k + 1) = r := by
      have := congrArg List.tail hd
      simpa [List.tail_drop] using this
    have hlt : ((k : Int) < (s.length : Int)) = True := eq_true (by omega)
    have hi0 : ((0 : Int) ≤ (k : Int)) = True := eq_true (by omega)
    have hw1 : IntKind.wrap .i64 ((k : Int) + 1) = ((k + 1 : Nat) : Int) := by rw [IntWalk.i64_in _ (by omega)]; rfl
    have hr1 : ((k : Int) ≤ ((k + 1 : Nat) : Int)) = True := eq_true (by omega)
    have hr2 : (((k + 1 : Nat) : Int) ≤ (s.length : Int)) = True := eq_true (by omega)
    have hk3 : ((k : Int) < 3) = True := eq_true (by omega)
    have hreg : ([.int .i64 i.A, .int .i64 i.B, .int .i64 i.C] : List Value)[k]? = some (.int .i64 (regAt i k)) := by
      have : k = 0 ∨ k = 1 ∨ k = 2 := by omega
      rcases this with rfl | rfl | rfl <;> rfl
    have hrb : -32768 ≤ regAt i k ∧ regAt i k ≤ 65535 := by
      unfold regAt
      split
      · exact hA
      · split
        · exact hB
        · exact hC
    have v1 := fun H => v29 n (regAt i k) (by omega) H
    have v2 := fun H => v29 n i.I (by omega) H
    rw [itoaB_bs hrb] at v1
    rw [itoaB_bs hI] at v2
    have l1 := itoa_len hrb
    have l2 := itoa_len hI
    simp only [rgo]
    generalize hsep : (if k = 0 then [32] else [44, 32] : Bs) = sep
    have hsl : sep.length ≤ 2 := by subst hsep; split <;> decide
    have b1 : k = 0 → bin 0 .add (.string (bs o)) (.string ⟨#[32]⟩) = some (.string (bs (o ++ sep))) := fun h => by
      rw [if_pos h] at hsep
      subst hsep
      exact bin_bs 0 o [32] (by simp; omega)
    have b2 : ¬ k = 0 → bin 0 .add (.string (bs o)) (.string ⟨#[44, 32]⟩) = some (.string (bs (o ++ sep))) := fun h => by
      rw [if_neg h] at hsep
      subst hsep
      exact bin_bs 0 o [44, 32] (by simp; omega)
    by_cases hc : (c.toNat : Int) = 105
    · have hc2 : c = 105 := UInt8.toNat_inj.1 (by have : c.toNat = 105 := by omega
                                                  rw [this]; rfl)
      rw [if_pos hc2]
      have b3 := bin_bs 0 (o ++ sep) (Lib.itoa i.I) (by simp only [List.length_append]; omega)
      have ih := ih (k + 1) m (o ++ sep ++ Lib.itoa i.I) hd2 (by simp at hm; omega) (by simp only [List.length_append]; omega)
      rw [lp_succ]
      by_cases hk0 : k = 0
      · have hk0' : ((k : Int) = 0) = True := eq_true (by omega)
        have b1 := b1 hk0
        simp -implicitDefEqProofs only [s9_b1, ↓GVdn, GVup, goInt, splice, okC, Fr.of, Fr.ofI, Fr.g, Nat.reduceAdd, Nat.reduceMul, Nat.reduceEqDiff, Nat.reduceLT, Nat.reduceLeDiff, Nat.reduceBEq, Int.reduceLT, Int.reduceLE, Int.reduceToNat, Int.reduceAdd, Int.reduceSub, Int.reduceMul, Int.reduceEq, Int.reduceNeg, ↓reduceIte, ↓reduceDIte, Nat.beq, reduceCtorEq, Value.int.injEq, Nat.reduceSub, sto_ptr, opn_lim, hsz, hlt, hi0, hk0', b1, h1, hc, c10, v2, b3, hw1, ih]
        simp only [List.append_assoc]
      · have hk0' : ((k : Int) = 0) = False := eq_false (by omega)
        have b2 := b2 hk0
        simp -implicitDefEqProofs only [s9_b1, ↓GVdn, GVup, goInt, splice, okC, Fr.of, Fr.ofI, Fr.g, Nat.reduceAdd, Nat.reduceMul, Nat.reduceEqDiff, Nat.reduceLT, Nat.reduceLeDiff, Nat.reduceBEq, Int.reduceLT, Int.reduceLE, Int.reduceToNat, Int.reduceAdd, Int.reduceSub, Int.reduceMul, Int.reduceEq, Int.reduceNeg, ↓reduceIte, ↓reduceDIte, Nat.beq, reduceCtorEq, Value.int.injEq, Nat.reduceSub, sto_ptr, opn_lim, hsz, hlt, hi0, hk0', b2, h1, hc, c10, v2, b3, hw1, ih]
        simp only [List.append_assoc]
    · have hc2 : ¬ c = 105 := fun e => hc (by rw [e]; rfl)
      rw [if_neg hc2]
      have b3 := bin_bs 0 (o ++ sep) [c] (by simp only [List.length_append, List.length_cons, List.length_nil]; omega)
      have b4 := bin_bs 0 (o ++ sep ++ [c]) (Lib.itoa (regAt i k)) (by simp only [List.length_append, List.length_cons, List.length_nil]; omega)
      have ih := ih (k + 1) m (o ++ sep ++ [c] ++ Lib.itoa (regAt i k)) hd2 (by simp at hm; omega) (by simp only [List.length_append, List.length_cons, List.length_nil]; omega)
      rw [lp_succ]
      by_cases hk0 : k = 0
      · have hk0' : ((k : Int) = 0) = True := eq_true (by omega)
        have b1 := b1 hk0
        simp -implicitDefEqProofs only [s9_b1, ↓GVdn, GVup, goInt, splice, okC, Fr.of, Fr.ofI, Fr.g, Nat.reduceAdd, Nat.reduceMul, Nat.reduceEqDiff, Nat.reduceLT, Nat.reduceLeDiff, Nat.reduceBEq, Int.reduceLT, Int.reduceLE, Int.reduceToNat, Int.reduceAdd, Int.reduceSub, Int.reduceMul, Int.reduceEq, Int.reduceNeg, ↓reduceIte, ↓reduceDIte, Nat.beq, reduceCtorEq, Value.int.injEq, Nat.reduceSub, sto_ptr, opn_lim, hsz, hlt, hi0, hk0', b1, h1, hc, h2, hr1, hr2, hk3, hreg, c11, v1, b3, b4, hw1, ih]
        simp only [List.append_assoc, List.singleton_append, List.cons_append, List.nil_append]
      · have hk0' : ((k : Int) = 0) = False := eq_false (by omega)
        have b2 := b2 hk0
        simp -implicitDefEqProofs only [s9_b1, ↓GVdn, GVup, goInt, splice, okC, Fr.of, Fr.ofI, Fr.g, Nat.reduceAdd, Nat.reduceMul, Nat.reduceEqDiff, Nat.reduceLT, Nat.reduceLeDiff, Nat.reduceBEq, Int.reduceLT, Int.reduceLE, Int.reduceToNat, Int.reduceAdd, Int.reduceSub, Int.reduceMul, Int.reduceEq, Int.reduceNeg, ↓reduceIte, ↓reduceDIte, Nat.beq, reduceCtorEq, Value.int.injEq, Nat.reduceSub, sto_ptr, opn_lim, hsz, hlt, hi0, hk0', b2, h1, hc, h2, hr1, hr2, hk3, hreg, c11, v1, b3, b4, hw1, ih]
        simp only [List.append_assoc, List.singleton_append, List.cons_append, List.nil_append]
/-- the document's text is the program's -/
theorem rgo_text {i : Ins} (hk : chkV i.op i.A i.B i.C i.I = 0) (h56 : ¬ (formV i.op = 5 ∨ formV i.op = 6)) : (nameV i.op).data.toList ++ rgo i 0 (rOps (formV i.op)).data.toList = (textV i).data.toList := by
  obtain ⟨hf1, hf2, _⟩ := chk_small hk
  have hg : ∀ c, -9223372036854775808 ≤ i.get c ∧ i.get c ≤ 9223372036854775807 := fun c => by have := get_small hk c; omega
  have hit : ∀ c, (itoaB (i.get c)).data.toList = Lib.itoa (i.get c) := fun c => itoa_list (hg c)
  have hc : formV i.op = 1 ∨ formV i.op = 2 ∨ formV i.op = 3 ∨ formV i.op = 4 ∨ formV i.op = 5 ∨ formV i.op = 6 ∨ formV i.op = 7 ∨ formV i.op = 8 ∨ formV i.op = 9 ∨ formV i.op = 10 ∨ formV i.op = 11 ∨ formV i.op = 12 ∨ formV i.op = 13 ∨ formV i.op = 14 ∨ formV i.op = 15 := by omega
  rcases hc with hf | hf | hf | hf | hf | hf | hf | hf | hf | hf | hf | hf | hf | hf | hf
  · have hs : (rOps (formV i.op)).data.toList = [] := by rw [hf]; rfl
    have ho : opsV i = [] := by unfold opsV; rw [hf]; rfl
    have hr : rowV (formV i.op) (opsV i) = [] := by rw [ho, hf]; rfl
    rw [text_0 i hr, hs]; simp [rgo]
  · have hs : (rOps (formV i.op)).data.toList = [114, 114, 114] := by rw [hf]; rfl
    have ho : opsV i = [opdV i 97, opdV i 98, opdV i 99] := by unfold opsV; rw [hf]; rfl
    have hr : rowV (formV i.op) (opsV i) = [opdV i 97, opdV i 98, opdV i 99] := by rw [ho, hf]; rfl
    rw [text_n i hr, join_3, hs]
    simp only [rgo, opd_list, hit]
    simp [Ins.get, regAt]
  · have hs : (rOps (formV i.op)).data.toList = [114, 114, 105] := by rw [hf]; rfl
    have ho : opsV i = [opdV i 97, opdV i 98, opdV i 105] := by unfold opsV; rw [hf]; rfl
    have hr : rowV (formV i.op) (opsV i) = [opdV i 97, opdV i 98, opdV i 105] := by rw [ho, hf]; rfl
    rw [text_n i hr, join_3, hs]
    simp only [rgo, opd_list, hit]
    simp [Ins.get, regAt]
  · have hs : (rOps (formV i.op)).data.toList = [114, 105] := by rw [hf]; rfl
    have ho : opsV i = [opdV i 97, opdV i 105] := by unfold opsV; rw [hf]; rfl
    have hr : rowV (formV i.op) (opsV i) = [opdV i 97, opdV i 105] := by rw [ho, hf]; rfl
    rw [text_n i hr, join_2, hs]
    simp only [rgo, opd_list, hit]
    simp [Ins.get, regAt]
  · exact absurd (.inl hf) h56
  · exact absurd (.inr hf) h56
  · have hs : (rOps (formV i.op)).data.toList = [114, 114, 105] := by rw [hf]; rfl
    have ho : opsV i = [opdV i 97, opdV i 98, opdV i 105] := by unfold opsV; rw [hf]; rfl
    have hr : rowV (formV i.op) (opsV i) = [opdV i 97, opdV i 98, opdV i 105] := by rw [ho, hf]; rfl
    rw [text_n i hr, join_3, hs]
    simp only [rgo, opd_list, hit]
    simp [Ins.get, regAt]
  · have hs : (rOps (formV i.op)).data.toList = [114, 105] := by rw [hf]; rfl
    have ho : opsV i = [opdV i 97, opdV i 105] := by unfold opsV; rw [hf]; rfl
    have hr : rowV (formV i.op) (opsV i) = [opdV i 97, opdV i 105] := by rw [ho, hf]; rfl
    rw [text_n i hr, join_2, hs]
    simp only [rgo, opd_list, hit]
    simp [Ins.get, regAt]
  · have hs : (rOps (formV i.op)).data.toList = [102, 102, 102] := by rw [hf]; rfl
    have ho : opsV i = [opdV i 65, opdV i 66, opdV i 67] := by unfold opsV; rw [hf]; rfl
    have hr : rowV (formV i.op) (opsV i) = [opdV i 65, opdV i 66, opdV i 67] := by rw [ho, hf]; rfl
    rw [text_n i hr, join_3, hs]
    simp only [rgo, opd_list, hit]
    simp [Ins.get, regAt]
  · have hs : (rOps (formV i.op)).data.toList = [102, 102] := by rw [hf]; rfl
    have ho : opsV i = [opdV i 65, opdV i 66] := by unfold opsV; rw [hf]; rfl
    have hr : rowV (formV i.op) (opsV i) = [opdV i 65, opdV i 66] := by rw [ho, hf]; rfl
    rw [text_n i hr, join_2, hs]
    simp only [rgo, opd_list, hit]
    simp [Ins.get, regAt]
  · have hs : (rOps (formV i.op)).data.toList = [114, 102, 102] := by rw [hf]; rfl
    have ho : opsV i = [opdV i 97, opdV i 66, opdV i 67] := by unfold opsV; rw [hf]; rfl
    have hr : rowV (formV i.op) (opsV i) = [opdV i 97, opdV i 66, opdV i 67] := by rw [ho, hf]; rfl
    rw [text_n i hr, join_3, hs]
    simp only [rgo, opd_list, hit]
    simp [Ins.get, regAt]
  · have hs : (rOps (formV i.op)).data.toList = [114, 102] := by rw [hf]; rfl
    have ho : opsV i = [opdV i 97, opdV i 66] := by unfold opsV; rw [hf]; rfl
    have hr : rowV (formV i.op) (opsV i) = [opdV i 97, opdV i 66] := by rw [ho, hf]; rfl
    rw [text_n i hr, join_2, hs]
    simp only [rgo, opd_list, hit]
    simp [Ins.get, regAt]
  · have hs : (rOps (formV i.op)).data.toList = [102, 114] := by rw [hf]; rfl
    have ho : opsV i = [opdV i 65, opdV i 98] := by unfold opsV; rw [hf]; rfl
    have hr : rowV (formV i.op) (opsV i) = [opdV i 65, opdV i 98] := by rw [ho, hf]; rfl
    rw [text_n i hr, join_2, hs]
    simp only [rgo, opd_list, hit]
    simp [Ins.get, regAt]
  · have hs : (rOps (formV i.op)).data.toList = [102, 114, 114] := by rw [hf]; rfl
    have ho : opsV i = [opdV i 65, opdV i 98, opdV i 99] := by unfold opsV; rw [hf]; rfl
    have hr : rowV (formV i.op) (opsV i) = [opdV i 65, opdV i 98, opdV i 99] := by rw [ho, hf]; rfl
    rw [text_n i hr, join_3, hs]
    simp only [rgo, opd_list, hit]
    simp [Ins.get, regAt]
  · have hs : (rOps (formV i.op)).data.toList = [114, 105] := by rw [hf]; rfl
    have ho : opsV i = [opdV i 97, opdV i 105] := by unfold opsV; rw [hf]; rfl
    have hr : rowV (formV i.op) (opsV i) = [opdV i 97, opdV i 105] := by rw [ho, hf]; rfl
    rw [text_n i hr, join_2, hs]
    simp only [rgo, opd_list, hit]
    simp [Ins.get, regAt]
theorem names_tab (op : Int) (h : 0 ≤ op ∧ op < 72) : namesC[op.toNat]? = some (.string (nameV op)) := by
  have := List.all_eq_true.1 (show (List.range 72).all (fun k => match namesC[k]? with | some (.string s) => decide (s = nameV (k : Int)) | _ => false) = true by kernel_rfl) op.toNat (List.mem_range.2 (by omega))
  split at this
  · rename_i s hs
    rw [hs]
    have h2 := of_decide_eq_true this
    rw [h2, show ((op.toNat : Nat) : Int) = op by omega]
  · cases this
theorem q9 (n : Nat) (x0 : Value) (hx0 : flat x0 = true) (H : Hp) : evCall cfc (n+1) 9 [x0] H = movR [] H (s9 (evCall cfc n) n x0 Hp.fl) := by
  rw [evCall_quiet (fn := Tryd.f9) (by rfl) (by rfl) Tryd.func9 (by rfl) (by simp [hx0])]
  exact congrArg (movR [] H) (s9_eq _ _ _ _)
theorem text_56 {i : Ins} (h : formV i.op = 5 ∨ formV i.op = 6) (hk : chkV i.op i.A i.B i.C i.I = 0) : ∃ x : UInt8, ((rOps (formV i.op)).extract 0 1 = bs [x] ∧ 1 ≤ (rOps (formV i.op)).size) ∧ (textV i).data.toList = (nameV i.op).data.toList ++ [32] ++ [x] ++ Lib.itoa i.A ++ [44, 32] ++ Lib.itoa i.I ++ [40, 114] ++ Lib.itoa i.B ++ [41] := by
  have hg : ∀ c, -9223372036854775808 ≤ i.get c ∧ i.get c ≤ 9223372036854775807 := fun c => by have := get_small hk c; omega
  have hit : ∀ c, (itoaB (i.get c)).data.toList = Lib.itoa (i.get c) := fun c => itoa_list (hg c)
  rcases h with h | h
  · refine ⟨114, ⟨by rw [h]; kernel_rfl, by rw [h]; decide⟩, ?_⟩
    have ho : opsV i = [opdV i 97, opdV i 105, opdV i 98] := by unfold opsV; rw [h]; rfl
    have hr : rowV (formV i.op) (opsV i) = [opdV i 97, opdV i 105 ++ ⟨#[40]⟩ ++ opdV i 98 ++ ⟨#[41]⟩] := by rw [ho, h]; rfl
    rw [text_n i hr, join_2, app_list, app_list, app_list]
    simp only [opd_list, hit]
    simp [Ins.get]
  · refine ⟨102, ⟨by rw [h]; kernel_rfl, by rw [h]; decide⟩, ?_⟩
    have ho : opsV i = [opdV i 65, opdV i 105, opdV i 98] := by unfold opsV; rw [h]; rfl
    have hr : rowV (formV i.op) (opsV i) = [opdV i 65, opdV i 105 ++ ⟨#[40]⟩ ++ opdV i 98 ++ ⟨#[41]⟩] := by rw [ho, h]; rfl
    rw [text_n i hr, join_2, app_list, app_list, app_list]
    simp only [opd_list, hit]
    simp [Ins.get]
theorem rOps_len (f : Int) : (rOps f).data.toList.length ≤ 3 := by
  by_cases h : 0 ≤ f ∧ f < 16
  · have := of_decide_eq_true (List.all_eq_true.1 (show (List.range 16).all (fun k => decide ((rOps (k : Int)).data.toList.length ≤ 3)) = true by kernel_rfl) f.toNat (List.mem_range.2 (by omega)))
    rwa [show ((f.toNat : Nat) : Int) = f by omega] at this
  · unfold rOps
    rw [if_neg h]
    decide
theorem v9 (hnm : (Mx.nm : Option Blk) = some (.ro namesC)) (n : Nat) (H : Hp) (i : Ins) : evCall cfc (n+40) 9 [i.val] H = some (.ret (textR i), H) := by
  have hfl : flat i.val = true := rfl
  rw [q9 (n+39) _ hfl H]
  suffices hs : (s9 (evCall cfc (n+39)) (n+39) i.val Hp.fl).map Prod.fst = some (.ret (textR i)) by
    obtain ⟨⟨v, H'⟩, h, h2⟩ := Option.map_eq_some_iff.1 hs
    rw [h]
    simp only at h2
    rw [h2]
    exact movR_flat (textR_flat i)
  have g1 : (Hp.fl).get 1 = some (.ro namesC) := hnm
  generalize hH0 : Hp.fl = H0 at g1 ⊢
  have n0 : H0.next = 10 := by subst hH0; rfl
  have l0 : H0.lim = 10 := by subst hH0; rfl
  have c1 : H0.cells 1 = some namesC := by unfold Hp.cells; rw [g1]
  have h26 := fun H => v26 (n+33) H i.op i.A i.B i.C i.I
  have h27 := fun H => v27 (n+37) H i.op
  by_cases hk : chkV i.op i.A i.B i.C i.I = 0
  · have hr : textR i = .tuple #[.string (textV i), .int .i64 0] := if_pos hk
    rw [hr]
    rw [hk] at h26
    obtain ⟨hf1, hf2, hA, hB, hC, hI⟩ := chk_small hk
    obtain ⟨ho1, ho2⟩ := op_range hf1
    have h28 := fun H => v28 (n+37) H (formV i.op) (by omega)
    have hn := names_tab i.op (by omega)
    have hop0 : (0 ≤ i.op) = True := eq_true (by omega)
    have hop1 : (i.op < 72) = True := eq_true (by omega)
    have lN : (nameV i.op).data.toList.length ≤ 10 := by rw [← Lib.size_eq]; exact nameV_size _
    have hnb : nameV i.op = bs (nameV i.op).data.toList := (list_bs _).symm
    have wA := fun H => v29 (n+15) i.A (by omega) H
    have wB := fun H => v29 (n+15) i.B (by omega) H
    have wI := fun H => v29 (n+15) i.I (by omega) H
    rw [itoaB_bs (by omega)] at wA wB wI
    have lA := itoa_len (z := i.A) (by omega)
    have lB := itoa_len (z := i.B) (by omega)
    have lI := itoa_len (z := i.I) (by omega)
    by_cases h56 : formV i.op = 5 ∨ formV i.op = 6
    · obtain ⟨x, ⟨e1, e2⟩, htx⟩ := text_56 h56 hk
      have htb : textV i = bs ((nameV i.op).data.toList ++ [32] ++ [x] ++ Lib.itoa i.A ++ [44, 32] ++ Lib.itoa i.I ++ [40, 114] ++ Lib.itoa i.B ++ [41]) := by rw [← htx, list_bs]
      rw [htb]
      generalize (nameV i.op).data.toList = N at lN hnb ⊢
      rw [hnb] at hn
      have a1 : bin 0 .add (.string (bs N)) (.string ⟨#[32]⟩) = some (.string (bs (N ++ [32]))) := bin_bs 0 N [32] (by simp only [List.length_append, List.length_cons, List.length_nil]; omega)
      have a2 := bin_bs 0 (N ++ [32]) [x] (by simp only [List.length_append, List.length_cons, List.length_nil]; omega)
      have a3 := bin_bs 0 (N ++ [32] ++ [x]) (Lib.itoa i.A) (by simp only [List.length_append, List.length_cons, List.length_nil]; omega)
      have a4 : bin 0 .add (.string (bs (N ++ [32] ++ [x] ++ Lib.itoa i.A))) (.string ⟨#[44, 32]⟩) = some (.string (bs (N ++ [32] ++ [x] ++ Lib.itoa i.A ++ [44, 32]))) := bin_bs 0 (N ++ [32] ++ [x] ++ Lib.itoa i.A) [44, 32] (by simp only [List.length_append, List.length_cons, List.length_nil]; omega)
      have a5 := bin_bs 0 (N ++ [32] ++ [x] ++ Lib.itoa i.A ++ [44, 32]) (Lib.itoa i.I) (by simp only [List.length_append, List.length_cons, List.length_nil]; omega)
      have a6 : bin 0 .add (.string (bs (N ++ [32] ++ [x] ++ Lib.itoa i.A ++ [44, 32] ++ Lib.itoa i.I))) (.string ⟨#[40, 114]⟩) = some (.string (bs (N ++ [32] ++ [x] ++ Lib.itoa i.A ++ [44, 32] ++ Lib.itoa i.I ++ [40, 114]))) := bin_bs 0 (N ++ [32] ++ [x] ++ Lib.itoa i.A ++ [44, 32] ++ Lib.itoa i.I) [40, 114] (by simp only [List.length_append, List.length_cons, List.length_nil]; omega)
      have a7 := bin_bs 0 (N ++ [32] ++ [x] ++ Lib.itoa i.A ++ [44, 32] ++ Lib.itoa i.I ++ [40, 114]) (Lib.itoa i.B) (by simp only [List.length_append, List.length_cons, List.length_nil]; omega)
      have a8 : bin 0 .add (.string (bs (N ++ [32] ++ [x] ++ Lib.itoa i.A ++ [44, 32] ++ Lib.itoa i.I ++ [40, 114] ++ Lib.itoa i.B))) (.string ⟨#[41]⟩) = some (.string (bs (N ++ [32] ++ [x] ++ Lib.itoa i.A ++ [44, 32] ++ Lib.itoa i.I ++ [40, 114] ++ Lib.itoa i.B ++ [41]))) := bin_bs 0 (N ++ [32] ++ [x] ++ Lib.itoa i.A ++ [44, 32] ++ Lib.itoa i.I ++ [40, 114] ++ Lib.itoa i.B) [41] (by simp only [List.length_append, List.length_cons, List.length_nil]; omega)
      have e2' : ((1 : Int) ≤ ((rOps (formV i.op)).size : Int)) = True := eq_true (by omega)
      generalize hf : formV i.op = f at *
      rcases h56 with rfl | rfl
      · simp -implicitDefEqProofs only [s9, ↓GVdn, GVup, goInt, splice, okC, Fr.of, Fr.ofI, Fr.g, Nat.reduceAdd, Nat.reduceMul, Nat.reduceEqDiff, Nat.reduceLT, Nat.reduceLeDiff, Nat.reduceBEq, Int.reduceLT, Int.reduceLE, Int.reduceToNat, Int.reduceAdd, Int.reduceSub, Int.reduceMul, Int.reduceEq, Int.reduceNeg, ↓reduceIte, ↓reduceDIte, Nat.beq, reduceCtorEq, Value.int.injEq, Nat.reduceSub, sto_ptr, lp_succ, opn_lim, n0, l0, c1, h26, h27, h28, hn, hop0, hop1, Ins.val, Ins.cells, wA, wB, wI, e1, e2', a1, a2, a3, a4, a5, a6, a7, a8, Option.map_some]
      · simp -implicitDefEqProofs only [s9, ↓GVdn, GVup, goInt, splice, okC, Fr.of, Fr.ofI, Fr.g, Nat.reduceAdd, Nat.reduceMul, Nat.reduceEqDiff, Nat.reduceLT, Nat.reduceLeDiff, Nat.reduceBEq, Int.reduceLT, Int.reduceLE, Int.reduceToNat, Int.reduceAdd, Int.reduceSub, Int.reduceMul, Int.reduceEq, Int.reduceNeg, ↓reduceIte, ↓reduceDIte, Nat.beq, reduceCtorEq, Value.int.injEq, Nat.reduceSub, sto_ptr, lp_succ, opn_lim, n0, l0, c1, h26, h27, h28, hn, hop0, hop1, Ins.val, Ins.cells, wA, wB, wI, e1, e2', a1, a2, a3, a4, a5, a6, a7, a8, Option.map_some]
    · have e5 : (formV i.op = 5) = False := eq_false (fun h => h56 (.inl h))
      have e6 : (formV i.op = 6) = False := eq_false (fun h => h56 (.inr h))
      have htx := rgo_text hk h56
      have htb : textV i = bs ((nameV i.op).data.toList ++ rgo i 0 (rOps (formV i.op)).data.toList) := by rw [htx, list_bs]
      rw [htb]
      have hl := fun H c10 c11 kx kr => rt_loop (n+15) i (rOps (formV i.op)).data.toList (rOps_len _) (by omega) (by omega) (by omega) hI H c10 c11 kx kr (rOps (formV i.op)).data.toList 0 (n+39) (nameV i.op).data.toList rfl (by have := rOps_len (formV i.op); omega) (by omega)
      rw [list_bs] at hl
      have hl' := hl ((((H0.new (.rw i.cells)).new (.rw [.int .i64 0, .int .i64 0, .int .i64 0])).set 11 (.rw [.int .i64 i.A, .int .i64 i.B, .int .i64 i.C])))
        (by rw [cells_set, if_neg (by decide), cells_new, if_neg (by rw [Hp.next_new, n0]; decide), cells_new, if_pos n0.symm]) (by rw [cells_set, if_pos rfl])
      have hl2 : ∀ kx kr, lp (s9_b1 (evCall cfc (n+39)) (n+39)) (n+39) [ptr 10 0, .string (rOps (formV i.op)), ptr 11 0, .string (bs (nameV i.op).data.toList), .int .i64 0] ((((H0.new (.rw i.cells)).new (.rw [.int .i64 0, .int .i64 0, .int .i64 0])).set 11 (.rw [.int .i64 i.A, .int .i64 i.B, .int .i64 i.C]))) kx kr = _ := hl'
      simp only [Ins.cells] at hl2
      rw [list_bs] at hl2
      simp -implicitDefEqProofs only [s9, ↓GVdn, GVup, goInt, splice, okC, Fr.of, Fr.ofI, Fr.g, Nat.reduceAdd, Nat.reduceMul, Nat.reduceEqDiff, Nat.reduceLT, Nat.reduceLeDiff, Nat.reduceBEq, Int.reduceLT, Int.reduceLE, Int.reduceToNat, Int.reduceAdd, Int.reduceSub, Int.reduceMul, Int.reduceEq, Int.reduceNeg, ↓reduceIte, ↓reduceDIte, Nat.beq, reduceCtorEq, Value.int.injEq, Nat.reduceSub, sto_ptr, opn_lim, n0, l0, c1, h26, h27, h28, hn, hop0, hop1, Ins.val, Ins.cells, e5, e6, hl2, Option.map_some]
  · have hr : textR i = .tuple #[.string emp, .int .i64 (chkV i.op i.A i.B i.C i.I)] := if_neg hk
    rw [hr]
    simp -implicitDefEqProofs only [s9, ↓GVdn, GVup, goInt, splice, okC, Fr.of, Fr.ofI, Fr.g, Nat.reduceAdd, Nat.reduceMul, Nat.reduceEqDiff, Nat.reduceLT, Nat.reduceLeDiff, Nat.reduceBEq, Int.reduceLT, Int.reduceLE, Int.reduceToNat, Int.reduceAdd, Int.reduceSub, Int.reduceMul, Int.reduceEq, Int.reduceNeg, ↓reduceIte, ↓reduceDIte, Nat.beq, reduceCtorEq, Value.int.injEq, Nat.reduceSub, sto_ptr, lp_succ, opn_lim, n0, l0, h26, hk, Ins.val, Ins.cells, emp, Option.map_some]

end Go.Proofs.YtbaooebafijenaaDoor
