/- The document's Parse is the program's. -/
import Derived.Test.YtbaooebafijenaaDoorGRO3
import Derived.Test.YtbaooebafijenaaDoorGPar
import Derived.Test.YtbaooebafijenaaDoorGTxt
import Derived.Test.YtbaooebafijenaaDoorGvBun
namespace Go.Proofs.YtbaooebafijenaaDoor
open Go Go.Ev
set_option maxRecDepth 100000
set_option linter.unusedSimpArgs false
set_option linter.unusedVariables false
set_option maxHeartbeats 4000000
set_option linter.unusedSectionVars false
variable [Mx]
attribute [local congr] bind_front callK_front jn_front ifB_front ifG_front lp_front
theorem q11 (n : Nat) (x0 : Value) (hx0 : flat x0 = true) (H : Hp) : evCall cfc (n+1) 11 [x0] H = movR [] H (s11 (evCall cfc n) n x0 Hp.fl) := by
  rw [evCall_quiet (fn := Tryd.f11) (by rfl) (by rfl) Tryd.func11 (by rfl) (by simp [hx0])]
  exact congrArg (movR [] H) (s11_eq _ _ _ _)
theorem rtk_len : ∀ (k : Nat) (l : Bs), (rtk k l).length ≤ l.length ∧ ∀ p ∈ rtk k l, p.1.length ≤ l.length
  | 0, l => ⟨Nat.zero_le _, fun p hp => by simp [rtk] at hp⟩
  | k + 1, [] => ⟨Nat.zero_le _, fun p hp => by simp [rtk] at hp⟩
  | k + 1, c0 :: l0 => by
    simp only [rtk]
    generalize hg : decide (0 < skipB (c0 :: l0)) = g
    cases hr : (c0 :: l0).drop (skipB (c0 :: l0)) with
    | nil => exact ⟨Nat.zero_le _, fun p hp => by simp at hp⟩
    | cons c r =>
      have hbl := skip_drop _ hr
      have hlr : r.length + 1 ≤ (c0 :: l0).length := by
        have := congrArg List.length hr
        simp only [List.length_drop, List.length_cons] at this ⊢
        omega
      generalize (c0 :: l0).length = N at hlr ⊢
      dsimp only
      by_cases hk : mkB c = true
      · rw [if_pos hk]
        obtain ⟨h1, h2⟩ := rtk_len k r
        refine ⟨by rw [List.length_cons]; omega, fun p hp => ?_⟩
        rcases List.mem_cons.1 hp with rfl | hp
        · show 1 ≤ N
          omega
        · have := h2 p hp; omega
      · rw [if_neg hk]
        have hwn : wordN (c :: r) = wordN r + 1 := by simp [wordN, hbl, hk]
        obtain ⟨h1, h2⟩ := rtk_len k ((c :: r).drop (wordN (c :: r)))
        rw [List.length_drop, hwn, List.length_cons] at h1 h2
        rw [hwn]
        refine ⟨by rw [List.length_cons]; omega, fun p hp => ?_⟩
        rcases List.mem_cons.1 hp with rfl | hp
        · simp only [List.length_take, List.length_cons]
          omega
        · have := h2 p hp; omega
theorem text_words {i : Ins} (hk : chkV i.op i.A i.B i.C i.I = 0) : ∃ W, tk2 (textV i).data.toList [] = (nameV i.op).data.toList :: W := by
  obtain ⟨hf1, hf2, _⟩ := chk_small hk
  obtain ⟨hnm, pn, nn⟩ := name_facts i.op (op_range hf1)
  unfold textV
  split
  · exact ⟨[], tk_0 pn nn⟩
  · refine ⟨tk2 (joinV (rowV (formV i.op) (opsV i))).data.toList [], ?_⟩
    have e : (nameV i.op ++ (⟨#[32]⟩ : ByteArray) ++ joinV (rowV (formV i.op) (opsV i))).data.toList = (nameV i.op).data.toList ++ 32 :: (joinV (rowV (formV i.op) (opsV i))).data.toList := by
      rw [app_list, app_list]; simp
    rw [e, tk2_plain _ _ _ pn, tk2_bl]
    simp [flL, nn]
theorem v11_rest (hnm : (Mx.nm : Option Blk) = some (.ro namesC)) (n : Nat) (s : Bs) (hs : s.length ≤ 536870912) (hn : s.length < n) (H0 : Hp) (n0 : H0.next = 10) (l0 : H0.lim = 10) :
    (s11 (evCall cfc (n+200)) (n+200) (.string (bs s)) H0).map Prod.fst = some (.ret (parR (bs s))) := by
  have hsz : (bs s).size = s.length := by rw [Lib.size_eq, bs_list]
  have h32 := fun H => v32 (n+198) s hs (by omega) H
  have hfst := rtk_fst (s.length + 1) s (by omega)
  obtain ⟨hll, hlw⟩ := rtk_len (s.length + 1) s
  have hpc := par_cases (bs s)
  have htok := tokens_tk2 (bs s)
  rw [bs_list] at htok
  generalize rtk (s.length + 1) s = l at *
  cases l with
  | nil =>
    simp only [List.map_nil] at hfst
    have hp : parR (bs s) = .tuple #[zer.val, .int .i64 3] := by
      rcases hpc with ⟨i, _, hk, ht⟩ | h
      · have hb := back_text hk
        rw [ht, htok, ← hfst] at hb
        exact absurd (congrArg (fun p => p.2.2) hb) (by simp [insV])
      · exact h
    rw [hp]
    have h32 : ∀ H, evCall cfc (n + 200) 32 [.string (bs s)] H = some (.ret (.slice none 0 0), H) := h32
    simp -implicitDefEqProofs only [s11, ↓GVdn, GVup, goInt, splice, okC, Fr.of, Fr.ofI, Fr.g, Nat.reduceAdd, Nat.reduceMul, Nat.reduceEqDiff, Nat.reduceLT, Nat.reduceLeDiff, Nat.reduceBEq, Int.reduceLT, Int.reduceLE, Int.reduceToNat, Int.reduceAdd, Int.reduceSub, Int.reduceMul, Int.reduceEq, Int.reduceNeg, ↓reduceIte, ↓reduceDIte, Nat.beq, reduceCtorEq, Value.int.injEq, Nat.reduceSub, sto_ptr, lp_succ, opn_lim, n0, l0, h32, zer, Ins.val, Ins.cells, Option.map_some]
  | cons p T =>
    have h32 : ∀ H, evCall cfc (n + 200) 32 [.string (bs s)] H = some (.ret (.slice (some ⟨H.next, 0, none⟩) (T.length + 1) 2), H.new (.rw (tkc (p :: T)))) := fun H => (h32 H).trans (by unfold tokR; rw [if_neg (by simp)]; rfl)
    have hlen : (((T.length + 1 : Nat) : Int) = 0) = False := eq_false (by omega)
    by_cases h100 : s.length ≤ 100
    · have g100 : ((100 : Int) < (s.length : Int)) = False := eq_false (by omega)
      have hfind := fun H => v33 hnm (n + 199) (by omega) (bs p.1) H
      have hfst' : tk2 s [] = p.1 :: T.map Prod.fst := hfst.symm
      have hct : (tkc (p :: T))[0]? = some (.string (bs p.1)) := rfl
      have hlt1 : ((0 : Int) < ((T.length + 1 : Nat) : Int)) = True := eq_true (by omega)
      have hle1 : ((1 : Int) ≤ ((T.length + 1 : Nat) : Int)) = True := eq_true (by omega)
      by_cases hneg : namedV (bs p.1) < 0
      · have hp : parR (bs s) = .tuple #[zer.val, .int .i64 3] := by
          rcases hpc with ⟨i, _, hk, ht⟩ | h
          · have hb := back_text hk
            rw [ht, htok, hfst', List.map_cons] at hb
            exact absurd (congrArg (fun p => p.2.2) hb) (by simp [insV, hneg])
          · exact h
        rw [hp]
        have hf0 : fndV (bs p.1) = 0 := if_pos hneg
        rw [hf0] at hfind
        simp -implicitDefEqProofs only [s11, ↓GVdn, GVup, goInt, splice, okC, Fr.of, Fr.ofI, Fr.g, Nat.reduceAdd, Nat.reduceMul, Nat.reduceEqDiff, Nat.reduceLT, Nat.reduceLeDiff, Nat.reduceBEq, Int.reduceLT, Int.reduceLE, Int.reduceToNat, Int.reduceAdd, Int.reduceSub, Int.reduceMul, Int.reduceEq, Int.reduceNeg, ↓reduceIte, ↓reduceDIte, Nat.beq, reduceCtorEq, Value.int.injEq, Nat.reduceSub, sto_ptr, lp_succ, opn_lim, n0, l0, h32, hlen, hsz, g100, hct, hlt1, hle1, hfind, zer, Ins.val, Ins.cells, Option.map_some]
      · have hf0 : fndV (bs p.1) = namedV (bs p.1) := if_neg hneg
        rw [hf0] at hfind
        obtain ⟨f1, f2⟩ := named_form (s := bs p.1) (by omega)
        have hop := op_range f1
        generalize hopq : namedV (bs p.1) = op at *
        have hop0 : (op = 0) = False := eq_false (by omega)
        have hT1 : T.length ≤ 1000 := by simp only [List.length_cons] at hll; omega
        have hw1 : ∀ j, (wd T j).length ≤ 1000 := fun j => by
          unfold wd
          by_cases hj : j < T.length
          · rw [List.getD_eq_getElem?_getD, List.getElem?_eq_getElem hj]
            have := hlw T[j] (List.mem_cons_of_mem _ (List.getElem_mem hj))
            simp only [Option.getD_some]
            omega
          · rw [List.getD_eq_getElem?_getD, List.getElem?_eq_none (by omega)]
            simp
        have ec : tkc (p :: T) = [.string (bs p.1), .bool p.2] ++ tkc T := rfl
        obtain ⟨pr, h34, hgood⟩ := v34 (n + 199) (by omega) ((H0.new (.rw [.int .i64 0, .int .i64 0, .int .i64 0, .int .i64 0, .int .i64 0])).new (.rw (tkc (p :: T)))) (b := 11) (o := 2) (CL := tkc (p :: T)) (T := T) (by simp -implicitDefEqProofs only [cells_new, Hp.next_new, n0]; rfl)
          (by rw [ec, ← tkc_len T]; simp) (by rw [tkc_len, List.length_cons]; omega) op hT1 hw1
        obtain ⟨i, lab, ok⟩ := pr
        have h34 : evCall cfc (n + 200) 34 [.int .i64 op, .slice (some ⟨11, 2, none⟩) T.length 2] ((H0.new (.rw [.int .i64 0, .int .i64 0, .int .i64 0, .int .i64 0, .int .i64 0])).new (.rw (tkc (p :: T)))) = some (.ret (.tuple #[i.val, .string (bs lab), .bool ok]), ((H0.new (.rw [.int .i64 0, .int .i64 0, .int .i64 0, .int .i64 0, .int .i64 0])).new (.rw (tkc (p :: T))))) := h34
        have h9 := fun H => v9 hnm (n + 160) H i
        -- what is answered
        have ans : ∀ (v : Value), parR (bs s) = v → (¬ (ok = true ∧ lab = [] ∧ chkV i.op i.A i.B i.C i.I = 0 ∧ textV i = bs s) → v = .tuple #[zer.val, .int .i64 3]) ∧ ((ok = true ∧ lab = [] ∧ chkV i.op i.A i.B i.C i.I = 0 ∧ textV i = bs s) → v = .tuple #[i.val, .int .i64 0]) := by
          intro v hv
          subst hv
          refine ⟨fun hno => ?_, fun ⟨_, _, hk, ht⟩ => by rw [← ht]; exact par_text hk⟩
          rcases hpc with ⟨i0, _, hk, ht⟩ | h
          · refine absurd ?_ hno
            have e0 : (textV i0).data.toList = s := by rw [ht, bs_list]
            obtain ⟨q1, q2, _⟩ := chk_small hk
            have hnf := (name_facts i0.op (op_range q1)).1
            have hW : ∃ W, tk2 (textV i0).data.toList [] = (nameV i0.op).data.toList :: W := text_words hk
            obtain ⟨W, hW⟩ := hW
            rw [e0, hfst'] at hW
            obtain ⟨w1, w2⟩ := List.cons.inj hW
            have hop1 : i0.op = op := by rw [← hnf, ← hopq, w1, list_bs]
            obtain ⟨g1, g2⟩ := ops_words hk T W w2 (by rw [e0, hfst', w1, w2])
            rw [hop1] at g1 g2
            cases hgood i0 g1 g2
            exact ⟨rfl, rfl, hk, ht⟩
          · exact h
        obtain ⟨ans1, ans2⟩ := ans _ rfl
        by_cases hy : ok = true ∧ lab = [] ∧ chkV i.op i.A i.B i.C i.I = 0 ∧ textV i = bs s
        · rw [ans2 hy]
          obtain ⟨y1, y2, y3, y4⟩ := hy
          subst y1 y2
          have h9 : ∀ H, evCall cfc (n + 200) 9 [i.val] H = some (.ret (.tuple #[.string (bs s), .int .i64 0]), H) := fun H => by rw [h9 H, textR, if_pos y3, y4]
          have he : (bs [] : ByteArray) = ⟨#[]⟩ := rfl
          simp only [Ins.val, Ins.cells] at h34 h9
          simp -implicitDefEqProofs only [s11, ↓GVdn, GVup, goInt, splice, okC, Fr.of, Fr.ofI, Fr.g, Nat.reduceAdd, Nat.reduceMul, Nat.reduceEqDiff, Nat.reduceLT, Nat.reduceLeDiff, Nat.reduceBEq, Int.reduceLT, Int.reduceLE, Int.reduceToNat, Int.reduceAdd, Int.reduceSub, Int.reduceMul, Int.reduceEq, Int.reduceNeg, ↓reduceIte, ↓reduceDIte, Nat.beq, reduceCtorEq, Value.int.injEq, Nat.reduceSub, sto_ptr, lp_succ, opn_lim, n0, l0, h32, hlen, hsz, g100, hct, hlt1, hle1, hfind, hop0, h34, h9, he, Nat.add_sub_cancel, zer, Ins.val, Ins.cells, Option.map_some]
        · rw [ans1 hy]
          have he : (bs [] : ByteArray) = ⟨#[]⟩ := rfl
          have hte : ∃ x e, textR i = .tuple #[.string x, .int .i64 e] ∧ (e = 0 → chkV i.op i.A i.B i.C i.I = 0 ∧ x = textV i) := by
            unfold textR
            split
            · rename_i hk; exact ⟨_, _, rfl, fun _ => ⟨hk, rfl⟩⟩
            · rename_i hk; exact ⟨_, _, rfl, fun h => absurd h hk⟩
          obtain ⟨x, e, hte, hxe⟩ := hte
          have h9 : ∀ H, evCall cfc (n + 200) 9 [i.val] H = some (.ret (.tuple #[.string x, .int .i64 e]), H) := fun H => by rw [h9 H, hte]
          simp only [Ins.val, Ins.cells] at h34 h9
          cases ok with
          | false =>
            simp -implicitDefEqProofs only [s11, ↓GVdn, GVup, goInt, splice, okC, Fr.of, Fr.ofI, Fr.g, Nat.reduceAdd, Nat.reduceMul, Nat.reduceEqDiff, Nat.reduceLT, Nat.reduceLeDiff, Nat.reduceBEq, Int.reduceLT, Int.reduceLE, Int.reduceToNat, Int.reduceAdd, Int.reduceSub, Int.reduceMul, Int.reduceEq, Int.reduceNeg, ↓reduceIte, ↓reduceDIte, Nat.beq, reduceCtorEq, Value.int.injEq, Nat.reduceSub, sto_ptr, lp_succ, opn_lim, n0, l0, h32, hlen, hsz, g100, hct, hlt1, hle1, hfind, hop0, h34, Nat.add_sub_cancel, zer, Ins.val, Ins.cells, Option.map_some]
          | true =>
            by_cases hlab : lab = []
            · subst hlab
              by_cases he0 : e = 0
              · obtain ⟨hk, hxt⟩ := hxe he0
                have hxs : (x = bs s) = False := eq_false (fun h => hy ⟨rfl, rfl, hk, hxt.symm.trans h⟩)
                simp -implicitDefEqProofs only [s11, ↓GVdn, GVup, goInt, splice, okC, Fr.of, Fr.ofI, Fr.g, Nat.reduceAdd, Nat.reduceMul, Nat.reduceEqDiff, Nat.reduceLT, Nat.reduceLeDiff, Nat.reduceBEq, Int.reduceLT, Int.reduceLE, Int.reduceToNat, Int.reduceAdd, Int.reduceSub, Int.reduceMul, Int.reduceEq, Int.reduceNeg, ↓reduceIte, ↓reduceDIte, Nat.beq, reduceCtorEq, Value.int.injEq, Nat.reduceSub, sto_ptr, lp_succ, opn_lim, n0, l0, h32, hlen, hsz, g100, hct, hlt1, hle1, hfind, hop0, h34, h9, he, he0, hxs, Nat.add_sub_cancel, zer, Ins.val, Ins.cells, Option.map_some]
              · have he0 : (e = 0) = False := eq_false he0
                simp -implicitDefEqProofs only [s11, ↓GVdn, GVup, goInt, splice, okC, Fr.of, Fr.ofI, Fr.g, Nat.reduceAdd, Nat.reduceMul, Nat.reduceEqDiff, Nat.reduceLT, Nat.reduceLeDiff, Nat.reduceBEq, Int.reduceLT, Int.reduceLE, Int.reduceToNat, Int.reduceAdd, Int.reduceSub, Int.reduceMul, Int.reduceEq, Int.reduceNeg, ↓reduceIte, ↓reduceDIte, Nat.beq, reduceCtorEq, Value.int.injEq, Nat.reduceSub, sto_ptr, lp_succ, opn_lim, n0, l0, h32, hlen, hsz, g100, hct, hlt1, hle1, hfind, hop0, h34, h9, he, he0, Nat.add_sub_cancel, zer, Ins.val, Ins.cells, Option.map_some]
            · have hlne : (bs lab = ⟨#[]⟩) = False := eq_false (bs_emp hlab)
              simp -implicitDefEqProofs only [s11, ↓GVdn, GVup, goInt, splice, okC, Fr.of, Fr.ofI, Fr.g, Nat.reduceAdd, Nat.reduceMul, Nat.reduceEqDiff, Nat.reduceLT, Nat.reduceLeDiff, Nat.reduceBEq, Int.reduceLT, Int.reduceLE, Int.reduceToNat, Int.reduceAdd, Int.reduceSub, Int.reduceMul, Int.reduceEq, Int.reduceNeg, ↓reduceIte, ↓reduceDIte, Nat.beq, reduceCtorEq, Value.int.injEq, Nat.reduceSub, sto_ptr, lp_succ, opn_lim, n0, l0, h32, hlen, hsz, g100, hct, hlt1, hle1, hfind, hop0, h34, hlne, Nat.add_sub_cancel, zer, Ins.val, Ins.cells, Option.map_some]
    · have g100 : ((100 : Int) < (s.length : Int)) = True := eq_true (by omega)
      have hp : parR (bs s) = .tuple #[zer.val, .int .i64 3] := by
        rcases hpc with ⟨i, _, hk, ht⟩ | h
        · have := text_100 hk
          rw [ht] at this
          omega
        · exact h
      rw [hp]
      simp -implicitDefEqProofs only [s11, ↓GVdn, GVup, goInt, splice, okC, Fr.of, Fr.ofI, Fr.g, Nat.reduceAdd, Nat.reduceMul, Nat.reduceEqDiff, Nat.reduceLT, Nat.reduceLeDiff, Nat.reduceBEq, Int.reduceLT, Int.reduceLE, Int.reduceToNat, Int.reduceAdd, Int.reduceSub, Int.reduceMul, Int.reduceEq, Int.reduceNeg, ↓reduceIte, ↓reduceDIte, Nat.beq, reduceCtorEq, Value.int.injEq, Nat.reduceSub, sto_ptr, lp_succ, opn_lim, n0, l0, h32, hlen, hsz, g100, zer, Ins.val, Ins.cells, Option.map_some]
theorem v11 (hnm : (Mx.nm : Option Blk) = some (.ro namesC)) (n : Nat) (s : ByteArray) (hs : s.size ≤ 536870912) (hn : s.size < n) (H : Hp) : evCall cfc (n+201) 11 [.string s] H = some (.ret (parR s), H) := by
  rw [q11 (n+200) _ rfl H]
  have hx := v11_rest hnm n s.data.toList (by rw [← Lib.size_eq]; exact hs) (by rw [← Lib.size_eq]; exact hn) Hp.fl rfl rfl
  rw [list_bs] at hx
  obtain ⟨⟨v, H'⟩, h, h2⟩ := Option.map_eq_some_iff.1 hx
  rw [h]
  simp only at h2
  rw [h2]
  exact movR_flat (flat_parR s)
theorem q3 (n : Nat) (x0 x1 : Value) (hx0 : flat x0 = true) (hx1 : flat x1 = true) (H : Hp) : evCall cfc (n+1) 3 [x0, x1] H = movR [] H (s3 (evCall cfc n) n x0 x1 Hp.fl) := by
  rw [evCall_quiet (fn := Tryd.f3) (by rfl) (by rfl) Tryd.func3 (by rfl) (by simp [hx0, hx1])]
  exact congrArg (movR [] H) (s3_eq _ _ _ _ _)
theorem v3 (hnm : (Mx.nm : Option Blk) = some (.ro namesC)) (n : Nat) (i : Ins) (s : ByteArray) (hs : s.size ≤ 536870912) (hn : s.size < n) (H : Hp) : evCall cfc (n+202) 3 [i.val, .string s] H = some (.ret (.bool true), H) := by
  have hfl : flat i.val = true := rfl
  rw [q3 (n+201) _ _ hfl rfl H]
  suffices hx : (s3 (evCall cfc (n+201)) (n+201) i.val (.string s) Hp.fl).map Prod.fst = some (.ret (.bool true)) by
    obtain ⟨⟨v, H'⟩, h, h2⟩ := Option.map_eq_some_iff.1 hx
    rw [h]
    simp only at h2
    rw [h2]
    rfl
  generalize hH0 : Hp.fl = H0
  have n0 : H0.next = 10 := by subst hH0; rfl
  have l0 : H0.lim = 10 := by subst hH0; rfl
  have h8 := fun H => v8 (n+191) H i
  have h9 := fun H => v9 hnm (n+161) H i
  have h10 := fun H => v10 (n+111) H s (by omega) (by omega)
  have h11 := fun H => v11 hnm n s hs hn H
  have hte : ∃ x e, textR i = .tuple #[.string x, .int .i64 e] := by unfold textR; split <;> exact ⟨_, _, rfl⟩
  have hpe : ∃ (j : Ins) (e : Int), parR s = .tuple #[j.val, .int .i64 e] := by unfold parR parF; split <;> exact ⟨_, _, rfl⟩
  obtain ⟨x, e, hte⟩ := hte
  obtain ⟨j, e2, hpe⟩ := hpe
  rw [hte] at h8 h9
  rw [hpe] at h10 h11
  simp only [Ins.val, Ins.cells] at h8 h9 h10 h11 ⊢
  simp -implicitDefEqProofs only [s3, ↓GVdn, GVup, goInt, splice, okC, Fr.of, Fr.ofI, Fr.g, Nat.reduceAdd, Nat.reduceMul, Nat.reduceEqDiff, Nat.reduceLT, Nat.reduceLeDiff, Nat.reduceBEq, Int.reduceLT, Int.reduceLE, Int.reduceToNat, Int.reduceAdd, Int.reduceSub, Int.reduceMul, Int.reduceEq, Int.reduceNeg, ↓reduceIte, ↓reduceDIte, Nat.beq, reduceCtorEq, Value.int.injEq, Nat.reduceSub, sto_ptr, lp_succ, opn_lim, n0, l0, h8, h9, h10, h11, Option.map_some]
end Go.Proofs.YtbaooebafijenaaDoor
