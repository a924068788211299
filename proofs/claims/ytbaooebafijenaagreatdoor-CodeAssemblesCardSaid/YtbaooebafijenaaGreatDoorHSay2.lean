/- What a line's words say: an instruction; the document's. -/
import Derived.Test.YtbaooebafijenaaGreatDoorHOpE
import Derived.Test.YtbaooebafijenaaGreatDoorHRead
import Derived.Test.YtbaooebafijenaaGreatDoorHOne3
import Derived.Test.YtbaooebafijenaaGreatDoorHCodeC
import Derived.Test.YtbaooebafijenaaGreatDoorHvBun
namespace Go.Proofs.YtbaooebafijenaaGreatDoor
open Go Go.Ev
set_option maxRecDepth 100000
set_option linter.unusedSimpArgs false
set_option linter.unusedVariables false
set_option maxHeartbeats 1000000
set_option linter.unusedSectionVars false
variable [Mx]
def isMk (w : Bs) : Prop := w = [44] ∨ w = [40] ∨ w = [41] ∨ w = [58]
theorem mk_isMk {c : UInt8} (h : mkB c = true) : isMk [c] := by
 have h := of_decide_eq_true h
 unfold isMk
 rcases h with h | h | h | h
 · exact .inl (by rw [UInt8.toNat_inj.1 (show c.toNat = (44 : UInt8).toNat from h)])
 · exact .inr (.inr (.inr (by rw [UInt8.toNat_inj.1 (show c.toNat = (58 : UInt8).toNat from h)])))
 · exact .inr (.inl (by rw [UInt8.toNat_inj.1 (show c.toNat = (40 : UInt8).toNat from h)]))
 · exact .inr (.inr (.inl (by rw [UInt8.toNat_inj.1 (show c.toNat = (41 : UInt8).toNat from h)])))
def Adj : List (Bs × Bool) → Prop
 | p :: q :: r => (q.2 = false → isMk p.1 ∨ isMk q.1) ∧ Adj (q :: r)
 | _ => True
theorem Adj.tail {p : Bs × Bool} {T : List (Bs × Bool)} (h : Adj (p :: T)) : Adj T := by
 cases T with
 | nil => trivial
 | cons q r => exact h.2
theorem word_stop : ∀ l : Bs, ∀ c r, l.drop (wordN l) = c :: r → blB c = true ∨ mkB c = true
 | [], c, r, h => by cases h
 | x :: l, c, r, h => by
   simp only [wordN] at h
   split at h
   · rename_i hx
     simp only [List.drop_zero] at h
     cases h
     exact hx
   · simp only [List.drop_succ_cons] at h
     exact word_stop l c r h
theorem rtk_front {k : Nat} {c : UInt8} {l : Bs} (h : blB c = true ∨ mkB c = true) {q : Bs × Bool} {r : List (Bs × Bool)} (hr : rtk k (c :: l) = q :: r) (hq : q.2 = false) : isMk q.1 := by
 cases k with
 | zero => simp [rtk] at hr
 | succ k =>
   simp only [rtk] at hr
   by_cases hb : blB c = true
   · have hs : 0 < skipB (c :: l) := by simp only [skipB, hb, if_true]; omega
     split at hr
     · cases hr
     · split at hr
       · cases hr
         simp [hs] at hq
       · cases hr
         simp [hs] at hq
   · have hs : skipB (c :: l) = 0 := by simp only [skipB]; rw [if_neg hb]
     have hm : mkB c = true := by rcases h with h | h; exact absurd h hb; exact h
     rw [hs] at hr
     simp only [List.drop_zero, hm, if_true] at hr
     cases hr
     exact mk_isMk hm
theorem rtk_adj : ∀ (k : Nat) (l : Bs), Adj (rtk k l)
 | 0, l => trivial
 | k + 1, l => by
   simp only [rtk]
   split
   · trivial
   · split
     · trivial
     · rename_i c r he
       split
       · rename_i hm
         have ih := rtk_adj k r
         cases hr : rtk k r with
         | nil => trivial
         | cons q T => rw [hr] at ih; exact ⟨fun _ => .inl (mk_isMk hm), ih⟩
       · rename_i hm
         have ih := rtk_adj k ((c :: r).drop (wordN (c :: r)))
         cases hd : (c :: r).drop (wordN (c :: r)) with
         | nil => cases k <;> trivial
         | cons x y =>
           rw [hd] at ih
           cases hr : rtk k (x :: y) with
           | nil => trivial
           | cons q T => rw [hr] at ih; exact ⟨fun hq => .inr (rtk_front (word_stop _ x y hd) hr hq), ih⟩
theorem mk_named {m : Bs} (h : isMk m) : namedV (bs m) < 0 := by
 rcases h with rfl | rfl | rfl | rfl
 · exact (show namedV (bs [44]) = -1 by kernel_rfl) ▸ (by decide)
 · exact (show namedV (bs [40]) = -1 by kernel_rfl) ▸ (by decide)
 · exact (show namedV (bs [41]) = -1 by kernel_rfl) ▸ (by decide)
 · exact (show namedV (bs [58]) = -1 by kernel_rfl) ▸ (by decide)
theorem mk_label {m : Bs} (h : isMk m) : labelV (bs m) = false := by
 rcases h with rfl | rfl | rfl | rfl <;> kernel_rfl
theorem mk_put {m : Bs} (h : isMk m) (c : Nat) (hc : shpC c) : (putV c (bs m)).2 = false := by
 rcases h with rfl | rfl | rfl | rfl <;> rcases hc with rfl | rfl | rfl | rfl | rfl | rfl | rfl <;> kernel_rfl
theorem mk_ne {m : Bs} (h : isMk m) : ¬ bs m = liB ∧ ¬ bs m = wordB := by
 rcases h with rfl | rfl | rfl | rfl <;> exact ⟨by decide, by decide⟩
theorem ins_first {t : ByteArray} {m : Bs} (h : isMk m) (r : List ByteArray) : (insV (t :: bs m :: r)).2.2 = false := by
 simp only [insV]
 split
 · rfl
 · rename_i hn
   split
   · rfl
   · split
     · rfl
     · rename_i h5 hl
       have hlen := Classical.not_not.1 hl
       have hf := named_form (s := t) (by omega)
       obtain ⟨_, _, hshp⟩ := shp_facts _ hf
       have hL : (opL (formV (namedV t)) (bs m :: r)).getD 0 emp = bs m ∧ 1 ≤ (opL (formV (namedV t)) (bs m :: r)).length := by
         unfold opL
         split
         · exact ⟨rfl, by simp⟩
         · exact ⟨rfl, by simp⟩
       obtain ⟨hL1, hL2⟩ := hL
       cases hs : (shpB (formV (namedV t))).data.toList with
       | nil =>
         have : (shpB (formV (namedV t))).size = 0 := by rw [Lib.size_eq, hs]; rfl
         omega
       | cons c sh =>
         have hc : shpC c.toNat := hshp c (by rw [hs]; exact List.mem_cons_self)
         have : insGo (formV (namedV t)) (betw (formV (namedV t))) (opL (formV (namedV t)) (bs m :: r)) (c :: sh) 0 ⟨namedV t, 0, 0, 0, 0⟩ emp = none := by
           unfold insGo
           rw [if_neg (by omega), Nat.mul_zero, hL1, if_neg (by rw [mk_label h]; simp), if_neg (by rw [mk_put h _ hc]; simp)]
         rw [this]
theorem mark1_none {m : Bs} (h : isMk m) (r : List ByteArray) : rdV (bs m :: r) = none := by
 obtain ⟨h1, h2⟩ := mk_ne h
 simp only [rdV]
 rw [if_neg h1, if_neg h2]
 have : (insV (bs m :: r)).2.2 = false := by
   simp only [insV]
   rw [if_pos (mk_named h)]
 rw [if_neg (by rw [this]; simp)]
theorem mark2_none {m : Bs} (h : isMk m) (t : ByteArray) (r : List ByteArray) : rdV (t :: bs m :: r) = none := by
 simp only [rdV]
 by_cases h1 : t = liB
 · rw [if_pos h1, if_neg]
   intro hl
   have := hl.2.1.1.1
   have e : (t :: bs m :: r).getD 1 emp = bs m := rfl
   rw [e, mk_put h 97 (.inl rfl)] at this
   cases this
 · rw [if_neg h1]
   by_cases h2 : t = wordB
   · rw [if_pos h2, if_neg]
     rintro ⟨_, hv⟩
     have e : (t :: bs m :: r).getD 1 emp = bs m := rfl
     rw [e] at hv
     have hp := mk_put h 105 (by unfold shpC; simp)
     rw [put_imm] at hp
     unfold valueV at hv
     rw [hp] at hv
     cases hv
   · rw [if_neg h2, if_neg (by rw [ins_first h]; simp)]
def ww (T : List (Bs × Bool)) : List ByteArray := T.map fun p => bs p.1
theorem gap_none {p q : Bs × Bool} {r : List (Bs × Bool)} (h : Adj (p :: q :: r)) (hq : q.2 = false) : rdV (ww (p :: q :: r)) = none := by
 rcases h.1 hq with h1 | h1
 · exact mark1_none h1 _
 · exact mark2_none h1 _ _
theorem ww_get (T : List (Bs × Bool)) (j : Nat) : (ww T).getD j emp = bs (wd T j) := by
 unfold ww wd
 rw [List.getD_eq_getElem?_getD, List.getElem?_map, List.getD_eq_getElem?_getD]
 cases T[j]? <;> rfl
theorem ww_len (T : List (Bs × Bool)) : (ww T).length = T.length := List.length_map _
theorem ins_ops {p : Bs × Bool} {T : List (Bs × Bool)} (h0 : 0 ≤ namedV (bs p.1)) (q : Ins × Bs × Bool)
   (h1 : ∀ i lab, opGo (formV (namedV (bs p.1))) T (rOps (formV (namedV (bs p.1)))).data.toList 0 ⟨namedV (bs p.1), 0, 0, 0, 0⟩ [] = some (i, lab) → opGood (formV (namedV (bs p.1))) T (2 * (rOps (formV (namedV (bs p.1)))).data.toList.length - 1) i → q = (i, lab, true))
   (h2 : (∀ i lab, opGo (formV (namedV (bs p.1))) T (rOps (formV (namedV (bs p.1)))).data.toList 0 ⟨namedV (bs p.1), 0, 0, 0, 0⟩ [] = some (i, lab) → ¬ opGood (formV (namedV (bs p.1))) T (2 * (rOps (formV (namedV (bs p.1)))).data.toList.length - 1) i) → q.2.2 = false) :
   (insV (ww (p :: T))).2.2 = q.2.2 ∧ (q.2.2 = true → insV (ww (p :: T)) = (q.1, bs q.2.1, true)) := by
 generalize hop : namedV (bs p.1) = op at *
 have hf := named_form (s := bs p.1) (by rw [hop]; exact h0)
 rw [hop] at hf
 obtain ⟨hR, hnd, hlS, hl3, h56⟩ := rel_form _ hf
 generalize hff : formV op = f at *
 have hsz : (shpB f).size = (shpB f).data.toList.length := Lib.size_eq _
 have hTl : (ww T).length = T.length := ww_len T
 have hopl : ∀ j, j < 5 → (opL f (ww T)).getD j emp = bs (wd T j) := by
   intro j hj
   unfold opL
   split
   · rw [← ww_get, List.getD_eq_getElem?_getD, List.getElem?_take, if_pos hj, ← List.getD_eq_getElem?_getD]
   · exact ww_get T j
 have eI : insV (ww (p :: T)) = if (f = 5 ∨ f = 6) ∧ (¬ (ww T).length = 6 ∨ ¬ (ww T).getD 5 emp = cpar) then (zer, emp, false)
     else if ¬ (opL f (ww T)).length = 2 * (shpB f).size - 1 then (zer, emp, false)
     else match insGo f (betw f) (opL f (ww T)) (shpB f).data.toList 0 ⟨op, 0, 0, 0, 0⟩ emp with
       | none => (zer, emp, false)
       | some (i, tl) => (i, tl, decide (chkV i.op i.A i.B i.C i.I = 0)) := by
   show insV (bs p.1 :: ww T) = _
   simp only [insV]
   rw [if_neg (by omega), hop, hff]
   rfl
 have lenOK : ∀ i, opGood f T (2 * (rOps f).data.toList.length - 1) i → ¬ ((f = 5 ∨ f = 6) ∧ (¬ (ww T).length = 6 ∨ ¬ (ww T).getD 5 emp = cpar)) ∧ (opL f (ww T)).length = 2 * (shpB f).size - 1 := by
   intro i hG
   by_cases h : f = 5 ∨ f = 6
   · have h3 := h56 h
     obtain ⟨⟨g1, g2⟩, g3⟩ := hG.1 h
     rw [← hlS, h3] at g1 g2 g3
     refine ⟨?_, ?_⟩
     · rintro ⟨_, hno⟩
       rcases hno with hno | hno
       · exact hno (by rw [hTl]; exact g3)
       · exact hno (by rw [ww_get]; show bs (wd T 5) = bs [41]; rw [show wd T 5 = [41] from g2])
     · unfold opL
       rw [if_pos h, List.length_take, hTl, hsz, h3]
       omega
   · refine ⟨fun hh => h hh.1, ?_⟩
     unfold opL
     rw [if_neg h, hTl, hsz, hlS]
     exact hG.2.1 h
 by_cases hex : ∃ i lab, opGo f T (rOps f).data.toList 0 ⟨op, 0, 0, 0, 0⟩ [] = some (i, lab) ∧ opGood f T (2 * (rOps f).data.toList.length - 1) i
 · obtain ⟨i, lab, g1, g2⟩ := hex
   obtain rfl := h1 i lab g1 g2
   obtain ⟨l1, l2⟩ := lenOK i g2
   have hgo := op_dp f (betw f) (opL f (ww T)) T (shpB f).data.toList.length hl3 hopl _ _ 0 ⟨op, 0, 0, 0, 0⟩ i [] lab hR (by omega) hnd (fun _ _ _ => rfl) g1
   have hgo : insGo f (betw f) (opL f (ww T)) (shpB f).data.toList 0 ⟨op, 0, 0, 0, 0⟩ emp = some (i, bs lab) := hgo
   have e : insV (ww (p :: T)) = (i, bs lab, true) := by
     rw [eI, if_neg l1, if_neg (Classical.not_not.2 l2), hgo]
     simp only
     rw [decide_eq_true g2.2.2]
   rw [e]
   exact ⟨rfl, fun _ => rfl⟩
 · have hq := h2 (fun i lab g1 g2 => hex ⟨i, lab, g1, g2⟩)
   refine ⟨?_, fun h => by rw [hq] at h; cases h⟩
   rw [hq, eI]
   by_cases l1 : (f = 5 ∨ f = 6) ∧ (¬ (ww T).length = 6 ∨ ¬ (ww T).getD 5 emp = cpar)
   · rw [if_pos l1]
   · rw [if_neg l1]
     by_cases l2 : (opL f (ww T)).length = 2 * (shpB f).size - 1
     · rw [if_neg (Classical.not_not.2 l2)]
       cases hg : insGo f (betw f) (opL f (ww T)) (shpB f).data.toList 0 ⟨op, 0, 0, 0, 0⟩ emp with
       | none => rfl
       | some r =>
         obtain ⟨i, tl⟩ := r
         simp only
         refine decide_eq_false fun hk => hex ⟨i, tl.data.toList, ?_, ?_⟩
         · have hcs := chk_small hk
           obtain ⟨_, _, b1, b2, b3, b4⟩ := hcs
           have hTlen : 2 * (shpB f).data.toList.length - 1 ≤ T.length := by
             unfold opL at l2
             split at l2
             · rw [List.length_take, hTl, hsz] at l2; omega
             · rw [hTl, hsz] at l2; omega
           refine op_pd f (betw f) (opL f (ww T)) T (shpB f).data.toList.length hl3 hTlen hopl _ _ 0 ⟨op, 0, 0, 0, 0⟩ i emp tl hR (by omega) hnd (fun _ _ _ => rfl) hg ?_ (by omega)
           intro c hc hne
           rw [get_fld]
           have hs := (shp_facts f hf).2.2 c hc
           have h4 : fldC c.toNat ≠ 4 := by
             unfold fldC
             rcases hs with h | h | h | h | h | h | h <;> first | (exact absurd h hne) | (rw [h]; decide)
           rcases fld_rng c.toNat with h | h | h | h
           · rw [h]; exact b1
           · rw [h]; exact b2
           · rw [h]; exact b3
           · exact absurd h h4
         · have hnl : ¬ ((f = 5 ∨ f = 6) ∧ (¬ (ww T).length = 6 ∨ ¬ (ww T).getD 5 emp = cpar)) := l1
           refine ⟨fun h => ?_, fun h => ?_, hk⟩
           · have h3 := h56 h
             have g1 : (ww T).length = 6 := by
               by_cases e : (ww T).length = 6
               · exact e
               · exact absurd ⟨h, .inl e⟩ hnl
             have g2 : (ww T).getD 5 emp = cpar := by
               by_cases e : (ww T).getD 5 emp = cpar
               · exact e
               · exact absurd ⟨h, .inr e⟩ hnl
             rw [hTl] at g1
             rw [ww_get] at g2
             rw [← hlS, h3]
             exact ⟨⟨by omega, bs_inj (b := [41]) g2⟩, g1⟩
           · unfold opL at l2
             rw [if_neg h, hTl, hsz, hlS] at l2
             exact l2
     · rw [if_pos l2]
end Go.Proofs.YtbaooebafijenaaGreatDoor
namespace Go.Proofs.YtbaooebafijenaaGreatDoor
open Go Go.Ev
set_option maxRecDepth 100000
set_option linter.unusedSimpArgs false
set_option linter.unusedVariables false
set_option maxHeartbeats 4000000
set_option linter.unusedSectionVars false
variable [Mx]
attribute [local congr] bind_front callK_front jn_front ifB_front ifG_front lp_front
theorem enc_ref {op A B C I : Int} (h : chkV op A B C I = 0) : orK .u32 (orK .u32 (baseV op A B) (shlK .u32 (IntKind.wrap .u32 C) 12)) (andK .u32 (IntKind.wrap .u32 I) 65535) = encV op A B C I := by
 by_cases hh : hasV op = true
 · rw [(chk_has h hh).1]
   have e : shlK .u32 (IntKind.wrap .u32 0) 12 = 0 := by decide
   rw [e, orK_zero _ (base_range _ _ _)]
   simp only [encV, hh, if_true]
 · simp only [Bool.not_eq_true] at hh
   rw [chk_not h hh]
   have e : andK .u32 (IntKind.wrap .u32 0) 65535 = 0 := by decide
   rw [e, orK_zero _ (orK_range _ _)]
   simp only [encV, hh]
   rfl
theorem q18 (n : Nat) (x0 : Value) (hx0 : flat x0 = true) (H : Hp) : evCall cfc (n+1) 18 [x0] H = movR [] H (s18 (evCall cfc n) n x0 Hp.fl) := by
 rw [evCall_quiet (fn := Tryz.f18) (by rfl) (by rfl) Tryz.func18 (by rfl) (by simp [hx0])]
 exact congrArg (movR [] H) (s18_eq _ _ _ _)
theorem v18 (n : Nat) (H : Hp) (op A B C I : Int) : evCall cfc (n+8) 18 [.agg #[.int .i64 op, .int .i64 A, .int .i64 B, .int .i64 C, .int .i64 I]] H = some (.ret (encR op A B C I), H) := by
 rw [q18 (n+7) _ rfl H]
 by_cases hk : chkV op A B C I = 0
 · have he := enc_ref hk
   simp only [baseV] at he
   simp -implicitDefEqProofs only [s18, v33, tabs_gn, ↓someB, ↓callK_ret, ↓ifB_t, ↓ifB_f, ↓ifB_dec, ↓ifG_tt, ↓ifG_ff, ↓ifG_tf, ↓ifG_ft, ↓ifG_undef, ↓ifG_dt, ↓ifG_df, ↓jn_nrm, ↓jn_ex, ↓jn_rt, ↓jn_ite, ↓callK_ite, ↓bind_ite, bin_add, bin_sub, bin_mul, bin_quo, bin_rem, kin_and, kin_or, kin_xor, kin_andNot, bin_eql, bin_neq, bin_lss, bin_leq, bin_gtr, bin_geq, kin_shl, kin_shr, bin_beq, bin_bne, bin_seq, bin_sne, un_not, un_neg, cvI_int, ptr_def, fa_ptr, nilc_ptr, ia_ptr, sa_ptr, fld_agg, fld_one, ix_one, ix_agg, ext1_tuple, ld_ptr, ldN_ptr, st_ptr, pick_t, pick_f, pick_dec, bx_int, bx_bool, bx_str, bx_agg, ifB_t, ifB_f, ifB_dec, ifG_tt, ifG_ff, ifG_tf, ifG_ft, ifG_undef, ifG_dt, ifG_df, not_dec, jn_nrm, jn_ex, jn_rt, jn_ite, lp_succ, callK_ret, callK_ite, bind_ite, someB, len_str, len_sl, pl_get, plA_get, beqA_eql, beqA_neq, seqS_nil, seqS_int, seqS_bool, fillL_nil, fillL_cons, cells_new, cells_set, wc_new, wc_set, next_fl, lim_fl, movR_ret, movR_ite, Hp.next_new, Hp.next_set, Hp.lim_new, Hp.lim_set, goInt, splice, okC, List.getD_cons_zero, List.getD_cons_succ, List.getElem?_cons_zero, List.getElem?_cons_succ, List.length_cons, List.length_nil, List.set_cons_zero, List.set_cons_succ, List.all_cons, List.all_nil, List.getElem?_toArray, Option.bind_some, Option.bind_none, Fr.of, Fr.ofI, Fr.g, cond_true, cond_false, if_true, if_false, Nat.reduceAdd, Nat.reduceMul, Nat.reduceEqDiff, Nat.reduceLT, Nat.reduceLeDiff, Nat.reduceBEq, Int.reduceLT, Int.reduceLE, Int.reduceToNat, Int.reduceAdd, Int.reduceSub, Int.reduceMul, Int.reduceEq, Int.reduceNeg, Int.cast_ofNat_Int, Nat.zero_add, Nat.add_zero, Nat.mul_one, decide_true, decide_false, and_true, true_and, and_self, ↓reduceIte, ↓reduceDIte, Bool.true_and, Bool.and_true, Bool.false_and, Bool.and_false, Bool.not_true, Bool.not_false, not_true_eq_false, not_false_eq_true, Nat.beq, reduceCtorEq, Value.int.injEq, List.drop_zero, List.drop_succ_cons, List.take_succ_cons, List.take_zero, List.take_nil, List.size_toArray, toL_toA, flat_t2, hk, he, encR]
 · simp -implicitDefEqProofs only [s18, v33, tabs_gn, ↓someB, ↓callK_ret, ↓ifB_t, ↓ifB_f, ↓ifB_dec, ↓ifG_tt, ↓ifG_ff, ↓ifG_tf, ↓ifG_ft, ↓ifG_undef, ↓ifG_dt, ↓ifG_df, ↓jn_nrm, ↓jn_ex, ↓jn_rt, ↓jn_ite, ↓callK_ite, ↓bind_ite, bin_add, bin_sub, bin_mul, bin_quo, bin_rem, kin_and, kin_or, kin_xor, kin_andNot, bin_eql, bin_neq, bin_lss, bin_leq, bin_gtr, bin_geq, kin_shl, kin_shr, bin_beq, bin_bne, bin_seq, bin_sne, un_not, un_neg, cvI_int, ptr_def, fa_ptr, nilc_ptr, ia_ptr, sa_ptr, fld_agg, fld_one, ix_one, ix_agg, ext1_tuple, ld_ptr, ldN_ptr, st_ptr, pick_t, pick_f, pick_dec, bx_int, bx_bool, bx_str, bx_agg, ifB_t, ifB_f, ifB_dec, ifG_tt, ifG_ff, ifG_tf, ifG_ft, ifG_undef, ifG_dt, ifG_df, not_dec, jn_nrm, jn_ex, jn_rt, jn_ite, lp_succ, callK_ret, callK_ite, bind_ite, someB, len_str, len_sl, pl_get, plA_get, beqA_eql, beqA_neq, seqS_nil, seqS_int, seqS_bool, fillL_nil, fillL_cons, cells_new, cells_set, wc_new, wc_set, next_fl, lim_fl, movR_ret, movR_ite, Hp.next_new, Hp.next_set, Hp.lim_new, Hp.lim_set, goInt, splice, okC, List.getD_cons_zero, List.getD_cons_succ, List.getElem?_cons_zero, List.getElem?_cons_succ, List.length_cons, List.length_nil, List.set_cons_zero, List.set_cons_succ, List.all_cons, List.all_nil, List.getElem?_toArray, Option.bind_some, Option.bind_none, Fr.of, Fr.ofI, Fr.g, cond_true, cond_false, if_true, if_false, Nat.reduceAdd, Nat.reduceMul, Nat.reduceEqDiff, Nat.reduceLT, Nat.reduceLeDiff, Nat.reduceBEq, Int.reduceLT, Int.reduceLE, Int.reduceToNat, Int.reduceAdd, Int.reduceSub, Int.reduceMul, Int.reduceEq, Int.reduceNeg, Int.cast_ofNat_Int, Nat.zero_add, Nat.add_zero, Nat.mul_one, decide_true, decide_false, and_true, true_and, and_self, ↓reduceIte, ↓reduceDIte, Bool.true_and, Bool.and_true, Bool.false_and, Bool.and_false, Bool.not_true, Bool.not_false, not_true_eq_false, not_false_eq_true, Nat.beq, reduceCtorEq, Value.int.injEq, List.drop_zero, List.drop_succ_cons, List.take_succ_cons, List.take_zero, List.take_nil, List.size_toArray, toL_toA, flat_t2, hk, encR]
def Want.ucells (w : Want) : List Value := [.int .i64 w.line, .int .i64 w.at_, .string w.lab, .int .i64 w.i.op, .int .i64 w.i.A, .int .i64 w.i.B, .int .i64 w.i.C, .int .i64 w.i.I]
def uns (l : List Want) : List Value := l.flatMap Want.ucells
theorem uns_len (l : List Want) : (uns l).length = l.length * 8 := by
 induction l with
 | nil => rfl
 | cons w l ih =>
   have e : uns (w :: l) = w.ucells ++ uns l := rfl
   rw [e, List.length_append, ih, List.length_cons]
   have : w.ucells.length = 8 := rfl
   omega
structure DsS (H : Hp) (A mb : Nat) (a : Asm) (wb tb : Option Nat) : Prop where
 h13 : 12 ≤ A ∧ 12 ≤ mb
 gn : Tabs.gn ≤ H.lim
 lA : H.lim ≤ A
 lm : H.lim ≤ mb
 nA : A < H.next
 nm : mb < H.next
 ne : A ≠ mb
 cell : H.get A = some (.rw [svOf wb a.words.length 1, .map (some mb), svOf tb a.wants.length 8])
 mp : ∃ es ck, H.get mb = some (.mp es ck) ∧ MR es a.labels
 wr : RowS H wb H.lim (wvs a.words)
 tr : RowS H tb H.lim (uns a.wants)
 dw : ∀ b, wb = some b → b ≠ A ∧ tb ≠ some b
 dt : ∀ b, tb = some b → b ≠ A
 bw : a.words.length ≤ 65540 ∧ a.wants.length ≤ 70000
structure KeS (H H' : Hp) (A mb : Nat) (wb tb wb' tb' : Option Nat) : Prop where
 next : H.next ≤ H'.next
 lim : H'.lim = H.lim
 old : ∀ b, b < H.next → b ≠ A → b ≠ mb → wb ≠ some b → tb ≠ some b → H'.get b = H.get b
 w : ∀ b, wb' = some b → wb = some b ∨ H.next ≤ b
 t : ∀ b, tb' = some b → tb = some b ∨ H.next ≤ b
theorem DsS.wlt {H : Hp} {A mb : Nat} {a : Asm} {wb tb : Option Nat} (h : DsS H A mb a wb tb) : ∀ b, wb = some b → b < H.next := fun b e => by have := h.wr; subst e; exact this.2.2.1
theorem DsS.tlt {H : Hp} {A mb : Nat} {a : Asm} {wb tb : Option Nat} (h : DsS H A mb a wb tb) : ∀ b, tb = some b → b < H.next := fun b e => by have := h.tr; subst e; exact this.2.2.1
theorem DsS.keep {H H' : Hp} {A mb : Nat} {a : Asm} {wb tb : Option Nat} (h : DsS H A mb a wb tb) (hk : ∀ b, b < H.next → H'.get b = H.get b) (hn : H.next ≤ H'.next) (hl : H'.lim = H.lim) : DsS H' A mb a wb tb := by
 obtain ⟨es, ck, m1, m2⟩ := h.mp
 have nA := h.nA
 have nm := h.nm
 refine ⟨h.h13, by rw [hl]; exact h.gn, by rw [hl]; exact h.lA, by rw [hl]; exact h.lm, by omega, by omega, h.ne, by rw [hk A nA]; exact h.cell, ⟨es, ck, by rw [hk mb nm]; exact m1, m2⟩, ?_, ?_, h.dw, h.dt, h.bw⟩
 · rw [hl]; exact row_keep h.wr (fun b hb => hk b (h.wlt b hb)) hn
 · rw [hl]; exact row_keep h.tr (fun b hb => hk b (h.tlt b hb)) hn
theorem KeS.ofKeep {H H' : Hp} {A mb : Nat} {wb tb : Option Nat} (hk : ∀ b, b < H.next → H'.get b = H.get b) (hn : H.next ≤ H'.next) (hl : H'.lim = H.lim) : KeS H H' A mb wb tb wb tb :=
 ⟨hn, hl, fun b h _ _ _ _ => hk b h, fun b h => .inl h, fun b h => .inl h⟩
theorem KeS.trans {H H' H2 : Hp} {A mb : Nat} {wb tb wb' tb' wb2 tb2 : Option Nat} (h : KeS H H' A mb wb tb wb' tb') (g : KeS H' H2 A mb wb' tb' wb2 tb2) : KeS H H2 A mb wb tb wb2 tb2 := by
 have h1 := h.next
 have h2 := g.next
 refine ⟨by omega, by rw [g.lim, h.lim], fun b b1 b2 b3 b4 b5 => ?_, fun b e => ?_, fun b e => ?_⟩
 · rw [g.old b (by omega) b2 b3 (fun e => ?_) (fun e => ?_), h.old b b1 b2 b3 b4 b5]
   · rcases h.w b e with h3 | h3
     · exact b4 h3
     · omega
   · rcases h.t b e with h3 | h3
     · exact b5 h3
     · omega
 · rcases g.w b e with h3 | h3
   · exact h.w b h3
   · exact .inr (by omega)
 · rcases g.t b e with h3 | h3
   · exact h.t b h3
   · exact .inr (by omega)
theorem words_app {H : Hp} {A mb : Nat} {a : Asm} {wb tb : Option Nat} (hS : DsS H A mb a wb tb) (ws : List Int) (hne : ws ≠ []) (hb : a.words.length + ws.length ≤ 65540) :
   ∃ H2 wb2 H3, srcC 1 (.slice (some ⟨H.next, 0, none⟩) ws.length 1) (H.new (.rw (wvs ws))) = some (ws.length, wvs ws) ∧ appd 1 4 (svOf wb a.words.length 1) ws.length (wvs ws) (H.new (.rw (wvs ws))) = some (svOf wb2 (a.words.length + ws.length) 1, H2) ∧
     st 1 (ptr A 0) (svOf wb2 (a.words.length + ws.length) 1) H2 = some H3 ∧ DsS H3 A mb { a with words := a.words ++ ws } wb2 tb ∧ KeS H H3 A mb wb tb wb2 tb := by
 have nA := hS.nA
 have nm := hS.nm
 have hl : ws.length ≠ 0 := fun e => hne (List.eq_nil_of_length_eq_zero e)
 have hbw := hS.bw
 obtain ⟨es, ck, m1, m2⟩ := hS.mp
 have e1 : (H.new (.rw (wvs ws))).next = H.next + 1 := rfl
 have srow := srcC_row (H := H.new (.rw (wvs ws))) (lb := some H.next) (lo := 0) (sz := 1) (n := ws.length) (cs := wvs ws) ⟨by rw [Hp.get_new, if_pos rfl], Nat.zero_le _, by omega, fun e => hne (List.map_eq_nil_iff.1 e)⟩ (by rw [wvs_len]; omega) (by decide)
 obtain ⟨H2, wb2, a1, a2, a3, a4, a5, a6⟩ := app_row (sz := 1) (by_ := 4) (H := H.new (.rw (wvs ws))) (n := a.words.length) (cs := wvs a.words) (lb := wb) (lo := H.lim) (by rw [wvs_len]; omega) (row_new hS.wr _) (Nat.le_refl _) (by show H.lim ≤ H.next + 1; have := hS.lA; omega) hS.gn (m := ws.length) (xs := wvs ws) (by cases ws <;> simp [wvs]) (by decide) (decide_eq_true ⟨by omega, by omega⟩) (wvs_ok ws)
 have wneA : wb ≠ some A := fun e => (hS.dw A e).1 rfl
 have cell2 : H2.get A = _ := (a5 A (by omega) wneA).trans ((by rw [Hp.get_new, if_neg (by omega)] : (H.new (.rw (wvs ws))).get A = H.get A).trans hS.cell)
 have lim2 : H2.lim = H.lim := a4
 have fA : st 1 (ptr A 0) (svOf wb2 (a.words.length + ws.length) 1) H2 = some (H2.set A (.rw [svOf wb2 (a.words.length + ws.length) 1, .map (some mb), svOf tb a.wants.length 8])) :=
   st_rwc (o := 0) (n := 1) (rwc_get cell2) (by rw [lim2]; exact hS.lA) (bx_sv _ _ _) rfl (by simp) (by simp [okC_sv])
 have wb2lt : ∀ b, wb2 = some b → H.next + 1 ≤ b := fun b e => a6 b e
 have on : ∀ b, b < H.next → (H.new (.rw (wvs ws))).get b = H.get b := fun b hb => by rw [Hp.get_new, if_neg (by omega)]
 refine ⟨H2, wb2, _, srow, a1, fA, ⟨hS.h13, by show Tabs.gn ≤ H2.lim; rw [lim2]; exact hS.gn, by show H2.lim ≤ A; rw [lim2]; exact hS.lA, by show H2.lim ≤ mb; rw [lim2]; exact hS.lm, by show A < H2.next; omega, by show mb < H2.next; omega, hS.ne, ?_, ?_, ?_, ?_, ?_, hS.dt, ?_⟩, ⟨by show H.next ≤ H2.next; omega, lim2, ?_, fun b e => .inr (by have := wb2lt b e; omega), fun b e => .inl e⟩⟩
 · rw [Hp.get_set, if_pos rfl]
   simp
 · refine ⟨es, ck, ?_, m2⟩
   rw [Hp.get_set, if_neg (fun e => hS.ne e.symm), a5 mb (by omega) (fun e => row_ne hS.wr m1 e), on mb nm]
   exact m1
 · have e : wvs (a.words ++ ws) = wvs a.words ++ wvs ws := by simp [wvs]
   show RowS _ wb2 H2.lim (wvs (a.words ++ ws))
   rw [e, lim2]
   exact row_set a2 _ (fun e => by have := wb2lt A e; omega)
 · show RowS _ tb H2.lim (uns a.wants)
   rw [lim2]
   refine row_set (row_keep hS.tr (fun b hb => ?_) (by omega)) _ (fun e => hS.dt A e rfl)
   rw [a5 b (by have := hS.tlt b hb; omega) (fun e => (hS.dw b e).2 hb), on b (hS.tlt b hb)]
 · intro b hb
   have := wb2lt b hb
   exact ⟨by omega, fun e => by have := hS.tlt b e; omega⟩
 · simp only [List.length_append]
   omega
 · intro b h1 h2 h3 h4 h5
   rw [Hp.get_set, if_neg h2, a5 b (by omega) h4, on b h1]
theorem uses_app {H : Hp} {A mb : Nat} {a : Asm} {wb tb : Option Nat} (hS : DsS H A mb a wb tb) (u : Want) (hb : a.wants.length + 1 ≤ 70000) :
   ∃ H2 tb2 H3, srcC 8 (.slice (some ⟨H.next, 0, none⟩) 1 8) (H.new (.rw u.ucells)) = some (1, u.ucells) ∧ appd 8 72 (svOf tb a.wants.length 8) 1 u.ucells (H.new (.rw u.ucells)) = some (svOf tb2 (a.wants.length + 1) 8, H2) ∧
     st 1 (ptr A 2) (svOf tb2 (a.wants.length + 1) 8) H2 = some H3 ∧ DsS H3 A mb { a with wants := a.wants ++ [u] } wb tb2 ∧ KeS H H3 A mb wb tb wb tb2 := by
 have nA := hS.nA
 have nm := hS.nm
 have hbw := hS.bw
 obtain ⟨es, ck, m1, m2⟩ := hS.mp
 have e1 : (H.new (.rw u.ucells)).next = H.next + 1 := rfl
 have srow := srcC_row (H := H.new (.rw u.ucells)) (lb := some H.next) (lo := 0) (sz := 8) (n := 1) (cs := u.ucells) ⟨by rw [Hp.get_new, if_pos rfl], Nat.zero_le _, by omega, by simp [Want.ucells]⟩ rfl (by decide)
 obtain ⟨H2, tb2, a1, a2, a3, a4, a5, a6⟩ := app_row (sz := 8) (by_ := 72) (H := H.new (.rw u.ucells)) (n := a.wants.length) (cs := uns a.wants) (lb := tb) (lo := H.lim) (uns_len _).symm (row_new hS.tr _) (Nat.le_refl _) (by show H.lim ≤ H.next + 1; have := hS.lA; omega) hS.gn (m := 1) (xs := u.ucells) (by simp [Want.ucells]) (by decide) (decide_eq_true ⟨by omega, by omega⟩) rfl
 have on : ∀ b, b < H.next → (H.new (.rw u.ucells)).get b = H.get b := fun b hb => by rw [Hp.get_new, if_neg (by omega)]
 have cell2 : H2.get A = _ := (a5 A (by omega) (fun e => hS.dt A e rfl)).trans ((on A nA).trans hS.cell)
 have lim2 : H2.lim = H.lim := a4
 have fA : st 1 (ptr A 2) (svOf tb2 (a.wants.length + 1) 8) H2 = some (H2.set A (.rw [svOf wb a.words.length 1, .map (some mb), svOf tb2 (a.wants.length + 1) 8])) :=
   st_rwc (o := 2) (n := 1) (rwc_get cell2) (by rw [lim2]; exact hS.lA) (bx_sv _ _ _) rfl (by simp) (by simp [okC_sv])
 have tb2lt : ∀ b, tb2 = some b → H.next + 1 ≤ b := fun b e => a6 b e
 refine ⟨H2, tb2, _, srow, a1, fA, ⟨hS.h13, by show Tabs.gn ≤ H2.lim; rw [lim2]; exact hS.gn, by show H2.lim ≤ A; rw [lim2]; exact hS.lA, by show H2.lim ≤ mb; rw [lim2]; exact hS.lm, by show A < H2.next; omega, by show mb < H2.next; omega, hS.ne, ?_, ?_, ?_, ?_, ?_, ?_, ?_⟩, ⟨by show H.next ≤ H2.next; omega, lim2, ?_, fun b e => .inl e, fun b e => .inr (by have := tb2lt b e; omega)⟩⟩
 · rw [Hp.get_set, if_pos rfl]
   simp
 · refine ⟨es, ck, ?_, m2⟩
   rw [Hp.get_set, if_neg (fun e => hS.ne e.symm), a5 mb (by omega) (fun e => row_ne hS.tr m1 e), on mb nm]
   exact m1
 · show RowS _ wb H2.lim (wvs a.words)
   rw [lim2]
   refine row_set (row_keep hS.wr (fun b hb => ?_) (by omega)) _ (fun e => (hS.dw A e).1 rfl)
   rw [a5 b (by have := hS.wlt b hb; omega) (fun e => (hS.dw b hb).2 e), on b (hS.wlt b hb)]
 · have e : uns (a.wants ++ [u]) = uns a.wants ++ u.ucells := by simp [uns]
   show RowS _ tb2 H2.lim (uns (a.wants ++ [u]))
   rw [e, lim2]
   exact row_set a2 _ (fun e => by have := tb2lt A e; omega)
 · intro b hb
   exact ⟨(hS.dw b hb).1, fun e => by have := tb2lt b e; have := hS.wlt b hb; omega⟩
 · intro b hb
   have := tb2lt b hb
   omega
 · simp only [List.length_append, List.length_cons, List.length_nil]
   omega
 · intro b h1 h2 h3 h4 h5
   rw [Hp.get_set, if_neg h2, a5 b (by omega) h5, on b h1]
end Go.Proofs.YtbaooebafijenaaGreatDoor
namespace Go.Proofs.YtbaooebafijenaaGreatDoor
open Go Go.Ev
set_option maxRecDepth 100000
set_option linter.unusedSimpArgs false
set_option linter.unusedVariables false
set_option maxHeartbeats 4000000
set_option linter.unusedSectionVars false
variable [Mx]
attribute [local congr] bind_front callK_front jn_front ifB_front ifG_front lp_front
theorem q32 (n : Nat) (x y z : Value) (H : Hp) : evCall cfc (n+1) 32 [x, y, z] H = s32 (evCall cfc n) n x y z H := by
 rw [evCall_open (fn := Tryz.f32) (by rfl) (by rfl) Tryz.func32 (by rfl)]
 exact s32_eq _ _ _ _ _ _
def SayR (n : Nat) (H : Hp) (A mb : Nat) (a : Asm) (wb tb : Option Nat) (v : Value) (line : Int) (r : Option (List Int × Ins × ByteArray)) : Prop :=
 match r with
 | none => ∃ H', evCall cfc (n+100) 32 [ptr A 0, v, .int .i64 line] H = some (.ret (.int .i64 3), H') ∧ (∀ b, b < H.next → H'.get b = H.get b) ∧ H.next ≤ H'.next ∧ H'.lim = H.lim
 | some (ws, i, lab) => ∃ H' wb' tb', evCall cfc (n+100) 32 [ptr A 0, v, .int .i64 line] H = some (.ret (.int .i64 0), H') ∧
     DsS H' A mb { a with words := a.words ++ ws, wants := if lab = emp then a.wants else a.wants ++ [⟨line, a.words.length, i, lab⟩] } wb' tb' ∧ KeS H H' A mb wb tb wb' tb'
structure SlK (H : Hp) (v : Value) (b o : Nat) (CL : List Value) (T : List (Bs × Bool)) : Prop where
 v : v = .slice (some ⟨b, o, none⟩) T.length 2
 c : H.cells b = some CL
 r : (CL.drop o).take (T.length * 2) = tkc T
 l : o + T.length * 2 ≤ CL.length
 n : b < H.next
theorem tkc_snd {T : List (Bs × Bool)} {j : Nat} (h : j < T.length) : (tkc T)[j * 2 + 1]? = some (.bool (T.getD j ([], false)).2) := by
 induction T generalizing j with
 | nil => simp at h
 | cons p T ih =>
   have e : tkc (p :: T) = [.string (bs p.1), .bool p.2] ++ tkc T := rfl
   cases j with
   | zero => rfl
   | succ j =>
     have e2 : (j + 1) * 2 + 1 = [Value.string (bs p.1), .bool p.2].length + (j * 2 + 1) := by show _ = 2 + _; omega
     rw [e, e2, List.getElem?_append_right (Nat.le_add_right _ _), Nat.add_sub_cancel_left, ih (by simpa using h)]
     rfl
theorem SlK.get {H : Hp} {v : Value} {b o : Nat} {CL : List Value} {T : List (Bs × Bool)} (h : SlK H v b o CL T) {j : Nat} (hj : j < T.length) : CL[o + j * 2]? = some (.string (bs (wd T j))) ∧ CL[o + j * 2 + 1]? = some (.bool (T.getD j ([], false)).2) := by
 have h1 := tkc_get hj
 have h2 := tkc_snd hj
 rw [← h.r] at h1 h2
 rw [List.getElem?_take, if_pos (by omega), List.getElem?_drop] at h1 h2
 exact ⟨h1, by rw [Nat.add_assoc]; exact h2⟩
theorem SlK.sa {H : Hp} {v : Value} {b o : Nat} {CL : List Value} {T : List (Bs × Bool)} (h : SlK H v b o CL T) {j : Nat} (hj : j < T.length) : sa 2 v (.int .i64 j) = some (ptr b (o + j * 2)) := by
 rw [h.v]
 simp only [Ev.sa]
 rw [if_pos (by omega)]
 rfl
theorem SlK.len {H : Hp} {v : Value} {b o : Nat} {CL : List Value} {T : List (Bs × Bool)} (h : SlK H v b o CL T) (H' : Hp) : len 1 v H' = some (.int .i64 T.length) := by rw [h.v]; rfl
theorem v51r (n : Nat) (s : Bs) (hn : 22 < n) (H : Hp) (hs : s.length ≤ 1000000) : evCall cfc (n+1) 51 [.string (bs s), .int .u8 114] H = some (.ret (.tuple #[.int .i64 (regD 114 s).1, .bool (regD 114 s).2]), H) := v51 n 114 s hn H hs
theorem v32_word (n : Nat) (H : Hp) (A mb : Nat) (a : Asm) (wb tb : Option Nat) (v : Value) (line : Int) (b o : Nat) (CL : List Value) (p : Bs × Bool) (T : List (Bs × Bool)) (hS : DsS H A mb a wb tb) (hv : SlK H v b o CL (p :: T)) (hw : ∀ j, (wd (p :: T) j).length ≤ 1000000) (hb : a.words.length ≤ 65536)
   (hg : ∀ q r, T = q :: r → q.2 = true) (hp : bs p.1 = wordB) : SayR n H A mb a wb tb v line (rdV (ww (p :: T))) := by
 have hnl : ¬ bs p.1 = liB := by rw [hp]; decide
 have e0 := hv.get (j := 0) (by simp)
 have s0 := hv.sa (j := 0) (by simp)
 simp only [Nat.zero_mul, Nat.add_zero] at e0 s0
 have w0 : wd (p :: T) 0 = p.1 := rfl
 rw [w0] at e0
 have s0 : sa 2 v (.int .i64 0) = some (ptr b o) := s0
 have hl := hv.len
 have hc := hv.c
 have eli : (bs p.1 = ⟨#[108, 105]⟩) = False := eq_false hnl
 have ewd : (bs p.1 = ⟨#[46, 119, 111, 114, 100]⟩) = True := eq_true hp
 have hrd : rdV (ww (p :: T)) = if (ww (p :: T)).length = 2 ∧ (valueV ((ww (p :: T)).getD 1 emp)).2 = true then some ([(valueV ((ww (p :: T)).getD 1 emp)).1], zer, emp) else none := by
   show rdV (bs p.1 :: ww T) = _
   simp only [rdV]
   rw [if_neg hnl, if_pos hp]
   rfl
 rw [hrd]
 simp only [List.length_cons] at hl
 cases T with
 | nil =>
   rw [if_neg (by rintro ⟨h, _⟩; simp [ww] at h)]
   have hl : ∀ H, len 1 v H = some (.int .i64 1) := hl
   refine ⟨H, ?_, fun _ _ => rfl, Nat.le_refl _, rfl⟩
   rw [q32]
   simp -implicitDefEqProofs only [s32, ↓GVdn, GVup, goInt, splice, okC, Fr.of, Fr.ofI, Fr.g, Nat.reduceAdd, Nat.reduceMul, Nat.reduceEqDiff, Nat.reduceLT, Nat.reduceLeDiff, Nat.reduceBEq, Int.reduceLT, Int.reduceLE, Int.reduceToNat, Int.reduceAdd, Int.reduceSub, Int.reduceMul, Int.reduceEq, Int.reduceNeg, ↓reduceIte, ↓reduceDIte, Nat.beq, reduceCtorEq, Value.int.injEq, Nat.reduceSub, hl, s0, hc, e0.1, eli, ewd]
 | cons q r =>
   have hq := hg q r rfl
   have e1 := hv.get (j := 1) (by simp)
   have s1 := hv.sa (j := 1) (by simp)
   have w1 : wd (p :: q :: r) 1 = q.1 := rfl
   rw [w1] at e1
   have g1 : ((p :: q :: r).getD 1 ([], false)).2 = true := hq
   rw [g1] at e1
   simp only [Nat.one_mul] at e1 s1
   have s1 : sa 2 v (.int .i64 1) = some (ptr b (o + 2)) := s1
   have hl1 : (1 < ((r.length + 1 + 1 : Nat) : Int)) = True := eq_true (by omega)
   have hl0 : (((r.length + 1 + 1 : Nat) : Int) = 0) = False := eq_false (by omega)
   simp only [List.length_cons] at hl
   have v59 := fun H => v52 (n + 98) q.1 (by omega) H (by have := hw 1; rw [w1] at this; exact this)
   have gw : (ww (p :: q :: r)).getD 1 emp = bs q.1 := rfl
   rw [gw]
   by_cases hlen : r = []
   · subst hlen
     have hl2 : ((([] : List (Bs × Bool)).length + 1 + 1 : Nat) : Int) = 2 := rfl
     rw [hl2] at hl
     by_cases hn : (numV q.1).2 = true
     · have hwh := num_whole hn
       have hv2 : valueV (bs q.1) = (IntKind.wrap .u32 (numV q.1).1, decide (-2147483648 ≤ (numV q.1).1 ∧ (numV q.1).1 < 4294967296)) := by
         unfold valueV; rw [hwh]; simp
       by_cases hr : -2147483648 ≤ (numV q.1).1 ∧ (numV q.1).1 < 4294967296
       · rw [if_pos ⟨rfl, by rw [hv2]; exact decide_eq_true hr⟩, hv2]
         have r1 : ((numV q.1).1 < -2147483648) = False := eq_false (by omega)
         have r2 : (4294967296 ≤ (numV q.1).1) = False := eq_false (by omega)
         obtain ⟨H2, wb2, H3, f1, f2, f3, f4, f5⟩ := words_app hS [IntKind.wrap .u32 (numV q.1).1] (by simp) (by simp; omega)
         have f1 : srcC 1 (.slice (some ⟨H.next, 0, none⟩) 1 1) (H.new (.rw [.int .u32 (IntKind.wrap .u32 (numV q.1).1)])) = some (1, [.int .u32 (IntKind.wrap .u32 (numV q.1).1)]) := f1
         have f2 : appd 1 4 (svOf wb a.words.length 1) 1 [.int .u32 (IntKind.wrap .u32 (numV q.1).1)] (H.new (.rw [.int .u32 (IntKind.wrap .u32 (numV q.1).1)])) = some (svOf wb2 (a.words.length + 1) 1, H2) := f2
         have f3 : st 1 (ptr A 0) (svOf wb2 (a.words.length + 1) 1) H2 = some H3 := f3
         have cA := cells_get hS.cell
         refine ⟨H3, wb2, tb, ?_, ?_, f5⟩
         · rw [q32]
           simp -implicitDefEqProofs only [s32, ↓GVdn, GVup, goInt, splice, okC, Fr.of, Fr.ofI, Fr.g, Nat.reduceAdd, Nat.reduceMul, Nat.reduceEqDiff, Nat.reduceLT, Nat.reduceLeDiff, Nat.reduceBEq, Int.reduceLT, Int.reduceLE, Int.reduceToNat, Int.reduceAdd, Int.reduceSub, Int.reduceMul, Int.reduceEq, Int.reduceNeg, ↓reduceIte, ↓reduceDIte, Nat.beq, reduceCtorEq, Value.int.injEq, Nat.reduceSub, hl, hl0, s0, s1, hc, e0.1, e1.1, e1.2, eli, ewd, v59, hn, r1, r2, cA, rep, List.replicate, List.flatten_cons, List.flatten_nil, f1, f2, f3, show ((1 : Int) < 2) = True from eq_true (by decide), show ((2 : Int) = 0) = False from eq_false (by decide)]
         · rw [if_pos rfl]
           exact f4
       · rw [if_neg (by rintro ⟨_, h⟩; rw [hv2] at h; exact hr (of_decide_eq_true h))]
         refine ⟨H, ?_, fun _ _ => rfl, Nat.le_refl _, rfl⟩
         rw [q32]
         by_cases r1 : (numV q.1).1 < -2147483648
         · simp -implicitDefEqProofs only [s32, ↓GVdn, GVup, goInt, splice, okC, Fr.of, Fr.ofI, Fr.g, Nat.reduceAdd, Nat.reduceMul, Nat.reduceEqDiff, Nat.reduceLT, Nat.reduceLeDiff, Nat.reduceBEq, Int.reduceLT, Int.reduceLE, Int.reduceToNat, Int.reduceAdd, Int.reduceSub, Int.reduceMul, Int.reduceEq, Int.reduceNeg, ↓reduceIte, ↓reduceDIte, Nat.beq, reduceCtorEq, Value.int.injEq, Nat.reduceSub, hl, hl0, s0, s1, hc, e0.1, e1.1, e1.2, eli, ewd, v59, hn, r1, show ((1 : Int) < 2) = True from eq_true (by decide), show ((2 : Int) = 0) = False from eq_false (by decide)]
         · have r2 : (4294967296 ≤ (numV q.1).1) = True := eq_true (by omega)
           simp -implicitDefEqProofs only [s32, ↓GVdn, GVup, goInt, splice, okC, Fr.of, Fr.ofI, Fr.g, Nat.reduceAdd, Nat.reduceMul, Nat.reduceEqDiff, Nat.reduceLT, Nat.reduceLeDiff, Nat.reduceBEq, Int.reduceLT, Int.reduceLE, Int.reduceToNat, Int.reduceAdd, Int.reduceSub, Int.reduceMul, Int.reduceEq, Int.reduceNeg, ↓reduceIte, ↓reduceDIte, Nat.beq, reduceCtorEq, Value.int.injEq, Nat.reduceSub, hl, hl0, s0, s1, hc, e0.1, e1.1, e1.2, eli, ewd, v59, hn, r1, r2, show ((1 : Int) < 2) = True from eq_true (by decide), show ((2 : Int) = 0) = False from eq_false (by decide)]
     · have hn' : (numV q.1).2 = false := by simpa using hn
       have hv2 : ¬ (valueV (bs q.1)).2 = true := by
         unfold valueV
         simp only [Bool.and_eq_true, decide_eq_true_eq]
         rintro ⟨h1, h2⟩
         exact hn (by rw [whole_num h1 (by omega)])
       rw [if_neg (fun h => hv2 h.2)]
       refine ⟨H, ?_, fun _ _ => rfl, Nat.le_refl _, rfl⟩
       rw [q32]
       simp -implicitDefEqProofs only [s32, ↓GVdn, GVup, goInt, splice, okC, Fr.of, Fr.ofI, Fr.g, Nat.reduceAdd, Nat.reduceMul, Nat.reduceEqDiff, Nat.reduceLT, Nat.reduceLeDiff, Nat.reduceBEq, Int.reduceLT, Int.reduceLE, Int.reduceToNat, Int.reduceAdd, Int.reduceSub, Int.reduceMul, Int.reduceEq, Int.reduceNeg, ↓reduceIte, ↓reduceDIte, Nat.beq, reduceCtorEq, Value.int.injEq, Nat.reduceSub, hl, hl0, s0, s1, hc, e0.1, e1.1, e1.2, eli, ewd, v59, hn', show ((1 : Int) < 2) = True from eq_true (by decide), show ((2 : Int) = 0) = False from eq_false (by decide)]
   · have hlr : 0 < r.length := List.length_pos_iff.2 hlen
     rw [if_neg (by rintro ⟨h, _⟩; simp only [ww_len, List.length_cons] at h; omega)]
     have hl2 : (((r.length + 1 + 1 : Nat) : Int) = 2) = False := eq_false (by omega)
     refine ⟨H, ?_, fun _ _ => rfl, Nat.le_refl _, rfl⟩
     rw [q32]
     simp -implicitDefEqProofs only [s32, ↓GVdn, GVup, goInt, splice, okC, Fr.of, Fr.ofI, Fr.g, Nat.reduceAdd, Nat.reduceMul, Nat.reduceEqDiff, Nat.reduceLT, Nat.reduceLeDiff, Nat.reduceBEq, Int.reduceLT, Int.reduceLE, Int.reduceToNat, Int.reduceAdd, Int.reduceSub, Int.reduceMul, Int.reduceEq, Int.reduceNeg, ↓reduceIte, ↓reduceDIte, Nat.beq, reduceCtorEq, Value.int.injEq, Nat.reduceSub, hl, hl0, hl1, hl2, s0, s1, hc, e0.1, e1.1, e1.2, eli, ewd]
theorem enc_t (n : Nat) (H : Hp) (op A B C I : Int) : evCall cfc (n+8) 18 [.agg #[.int .i64 op, .int .i64 A, .int .i64 B, .int .i64 C, .int .i64 I]] H = some (.ret (.tuple #[.int .u32 (encW op A B C I), .int .i64 (chkV op A B C I)]), H) := by
 rw [v18, encR_W]
theorem v32_li (n : Nat) (H : Hp) (A mb : Nat) (a : Asm) (wb tb : Option Nat) (v : Value) (line : Int) (b o : Nat) (CL : List Value) (p : Bs × Bool) (T : List (Bs × Bool)) (hS : DsS H A mb a wb tb) (hv : SlK H v b o CL (p :: T)) (hw : ∀ j, (wd (p :: T) j).length ≤ 1000000) (hb : a.words.length ≤ 65536)
   (hg : ∀ q r, T = q :: r → q.2 = true) (hp : bs p.1 = liB) : SayR n H A mb a wb tb v line (rdV (ww (p :: T))) := by
 have e0 := hv.get (j := 0) (by simp)
 have s0 := hv.sa (j := 0) (by simp)
 simp only [Nat.zero_mul, Nat.add_zero] at e0 s0
 have w0 : wd (p :: T) 0 = p.1 := rfl
 rw [w0] at e0
 have s0 : sa 2 v (.int .i64 0) = some (ptr b o) := s0
 have hl := hv.len
 have hc := hv.c
 have eli : (bs p.1 = ⟨#[108, 105]⟩) = True := eq_true hp
 have hrd : rdV (ww (p :: T)) = if liOk (ww (p :: T)) then some (liW (putV 97 ((ww (p :: T)).getD 1 emp)).1 (valueV ((ww (p :: T)).getD 3 emp)).1, zer, emp) else none := by
   show rdV (bs p.1 :: ww T) = _
   simp only [rdV]
   rw [if_pos hp]
   rfl
 rw [hrd]
 have hW1 : (ww (p :: T)).getD 1 emp = bs (wd (p :: T) 1) := ww_get _ 1
 have hW2 : (ww (p :: T)).getD 2 emp = bs (wd (p :: T) 2) := ww_get _ 2
 have hW3 : (ww (p :: T)).getD 3 emp = bs (wd (p :: T) 3) := ww_get _ 3
 have hWl : (ww (p :: T)).length = T.length + 1 := by rw [ww_len]; rfl
 rw [hW1, hW3]
 have liE : liOk (ww (p :: T)) ↔ (T.length + 1 = 4 ∧ bs (wd (p :: T) 2) = comma) ∧ (((putV 97 (bs (wd (p :: T) 1))).2 = true ∧ 0 ≤ (putV 97 (bs (wd (p :: T) 1))).1) ∧ (putV 97 (bs (wd (p :: T) 1))).1 ≤ 15) ∧ (valueV (bs (wd (p :: T) 3))).2 = true := by
   unfold liOk
   rw [hW1, hW2, hW3, hWl]
 have hl : ∀ H, len 1 v H = some (.int .i64 ((T.length + 1 : Nat) : Int)) := hl
 have hl0 : (((T.length + 1 : Nat) : Int) = 0) = False := eq_false (by omega)
 have gap : ∀ q r, T = q :: r → sa 2 v (.int .i64 1) = some (ptr b (o + 2)) ∧ CL[o + 2]? = some (.string (bs (wd (p :: T) 1))) ∧ CL[o + 2 + 1]? = some (.bool true) := by
   intro q r e
   have e1 := hv.get (j := 1) (by rw [e]; simp)
   have s1 := hv.sa (j := 1) (by rw [e]; simp)
   have g1 : ((p :: T).getD 1 ([], false)).2 = true := by rw [e]; exact hg q r e
   rw [g1] at e1
   simp only [Nat.one_mul] at e1 s1
   exact ⟨s1, e1.1, e1.2⟩
 by_cases h4 : T.length + 1 = 4
 · obtain ⟨q, r, hT⟩ : ∃ q r, T = q :: r := by
     cases T with
     | nil => simp at h4
     | cons q r => exact ⟨q, r, rfl⟩
   obtain ⟨s1, c1, c1'⟩ := gap q r hT
   have e2 := (hv.get (j := 2) (by simp only [List.length_cons]; omega)).1
   have s2 := hv.sa (j := 2) (by simp only [List.length_cons]; omega)
   have e3 := (hv.get (j := 3) (by simp only [List.length_cons]; omega)).1
   have s3 := hv.sa (j := 3) (by simp only [List.length_cons]; omega)
   have e2 : CL[o + 4]? = some (.string (bs (wd (p :: T) 2))) := e2
   have e3 : CL[o + 6]? = some (.string (bs (wd (p :: T) 3))) := e3
   have s2 : sa 2 v (.int .i64 2) = some (ptr b (o + 4)) := s2
   have s3 : sa 2 v (.int .i64 3) = some (ptr b (o + 6)) := s3
   have hl4 : ((T.length + 1 : Nat) : Int) = 4 := by omega
   rw [hl4] at hl
   have v51 := fun H => v51r (n + 98) (wd (p :: T) 1) (by omega) H (hw 1)
   have v52 := fun H => v52 (n + 98) (wd (p :: T) 3) (by omega) H (hw 3)
   have l14 : ((1 : Int) < 4) = True := eq_true (by decide)
   have l40 : ((4 : Int) = 0) = False := eq_false (by decide)
   by_cases hcm : bs (wd (p :: T) 2) = comma
   · have hcm' : (bs (wd (p :: T) 2) = ⟨#[44]⟩) = True := eq_true hcm
     by_cases hreg : (regD 114 (wd (p :: T) 1)).2 = true
     · obtain ⟨hput, hr0, hr1⟩ := reg_put (c := 97) (d := 114) (by decide) rfl hreg
       by_cases hn : (numV (wd (p :: T) 3)).2 = true
       · have hwh := num_whole hn
         have hv2 : valueV (bs (wd (p :: T) 3)) = (IntKind.wrap .u32 (numV (wd (p :: T) 3)).1, decide (-2147483648 ≤ (numV (wd (p :: T) 3)).1 ∧ (numV (wd (p :: T) 3)).1 < 4294967296)) := by
           unfold valueV; rw [hwh]; simp
         by_cases hr : -2147483648 ≤ (numV (wd (p :: T) 3)).1 ∧ (numV (wd (p :: T) 3)).1 < 4294967296
         · rw [if_pos (liE.2 ⟨⟨h4, hcm⟩, ⟨⟨by rw [hput], by rw [hput]; exact hr0⟩, by rw [hput]; exact hr1⟩, by rw [hv2]; exact decide_eq_true hr⟩), hv2, hput]
           have r1 : ((numV (wd (p :: T) 3)).1 < -2147483648) = False := eq_false (by omega)
           have r2 : (4294967296 ≤ (numV (wd (p :: T) 3)).1) = False := eq_false (by omega)
           simp only [liW]
           generalize hA1 : (regD 114 (wd (p :: T) 1)).1 = rA at *
           generalize hz : (numV (wd (p :: T) 3)).1 = z at *
           have k1 := fun H => enc_t (n + 91) H 27 rA 0 0 (IntKind.wrap .i64 (shrK .u32 (IntKind.wrap .u32 z) 16))
           have k2 := fun H => enc_t (n + 91) H 20 rA rA 0 (IntKind.wrap .i64 (andK .u32 (IntKind.wrap .u32 z) 65535))
           generalize encW 27 rA 0 0 (IntKind.wrap .i64 (shrK .u32 (IntKind.wrap .u32 z) 16)) = hi at *
           generalize encW 20 rA rA 0 (IntKind.wrap .i64 (andK .u32 (IntKind.wrap .u32 z) 65535)) = lo at *
           obtain ⟨H2, wb2, H3, f1, f2, f3, f4, f5⟩ := words_app hS [hi, lo] (by simp) (by simp; omega)
           have f1 : srcC 1 (.slice (some ⟨H.next, 0, none⟩) 2 1) (H.new (.rw [.int .u32 hi, .int .u32 lo])) = some (2, [.int .u32 hi, .int .u32 lo]) := f1
           have f2 : appd 1 4 (svOf wb a.words.length 1) 2 [.int .u32 hi, .int .u32 lo] (H.new (.rw [.int .u32 hi, .int .u32 lo])) = some (svOf wb2 (a.words.length + 2) 1, H2) := f2
           have f3 : st 1 (ptr A 0) (svOf wb2 (a.words.length + 2) 1) H2 = some H3 := f3
           have cA := cells_get hS.cell
           refine ⟨H3, wb2, tb, ?_, ?_, f5⟩
           · rw [q32]
             simp -implicitDefEqProofs only [s32, ↓GVdn, GVup, goInt, splice, okC, Fr.of, Fr.ofI, Fr.g, Nat.reduceAdd, Nat.reduceMul, Nat.reduceEqDiff, Nat.reduceLT, Nat.reduceLeDiff, Nat.reduceBEq, Int.reduceLT, Int.reduceLE, Int.reduceToNat, Int.reduceAdd, Int.reduceSub, Int.reduceMul, Int.reduceEq, Int.reduceNeg, ↓reduceIte, ↓reduceDIte, Nat.beq, reduceCtorEq, Value.int.injEq, Nat.reduceSub, hl, l14, l40, s0, s1, s2, s3, hc, e0.1, c1, c1', e2, e3, eli, hcm', v51, v52, hreg, hn, r1, r2, k1, k2, cA, rep, List.replicate, List.flatten_cons, List.flatten_nil, f1, f2, f3]
           · rw [if_pos rfl]
             exact f4
         · rw [if_neg (fun h => by have := (liE.1 h).2.2; rw [hv2] at this; exact hr (of_decide_eq_true this))]
           refine ⟨H, ?_, fun _ _ => rfl, Nat.le_refl _, rfl⟩
           rw [q32]
           by_cases r1 : (numV (wd (p :: T) 3)).1 < -2147483648
           · simp -implicitDefEqProofs only [s32, ↓GVdn, GVup, goInt, splice, okC, Fr.of, Fr.ofI, Fr.g, Nat.reduceAdd, Nat.reduceMul, Nat.reduceEqDiff, Nat.reduceLT, Nat.reduceLeDiff, Nat.reduceBEq, Int.reduceLT, Int.reduceLE, Int.reduceToNat, Int.reduceAdd, Int.reduceSub, Int.reduceMul, Int.reduceEq, Int.reduceNeg, ↓reduceIte, ↓reduceDIte, Nat.beq, reduceCtorEq, Value.int.injEq, Nat.reduceSub, hl, l14, l40, s0, s1, s2, s3, hc, e0.1, c1, c1', e2, e3, eli, hcm', v51, v52, hreg, hn, r1]
           · have r2 : (4294967296 ≤ (numV (wd (p :: T) 3)).1) = True := eq_true (by omega)
             simp -implicitDefEqProofs only [s32, ↓GVdn, GVup, goInt, splice, okC, Fr.of, Fr.ofI, Fr.g, Nat.reduceAdd, Nat.reduceMul, Nat.reduceEqDiff, Nat.reduceLT, Nat.reduceLeDiff, Nat.reduceBEq, Int.reduceLT, Int.reduceLE, Int.reduceToNat, Int.reduceAdd, Int.reduceSub, Int.reduceMul, Int.reduceEq, Int.reduceNeg, ↓reduceIte, ↓reduceDIte, Nat.beq, reduceCtorEq, Value.int.injEq, Nat.reduceSub, hl, l14, l40, s0, s1, s2, s3, hc, e0.1, c1, c1', e2, e3, eli, hcm', v51, v52, hreg, hn, r1, r2]
       · have hn' : (numV (wd (p :: T) 3)).2 = false := by simpa using hn
         have hv2 : ¬ (valueV (bs (wd (p :: T) 3))).2 = true := by
           unfold valueV
           simp only [Bool.and_eq_true, decide_eq_true_eq]
           rintro ⟨h1, h2⟩
           exact hn (by rw [whole_num h1 (by omega)])
         rw [if_neg (fun h => hv2 (liE.1 h).2.2)]
         refine ⟨H, ?_, fun _ _ => rfl, Nat.le_refl _, rfl⟩
         rw [q32]
         simp -implicitDefEqProofs only [s32, ↓GVdn, GVup, goInt, splice, okC, Fr.of, Fr.ofI, Fr.g, Nat.reduceAdd, Nat.reduceMul, Nat.reduceEqDiff, Nat.reduceLT, Nat.reduceLeDiff, Nat.reduceBEq, Int.reduceLT, Int.reduceLE, Int.reduceToNat, Int.reduceAdd, Int.reduceSub, Int.reduceMul, Int.reduceEq, Int.reduceNeg, ↓reduceIte, ↓reduceDIte, Nat.beq, reduceCtorEq, Value.int.injEq, Nat.reduceSub, hl, l14, l40, s0, s1, s2, s3, hc, e0.1, c1, c1', e2, e3, eli, hcm', v51, v52, hreg, hn']
     · have hreg' : (regD 114 (wd (p :: T) 1)).2 = false := by simpa using hreg
       rw [if_neg (fun h => by
         have h1 := (liE.1 h).2.1
         have := put_reg (c := 97) (d := 114) (by decide) rfl h1.1.1 ⟨h1.1.2, h1.2⟩
         rw [this] at hreg'
         cases hreg')]
       refine ⟨H, ?_, fun _ _ => rfl, Nat.le_refl _, rfl⟩
       rw [q32]
       simp -implicitDefEqProofs only [s32, ↓GVdn, GVup, goInt, splice, okC, Fr.of, Fr.ofI, Fr.g, Nat.reduceAdd, Nat.reduceMul, Nat.reduceEqDiff, Nat.reduceLT, Nat.reduceLeDiff, Nat.reduceBEq, Int.reduceLT, Int.reduceLE, Int.reduceToNat, Int.reduceAdd, Int.reduceSub, Int.reduceMul, Int.reduceEq, Int.reduceNeg, ↓reduceIte, ↓reduceDIte, Nat.beq, reduceCtorEq, Value.int.injEq, Nat.reduceSub, hl, l14, l40, s0, s1, s2, s3, hc, e0.1, c1, c1', e2, e3, eli, hcm', v51, v52, hreg']
   · have hcm' : (bs (wd (p :: T) 2) = ⟨#[44]⟩) = False := eq_false hcm
     rw [if_neg (fun h => hcm (liE.1 h).1.2)]
     refine ⟨H, ?_, fun _ _ => rfl, Nat.le_refl _, rfl⟩
     rw [q32]
     simp -implicitDefEqProofs only [s32, ↓GVdn, GVup, goInt, splice, okC, Fr.of, Fr.ofI, Fr.g, Nat.reduceAdd, Nat.reduceMul, Nat.reduceEqDiff, Nat.reduceLT, Nat.reduceLeDiff, Nat.reduceBEq, Int.reduceLT, Int.reduceLE, Int.reduceToNat, Int.reduceAdd, Int.reduceSub, Int.reduceMul, Int.reduceEq, Int.reduceNeg, ↓reduceIte, ↓reduceDIte, Nat.beq, reduceCtorEq, Value.int.injEq, Nat.reduceSub, hl, l14, l40, s0, s1, s2, s3, hc, e0.1, c1, c1', e2, e3, eli, hcm']
 · rw [if_neg (fun h => h4 (liE.1 h).1.1)]
   have hl4 : (((T.length + 1 : Nat) : Int) = 4) = False := eq_false (by omega)
   refine ⟨H, ?_, fun _ _ => rfl, Nat.le_refl _, rfl⟩
   rw [q32]
   cases hT : T with
   | nil =>
     rw [hT] at hl
     have hl : ∀ H, len 1 v H = some (.int .i64 1) := hl
     simp -implicitDefEqProofs only [s32, ↓GVdn, GVup, goInt, splice, okC, Fr.of, Fr.ofI, Fr.g, Nat.reduceAdd, Nat.reduceMul, Nat.reduceEqDiff, Nat.reduceLT, Nat.reduceLeDiff, Nat.reduceBEq, Int.reduceLT, Int.reduceLE, Int.reduceToNat, Int.reduceAdd, Int.reduceSub, Int.reduceMul, Int.reduceEq, Int.reduceNeg, ↓reduceIte, ↓reduceDIte, Nat.beq, reduceCtorEq, Value.int.injEq, Nat.reduceSub, hl, s0, hc, e0.1, eli, show ((1 : Int) = 4) = False from eq_false (by decide), show ((1 : Int) < 1) = False from eq_false (by decide), show ((1 : Int) = 0) = False from eq_false (by decide)]
   | cons q r =>
     obtain ⟨s1, c1, c1'⟩ := gap q r hT
     have hl1 : (1 < ((T.length + 1 : Nat) : Int)) = True := eq_true (by rw [hT]; simp only [List.length_cons]; omega)
     simp -implicitDefEqProofs only [s32, ↓GVdn, GVup, goInt, splice, okC, Fr.of, Fr.ofI, Fr.g, Nat.reduceAdd, Nat.reduceMul, Nat.reduceEqDiff, Nat.reduceLT, Nat.reduceLeDiff, Nat.reduceBEq, Int.reduceLT, Int.reduceLE, Int.reduceToNat, Int.reduceAdd, Int.reduceSub, Int.reduceMul, Int.reduceEq, Int.reduceNeg, ↓reduceIte, ↓reduceDIte, Nat.beq, reduceCtorEq, Value.int.injEq, Nat.reduceSub, hl, hl0, hl1, hl4, s0, s1, hc, e0.1, c1, c1', eli]
end Go.Proofs.YtbaooebafijenaaGreatDoor
namespace Go.Proofs.YtbaooebafijenaaGreatDoor
open Go Go.Ev
set_option maxRecDepth 100000
set_option linter.unusedSimpArgs false
set_option linter.unusedVariables false
set_option maxHeartbeats 4000000
set_option linter.unusedSectionVars false
variable [Mx]
attribute [local congr] bind_front callK_front jn_front ifB_front ifG_front lp_front
theorem SlK.sl {H : Hp} {v : Value} {b o : Nat} {CL : List Value} {T : List (Bs × Bool)} (h : SlK H v b o CL T) {j : Nat} (hj : j ≤ T.length) : slV 2 v (some (.int .i64 j)) none = some (.slice (some ⟨b, o + j * 2, none⟩) (T.length - j) 2) := by
 rw [h.v]
 simp only [slV, optInt, Option.bind_some]
 rw [if_pos ⟨trivial, Int.natCast_nonneg _, Int.ofNat_le.2 hj, Int.le_refl _⟩]
 simp only [Int.toNat_natCast]
theorem SlK.drop {H : Hp} {v : Value} {b o : Nat} {CL : List Value} {T : List (Bs × Bool)} (h : SlK H v b o CL T) {j : Nat} (hj : j ≤ T.length) : SlK H (.slice (some ⟨b, o + j * 2, none⟩) (T.length - j) 2) b (o + j * 2) CL (T.drop j) := by
 refine ⟨by rw [List.length_drop], h.c, ?_, by rw [List.length_drop]; have := h.l; omega, h.n⟩
 have e : tkc (T.drop j) = (tkc T).drop (j * 2) := by
   clear h
   induction T generalizing j with
   | nil => simp [tkc]
   | cons p T ih =>
     cases j with
     | zero => simp
     | succ j =>
       have e : tkc (p :: T) = [.string (bs p.1), .bool p.2] ++ tkc T := rfl
       have e2 : (j + 1) * 2 = [Value.string (bs p.1), .bool p.2].length + j * 2 := by show _ = 2 + _; omega
       rw [e, e2, List.drop_append, List.drop_of_length_le (Nat.le_add_right _ _), List.nil_append, Nat.add_sub_cancel_left, List.drop_succ_cons]
       exact ih (by simpa using hj)
 rw [e, ← h.r, List.drop_take, List.length_drop]
 rw [List.drop_drop]
 congr 1
 omega
theorem v32_op (hnm : (Mx.nm : Option Blk) = some (.ro namesC)) (n : Nat) (H : Hp) (A mb : Nat) (a : Asm) (wb tb : Option Nat) (v : Value) (line : Int) (b o : Nat) (CL : List Value) (p : Bs × Bool) (T : List (Bs × Bool)) (hS : DsS H A mb a wb tb) (hv : SlK H v b o CL (p :: T)) (hw : ∀ j, (wd (p :: T) j).length ≤ 1000000) (hT : T.length ≤ 1000000) (hb : a.words.length ≤ 65536) (hb2 : a.wants.length ≤ 65536)
   (hg : ∀ q r, T = q :: r → q.2 = true) (hp : ¬ bs p.1 = liB) (hp2 : ¬ bs p.1 = wordB) : SayR n H A mb a wb tb v line (rdV (ww (p :: T))) := by
 have e0 := hv.get (j := 0) (by simp)
 have s0 := hv.sa (j := 0) (by simp)
 simp only [Nat.zero_mul, Nat.add_zero] at e0 s0
 have w0 : wd (p :: T) 0 = p.1 := rfl
 rw [w0] at e0
 have s0 : sa 2 v (.int .i64 0) = some (ptr b o) := s0
 have hl : ∀ H, len 1 v H = some (.int .i64 ((T.length + 1 : Nat) : Int)) := hv.len
 have hc := hv.c
 have eli : (bs p.1 = ⟨#[108, 105]⟩) = False := eq_false hp
 have ewd : (bs p.1 = ⟨#[46, 119, 111, 114, 100]⟩) = False := eq_false hp2
 have hrd : rdV (ww (p :: T)) = if (insV (ww (p :: T))).2.2 = true then some ([encW (insV (ww (p :: T))).1.op (insV (ww (p :: T))).1.A (insV (ww (p :: T))).1.B (insV (ww (p :: T))).1.C (insV (ww (p :: T))).1.I], (insV (ww (p :: T))).1, (insV (ww (p :: T))).2.1) else none := by
   show rdV (bs p.1 :: ww T) = _
   simp only [rdV]
   rw [if_neg hp, if_neg hp2]
   rfl
 rw [hrd]
 have hl0 : (((T.length + 1 : Nat) : Int) = 0) = False := eq_false (by omega)
 have hsl := hv.sl (j := 1) (by simp)
 have hvd := hv.drop (j := 1) (by simp)
 simp only [Nat.one_mul, List.length_cons, Nat.add_sub_cancel, List.drop_succ_cons, List.drop_zero] at hsl hvd
 have hsl : slV 2 v (some (.int .i64 1)) none = some (.slice (some ⟨b, o + 2, none⟩) T.length 2) := hsl
 have front : (T = [] ∧ (1 < ((T.length + 1 : Nat) : Int)) = False) ∨ ((1 < ((T.length + 1 : Nat) : Int)) = True ∧ sa 2 v (.int .i64 1) = some (ptr b (o + 2)) ∧ CL[o + 2 + 1]? = some (.bool true)) := by
   cases T with
   | nil => exact .inl ⟨rfl, eq_false (by decide)⟩
   | cons q r =>
     right
     have e1 := hv.get (j := 1) (by simp)
     have s1 := hv.sa (j := 1) (by simp)
     have g1 : ((p :: q :: r).getD 1 ([], false)).2 = true := hg q r rfl
     rw [g1] at e1
     simp only [Nat.one_mul] at e1 s1
     exact ⟨eq_true (by simp only [List.length_cons]; omega), s1, e1.2⟩
 have v53 := fun H => v53 hnm (n + 98) (by omega) (bs p.1) H
 by_cases hn0 : namedV (bs p.1) < 0
 · have hf : fndV (bs p.1) = 0 := if_pos hn0
   rw [hf] at v53
   have : (insV (ww (p :: T))).2.2 = false := by
     show (insV (bs p.1 :: ww T)).2.2 = false
     simp only [insV]
     rw [if_pos hn0]
   rw [if_neg (by rw [this]; simp)]
   refine ⟨H, ?_, fun _ _ => rfl, Nat.le_refl _, rfl⟩
   rw [q32]
   rcases front with ⟨hT0, f1⟩ | ⟨f1, f2, f3⟩
   · simp -implicitDefEqProofs only [s32, ↓GVdn, GVup, goInt, splice, okC, Fr.of, Fr.ofI, Fr.g, Nat.reduceAdd, Nat.reduceMul, Nat.reduceEqDiff, Nat.reduceLT, Nat.reduceLeDiff, Nat.reduceBEq, Int.reduceLT, Int.reduceLE, Int.reduceToNat, Int.reduceAdd, Int.reduceSub, Int.reduceMul, Int.reduceEq, Int.reduceNeg, ↓reduceIte, ↓reduceDIte, Nat.beq, reduceCtorEq, Value.int.injEq, Nat.reduceSub, hl, hl0, f1, s0, hc, e0.1, eli, ewd, v53]
   · simp -implicitDefEqProofs only [s32, ↓GVdn, GVup, goInt, splice, okC, Fr.of, Fr.ofI, Fr.g, Nat.reduceAdd, Nat.reduceMul, Nat.reduceEqDiff, Nat.reduceLT, Nat.reduceLeDiff, Nat.reduceBEq, Int.reduceLT, Int.reduceLE, Int.reduceToNat, Int.reduceAdd, Int.reduceSub, Int.reduceMul, Int.reduceEq, Int.reduceNeg, ↓reduceIte, ↓reduceDIte, Nat.beq, reduceCtorEq, Value.int.injEq, Nat.reduceSub, hl, hl0, f1, f2, f3, s0, hc, e0.1, eli, ewd, v53]
 · have hf : fndV (bs p.1) = namedV (bs p.1) := if_neg hn0
   rw [hf] at v53
   have hfm := named_form (s := bs p.1) (by omega)
   have hopne : (namedV (bs p.1) = 0) = False := eq_false (fun e => by rw [e] at hfm; exact absurd hfm.1 (by decide))
   have hwT : ∀ j, (wd T j).length ≤ 1000000 := fun j => by
     have := hw (j + 1)
     exact this
   obtain ⟨q, h54, g1, g2⟩ := v54 (n + 98) (by omega) H hvd.c hvd.r hvd.l (namedV (bs p.1)) hT hwT
   obtain ⟨k1, k2⟩ := ins_ops (p := p) (T := T) (by omega) q g1 g2
   have nz : ∀ (w : Asm), True := fun _ => trivial
   have hlimN : H.lim ≤ H.next := by have := hS.lA; have := hS.nA; omega
   obtain ⟨i, lab, ok⟩ := q
   simp only at k1 k2
   generalize hz5 : ([.int .i64 0, .int .i64 0, .int .i64 0, .int .i64 0, .int .i64 0] : List Value) = z5
   have zl : z5.length = 5 := by subst hz5; rfl
   have fI : st 5 (ptr H.next 0) i.val (H.new (.rw z5)) = some ((H.new (.rw z5)).set H.next (.rw i.cells)) :=
     st_rwc (cs := z5) (o := 0) (n := 5) (vs := i.cells) (by rw [rwc_new, if_pos rfl]) (by show H.lim ≤ H.next; omega) rfl rfl (by omega) rfl |>.trans (by subst hz5; rfl)
   have oI : ∀ c, c < H.next → ((H.new (.rw z5)).set H.next (.rw i.cells)).get c = H.get c := fun c hc => by rw [Hp.get_set, if_neg (by omega), Hp.get_new, if_neg (by omega)]
   have cI : ((H.new (.rw z5)).set H.next (.rw i.cells)).cells H.next = some i.cells := by rw [cells_set, if_pos rfl]
   have gI : ((H.new (.rw z5)).set H.next (.rw i.cells)).get H.next = some (.rw i.cells) := by rw [Hp.get_set, if_pos rfl]
   have nI : ((H.new (.rw z5)).set H.next (.rw i.cells)).next = H.next + 1 := rfl
   have lI : ((H.new (.rw z5)).set H.next (.rw i.cells)).lim = H.lim := rfl
   have hSI := hS.keep oI (by rw [nI]; omega) lI
   have hKI : KeS H ((H.new (.rw z5)).set H.next (.rw i.cells)) A mb wb tb wb tb := KeS.ofKeep oI (by rw [nI]; omega) lI
   generalize hHI : (H.new (.rw z5)).set H.next (.rw i.cells) = HI at fI oI cI gI nI lI hSI hKI
   have opr : opR (i, lab, ok) = .tuple #[i.val, .string (bs lab), .bool ok] := rfl
   rw [opr] at h54
   have i5 : i.cells.length = 5 := rfl
   have i5t : i.cells.take 5 = i.cells := rfl
   have iv : i.val = .agg i.cells.toArray := rfl
   cases ok with
   | false =>
     rw [if_neg (by rw [k1]; simp)]
     refine ⟨HI, ?_, oI, by omega, lI⟩
     rw [q32]
     subst hz5
     rcases front with ⟨hT0, f1⟩ | ⟨f1, f2, f3⟩
     · simp -implicitDefEqProofs only [s32, ↓GVdn, GVup, goInt, splice, okC, Fr.of, Fr.ofI, Fr.g, Nat.reduceAdd, Nat.reduceMul, Nat.reduceEqDiff, Nat.reduceLT, Nat.reduceLeDiff, Nat.reduceBEq, Int.reduceLT, Int.reduceLE, Int.reduceToNat, Int.reduceAdd, Int.reduceSub, Int.reduceMul, Int.reduceEq, Int.reduceNeg, ↓reduceIte, ↓reduceDIte, Nat.beq, reduceCtorEq, Value.int.injEq, Nat.reduceSub, hl, hl0, f1, s0, hc, e0.1, eli, ewd, v53, hopne, hsl, h54, fI]
     · simp -implicitDefEqProofs only [s32, ↓GVdn, GVup, goInt, splice, okC, Fr.of, Fr.ofI, Fr.g, Nat.reduceAdd, Nat.reduceMul, Nat.reduceEqDiff, Nat.reduceLT, Nat.reduceLeDiff, Nat.reduceBEq, Int.reduceLT, Int.reduceLE, Int.reduceToNat, Int.reduceAdd, Int.reduceSub, Int.reduceMul, Int.reduceEq, Int.reduceNeg, ↓reduceIte, ↓reduceDIte, Nat.beq, reduceCtorEq, Value.int.injEq, Nat.reduceSub, hl, hl0, f1, f2, f3, s0, hc, e0.1, eli, ewd, v53, hopne, hsl, h54, fI]
   | true =>
     rw [if_pos (by rw [k1])]
     rw [k2 rfl]
     simp only
     have kE := fun H => enc_t (n + 91) H i.op i.A i.B i.C i.I
     generalize hW : encW i.op i.A i.B i.C i.I = W at *
     have kE : ∀ H, evCall cfc (n + 99) 18 [.agg i.cells.toArray] H = some (.ret (.tuple #[.int .u32 W, .int .i64 (chkV i.op i.A i.B i.C i.I)]), H) := kE
     by_cases hlab : lab = []
     · have hlab1 : bs lab = emp := by rw [hlab]; rfl
       have hlab' : (bs lab = ⟨#[]⟩) = True := eq_true hlab1
       obtain ⟨H2, wb2, H3, f1', f2', f3', f4, f5⟩ := words_app hSI [W] (by simp) (by simp; omega)
       rw [nI] at f1'
       have f1' : srcC 1 (.slice (some ⟨H.next + 1, 0, none⟩) 1 1) (HI.new (.rw [.int .u32 W])) = some (1, [.int .u32 W]) := f1'
       have f2' : appd 1 4 (svOf wb a.words.length 1) 1 [.int .u32 W] (HI.new (.rw [.int .u32 W])) = some (svOf wb2 (a.words.length + 1) 1, H2) := f2'
       have f3' : st 1 (ptr A 0) (svOf wb2 (a.words.length + 1) 1) H2 = some H3 := f3'
       have cA := cells_get hSI.cell
       refine ⟨H3, wb2, tb, ?_, ?_, hKI.trans f5⟩
       · rw [q32]
         subst hz5
         rcases front with ⟨hT0, f1⟩ | ⟨f1, f2, f3⟩
         · simp -implicitDefEqProofs only [s32, ↓GVdn, GVup, goInt, splice, okC, Fr.of, Fr.ofI, Fr.g, Nat.reduceAdd, Nat.reduceMul, Nat.reduceEqDiff, Nat.reduceLT, Nat.reduceLeDiff, Nat.reduceBEq, Int.reduceLT, Int.reduceLE, Int.reduceToNat, Int.reduceAdd, Int.reduceSub, Int.reduceMul, Int.reduceEq, Int.reduceNeg, ↓reduceIte, ↓reduceDIte, Nat.beq, reduceCtorEq, Value.int.injEq, Nat.reduceSub, hl, hl0, f1, s0, hc, e0.1, eli, ewd, v53, hopne, hsl, h54, fI, hlab', cI, i5, i5t, kE, cA, nI, rep, List.replicate, List.flatten_cons, List.flatten_nil, f1', f2', f3']
         · simp -implicitDefEqProofs only [s32, ↓GVdn, GVup, goInt, splice, okC, Fr.of, Fr.ofI, Fr.g, Nat.reduceAdd, Nat.reduceMul, Nat.reduceEqDiff, Nat.reduceLT, Nat.reduceLeDiff, Nat.reduceBEq, Int.reduceLT, Int.reduceLE, Int.reduceToNat, Int.reduceAdd, Int.reduceSub, Int.reduceMul, Int.reduceEq, Int.reduceNeg, ↓reduceIte, ↓reduceDIte, Nat.beq, reduceCtorEq, Value.int.injEq, Nat.reduceSub, hl, hl0, f1, f2, f3, s0, hc, e0.1, eli, ewd, v53, hopne, hsl, h54, fI, hlab', cI, i5, i5t, kE, cA, nI, rep, List.replicate, List.flatten_cons, List.flatten_nil, f1', f2', f3']
       · rw [if_pos hlab1]
         exact f4
     · have hlab1 : ¬ bs lab = emp := bs_emp hlab
       have hlab' : (bs lab = ⟨#[]⟩) = False := eq_false hlab1
       have hbi := hSI.bw
       obtain ⟨H2, tb2, H3, f1', f2', f3', f4, f5⟩ := uses_app hSI ⟨line, a.words.length, i, bs lab⟩ (by omega)
       rw [nI] at f1'
       have uc : (Want.mk line a.words.length i (bs lab)).ucells = [.int .i64 line, .int .i64 a.words.length, .string (bs lab), .int .i64 i.op, .int .i64 i.A, .int .i64 i.B, .int .i64 i.C, .int .i64 i.I] := rfl
       rw [uc] at f1' f2'
       have f3' : st 1 (ptr A 2) (svOf tb2 (a.wants.length + 1) 8) H2 = some H3 := f3'
       have cA := cells_get hSI.cell
       have c3 : H3.cells H.next = some i.cells := cells_get (by
         rw [f5.old H.next (by omega) (by have := hS.nA; omega) (by have := hS.nm; omega) (fun e => by have := hS.wlt _ e; omega) (fun e => by have := hS.tlt _ e; omega)]
         exact gI)
       have hwl : ∀ H, len 1 (svOf wb a.words.length 1) H = some (.int .i64 a.words.length) := fun H => len_sv _ _ _ _ (row_none hS.wr)
       have hb4 := f4.bw
       obtain ⟨H5, wb2, H6, g1', g2', g3', g4, g5⟩ := words_app f4 [W] (by simp) (by simp; omega)
       have g1' : srcC 1 (.slice (some ⟨H3.next, 0, none⟩) 1 1) (H3.new (.rw [.int .u32 W])) = some (1, [.int .u32 W]) := g1'
       have g2' : appd 1 4 (svOf wb a.words.length 1) 1 [.int .u32 W] (H3.new (.rw [.int .u32 W])) = some (svOf wb2 (a.words.length + 1) 1, H5) := g2'
       have g3' : st 1 (ptr A 0) (svOf wb2 (a.words.length + 1) 1) H5 = some H6 := g3'
       have cA3 := cells_get f4.cell
       have ic : i.cells = [.int .i64 i.op, .int .i64 i.A, .int .i64 i.B, .int .i64 i.C, .int .i64 i.I] := rfl
       refine ⟨H6, wb2, tb2, ?_, ?_, (hKI.trans f5).trans g5⟩
       · rw [q32]
         subst hz5
         rw [ic] at cI c3 kE
         rw [iv, ic] at fI h54
         have kE : ∀ H, evCall cfc (n + 99) 18 [.agg #[.int .i64 i.op, .int .i64 i.A, .int .i64 i.B, .int .i64 i.C, .int .i64 i.I]] H = _ := kE
         have fI : st 5 (ptr H.next 0) (.agg #[.int .i64 i.op, .int .i64 i.A, .int .i64 i.B, .int .i64 i.C, .int .i64 i.I]) (H.new (.rw [.int .i64 0, .int .i64 0, .int .i64 0, .int .i64 0, .int .i64 0])) = some HI := fI
         have h54 : evCall cfc (n + 99) 54 [.int .i64 (namedV (bs p.1)), .slice (some ⟨b, o + 2, none⟩) T.length 2] H = some (.ret (.tuple #[.agg #[.int .i64 i.op, .int .i64 i.A, .int .i64 i.B, .int .i64 i.C, .int .i64 i.I], .string (bs lab), .bool true]), H) := h54
         rcases front with ⟨hT0, f1⟩ | ⟨f1, f2, f3⟩
         · simp -implicitDefEqProofs only [s32, ↓GVdn, GVup, goInt, splice, okC, Fr.of, Fr.ofI, Fr.g, Nat.reduceAdd, Nat.reduceMul, Nat.reduceEqDiff, Nat.reduceLT, Nat.reduceLeDiff, Nat.reduceBEq, Int.reduceLT, Int.reduceLE, Int.reduceToNat, Int.reduceAdd, Int.reduceSub, Int.reduceMul, Int.reduceEq, Int.reduceNeg, ↓reduceIte, ↓reduceDIte, Nat.beq, reduceCtorEq, Value.int.injEq, Nat.reduceSub, opn_lim, hl, hl0, f1, s0, hc, e0.1, eli, ewd, v53, hopne, hsl, h54, fI, hlab', cI, hwl, kE, cA, cA3, c3, nI, rep, List.replicate, List.flatten_cons, List.flatten_nil, f1', f2', f3', g1', g2', g3']
         · simp -implicitDefEqProofs only [s32, ↓GVdn, GVup, goInt, splice, okC, Fr.of, Fr.ofI, Fr.g, Nat.reduceAdd, Nat.reduceMul, Nat.reduceEqDiff, Nat.reduceLT, Nat.reduceLeDiff, Nat.reduceBEq, Int.reduceLT, Int.reduceLE, Int.reduceToNat, Int.reduceAdd, Int.reduceSub, Int.reduceMul, Int.reduceEq, Int.reduceNeg, ↓reduceIte, ↓reduceDIte, Nat.beq, reduceCtorEq, Value.int.injEq, Nat.reduceSub, opn_lim, hl, hl0, f1, f2, f3, s0, hc, e0.1, eli, ewd, v53, hopne, hsl, h54, fI, hlab', cI, hwl, kE, cA, cA3, c3, nI, rep, List.replicate, List.flatten_cons, List.flatten_nil, f1', f2', f3', g1', g2', g3']
       · rw [if_neg hlab1]
         exact g4
end Go.Proofs.YtbaooebafijenaaGreatDoor
