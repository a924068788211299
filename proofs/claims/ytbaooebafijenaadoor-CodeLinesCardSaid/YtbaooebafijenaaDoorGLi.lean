/- Lines of instructions are their words: the law CodeLines over the evaluator. -/
import Derived.Test.YtbaooebafijenaaDoorGLiP
import Derived.Test.YtbaooebafijenaaDoorGLab
import Derived.Test.YtbaooebafijenaaDoorGvBun
namespace Go.Proofs.YtbaooebafijenaaDoor
open Go Go.Ev
set_option maxRecDepth 100000
set_option linter.unusedSimpArgs false
set_option linter.unusedVariables false
set_option maxHeartbeats 4000000
set_option linter.unusedSectionVars false
variable [Mx]
attribute [local congr] bind_front callK_front jn_front ifB_front ifG_front lp_front
/-! ### Two rows of words that are the same -/
theorem same_loop (C : Cl) (n : Nat) (ws : List Int) (hl : ws.length ≤ 4294967296) (kx : Nat → Fr → Hp → Option (Out × Hp)) (kr : Fr → Hp → Option (Out × Hp)) (H : Hp) (c10 : H.cells 10 = some (wvs ws)) (c11 : H.cells 11 = some (wvs ws)) : ∀ (r k m : Nat), k + r = ws.length → r < m →
    lp (s17_b1 C n) m [.slice (some ⟨10, 0, none⟩) ws.length 1, .slice (some ⟨11, 0, none⟩) ws.length 1, .int .i64 k] H kx kr = kx 0 (Fr.of [4] [dead]) H := by
  intro r
  induction r with
  | zero =>
    intro k m hk hm
    obtain ⟨m, rfl⟩ : ∃ q, m = q + 1 := ⟨m - 1, by omega⟩
    have hlt : ((k : Int) < (ws.length : Int)) = False := eq_false (by omega)
    rw [lp_succ]
    simp -implicitDefEqProofs only [s17_b1, ↓GVdn, GVup, goInt, splice, okC, Fr.of, Fr.ofI, Fr.g, Nat.reduceAdd, Nat.reduceMul, Nat.reduceEqDiff, Nat.reduceLT, Nat.reduceLeDiff, Nat.reduceBEq, Int.reduceLT, Int.reduceLE, Int.reduceToNat, Int.reduceAdd, Int.reduceSub, Int.reduceMul, Int.reduceEq, Int.reduceNeg, ↓reduceIte, ↓reduceDIte, Nat.beq, reduceCtorEq, Value.int.injEq, Nat.reduceSub, sto_ptr, hlt]
  | succ r ih =>
    intro k m hk hm
    obtain ⟨m, rfl⟩ : ∃ q, m = q + 1 := ⟨m - 1, by omega⟩
    have hlt : ((k : Int) < (ws.length : Int)) = True := eq_true (by omega)
    have hi0 : ((0 : Int) ≤ (k : Int)) = True := eq_true (by omega)
    have hkl : k < ws.length := by omega
    have hg : (wvs ws)[k]? = some (.int .u32 ws[k]) := by unfold wvs; simp [hkl]
    have hw1 : IntKind.wrap .i64 ((k : Int) + 1) = ((k + 1 : Nat) : Int) := by rw [IntWalk.i64_in _ (by omega)]; rfl
    have ih := ih (k + 1) m (by omega) (by omega)
    rw [lp_succ]
    simp -implicitDefEqProofs only [s17_b1, ↓GVdn, GVup, goInt, splice, okC, Fr.of, Fr.ofI, Fr.g, Nat.reduceAdd, Nat.reduceMul, Nat.reduceEqDiff, Nat.reduceLT, Nat.reduceLeDiff, Nat.reduceBEq, Int.reduceLT, Int.reduceLE, Int.reduceToNat, Int.reduceAdd, Int.reduceSub, Int.reduceMul, Int.reduceEq, Int.reduceNeg, ↓reduceIte, ↓reduceDIte, Nat.beq, reduceCtorEq, Value.int.injEq, Nat.reduceSub, sto_ptr, opn_lim, hlt, hi0, c10, c11, hg, hw1, ih]
theorem v17_nil (n : Nat) (H : Hp) : evCall cfc (n+2) 17 [.slice none 0 0, .slice none 0 0] H = some (.ret (.bool true), H) := by
  rw [evCall_quiet (fn := Tryd.f17) (by rfl) (by rfl) Tryd.func17 (by rfl) (by rfl)]
  refine (congrArg (movR [] H) (s17_eq _ _ _ _ _)).trans ?_
  simp -implicitDefEqProofs only [s17, s17_b1, ↓GVdn, GVup, goInt, splice, okC, Fr.of, Fr.ofI, Fr.g, Nat.reduceAdd, Nat.reduceMul, Nat.reduceEqDiff, Nat.reduceLT, Nat.reduceLeDiff, Nat.reduceBEq, Int.reduceLT, Int.reduceLE, Int.reduceToNat, Int.reduceAdd, Int.reduceSub, Int.reduceMul, Int.reduceEq, Int.reduceNeg, ↓reduceIte, ↓reduceDIte, Nat.beq, reduceCtorEq, Value.int.injEq, Nat.reduceSub, sto_ptr, lp_succ, opn_lim, flat_bool]
theorem pk_two (x y : Nat × Nat × List Value) : (Hp.pk [x, y]).get 10 = some (.ro x.2.2) ∧ (Hp.pk [x, y]).get 11 = some (.ro y.2.2) := by
  have e : Hp.pk [x, y] = Hp.cl ((Hp.fl.new (.ro x.2.2)).new (.ro y.2.2)) := rfl
  have e1 : (Hp.fl).next = 10 := rfl
  have e2 : (Hp.fl.new (.ro x.2.2)).next = 11 := rfl
  rw [e, cl_opn]
  constructor
  · rw [get_opn, Hp.get_new, if_neg (by rw [e2]; decide), Hp.get_new, if_pos e1.symm]
  · rw [get_opn, Hp.get_new, if_pos e2.symm]
theorem cells_ro {H : Hp} {b : Nat} {cs : List Value} (h : H.get b = some (.ro cs)) : H.cells b = some cs := by unfold Hp.cells; rw [h]
theorem v17 (n : Nat) (H : Hp) (ws : List Int) {b c : Nat} (hb : H.cells b = some (wvs ws)) (hc : H.cells c = some (wvs ws)) (hn : ws.length < n) (hl : ws.length ≤ 4294967296) : evCall cfc (n+1) 17 [.slice (some ⟨b, 0, none⟩) ws.length 1, .slice (some ⟨c, 0, none⟩) ws.length 1] H = some (.ret (.bool true), H) := by
  have hf : ∀ d, flat (.slice (some ⟨d, 0, none⟩) ws.length 1) = false := fun d => rfl
  have htk : ((wvs ws).drop 0).take ws.length = wvs ws := by rw [List.drop_zero, List.take_of_length_le (by rw [wvs_len]; omega)]
  have hp : pkA H [.slice (some ⟨b, 0, none⟩) ws.length 1, .slice (some ⟨c, 0, none⟩) ws.length 1] [] = some ([.slice (some ⟨10, 0, none⟩) ws.length 1, .slice (some ⟨11, 0, none⟩) ws.length 1], [(b, 0, wvs ws), (c, 0, wvs ws)]) := by
    simp only [pkA, pkV, hf, hb, hc, Option.bind_some, Nat.mul_one, htk, Bool.false_eq_true, if_false]
    rw [if_pos ⟨by rw [wvs_len]; omega, wvs_flat ws⟩]
    simp only [Option.bind_some]
    rw [if_pos ⟨by rw [wvs_len]; omega, wvs_flat ws⟩]
    rfl
  rw [evCall_pk (fn := Tryd.f17) (by rfl) (by rfl) Tryd.func17 (by rfl) hp]
  refine (congrArg (movR _ H) (s17_eq _ _ _ _ _)).trans ?_
  generalize hH0 : Hp.pk [(b, 0, wvs ws), (c, 0, wvs ws)] = H0
  have c10 : H0.cells 10 = some (wvs ws) := by subst hH0; exact cells_ro (pk_two _ _).1
  have c11 : H0.cells 11 = some (wvs ws) := by subst hH0; exact cells_ro (pk_two _ _).2
  have hlp := fun kx kr => same_loop (evCall cfc n) n ws hl kx kr H0 c10 c11 ws.length 0 n (by omega) hn
  have hlp' : ∀ kx kr, lp (s17_b1 (evCall cfc n) n) n [.slice (some ⟨10, 0, none⟩) ws.length 1, .slice (some ⟨11, 0, none⟩) ws.length 1, .int .i64 0] H0 kx kr = _ := hlp
  have hs : s17 (evCall cfc n) n (.slice (some ⟨10, 0, none⟩) ws.length 1) (.slice (some ⟨11, 0, none⟩) ws.length 1) H0 = some (.ret (.bool true), H0) := by
    simp -implicitDefEqProofs only [s17, ↓GVdn, GVup, goInt, splice, okC, Fr.of, Fr.ofI, Fr.g, Nat.reduceAdd, Nat.reduceMul, Nat.reduceEqDiff, Nat.reduceLT, Nat.reduceLeDiff, Nat.reduceBEq, Int.reduceLT, Int.reduceLE, Int.reduceToNat, Int.reduceAdd, Int.reduceSub, Int.reduceMul, Int.reduceEq, Int.reduceNeg, ↓reduceIte, ↓reduceDIte, Nat.beq, reduceCtorEq, Value.int.injEq, Nat.reduceSub, sto_ptr, opn_lim, hlp']
  rw [hs]
  exact movR_flat rfl
/-! ### The rounds -/
structure InL (y1 y2 : Value) (LC DC : List Value) (n1 n2 : Nat) (I : Nat → Ins) (D : Nat → Int) : Prop where
  len1 : ∀ H, len 1 y1 H = some (.int .i64 n1)
  len2 : ∀ H, len 1 y2 H = some (.int .i64 n2)
  sa1 : ∀ i : Nat, i < n1 → sa 5 y1 (.int .i64 i) = some (ptr 10 (i * 5))
  sa2 : ∀ i : Nat, i < n2 → sa 1 y2 (.int .i64 i) = some (ptr 11 i)
  le1 : LC.length = n1 * 5
  get1 : ∀ i : Nat, i < n1 → (LC.drop (i * 5)).take 5 = (I i).cells
  get2 : ∀ i : Nat, i < n2 → DC[i]? = some (.int .i64 (D i))
/-- the number of what stands behind an instruction -/
def gapV (n2 : Nat) (D : Nat → Int) (i : Nat) : Nat := if 0 < n2 then ((IntKind.wrap .u64 (D (i % n2))).tmod 4).toNat else 0
theorem gap_lt (n2 : Nat) (D : Nat → Int) (i : Nat) : gapV n2 D i < 4 := by
  unfold gapV
  split
  · have h := (u64_rng (D (i % n2))).1
    have h1 := Int.tmod_nonneg 4 h
    have h2 := Int.tmod_lt_of_pos (IntKind.wrap .u64 (D (i % n2))) (show (0 : Int) < 4 by decide)
    omega
  · decide
def prs (I : Nat → Ins) (n2 : Nat) (D : Nat → Int) : Nat → Nat → List (Ins × Nat)
  | _, 0 => []
  | k, r + 1 => if (I k).chk = 0 then (I k, gapV n2 D k) :: prs I n2 D (k + 1) r else prs I n2 D (k + 1) r
theorem prs_ok (I : Nat → Ins) (n2 : Nat) (D : Nat → Int) : ∀ (r k : Nat), ∀ p ∈ prs I n2 D k r, p.1.chk = 0
  | 0, k, p, h => by cases h
  | r + 1, k, p, h => by
    simp only [prs] at h
    split at h
    · rename_i hk
      rcases List.mem_cons.1 h with rfl | h
      · exact hk
      · exact prs_ok I n2 D r (k + 1) p h
    · exact prs_ok I n2 D r (k + 1) p h
theorem prs_len (I : Nat → Ins) (n2 : Nat) (D : Nat → Int) : ∀ (r k : Nat), (prs I n2 D k r).length ≤ r
  | 0, k => Nat.le_refl _
  | r + 1, k => by
    have := prs_len I n2 D r (k + 1)
    simp only [prs]
    split <;> simp <;> omega
def wds (l : List (Ins × Nat)) : List Int := l.map fun p => p.1.word
def mores : List Value := [.string ⟨#[10]⟩, .string ⟨#[32, 59, 32, 110, 111, 116, 104, 105, 110, 103, 10]⟩, .string ⟨#[10, 9, 10]⟩, .string ⟨#[32, 32, 10, 59, 10]⟩]
theorem mores_at (g : Nat) (h : g < 4) : mores[g]? = some (.string (bs (moreL g))) := by
  have : g = 0 ∨ g = 1 ∨ g = 2 ∨ g = 3 := by omega
  rcases this with rfl | rfl | rfl | rfl <;> (show _ = _; kernel_rfl)
structure PL (H : Hp) (LC DC : List Value) (l : List (Ins × Nat)) (wb : Option Nat) : Prop where
  lim : H.lim = 12
  next : 13 ≤ H.next
  c10 : H.get 10 = some (.ro LC)
  c11 : H.get 11 = some (.ro DC)
  c12 : H.get 12 = some (.rw mores)
  row : RowS H wb 13 (wvs (wds l))
  ok : ∀ p ∈ l, p.1.chk = 0
theorem li_loop (n : Nat) {y1 y2 : Value} {LC DC : List Value} {n1 n2 : Nat} {I : Nat → Ins} {D : Nat → Int} (hI : InL y1 y2 LC DC n1 n2 I D) (h300 : n1 ≤ 300) : ∀ (r k m : Nat), k + r = n1 → r < m → ∀ (H : Hp) (l : List (Ins × Nat)) (wb : Option Nat), PL H LC DC l wb → l.length ≤ k →
    ∃ H' wb', (∀ (kx : Nat → Fr → Hp → Option (Out × Hp)) (kr : Fr → Hp → Option (Out × Hp)), lp (s5_b1 (evCall cfc (n+10)) (n+10)) m [y1, y2, ptr 12 0, .string (bs (tx l)), svOf wb (wds l).length 1, .int .i64 k] H kx kr = kx 0 (Fr.of [6, 7] [.string (bs (tx (l ++ prs I n2 D k r))), svOf wb' (wds (l ++ prs I n2 D k r)).length 1]) H') ∧ PL H' LC DC (l ++ prs I n2 D k r) wb' := by
  intro r
  induction r with
  | zero =>
    intro k m hk hm H l wb hP hl
    obtain ⟨m, rfl⟩ : ∃ q, m = q + 1 := ⟨m - 1, by omega⟩
    have hlt : ((k : Int) < (n1 : Int)) = False := eq_false (by omega)
    have len1 := hI.len1
    simp only [prs, List.append_nil]
    refine ⟨H, wb, fun kx kr => ?_, hP⟩
    rw [lp_succ]
    simp -implicitDefEqProofs only [s5_b1, ↓GVdn, GVup, goInt, splice, okC, Fr.of, Fr.ofI, Fr.g, Nat.reduceAdd, Nat.reduceMul, Nat.reduceEqDiff, Nat.reduceLT, Nat.reduceLeDiff, Nat.reduceBEq, Int.reduceLT, Int.reduceLE, Int.reduceToNat, Int.reduceAdd, Int.reduceSub, Int.reduceMul, Int.reduceEq, Int.reduceNeg, ↓reduceIte, ↓reduceDIte, Nat.beq, reduceCtorEq, Value.int.injEq, Nat.reduceSub, sto_ptr, len1, hlt]
  | succ r ih =>
    intro k m hk hm H l wb hP hl
    obtain ⟨m, rfl⟩ : ∃ q, m = q + 1 := ⟨m - 1, by omega⟩
    have hlt : ((k : Int) < (n1 : Int)) = True := eq_true (by omega)
    have hw1 : IntKind.wrap .i64 ((k : Int) + 1) = ((k + 1 : Nat) : Int) := by rw [IntWalk.i64_in _ (by omega)]; rfl
    have len1 := hI.len1
    have len2 := hI.len2
    have sa1 := hI.sa1 k (by omega)
    have g1 := hI.get1 k (by omega)
    have hle : (k * 5 + 5 ≤ LC.length) = True := eq_true (by rw [hI.le1]; omega)
    have c10 := cells_ro hP.c10
    have c11 := cells_ro hP.c11
    have c12 := cells_get hP.c12
    have hg4 := gap_lt n2 D k
    simp only [prs]
    generalize hi : I k = i at g1 ⊢
    have h16 := fun H => v16 (n+2) H i.op i.A i.B i.C i.I
    have h8 := fun H => v8 n H i
    have h15 := fun H e => v15 (n+9) H e
    simp only [Ins.val, Ins.cells] at h8 g1
    by_cases hk0 : i.chk = 0
    · have hk0' : chkV i.op i.A i.B i.C i.I = 0 := hk0
      rw [if_pos hk0]
      have e1 : encR i.op i.A i.B i.C i.I = .tuple #[.int .u32 i.word, .int .i64 0] := if_pos hk0'
      have e2 : textR i = .tuple #[.string (textV i), .int .i64 0] := if_pos hk0'
      have htl := text_len hk0'
      have htx := tx_len l hP.ok
      have hml : (moreL (gapV n2 D k)).length ≤ 11 := by
        unfold moreL
        split
        · decide
        · split
          · decide
          · split <;> decide
      have s1 : bin 0 .add (.string (bs (tx l))) (.string ⟨#[32]⟩) = some (.string (bs (tx l ++ [32]))) := bin_bs 0 (tx l) [32] (by simp; omega)
      have s2 : bin 0 .add (.string (bs (tx l ++ [32]))) (.string (textV i)) = some (.string (bs (tx l ++ [32] ++ (textV i).data.toList))) := by
        have := bin_bs 0 (tx l ++ [32]) (textV i).data.toList (by simp only [List.length_append, List.length_cons, List.length_nil]; omega)
        rwa [list_bs] at this
      have hpc : tx (l ++ [(i, gapV n2 D k)]) = tx l ++ [32] ++ (textV i).data.toList ++ moreL (gapV n2 D k) := by simp [tx, piece]
      have s3 : bin 0 .add (.string (bs (tx l ++ [32] ++ (textV i).data.toList))) (.string (bs (moreL (gapV n2 D k)))) = some (.string (bs (tx (l ++ [(i, gapV n2 D k)])))) := by
        rw [hpc]
        exact bin_bs 0 _ _ (by simp only [List.length_append, List.length_cons, List.length_nil]; omega)
      have hm := mores_at _ hg4
      have hrow := hP.row
      have nx := hP.next
      have hnx : (H.new (.rw [.int .u32 i.word])).next = H.next + 1 := rfl
      have hwl : (wds l).length = l.length := by simp [wds]
      obtain ⟨H2, wb2, a1, a2, a3, a4, a5, a6⟩ := app_row (sz := 1) (by_ := 4) (H := H.new (.rw [.int .u32 i.word])) (n := (wds l).length) (cs := wvs (wds l)) (lb := wb) (lo := 13) (by rw [wvs_len]; omega) (row_new hrow _) (by show H.lim ≤ 13; rw [hP.lim]; decide) (by rw [hnx]; omega) (by show 10 ≤ H.lim; rw [hP.lim]; decide) (m := 1) (xs := [.int .u32 i.word]) (by simp) (by decide) (decide_eq_true ⟨by omega, by omega⟩) rfl
      have hwe : wvs (wds l) ++ [.int .u32 i.word] = wvs (wds (l ++ [(i, gapV n2 D k)])) := by simp [wvs, wds]
      have wlt : ∀ b, wb = some b → 13 ≤ b := fun b e => by have := hrow; subst e; exact this.2.1
      have o2 : ∀ b, b < 13 → H2.get b = H.get b := fun b hb => by
        rw [a5 b (by rw [hnx]; omega) (fun e => by have := wlt b e; omega), Hp.get_new, if_neg (by omega)]
      have hP2 : PL H2 LC DC (l ++ [(i, gapV n2 D k)]) wb2 := by
        refine ⟨by rw [a4]; exact hP.lim, by omega, by rw [o2 10 (by omega)]; exact hP.c10, by rw [o2 11 (by omega)]; exact hP.c11, by rw [o2 12 (by omega)]; exact hP.c12, by rw [← hwe]; exact a2, fun p hp => ?_⟩
        rcases List.mem_append.1 hp with h | h
        · exact hP.ok p h
        · simp only [List.mem_cons, List.not_mem_nil, or_false] at h
          subst h
          exact hk0
      obtain ⟨H', wb', i1, i2⟩ := ih (k + 1) m (by omega) (by omega) H2 _ wb2 hP2 (by simp; omega)
      rw [List.append_assoc, List.singleton_append] at i1 i2
      refine ⟨H', wb', fun kx kr => ?_, i2⟩
      rw [← i1 kx kr]
      have e7 : (wds (l ++ [(i, gapV n2 D k)])).length = (wds l).length + 1 := by simp [wds]
      rw [e7, lp_succ]
      by_cases hn2 : 0 < n2
      · have hn2' : ((0 : Int) < (n2 : Int)) = True := eq_true (by omega)
        have hz : ((n2 : Int) = 0) = False := eq_false (by omega)
        have hmod : ((k : Int)).tmod (n2 : Int) = ((k % n2 : Nat) : Int) := (Int.ofNat_tmod k n2).symm
        have sa2 := hI.sa2 (k % n2) (Nat.mod_lt _ hn2)
        have g2 := hI.get2 (k % n2) (Nat.mod_lt _ hn2)
        have hgv : (IntKind.wrap .u64 (D (k % n2))).tmod 4 = ((gapV n2 D k : Nat) : Int) := by
          have h := (u64_rng (D (k % n2))).1
          have h1 := Int.tmod_nonneg 4 h
          have : gapV n2 D k = ((IntKind.wrap .u64 (D (k % n2))).tmod 4).toNat := if_pos hn2
          rw [this]; omega
        have hgw : IntKind.wrap .i64 ((gapV n2 D k : Nat) : Int) = ((gapV n2 D k : Nat) : Int) := IntWalk.i64_in _ (by omega)
        have hg5 : (0 ≤ ((gapV n2 D k : Nat) : Int) ∧ ((gapV n2 D k : Nat) : Int) < 4) = True := eq_true (by omega)
        have hg6 : (((gapV n2 D k : Nat) : Int) < 4) = True := eq_true (by omega)
        simp -implicitDefEqProofs only [s5_b1, ↓GVdn, GVup, goInt, splice, okC, Fr.of, Fr.ofI, Fr.g, Nat.reduceAdd, Nat.reduceMul, Nat.reduceEqDiff, Nat.reduceLT, Nat.reduceLeDiff, Nat.reduceBEq, Int.reduceLT, Int.reduceLE, Int.reduceToNat, Int.reduceAdd, Int.reduceSub, Int.reduceMul, Int.reduceEq, Int.reduceNeg, ↓reduceIte, ↓reduceDIte, Nat.beq, reduceCtorEq, Value.int.injEq, Nat.reduceSub, sto_ptr, opn_lim, len1, len2, hlt, sa1, sa2, c10, c11, c12, hle, g1, g2, h16, h8, h15, e1, e2, hn2', hz, hmod, hgv, hgw, hg5, hg6, hm, s1, s2, s3, rep, List.replicate, List.flatten_cons, List.flatten_nil, srcC_new, a1, hw1]
      · have hn2' : ((0 : Int) < (n2 : Int)) = False := eq_false (by omega)
        have hg0 : gapV n2 D k = 0 := if_neg hn2
        rw [hg0] at s3 hm ⊢
        simp -implicitDefEqProofs only [s5_b1, ↓GVdn, GVup, goInt, splice, okC, Fr.of, Fr.ofI, Fr.g, Nat.reduceAdd, Nat.reduceMul, Nat.reduceEqDiff, Nat.reduceLT, Nat.reduceLeDiff, Nat.reduceBEq, Int.reduceLT, Int.reduceLE, Int.reduceToNat, Int.reduceAdd, Int.reduceSub, Int.reduceMul, Int.reduceEq, Int.reduceNeg, ↓reduceIte, ↓reduceDIte, Nat.beq, reduceCtorEq, Value.int.injEq, Nat.reduceSub, sto_ptr, opn_lim, len1, len2, hlt, sa1, c10, c12, hle, g1, h16, h8, h15, e1, e2, hn2', hm, s1, s2, s3, rep, List.replicate, List.flatten_cons, List.flatten_nil, srcC_new, a1, hw1]
    · rw [if_neg hk0]
      have e1 : encR i.op i.A i.B i.C i.I = .tuple #[.int .u32 0, .int .i64 (chkV i.op i.A i.B i.C i.I)] := if_neg hk0
      have hk0' : (chkV i.op i.A i.B i.C i.I = 0) = False := eq_false hk0
      obtain ⟨H', wb', i1, i2⟩ := ih (k + 1) m (by omega) (by omega) H l wb hP (by omega)
      refine ⟨H', wb', fun kx kr => ?_, i2⟩
      rw [← i1 kx kr, lp_succ]
      simp -implicitDefEqProofs only [s5_b1, ↓GVdn, GVup, goInt, splice, okC, Fr.of, Fr.ofI, Fr.g, Nat.reduceAdd, Nat.reduceMul, Nat.reduceEqDiff, Nat.reduceLT, Nat.reduceLeDiff, Nat.reduceBEq, Int.reduceLT, Int.reduceLE, Int.reduceToNat, Int.reduceAdd, Int.reduceSub, Int.reduceMul, Int.reduceEq, Int.reduceNeg, ↓reduceIte, ↓reduceDIte, Nat.beq, reduceCtorEq, Value.int.injEq, Nat.reduceSub, sto_ptr, opn_lim, len1, len2, hlt, sa1, c10, hle, g1, h16, h15, e1, hk0', hw1]
/-! ### The whole -/
theorem v5 (n : Nat) {y1 y2 : Value} {LC DC : List Value} {n1 n2 : Nat} {I : Nat → Ins} {D : Nat → Int} (hI : InL y1 y2 LC DC n1 n2 I D) (hn : 300000 < n) (H0 : Hp) (l0 : H0.lim = 12) (n0 : H0.next = 12) (g10 : H0.get 10 = some (.ro LC)) (g11 : H0.get 11 = some (.ro DC)) :
    ∃ H', s5 (evCall cfc (n+301)) (n+301) y1 y2 H0 = some (.ret (.bool true), H') := by
  have h12 := v12 n
  have len1 := hI.len1
  by_cases h300 : n1 ≤ 300
  · have hbig : ((300 : Int) < (n1 : Int)) = False := eq_false (by omega)
    have hM : st 4 (ptr 12 0) (.agg #[.string ⟨#[10]⟩, .string ⟨#[32, 59, 32, 110, 111, 116, 104, 105, 110, 103, 10]⟩, .string ⟨#[10, 9, 10]⟩, .string ⟨#[32, 32, 10, 59, 10]⟩]) (H0.new (.rw [.string ⟨#[]⟩, .string ⟨#[]⟩, .string ⟨#[]⟩, .string ⟨#[]⟩])) = some ((H0.new (.rw [.string ⟨#[]⟩, .string ⟨#[]⟩, .string ⟨#[]⟩, .string ⟨#[]⟩])).set 12 (.rw mores)) :=
      st_rwc (H := H0.new (.rw [.string ⟨#[]⟩, .string ⟨#[]⟩, .string ⟨#[]⟩, .string ⟨#[]⟩])) (b := 12) (cs := [.string ⟨#[]⟩, .string ⟨#[]⟩, .string ⟨#[]⟩, .string ⟨#[]⟩]) (o := 0) (n := 4) (vs := mores) (by rw [rwc_new, n0, if_pos rfl]) (by show H0.lim ≤ 12; omega) rfl rfl (by decide) rfl
    have hP : PL ((H0.new (.rw [.string ⟨#[]⟩, .string ⟨#[]⟩, .string ⟨#[]⟩, .string ⟨#[]⟩])).set 12 (.rw mores)) LC DC [] none := by
      refine ⟨l0, by show 13 ≤ H0.next + 1; omega, ?_, ?_, ?_, rfl, fun p hp => by cases hp⟩
      · rw [Hp.get_set, if_neg (by decide), Hp.get_new, if_neg (by omega)]; exact g10
      · rw [Hp.get_set, if_neg (by decide), Hp.get_new, if_neg (by omega)]; exact g11
      · rw [Hp.get_set, if_pos rfl]
    obtain ⟨H1, wb, i1, hP1⟩ := li_loop (n+291) hI h300 n1 0 (n+301) (by omega) (by omega) _ [] none hP (Nat.le_refl _)
    simp only [List.nil_append] at i1 hP1
    have i1' : ∀ kx kr, lp (s5_b1 (evCall cfc (n+301)) (n+301)) (n+301) [y1, y2, ptr 12 0, .string ⟨#[]⟩, .slice none 0 0, .int .i64 0] ((H0.new (.rw [.string ⟨#[]⟩, .string ⟨#[]⟩, .string ⟨#[]⟩, .string ⟨#[]⟩])).set 12 (.rw mores)) kx kr = _ := i1
    have hlen := prs_len I n2 D n1 0
    have hok := prs_ok I n2 D n1 0
    generalize prs I n2 D 0 n1 = l at *
    have hasm := asm_tx l hok (by omega)
    have htl := tx_len l hok
    have h13 := fun H => v13 (n+216) (bs (tx l)) H (fun _ => by have := count_le (bs (tx l)); rw [Lib.size_eq, bs_list] at this ⊢; omega) (by omega)
    rw [hasm] at h13
    simp only [asmR] at h13
    have hwl : (wds l).length = l.length := by simp [wds]
    have hrow := hP1.row
    cases wb with
    | none =>
      have hw0 : wds l = [] := List.map_eq_nil_iff.1 (show wvs (wds l) = [] from hrow)
      have hw0' : (l.map fun p => p.1.word) = [] := hw0
      rw [hw0'] at h13
      simp only [if_true] at h13
      have h17 := fun H => v17_nil (n+299) H
      rw [hw0] at i1'
      simp only [svOf] at i1'
      exact ⟨_, by simp -implicitDefEqProofs only [s5, ↓GVdn, GVup, goInt, splice, okC, Fr.of, Fr.ofI, Fr.g, Nat.reduceAdd, Nat.reduceMul, Nat.reduceEqDiff, Nat.reduceLT, Nat.reduceLeDiff, Nat.reduceBEq, Int.reduceLT, Int.reduceLE, Int.reduceToNat, Int.reduceAdd, Int.reduceSub, Int.reduceMul, Int.reduceEq, Int.reduceNeg, ↓reduceIte, ↓reduceDIte, Nat.beq, reduceCtorEq, Value.int.injEq, Nat.reduceSub, opn_lim, n0, l0, h12, len1, hbig, hM, i1', h13, h17]; rfl⟩
    | some b =>
      have hne : ¬ wds l = [] := fun e => hrow.2.2.2 (by rw [e]; rfl)
      have hne' : ¬ (l.map fun p => p.1.word) = [] := hne
      have h13' : ∀ H, evCall cfc (n+301) 13 [.string (bs (tx l))] H = some (.ret (.tuple #[.slice (some ⟨H.next, 0, none⟩) (wds l).length 1, .nilIface]), H.new (.rw (wvs (wds l)))) := fun H => by
        have := h13 H
        rw [if_neg hne'] at this
        exact this
      have cb := cells_get hrow.1
      have h17 := v17 (n+300) (H1.new (.rw (wvs (wds l)))) (wds l) (b := H1.next) (c := b) (by rw [cells_new, if_pos rfl]) (by rw [cells_new, if_neg (by have := hrow.2.2.1; omega)]; exact cb) (by omega) (by omega)
      simp only [svOf] at i1'
      exact ⟨_, by simp -implicitDefEqProofs only [s5, ↓GVdn, GVup, goInt, splice, okC, Fr.of, Fr.ofI, Fr.g, Nat.reduceAdd, Nat.reduceMul, Nat.reduceEqDiff, Nat.reduceLT, Nat.reduceLeDiff, Nat.reduceBEq, Int.reduceLT, Int.reduceLE, Int.reduceToNat, Int.reduceAdd, Int.reduceSub, Int.reduceMul, Int.reduceEq, Int.reduceNeg, ↓reduceIte, ↓reduceDIte, Nat.beq, reduceCtorEq, Value.int.injEq, Nat.reduceSub, opn_lim, n0, l0, h12, len1, hbig, hM, i1', h13', h17]; rfl⟩
  · have hbig : ((300 : Int) < (n1 : Int)) = True := eq_true (by omega)
    exact ⟨_, by simp -implicitDefEqProofs only [s5, ↓GVdn, GVup, goInt, splice, okC, Fr.of, Fr.ofI, Fr.g, Nat.reduceAdd, Nat.reduceMul, Nat.reduceEqDiff, Nat.reduceLT, Nat.reduceLeDiff, Nat.reduceBEq, Int.reduceLT, Int.reduceLE, Int.reduceToNat, Int.reduceAdd, Int.reduceSub, Int.reduceMul, Int.reduceEq, Int.reduceNeg, ↓reduceIte, ↓reduceDIte, Nat.beq, reduceCtorEq, Value.int.injEq, Nat.reduceSub, opn_lim, n0, l0, h12, len1, hbig]; rfl⟩
end Go.Proofs.YtbaooebafijenaaDoor
