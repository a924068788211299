/- The document reads the texts of its instructions. -/
import Derived.Test.YtbaooebafijenaaDoorGRO2
import Derived.Test.YtbaooebafijenaaDoorGBack
namespace Go.Proofs.YtbaooebafijenaaDoor
open Go Go.Ev
set_option maxRecDepth 100000
set_option linter.unusedSimpArgs false
set_option linter.unusedVariables false
set_option maxHeartbeats 4000000
set_option linter.unusedSectionVars false
variable [Mx]
/-! ### Numbers -/
theorem decF_app : ∀ (l : Bs) (a : Nat) (d : UInt8), decF a (l ++ [d]) = (decF a l).bind fun v => decF v [d]
  | [], a, d => rfl
  | c :: l, a, d => by
    rw [List.cons_append]
    unfold decF
    split
    · exact decF_app l _ d
    · rfl
theorem decF_digits : ∀ (n u : Nat), u < n → decF 0 (Lib.decDigits u) = some u
  | 0, u, h => absurd h (by omega)
  | n + 1, u, h => by
    rw [Lib.decDigits]
    by_cases h1 : u < 10
    · rw [dif_pos h1]
      simp only [decF, dig_nat u h1]
      rw [if_pos (by omega)]
      congr 1
      omega
    · rw [dif_neg h1, decF_app, decF_digits n (u / 10) (by omega)]
      simp only [Option.bind_some, decF, dig_nat (u % 10) (by omega)]
      rw [if_pos (by omega)]
      congr 1
      omega
theorem digits_len : ∀ (k u : Nat), u < 10 ^ (k + 1) → (Lib.decDigits u).length ≤ k + 1
  | 0, u, h => by
    rw [Lib.decDigits, dif_pos (by omega)]
    simp
  | k + 1, u, h => by
    rw [Lib.decDigits]
    by_cases h1 : u < 10
    · rw [dif_pos h1]; simp
    · rw [dif_neg h1, List.length_append]
      have hp : 10 ^ (k + 1 + 1) = 10 ^ (k + 1) * 10 := Nat.pow_succ ..
      have := digits_len k (u / 10) (by omega)
      simp only [List.length_cons, List.length_nil]
      omega
theorem digits_head : ∀ (n u : Nat), u < n → 0 < u → (Lib.decDigits u).head? ≠ some 48
  | 0, u, h, _ => absurd h (by omega)
  | n + 1, u, h, hu => by
    rw [Lib.decDigits]
    by_cases h1 : u < 10
    · rw [dif_pos h1]
      intro e
      have e := congrArg UInt8.toNat (Option.some.inj e)
      rw [dig_nat u h1] at e
      have : (48 : UInt8).toNat = 48 := rfl
      omega
    · rw [dif_neg h1]
      have ih := digits_head n (u / 10) (by omega) (by omega)
      have hne := (digits_dig _ (u / 10) (Nat.lt_succ_self _)).2
      cases hl : Lib.decDigits (u / 10) with
      | nil => exact absurd hl hne
      | cons c r => rw [hl] at ih; exact ih
theorem num_itoa (z : Int) (h : -65536 ≤ z ∧ z ≤ 65535) : numV (Lib.itoa z) = (z, true) := by
  unfold Lib.itoa
  by_cases hz : z < 0
  · rw [if_pos hz]
    have hl := digits_len 4 z.natAbs (by omega)
    have hd := digits_dig _ z.natAbs (Nat.lt_succ_self _)
    have hh := digits_head _ z.natAbs (Nat.lt_succ_self _) (by omega)
    have hv := decF_digits _ z.natAbs (Nat.lt_succ_self _)
    have hD : numD (45 :: Lib.decDigits z.natAbs) = Lib.decDigits z.natAbs := rfl
    unfold numV
    rw [hD, if_neg (by rintro (h | h | ⟨h, _⟩); exact hd.2 h; omega; exact hh h), hv]
    simp only [List.length_cons]
    rw [if_pos (by omega)]
    congr 1
    omega
  · rw [if_neg hz]
    have hl := digits_len 4 z.toNat (by omega)
    have hd := digits_dig _ z.toNat (Nat.lt_succ_self _)
    have hv := decF_digits _ z.toNat (Nat.lt_succ_self _)
    have hh := digits_head _ z.toNat (Nat.lt_succ_self _)
    have hD : numD (Lib.decDigits z.toNat) = Lib.decDigits z.toNat := by
      unfold numD
      refine if_neg fun e => ?_
      cases hc : Lib.decDigits z.toNat with
      | nil => exact hd.2 hc
      | cons c r =>
        rw [hc] at e hd
        have := hd.1 c List.mem_cons_self
        cases Option.some.inj e
        exact absurd this.1 (by decide)
    unfold numV
    rw [hD, if_neg (by
      rintro (h | h | ⟨h, h'⟩)
      · exact hd.2 h
      · omega
      · by_cases h0 : 0 < z.toNat
        · exact hh h0 h
        · have e : z.toNat = 0 := by omega
          have hl0 := digits_len 0 z.toNat (by omega)
          omega), hv]
    simp only
    rw [if_neg (by omega)]
    congr 1
    omega
theorem reg_itoa (c : UInt8) (z : Int) (h : 0 ≤ z ∧ z ≤ 15) : regD c (c :: Lib.itoa z) = (z, true) := by
  have hne := itoa_ne z (by omega)
  rw [itoa_list (by omega)] at hne
  have hl : 1 ≤ (Lib.itoa z).length := by
    cases hi : Lib.itoa z with
    | nil => exact absurd hi hne
    | cons a b => simp
  unfold regD
  rw [if_neg (by rintro (h | h); simp at h; omega; exact h rfl), List.tail_cons, num_itoa z (by omega)]
  simp [h.1, h.2]
/-! ### Sizes -/
theorem text_100 {i : Ins} (hk : chkV i.op i.A i.B i.C i.I = 0) : (textV i).size ≤ 100 := by
  obtain ⟨hf1, hf2, _⟩ := chk_small hk
  have hn := nameV_size i.op
  have z32 : (⟨#[32]⟩ : ByteArray).size = 1 := rfl
  have e1 : (⟨#[40]⟩ : ByteArray).size = 1 := rfl
  have e2 : (⟨#[41]⟩ : ByteArray).size = 1 := rfl
  unfold textV
  split
  · omega
  · rw [app1, app1]
    have hj : (joinV (rowV (formV i.op) (opsV i))).size ≤ 75 := by
      unfold rowV
      split
      · rename_i h
        obtain ⟨a, b, c, e, h1, h2, h3⟩ := ops56 i h
        rw [e, Lib.size_eq]
        simp only [List.getD_cons_succ, List.getD_cons_zero, join_2, List.length_append, List.length_cons, ← Lib.size_eq, app1, e1, e2]
        omega
      · have hl := opsV_len i ⟨hf1, hf2⟩
        have hs : ∀ x ∈ opsV i, x.size ≤ 22 := fun x hx => by
          simp only [opsV, List.mem_map] at hx
          obtain ⟨c, _, rfl⟩ := hx
          exact opdV_size i c.toNat
        generalize opsV i = l at hl hs
        rw [Lib.size_eq]
        match l, hl, hs with
        | [], _, _ => exact Nat.zero_le _
        | [a], _, hs =>
          have := hs a (by simp)
          have e : (joinV [a]).data.toList = a.data.toList := by
            show Lib.join [a.data.toList] [44, 32] = _
            simp [Lib.join_cons, Lib.joinTail]
          rw [e, ← Lib.size_eq]; omega
        | [a, b], _, hs =>
          have := hs a (by simp); have := hs b (by simp)
          simp only [join_2, List.length_append, List.length_cons, ← Lib.size_eq]; omega
        | [a, b, c], _, hs =>
          have := hs a (by simp); have := hs b (by simp); have := hs c (by simp)
          simp only [join_3, List.length_append, List.length_cons, ← Lib.size_eq]; omega
        | a :: b :: c :: d :: r, hl, _ => simp at hl
    omega
/-! ### Its own texts -/
theorem wd_map (T : List (Bs × Bool)) (j : Nat) : wd T j = (T.map Prod.fst).getD j [] := by
  unfold wd
  rw [List.getD_eq_getElem?_getD, List.getD_eq_getElem?_getD, List.getElem?_map]
  cases T[j]? <;> rfl
theorem stp_num {f : Int} {k : Nat} {w : Bs} {i : Ins} {lab : Bs} {z : Int} (h : numV w = (z, true)) : stpD f k 105 w i lab = (true, { i with I := z }, lab) := by
  unfold stpD
  rw [if_pos rfl, h, if_neg (by rintro ⟨⟨h, _⟩, _⟩; exact absurd h (by simp))]
theorem stp_reg {f : Int} {k : Nat} {c : UInt8} {w : Bs} {i : Ins} {lab : Bs} {z : Int} (hc : ¬ c = 105) (h : regD c w = (z, true)) : stpD f k c w i lab = (true, setD f k c i z, lab) := by
  unfold stpD
  rw [if_neg hc, h]
theorem ops_words {i : Ins} (hk : chkV i.op i.A i.B i.C i.I = 0) (T : List (Bs × Bool)) (W : List Bs) (hT : T.map Prod.fst = W) (hW : tk2 (textV i).data.toList [] = (nameV i.op).data.toList :: W) :
    opGo (formV i.op) T (rOps (formV i.op)).data.toList 0 ⟨i.op, 0, 0, 0, 0⟩ [] = some (i, []) ∧ opGood (formV i.op) T (2 * (rOps (formV i.op)).data.toList.length - 1) i := by
  obtain ⟨hf1, hf2, a1, b1, c1, i1⟩ := chk_small hk
  obtain ⟨hop1, hop2⟩ := op_range hf1
  obtain ⟨hnm, pn, nn⟩ := name_facts i.op ⟨hop1, hop2⟩
  obtain ⟨zB, zC, zA, zI⟩ := chk_okP hk
  have hg : ∀ c, -9223372036854775808 ≤ i.get c ∧ i.get c ≤ 9223372036854775807 := fun c => by have := get_small hk c; omega
  have hpl := fun c => opd_plain i c (hg c)
  have hit : ∀ c, (itoaB (i.get c)).data.toList = Lib.itoa (i.get c) := fun c => itoa_list (hg c)
  have nI : numV (Lib.itoa i.I) = (i.I, true) := num_itoa _ (by omega)
  have rA := fun c => reg_itoa c i.A a1
  have rB := fun c => reg_itoa c i.B b1
  have rC := fun c => reg_itoa c i.C c1
  have l105 : (opdV i 105).data.toList = Lib.itoa i.I := by rw [opd_list, if_pos rfl, hit]; rfl
  have l97 : (opdV i 97).data.toList = 114 :: Lib.itoa i.A := by rw [opd_list, if_neg (by decide), if_neg (by decide), hit]; rfl
  have l98 : (opdV i 98).data.toList = 114 :: Lib.itoa i.B := by rw [opd_list, if_neg (by decide), if_neg (by decide), hit]; rfl
  have l99 : (opdV i 99).data.toList = 114 :: Lib.itoa i.C := by rw [opd_list, if_neg (by decide), if_neg (by decide), hit]; rfl
  have l65 : (opdV i 65).data.toList = 102 :: Lib.itoa i.A := by rw [opd_list, if_neg (by decide), if_pos (by decide), hit]; rfl
  have l66 : (opdV i 66).data.toList = 102 :: Lib.itoa i.B := by rw [opd_list, if_neg (by decide), if_pos (by decide), hit]; rfl
  have l67 : (opdV i 67).data.toList = 102 :: Lib.itoa i.C := by rw [opd_list, if_neg (by decide), if_pos (by decide), hit]; rfl
  have c1 : ¬ (114 : UInt8) = 105 := by decide
  have c2 : ¬ (102 : UInt8) = 105 := by decide
  have hlen : T.length = W.length := by rw [← hT, List.length_map]
  have hwd : ∀ j, wd T j = W.getD j [] := fun j => by rw [wd_map, hT]
  have hc : formV i.op = 1 ∨ formV i.op = 2 ∨ formV i.op = 3 ∨ formV i.op = 4 ∨ formV i.op = 5 ∨ formV i.op = 6 ∨ formV i.op = 7 ∨ formV i.op = 8 ∨ formV i.op = 9 ∨ formV i.op = 10 ∨ formV i.op = 11 ∨ formV i.op = 12 ∨ formV i.op = 13 ∨ formV i.op = 14 ∨ formV i.op = 15 := by omega
  rcases hc with hf | hf | hf | hf | hf | hf | hf | hf | hf | hf | hf | hf | hf | hf | hf
  · rw [hf] at zA zB zC zI
    have zA' : i.A = 0 := by have : mxA 1 = 0 := rfl; omega
    have zB' : i.B = 0 := by have : mxB 1 = 0 := rfl; omega
    have zC' : i.C = 0 := by have : mxC 1 = 0 := rfl; omega
    have zI' : i.I = 0 := zI rfl
    have ho : opsV i = [] := by unfold opsV; rw [hf]; rfl
    have hr : rowV (formV i.op) (opsV i) = [] := by rw [ho, hf]; rfl
    rw [text_0 i hr, tk_0 pn nn] at hW
    have hW : W = [] := ((List.cons.inj hW).2).symm
    have hs : (rOps 1).data.toList = [] := rfl
    subst hW
    simp only [List.length_cons, List.length_nil] at hlen
    rw [hf, hs]
    refine ⟨?_, ?_⟩
    · simp [opGo, wantD, cD, hlen, hwd, nI, rA, rB, rC, stp_num nI, stp_reg c1 (rA 114), stp_reg c1 (rB 114), stp_reg c1 (rC 114), stp_reg c2 (rA 102), stp_reg c2 (rB 102), stp_reg c2 (rC 102), setD]
      exact Ins.ext5 rfl zA'.symm zB'.symm zC'.symm zI'.symm
    · unfold opGood
      rw [hf] at *
      simp [hlen, hwd, hk]
  · rw [hf] at zA zB zC zI
    have zI' : i.I = 0 := zI rfl
    have ho : opsV i = [opdV i 97, opdV i 98, opdV i 99] := by unfold opsV; rw [hf]; rfl
    have hr : rowV (formV i.op) (opsV i) = [opdV i 97, opdV i 98, opdV i 99] := by rw [ho, hf]; rfl
    rw [text_n i hr, join_3, tk_3 pn nn (hpl 97).1 (hpl 97).2 (hpl 98).1 (hpl 98).2 (hpl 99).1 (hpl 99).2, l97, l98, l99] at hW
    have hW : W = [114 :: Lib.itoa i.A, [44], 114 :: Lib.itoa i.B, [44], 114 :: Lib.itoa i.C] := ((List.cons.inj hW).2).symm
    have hs : (rOps 2).data.toList = [114, 114, 114] := rfl
    subst hW
    simp only [List.length_cons, List.length_nil] at hlen
    rw [hf, hs]
    refine ⟨?_, ?_⟩
    · simp [opGo, wantD, cD, hlen, hwd, nI, rA, rB, rC, stp_num nI, stp_reg c1 (rA 114), stp_reg c1 (rB 114), stp_reg c1 (rC 114), stp_reg c2 (rA 102), stp_reg c2 (rB 102), stp_reg c2 (rC 102), setD]
      exact Ins.ext5 rfl rfl rfl rfl zI'.symm
    · unfold opGood
      rw [hf] at *
      simp [hlen, hwd, hk]
  · rw [hf] at zA zB zC zI
    have zC' : i.C = 0 := by have : mxC 3 = 0 := rfl; omega
    have ho : opsV i = [opdV i 97, opdV i 98, opdV i 105] := by unfold opsV; rw [hf]; rfl
    have hr : rowV (formV i.op) (opsV i) = [opdV i 97, opdV i 98, opdV i 105] := by rw [ho, hf]; rfl
    rw [text_n i hr, join_3, tk_3 pn nn (hpl 97).1 (hpl 97).2 (hpl 98).1 (hpl 98).2 (hpl 105).1 (hpl 105).2, l97, l98, l105] at hW
    have hW : W = [114 :: Lib.itoa i.A, [44], 114 :: Lib.itoa i.B, [44], Lib.itoa i.I] := ((List.cons.inj hW).2).symm
    have hs : (rOps 3).data.toList = [114, 114, 105] := rfl
    subst hW
    simp only [List.length_cons, List.length_nil] at hlen
    rw [hf, hs]
    refine ⟨?_, ?_⟩
    · simp [opGo, wantD, cD, hlen, hwd, nI, rA, rB, rC, stp_num nI, stp_reg c1 (rA 114), stp_reg c1 (rB 114), stp_reg c1 (rC 114), stp_reg c2 (rA 102), stp_reg c2 (rB 102), stp_reg c2 (rC 102), setD]
      exact Ins.ext5 rfl rfl rfl zC'.symm rfl
    · unfold opGood
      rw [hf] at *
      simp [hlen, hwd, hk]
  · rw [hf] at zA zB zC zI
    have zB' : i.B = 0 := by have : mxB 4 = 0 := rfl; omega
    have zC' : i.C = 0 := by have : mxC 4 = 0 := rfl; omega
    have ho : opsV i = [opdV i 97, opdV i 105] := by unfold opsV; rw [hf]; rfl
    have hr : rowV (formV i.op) (opsV i) = [opdV i 97, opdV i 105] := by rw [ho, hf]; rfl
    rw [text_n i hr, join_2, tk_2 pn nn (hpl 97).1 (hpl 97).2 (hpl 105).1 (hpl 105).2, l97, l105] at hW
    have hW : W = [114 :: Lib.itoa i.A, [44], Lib.itoa i.I] := ((List.cons.inj hW).2).symm
    have hs : (rOps 4).data.toList = [114, 105] := rfl
    subst hW
    simp only [List.length_cons, List.length_nil] at hlen
    rw [hf, hs]
    refine ⟨?_, ?_⟩
    · simp [opGo, wantD, cD, hlen, hwd, nI, rA, rB, rC, stp_num nI, stp_reg c1 (rA 114), stp_reg c1 (rB 114), stp_reg c1 (rC 114), stp_reg c2 (rA 102), stp_reg c2 (rB 102), stp_reg c2 (rC 102), setD]
      exact Ins.ext5 rfl rfl zB'.symm zC'.symm rfl
    · unfold opGood
      rw [hf] at *
      simp [hlen, hwd, hk]
  · rw [hf] at zA zB zC zI
    have zC' : i.C = 0 := by have : mxC 5 = 0 := rfl; omega
    have ho : opsV i = [opdV i 97, opdV i 105, opdV i 98] := by unfold opsV; rw [hf]; rfl
    have hr : rowV (formV i.op) (opsV i) = [opdV i 97, opdV i 105 ++ ⟨#[40]⟩ ++ opdV i 98 ++ ⟨#[41]⟩] := by rw [ho, hf]; rfl
    have hj : (joinV [opdV i 97, opdV i 105 ++ ⟨#[40]⟩ ++ opdV i 98 ++ ⟨#[41]⟩]).data.toList = (opdV i 97).data.toList ++ 44 :: 32 :: ((opdV i 105).data.toList ++ 40 :: ((opdV i 98).data.toList ++ [41])) := by rw [join_2, app_list, app_list, app_list]; simp
    rw [text_n i hr, hj, tk_5 pn nn (hpl 97).1 (hpl 97).2 (hpl 105).1 (hpl 105).2 (hpl 98).1 (hpl 98).2, l97, l105, l98] at hW
    have hW : W = [114 :: Lib.itoa i.A, [44], Lib.itoa i.I, [40], 114 :: Lib.itoa i.B, [41]] := ((List.cons.inj hW).2).symm
    have hs : (rOps 5).data.toList = [114, 114, 105] := rfl
    subst hW
    simp only [List.length_cons, List.length_nil] at hlen
    rw [hf, hs]
    refine ⟨?_, ?_⟩
    · simp [opGo, wantD, cD, hlen, hwd, nI, rA, rB, rC, stp_num nI, stp_reg c1 (rA 114), stp_reg c1 (rB 114), stp_reg c1 (rC 114), stp_reg c2 (rA 102), stp_reg c2 (rB 102), stp_reg c2 (rC 102), setD]
      exact Ins.ext5 rfl rfl rfl zC'.symm rfl
    · unfold opGood
      rw [hf] at *
      simp [hlen, hwd, hk]
  · rw [hf] at zA zB zC zI
    have zC' : i.C = 0 := by have : mxC 6 = 0 := rfl; omega
    have ho : opsV i = [opdV i 65, opdV i 105, opdV i 98] := by unfold opsV; rw [hf]; rfl
    have hr : rowV (formV i.op) (opsV i) = [opdV i 65, opdV i 105 ++ ⟨#[40]⟩ ++ opdV i 98 ++ ⟨#[41]⟩] := by rw [ho, hf]; rfl
    have hj : (joinV [opdV i 65, opdV i 105 ++ ⟨#[40]⟩ ++ opdV i 98 ++ ⟨#[41]⟩]).data.toList = (opdV i 65).data.toList ++ 44 :: 32 :: ((opdV i 105).data.toList ++ 40 :: ((opdV i 98).data.toList ++ [41])) := by rw [join_2, app_list, app_list, app_list]; simp
    rw [text_n i hr, hj, tk_5 pn nn (hpl 65).1 (hpl 65).2 (hpl 105).1 (hpl 105).2 (hpl 98).1 (hpl 98).2, l65, l105, l98] at hW
    have hW : W = [102 :: Lib.itoa i.A, [44], Lib.itoa i.I, [40], 114 :: Lib.itoa i.B, [41]] := ((List.cons.inj hW).2).symm
    have hs : (rOps 6).data.toList = [102, 114, 105] := rfl
    subst hW
    simp only [List.length_cons, List.length_nil] at hlen
    rw [hf, hs]
    refine ⟨?_, ?_⟩
    · simp [opGo, wantD, cD, hlen, hwd, nI, rA, rB, rC, stp_num nI, stp_reg c1 (rA 114), stp_reg c1 (rB 114), stp_reg c1 (rC 114), stp_reg c2 (rA 102), stp_reg c2 (rB 102), stp_reg c2 (rC 102), setD]
      exact Ins.ext5 rfl rfl rfl zC'.symm rfl
    · unfold opGood
      rw [hf] at *
      simp [hlen, hwd, hk]
  · rw [hf] at zA zB zC zI
    have zC' : i.C = 0 := by have : mxC 7 = 0 := rfl; omega
    have ho : opsV i = [opdV i 97, opdV i 98, opdV i 105] := by unfold opsV; rw [hf]; rfl
    have hr : rowV (formV i.op) (opsV i) = [opdV i 97, opdV i 98, opdV i 105] := by rw [ho, hf]; rfl
    rw [text_n i hr, join_3, tk_3 pn nn (hpl 97).1 (hpl 97).2 (hpl 98).1 (hpl 98).2 (hpl 105).1 (hpl 105).2, l97, l98, l105] at hW
    have hW : W = [114 :: Lib.itoa i.A, [44], 114 :: Lib.itoa i.B, [44], Lib.itoa i.I] := ((List.cons.inj hW).2).symm
    have hs : (rOps 7).data.toList = [114, 114, 105] := rfl
    subst hW
    simp only [List.length_cons, List.length_nil] at hlen
    rw [hf, hs]
    refine ⟨?_, ?_⟩
    · simp [opGo, wantD, cD, hlen, hwd, nI, rA, rB, rC, stp_num nI, stp_reg c1 (rA 114), stp_reg c1 (rB 114), stp_reg c1 (rC 114), stp_reg c2 (rA 102), stp_reg c2 (rB 102), stp_reg c2 (rC 102), setD]
      exact Ins.ext5 rfl rfl rfl zC'.symm rfl
    · unfold opGood
      rw [hf] at *
      simp [hlen, hwd, hk]
  · rw [hf] at zA zB zC zI
    have zB' : i.B = 0 := by have : mxB 8 = 0 := rfl; omega
    have zC' : i.C = 0 := by have : mxC 8 = 0 := rfl; omega
    have ho : opsV i = [opdV i 97, opdV i 105] := by unfold opsV; rw [hf]; rfl
    have hr : rowV (formV i.op) (opsV i) = [opdV i 97, opdV i 105] := by rw [ho, hf]; rfl
    rw [text_n i hr, join_2, tk_2 pn nn (hpl 97).1 (hpl 97).2 (hpl 105).1 (hpl 105).2, l97, l105] at hW
    have hW : W = [114 :: Lib.itoa i.A, [44], Lib.itoa i.I] := ((List.cons.inj hW).2).symm
    have hs : (rOps 8).data.toList = [114, 105] := rfl
    subst hW
    simp only [List.length_cons, List.length_nil] at hlen
    rw [hf, hs]
    refine ⟨?_, ?_⟩
    · simp [opGo, wantD, cD, hlen, hwd, nI, rA, rB, rC, stp_num nI, stp_reg c1 (rA 114), stp_reg c1 (rB 114), stp_reg c1 (rC 114), stp_reg c2 (rA 102), stp_reg c2 (rB 102), stp_reg c2 (rC 102), setD]
      exact Ins.ext5 rfl rfl zB'.symm zC'.symm rfl
    · unfold opGood
      rw [hf] at *
      simp [hlen, hwd, hk]
  · rw [hf] at zA zB zC zI
    have zI' : i.I = 0 := zI rfl
    have ho : opsV i = [opdV i 65, opdV i 66, opdV i 67] := by unfold opsV; rw [hf]; rfl
    have hr : rowV (formV i.op) (opsV i) = [opdV i 65, opdV i 66, opdV i 67] := by rw [ho, hf]; rfl
    rw [text_n i hr, join_3, tk_3 pn nn (hpl 65).1 (hpl 65).2 (hpl 66).1 (hpl 66).2 (hpl 67).1 (hpl 67).2, l65, l66, l67] at hW
    have hW : W = [102 :: Lib.itoa i.A, [44], 102 :: Lib.itoa i.B, [44], 102 :: Lib.itoa i.C] := ((List.cons.inj hW).2).symm
    have hs : (rOps 9).data.toList = [102, 102, 102] := rfl
    subst hW
    simp only [List.length_cons, List.length_nil] at hlen
    rw [hf, hs]
    refine ⟨?_, ?_⟩
    · simp [opGo, wantD, cD, hlen, hwd, nI, rA, rB, rC, stp_num nI, stp_reg c1 (rA 114), stp_reg c1 (rB 114), stp_reg c1 (rC 114), stp_reg c2 (rA 102), stp_reg c2 (rB 102), stp_reg c2 (rC 102), setD]
      exact Ins.ext5 rfl rfl rfl rfl zI'.symm
    · unfold opGood
      rw [hf] at *
      simp [hlen, hwd, hk]
  · rw [hf] at zA zB zC zI
    have zC' : i.C = 0 := by have : mxC 10 = 0 := rfl; omega
    have zI' : i.I = 0 := zI rfl
    have ho : opsV i = [opdV i 65, opdV i 66] := by unfold opsV; rw [hf]; rfl
    have hr : rowV (formV i.op) (opsV i) = [opdV i 65, opdV i 66] := by rw [ho, hf]; rfl
    rw [text_n i hr, join_2, tk_2 pn nn (hpl 65).1 (hpl 65).2 (hpl 66).1 (hpl 66).2, l65, l66] at hW
    have hW : W = [102 :: Lib.itoa i.A, [44], 102 :: Lib.itoa i.B] := ((List.cons.inj hW).2).symm
    have hs : (rOps 10).data.toList = [102, 102] := rfl
    subst hW
    simp only [List.length_cons, List.length_nil] at hlen
    rw [hf, hs]
    refine ⟨?_, ?_⟩
    · simp [opGo, wantD, cD, hlen, hwd, nI, rA, rB, rC, stp_num nI, stp_reg c1 (rA 114), stp_reg c1 (rB 114), stp_reg c1 (rC 114), stp_reg c2 (rA 102), stp_reg c2 (rB 102), stp_reg c2 (rC 102), setD]
      exact Ins.ext5 rfl rfl rfl zC'.symm zI'.symm
    · unfold opGood
      rw [hf] at *
      simp [hlen, hwd, hk]
  · rw [hf] at zA zB zC zI
    have zI' : i.I = 0 := zI rfl
    have ho : opsV i = [opdV i 97, opdV i 66, opdV i 67] := by unfold opsV; rw [hf]; rfl
    have hr : rowV (formV i.op) (opsV i) = [opdV i 97, opdV i 66, opdV i 67] := by rw [ho, hf]; rfl
    rw [text_n i hr, join_3, tk_3 pn nn (hpl 97).1 (hpl 97).2 (hpl 66).1 (hpl 66).2 (hpl 67).1 (hpl 67).2, l97, l66, l67] at hW
    have hW : W = [114 :: Lib.itoa i.A, [44], 102 :: Lib.itoa i.B, [44], 102 :: Lib.itoa i.C] := ((List.cons.inj hW).2).symm
    have hs : (rOps 11).data.toList = [114, 102, 102] := rfl
    subst hW
    simp only [List.length_cons, List.length_nil] at hlen
    rw [hf, hs]
    refine ⟨?_, ?_⟩
    · simp [opGo, wantD, cD, hlen, hwd, nI, rA, rB, rC, stp_num nI, stp_reg c1 (rA 114), stp_reg c1 (rB 114), stp_reg c1 (rC 114), stp_reg c2 (rA 102), stp_reg c2 (rB 102), stp_reg c2 (rC 102), setD]
      exact Ins.ext5 rfl rfl rfl rfl zI'.symm
    · unfold opGood
      rw [hf] at *
      simp [hlen, hwd, hk]
  · rw [hf] at zA zB zC zI
    have zC' : i.C = 0 := by have : mxC 12 = 0 := rfl; omega
    have zI' : i.I = 0 := zI rfl
    have ho : opsV i = [opdV i 97, opdV i 66] := by unfold opsV; rw [hf]; rfl
    have hr : rowV (formV i.op) (opsV i) = [opdV i 97, opdV i 66] := by rw [ho, hf]; rfl
    rw [text_n i hr, join_2, tk_2 pn nn (hpl 97).1 (hpl 97).2 (hpl 66).1 (hpl 66).2, l97, l66] at hW
    have hW : W = [114 :: Lib.itoa i.A, [44], 102 :: Lib.itoa i.B] := ((List.cons.inj hW).2).symm
    have hs : (rOps 12).data.toList = [114, 102] := rfl
    subst hW
    simp only [List.length_cons, List.length_nil] at hlen
    rw [hf, hs]
    refine ⟨?_, ?_⟩
    · simp [opGo, wantD, cD, hlen, hwd, nI, rA, rB, rC, stp_num nI, stp_reg c1 (rA 114), stp_reg c1 (rB 114), stp_reg c1 (rC 114), stp_reg c2 (rA 102), stp_reg c2 (rB 102), stp_reg c2 (rC 102), setD]
      exact Ins.ext5 rfl rfl rfl zC'.symm zI'.symm
    · unfold opGood
      rw [hf] at *
      simp [hlen, hwd, hk]
  · rw [hf] at zA zB zC zI
    have zC' : i.C = 0 := by have : mxC 13 = 0 := rfl; omega
    have zI' : i.I = 0 := zI rfl
    have ho : opsV i = [opdV i 65, opdV i 98] := by unfold opsV; rw [hf]; rfl
    have hr : rowV (formV i.op) (opsV i) = [opdV i 65, opdV i 98] := by rw [ho, hf]; rfl
    rw [text_n i hr, join_2, tk_2 pn nn (hpl 65).1 (hpl 65).2 (hpl 98).1 (hpl 98).2, l65, l98] at hW
    have hW : W = [102 :: Lib.itoa i.A, [44], 114 :: Lib.itoa i.B] := ((List.cons.inj hW).2).symm
    have hs : (rOps 13).data.toList = [102, 114] := rfl
    subst hW
    simp only [List.length_cons, List.length_nil] at hlen
    rw [hf, hs]
    refine ⟨?_, ?_⟩
    · simp [opGo, wantD, cD, hlen, hwd, nI, rA, rB, rC, stp_num nI, stp_reg c1 (rA 114), stp_reg c1 (rB 114), stp_reg c1 (rC 114), stp_reg c2 (rA 102), stp_reg c2 (rB 102), stp_reg c2 (rC 102), setD]
      exact Ins.ext5 rfl rfl rfl zC'.symm zI'.symm
    · unfold opGood
      rw [hf] at *
      simp [hlen, hwd, hk]
  · rw [hf] at zA zB zC zI
    have zI' : i.I = 0 := zI rfl
    have ho : opsV i = [opdV i 65, opdV i 98, opdV i 99] := by unfold opsV; rw [hf]; rfl
    have hr : rowV (formV i.op) (opsV i) = [opdV i 65, opdV i 98, opdV i 99] := by rw [ho, hf]; rfl
    rw [text_n i hr, join_3, tk_3 pn nn (hpl 65).1 (hpl 65).2 (hpl 98).1 (hpl 98).2 (hpl 99).1 (hpl 99).2, l65, l98, l99] at hW
    have hW : W = [102 :: Lib.itoa i.A, [44], 114 :: Lib.itoa i.B, [44], 114 :: Lib.itoa i.C] := ((List.cons.inj hW).2).symm
    have hs : (rOps 14).data.toList = [102, 114, 114] := rfl
    subst hW
    simp only [List.length_cons, List.length_nil] at hlen
    rw [hf, hs]
    refine ⟨?_, ?_⟩
    · simp [opGo, wantD, cD, hlen, hwd, nI, rA, rB, rC, stp_num nI, stp_reg c1 (rA 114), stp_reg c1 (rB 114), stp_reg c1 (rC 114), stp_reg c2 (rA 102), stp_reg c2 (rB 102), stp_reg c2 (rC 102), setD]
      exact Ins.ext5 rfl rfl rfl rfl zI'.symm
    · unfold opGood
      rw [hf] at *
      simp [hlen, hwd, hk]
  · rw [hf] at zA zB zC zI
    have zB' : i.B = 0 := by have : mxB 15 = 0 := rfl; omega
    have zC' : i.C = 0 := by have : mxC 15 = 0 := rfl; omega
    have ho : opsV i = [opdV i 97, opdV i 105] := by unfold opsV; rw [hf]; rfl
    have hr : rowV (formV i.op) (opsV i) = [opdV i 97, opdV i 105] := by rw [ho, hf]; rfl
    rw [text_n i hr, join_2, tk_2 pn nn (hpl 97).1 (hpl 97).2 (hpl 105).1 (hpl 105).2, l97, l105] at hW
    have hW : W = [114 :: Lib.itoa i.A, [44], Lib.itoa i.I] := ((List.cons.inj hW).2).symm
    have hs : (rOps 15).data.toList = [114, 105] := rfl
    subst hW
    simp only [List.length_cons, List.length_nil] at hlen
    rw [hf, hs]
    refine ⟨?_, ?_⟩
    · simp [opGo, wantD, cD, hlen, hwd, nI, rA, rB, rC, stp_num nI, stp_reg c1 (rA 114), stp_reg c1 (rB 114), stp_reg c1 (rC 114), stp_reg c2 (rA 102), stp_reg c2 (rB 102), stp_reg c2 (rC 102), setD]
      exact Ins.ext5 rfl rfl zB'.symm zC'.symm rfl
    · unfold opGood
      rw [hf] at *
      simp [hlen, hwd, hk]
end Go.Proofs.YtbaooebafijenaaDoor
