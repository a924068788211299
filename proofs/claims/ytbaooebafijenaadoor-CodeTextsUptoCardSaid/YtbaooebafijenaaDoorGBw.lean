/- There and back: instructions and their words. -/
import Derived.Test.YtbaooebafijenaaDoorGBk
import Derived.Test.YtbaooebafijenaaDoorGCodeD
namespace Go.Proofs.YtbaooebafijenaaDoor
open Go Go.Ev
set_option maxRecDepth 100000
set_option linter.unusedSimpArgs false
set_option linter.unusedVariables false
set_option linter.unusedSectionVars false
variable [Mx]
theorem orK_add (a b k : Nat) (hb : b < 2 ^ k) (h : a * 2 ^ k + b < 4294967296) : orK .u32 ((a * 2 ^ k : Nat) : Int) (b : Int) = ((a * 2 ^ k + b : Nat) : Int) := by
  rw [orK_nat _ _ (by omega) (by omega), Nat.mul_comm a, ← Nat.two_pow_add_eq_or_of_lt hb]
theorem shl_nat (a k : Nat) (hk : k ≤ 32) (h : a * 2 ^ k < 4294967296) : shlK .u32 (a : Int) k = ((a * 2 ^ k : Nat) : Int) := by
  unfold shlK
  rw [bits_u32, Nat.min_eq_left hk]
  have : (a : Int) * 2 ^ k = ((a * 2 ^ k : Nat) : Int) := by push_cast; rfl
  rw [this]
  exact IntWalk.u32_in _ ⟨by omega, by omega⟩
theorem mul_help (X B : Nat) : X * 2 ^ 20 + B * 2 ^ 16 = (X * 16 + B) * 65536 := by rw [Nat.add_mul, Nat.mul_assoc]
theorem base_num (op A B : Nat) (h1 : op < 72) (h2 : A < 16) (h3 : B < 16) : baseV op A B = ((((op * 16 + A) * 16 + B) * 65536 : Nat) : Int) := by
  unfold baseV
  have w1 : IntKind.wrap .u32 (op : Int) = (op : Int) := IntWalk.u32_in _ ⟨by omega, by omega⟩
  have w2 : IntKind.wrap .u32 (A : Int) = (A : Int) := IntWalk.u32_in _ ⟨by omega, by omega⟩
  have w3 : IntKind.wrap .u32 (B : Int) = (B : Int) := IntWalk.u32_in _ ⟨by omega, by omega⟩
  rw [w1, w2, w3, shl_nat op 24 (by omega) (by omega), shl_nat A 20 (by omega) (by omega), shl_nat B 16 (by omega) (by omega)]
  rw [orK_add op (A * 2 ^ 20) 24 (by omega) (by omega)]
  have e1 : op * 2 ^ 24 + A * 2 ^ 20 = (op * 16 + A) * 2 ^ 20 := by omega
  rw [e1, orK_add (op * 16 + A) (B * 2 ^ 16) 20 (by omega) (by omega)]
  rw [mul_help (op * 16 + A) B]
theorem hasV_F (op : Int) : hasV op = hasF (formV op) := by unfold hasV hasF; rfl
theorem enc_num {i : Ins} (hk : chkV i.op i.A i.B i.C i.I = 0) : ∃ L : Int, 0 ≤ L ∧ L < 65536 ∧ encV i.op i.A i.B i.C i.I = ((i.op * 16 + i.A) * 16 + i.B) * 65536 + L ∧ (hasV i.op = true → L = i.I % 65536) ∧ (hasV i.op = false → L = i.C * 4096) := by
  obtain ⟨hf1, hf2, hA, hB, hC, hI⟩ := chk_small hk
  obtain ⟨hop1, hop2⟩ := op_range hf1
  obtain ⟨op, e0⟩ := Int.eq_ofNat_of_zero_le (a := i.op) (by omega)
  obtain ⟨A, e1⟩ := Int.eq_ofNat_of_zero_le (a := i.A) (by omega)
  obtain ⟨B, e2⟩ := Int.eq_ofNat_of_zero_le (a := i.B) (by omega)
  obtain ⟨C, e3⟩ := Int.eq_ofNat_of_zero_le (a := i.C) (by omega)
  have hb := base_num op A B (by omega) (by omega) (by omega)
  rw [e0, e1, e2, e3]
  unfold encV
  rw [hb]
  cases hh : hasV (op : Int) with
  | true =>
    rw [if_pos rfl]
    have hw : IntKind.wrap .u32 i.I = i.I % 4294967296 := IntKind.wrap_u32 _
    have ha : andK .u32 (IntKind.wrap .u32 i.I) 65535 = i.I % 65536 := by
      rw [andK_low _ (wrap_u32_range _), hw]
      omega
    rw [ha]
    obtain ⟨L, eL⟩ := Int.eq_ofNat_of_zero_le (a := i.I % 65536) (by omega)
    have := orK_add ((op * 16 + A) * 16 + B) L 16 (by omega) (by omega)
    refine ⟨i.I % 65536, by omega, by omega, ?_, fun _ => rfl, fun h => by cases h⟩
    rw [eL]
    have e16 : (2 : Nat) ^ 16 = 65536 := rfl
    rw [e16] at this
    rw [this]
    omega
  | false =>
    rw [if_neg (by decide)]
    have w3 : IntKind.wrap .u32 (C : Int) = (C : Int) := IntWalk.u32_in _ ⟨by omega, by omega⟩
    rw [w3, shl_nat C 12 (by omega) (by omega)]
    have := orK_add ((op * 16 + A) * 16 + B) (C * 2 ^ 12) 16 (by omega) (by omega)
    refine ⟨((C * 2 ^ 12 : Nat) : Int), by omega, by omega, ?_, fun h => by (cases h), fun _ => by omega⟩
    have e16 : (2 : Nat) ^ 16 = 65536 := rfl
    rw [e16] at this
    rw [this]
    omega
theorem fdiv_nat (a b : Int) (hb : 0 ≤ b) : a.fdiv b = a / b := Int.fdiv_eq_ediv_of_nonneg a hb
theorem shr_div (a : Int) (k : Nat) (hk : k ≤ 32) : shrK .u32 a k = a / 2 ^ k := by
  unfold shrK
  rw [bits_u32, Nat.min_eq_left hk, fdiv_nat]
  exact Int.le_of_lt (Int.pow_pos (by decide))
theorem opW_eq (w : Int) (h : 0 ≤ w ∧ w < 4294967296) : opW w = w / 16777216 := by
  unfold opW
  rw [shr_div _ _ (by decide)]
  exact IntWalk.i64_in _ (by omega)
theorem aW_eq (w : Int) (h : 0 ≤ w ∧ w < 4294967296) : aW w = w / 1048576 % 16 := by
  unfold aW
  rw [shr_div _ _ (by decide), andK_15 _ (by omega)]
  exact IntWalk.i64_in _ (by omega)
theorem bW_eq (w : Int) (h : 0 ≤ w ∧ w < 4294967296) : bW w = w / 65536 % 16 := by
  unfold bW
  rw [shr_div _ _ (by decide), andK_15 _ (by omega)]
  exact IntWalk.i64_in _ (by omega)
theorem cW_eq (w : Int) (h : 0 ≤ w ∧ w < 4294967296) : cW w = w / 4096 % 16 := by
  unfold cW
  rw [shr_div _ _ (by decide), andK_15 _ (by omega)]
  exact IntWalk.i64_in _ (by omega)
theorem iW_eq (w : Int) (h : 0 ≤ w ∧ w < 4294967296) : iW w = w % 65536 := by
  unfold iW
  rw [andK_low w h]
  exact IntWalk.i64_in _ (by omega)
theorem sW_eq (w : Int) (h : 0 ≤ w ∧ w < 4294967296) : sW w = if 32768 ≤ w % 65536 then w % 65536 - 65536 else w % 65536 := by
  unfold sW
  have e : IntKind.wrap .i16 w = if 32768 ≤ w % 65536 then w % 65536 - 65536 else w % 65536 := by
    simp only [IntKind.wrap, IntKind.bits, IntKind.signed]; simp <;> (try (split <;> split <;> omega)) <;> (try omega)
  rw [e]
  split <;> exact IntWalk.i64_in _ (by omega)
theorem low_cases (op : Int) : (lowV op = -32768 ∧ highV op = 32767) ∨ (lowV op = 0 ∧ highV op ≤ 65535) := by
  by_cases h : 0 ≤ op ∧ op < 72
  · have := of_decide_eq_true (List.all_eq_true.1 (show (List.range 72).all (fun k => decide ((lowV (k : Int) = -32768 ∧ highV (k : Int) = 32767) ∨ (lowV (k : Int) = 0 ∧ highV (k : Int) ≤ 65535))) = true by decide) op.toNat (List.mem_range.2 (by omega)))
    rwa [show ((op.toNat : Nat) : Int) = op by omega] at this
  · left
    unfold lowV highV
    rw [if_neg h, if_neg h]
    decide
/-- an instruction is read back from its word -/
theorem back_word {i : Ins} (hk : chkV i.op i.A i.B i.C i.I = 0) : decR (encV i.op i.A i.B i.C i.I) = .tuple #[i.val, .int .i64 0] := by
  obtain ⟨hf1, hf2, hA, hB, hC, hI⟩ := chk_small hk
  obtain ⟨hop1, hop2⟩ := op_range hf1
  obtain ⟨zB, zC, zA, zI⟩ := chk_okP hk
  obtain ⟨L, hL1, hL2, he, hy, hn⟩ := enc_num hk
  have hchk := hk
  unfold chkV at hchk
  rw [if_neg (by omega)] at hchk
  have hIr : (bif hasF (formV i.op) then lowV i.op else 0) ≤ i.I ∧ i.I ≤ (bif hasF (formV i.op) then highV i.op else 0) := by
    split at hchk
    · rename_i ho; exact ho.2.2.2
    · cases hchk
  rw [← hasV_F] at hIr
  generalize hw : encV i.op i.A i.B i.C i.I = w at he ⊢
  have hr : 0 ≤ w ∧ w < 4294967296 := by omega
  have a1 : opW w = i.op := by rw [opW_eq w hr]; omega
  have a2 : aW w = i.A := by rw [aW_eq w hr]; omega
  have a3 : bW w = i.B := by rw [bW_eq w hr]; omega
  have a4 : dC w = i.C := by
    unfold dC
    rw [a1]
    cases hh : hasV i.op with
    | true =>
      rw [if_pos rfl]
      have : mxC (formV i.op) = 0 := by
        have hF := hasV_F i.op
        rw [hh] at hF
        have hc : formV i.op = 1 ∨ formV i.op = 2 ∨ formV i.op = 3 ∨ formV i.op = 4 ∨ formV i.op = 5 ∨ formV i.op = 6 ∨ formV i.op = 7 ∨ formV i.op = 8 ∨ formV i.op = 9 ∨ formV i.op = 10 ∨ formV i.op = 11 ∨ formV i.op = 12 ∨ formV i.op = 13 ∨ formV i.op = 14 ∨ formV i.op = 15 := by omega
        rcases hc with e | e | e | e | e | e | e | e | e | e | e | e | e | e | e <;> rw [e] at hF ⊢ <;> first | rfl | exact absurd hF (by decide)
      omega
    | false =>
      rw [if_neg (by decide), cW_eq w hr]
      have := hn hh
      omega
  have a5 : dI w = i.I := by
    unfold dI
    rw [a1]
    cases hh : hasV i.op with
    | true =>
      have hl := hy hh
      rw [hh] at hIr
      simp only [cond_true] at hIr
      rw [if_pos rfl]
      rcases low_cases i.op with ⟨l1, l2⟩ | ⟨l1, l2⟩
      · rw [if_pos (by omega), sW_eq w hr]
        split <;> omega
      · rw [if_neg (by omega), iW_eq w hr]
        omega
    | false =>
      rw [hh] at hIr
      simp only [cond_false] at hIr
      rw [if_neg (by decide)]
      omega
  unfold decR
  rw [a1, a2, a3, a4, a5, if_neg (by omega), if_pos ⟨hk, hw⟩]
  rfl
end Go.Proofs.YtbaooebafijenaaDoor
