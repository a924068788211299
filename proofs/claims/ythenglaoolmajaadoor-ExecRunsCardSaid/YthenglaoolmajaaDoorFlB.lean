/- The document's functions on floats: what they answer. -/
import Derived.Test.YthenglaoolmajaaDoorFlA
import Derived.Test.YthenglaoolmajaaDoorRefF
import Derived.Test.YthenglaoolmajaaDoorExecY
namespace Go.Proofs.YthenglaoolmajaaDoor
open Go Go.ChangeShapes Go.WideShapes Go.RowKit Go.Ev
set_option maxRecDepth 100000
set_option linter.unusedSimpArgs false
set_option linter.unusedVariables false
def PW (w w' : World) : Prop := (∀ b, b < w.heap.size → w'.heap[b]? = w.heap[b]?) ∧ w.heap.size ≤ w'.heap.size ∧ w'.tape = w.tape ∧ w'.os = w.os ∧ w'.output = w.output
theorem PW.refl {w : World} : PW w w := ⟨fun _ _ => Eq.refl _, Nat.le_refl _, Eq.refl _, Eq.refl _, Eq.refl _⟩
theorem t78 (a : Int) (w : World) : Calls Tryd.prog 78 #[.int .u64 a] w fun e w' => e = .returned (.bool (decide (nanI a))) ∧ w' = w := by
  have hb : Go.bits .andNot .u64 a 9223372036854775808 = a % 9223372036854775808 := an63 a
  have hv : decide (nanI a) = decide (9218868437227405312 < Go.bits .andNot .u64 a 9223372036854775808) := by simp only [nanI, hb]
  rw [hv]
  clear hb hv
  go_enter Tryd.func78, Tryd.ntmps78
  go_wp2
  all_goals (go_ret; exact ⟨rfl, rfl⟩)
theorem fb_nan (b : Nat) (hb : b < 18446744073709551616) : fbits b = if nanI b then 9221120237041090560 else b := by
  have h := nanF_iff (b : Int) (by omega)
  rw [Int.toNat_natCast] at h
  unfold fbits
  rw [h]
  by_cases hn : nanI b <;> simp [hn]
theorem t75 (b : Nat) (hb : b < 18446744073709551616) (w : World) : Calls Tryd.prog 75 #[.float .f64 b] w fun e w' => e = .returned (.int .u64 (fbits b)) ∧ w' = w := by
  rw [fb_nan b hb]
  clear hb
  go_enter Tryd.func75, Tryd.ntmps75
  go_wp2_with (first | simp only [x81] | (go_at_call 78; ((with_reducible refine (t78 _ _).mono ?_); rintro e w' ⟨rfl, rfl⟩)))
  all_goals (go_ret; simp_all)
theorem fop_lt {op : BinOp} {x y r : Nat} (h : floatBits op .f64 x y = some r) : r < 18446744073709551616 := by
  have := floatBits_wf h
  simpa [Lit.wf] using this
theorem cut_lt (x y t : Nat) : (Question.nanBits .f64 x y).cut t < 18446744073709551616 := by
  have h1 : (t / 2) % (2 ^ 52 - 1) < 2 ^ 52 - 1 := Nat.mod_lt _ (by decide)
  show (t % 2) * 2 ^ 63 + 0x7ff0000000000000 + 1 + (t / 2) % (2 ^ 52 - 1) < 18446744073709551616
  generalize (t / 2) % (2 ^ 52 - 1) = z at h1 ⊢
  have h2 : t % 2 = 0 ∨ t % 2 = 1 := by omega
  rcases h2 with h2 | h2 <;> rw [h2] <;> omega
theorem cvF (b : Nat) (w : World) : (convert 101 101 (.float .f64 b)).run Tryd.prog w = .ok (.float .f64 b) w := run_convert_float_float w 101 101 .f64 .f64 b b (by kernel_rfl) (by kernel_rfl) (by simp [floatToFloatBits])
theorem t57_46 (a b : Int) (w : World) : Calls Tryd.prog 57 #[.int .i64 46, .int .u64 a, .int .u64 b] w fun e w' => e = .returned (.tuple #[.int .u64 (fop .add a.toNat b.toNat), .int .i64 0]) ∧ QW w w' := by
  rcases h : floatBits .add .f64 a.toNat b.toNat with _ | r
  · have hop := fun t w => run_float_nan .add (Or.inl rfl) t a.toNat b.toNat w h
    have hv : fop .add a.toNat b.toNat = 9221120237041090560 := by simp only [fop, h]
    have hlt := cut_lt a.toNat b.toNat (w.tape w.drawn (.nanBits .f64 a.toNat b.toNat))
    rw [hv]
    clear hv h
    go_enter Tryd.func57, Tryd.ntmps57
    go_wp2_with (first | simp only [hop] | simp only [x74] | simp only [cvF] | (go_at_call 75; ((with_reducible refine (t75 _ hlt _).mono ?_); rintro e w' ⟨rfl, rfl⟩)))
    all_goals (go_ret2; rw [fbits_cut]; exact ⟨rfl, rfl, rfl, rfl, rfl⟩)
  · have hop := fun t w => run_float_arith (P := Tryd.prog) w .add t .f64 a.toNat b.toNat r h
    have hv : fop .add a.toNat b.toNat = fbits r := by simp only [fop, h]
    have hlt := fop_lt h
    rw [hv]
    clear hv h
    go_enter Tryd.func57, Tryd.ntmps57
    go_wp2_with (first | simp only [hop] | simp only [x74] | simp only [cvF] | (go_at_call 75; ((with_reducible refine (t75 _ hlt _).mono ?_); rintro e w' ⟨rfl, rfl⟩)))
    all_goals (go_ret2; exact ⟨rfl, QW.refl⟩)
theorem t57_47 (a b : Int) (w : World) : Calls Tryd.prog 57 #[.int .i64 47, .int .u64 a, .int .u64 b] w fun e w' => e = .returned (.tuple #[.int .u64 (fop .sub a.toNat b.toNat), .int .i64 0]) ∧ QW w w' := by
  rcases h : floatBits .sub .f64 a.toNat b.toNat with _ | r
  · have hop := fun t w => run_float_nan .sub (Or.inr (Or.inl rfl)) t a.toNat b.toNat w h
    have hv : fop .sub a.toNat b.toNat = 9221120237041090560 := by simp only [fop, h]
    have hlt := cut_lt a.toNat b.toNat (w.tape w.drawn (.nanBits .f64 a.toNat b.toNat))
    rw [hv]
    clear hv h
    go_enter Tryd.func57, Tryd.ntmps57
    go_wp2_with (first | simp only [hop] | simp only [x74] | simp only [cvF] | (go_at_call 75; ((with_reducible refine (t75 _ hlt _).mono ?_); rintro e w' ⟨rfl, rfl⟩)))
    all_goals (go_ret2; rw [fbits_cut]; exact ⟨rfl, rfl, rfl, rfl, rfl⟩)
  · have hop := fun t w => run_float_arith (P := Tryd.prog) w .sub t .f64 a.toNat b.toNat r h
    have hv : fop .sub a.toNat b.toNat = fbits r := by simp only [fop, h]
    have hlt := fop_lt h
    rw [hv]
    clear hv h
    go_enter Tryd.func57, Tryd.ntmps57
    go_wp2_with (first | simp only [hop] | simp only [x74] | simp only [cvF] | (go_at_call 75; ((with_reducible refine (t75 _ hlt _).mono ?_); rintro e w' ⟨rfl, rfl⟩)))
    all_goals (go_ret2; exact ⟨rfl, QW.refl⟩)
theorem t57_48 (a b : Int) (w : World) : Calls Tryd.prog 57 #[.int .i64 48, .int .u64 a, .int .u64 b] w fun e w' => e = .returned (.tuple #[.int .u64 (fop .mul a.toNat b.toNat), .int .i64 0]) ∧ QW w w' := by
  rcases h : floatBits .mul .f64 a.toNat b.toNat with _ | r
  · have hop := fun t w => run_float_nan .mul (Or.inr (Or.inr (Or.inl rfl))) t a.toNat b.toNat w h
    have hv : fop .mul a.toNat b.toNat = 9221120237041090560 := by simp only [fop, h]
    have hlt := cut_lt a.toNat b.toNat (w.tape w.drawn (.nanBits .f64 a.toNat b.toNat))
    rw [hv]
    clear hv h
    go_enter Tryd.func57, Tryd.ntmps57
    go_wp2_with (first | simp only [hop] | simp only [x74] | simp only [cvF] | (go_at_call 75; ((with_reducible refine (t75 _ hlt _).mono ?_); rintro e w' ⟨rfl, rfl⟩)))
    all_goals (go_ret2; rw [fbits_cut]; exact ⟨rfl, rfl, rfl, rfl, rfl⟩)
  · have hop := fun t w => run_float_arith (P := Tryd.prog) w .mul t .f64 a.toNat b.toNat r h
    have hv : fop .mul a.toNat b.toNat = fbits r := by simp only [fop, h]
    have hlt := fop_lt h
    rw [hv]
    clear hv h
    go_enter Tryd.func57, Tryd.ntmps57
    go_wp2_with (first | simp only [hop] | simp only [x74] | simp only [cvF] | (go_at_call 75; ((with_reducible refine (t75 _ hlt _).mono ?_); rintro e w' ⟨rfl, rfl⟩)))
    all_goals (go_ret2; exact ⟨rfl, QW.refl⟩)
theorem t57_49 (a b : Int) (w : World) : Calls Tryd.prog 57 #[.int .i64 49, .int .u64 a, .int .u64 b] w fun e w' => e = .returned (.tuple #[.int .u64 (fop .quo a.toNat b.toNat), .int .i64 0]) ∧ QW w w' := by
  rcases h : floatBits .quo .f64 a.toNat b.toNat with _ | r
  · have hop := fun t w => run_float_nan .quo (Or.inr (Or.inr (Or.inr rfl))) t a.toNat b.toNat w h
    have hv : fop .quo a.toNat b.toNat = 9221120237041090560 := by simp only [fop, h]
    have hlt := cut_lt a.toNat b.toNat (w.tape w.drawn (.nanBits .f64 a.toNat b.toNat))
    rw [hv]
    clear hv h
    go_enter Tryd.func57, Tryd.ntmps57
    go_wp2_with (first | simp only [hop] | simp only [x74] | simp only [cvF] | (go_at_call 75; ((with_reducible refine (t75 _ hlt _).mono ?_); rintro e w' ⟨rfl, rfl⟩)))
    all_goals (go_ret2; rw [fbits_cut]; exact ⟨rfl, rfl, rfl, rfl, rfl⟩)
  · have hop := fun t w => run_float_arith (P := Tryd.prog) w .quo t .f64 a.toNat b.toNat r h
    have hv : fop .quo a.toNat b.toNat = fbits r := by simp only [fop, h]
    have hlt := fop_lt h
    rw [hv]
    clear hv h
    go_enter Tryd.func57, Tryd.ntmps57
    go_wp2_with (first | simp only [hop] | simp only [x74] | simp only [cvF] | (go_at_call 75; ((with_reducible refine (t75 _ hlt _).mono ?_); rintro e w' ⟨rfl, rfl⟩)))
    all_goals (go_ret2; exact ⟨rfl, QW.refl⟩)
theorem t57_50 (a b : Int) (w : World) (hC : Calls Tryd.prog 76 #[.int .u64 a] w fun e w' => e = .returned (.int .u64 (sqF a.toNat)) ∧ PW w w') : Calls Tryd.prog 57 #[.int .i64 50, .int .u64 a, .int .u64 b] w fun e w' => e = .returned (.tuple #[.int .u64 (sqF a.toNat), .int .i64 0]) ∧ PW w w' := by
  generalize sqF a.toNat = r at hC ⊢
  go_enter Tryd.func57, Tryd.ntmps57
  go_wp2_with (first | simp only [x74] | (go_at_call 76; ((with_reducible refine hC.mono ?_); rintro e w' ⟨rfl, hp⟩)))
  all_goals (go_ret2; exact ⟨rfl, by assumption⟩)
theorem t57_51 (a b : Int) (w : World) (hC : Calls Tryd.prog 77 #[.bool true, .int .u64 a, .int .u64 b] w fun e w' => e = .returned (.int .u64 (pkV true a b)) ∧ PW w w') : Calls Tryd.prog 57 #[.int .i64 51, .int .u64 a, .int .u64 b] w fun e w' => e = .returned (.tuple #[.int .u64 (pkV true a b), .int .i64 0]) ∧ PW w w' := by
  generalize pkV true a b = r at hC ⊢
  go_enter Tryd.func57, Tryd.ntmps57
  go_wp2_with (first | simp only [x74] | (go_at_call 77; ((with_reducible refine hC.mono ?_); rintro e w' ⟨rfl, hp⟩)))
  all_goals (go_ret2; exact ⟨rfl, by assumption⟩)
theorem t57_52 (a b : Int) (w : World) (hC : Calls Tryd.prog 77 #[.bool false, .int .u64 a, .int .u64 b] w fun e w' => e = .returned (.int .u64 (pkV false a b)) ∧ PW w w') : Calls Tryd.prog 57 #[.int .i64 52, .int .u64 a, .int .u64 b] w fun e w' => e = .returned (.tuple #[.int .u64 (pkV false a b), .int .i64 0]) ∧ PW w w' := by
  generalize pkV false a b = r at hC ⊢
  go_enter Tryd.func57, Tryd.ntmps57
  go_wp2_with (first | simp only [x74] | (go_at_call 77; ((with_reducible refine hC.mono ?_); rintro e w' ⟨rfl, hp⟩)))
  all_goals (go_ret2; exact ⟨rfl, by assumption⟩)
theorem t57_53 (a b : Int) (w : World) : Calls Tryd.prog 57 #[.int .i64 53, .int .u64 a, .int .u64 b] w fun e w' => e = .returned (.tuple #[.int .u64 (Go.bits .xor .u64 a 9223372036854775808), .int .i64 0]) ∧ w' = w := by
  go_enter Tryd.func57, Tryd.ntmps57
  go_wp2_with (first | simp only [x74])
  all_goals (go_ret2; exact ⟨rfl, rfl⟩)
theorem t57_54 (a b : Int) (w : World) : Calls Tryd.prog 57 #[.int .i64 54, .int .u64 a, .int .u64 b] w fun e w' => e = .returned (.tuple #[.int .u64 (Go.bits .andNot .u64 a 9223372036854775808), .int .i64 0]) ∧ w' = w := by
  go_enter Tryd.func57, Tryd.ntmps57
  go_wp2_with (first | simp only [x74])
  all_goals (go_ret2; exact ⟨rfl, rfl⟩)
theorem cmp3 (a b : Int) : compare a b = if a < b then .lt else if a = b then .eq else .gt := rfl
theorem keyV_int (x : Int) (hx : 0 ≤ x ∧ x < 18446744073709551616) : keyV x.toNat = if 9223372036854775808 ≤ x then -(x % 9223372036854775808) else x := by
  unfold keyV
  by_cases h : 9223372036854775808 ≤ x
  · rw [if_pos h, if_pos (by omega)]; omega
  · rw [if_neg h, if_neg (by omega)]; omega
theorem less_ord (x y : Int) (hx : 0 ≤ x ∧ x < 18446744073709551616) (hy : 0 ≤ y ∧ y < 18446744073709551616) (h1 : ¬ nanI x) (h2 : ¬ nanI y) : lessF x.toNat y.toNat = decide (ordV x < ordV y) := by
  have e1 : ¬ nanB x.toNat := fun h => h1 ((nanB_iff x hx).1 h)
  have e2 : ¬ nanB y.toNat := fun h => h2 ((nanB_iff y hy).1 h)
  have wx : wrap64 ((x.toNat : Nat) : Int) < 0 ↔ 9223372036854775808 ≤ x := by unfold wrap64; omega
  have wy : wrap64 ((y.toNat : Nat) : Int) < 0 ↔ 9223372036854775808 ≤ y := by unfold wrap64; omega
  unfold lessF
  rw [order_key _ _ e1 e2, cmp3, keyV_int x hx, keyV_int y hy]
  unfold ordV
  by_cases hx2 : 9223372036854775808 ≤ x <;> by_cases hy2 : 9223372036854775808 ≤ y <;> simp only [hx2, hy2, wx, wy, if_true, if_false, decide_true, decide_false, Bool.not_true, Bool.not_false, Bool.and_true, Bool.and_false, Bool.or_false]
  all_goals
    repeat' split
    all_goals simp <;> omega
theorem pk_min (x y : Int) (hx : 0 ≤ x ∧ x < 18446744073709551616) (hy : 0 ≤ y ∧ y < 18446744073709551616) : pkV true x y = exF x y false := by
  unfold pkV exF
  rw [nanF_iff x hx, nanF_iff y hy]
  by_cases h1 : nanI x <;> by_cases h2 : nanI y <;> simp [h1, h2]
  rw [less_ord y x hy hx h2 h1]
  unfold nanI at h1 h2
  unfold ordV
  by_cases hx2 : 9223372036854775808 ≤ x <;> by_cases hy2 : 9223372036854775808 ≤ y <;> simp [hx2, hy2] <;> repeat' split <;> omega
theorem pk_max (x y : Int) (hx : 0 ≤ x ∧ x < 18446744073709551616) (hy : 0 ≤ y ∧ y < 18446744073709551616) : pkV false x y = exF x y true := by
  unfold pkV exF
  rw [nanF_iff x hx, nanF_iff y hy]
  by_cases h1 : nanI x <;> by_cases h2 : nanI y <;> simp [h1, h2]
  rw [less_ord y x hy hx h2 h1]
  unfold nanI at h1 h2
  unfold ordV
  by_cases hx2 : 9223372036854775808 ≤ x <;> by_cases hy2 : 9223372036854775808 ≤ y <;> simp [hx2, hy2] <;> repeat' split <;> omega
theorem cm_eq (op x y : Int) (ho : op = 55 ∨ op = 56 ∨ op = 57) (hx : 0 ≤ x ∧ x < 18446744073709551616) (hy : 0 ≤ y ∧ y < 18446744073709551616) : cmV op x y = .tuple #[.int .u32 (cmI op x y), .int .i64 0] := by
  unfold cmV cmI
  by_cases hn : nanI x ∨ nanI y
  · rw [order_nan _ _ (hn.imp (nanB_iff x hx).2 (nanB_iff y hy).2), if_pos hn]
    rcases ho with rfl | rfl | rfl <;> rfl
  · have h1 : ¬ nanI x := fun h => hn (Or.inl h)
    have h2 : ¬ nanI y := fun h => hn (Or.inr h)
    have e1 : ¬ nanB x.toNat := fun h => h1 ((nanB_iff x hx).1 h)
    have e2 : ¬ nanB y.toNat := fun h => h2 ((nanB_iff y hy).1 h)
    rw [order_key _ _ e1 e2, if_neg hn, cmp3, keyV_int x hx, keyV_int y hy]
    unfold zerI ordV b2i
    rcases ho with rfl | rfl | rfl
    all_goals
      simp only [if_true]
      congr 3
      by_cases hx2 : 9223372036854775808 ≤ x <;> by_cases hy2 : 9223372036854775808 ≤ y <;> simp only [hx2, hy2, if_true, if_false]
      all_goals
        repeat' split
        all_goals simp_all <;> omega
theorem t60 (a : Int) (w : World) : Calls Tryd.prog 60 #[.int .u32 a] w fun e w' => e = .returned (.int .u64 (fiV a)) ∧ w' = w := by
  go_enter Tryd.func60, Tryd.ntmps60
  go_wp2_with (simp only [x81])
  all_goals (go_ret; exact ⟨rfl, rfl⟩)
theorem t61 (a : Int) (ha : 0 ≤ a ∧ a < 18446744073709551616) (w : World) : Calls Tryd.prog 61 #[.int .u64 a] w fun e w' => e = .returned (.int .u32 (tiV a)) ∧ w' = w := by
  have hn := nanF_iff a ha
  clear ha
  unfold tiV
  rw [hn]
  by_cases hb : decide (nanI a) = false ∧ bigF a.toNat = false ∧ lowF a.toNat = false
  · obtain ⟨e1, e2, e3⟩ := hb
    obtain ⟨m, hm⟩ := Ev.toInt_in a.toNat (by rw [← e1]; exact hn) e2 e3
    have hc : ∀ w, (convert 101 21 (.float .f64 a.toNat)).run Tryd.prog w = .ok (.int .i32 m) w := fun w => run_convert_float_int w 101 21 .f64 .i32 a.toNat m (by kernel_rfl) (by kernel_rfl) hm
    rw [hm, e1, e2, e3]
    clear hm hn
    unfold bigF at e2
    unfold lowF at e3
    go_enter Tryd.func61, Tryd.ntmps61
    go_wp2_with (first | simp only [hc] | simp only [x74] | (go_at_call 78; ((with_reducible refine (t78 _ _).mono ?_); rintro e w' ⟨rfl, rfl⟩)))
    all_goals (go_ret; simp_all [FloatKind.format])
  · clear hn
    unfold bigF lowF at hb ⊢
    go_enter Tryd.func61, Tryd.ntmps61
    go_wp2_with (first | simp only [x74] | (go_at_call 78; ((with_reducible refine (t78 _ _).mono ?_); rintro e w' ⟨rfl, rfl⟩)))
    all_goals first | (go_ret; simp_all [FloatKind.format]; done) | (exfalso; simp_all [FloatKind.format]; done)
end Go.Proofs.YthenglaoolmajaaDoor
