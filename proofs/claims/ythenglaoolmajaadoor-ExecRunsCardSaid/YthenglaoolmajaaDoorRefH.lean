/- The program's doing and the document's come to the same. -/
import Derived.Test.YthenglaoolmajaaDoorRefG
import Derived.Test.YthenglaoolmajaaDoorExecU
import Derived.Test.YthenglaoolmajaaDoorFlB
namespace Go.Proofs.YthenglaoolmajaaDoor
open Go Go.Ev
set_option maxRecDepth 100000
set_option linter.unusedSimpArgs false
set_option linter.unusedVariables false
set_option maxHeartbeats 2000000
set_option linter.unusedSectionVars false
attribute [local congr] bind_front callK_front jn_front ifB_front ifG_front lp_front
def U32 (v : Int) : Prop := 0 ≤ v ∧ v < 4294967296
def U64 (v : Int) : Prop := 0 ≤ v ∧ v < 18446744073709551616
theorem u32_wrap (x : Int) : U32 (IntKind.wrap .u32 x) := wrap_u32_range x
theorem u64_wrap (x : Int) : U64 (IntKind.wrap .u64 x) := by rw [u64_e]; unfold U64; omega
theorem u32_shr (x : Int) (k : Nat) (h : U32 x) : U32 (shrK .u32 x k) := by
  unfold shrK
  have hp : (0 : Int) < 2 ^ (min k IntKind.u32.bits) := Int.pow_pos (by omega)
  rw [Int.fdiv_eq_ediv_of_nonneg _ (Int.le_of_lt hp)]
  have h1 : 0 ≤ x / 2 ^ (min k IntKind.u32.bits) := Int.ediv_nonneg h.1 (Int.le_of_lt hp)
  have h2 : x / 2 ^ (min k IntKind.u32.bits) ≤ x := Int.ediv_le_self _ h.1
  have := h.2
  unfold U32; omega
theorem u32_one (p : Prop) [Decidable p] : U32 (if p then 1 else 0) := by unfold U32; split <;> omega
theorem alu_u32 (op x y : Int) (ho : 2 ≤ op ∧ op ≤ 27) (hx : U32 x) (hy : U32 y) (h0 : op = 9 → y ≠ 0) : U32 (aluV op x y) := by
  have : op = 2 ∨ op = 3 ∨ op = 4 ∨ op = 5 ∨ op = 6 ∨ op = 7 ∨ op = 8 ∨ op = 9 ∨ op = 10 ∨ op = 11 ∨ op = 12 ∨ op = 13 ∨ op = 14 ∨ op = 15 ∨ op = 16 ∨ op = 17 ∨ op = 18 ∨ op = 19 ∨ op = 20 ∨ op = 21 ∨ op = 22 ∨ op = 23 ∨ op = 24 ∨ op = 25 ∨ op = 26 ∨ op = 27 := by omega
  rcases this with rfl | rfl | rfl | rfl | rfl | rfl | rfl | rfl | rfl | rfl | rfl | rfl | rfl | rfl | rfl | rfl | rfl | rfl | rfl | rfl | rfl | rfl | rfl | rfl | rfl | rfl
  · rw [aluV_2]; exact u32_wrap _
  · rw [aluV_3]; exact u32_wrap _
  · rw [aluV_4]; exact u32_wrap _
  · rw [aluV_5]; exact u32_wrap _
  · rw [aluV_6]; exact u32_wrap _
  · rw [aluV_7]; exact u32_wrap _
  · rw [aluV_8]; exact u32_wrap _
  · rw [aluV_9]; exact tmod_in x y hx hy (h0 rfl)
  · rw [aluV_10]; exact u32_wrap _
  · rw [aluV_11]; exact u32_wrap _
  · rw [aluV_12]; exact u32_wrap _
  · rw [aluV_13]; exact u32_wrap _
  · rw [aluV_14]; exact u32_shr _ _ hx
  · rw [aluV_15]; exact u32_wrap _
  · rw [aluV_16]; exact u32_one _
  · rw [aluV_17]; exact u32_one _
  · rw [aluV_18]; exact u32_wrap _
  · rw [aluV_19]; exact u32_wrap _
  · rw [aluV_20]; exact u32_wrap _
  · rw [aluV_21]; exact u32_wrap _
  · rw [aluV_22]; exact u32_wrap _
  · rw [aluV_23]; exact u32_shr _ _ hx
  · rw [aluV_24]; exact u32_wrap _
  · rw [aluV_25]; exact u32_one _
  · rw [aluV_26]; exact u32_one _
  · rw [aluV_27]; exact u32_wrap _
theorem fbits_u64 (r : Nat) (h : r < 18446744073709551616) : U64 (fbits r) := by
  rw [fb_nan r h]
  unfold U64
  split <;> omega
theorem fop_u64 (op : BinOp) (x y : Nat) : U64 (fop op x y) := by
  unfold fop
  rcases h : floatBits op .f64 x y with _ | r
  · show U64 9221120237041090560
    unfold U64; omega
  · exact fbits_u64 r (fop_lt h)
theorem sqF_u64 (x : Nat) : U64 (sqF x) := by
  unfold sqF
  rcases h : Ieee.double.sqrt x with _ | r
  · show U64 9221120237041090560
    unfold U64; omega
  · refine fbits_u64 r ?_
    unfold Ieee.Format.sqrt at h
    rcases h2 : (Ieee.double.read x).root (Ieee.double.fractionBits + 2) with _ | d
    · rw [h2] at h; cases h
    · rw [h2] at h
      simp only [Option.map_some, Option.some.injEq] at h
      have h3 := Ieee.double.write_lt d
      rw [h] at h3
      exact h3
theorem exF_u64 (a b : Int) (g : Bool) (ha : U64 a) (hb : U64 b) : U64 (exF a b g) := by
  unfold exF
  split
  · unfold U64; omega
  · split
    · exact hb
    · split
      · exact ha
      · split
        · exact hb
        · exact ha
theorem bits_u64 (op : BinOp) (h : op = .xor ∨ op = .andNot) (a b : Int) : U64 (Go.bits op .u64 a b) := by
  rcases h with rfl | rfl
  · exact u64_wrap _
  · exact u64_wrap _
theorem arV_u64 (op a b : Int) (ha : U64 a) (hb : U64 b) : U64 (arV op a b) := by
  unfold arV
  repeat' split
  all_goals first | exact fop_u64 _ _ _ | exact sqF_u64 _ | exact exF_u64 _ _ _ ha hb | exact bits_u64 _ (Or.inl rfl) _ _ | exact bits_u64 _ (Or.inr rfl) _ _
theorem fiV_u64 (a : Int) : U64 (fiV a) := by
  have : (floatOfInt .f64 (RowKit.wrap32 a)) < 18446744073709551616 := by
    have h := floatOfInt_wf .f64 (RowKit.wrap32 a)
    simpa [Lit.wf] using h
  unfold fiV U64
  omega
theorem tiV_u32 (a : Int) : U32 (tiV a) := by
  unfold tiV U32
  repeat' split
  all_goals omega
theorem cmI_u32 (op x y : Int) : U32 (cmI op x y) := by
  unfold cmI U32
  repeat' split
  all_goals omega
theorem clV_u32 (x : Int) : U32 (clV x) := by
  unfold clV
  simp only []
  repeat' split
  all_goals first | exact u32_wrap _ | (unfold U32; omega)
theorem cm_b2i (op x y : Int) (r : Int) (ho : op = 55 ∨ op = 56 ∨ op = 57) (hx : U64 x) (hy : U64 y) (h : cmV op x y = .tuple #[.int .u32 r, .int .i64 0]) : r = cmI op x y := by
  rw [cm_eq op x y ho hx hy] at h
  injection h with h
  injection h with h
  injection h with h1 h2
  injection h1 with _ h1
  exact h1.symm
theorem updR_in {R : Nat → Int} (hR : ∀ i, i < 16 → inK .u32 (R i)) : ∀ i, i < 16 → inK .u32 (upd R 0 0 i) := by
  intro i hi
  have := updR_range hR i hi
  exact ⟨this.1, Int.le_of_lt_add_one this.2⟩
theorem updA_in {R : Nat → Int} (hR : ∀ i, i < 16 → inK .u32 (R i)) (k : Nat) (v : Int) (hv : U32 v) : ∀ i, i < 16 → inK .u32 (upd (upd (upd R 0 0) k v) 0 0 i) := by
  intro i hi
  by_cases h0 : i = 0
  · subst h0
    have : upd (upd (upd R 0 0) k v) 0 0 0 = 0 := by simp [upd]
    rw [this]; exact ⟨by decide, by decide⟩
  · by_cases hk : i = k
    · subst hk
      rw [upd_at R i v h0]
      exact ⟨hv.1, Int.le_of_lt_add_one hv.2⟩
    · rw [upd_ne R k i v hk]
      exact updR_in hR i hi
theorem updF_in {F : Nat → Int} (hF : ∀ i, i < 8 → inK .u64 (F i)) (k : Nat) (v : Int) (hv : U64 v) : ∀ i, i < 8 → inK .u64 (upd F k v i) := by
  intro i hi
  simp only [upd]
  split
  · exact ⟨hv.1, Int.le_of_lt_add_one hv.2⟩
  · exact hF i hi
/-- both come to the same -/
def Both (R F : Nat → Int) (pc op A B C I ld : Int) : Prop := ∃ R2 F2 pc2 c t,
  (∀ n H, evCall cfc (n+80) 20 [.agg (regs R F pc).toArray, .agg #[.int .i64 op, .int .i64 A, .int .i64 B, .int .i64 C, .int .i64 I], .int .u64 ld] H = some (.ret (.tuple #[.agg (regs R2 F2 pc2).toArray, .int .i64 c, .int .u32 t]), H)) ∧
  (∀ n H, evCall cfc (n+80) 21 [.agg (regs R F pc).toArray, .agg #[.int .i64 op, .int .i64 A, .int .i64 B, .int .i64 C, .int .i64 I], .int .u64 ld] H = some (.ret (.tuple #[.agg (regs R2 F2 pc2).toArray, .int .i64 c, .int .u32 t]), H)) ∧
  (∀ i, i < 16 → inK .u32 (R2 i)) ∧ (∀ i, i < 8 → inK .u64 (F2 i)) ∧ U32 pc2
theorem both_1 (R F : Nat → Int) (pc A B C I ld : Int) (hR : ∀ i, i < 16 → inK .u32 (R i)) (hF : ∀ i, i < 8 → inK .u64 (F i)) (hpc : U32 pc) (hld : U64 ld) (hk : chkV 1 A B C I = 0) : Both R F pc 1 A B C I ld := by
  obtain ⟨hA, hB, hC, hI⟩ := chk_rng (f := 1) (a := 0) (b := 0) (c := 0) rfl rfl rfl rfl hk
  obtain rfl : A = 0 := by omega
  obtain rfl : B = 0 := by omega
  obtain rfl : C = 0 := by omega
  obtain rfl := hI rfl
  exact ⟨_, _, _, 0, 0, fun n H => done_1 (n+66) H R F pc ld, fun n H => rdone_1 (n+10) H R F pc  ld  hR hF hk, updR_in hR, hF, u32_wrap _⟩
theorem both_2 (R F : Nat → Int) (pc A B C I ld : Int) (hR : ∀ i, i < 16 → inK .u32 (R i)) (hF : ∀ i, i < 8 → inK .u64 (F i)) (hpc : U32 pc) (hld : U64 ld) (hk : chkV 2 A B C I = 0) : Both R F pc 2 A B C I ld := by
  obtain ⟨hA, hB, hC, hI⟩ := chk_rng (f := 2) (a := 15) (b := 15) (c := 15) rfl rfl rfl rfl hk
  have hA2 : 0 ≤ A ∧ A < 16 := by omega
  have hB2 : 0 ≤ B ∧ B < 16 := by omega
  have hC2 : 0 ≤ C ∧ C < 16 := by omega
  obtain rfl := hI rfl
  exact ⟨_, _, _, 0, 0, fun n H => done_2 (n+64) H R F pc ld A B C hR hA2 hB2 hC2 hk, fun n H => rdone_2 (n+10) H R F pc A B C ld hA2 hB2 hC2 hR hF hk, updA_in hR _ _ (alu_u32 2 _ _ (by omega) (updR_range hR _ (by omega)) (updR_range hR _ (by omega)) (by omega)), hF, u32_wrap _⟩
theorem both_3 (R F : Nat → Int) (pc A B C I ld : Int) (hR : ∀ i, i < 16 → inK .u32 (R i)) (hF : ∀ i, i < 8 → inK .u64 (F i)) (hpc : U32 pc) (hld : U64 ld) (hk : chkV 3 A B C I = 0) : Both R F pc 3 A B C I ld := by
  obtain ⟨hA, hB, hC, hI⟩ := chk_rng (f := 2) (a := 15) (b := 15) (c := 15) rfl rfl rfl rfl hk
  have hA2 : 0 ≤ A ∧ A < 16 := by omega
  have hB2 : 0 ≤ B ∧ B < 16 := by omega
  have hC2 : 0 ≤ C ∧ C < 16 := by omega
  obtain rfl := hI rfl
  exact ⟨_, _, _, 0, 0, fun n H => done_3 (n+64) H R F pc ld A B C hR hA2 hB2 hC2 hk, fun n H => rdone_3 (n+10) H R F pc A B C ld hA2 hB2 hC2 hR hF hk, updA_in hR _ _ (alu_u32 3 _ _ (by omega) (updR_range hR _ (by omega)) (updR_range hR _ (by omega)) (by omega)), hF, u32_wrap _⟩
theorem both_4 (R F : Nat → Int) (pc A B C I ld : Int) (hR : ∀ i, i < 16 → inK .u32 (R i)) (hF : ∀ i, i < 8 → inK .u64 (F i)) (hpc : U32 pc) (hld : U64 ld) (hk : chkV 4 A B C I = 0) : Both R F pc 4 A B C I ld := by
  obtain ⟨hA, hB, hC, hI⟩ := chk_rng (f := 2) (a := 15) (b := 15) (c := 15) rfl rfl rfl rfl hk
  have hA2 : 0 ≤ A ∧ A < 16 := by omega
  have hB2 : 0 ≤ B ∧ B < 16 := by omega
  have hC2 : 0 ≤ C ∧ C < 16 := by omega
  obtain rfl := hI rfl
  exact ⟨_, _, _, 0, 0, fun n H => done_4 (n+64) H R F pc ld A B C hR hA2 hB2 hC2 hk, fun n H => rdone_4 (n+10) H R F pc A B C ld hA2 hB2 hC2 hR hF hk, updA_in hR _ _ (alu_u32 4 _ _ (by omega) (updR_range hR _ (by omega)) (updR_range hR _ (by omega)) (by omega)), hF, u32_wrap _⟩
theorem both_5 (R F : Nat → Int) (pc A B C I ld : Int) (hR : ∀ i, i < 16 → inK .u32 (R i)) (hF : ∀ i, i < 8 → inK .u64 (F i)) (hpc : U32 pc) (hld : U64 ld) (hk : chkV 5 A B C I = 0) : Both R F pc 5 A B C I ld := by
  obtain ⟨hA, hB, hC, hI⟩ := chk_rng (f := 2) (a := 15) (b := 15) (c := 15) rfl rfl rfl rfl hk
  have hA2 : 0 ≤ A ∧ A < 16 := by omega
  have hB2 : 0 ≤ B ∧ B < 16 := by omega
  have hC2 : 0 ≤ C ∧ C < 16 := by omega
  obtain rfl := hI rfl
  exact ⟨_, _, _, 0, 0, fun n H => done_5 (n+64) H R F pc ld A B C hR hA2 hB2 hC2 hk, fun n H => rdone_5 (n+10) H R F pc A B C ld hA2 hB2 hC2 hR hF hk, updA_in hR _ _ (alu_u32 5 _ _ (by omega) (updR_range hR _ (by omega)) (updR_range hR _ (by omega)) (by omega)), hF, u32_wrap _⟩
theorem both_6 (R F : Nat → Int) (pc A B C I ld : Int) (hR : ∀ i, i < 16 → inK .u32 (R i)) (hF : ∀ i, i < 8 → inK .u64 (F i)) (hpc : U32 pc) (hld : U64 ld) (hk : chkV 6 A B C I = 0) : Both R F pc 6 A B C I ld := by
  obtain ⟨hA, hB, hC, hI⟩ := chk_rng (f := 2) (a := 15) (b := 15) (c := 15) rfl rfl rfl rfl hk
  have hA2 : 0 ≤ A ∧ A < 16 := by omega
  have hB2 : 0 ≤ B ∧ B < 16 := by omega
  have hC2 : 0 ≤ C ∧ C < 16 := by omega
  obtain rfl := hI rfl
  by_cases hz : upd R 0 0 C.toNat = 0
  · exact ⟨_, _, _, 6, 0, fun n H => (done_6 (n+64) H R F pc ld A B C hR hA2 hB2 hC2 hk).trans (by rw [if_pos hz]; rfl), fun n H => (rdone_6 (n+10) H R F pc A B C ld hA2 hB2 hC2 hR hF hk).trans (by rw [if_pos hz]; rfl), updR_in hR, hF, hpc⟩
  · exact ⟨_, _, _, 0, 0, fun n H => (done_6 (n+64) H R F pc ld A B C hR hA2 hB2 hC2 hk).trans (by rw [if_neg hz]; rfl), fun n H => (rdone_6 (n+10) H R F pc A B C ld hA2 hB2 hC2 hR hF hk).trans (by rw [if_neg hz]; rfl), updA_in hR _ _ (alu_u32 6 _ _ (by omega) (updR_range hR _ (by omega)) (updR_range hR _ (by omega)) (fun _ => hz)), hF, u32_wrap _⟩
theorem both_7 (R F : Nat → Int) (pc A B C I ld : Int) (hR : ∀ i, i < 16 → inK .u32 (R i)) (hF : ∀ i, i < 8 → inK .u64 (F i)) (hpc : U32 pc) (hld : U64 ld) (hk : chkV 7 A B C I = 0) : Both R F pc 7 A B C I ld := by
  obtain ⟨hA, hB, hC, hI⟩ := chk_rng (f := 2) (a := 15) (b := 15) (c := 15) rfl rfl rfl rfl hk
  have hA2 : 0 ≤ A ∧ A < 16 := by omega
  have hB2 : 0 ≤ B ∧ B < 16 := by omega
  have hC2 : 0 ≤ C ∧ C < 16 := by omega
  obtain rfl := hI rfl
  by_cases hz : upd R 0 0 C.toNat = 0
  · exact ⟨_, _, _, 6, 0, fun n H => (done_7 (n+64) H R F pc ld A B C hR hA2 hB2 hC2 hk).trans (by rw [if_pos hz]; rfl), fun n H => (rdone_7 (n+10) H R F pc A B C ld hA2 hB2 hC2 hR hF hk).trans (by rw [if_pos hz]; rfl), updR_in hR, hF, hpc⟩
  · exact ⟨_, _, _, 0, 0, fun n H => (done_7 (n+64) H R F pc ld A B C hR hA2 hB2 hC2 hk).trans (by rw [if_neg hz]; rfl), fun n H => (rdone_7 (n+10) H R F pc A B C ld hA2 hB2 hC2 hR hF hk).trans (by rw [if_neg hz]; rfl), updA_in hR _ _ (alu_u32 7 _ _ (by omega) (updR_range hR _ (by omega)) (updR_range hR _ (by omega)) (fun _ => hz)), hF, u32_wrap _⟩
theorem both_8 (R F : Nat → Int) (pc A B C I ld : Int) (hR : ∀ i, i < 16 → inK .u32 (R i)) (hF : ∀ i, i < 8 → inK .u64 (F i)) (hpc : U32 pc) (hld : U64 ld) (hk : chkV 8 A B C I = 0) : Both R F pc 8 A B C I ld := by
  obtain ⟨hA, hB, hC, hI⟩ := chk_rng (f := 2) (a := 15) (b := 15) (c := 15) rfl rfl rfl rfl hk
  have hA2 : 0 ≤ A ∧ A < 16 := by omega
  have hB2 : 0 ≤ B ∧ B < 16 := by omega
  have hC2 : 0 ≤ C ∧ C < 16 := by omega
  obtain rfl := hI rfl
  by_cases hz : upd R 0 0 C.toNat = 0
  · exact ⟨_, _, _, 6, 0, fun n H => (done_8 (n+64) H R F pc ld A B C hR hA2 hB2 hC2 hk).trans (by rw [if_pos hz]; rfl), fun n H => (rdone_8 (n+10) H R F pc A B C ld hA2 hB2 hC2 hR hF hk).trans (by rw [if_pos hz]; rfl), updR_in hR, hF, hpc⟩
  · exact ⟨_, _, _, 0, 0, fun n H => (done_8 (n+64) H R F pc ld A B C hR hA2 hB2 hC2 hk).trans (by rw [if_neg hz]; rfl), fun n H => (rdone_8 (n+10) H R F pc A B C ld hA2 hB2 hC2 hR hF hk).trans (by rw [if_neg hz]; rfl), updA_in hR _ _ (alu_u32 8 _ _ (by omega) (updR_range hR _ (by omega)) (updR_range hR _ (by omega)) (fun _ => hz)), hF, u32_wrap _⟩
theorem both_9 (R F : Nat → Int) (pc A B C I ld : Int) (hR : ∀ i, i < 16 → inK .u32 (R i)) (hF : ∀ i, i < 8 → inK .u64 (F i)) (hpc : U32 pc) (hld : U64 ld) (hk : chkV 9 A B C I = 0) : Both R F pc 9 A B C I ld := by
  obtain ⟨hA, hB, hC, hI⟩ := chk_rng (f := 2) (a := 15) (b := 15) (c := 15) rfl rfl rfl rfl hk
  have hA2 : 0 ≤ A ∧ A < 16 := by omega
  have hB2 : 0 ≤ B ∧ B < 16 := by omega
  have hC2 : 0 ≤ C ∧ C < 16 := by omega
  obtain rfl := hI rfl
  by_cases hz : upd R 0 0 C.toNat = 0
  · exact ⟨_, _, _, 6, 0, fun n H => (done_9 (n+64) H R F pc ld A B C hR hA2 hB2 hC2 hk).trans (by rw [if_pos hz]; rfl), fun n H => (rdone_9 (n+10) H R F pc A B C ld hA2 hB2 hC2 hR hF hk).trans (by rw [if_pos hz]; rfl), updR_in hR, hF, hpc⟩
  · exact ⟨_, _, _, 0, 0, fun n H => (done_9 (n+64) H R F pc ld A B C hR hA2 hB2 hC2 hk).trans (by rw [if_neg hz]; rfl), fun n H => (rdone_9 (n+10) H R F pc A B C ld hA2 hB2 hC2 hR hF hk).trans (by rw [if_neg hz]; rfl), updA_in hR _ _ (alu_u32 9 _ _ (by omega) (updR_range hR _ (by omega)) (updR_range hR _ (by omega)) (fun _ => hz)), hF, u32_wrap _⟩
theorem both_10 (R F : Nat → Int) (pc A B C I ld : Int) (hR : ∀ i, i < 16 → inK .u32 (R i)) (hF : ∀ i, i < 8 → inK .u64 (F i)) (hpc : U32 pc) (hld : U64 ld) (hk : chkV 10 A B C I = 0) : Both R F pc 10 A B C I ld := by
  obtain ⟨hA, hB, hC, hI⟩ := chk_rng (f := 2) (a := 15) (b := 15) (c := 15) rfl rfl rfl rfl hk
  have hA2 : 0 ≤ A ∧ A < 16 := by omega
  have hB2 : 0 ≤ B ∧ B < 16 := by omega
  have hC2 : 0 ≤ C ∧ C < 16 := by omega
  obtain rfl := hI rfl
  exact ⟨_, _, _, 0, 0, fun n H => done_10 (n+64) H R F pc ld A B C hR hA2 hB2 hC2 hk, fun n H => rdone_10 (n+10) H R F pc A B C ld hA2 hB2 hC2 hR hF hk, updA_in hR _ _ (alu_u32 10 _ _ (by omega) (updR_range hR _ (by omega)) (updR_range hR _ (by omega)) (by omega)), hF, u32_wrap _⟩
theorem both_11 (R F : Nat → Int) (pc A B C I ld : Int) (hR : ∀ i, i < 16 → inK .u32 (R i)) (hF : ∀ i, i < 8 → inK .u64 (F i)) (hpc : U32 pc) (hld : U64 ld) (hk : chkV 11 A B C I = 0) : Both R F pc 11 A B C I ld := by
  obtain ⟨hA, hB, hC, hI⟩ := chk_rng (f := 2) (a := 15) (b := 15) (c := 15) rfl rfl rfl rfl hk
  have hA2 : 0 ≤ A ∧ A < 16 := by omega
  have hB2 : 0 ≤ B ∧ B < 16 := by omega
  have hC2 : 0 ≤ C ∧ C < 16 := by omega
  obtain rfl := hI rfl
  exact ⟨_, _, _, 0, 0, fun n H => done_11 (n+64) H R F pc ld A B C hR hA2 hB2 hC2 hk, fun n H => rdone_11 (n+10) H R F pc A B C ld hA2 hB2 hC2 hR hF hk, updA_in hR _ _ (alu_u32 11 _ _ (by omega) (updR_range hR _ (by omega)) (updR_range hR _ (by omega)) (by omega)), hF, u32_wrap _⟩
theorem both_12 (R F : Nat → Int) (pc A B C I ld : Int) (hR : ∀ i, i < 16 → inK .u32 (R i)) (hF : ∀ i, i < 8 → inK .u64 (F i)) (hpc : U32 pc) (hld : U64 ld) (hk : chkV 12 A B C I = 0) : Both R F pc 12 A B C I ld := by
  obtain ⟨hA, hB, hC, hI⟩ := chk_rng (f := 2) (a := 15) (b := 15) (c := 15) rfl rfl rfl rfl hk
  have hA2 : 0 ≤ A ∧ A < 16 := by omega
  have hB2 : 0 ≤ B ∧ B < 16 := by omega
  have hC2 : 0 ≤ C ∧ C < 16 := by omega
  obtain rfl := hI rfl
  exact ⟨_, _, _, 0, 0, fun n H => done_12 (n+64) H R F pc ld A B C hR hA2 hB2 hC2 hk, fun n H => rdone_12 (n+10) H R F pc A B C ld hA2 hB2 hC2 hR hF hk, updA_in hR _ _ (alu_u32 12 _ _ (by omega) (updR_range hR _ (by omega)) (updR_range hR _ (by omega)) (by omega)), hF, u32_wrap _⟩
theorem both_13 (R F : Nat → Int) (pc A B C I ld : Int) (hR : ∀ i, i < 16 → inK .u32 (R i)) (hF : ∀ i, i < 8 → inK .u64 (F i)) (hpc : U32 pc) (hld : U64 ld) (hk : chkV 13 A B C I = 0) : Both R F pc 13 A B C I ld := by
  obtain ⟨hA, hB, hC, hI⟩ := chk_rng (f := 2) (a := 15) (b := 15) (c := 15) rfl rfl rfl rfl hk
  have hA2 : 0 ≤ A ∧ A < 16 := by omega
  have hB2 : 0 ≤ B ∧ B < 16 := by omega
  have hC2 : 0 ≤ C ∧ C < 16 := by omega
  obtain rfl := hI rfl
  exact ⟨_, _, _, 0, 0, fun n H => done_13 (n+64) H R F pc ld A B C hR hA2 hB2 hC2 hk, fun n H => rdone_13 (n+10) H R F pc A B C ld hA2 hB2 hC2 hR hF hk, updA_in hR _ _ (alu_u32 13 _ _ (by omega) (updR_range hR _ (by omega)) (updR_range hR _ (by omega)) (by omega)), hF, u32_wrap _⟩
theorem both_14 (R F : Nat → Int) (pc A B C I ld : Int) (hR : ∀ i, i < 16 → inK .u32 (R i)) (hF : ∀ i, i < 8 → inK .u64 (F i)) (hpc : U32 pc) (hld : U64 ld) (hk : chkV 14 A B C I = 0) : Both R F pc 14 A B C I ld := by
  obtain ⟨hA, hB, hC, hI⟩ := chk_rng (f := 2) (a := 15) (b := 15) (c := 15) rfl rfl rfl rfl hk
  have hA2 : 0 ≤ A ∧ A < 16 := by omega
  have hB2 : 0 ≤ B ∧ B < 16 := by omega
  have hC2 : 0 ≤ C ∧ C < 16 := by omega
  obtain rfl := hI rfl
  exact ⟨_, _, _, 0, 0, fun n H => done_14 (n+64) H R F pc ld A B C hR hA2 hB2 hC2 hk, fun n H => rdone_14 (n+10) H R F pc A B C ld hA2 hB2 hC2 hR hF hk, updA_in hR _ _ (alu_u32 14 _ _ (by omega) (updR_range hR _ (by omega)) (updR_range hR _ (by omega)) (by omega)), hF, u32_wrap _⟩
theorem both_15 (R F : Nat → Int) (pc A B C I ld : Int) (hR : ∀ i, i < 16 → inK .u32 (R i)) (hF : ∀ i, i < 8 → inK .u64 (F i)) (hpc : U32 pc) (hld : U64 ld) (hk : chkV 15 A B C I = 0) : Both R F pc 15 A B C I ld := by
  obtain ⟨hA, hB, hC, hI⟩ := chk_rng (f := 2) (a := 15) (b := 15) (c := 15) rfl rfl rfl rfl hk
  have hA2 : 0 ≤ A ∧ A < 16 := by omega
  have hB2 : 0 ≤ B ∧ B < 16 := by omega
  have hC2 : 0 ≤ C ∧ C < 16 := by omega
  obtain rfl := hI rfl
  exact ⟨_, _, _, 0, 0, fun n H => done_15 (n+64) H R F pc ld A B C hR hA2 hB2 hC2 hk, fun n H => rdone_15 (n+10) H R F pc A B C ld hA2 hB2 hC2 hR hF hk, updA_in hR _ _ (alu_u32 15 _ _ (by omega) (updR_range hR _ (by omega)) (updR_range hR _ (by omega)) (by omega)), hF, u32_wrap _⟩
theorem both_16 (R F : Nat → Int) (pc A B C I ld : Int) (hR : ∀ i, i < 16 → inK .u32 (R i)) (hF : ∀ i, i < 8 → inK .u64 (F i)) (hpc : U32 pc) (hld : U64 ld) (hk : chkV 16 A B C I = 0) : Both R F pc 16 A B C I ld := by
  obtain ⟨hA, hB, hC, hI⟩ := chk_rng (f := 2) (a := 15) (b := 15) (c := 15) rfl rfl rfl rfl hk
  have hA2 : 0 ≤ A ∧ A < 16 := by omega
  have hB2 : 0 ≤ B ∧ B < 16 := by omega
  have hC2 : 0 ≤ C ∧ C < 16 := by omega
  obtain rfl := hI rfl
  exact ⟨_, _, _, 0, 0, fun n H => done_16 (n+64) H R F pc ld A B C hR hA2 hB2 hC2 hk, fun n H => rdone_16 (n+10) H R F pc A B C ld hA2 hB2 hC2 hR hF hk, updA_in hR _ _ (alu_u32 16 _ _ (by omega) (updR_range hR _ (by omega)) (updR_range hR _ (by omega)) (by omega)), hF, u32_wrap _⟩
theorem both_17 (R F : Nat → Int) (pc A B C I ld : Int) (hR : ∀ i, i < 16 → inK .u32 (R i)) (hF : ∀ i, i < 8 → inK .u64 (F i)) (hpc : U32 pc) (hld : U64 ld) (hk : chkV 17 A B C I = 0) : Both R F pc 17 A B C I ld := by
  obtain ⟨hA, hB, hC, hI⟩ := chk_rng (f := 2) (a := 15) (b := 15) (c := 15) rfl rfl rfl rfl hk
  have hA2 : 0 ≤ A ∧ A < 16 := by omega
  have hB2 : 0 ≤ B ∧ B < 16 := by omega
  have hC2 : 0 ≤ C ∧ C < 16 := by omega
  obtain rfl := hI rfl
  exact ⟨_, _, _, 0, 0, fun n H => done_17 (n+64) H R F pc ld A B C hR hA2 hB2 hC2 hk, fun n H => rdone_17 (n+10) H R F pc A B C ld hA2 hB2 hC2 hR hF hk, updA_in hR _ _ (alu_u32 17 _ _ (by omega) (updR_range hR _ (by omega)) (updR_range hR _ (by omega)) (by omega)), hF, u32_wrap _⟩
theorem both_18 (R F : Nat → Int) (pc A B C I ld : Int) (hR : ∀ i, i < 16 → inK .u32 (R i)) (hF : ∀ i, i < 8 → inK .u64 (F i)) (hpc : U32 pc) (hld : U64 ld) (hk : chkV 18 A B C I = 0) : Both R F pc 18 A B C I ld := by
  obtain ⟨hA, hB, hC, hI⟩ := chk_rng (f := 3) (a := 15) (b := 15) (c := 0) rfl rfl rfl rfl hk
  have hA2 : 0 ≤ A ∧ A < 16 := by omega
  have hB2 : 0 ≤ B ∧ B < 16 := by omega
  obtain rfl : C = 0 := by omega
  exact ⟨_, _, _, 0, 0, fun n H => done_18 (n+64) H R F pc ld A B I hR hA2 hB2 hk, fun n H => rdone_18 (n+10) H R F pc A B I ld hA2 hB2 hR hF hk, updA_in hR _ _ (alu_u32 18 _ _ (by omega) (updR_range hR _ (by omega)) (u32_wrap _) (by omega)), hF, u32_wrap _⟩
theorem both_19 (R F : Nat → Int) (pc A B C I ld : Int) (hR : ∀ i, i < 16 → inK .u32 (R i)) (hF : ∀ i, i < 8 → inK .u64 (F i)) (hpc : U32 pc) (hld : U64 ld) (hk : chkV 19 A B C I = 0) : Both R F pc 19 A B C I ld := by
  obtain ⟨hA, hB, hC, hI⟩ := chk_rng (f := 3) (a := 15) (b := 15) (c := 0) rfl rfl rfl rfl hk
  have hA2 : 0 ≤ A ∧ A < 16 := by omega
  have hB2 : 0 ≤ B ∧ B < 16 := by omega
  obtain rfl : C = 0 := by omega
  exact ⟨_, _, _, 0, 0, fun n H => done_19 (n+64) H R F pc ld A B I hR hA2 hB2 hk, fun n H => rdone_19 (n+10) H R F pc A B I ld hA2 hB2 hR hF hk, updA_in hR _ _ (alu_u32 19 _ _ (by omega) (updR_range hR _ (by omega)) (u32_wrap _) (by omega)), hF, u32_wrap _⟩
theorem both_20 (R F : Nat → Int) (pc A B C I ld : Int) (hR : ∀ i, i < 16 → inK .u32 (R i)) (hF : ∀ i, i < 8 → inK .u64 (F i)) (hpc : U32 pc) (hld : U64 ld) (hk : chkV 20 A B C I = 0) : Both R F pc 20 A B C I ld := by
  obtain ⟨hA, hB, hC, hI⟩ := chk_rng (f := 3) (a := 15) (b := 15) (c := 0) rfl rfl rfl rfl hk
  have hA2 : 0 ≤ A ∧ A < 16 := by omega
  have hB2 : 0 ≤ B ∧ B < 16 := by omega
  obtain rfl : C = 0 := by omega
  exact ⟨_, _, _, 0, 0, fun n H => done_20 (n+64) H R F pc ld A B I hR hA2 hB2 hk, fun n H => rdone_20 (n+10) H R F pc A B I ld hA2 hB2 hR hF hk, updA_in hR _ _ (alu_u32 20 _ _ (by omega) (updR_range hR _ (by omega)) (u32_wrap _) (by omega)), hF, u32_wrap _⟩
theorem both_21 (R F : Nat → Int) (pc A B C I ld : Int) (hR : ∀ i, i < 16 → inK .u32 (R i)) (hF : ∀ i, i < 8 → inK .u64 (F i)) (hpc : U32 pc) (hld : U64 ld) (hk : chkV 21 A B C I = 0) : Both R F pc 21 A B C I ld := by
  obtain ⟨hA, hB, hC, hI⟩ := chk_rng (f := 3) (a := 15) (b := 15) (c := 0) rfl rfl rfl rfl hk
  have hA2 : 0 ≤ A ∧ A < 16 := by omega
  have hB2 : 0 ≤ B ∧ B < 16 := by omega
  obtain rfl : C = 0 := by omega
  exact ⟨_, _, _, 0, 0, fun n H => done_21 (n+64) H R F pc ld A B I hR hA2 hB2 hk, fun n H => rdone_21 (n+10) H R F pc A B I ld hA2 hB2 hR hF hk, updA_in hR _ _ (alu_u32 21 _ _ (by omega) (updR_range hR _ (by omega)) (u32_wrap _) (by omega)), hF, u32_wrap _⟩
theorem both_22 (R F : Nat → Int) (pc A B C I ld : Int) (hR : ∀ i, i < 16 → inK .u32 (R i)) (hF : ∀ i, i < 8 → inK .u64 (F i)) (hpc : U32 pc) (hld : U64 ld) (hk : chkV 22 A B C I = 0) : Both R F pc 22 A B C I ld := by
  obtain ⟨hA, hB, hC, hI⟩ := chk_rng (f := 3) (a := 15) (b := 15) (c := 0) rfl rfl rfl rfl hk
  have hA2 : 0 ≤ A ∧ A < 16 := by omega
  have hB2 : 0 ≤ B ∧ B < 16 := by omega
  obtain rfl : C = 0 := by omega
  exact ⟨_, _, _, 0, 0, fun n H => done_22 (n+64) H R F pc ld A B I hR hA2 hB2 hk, fun n H => rdone_22 (n+10) H R F pc A B I ld hA2 hB2 hR hF hk, updA_in hR _ _ (alu_u32 22 _ _ (by omega) (updR_range hR _ (by omega)) (u32_wrap _) (by omega)), hF, u32_wrap _⟩
theorem both_23 (R F : Nat → Int) (pc A B C I ld : Int) (hR : ∀ i, i < 16 → inK .u32 (R i)) (hF : ∀ i, i < 8 → inK .u64 (F i)) (hpc : U32 pc) (hld : U64 ld) (hk : chkV 23 A B C I = 0) : Both R F pc 23 A B C I ld := by
  obtain ⟨hA, hB, hC, hI⟩ := chk_rng (f := 3) (a := 15) (b := 15) (c := 0) rfl rfl rfl rfl hk
  have hA2 : 0 ≤ A ∧ A < 16 := by omega
  have hB2 : 0 ≤ B ∧ B < 16 := by omega
  obtain rfl : C = 0 := by omega
  exact ⟨_, _, _, 0, 0, fun n H => done_23 (n+64) H R F pc ld A B I hR hA2 hB2 hk, fun n H => rdone_23 (n+10) H R F pc A B I ld hA2 hB2 hR hF hk, updA_in hR _ _ (alu_u32 23 _ _ (by omega) (updR_range hR _ (by omega)) (u32_wrap _) (by omega)), hF, u32_wrap _⟩
theorem both_24 (R F : Nat → Int) (pc A B C I ld : Int) (hR : ∀ i, i < 16 → inK .u32 (R i)) (hF : ∀ i, i < 8 → inK .u64 (F i)) (hpc : U32 pc) (hld : U64 ld) (hk : chkV 24 A B C I = 0) : Both R F pc 24 A B C I ld := by
  obtain ⟨hA, hB, hC, hI⟩ := chk_rng (f := 3) (a := 15) (b := 15) (c := 0) rfl rfl rfl rfl hk
  have hA2 : 0 ≤ A ∧ A < 16 := by omega
  have hB2 : 0 ≤ B ∧ B < 16 := by omega
  obtain rfl : C = 0 := by omega
  exact ⟨_, _, _, 0, 0, fun n H => done_24 (n+64) H R F pc ld A B I hR hA2 hB2 hk, fun n H => rdone_24 (n+10) H R F pc A B I ld hA2 hB2 hR hF hk, updA_in hR _ _ (alu_u32 24 _ _ (by omega) (updR_range hR _ (by omega)) (u32_wrap _) (by omega)), hF, u32_wrap _⟩
theorem both_25 (R F : Nat → Int) (pc A B C I ld : Int) (hR : ∀ i, i < 16 → inK .u32 (R i)) (hF : ∀ i, i < 8 → inK .u64 (F i)) (hpc : U32 pc) (hld : U64 ld) (hk : chkV 25 A B C I = 0) : Both R F pc 25 A B C I ld := by
  obtain ⟨hA, hB, hC, hI⟩ := chk_rng (f := 3) (a := 15) (b := 15) (c := 0) rfl rfl rfl rfl hk
  have hA2 : 0 ≤ A ∧ A < 16 := by omega
  have hB2 : 0 ≤ B ∧ B < 16 := by omega
  obtain rfl : C = 0 := by omega
  exact ⟨_, _, _, 0, 0, fun n H => done_25 (n+64) H R F pc ld A B I hR hA2 hB2 hk, fun n H => rdone_25 (n+10) H R F pc A B I ld hA2 hB2 hR hF hk, updA_in hR _ _ (alu_u32 25 _ _ (by omega) (updR_range hR _ (by omega)) (u32_wrap _) (by omega)), hF, u32_wrap _⟩
theorem both_26 (R F : Nat → Int) (pc A B C I ld : Int) (hR : ∀ i, i < 16 → inK .u32 (R i)) (hF : ∀ i, i < 8 → inK .u64 (F i)) (hpc : U32 pc) (hld : U64 ld) (hk : chkV 26 A B C I = 0) : Both R F pc 26 A B C I ld := by
  obtain ⟨hA, hB, hC, hI⟩ := chk_rng (f := 3) (a := 15) (b := 15) (c := 0) rfl rfl rfl rfl hk
  have hA2 : 0 ≤ A ∧ A < 16 := by omega
  have hB2 : 0 ≤ B ∧ B < 16 := by omega
  obtain rfl : C = 0 := by omega
  exact ⟨_, _, _, 0, 0, fun n H => done_26 (n+64) H R F pc ld A B I hR hA2 hB2 hk, fun n H => rdone_26 (n+10) H R F pc A B I ld hA2 hB2 hR hF hk, updA_in hR _ _ (alu_u32 26 _ _ (by omega) (updR_range hR _ (by omega)) (u32_wrap _) (by omega)), hF, u32_wrap _⟩
theorem both_27 (R F : Nat → Int) (pc A B C I ld : Int) (hR : ∀ i, i < 16 → inK .u32 (R i)) (hF : ∀ i, i < 8 → inK .u64 (F i)) (hpc : U32 pc) (hld : U64 ld) (hk : chkV 27 A B C I = 0) : Both R F pc 27 A B C I ld := by
  obtain ⟨hA, hB, hC, hI⟩ := chk_rng (f := 4) (a := 15) (b := 0) (c := 0) rfl rfl rfl rfl hk
  have hA2 : 0 ≤ A ∧ A < 16 := by omega
  obtain rfl : B = 0 := by omega
  obtain rfl : C = 0 := by omega
  exact ⟨_, _, _, 0, 0, fun n H => done_27 (n+64) H R F pc ld A I hR hA2 hk, fun n H => rdone_27 (n+10) H R F pc A I ld hA2 hR hF hk, updA_in hR _ _ (alu_u32 27 _ _ (by omega) (show U32 0 by unfold U32; omega) (u32_wrap _) (by omega)), hF, u32_wrap _⟩
theorem both_28 (R F : Nat → Int) (pc A B C I ld : Int) (hR : ∀ i, i < 16 → inK .u32 (R i)) (hF : ∀ i, i < 8 → inK .u64 (F i)) (hpc : U32 pc) (hld : U64 ld) (hk : chkV 28 A B C I = 0) : Both R F pc 28 A B C I ld := by
  obtain ⟨hA, hB, hC, hI⟩ := chk_rng (f := 5) (a := 15) (b := 15) (c := 0) rfl rfl rfl rfl hk
  have hA2 : 0 ≤ A ∧ A < 16 := by omega
  have hB2 : 0 ≤ B ∧ B < 16 := by omega
  obtain rfl : C = 0 := by omega
  by_cases hz : (adV R B I).tmod 4 = 0
  · exact ⟨_, _, _, 0, 0, fun n H => (done_28 (n+66) H R F pc A B I ld hA2 hB2 hk).trans (by rw [if_pos hz]; rfl), fun n H => (rdone_28 (n+10) H R F pc A B I ld hA2 hB2 hR hF hk).trans (by rw [if_pos hz]; rfl), updA_in hR _ _ (u32_wrap _), hF, u32_wrap _⟩
  · exact ⟨_, _, _, 5, (adV R B I), fun n H => (done_28 (n+66) H R F pc A B I ld hA2 hB2 hk).trans (by rw [if_neg hz]; rfl), fun n H => (rdone_28 (n+10) H R F pc A B I ld hA2 hB2 hR hF hk).trans (by rw [if_neg hz]; rfl), updR_in hR, hF, hpc⟩
theorem both_29 (R F : Nat → Int) (pc A B C I ld : Int) (hR : ∀ i, i < 16 → inK .u32 (R i)) (hF : ∀ i, i < 8 → inK .u64 (F i)) (hpc : U32 pc) (hld : U64 ld) (hk : chkV 29 A B C I = 0) : Both R F pc 29 A B C I ld := by
  obtain ⟨hA, hB, hC, hI⟩ := chk_rng (f := 5) (a := 15) (b := 15) (c := 0) rfl rfl rfl rfl hk
  have hA2 : 0 ≤ A ∧ A < 16 := by omega
  have hB2 : 0 ≤ B ∧ B < 16 := by omega
  obtain rfl : C = 0 := by omega
  by_cases hz : (adV R B I).tmod 2 = 0
  · exact ⟨_, _, _, 0, 0, fun n H => (done_29 (n+66) H R F pc A B I ld hA2 hB2 hk).trans (by rw [if_pos hz]; rfl), fun n H => (rdone_29 (n+10) H R F pc A B I ld hA2 hB2 hR hF hk).trans (by rw [if_pos hz]; rfl), updA_in hR _ _ (u32_wrap _), hF, u32_wrap _⟩
  · exact ⟨_, _, _, 5, (adV R B I), fun n H => (done_29 (n+66) H R F pc A B I ld hA2 hB2 hk).trans (by rw [if_neg hz]; rfl), fun n H => (rdone_29 (n+10) H R F pc A B I ld hA2 hB2 hR hF hk).trans (by rw [if_neg hz]; rfl), updR_in hR, hF, hpc⟩
theorem both_30 (R F : Nat → Int) (pc A B C I ld : Int) (hR : ∀ i, i < 16 → inK .u32 (R i)) (hF : ∀ i, i < 8 → inK .u64 (F i)) (hpc : U32 pc) (hld : U64 ld) (hk : chkV 30 A B C I = 0) : Both R F pc 30 A B C I ld := by
  obtain ⟨hA, hB, hC, hI⟩ := chk_rng (f := 5) (a := 15) (b := 15) (c := 0) rfl rfl rfl rfl hk
  have hA2 : 0 ≤ A ∧ A < 16 := by omega
  have hB2 : 0 ≤ B ∧ B < 16 := by omega
  obtain rfl : C = 0 := by omega
  by_cases hz : (adV R B I).tmod 2 = 0
  · exact ⟨_, _, _, 0, 0, fun n H => (done_30 (n+66) H R F pc A B I ld hA2 hB2 hk).trans (by rw [if_pos hz]; rfl), fun n H => (rdone_30 (n+10) H R F pc A B I ld hA2 hB2 hR hF hk).trans (by rw [if_pos hz]; rfl), updA_in hR _ _ (u32_shr _ _ (u32_wrap _)), hF, u32_wrap _⟩
  · exact ⟨_, _, _, 5, (adV R B I), fun n H => (done_30 (n+66) H R F pc A B I ld hA2 hB2 hk).trans (by rw [if_neg hz]; rfl), fun n H => (rdone_30 (n+10) H R F pc A B I ld hA2 hB2 hR hF hk).trans (by rw [if_neg hz]; rfl), updR_in hR, hF, hpc⟩
theorem both_31 (R F : Nat → Int) (pc A B C I ld : Int) (hR : ∀ i, i < 16 → inK .u32 (R i)) (hF : ∀ i, i < 8 → inK .u64 (F i)) (hpc : U32 pc) (hld : U64 ld) (hk : chkV 31 A B C I = 0) : Both R F pc 31 A B C I ld := by
  obtain ⟨hA, hB, hC, hI⟩ := chk_rng (f := 5) (a := 15) (b := 15) (c := 0) rfl rfl rfl rfl hk
  have hA2 : 0 ≤ A ∧ A < 16 := by omega
  have hB2 : 0 ≤ B ∧ B < 16 := by omega
  obtain rfl : C = 0 := by omega
  by_cases hz : (adV R B I).tmod 1 = 0
  · exact ⟨_, _, _, 0, 0, fun n H => (done_31 (n+66) H R F pc A B I ld hA2 hB2 hk).trans (by rw [if_pos hz]; rfl), fun n H => (rdone_31 (n+10) H R F pc A B I ld hA2 hB2 hR hF hk).trans (by rw [if_pos hz]; rfl), updA_in hR _ _ (u32_wrap _), hF, u32_wrap _⟩
  · exact ⟨_, _, _, 5, (adV R B I), fun n H => (done_31 (n+66) H R F pc A B I ld hA2 hB2 hk).trans (by rw [if_neg hz]; rfl), fun n H => (rdone_31 (n+10) H R F pc A B I ld hA2 hB2 hR hF hk).trans (by rw [if_neg hz]; rfl), updR_in hR, hF, hpc⟩
theorem both_32 (R F : Nat → Int) (pc A B C I ld : Int) (hR : ∀ i, i < 16 → inK .u32 (R i)) (hF : ∀ i, i < 8 → inK .u64 (F i)) (hpc : U32 pc) (hld : U64 ld) (hk : chkV 32 A B C I = 0) : Both R F pc 32 A B C I ld := by
  obtain ⟨hA, hB, hC, hI⟩ := chk_rng (f := 5) (a := 15) (b := 15) (c := 0) rfl rfl rfl rfl hk
  have hA2 : 0 ≤ A ∧ A < 16 := by omega
  have hB2 : 0 ≤ B ∧ B < 16 := by omega
  obtain rfl : C = 0 := by omega
  by_cases hz : (adV R B I).tmod 1 = 0
  · exact ⟨_, _, _, 0, 0, fun n H => (done_32 (n+66) H R F pc A B I ld hA2 hB2 hk).trans (by rw [if_pos hz]; rfl), fun n H => (rdone_32 (n+10) H R F pc A B I ld hA2 hB2 hR hF hk).trans (by rw [if_pos hz]; rfl), updA_in hR _ _ (u32_shr _ _ (u32_wrap _)), hF, u32_wrap _⟩
  · exact ⟨_, _, _, 5, (adV R B I), fun n H => (done_32 (n+66) H R F pc A B I ld hA2 hB2 hk).trans (by rw [if_neg hz]; rfl), fun n H => (rdone_32 (n+10) H R F pc A B I ld hA2 hB2 hR hF hk).trans (by rw [if_neg hz]; rfl), updR_in hR, hF, hpc⟩
theorem both_33 (R F : Nat → Int) (pc A B C I ld : Int) (hR : ∀ i, i < 16 → inK .u32 (R i)) (hF : ∀ i, i < 8 → inK .u64 (F i)) (hpc : U32 pc) (hld : U64 ld) (hk : chkV 33 A B C I = 0) : Both R F pc 33 A B C I ld := by
  obtain ⟨hA, hB, hC, hI⟩ := chk_rng (f := 5) (a := 15) (b := 15) (c := 0) rfl rfl rfl rfl hk
  have hA2 : 0 ≤ A ∧ A < 16 := by omega
  have hB2 : 0 ≤ B ∧ B < 16 := by omega
  obtain rfl : C = 0 := by omega
  by_cases hz : (adV R B I).tmod 4 = 0
  · exact ⟨_, _, _, 0, 0, fun n H => (done_33 (n+66) H R F pc A B I ld hA2 hB2 hk).trans (by rw [if_pos hz]; rfl), fun n H => (rdone_33 (n+10) H R F pc A B I ld hA2 hB2 hR hF hk).trans (by rw [if_pos hz]; rfl), updR_in hR, hF, u32_wrap _⟩
  · exact ⟨_, _, _, 5, (adV R B I), fun n H => (done_33 (n+66) H R F pc A B I ld hA2 hB2 hk).trans (by rw [if_neg hz]; rfl), fun n H => (rdone_33 (n+10) H R F pc A B I ld hA2 hB2 hR hF hk).trans (by rw [if_neg hz]; rfl), updR_in hR, hF, hpc⟩
theorem both_34 (R F : Nat → Int) (pc A B C I ld : Int) (hR : ∀ i, i < 16 → inK .u32 (R i)) (hF : ∀ i, i < 8 → inK .u64 (F i)) (hpc : U32 pc) (hld : U64 ld) (hk : chkV 34 A B C I = 0) : Both R F pc 34 A B C I ld := by
  obtain ⟨hA, hB, hC, hI⟩ := chk_rng (f := 5) (a := 15) (b := 15) (c := 0) rfl rfl rfl rfl hk
  have hA2 : 0 ≤ A ∧ A < 16 := by omega
  have hB2 : 0 ≤ B ∧ B < 16 := by omega
  obtain rfl : C = 0 := by omega
  by_cases hz : (adV R B I).tmod 2 = 0
  · exact ⟨_, _, _, 0, 0, fun n H => (done_34 (n+66) H R F pc A B I ld hA2 hB2 hk).trans (by rw [if_pos hz]; rfl), fun n H => (rdone_34 (n+10) H R F pc A B I ld hA2 hB2 hR hF hk).trans (by rw [if_pos hz]; rfl), updR_in hR, hF, u32_wrap _⟩
  · exact ⟨_, _, _, 5, (adV R B I), fun n H => (done_34 (n+66) H R F pc A B I ld hA2 hB2 hk).trans (by rw [if_neg hz]; rfl), fun n H => (rdone_34 (n+10) H R F pc A B I ld hA2 hB2 hR hF hk).trans (by rw [if_neg hz]; rfl), updR_in hR, hF, hpc⟩
theorem both_35 (R F : Nat → Int) (pc A B C I ld : Int) (hR : ∀ i, i < 16 → inK .u32 (R i)) (hF : ∀ i, i < 8 → inK .u64 (F i)) (hpc : U32 pc) (hld : U64 ld) (hk : chkV 35 A B C I = 0) : Both R F pc 35 A B C I ld := by
  obtain ⟨hA, hB, hC, hI⟩ := chk_rng (f := 5) (a := 15) (b := 15) (c := 0) rfl rfl rfl rfl hk
  have hA2 : 0 ≤ A ∧ A < 16 := by omega
  have hB2 : 0 ≤ B ∧ B < 16 := by omega
  obtain rfl : C = 0 := by omega
  by_cases hz : (adV R B I).tmod 1 = 0
  · exact ⟨_, _, _, 0, 0, fun n H => (done_35 (n+66) H R F pc A B I ld hA2 hB2 hk).trans (by rw [if_pos hz]; rfl), fun n H => (rdone_35 (n+10) H R F pc A B I ld hA2 hB2 hR hF hk).trans (by rw [if_pos hz]; rfl), updR_in hR, hF, u32_wrap _⟩
  · exact ⟨_, _, _, 5, (adV R B I), fun n H => (done_35 (n+66) H R F pc A B I ld hA2 hB2 hk).trans (by rw [if_neg hz]; rfl), fun n H => (rdone_35 (n+10) H R F pc A B I ld hA2 hB2 hR hF hk).trans (by rw [if_neg hz]; rfl), updR_in hR, hF, hpc⟩
theorem both_36 (R F : Nat → Int) (pc A B C I ld : Int) (hR : ∀ i, i < 16 → inK .u32 (R i)) (hF : ∀ i, i < 8 → inK .u64 (F i)) (hpc : U32 pc) (hld : U64 ld) (hk : chkV 36 A B C I = 0) : Both R F pc 36 A B C I ld := by
  obtain ⟨hA, hB, hC, hI⟩ := chk_rng (f := 6) (a := 7) (b := 15) (c := 0) rfl rfl rfl rfl hk
  have hA2 : 0 ≤ A ∧ A < 8 := by omega
  have hB2 : 0 ≤ B ∧ B < 16 := by omega
  obtain rfl : C = 0 := by omega
  by_cases hz : (adV R B I).tmod 8 = 0
  · exact ⟨_, _, _, 0, 0, fun n H => (done_36 (n+66) H R F pc A B I ld hA2 hB2 hk).trans (by rw [if_pos hz]; rfl), fun n H => (rdone_36 (n+10) H R F pc A B I ld hA2 hB2 hR hF hk).trans (by rw [if_pos hz]; rfl), updR_in hR, updF_in hF _ _ hld, u32_wrap _⟩
  · exact ⟨_, _, _, 5, (adV R B I), fun n H => (done_36 (n+66) H R F pc A B I ld hA2 hB2 hk).trans (by rw [if_neg hz]; rfl), fun n H => (rdone_36 (n+10) H R F pc A B I ld hA2 hB2 hR hF hk).trans (by rw [if_neg hz]; rfl), updR_in hR, hF, hpc⟩
theorem both_37 (R F : Nat → Int) (pc A B C I ld : Int) (hR : ∀ i, i < 16 → inK .u32 (R i)) (hF : ∀ i, i < 8 → inK .u64 (F i)) (hpc : U32 pc) (hld : U64 ld) (hk : chkV 37 A B C I = 0) : Both R F pc 37 A B C I ld := by
  obtain ⟨hA, hB, hC, hI⟩ := chk_rng (f := 6) (a := 7) (b := 15) (c := 0) rfl rfl rfl rfl hk
  have hA2 : 0 ≤ A ∧ A < 8 := by omega
  have hB2 : 0 ≤ B ∧ B < 16 := by omega
  obtain rfl : C = 0 := by omega
  by_cases hz : (adV R B I).tmod 8 = 0
  · exact ⟨_, _, _, 0, 0, fun n H => (done_37 (n+66) H R F pc A B I ld hA2 hB2 hk).trans (by rw [if_pos hz]; rfl), fun n H => (rdone_37 (n+10) H R F pc A B I ld hA2 hB2 hR hF hk).trans (by rw [if_pos hz]; rfl), updR_in hR, hF, u32_wrap _⟩
  · exact ⟨_, _, _, 5, (adV R B I), fun n H => (done_37 (n+66) H R F pc A B I ld hA2 hB2 hk).trans (by rw [if_neg hz]; rfl), fun n H => (rdone_37 (n+10) H R F pc A B I ld hA2 hB2 hR hF hk).trans (by rw [if_neg hz]; rfl), updR_in hR, hF, hpc⟩
theorem both_38 (R F : Nat → Int) (pc A B C I ld : Int) (hR : ∀ i, i < 16 → inK .u32 (R i)) (hF : ∀ i, i < 8 → inK .u64 (F i)) (hpc : U32 pc) (hld : U64 ld) (hk : chkV 38 A B C I = 0) : Both R F pc 38 A B C I ld := by
  obtain ⟨hA, hB, hC, hI⟩ := chk_rng (f := 7) (a := 15) (b := 15) (c := 0) rfl rfl rfl rfl hk
  have hA2 : 0 ≤ A ∧ A < 16 := by omega
  have hB2 : 0 ≤ B ∧ B < 16 := by omega
  obtain rfl : C = 0 := by omega
  by_cases hc : upd R 0 0 A.toNat = upd R 0 0 B.toNat
  · by_cases hz : (toV pc I).tmod 4 = 0
    · exact ⟨_, _, _, 0, 0, fun n H => (done_38 (n+66) H R F pc A B I ld hA2 hB2 hk).trans (by rw [if_pos hc, if_pos hz]; rfl), fun n H => (rdone_38 (n+10) H R F pc A B I ld hA2 hB2 hR hF hk).trans (by rw [if_pos hc, if_pos hz]; rfl), updR_in hR, hF, u32_wrap _⟩
    · exact ⟨_, _, _, 5, (toV pc I), fun n H => (done_38 (n+66) H R F pc A B I ld hA2 hB2 hk).trans (by rw [if_pos hc, if_neg hz]; rfl), fun n H => (rdone_38 (n+10) H R F pc A B I ld hA2 hB2 hR hF hk).trans (by rw [if_pos hc, if_neg hz]; rfl), updR_in hR, hF, hpc⟩
  · exact ⟨_, _, _, 0, 0, fun n H => (done_38 (n+66) H R F pc A B I ld hA2 hB2 hk).trans (by rw [if_neg hc]; rfl), fun n H => (rdone_38 (n+10) H R F pc A B I ld hA2 hB2 hR hF hk).trans (by rw [if_neg hc]; rfl), updR_in hR, hF, u32_wrap _⟩
theorem both_39 (R F : Nat → Int) (pc A B C I ld : Int) (hR : ∀ i, i < 16 → inK .u32 (R i)) (hF : ∀ i, i < 8 → inK .u64 (F i)) (hpc : U32 pc) (hld : U64 ld) (hk : chkV 39 A B C I = 0) : Both R F pc 39 A B C I ld := by
  obtain ⟨hA, hB, hC, hI⟩ := chk_rng (f := 7) (a := 15) (b := 15) (c := 0) rfl rfl rfl rfl hk
  have hA2 : 0 ≤ A ∧ A < 16 := by omega
  have hB2 : 0 ≤ B ∧ B < 16 := by omega
  obtain rfl : C = 0 := by omega
  by_cases hc : ¬ upd R 0 0 A.toNat = upd R 0 0 B.toNat
  · by_cases hz : (toV pc I).tmod 4 = 0
    · exact ⟨_, _, _, 0, 0, fun n H => (done_39 (n+66) H R F pc A B I ld hA2 hB2 hk).trans (by rw [if_pos hc, if_pos hz]; rfl), fun n H => (rdone_39 (n+10) H R F pc A B I ld hA2 hB2 hR hF hk).trans (by rw [if_pos hc, if_pos hz]; rfl), updR_in hR, hF, u32_wrap _⟩
    · exact ⟨_, _, _, 5, (toV pc I), fun n H => (done_39 (n+66) H R F pc A B I ld hA2 hB2 hk).trans (by rw [if_pos hc, if_neg hz]; rfl), fun n H => (rdone_39 (n+10) H R F pc A B I ld hA2 hB2 hR hF hk).trans (by rw [if_pos hc, if_neg hz]; rfl), updR_in hR, hF, hpc⟩
  · exact ⟨_, _, _, 0, 0, fun n H => (done_39 (n+66) H R F pc A B I ld hA2 hB2 hk).trans (by rw [if_neg hc]; rfl), fun n H => (rdone_39 (n+10) H R F pc A B I ld hA2 hB2 hR hF hk).trans (by rw [if_neg hc]; rfl), updR_in hR, hF, u32_wrap _⟩
theorem both_40 (R F : Nat → Int) (pc A B C I ld : Int) (hR : ∀ i, i < 16 → inK .u32 (R i)) (hF : ∀ i, i < 8 → inK .u64 (F i)) (hpc : U32 pc) (hld : U64 ld) (hk : chkV 40 A B C I = 0) : Both R F pc 40 A B C I ld := by
  obtain ⟨hA, hB, hC, hI⟩ := chk_rng (f := 7) (a := 15) (b := 15) (c := 0) rfl rfl rfl rfl hk
  have hA2 : 0 ≤ A ∧ A < 16 := by omega
  have hB2 : 0 ≤ B ∧ B < 16 := by omega
  obtain rfl : C = 0 := by omega
  by_cases hc : IntKind.wrap .i32 (upd R 0 0 A.toNat) < IntKind.wrap .i32 (upd R 0 0 B.toNat)
  · by_cases hz : (toV pc I).tmod 4 = 0
    · exact ⟨_, _, _, 0, 0, fun n H => (done_40 (n+66) H R F pc A B I ld hA2 hB2 hk).trans (by rw [if_pos hc, if_pos hz]; rfl), fun n H => (rdone_40 (n+10) H R F pc A B I ld hA2 hB2 hR hF hk).trans (by rw [if_pos hc, if_pos hz]; rfl), updR_in hR, hF, u32_wrap _⟩
    · exact ⟨_, _, _, 5, (toV pc I), fun n H => (done_40 (n+66) H R F pc A B I ld hA2 hB2 hk).trans (by rw [if_pos hc, if_neg hz]; rfl), fun n H => (rdone_40 (n+10) H R F pc A B I ld hA2 hB2 hR hF hk).trans (by rw [if_pos hc, if_neg hz]; rfl), updR_in hR, hF, hpc⟩
  · exact ⟨_, _, _, 0, 0, fun n H => (done_40 (n+66) H R F pc A B I ld hA2 hB2 hk).trans (by rw [if_neg hc]; rfl), fun n H => (rdone_40 (n+10) H R F pc A B I ld hA2 hB2 hR hF hk).trans (by rw [if_neg hc]; rfl), updR_in hR, hF, u32_wrap _⟩
theorem both_41 (R F : Nat → Int) (pc A B C I ld : Int) (hR : ∀ i, i < 16 → inK .u32 (R i)) (hF : ∀ i, i < 8 → inK .u64 (F i)) (hpc : U32 pc) (hld : U64 ld) (hk : chkV 41 A B C I = 0) : Both R F pc 41 A B C I ld := by
  obtain ⟨hA, hB, hC, hI⟩ := chk_rng (f := 7) (a := 15) (b := 15) (c := 0) rfl rfl rfl rfl hk
  have hA2 : 0 ≤ A ∧ A < 16 := by omega
  have hB2 : 0 ≤ B ∧ B < 16 := by omega
  obtain rfl : C = 0 := by omega
  by_cases hc : IntKind.wrap .i32 (upd R 0 0 B.toNat) ≤ IntKind.wrap .i32 (upd R 0 0 A.toNat)
  · by_cases hz : (toV pc I).tmod 4 = 0
    · exact ⟨_, _, _, 0, 0, fun n H => (done_41 (n+66) H R F pc A B I ld hA2 hB2 hk).trans (by rw [if_pos hc, if_pos hz]; rfl), fun n H => (rdone_41 (n+10) H R F pc A B I ld hA2 hB2 hR hF hk).trans (by rw [if_pos hc, if_pos hz]; rfl), updR_in hR, hF, u32_wrap _⟩
    · exact ⟨_, _, _, 5, (toV pc I), fun n H => (done_41 (n+66) H R F pc A B I ld hA2 hB2 hk).trans (by rw [if_pos hc, if_neg hz]; rfl), fun n H => (rdone_41 (n+10) H R F pc A B I ld hA2 hB2 hR hF hk).trans (by rw [if_pos hc, if_neg hz]; rfl), updR_in hR, hF, hpc⟩
  · exact ⟨_, _, _, 0, 0, fun n H => (done_41 (n+66) H R F pc A B I ld hA2 hB2 hk).trans (by rw [if_neg hc]; rfl), fun n H => (rdone_41 (n+10) H R F pc A B I ld hA2 hB2 hR hF hk).trans (by rw [if_neg hc]; rfl), updR_in hR, hF, u32_wrap _⟩
theorem both_42 (R F : Nat → Int) (pc A B C I ld : Int) (hR : ∀ i, i < 16 → inK .u32 (R i)) (hF : ∀ i, i < 8 → inK .u64 (F i)) (hpc : U32 pc) (hld : U64 ld) (hk : chkV 42 A B C I = 0) : Both R F pc 42 A B C I ld := by
  obtain ⟨hA, hB, hC, hI⟩ := chk_rng (f := 7) (a := 15) (b := 15) (c := 0) rfl rfl rfl rfl hk
  have hA2 : 0 ≤ A ∧ A < 16 := by omega
  have hB2 : 0 ≤ B ∧ B < 16 := by omega
  obtain rfl : C = 0 := by omega
  by_cases hc : upd R 0 0 A.toNat < upd R 0 0 B.toNat
  · by_cases hz : (toV pc I).tmod 4 = 0
    · exact ⟨_, _, _, 0, 0, fun n H => (done_42 (n+66) H R F pc A B I ld hA2 hB2 hk).trans (by rw [if_pos hc, if_pos hz]; rfl), fun n H => (rdone_42 (n+10) H R F pc A B I ld hA2 hB2 hR hF hk).trans (by rw [if_pos hc, if_pos hz]; rfl), updR_in hR, hF, u32_wrap _⟩
    · exact ⟨_, _, _, 5, (toV pc I), fun n H => (done_42 (n+66) H R F pc A B I ld hA2 hB2 hk).trans (by rw [if_pos hc, if_neg hz]; rfl), fun n H => (rdone_42 (n+10) H R F pc A B I ld hA2 hB2 hR hF hk).trans (by rw [if_pos hc, if_neg hz]; rfl), updR_in hR, hF, hpc⟩
  · exact ⟨_, _, _, 0, 0, fun n H => (done_42 (n+66) H R F pc A B I ld hA2 hB2 hk).trans (by rw [if_neg hc]; rfl), fun n H => (rdone_42 (n+10) H R F pc A B I ld hA2 hB2 hR hF hk).trans (by rw [if_neg hc]; rfl), updR_in hR, hF, u32_wrap _⟩
theorem both_43 (R F : Nat → Int) (pc A B C I ld : Int) (hR : ∀ i, i < 16 → inK .u32 (R i)) (hF : ∀ i, i < 8 → inK .u64 (F i)) (hpc : U32 pc) (hld : U64 ld) (hk : chkV 43 A B C I = 0) : Both R F pc 43 A B C I ld := by
  obtain ⟨hA, hB, hC, hI⟩ := chk_rng (f := 7) (a := 15) (b := 15) (c := 0) rfl rfl rfl rfl hk
  have hA2 : 0 ≤ A ∧ A < 16 := by omega
  have hB2 : 0 ≤ B ∧ B < 16 := by omega
  obtain rfl : C = 0 := by omega
  by_cases hc : upd R 0 0 B.toNat ≤ upd R 0 0 A.toNat
  · by_cases hz : (toV pc I).tmod 4 = 0
    · exact ⟨_, _, _, 0, 0, fun n H => (done_43 (n+66) H R F pc A B I ld hA2 hB2 hk).trans (by rw [if_pos hc, if_pos hz]; rfl), fun n H => (rdone_43 (n+10) H R F pc A B I ld hA2 hB2 hR hF hk).trans (by rw [if_pos hc, if_pos hz]; rfl), updR_in hR, hF, u32_wrap _⟩
    · exact ⟨_, _, _, 5, (toV pc I), fun n H => (done_43 (n+66) H R F pc A B I ld hA2 hB2 hk).trans (by rw [if_pos hc, if_neg hz]; rfl), fun n H => (rdone_43 (n+10) H R F pc A B I ld hA2 hB2 hR hF hk).trans (by rw [if_pos hc, if_neg hz]; rfl), updR_in hR, hF, hpc⟩
  · exact ⟨_, _, _, 0, 0, fun n H => (done_43 (n+66) H R F pc A B I ld hA2 hB2 hk).trans (by rw [if_neg hc]; rfl), fun n H => (rdone_43 (n+10) H R F pc A B I ld hA2 hB2 hR hF hk).trans (by rw [if_neg hc]; rfl), updR_in hR, hF, u32_wrap _⟩
theorem both_44 (R F : Nat → Int) (pc A B C I ld : Int) (hR : ∀ i, i < 16 → inK .u32 (R i)) (hF : ∀ i, i < 8 → inK .u64 (F i)) (hpc : U32 pc) (hld : U64 ld) (hk : chkV 44 A B C I = 0) : Both R F pc 44 A B C I ld := by
  obtain ⟨hA, hB, hC, hI⟩ := chk_rng (f := 8) (a := 15) (b := 0) (c := 0) rfl rfl rfl rfl hk
  have hA2 : 0 ≤ A ∧ A < 16 := by omega
  obtain rfl : B = 0 := by omega
  obtain rfl : C = 0 := by omega
  by_cases hz : (toV pc I).tmod 4 = 0
  · exact ⟨_, _, _, 0, 0, fun n H => (done_44 (n+66) H R F pc A I ld hA2 hk).trans (by rw [if_pos hz]; rfl), fun n H => (rdone_44 (n+10) H R F pc A I ld hA2 hR hF hk).trans (by rw [if_pos hz]; rfl), updA_in hR _ _ (u32_wrap _), hF, u32_wrap _⟩
  · exact ⟨_, _, _, 5, (toV pc I), fun n H => (done_44 (n+66) H R F pc A I ld hA2 hk).trans (by rw [if_neg hz]; rfl), fun n H => (rdone_44 (n+10) H R F pc A I ld hA2 hR hF hk).trans (by rw [if_neg hz]; rfl), updR_in hR, hF, hpc⟩
theorem both_45 (R F : Nat → Int) (pc A B C I ld : Int) (hR : ∀ i, i < 16 → inK .u32 (R i)) (hF : ∀ i, i < 8 → inK .u64 (F i)) (hpc : U32 pc) (hld : U64 ld) (hk : chkV 45 A B C I = 0) : Both R F pc 45 A B C I ld := by
  obtain ⟨hA, hB, hC, hI⟩ := chk_rng (f := 5) (a := 15) (b := 15) (c := 0) rfl rfl rfl rfl hk
  have hA2 : 0 ≤ A ∧ A < 16 := by omega
  have hB2 : 0 ≤ B ∧ B < 16 := by omega
  obtain rfl : C = 0 := by omega
  by_cases hz : (adV R B I).tmod 4 = 0
  · exact ⟨_, _, _, 0, 0, fun n H => (done_45 (n+66) H R F pc A B I ld hA2 hB2 hk).trans (by rw [if_pos hz]; rfl), fun n H => (rdone_45 (n+10) H R F pc A B I ld hA2 hB2 hR hF hk).trans (by rw [if_pos hz]; rfl), updA_in hR _ _ (u32_wrap _), hF, u32_wrap _⟩
  · exact ⟨_, _, _, 5, (adV R B I), fun n H => (done_45 (n+66) H R F pc A B I ld hA2 hB2 hk).trans (by rw [if_neg hz]; rfl), fun n H => (rdone_45 (n+10) H R F pc A B I ld hA2 hB2 hR hF hk).trans (by rw [if_neg hz]; rfl), updR_in hR, hF, hpc⟩
theorem both_46 (R F : Nat → Int) (pc A B C I ld : Int) (hR : ∀ i, i < 16 → inK .u32 (R i)) (hF : ∀ i, i < 8 → inK .u64 (F i)) (hpc : U32 pc) (hld : U64 ld) (hk : chkV 46 A B C I = 0) : Both R F pc 46 A B C I ld := by
  obtain ⟨hA, hB, hC, hI⟩ := chk_rng (f := 9) (a := 7) (b := 7) (c := 7) rfl rfl rfl rfl hk
  have hA2 : 0 ≤ A ∧ A < 8 := by omega
  have hB2 : 0 ≤ B ∧ B < 8 := by omega
  have hC2 : 0 ≤ C ∧ C < 8 := by omega
  obtain rfl := hI rfl
  exact ⟨_, _, _, 0, 0, fun n H => done_46 (n+66) H R F pc A B C ld hA2 hB2 hC2 hk, fun n H => rdone_46 (n+10) H R F pc A B C ld hA2 hB2 hC2 hR hF hk, updR_in hR, updF_in hF _ _ (arV_u64 _ _ _ (fr_range hF _ (by omega)) (fr_range hF _ (by omega))), u32_wrap _⟩
theorem both_47 (R F : Nat → Int) (pc A B C I ld : Int) (hR : ∀ i, i < 16 → inK .u32 (R i)) (hF : ∀ i, i < 8 → inK .u64 (F i)) (hpc : U32 pc) (hld : U64 ld) (hk : chkV 47 A B C I = 0) : Both R F pc 47 A B C I ld := by
  obtain ⟨hA, hB, hC, hI⟩ := chk_rng (f := 9) (a := 7) (b := 7) (c := 7) rfl rfl rfl rfl hk
  have hA2 : 0 ≤ A ∧ A < 8 := by omega
  have hB2 : 0 ≤ B ∧ B < 8 := by omega
  have hC2 : 0 ≤ C ∧ C < 8 := by omega
  obtain rfl := hI rfl
  exact ⟨_, _, _, 0, 0, fun n H => done_47 (n+66) H R F pc A B C ld hA2 hB2 hC2 hk, fun n H => rdone_47 (n+10) H R F pc A B C ld hA2 hB2 hC2 hR hF hk, updR_in hR, updF_in hF _ _ (arV_u64 _ _ _ (fr_range hF _ (by omega)) (fr_range hF _ (by omega))), u32_wrap _⟩
theorem both_48 (R F : Nat → Int) (pc A B C I ld : Int) (hR : ∀ i, i < 16 → inK .u32 (R i)) (hF : ∀ i, i < 8 → inK .u64 (F i)) (hpc : U32 pc) (hld : U64 ld) (hk : chkV 48 A B C I = 0) : Both R F pc 48 A B C I ld := by
  obtain ⟨hA, hB, hC, hI⟩ := chk_rng (f := 9) (a := 7) (b := 7) (c := 7) rfl rfl rfl rfl hk
  have hA2 : 0 ≤ A ∧ A < 8 := by omega
  have hB2 : 0 ≤ B ∧ B < 8 := by omega
  have hC2 : 0 ≤ C ∧ C < 8 := by omega
  obtain rfl := hI rfl
  exact ⟨_, _, _, 0, 0, fun n H => done_48 (n+66) H R F pc A B C ld hA2 hB2 hC2 hk, fun n H => rdone_48 (n+10) H R F pc A B C ld hA2 hB2 hC2 hR hF hk, updR_in hR, updF_in hF _ _ (arV_u64 _ _ _ (fr_range hF _ (by omega)) (fr_range hF _ (by omega))), u32_wrap _⟩
theorem both_49 (R F : Nat → Int) (pc A B C I ld : Int) (hR : ∀ i, i < 16 → inK .u32 (R i)) (hF : ∀ i, i < 8 → inK .u64 (F i)) (hpc : U32 pc) (hld : U64 ld) (hk : chkV 49 A B C I = 0) : Both R F pc 49 A B C I ld := by
  obtain ⟨hA, hB, hC, hI⟩ := chk_rng (f := 9) (a := 7) (b := 7) (c := 7) rfl rfl rfl rfl hk
  have hA2 : 0 ≤ A ∧ A < 8 := by omega
  have hB2 : 0 ≤ B ∧ B < 8 := by omega
  have hC2 : 0 ≤ C ∧ C < 8 := by omega
  obtain rfl := hI rfl
  exact ⟨_, _, _, 0, 0, fun n H => done_49 (n+66) H R F pc A B C ld hA2 hB2 hC2 hk, fun n H => rdone_49 (n+10) H R F pc A B C ld hA2 hB2 hC2 hR hF hk, updR_in hR, updF_in hF _ _ (arV_u64 _ _ _ (fr_range hF _ (by omega)) (fr_range hF _ (by omega))), u32_wrap _⟩
theorem both_50 (R F : Nat → Int) (pc A B C I ld : Int) (hR : ∀ i, i < 16 → inK .u32 (R i)) (hF : ∀ i, i < 8 → inK .u64 (F i)) (hpc : U32 pc) (hld : U64 ld) (hk : chkV 50 A B C I = 0) : Both R F pc 50 A B C I ld := by
  obtain ⟨hA, hB, hC, hI⟩ := chk_rng (f := 10) (a := 7) (b := 7) (c := 0) rfl rfl rfl rfl hk
  have hA2 : 0 ≤ A ∧ A < 8 := by omega
  have hB2 : 0 ≤ B ∧ B < 8 := by omega
  obtain rfl : C = 0 := by omega
  obtain rfl := hI rfl
  exact ⟨_, _, _, 0, 0, fun n H => done_50 (n+66) H R F pc A B ld hA2 hB2 hk, fun n H => rdone_50 (n+10) H R F pc A B ld hA2 hB2 hR hF hk, updR_in hR, updF_in hF _ _ (arV_u64 _ _ _ (fr_range hF _ (by omega)) (show U64 0 by unfold U64; omega)), u32_wrap _⟩
theorem both_51 (R F : Nat → Int) (pc A B C I ld : Int) (hR : ∀ i, i < 16 → inK .u32 (R i)) (hF : ∀ i, i < 8 → inK .u64 (F i)) (hpc : U32 pc) (hld : U64 ld) (hk : chkV 51 A B C I = 0) : Both R F pc 51 A B C I ld := by
  obtain ⟨hA, hB, hC, hI⟩ := chk_rng (f := 9) (a := 7) (b := 7) (c := 7) rfl rfl rfl rfl hk
  have hA2 : 0 ≤ A ∧ A < 8 := by omega
  have hB2 : 0 ≤ B ∧ B < 8 := by omega
  have hC2 : 0 ≤ C ∧ C < 8 := by omega
  obtain rfl := hI rfl
  exact ⟨_, _, _, 0, 0, fun n H => done_51 (n+66) H R F pc A B C ld hA2 hB2 hC2 hk, fun n H => rdone_51 (n+10) H R F pc A B C ld hA2 hB2 hC2 hR hF hk, updR_in hR, updF_in hF _ _ (arV_u64 _ _ _ (fr_range hF _ (by omega)) (fr_range hF _ (by omega))), u32_wrap _⟩
theorem both_52 (R F : Nat → Int) (pc A B C I ld : Int) (hR : ∀ i, i < 16 → inK .u32 (R i)) (hF : ∀ i, i < 8 → inK .u64 (F i)) (hpc : U32 pc) (hld : U64 ld) (hk : chkV 52 A B C I = 0) : Both R F pc 52 A B C I ld := by
  obtain ⟨hA, hB, hC, hI⟩ := chk_rng (f := 9) (a := 7) (b := 7) (c := 7) rfl rfl rfl rfl hk
  have hA2 : 0 ≤ A ∧ A < 8 := by omega
  have hB2 : 0 ≤ B ∧ B < 8 := by omega
  have hC2 : 0 ≤ C ∧ C < 8 := by omega
  obtain rfl := hI rfl
  exact ⟨_, _, _, 0, 0, fun n H => done_52 (n+66) H R F pc A B C ld hA2 hB2 hC2 hk, fun n H => rdone_52 (n+10) H R F pc A B C ld hA2 hB2 hC2 hR hF hk, updR_in hR, updF_in hF _ _ (arV_u64 _ _ _ (fr_range hF _ (by omega)) (fr_range hF _ (by omega))), u32_wrap _⟩
theorem both_53 (R F : Nat → Int) (pc A B C I ld : Int) (hR : ∀ i, i < 16 → inK .u32 (R i)) (hF : ∀ i, i < 8 → inK .u64 (F i)) (hpc : U32 pc) (hld : U64 ld) (hk : chkV 53 A B C I = 0) : Both R F pc 53 A B C I ld := by
  obtain ⟨hA, hB, hC, hI⟩ := chk_rng (f := 10) (a := 7) (b := 7) (c := 0) rfl rfl rfl rfl hk
  have hA2 : 0 ≤ A ∧ A < 8 := by omega
  have hB2 : 0 ≤ B ∧ B < 8 := by omega
  obtain rfl : C = 0 := by omega
  obtain rfl := hI rfl
  exact ⟨_, _, _, 0, 0, fun n H => done_53 (n+66) H R F pc A B ld hA2 hB2 hk, fun n H => rdone_53 (n+10) H R F pc A B ld hA2 hB2 hR hF hk, updR_in hR, updF_in hF _ _ (arV_u64 _ _ _ (fr_range hF _ (by omega)) (show U64 0 by unfold U64; omega)), u32_wrap _⟩
theorem both_54 (R F : Nat → Int) (pc A B C I ld : Int) (hR : ∀ i, i < 16 → inK .u32 (R i)) (hF : ∀ i, i < 8 → inK .u64 (F i)) (hpc : U32 pc) (hld : U64 ld) (hk : chkV 54 A B C I = 0) : Both R F pc 54 A B C I ld := by
  obtain ⟨hA, hB, hC, hI⟩ := chk_rng (f := 10) (a := 7) (b := 7) (c := 0) rfl rfl rfl rfl hk
  have hA2 : 0 ≤ A ∧ A < 8 := by omega
  have hB2 : 0 ≤ B ∧ B < 8 := by omega
  obtain rfl : C = 0 := by omega
  obtain rfl := hI rfl
  exact ⟨_, _, _, 0, 0, fun n H => done_54 (n+66) H R F pc A B ld hA2 hB2 hk, fun n H => rdone_54 (n+10) H R F pc A B ld hA2 hB2 hR hF hk, updR_in hR, updF_in hF _ _ (arV_u64 _ _ _ (fr_range hF _ (by omega)) (show U64 0 by unfold U64; omega)), u32_wrap _⟩
theorem both_55 (R F : Nat → Int) (pc A B C I ld : Int) (hR : ∀ i, i < 16 → inK .u32 (R i)) (hF : ∀ i, i < 8 → inK .u64 (F i)) (hpc : U32 pc) (hld : U64 ld) (hk : chkV 55 A B C I = 0) : Both R F pc 55 A B C I ld := by
  obtain ⟨hA, hB, hC, hI⟩ := chk_rng (f := 11) (a := 15) (b := 7) (c := 7) rfl rfl rfl rfl hk
  have hA2 : 0 ≤ A ∧ A < 16 := by omega
  have hB2 : 0 ≤ B ∧ B < 8 := by omega
  have hC2 : 0 ≤ C ∧ C < 8 := by omega
  obtain rfl := hI rfl
  have ec := cm_b2i 55 (F B.toNat) (F C.toNat) _ (by omega) (fr_range hF _ (by omega)) (fr_range hF _ (by omega)) rfl
  exact ⟨_, _, _, 0, 0, fun n H => (done_55 (n+66) H R F pc A B C ld hA2 hB2 hC2 hk).trans (by rw [ec]; rfl), fun n H => rdone_55 (n+10) H R F pc A B C ld hA2 hB2 hC2 hR hF hk, updA_in hR _ _ (cmI_u32 _ _ _), hF, u32_wrap _⟩
theorem both_56 (R F : Nat → Int) (pc A B C I ld : Int) (hR : ∀ i, i < 16 → inK .u32 (R i)) (hF : ∀ i, i < 8 → inK .u64 (F i)) (hpc : U32 pc) (hld : U64 ld) (hk : chkV 56 A B C I = 0) : Both R F pc 56 A B C I ld := by
  obtain ⟨hA, hB, hC, hI⟩ := chk_rng (f := 11) (a := 15) (b := 7) (c := 7) rfl rfl rfl rfl hk
  have hA2 : 0 ≤ A ∧ A < 16 := by omega
  have hB2 : 0 ≤ B ∧ B < 8 := by omega
  have hC2 : 0 ≤ C ∧ C < 8 := by omega
  obtain rfl := hI rfl
  have ec := cm_b2i 56 (F B.toNat) (F C.toNat) _ (by omega) (fr_range hF _ (by omega)) (fr_range hF _ (by omega)) rfl
  exact ⟨_, _, _, 0, 0, fun n H => (done_56 (n+66) H R F pc A B C ld hA2 hB2 hC2 hk).trans (by rw [ec]; rfl), fun n H => rdone_56 (n+10) H R F pc A B C ld hA2 hB2 hC2 hR hF hk, updA_in hR _ _ (cmI_u32 _ _ _), hF, u32_wrap _⟩
theorem both_57 (R F : Nat → Int) (pc A B C I ld : Int) (hR : ∀ i, i < 16 → inK .u32 (R i)) (hF : ∀ i, i < 8 → inK .u64 (F i)) (hpc : U32 pc) (hld : U64 ld) (hk : chkV 57 A B C I = 0) : Both R F pc 57 A B C I ld := by
  obtain ⟨hA, hB, hC, hI⟩ := chk_rng (f := 11) (a := 15) (b := 7) (c := 7) rfl rfl rfl rfl hk
  have hA2 : 0 ≤ A ∧ A < 16 := by omega
  have hB2 : 0 ≤ B ∧ B < 8 := by omega
  have hC2 : 0 ≤ C ∧ C < 8 := by omega
  obtain rfl := hI rfl
  have ec := cm_b2i 57 (F B.toNat) (F C.toNat) _ (by omega) (fr_range hF _ (by omega)) (fr_range hF _ (by omega)) rfl
  exact ⟨_, _, _, 0, 0, fun n H => (done_57 (n+66) H R F pc A B C ld hA2 hB2 hC2 hk).trans (by rw [ec]; rfl), fun n H => rdone_57 (n+10) H R F pc A B C ld hA2 hB2 hC2 hR hF hk, updA_in hR _ _ (cmI_u32 _ _ _), hF, u32_wrap _⟩
theorem both_58 (R F : Nat → Int) (pc A B C I ld : Int) (hR : ∀ i, i < 16 → inK .u32 (R i)) (hF : ∀ i, i < 8 → inK .u64 (F i)) (hpc : U32 pc) (hld : U64 ld) (hk : chkV 58 A B C I = 0) : Both R F pc 58 A B C I ld := by
  obtain ⟨hA, hB, hC, hI⟩ := chk_rng (f := 12) (a := 15) (b := 7) (c := 0) rfl rfl rfl rfl hk
  have hA2 : 0 ≤ A ∧ A < 16 := by omega
  have hB2 : 0 ≤ B ∧ B < 8 := by omega
  obtain rfl : C = 0 := by omega
  obtain rfl := hI rfl
  exact ⟨_, _, _, 0, 0, fun n H => done_58 (n+66) H R F pc A B ld hA2 hB2 hk, fun n H => rdone_58 (n+10) H R F pc A B ld hA2 hB2 hR hF hk, updA_in hR _ _ (clV_u32 _), hF, u32_wrap _⟩
theorem both_59 (R F : Nat → Int) (pc A B C I ld : Int) (hR : ∀ i, i < 16 → inK .u32 (R i)) (hF : ∀ i, i < 8 → inK .u64 (F i)) (hpc : U32 pc) (hld : U64 ld) (hk : chkV 59 A B C I = 0) : Both R F pc 59 A B C I ld := by
  obtain ⟨hA, hB, hC, hI⟩ := chk_rng (f := 13) (a := 7) (b := 15) (c := 0) rfl rfl rfl rfl hk
  have hA2 : 0 ≤ A ∧ A < 8 := by omega
  have hB2 : 0 ≤ B ∧ B < 16 := by omega
  obtain rfl : C = 0 := by omega
  obtain rfl := hI rfl
  exact ⟨_, _, _, 0, 0, fun n H => done_59 (n+66) H R F pc A B ld hA2 hB2 hk, fun n H => rdone_59 (n+10) H R F pc A B ld hA2 hB2 hR hF hk, updR_in hR, updF_in hF _ _ (fiV_u64 _), u32_wrap _⟩
theorem both_60 (R F : Nat → Int) (pc A B C I ld : Int) (hR : ∀ i, i < 16 → inK .u32 (R i)) (hF : ∀ i, i < 8 → inK .u64 (F i)) (hpc : U32 pc) (hld : U64 ld) (hk : chkV 60 A B C I = 0) : Both R F pc 60 A B C I ld := by
  obtain ⟨hA, hB, hC, hI⟩ := chk_rng (f := 12) (a := 15) (b := 7) (c := 0) rfl rfl rfl rfl hk
  have hA2 : 0 ≤ A ∧ A < 16 := by omega
  have hB2 : 0 ≤ B ∧ B < 8 := by omega
  obtain rfl : C = 0 := by omega
  obtain rfl := hI rfl
  exact ⟨_, _, _, 0, 0, fun n H => done_60 (n+66) H R F pc A B ld hA2 hB2 hk, fun n H => rdone_60 (n+10) H R F pc A B ld hA2 hB2 hR hF hk, updA_in hR _ _ (tiV_u32 _), hF, u32_wrap _⟩
theorem both_61 (R F : Nat → Int) (pc A B C I ld : Int) (hR : ∀ i, i < 16 → inK .u32 (R i)) (hF : ∀ i, i < 8 → inK .u64 (F i)) (hpc : U32 pc) (hld : U64 ld) (hk : chkV 61 A B C I = 0) : Both R F pc 61 A B C I ld := by
  obtain ⟨hA, hB, hC, hI⟩ := chk_rng (f := 12) (a := 15) (b := 7) (c := 0) rfl rfl rfl rfl hk
  have hA2 : 0 ≤ A ∧ A < 16 := by omega
  have hB2 : 0 ≤ B ∧ B < 8 := by omega
  obtain rfl : C = 0 := by omega
  obtain rfl := hI rfl
  exact ⟨_, _, _, 0, 0, fun n H => done_61 (n+66) H R F pc A B ld hA2 hB2 hk, fun n H => rdone_61 (n+10) H R F pc A B ld hA2 hB2 hR hF hk, updA_in hR _ _ (u32_wrap _), hF, u32_wrap _⟩
theorem both_62 (R F : Nat → Int) (pc A B C I ld : Int) (hR : ∀ i, i < 16 → inK .u32 (R i)) (hF : ∀ i, i < 8 → inK .u64 (F i)) (hpc : U32 pc) (hld : U64 ld) (hk : chkV 62 A B C I = 0) : Both R F pc 62 A B C I ld := by
  obtain ⟨hA, hB, hC, hI⟩ := chk_rng (f := 12) (a := 15) (b := 7) (c := 0) rfl rfl rfl rfl hk
  have hA2 : 0 ≤ A ∧ A < 16 := by omega
  have hB2 : 0 ≤ B ∧ B < 8 := by omega
  obtain rfl : C = 0 := by omega
  obtain rfl := hI rfl
  exact ⟨_, _, _, 0, 0, fun n H => done_62 (n+66) H R F pc A B ld hA2 hB2 hk, fun n H => rdone_62 (n+10) H R F pc A B ld hA2 hB2 hR hF hk, updA_in hR _ _ (u32_wrap _), hF, u32_wrap _⟩
theorem both_63 (R F : Nat → Int) (pc A B C I ld : Int) (hR : ∀ i, i < 16 → inK .u32 (R i)) (hF : ∀ i, i < 8 → inK .u64 (F i)) (hpc : U32 pc) (hld : U64 ld) (hk : chkV 63 A B C I = 0) : Both R F pc 63 A B C I ld := by
  obtain ⟨hA, hB, hC, hI⟩ := chk_rng (f := 14) (a := 7) (b := 15) (c := 15) rfl rfl rfl rfl hk
  have hA2 : 0 ≤ A ∧ A < 8 := by omega
  have hB2 : 0 ≤ B ∧ B < 16 := by omega
  have hC2 : 0 ≤ C ∧ C < 16 := by omega
  obtain rfl := hI rfl
  exact ⟨_, _, _, 0, 0, fun n H => done_63 (n+66) H R F pc A B C ld hA2 hB2 hC2 hk, fun n H => rdone_63 (n+10) H R F pc A B C ld hA2 hB2 hC2 hR hF hk, updR_in hR, updF_in hF _ _ (u64_wrap _), u32_wrap _⟩
theorem both_64 (R F : Nat → Int) (pc A B C I ld : Int) (hR : ∀ i, i < 16 → inK .u32 (R i)) (hF : ∀ i, i < 8 → inK .u64 (F i)) (hpc : U32 pc) (hld : U64 ld) (hk : chkV 64 A B C I = 0) : Both R F pc 64 A B C I ld := by
  obtain ⟨hA, hB, hC, hI⟩ := chk_rng (f := 1) (a := 0) (b := 0) (c := 0) rfl rfl rfl rfl hk
  obtain rfl : A = 0 := by omega
  obtain rfl : B = 0 := by omega
  obtain rfl : C = 0 := by omega
  obtain rfl := hI rfl
  exact ⟨_, _, _, 0, 0, fun n H => done_64 (n+66) H R F pc ld, fun n H => rdone_64 (n+10) H R F pc  ld  hR hF hk, updR_in hR, hF, hpc⟩
theorem both_65 (R F : Nat → Int) (pc A B C I ld : Int) (hR : ∀ i, i < 16 → inK .u32 (R i)) (hF : ∀ i, i < 8 → inK .u64 (F i)) (hpc : U32 pc) (hld : U64 ld) (hk : chkV 65 A B C I = 0) : Both R F pc 65 A B C I ld := by
  obtain ⟨hA, hB, hC, hI⟩ := chk_rng (f := 1) (a := 0) (b := 0) (c := 0) rfl rfl rfl rfl hk
  obtain rfl : A = 0 := by omega
  obtain rfl : B = 0 := by omega
  obtain rfl : C = 0 := by omega
  obtain rfl := hI rfl
  exact ⟨_, _, _, 0, 0, fun n H => done_65 (n+66) H R F pc ld, fun n H => rdone_65 (n+10) H R F pc  ld  hR hF hk, updR_in hR, hF, hpc⟩
theorem both_66 (R F : Nat → Int) (pc A B C I ld : Int) (hR : ∀ i, i < 16 → inK .u32 (R i)) (hF : ∀ i, i < 8 → inK .u64 (F i)) (hpc : U32 pc) (hld : U64 ld) (hk : chkV 66 A B C I = 0) : Both R F pc 66 A B C I ld := by
  obtain ⟨hA, hB, hC, hI⟩ := chk_rng (f := 1) (a := 0) (b := 0) (c := 0) rfl rfl rfl rfl hk
  obtain rfl : A = 0 := by omega
  obtain rfl : B = 0 := by omega
  obtain rfl : C = 0 := by omega
  obtain rfl := hI rfl
  exact ⟨_, _, _, 0, 0, fun n H => done_66 (n+66) H R F pc ld, fun n H => rdone_66 (n+10) H R F pc  ld  hR hF hk, updR_in hR, hF, hpc⟩
theorem both_67 (R F : Nat → Int) (pc A B C I ld : Int) (hR : ∀ i, i < 16 → inK .u32 (R i)) (hF : ∀ i, i < 8 → inK .u64 (F i)) (hpc : U32 pc) (hld : U64 ld) (hk : chkV 67 A B C I = 0) : Both R F pc 67 A B C I ld := by
  obtain ⟨hA, hB, hC, hI⟩ := chk_rng (f := 1) (a := 0) (b := 0) (c := 0) rfl rfl rfl rfl hk
  obtain rfl : A = 0 := by omega
  obtain rfl : B = 0 := by omega
  obtain rfl : C = 0 := by omega
  obtain rfl := hI rfl
  exact ⟨_, _, _, 0, 0, fun n H => done_67 (n+66) H R F pc ld, fun n H => rdone_67 (n+10) H R F pc  ld  hR hF hk, updR_in hR, hF, hpc⟩
theorem both_68 (R F : Nat → Int) (pc A B C I ld : Int) (hR : ∀ i, i < 16 → inK .u32 (R i)) (hF : ∀ i, i < 8 → inK .u64 (F i)) (hpc : U32 pc) (hld : U64 ld) (hk : chkV 68 A B C I = 0) : Both R F pc 68 A B C I ld := by
  obtain ⟨hA, hB, hC, hI⟩ := chk_rng (f := 15) (a := 15) (b := 0) (c := 0) rfl rfl rfl rfl hk
  have hA2 : 0 ≤ A ∧ A < 16 := by omega
  obtain rfl : B = 0 := by omega
  obtain rfl : C = 0 := by omega
  exact ⟨_, _, _, 0, 0, fun n H => done_68 (n+66) H R F pc A I ld hk, fun n H => rdone_68 (n+10) H R F pc A I ld hA2 hR hF hk, updR_in hR, hF, hpc⟩
theorem both_69 (R F : Nat → Int) (pc A B C I ld : Int) (hR : ∀ i, i < 16 → inK .u32 (R i)) (hF : ∀ i, i < 8 → inK .u64 (F i)) (hpc : U32 pc) (hld : U64 ld) (hk : chkV 69 A B C I = 0) : Both R F pc 69 A B C I ld := by
  obtain ⟨hA, hB, hC, hI⟩ := chk_rng (f := 15) (a := 15) (b := 0) (c := 0) rfl rfl rfl rfl hk
  have hA2 : 0 ≤ A ∧ A < 16 := by omega
  obtain rfl : B = 0 := by omega
  obtain rfl : C = 0 := by omega
  exact ⟨_, _, _, 0, 0, fun n H => done_69 (n+66) H R F pc A I ld hk, fun n H => rdone_69 (n+10) H R F pc A I ld hA2 hR hF hk, updR_in hR, hF, hpc⟩
theorem both_70 (R F : Nat → Int) (pc A B C I ld : Int) (hR : ∀ i, i < 16 → inK .u32 (R i)) (hF : ∀ i, i < 8 → inK .u64 (F i)) (hpc : U32 pc) (hld : U64 ld) (hk : chkV 70 A B C I = 0) : Both R F pc 70 A B C I ld := by
  obtain ⟨hA, hB, hC, hI⟩ := chk_rng (f := 1) (a := 0) (b := 0) (c := 0) rfl rfl rfl rfl hk
  obtain rfl : A = 0 := by omega
  obtain rfl : B = 0 := by omega
  obtain rfl : C = 0 := by omega
  obtain rfl := hI rfl
  exact ⟨_, _, _, 0, 0, fun n H => done_70 (n+66) H R F pc ld, fun n H => rdone_70 (n+10) H R F pc  ld  hR hF hk, updR_in hR, hF, hpc⟩
theorem both_71 (R F : Nat → Int) (pc A B C I ld : Int) (hR : ∀ i, i < 16 → inK .u32 (R i)) (hF : ∀ i, i < 8 → inK .u64 (F i)) (hpc : U32 pc) (hld : U64 ld) (hk : chkV 71 A B C I = 0) : Both R F pc 71 A B C I ld := by
  obtain ⟨hA, hB, hC, hI⟩ := chk_rng (f := 1) (a := 0) (b := 0) (c := 0) rfl rfl rfl rfl hk
  obtain rfl : A = 0 := by omega
  obtain rfl : B = 0 := by omega
  obtain rfl : C = 0 := by omega
  obtain rfl := hI rfl
  exact ⟨_, _, _, 0, 0, fun n H => done_71 (n+66) H R F pc ld, fun n H => rdone_71 (n+10) H R F pc  ld  hR hF hk, updR_in hR, hF, hpc⟩
theorem both (R F : Nat → Int) (pc op A B C I ld : Int) (hR : ∀ i, i < 16 → inK .u32 (R i)) (hF : ∀ i, i < 8 → inK .u64 (F i)) (hpc : U32 pc) (hld : U64 ld) : Both R F pc op A B C I ld := by
  by_cases hk : chkV op A B C I = 0
  · have ho := chk_op hk
    revert hk
    refine all72 (P := fun op => chkV op A B C I = 0 → Both R F pc op A B C I ld) (fun hk => ?_) (both_1 R F pc A B C I ld hR hF hpc hld) (both_2 R F pc A B C I ld hR hF hpc hld) (both_3 R F pc A B C I ld hR hF hpc hld) (both_4 R F pc A B C I ld hR hF hpc hld) (both_5 R F pc A B C I ld hR hF hpc hld) (both_6 R F pc A B C I ld hR hF hpc hld) (both_7 R F pc A B C I ld hR hF hpc hld) (both_8 R F pc A B C I ld hR hF hpc hld) (both_9 R F pc A B C I ld hR hF hpc hld) (both_10 R F pc A B C I ld hR hF hpc hld) (both_11 R F pc A B C I ld hR hF hpc hld) (both_12 R F pc A B C I ld hR hF hpc hld) (both_13 R F pc A B C I ld hR hF hpc hld) (both_14 R F pc A B C I ld hR hF hpc hld) (both_15 R F pc A B C I ld hR hF hpc hld) (both_16 R F pc A B C I ld hR hF hpc hld) (both_17 R F pc A B C I ld hR hF hpc hld) (both_18 R F pc A B C I ld hR hF hpc hld) (both_19 R F pc A B C I ld hR hF hpc hld) (both_20 R F pc A B C I ld hR hF hpc hld) (both_21 R F pc A B C I ld hR hF hpc hld) (both_22 R F pc A B C I ld hR hF hpc hld) (both_23 R F pc A B C I ld hR hF hpc hld) (both_24 R F pc A B C I ld hR hF hpc hld) (both_25 R F pc A B C I ld hR hF hpc hld) (both_26 R F pc A B C I ld hR hF hpc hld) (both_27 R F pc A B C I ld hR hF hpc hld) (both_28 R F pc A B C I ld hR hF hpc hld) (both_29 R F pc A B C I ld hR hF hpc hld) (both_30 R F pc A B C I ld hR hF hpc hld) (both_31 R F pc A B C I ld hR hF hpc hld) (both_32 R F pc A B C I ld hR hF hpc hld) (both_33 R F pc A B C I ld hR hF hpc hld) (both_34 R F pc A B C I ld hR hF hpc hld) (both_35 R F pc A B C I ld hR hF hpc hld) (both_36 R F pc A B C I ld hR hF hpc hld) (both_37 R F pc A B C I ld hR hF hpc hld) (both_38 R F pc A B C I ld hR hF hpc hld) (both_39 R F pc A B C I ld hR hF hpc hld) (both_40 R F pc A B C I ld hR hF hpc hld) (both_41 R F pc A B C I ld hR hF hpc hld) (both_42 R F pc A B C I ld hR hF hpc hld) (both_43 R F pc A B C I ld hR hF hpc hld) (both_44 R F pc A B C I ld hR hF hpc hld) (both_45 R F pc A B C I ld hR hF hpc hld) (both_46 R F pc A B C I ld hR hF hpc hld) (both_47 R F pc A B C I ld hR hF hpc hld) (both_48 R F pc A B C I ld hR hF hpc hld) (both_49 R F pc A B C I ld hR hF hpc hld) (both_50 R F pc A B C I ld hR hF hpc hld) (both_51 R F pc A B C I ld hR hF hpc hld) (both_52 R F pc A B C I ld hR hF hpc hld) (both_53 R F pc A B C I ld hR hF hpc hld) (both_54 R F pc A B C I ld hR hF hpc hld) (both_55 R F pc A B C I ld hR hF hpc hld) (both_56 R F pc A B C I ld hR hF hpc hld) (both_57 R F pc A B C I ld hR hF hpc hld) (both_58 R F pc A B C I ld hR hF hpc hld) (both_59 R F pc A B C I ld hR hF hpc hld) (both_60 R F pc A B C I ld hR hF hpc hld) (both_61 R F pc A B C I ld hR hF hpc hld) (both_62 R F pc A B C I ld hR hF hpc hld) (both_63 R F pc A B C I ld hR hF hpc hld) (both_64 R F pc A B C I ld hR hF hpc hld) (both_65 R F pc A B C I ld hR hF hpc hld) (both_66 R F pc A B C I ld hR hF hpc hld) (both_67 R F pc A B C I ld hR hF hpc hld) (both_68 R F pc A B C I ld hR hF hpc hld) (both_69 R F pc A B C I ld hR hF hpc hld) (both_70 R F pc A B C I ld hR hF hpc hld) (both_71 R F pc A B C I ld hR hF hpc hld) op ho
    exact absurd hk (by rw [chkV, if_pos (show formV 0 = 0 from rfl)]; decide)
  · exact ⟨_, _, _, 1, 0, fun n H => done_bad (n+66) H R F pc op A B C I ld hk, fun n H => rdone_bad (n+10) H R F pc op A B C I ld hk, updR_in hR, hF, hpc⟩
end Go.Proofs.YthenglaoolmajaaDoor
