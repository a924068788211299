import Derived.Test.YthenglaoolmajaaDoorChecked
import Derived.WalkKit
import Derived.ProofKit
import Derived.WalkLawsBesides
import Derived.Laws.Externs
import Derived.Test.YthenglaoolmajaaDoorFlT
namespace Go.Proofs.YthenglaoolmajaaDoor
open Go Go.ChangeShapes Go.WideShapes Go.RowKit
set_option maxRecDepth 100000
set_option linter.unusedSimpArgs false
set_option linter.unusedVariables false
theorem x74 (a : Int) (w : World) : (callFunc 74 #[.int .u64 a]).run Tryd.prog w = .ok (.value (.float .f64 a.toNat)) w := by
  rw [run_callFunc_extern (fn := Tryd.f74) (e := Extern.MathFloatBits.float64frombits) Tryd.func74 (by decide +kernel) rfl (by kernel_rfl) (by kernel_rfl)]
  rfl
theorem x81 (a : Nat) (w : World) : (callFunc 81 #[.float .f64 a]).run Tryd.prog w = .ok (.value (.int .u64 a)) w := by
  rw [run_callFunc_extern (fn := Tryd.f81) (e := Extern.MathFloatBits.float64bits) Tryd.func81 (by decide +kernel) rfl (by kernel_rfl) (by kernel_rfl)]
  rfl
theorem x94s (a r : Nat) (w : World) (h : Ieee.double.sqrt a = some r) : (callFunc 94 #[.float .f64 a]).run Tryd.prog w = .ok (.value (.float .f64 r)) w := by
  rw [run_callFunc_extern (fn := Tryd.f94) (e := Extern.MathSqrt.sqrt) Tryd.func94 (by decide +kernel) rfl (by kernel_rfl) (by kernel_rfl)]
  have : Ieee.Format.sqrt FloatKind.f64.format a = some r := h
  have e : Extern.MathSqrt.sqrt #[.float .f64 a] = (match FloatKind.f64.format.sqrt a with | some r => pure (.float .f64 r) | none => (do pure (.float .f64 (← choose (.nanBits .f64 a a))))) := by kernel_rfl
  rw [e, this]
  rfl
theorem x94n (a : Nat) (w : World) (h : Ieee.double.sqrt a = none) : (callFunc 94 #[.float .f64 a]).run Tryd.prog w = .ok (.value (.float .f64 ((Question.nanBits .f64 a a).cut (w.tape w.drawn (.nanBits .f64 a a))))) { w with drawn := w.drawn + 1 } := by
  rw [run_callFunc_extern (fn := Tryd.f94) (e := Extern.MathSqrt.sqrt) Tryd.func94 (by decide +kernel) rfl (by kernel_rfl) (by kernel_rfl)]
  have : Ieee.Format.sqrt FloatKind.f64.format a = none := h
  have e : Extern.MathSqrt.sqrt #[.float .f64 a] = (match FloatKind.f64.format.sqrt a with | some r => pure (.float .f64 r) | none => (do pure (.float .f64 (← choose (.nanBits .f64 a a))))) := by kernel_rfl
  rw [e, this]
  simp [choose, Sem.run, Sem.bind, Question.forced, bind, pure, Result.andThen]
theorem t85 (a : Int) (w : World) : Calls Tryd.prog 85 #[.int .u64 a] w fun e w' => e = .returned (.float .f64 a.toNat) ∧ w' = w := by
  go_enter Tryd.func85, Tryd.ntmps85
  go_wp2_with (simp only [x74])
  all_goals (go_ret; exact ⟨rfl, rfl⟩)
/-- is it a NaN? -/
def nanF (a : Nat) : Bool := Ieee.double.order a a != some .eq
/-- bits, the NaN's made one -/
def fbits (b : Nat) : Int := if nanF b = true then 9221120237041090560 else (b : Int)
/-- the world is as it was but for what was drawn -/
def QW (w w' : World) : Prop := w'.heap = w.heap ∧ w'.tape = w.tape ∧ w'.os = w.os ∧ w'.output = w.output
theorem QW.refl {w : World} : QW w w := ⟨Eq.refl _, Eq.refl _, Eq.refl _, Eq.refl _⟩
theorem order_ne (x : Nat) (t : TypeId) (w : World) : (binOp .neq t (.float .f64 x) (.float .f64 x)).run Tryd.prog w = .ok (.bool (nanF x)) w := by
  rw [binOp_float_cmp_neq]; rfl
theorem t86 (b : Nat) (w : World) : Calls Tryd.prog 86 #[.float .f64 b] w fun e w' => e = .returned (.int .u64 (fbits b)) ∧ w' = w := by
  go_enter Tryd.func86, Tryd.ntmps86
  go_wp2_with (simp only [x81])
  all_goals (go_ret; simp_all [fbits, nanF, FloatKind.format])
theorem run_float_nan (op : BinOp) (hop : op = .add ∨ op = .sub ∨ op = .mul ∨ op = .quo) (t : TypeId) (x y : Nat) (w : World) (h : floatBits op .f64 x y = none) :
    (binOp op t (.float .f64 x) (.float .f64 y)).run Tryd.prog w = .ok (.float .f64 ((Question.nanBits .f64 x y).cut (w.tape w.drawn (.nanBits .f64 x y)))) { w with drawn := w.drawn + 1 } := by
  unfold floatBits at h
  rcases hop with rfl | rfl | rfl | rfl <;> simp only at h <;> simp [binOp, Op.floatArith, h, choose, Sem.run, Sem.bind, Question.forced, bind, pure]
theorem nan_nanF (x : Nat) (h : 9218868437227405312 < x % 9223372036854775808) : nanF x = true := by
  unfold nanF Ieee.Format.order
  have hr : Ieee.double.read x = .nan (x / Ieee.double.signWeight % 2 == 1) (x % Ieee.double.signWeight - Ieee.double.infRung) := by
    unfold Ieee.Format.read
    have e1 : Ieee.double.signWeight = 9223372036854775808 := by decide
    have e2 : Ieee.double.binade = 4503599627370496 := by decide
    have e3 : Ieee.double.infRung = 9218868437227405312 := by decide
    rw [e1, e2, e3]
    simp only []
    rw [if_neg (by omega), if_neg (by omega), if_neg (by omega)]
  rw [hr]
  rfl
theorem cut_nan (x y t : Nat) : nanF ((Question.nanBits .f64 x y).cut t) = true := by
  refine nan_nanF _ ?_
  have h1 : (t / 2) % (2 ^ 52 - 1) < 2 ^ 52 - 1 := Nat.mod_lt _ (by decide)
  show 9218868437227405312 < ((t % 2) * 2 ^ 63 + 0x7ff0000000000000 + 1 + (t / 2) % (2 ^ 52 - 1)) % 9223372036854775808
  generalize (t / 2) % (2 ^ 52 - 1) = z at h1 ⊢
  have h2 : t % 2 = 0 ∨ t % 2 = 1 := by omega
  rcases h2 with h2 | h2 <;> rw [h2] <;> omega
/-- what an operation of two floats comes to -/
def fop (op : BinOp) (x y : Nat) : Int := match floatBits op .f64 x y with | some r => fbits r | none => 9221120237041090560
/-- what a root comes to -/
def sqF (x : Nat) : Int := match Ieee.double.sqrt x with | some r => fbits r | none => 9221120237041090560
theorem fbits_cut (x y t : Nat) : fbits ((Question.nanBits .f64 x y).cut t) = 9221120237041090560 := by simp [fbits, cut_nan]
theorem t87s (a r : Nat) (w : World) (h : Ieee.double.sqrt a = some r) : Calls Tryd.prog 87 #[.float .f64 a] w fun e w' => e = .returned (.float .f64 r) ∧ w' = w := by
  have hx := fun w => x94s a r w h
  clear h
  go_enter Tryd.func87, Tryd.ntmps87
  go_wp2_with (simp only [hx])
  all_goals (go_ret; exact ⟨rfl, rfl⟩)
theorem t87n (a : Nat) (w : World) (h : Ieee.double.sqrt a = none) : Calls Tryd.prog 87 #[.float .f64 a] w fun e w' => e = .returned (.float .f64 ((Question.nanBits .f64 a a).cut (w.tape w.drawn (.nanBits .f64 a a)))) ∧ w' = { w with drawn := w.drawn + 1 } := by
  have hx := fun w => x94n a w h
  clear h
  go_enter Tryd.func87, Tryd.ntmps87
  go_wp2_with (simp only [hx])
  all_goals (go_ret; exact ⟨rfl, rfl⟩)
theorem t95 (a : Int) (w : World) : Calls Tryd.prog 95 #[.int .u64 a] w fun e w' => e = .returned (.bool (nanF a.toNat)) ∧ w' = w := by
  go_enter Tryd.func95, Tryd.ntmps95
  go_wp2_with (go_at_call 85; ((with_reducible refine (t85 _ _).mono ?_); rintro e w' ⟨rfl, rfl⟩))
  all_goals (go_ret; exact ⟨rfl, rfl⟩)
theorem t99 (a : Nat) (w : World) : Calls Tryd.prog 99 #[.float .f64 a] w fun e w' => e = .returned (.bool (decide (wrap64 a < 0))) ∧ w' = w := by
  go_enter Tryd.func99, Tryd.ntmps99
  go_wp2_with (simp only [x81])
  all_goals (go_ret; exact ⟨rfl, rfl⟩)
def b2i (b : Bool) : Int := if b = true then 1 else 0
/-- what a comparison comes to -/
def cmV (op a b : Int) : Value :=
  if op = 55 then .tuple #[.int .u32 (b2i (Ieee.double.order a.toNat b.toNat == some .eq)), .int .i64 0]
  else if op = 56 then .tuple #[.int .u32 (b2i (Ieee.double.order a.toNat b.toNat == some .lt)), .int .i64 0]
  else if op = 57 then .tuple #[.int .u32 (b2i (Ieee.double.order a.toNat b.toNat == some .lt || Ieee.double.order a.toNat b.toNat == some .eq)), .int .i64 0]
  else .tuple #[.int .u32 0, .int .i64 5]
theorem t70 (op a b : Int) (w : World) : Calls Tryd.prog 70 #[.int .i64 op, .int .u64 a, .int .u64 b] w fun e w' => e = .returned (cmV op a b) ∧ w' = w := by
  go_enter Tryd.func70, Tryd.ntmps70
  go_wp2_with (go_at_call 85; ((with_reducible refine (t85 _ _).mono ?_); rintro e w' ⟨rfl, rfl⟩))
  all_goals (go_ret2; simp_all [cmV, b2i, FloatKind.format])
/-- the lesser one of two that are no NaN -/
def lessF (x y : Nat) : Bool := Ieee.double.order x y == some .lt || (Ieee.double.order x y == some .eq && decide (wrap64 x < 0) && !decide (wrap64 y < 0))
theorem t96 (a b : Int) (w : World) : Calls Tryd.prog 96 #[.int .u64 a, .int .u64 b] w fun e w' => e = .returned (.bool (lessF a.toNat b.toNat)) ∧ w' = w := by
  go_enter Tryd.func96, Tryd.ntmps96
  go_wp2_with (first | (go_at_call 85; ((with_reducible refine (t85 _ _).mono ?_); rintro e w' ⟨rfl, rfl⟩)) | (go_at_call 99; ((with_reducible refine (t99 _ _).mono ?_); rintro e w' ⟨rfl, rfl⟩)))
  all_goals (go_ret; simp_all [lessF, FloatKind.format]; try omega)
def exF (a b : Int) (g : Bool) : Int := if nanF a.toNat && nanF b.toNat then 9221120237041090560 else if nanF a.toNat then b else if nanF b.toNat then a else if lessF b.toNat a.toNat != g then b else a
theorem t88 (a b : Int) (g : Bool) (w : World) : Calls Tryd.prog 88 #[.int .u64 a, .int .u64 b, .bool g] w fun e w' => e = .returned (.int .u64 (exF a b g)) ∧ w' = w := by
  go_enter Tryd.func88, Tryd.ntmps88
  go_wp2_with (first | (go_at_call 95; ((with_reducible refine (t95 _ _).mono ?_); rintro e w' ⟨rfl, rfl⟩)) | (go_at_call 96; ((with_reducible refine (t96 _ _ _).mono ?_); rintro e w' ⟨rfl, rfl⟩)))
  all_goals (go_ret; simp_all [exF])
theorem t69_46 (a b : Int) (w : World) : Calls Tryd.prog 69 #[.int .i64 46, .int .u64 a, .int .u64 b] w fun e w' => e = .returned (.tuple #[.int .u64 (fop .add a.toNat b.toNat), .int .i64 0]) ∧ QW w w' := by
  rcases h : floatBits .add .f64 a.toNat b.toNat with _ | r
  · have hop := fun t w => run_float_nan .add (Or.inl rfl) t a.toNat b.toNat w h
    have hv : fop .add a.toNat b.toNat = 9221120237041090560 := by simp only [fop, h]
    rw [hv]
    clear hv h
    go_enter Tryd.func69, Tryd.ntmps69
    go_wp2_with (first | simp only [hop] | simp only [x74] | simp only [x81] | fail | (go_at_call 85; ((with_reducible refine (t85 _ _).mono ?_); rintro e w' ⟨rfl, rfl⟩)) | (go_at_call 86; ((with_reducible refine (t86 _ _).mono ?_); rintro e w' ⟨rfl, rfl⟩)))
    all_goals (go_ret2; rw [fbits_cut]; exact ⟨rfl, rfl, rfl, rfl, rfl⟩)
  · have hop := fun t w => run_float_arith (P := Tryd.prog) w .add t .f64 a.toNat b.toNat r h
    have hv : fop .add a.toNat b.toNat = fbits r := by simp only [fop, h]
    rw [hv]
    clear hv h
    go_enter Tryd.func69, Tryd.ntmps69
    go_wp2_with (first | simp only [hop] | simp only [x74] | simp only [x81] | fail | (go_at_call 85; ((with_reducible refine (t85 _ _).mono ?_); rintro e w' ⟨rfl, rfl⟩)) | (go_at_call 86; ((with_reducible refine (t86 _ _).mono ?_); rintro e w' ⟨rfl, rfl⟩)))
    all_goals (go_ret2; exact ⟨rfl, QW.refl⟩)
theorem t69_47 (a b : Int) (w : World) : Calls Tryd.prog 69 #[.int .i64 47, .int .u64 a, .int .u64 b] w fun e w' => e = .returned (.tuple #[.int .u64 (fop .sub a.toNat b.toNat), .int .i64 0]) ∧ QW w w' := by
  rcases h : floatBits .sub .f64 a.toNat b.toNat with _ | r
  · have hop := fun t w => run_float_nan .sub (Or.inr (Or.inl rfl)) t a.toNat b.toNat w h
    have hv : fop .sub a.toNat b.toNat = 9221120237041090560 := by simp only [fop, h]
    rw [hv]
    clear hv h
    go_enter Tryd.func69, Tryd.ntmps69
    go_wp2_with (first | simp only [hop] | simp only [x74] | simp only [x81] | fail | (go_at_call 85; ((with_reducible refine (t85 _ _).mono ?_); rintro e w' ⟨rfl, rfl⟩)) | (go_at_call 86; ((with_reducible refine (t86 _ _).mono ?_); rintro e w' ⟨rfl, rfl⟩)))
    all_goals (go_ret2; rw [fbits_cut]; exact ⟨rfl, rfl, rfl, rfl, rfl⟩)
  · have hop := fun t w => run_float_arith (P := Tryd.prog) w .sub t .f64 a.toNat b.toNat r h
    have hv : fop .sub a.toNat b.toNat = fbits r := by simp only [fop, h]
    rw [hv]
    clear hv h
    go_enter Tryd.func69, Tryd.ntmps69
    go_wp2_with (first | simp only [hop] | simp only [x74] | simp only [x81] | fail | (go_at_call 85; ((with_reducible refine (t85 _ _).mono ?_); rintro e w' ⟨rfl, rfl⟩)) | (go_at_call 86; ((with_reducible refine (t86 _ _).mono ?_); rintro e w' ⟨rfl, rfl⟩)))
    all_goals (go_ret2; exact ⟨rfl, QW.refl⟩)
theorem t69_48 (a b : Int) (w : World) : Calls Tryd.prog 69 #[.int .i64 48, .int .u64 a, .int .u64 b] w fun e w' => e = .returned (.tuple #[.int .u64 (fop .mul a.toNat b.toNat), .int .i64 0]) ∧ QW w w' := by
  rcases h : floatBits .mul .f64 a.toNat b.toNat with _ | r
  · have hop := fun t w => run_float_nan .mul (Or.inr (Or.inr (Or.inl rfl))) t a.toNat b.toNat w h
    have hv : fop .mul a.toNat b.toNat = 9221120237041090560 := by simp only [fop, h]
    rw [hv]
    clear hv h
    go_enter Tryd.func69, Tryd.ntmps69
    go_wp2_with (first | simp only [hop] | simp only [x74] | simp only [x81] | fail | (go_at_call 85; ((with_reducible refine (t85 _ _).mono ?_); rintro e w' ⟨rfl, rfl⟩)) | (go_at_call 86; ((with_reducible refine (t86 _ _).mono ?_); rintro e w' ⟨rfl, rfl⟩)))
    all_goals (go_ret2; rw [fbits_cut]; exact ⟨rfl, rfl, rfl, rfl, rfl⟩)
  · have hop := fun t w => run_float_arith (P := Tryd.prog) w .mul t .f64 a.toNat b.toNat r h
    have hv : fop .mul a.toNat b.toNat = fbits r := by simp only [fop, h]
    rw [hv]
    clear hv h
    go_enter Tryd.func69, Tryd.ntmps69
    go_wp2_with (first | simp only [hop] | simp only [x74] | simp only [x81] | fail | (go_at_call 85; ((with_reducible refine (t85 _ _).mono ?_); rintro e w' ⟨rfl, rfl⟩)) | (go_at_call 86; ((with_reducible refine (t86 _ _).mono ?_); rintro e w' ⟨rfl, rfl⟩)))
    all_goals (go_ret2; exact ⟨rfl, QW.refl⟩)
theorem t69_49 (a b : Int) (w : World) : Calls Tryd.prog 69 #[.int .i64 49, .int .u64 a, .int .u64 b] w fun e w' => e = .returned (.tuple #[.int .u64 (fop .quo a.toNat b.toNat), .int .i64 0]) ∧ QW w w' := by
  rcases h : floatBits .quo .f64 a.toNat b.toNat with _ | r
  · have hop := fun t w => run_float_nan .quo (Or.inr (Or.inr (Or.inr rfl))) t a.toNat b.toNat w h
    have hv : fop .quo a.toNat b.toNat = 9221120237041090560 := by simp only [fop, h]
    rw [hv]
    clear hv h
    go_enter Tryd.func69, Tryd.ntmps69
    go_wp2_with (first | simp only [hop] | simp only [x74] | simp only [x81] | fail | (go_at_call 85; ((with_reducible refine (t85 _ _).mono ?_); rintro e w' ⟨rfl, rfl⟩)) | (go_at_call 86; ((with_reducible refine (t86 _ _).mono ?_); rintro e w' ⟨rfl, rfl⟩)))
    all_goals (go_ret2; rw [fbits_cut]; exact ⟨rfl, rfl, rfl, rfl, rfl⟩)
  · have hop := fun t w => run_float_arith (P := Tryd.prog) w .quo t .f64 a.toNat b.toNat r h
    have hv : fop .quo a.toNat b.toNat = fbits r := by simp only [fop, h]
    rw [hv]
    clear hv h
    go_enter Tryd.func69, Tryd.ntmps69
    go_wp2_with (first | simp only [hop] | simp only [x74] | simp only [x81] | fail | (go_at_call 85; ((with_reducible refine (t85 _ _).mono ?_); rintro e w' ⟨rfl, rfl⟩)) | (go_at_call 86; ((with_reducible refine (t86 _ _).mono ?_); rintro e w' ⟨rfl, rfl⟩)))
    all_goals (go_ret2; exact ⟨rfl, QW.refl⟩)
theorem t69_50 (a b : Int) (w : World) : Calls Tryd.prog 69 #[.int .i64 50, .int .u64 a, .int .u64 b] w fun e w' => e = .returned (.tuple #[.int .u64 (sqF a.toNat), .int .i64 0]) ∧ QW w w' := by
  rcases h : Ieee.double.sqrt a.toNat with _ | r
  · have hv : sqF a.toNat = 9221120237041090560 := by simp only [sqF, h]
    have hx := fun w => t87n a.toNat w h
    rw [hv]
    clear hv h
    go_enter Tryd.func69, Tryd.ntmps69
    go_wp2_with (first | (go_at_call 85; ((with_reducible refine (t85 _ _).mono ?_); rintro e w' ⟨rfl, rfl⟩)) | (go_at_call 86; ((with_reducible refine (t86 _ _).mono ?_); rintro e w' ⟨rfl, rfl⟩)) | (go_at_call 87; ((with_reducible refine (hx _).mono ?_); rintro e w' ⟨rfl, rfl⟩)))
    all_goals (go_ret2; rw [fbits_cut]; exact ⟨rfl, rfl, rfl, rfl, rfl⟩)
  · have hv : sqF a.toNat = fbits r := by simp only [sqF, h]
    have hx := fun w => t87s a.toNat r w h
    rw [hv]
    clear hv h
    go_enter Tryd.func69, Tryd.ntmps69
    go_wp2_with (first | (go_at_call 85; ((with_reducible refine (t85 _ _).mono ?_); rintro e w' ⟨rfl, rfl⟩)) | (go_at_call 86; ((with_reducible refine (t86 _ _).mono ?_); rintro e w' ⟨rfl, rfl⟩)) | (go_at_call 87; ((with_reducible refine (hx _).mono ?_); rintro e w' ⟨rfl, rfl⟩)))
    all_goals (go_ret2; exact ⟨rfl, QW.refl⟩)
theorem t69_51 (a b : Int) (w : World) : Calls Tryd.prog 69 #[.int .i64 51, .int .u64 a, .int .u64 b] w fun e w' => e = .returned (.tuple #[.int .u64 (exF a b false), .int .i64 0]) ∧ w' = w := by
  go_enter Tryd.func69, Tryd.ntmps69
  go_wp2_with (first | (go_at_call 85; ((with_reducible refine (t85 _ _).mono ?_); rintro e w' ⟨rfl, rfl⟩)) | (go_at_call 88; ((with_reducible refine (t88 _ _ _ _).mono ?_); rintro e w' ⟨rfl, rfl⟩)))
  all_goals (go_ret2; exact ⟨rfl, rfl⟩)
theorem t69_52 (a b : Int) (w : World) : Calls Tryd.prog 69 #[.int .i64 52, .int .u64 a, .int .u64 b] w fun e w' => e = .returned (.tuple #[.int .u64 (exF a b true), .int .i64 0]) ∧ w' = w := by
  go_enter Tryd.func69, Tryd.ntmps69
  go_wp2_with (first | (go_at_call 85; ((with_reducible refine (t85 _ _).mono ?_); rintro e w' ⟨rfl, rfl⟩)) | (go_at_call 88; ((with_reducible refine (t88 _ _ _ _).mono ?_); rintro e w' ⟨rfl, rfl⟩)))
  all_goals (go_ret2; exact ⟨rfl, rfl⟩)
theorem t69_53 (a b : Int) (w : World) : Calls Tryd.prog 69 #[.int .i64 53, .int .u64 a, .int .u64 b] w fun e w' => e = .returned (.tuple #[.int .u64 (bits .xor .u64 a 9223372036854775808), .int .i64 0]) ∧ w' = w := by
  go_enter Tryd.func69, Tryd.ntmps69
  go_wp2_with (first | (go_at_call 85; ((with_reducible refine (t85 _ _).mono ?_); rintro e w' ⟨rfl, rfl⟩)))
  all_goals (go_ret2; exact ⟨rfl, rfl⟩)
theorem t69_54 (a b : Int) (w : World) : Calls Tryd.prog 69 #[.int .i64 54, .int .u64 a, .int .u64 b] w fun e w' => e = .returned (.tuple #[.int .u64 (bits .andNot .u64 a 9223372036854775808), .int .i64 0]) ∧ w' = w := by
  go_enter Tryd.func69, Tryd.ntmps69
  go_wp2_with (first | (go_at_call 85; ((with_reducible refine (t85 _ _).mono ?_); rintro e w' ⟨rfl, rfl⟩)))
  all_goals (go_ret2; exact ⟨rfl, rfl⟩)
/-- what an operation of two floats comes to -/
def arV (op a b : Int) : Int :=
  if op = 46 then fop .add a.toNat b.toNat else if op = 47 then fop .sub a.toNat b.toNat else if op = 48 then fop .mul a.toNat b.toNat else if op = 49 then fop .quo a.toNat b.toNat
  else if op = 50 then sqF a.toNat else if op = 51 then exF a b false else if op = 52 then exF a b true else if op = 53 then bits .xor .u64 a 9223372036854775808 else bits .andNot .u64 a 9223372036854775808
theorem t69 (op a b : Int) (h : 46 ≤ op ∧ op ≤ 54) (w : World) : Calls Tryd.prog 69 #[.int .i64 op, .int .u64 a, .int .u64 b] w fun e w' => e = .returned (.tuple #[.int .u64 (arV op a b), .int .i64 0]) ∧ QW w w' := by
  have hw : ∀ {v}, (∀ e (w' : World), e = Ending.returned v ∧ w' = w → e = Ending.returned v ∧ QW w w') := fun e w' h => by obtain ⟨h1, rfl⟩ := h; exact ⟨h1, QW.refl⟩
  have : op = 46 ∨ op = 47 ∨ op = 48 ∨ op = 49 ∨ op = 50 ∨ op = 51 ∨ op = 52 ∨ op = 53 ∨ op = 54 := by omega
  rcases this with rfl | rfl | rfl | rfl | rfl | rfl | rfl | rfl | rfl
  · exact t69_46 a b w
  · exact t69_47 a b w
  · exact t69_48 a b w
  · exact t69_49 a b w
  · exact t69_50 a b w
  · exact (t69_51 a b w).mono hw
  · exact (t69_52 a b w).mono hw
  · exact (t69_53 a b w).mono hw
  · exact (t69_54 a b w).mono hw
/-- a whole number as a float -/
def fiV (a : Int) : Int := (floatOfInt .f64 (wrap32 a) : Int)
theorem t73 (a : Int) (w : World) : Calls Tryd.prog 73 #[.int .u32 a] w fun e w' => e = .returned (.int .u64 (fiV a)) ∧ w' = w := by
  go_enter Tryd.func73, Tryd.ntmps73
  go_wp2_with (simp only [x81])
  all_goals (go_ret; exact ⟨rfl, rfl⟩)
def bigF (a : Nat) : Bool := Ieee.double.order a 4746794007248502784 == some .gt || Ieee.double.order a 4746794007248502784 == some .eq
def lowF (a : Nat) : Bool := Ieee.double.order a 13970166044103278592 == some .lt || Ieee.double.order a 13970166044103278592 == some .eq
/-- a float as a whole number -/
def tiV (a : Int) : Int := if nanF a.toNat || bigF a.toNat then 2147483647 else if lowF a.toNat then 2147483648 else (floatToIntVal .f64 a.toNat .i32).getD 0 % 4294967296
theorem t72 (a : Int) (w : World) : Calls Tryd.prog 72 #[.int .u64 a] w fun e w' => e = .returned (.int .u32 (tiV a)) ∧ w' = w := by
  by_cases hb : nanF a.toNat = false ∧ bigF a.toNat = false ∧ lowF a.toNat = false
  · obtain ⟨e1, e2, e3⟩ := hb
    obtain ⟨m, hm⟩ := Ev.toInt_in a.toNat e1 e2 e3
    have hc : ∀ w, (convert 101 21 (.float .f64 a.toNat)).run Tryd.prog w = .ok (.int .i32 m) w := fun w => run_convert_float_int w 101 21 .f64 .i32 a.toNat m (by kernel_rfl) (by kernel_rfl) hm
    have hv : tiV a = m % 4294967296 := by simp [tiV, e1, e2, e3, hm]
    rw [hv]
    clear hv hm
    unfold nanF at e1
    unfold bigF at e2
    unfold lowF at e3
    go_enter Tryd.func72, Tryd.ntmps72
    go_wp2_with (first | simp only [hc] | (go_at_call 85; ((with_reducible refine (t85 _ _).mono ?_); rintro e w' ⟨rfl, rfl⟩)))
    all_goals (go_ret; simp_all [FloatKind.format])
  · unfold nanF bigF lowF at hb
    go_enter Tryd.func72, Tryd.ntmps72
    go_wp2_with (first | (go_at_call 85; ((with_reducible refine (t85 _ _).mono ?_); rintro e w' ⟨rfl, rfl⟩)))
    all_goals first | (go_ret; simp_all [FloatKind.format, tiV, nanF, bigF, lowF]; done) | (exfalso; simp_all [FloatKind.format]; done)
end Go.Proofs.YthenglaoolmajaaDoor
