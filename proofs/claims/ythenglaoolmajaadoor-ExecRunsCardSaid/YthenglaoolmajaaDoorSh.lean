/- The program's functions as plain Lean functions over the evaluator's operations, each tied to the program's own code by an equation. -/
import Derived.Test.YthenglaoolmajaaDoorProg
import Derived.Test.YthenglaoolmajaaDoorEvUse
import Derived.KernelRfl
namespace Go.Proofs.YthenglaoolmajaaDoor
open Go Go.Ev
set_option maxRecDepth 100000
set_option linter.unusedVariables false
def shapesC : List Value := [.string ⟨#[]⟩, .string ⟨#[]⟩, .string ⟨#[97, 98, 99]⟩, .string ⟨#[97, 98, 105]⟩, .string ⟨#[97, 105]⟩, .string ⟨#[97, 105, 98]⟩, .string ⟨#[65, 105, 98]⟩, .string ⟨#[97, 98, 105]⟩, .string ⟨#[97, 105]⟩, .string ⟨#[65, 66, 67]⟩, .string ⟨#[65, 66]⟩, .string ⟨#[97, 66, 67]⟩, .string ⟨#[97, 66]⟩, .string ⟨#[65, 98]⟩, .string ⟨#[65, 98, 99]⟩, .string ⟨#[97, 105]⟩]
def TAB : Map Blk := Map.lf.put 1 (some (.ro shapesC))
instance tabs : Tabs := ⟨4, TAB⟩
/-- gosem.cut.init -/
noncomputable def s2 (C : Cl) (n : Nat)  (H : Hp) : R :=
 callK (C 1 [] H) pnK fun t0 H1 =>
 some (.ret (.tuple #[]), H1)
def lv2 : List (Option An) := []
theorem s2_eq (C : Cl) (n : Nat)  (H : Hp) : evFn Tryd.prog C n lv2 Tryd.f2 [] H = s2 C n  H := by kernel_rfl
/-- bulkhead/bulkheadlaw04.CodeWords -/
noncomputable def s3 (C : Cl) (n : Nat) (x0 : Value) (x1 : Value) (x2 : Value) (H : Hp) : R :=
 (bx x1).bind fun c2 =>
 let H1 := H.new (.rw c2)
 (ldN 5 (ptr H.next 0) H1).bind fun t16 =>
 callK (C 9 [t16] H1) pnK fun t17 H3 =>
 (ext1 t17 0).bind fun t18 =>
 (ext1 t17 1).bind fun t19 =>
 (ldN 5 (ptr H.next 0) H3).bind fun t21 =>
 callK (C 10 [t21] H3) pnK fun t22 H4 =>
 (ext1 t22 0).bind fun t23 =>
 (ext1 t22 1).bind fun t24 =>
 callK (C 11 [x2] H4) pnK fun t27 H5 =>
 (ext1 t27 0).bind fun t28 =>
 (ext1 t27 1).bind fun t29 =>
 let H6 := H5.new (.rw [(.int .i64 0), (.int .i64 0), (.int .i64 0), (.int .i64 0), (.int .i64 0)])
 (st 5 (ptr H5.next 0) t28 H6).bind fun H7 =>
 callK (C 12 [x2] H7) pnK fun t32 H8 =>
 (ext1 t32 0).bind fun t33 =>
 (ext1 t32 1).bind fun t34 =>
 let H9 := H8.new (.rw [(.int .i64 0), (.int .i64 0), (.int .i64 0), (.int .i64 0), (.int .i64 0)])
 (st 5 (ptr H8.next 0) t33 H9).bind fun H10 =>
 (bin 0 .eql t18 t23).bind fun t37 =>
 (ifG t37 true (some (t19, H10)) (some (undef, H10))).bind fun p11 =>
 (ifG t37 true (some (t24, p11.2)) (some (undef, p11.2))).bind fun p12 =>
 (ifG t37 true ((bin 0 .eql p11.1 p12.1).bind fun t41 =>
 some (t41, p12.2)) (some (undef, p12.2))).bind fun p13 =>
 (pick t37 p13.1 (.bool false)).bind fun t42 =>
 (ifG t42 true ((ldN 5 (ptr H5.next 0) p13.2).bind fun t44 =>
 some (t44, p13.2)) (some (undef, p13.2))).bind fun p14 =>
 (ifG t42 true ((ldN 5 (ptr H8.next 0) p14.2).bind fun t45 =>
 some (t45, p14.2)) (some (undef, p14.2))).bind fun p15 =>
 (ifG t42 true ((beqA [0, 0, 0, 0, 0] .eql p14.1 p15.1).bind fun t46 =>
 some (t46, p15.2)) (some (undef, p15.2))).bind fun p16 =>
 (pick t42 p16.1 (.bool false)).bind fun t47 =>
 (ifG t47 true (some (t29, p16.2)) (some (undef, p16.2))).bind fun p17 =>
 (ifG t47 true (some (t34, p17.2)) (some (undef, p17.2))).bind fun p18 =>
 (ifG t47 true ((bin 0 .eql p17.1 p18.1).bind fun t51 =>
 some (t51, p18.2)) (some (undef, p18.2))).bind fun p19 =>
 (pick t47 p19.1 (.bool false)).bind fun t52 =>
 (ifG t52 true (some (x0, p19.2)) (some (undef, p19.2))).bind fun p20 =>
 (ifG t52 true (callK (C 13 [p20.1] p20.2) pnN fun t55 H21 =>
 some (t55, H21)) (some (undef, p20.2))).bind fun p22 =>
 (ifG t52 true (some (x0, p22.2)) (some (undef, p22.2))).bind fun p23 =>
 (ifG t52 true (callK (C 14 [p23.1] p23.2) pnN fun t57 H24 =>
 some (t57, H24)) (some (undef, p23.2))).bind fun p25 =>
 (ifG t52 true ((bin 0 .eql p22.1 p25.1).bind fun t58 =>
 some (t58, p25.2)) (some (undef, p25.2))).bind fun p26 =>
 (pick t52 p26.1 (.bool false)).bind fun t59 =>
 (ifG t59 true (some (x0, p26.2)) (some (undef, p26.2))).bind fun p27 =>
 (ifG t59 true (callK (C 15 [p27.1] p27.2) pnN fun t62 H28 =>
 some (t62, H28)) (some (undef, p27.2))).bind fun p29 =>
 (ifG t59 true (some (x0, p29.2)) (some (undef, p29.2))).bind fun p30 =>
 (ifG t59 true (callK (C 16 [p30.1] p30.2) pnN fun t64 H31 =>
 some (t64, H31)) (some (undef, p30.2))).bind fun p32 =>
 (ifG t59 true ((bin 0 .eql p29.1 p32.1).bind fun t65 =>
 some (t65, p32.2)) (some (undef, p32.2))).bind fun p33 =>
 (pick t59 p33.1 (.bool false)).bind fun t66 =>
 (ifG t66 true (some (x0, p33.2)) (some (undef, p33.2))).bind fun p34 =>
 (ifG t66 true (callK (C 17 [p34.1] p34.2) pnN fun t69 H35 =>
 some (t69, H35)) (some (undef, p34.2))).bind fun p36 =>
 (ifG t66 true (some (x0, p36.2)) (some (undef, p36.2))).bind fun p37 =>
 (ifG t66 true (callK (C 18 [p37.1] p37.2) pnN fun t71 H38 =>
 some (t71, H38)) (some (undef, p37.2))).bind fun p39 =>
 (ifG t66 true ((bin 0 .eql p36.1 p39.1).bind fun t72 =>
 some (t72, p39.2)) (some (undef, p39.2))).bind fun p40 =>
 (pick t66 p40.1 (.bool false)).bind fun t73 =>
 (ifG t73 true (callK (C 19 [] p40.2) pnN fun t75 H41 =>
 some (t75, H41)) (some (undef, p40.2))).bind fun p42 =>
 (ifG t73 true ((bin 0 .eql p42.1 (.int .i64 20)).bind fun t76 =>
 some (t76, p42.2)) (some (undef, p42.2))).bind fun p43 =>
 (pick t73 p43.1 (.bool false)).bind fun t77 =>
 some (.ret t77, p43.2)
def lv3 : List (Option An) := []
theorem s3_eq (C : Cl) (n : Nat) (x0 : Value) (x1 : Value) (x2 : Value) (H : Hp) : evFn Tryd.prog C n lv3 Tryd.f3 [x0, x1, x2] H = s3 C n x0 x1 x2 H := by kernel_rfl
/-- bulkhead/bulkheadlaw08.ExecRuns -/
noncomputable def s5 (C : Cl) (n : Nat) (x0 : Value) (x1 : Value) (x2 : Value) (H : Hp) : R :=
 (bx x0).bind fun c2 =>
 let H1 := H.new (.rw c2)
 (ldN 25 (ptr H.next 0) H1.cl).bind fun t17 =>
 ((rdA (ptr H.next 0)).map fun c => [c]).bind fun r3 =>
 (ldN 25 (ptr H.next 0) H1.cl.cl).bind fun t18 =>
 let H4 := H1.cl.cl.cl.new (.rw [(.int .u32 0), (.int .u32 0), (.int .u32 0), (.int .u32 0), (.int .u32 0), (.int .u32 0), (.int .u32 0), (.int .u32 0), (.int .u32 0), (.int .u32 0), (.int .u32 0), (.int .u32 0), (.int .u32 0), (.int .u32 0), (.int .u32 0), (.int .u32 0), (.int .u64 0), (.int .u64 0), (.int .u64 0), (.int .u64 0), (.int .u64 0), (.int .u64 0), (.int .u64 0), (.int .u64 0), (.int .u32 0)])
 let H5 := H4.cl.new (.rw [(.int .u32 0), (.int .u32 0), (.int .u32 0), (.int .u32 0), (.int .u32 0), (.int .u32 0), (.int .u32 0), (.int .u32 0), (.int .u32 0), (.int .u32 0), (.int .u32 0), (.int .u32 0), (.int .u32 0), (.int .u32 0), (.int .u32 0), (.int .u32 0), (.int .u64 0), (.int .u64 0), (.int .u64 0), (.int .u64 0), (.int .u64 0), (.int .u64 0), (.int .u64 0), (.int .u64 0), (.int .u32 0)])
 (rdA (ptr H1.cl.cl.cl.next 0)).bind fun b6 => bif memN b6 (r3 ++ []) then none else (st 25 (ptr H1.cl.cl.cl.next 0) t17 (H5.cl.opn H1.lim)).bind fun H7 =>
 (st 25 (ptr H4.cl.next 0) t18 H7).bind fun H8 =>
 lp (fun vs9 H10 kn11 kx12 kr13 =>
 (len 1 (vs9.getD 0 dead) H10).bind fun t21 =>
 (bin 0 .lss (vs9.getD 4 dead) t21).bind fun t22 =>
 (ifG t22 true (some ((vs9.getD 4 dead), H10)) (some (undef, H10))).bind fun p14 =>
 (ifG t22 true ((bin 0 .lss p14.1 (.int .i64 300)).bind fun t25 =>
 some (t25, p14.2)) (some (undef, p14.2))).bind fun p15 =>
 (pick t22 p15.1 (.bool false)).bind fun t26 =>
 ifB t26 ((cvI .u64 (vs9.getD 4 dead)).bind fun t30 =>
 jn ((len 1 (vs9.getD 1 dead) p15.2).bind fun t33 =>
 (bin 0 .lss (vs9.getD 4 dead) t33).bind fun t34 =>
 ifB t34 ((sa 1 (vs9.getD 1 dead) (vs9.getD 4 dead)).bind fun t37 =>
 (ld t37 p15.2).bind fun t38 =>
 some (.nrm [(vs9.getD 0 dead), (vs9.getD 1 dead), (vs9.getD 2 dead), (vs9.getD 3 dead), (vs9.getD 4 dead), t38] p15.2)) (some (.nrm [(vs9.getD 0 dead), (vs9.getD 1 dead), (vs9.getD 2 dead), (vs9.getD 3 dead), (vs9.getD 4 dead), t30] p15.2))) pnK noX noR fun vs16 H17 =>
 (ldN 25 (vs16.getD 2 dead) H17.cl).bind fun t40 =>
 (sa 5 (vs16.getD 0 dead) (vs16.getD 4 dead)).bind fun t43 =>
 (ldN 5 t43 H17.cl.cl.cl.cl.cl).bind fun t44 =>
 callK (C 20 [t40, t44, (vs16.getD 5 dead)] H17.cl.cl.cl.cl.cl.cl.cl) pnN fun t46 H18 =>
 (ext1 t46 0).bind fun t47 =>
 (ext1 t46 1).bind fun t48 =>
 (ext1 t46 2).bind fun t49 =>
 let H19 := H18.cl.cl.cl.cl.cl.new (.rw [(.int .u32 0), (.int .u32 0), (.int .u32 0), (.int .u32 0), (.int .u32 0), (.int .u32 0), (.int .u32 0), (.int .u32 0), (.int .u32 0), (.int .u32 0), (.int .u32 0), (.int .u32 0), (.int .u32 0), (.int .u32 0), (.int .u32 0), (.int .u32 0), (.int .u64 0), (.int .u64 0), (.int .u64 0), (.int .u64 0), (.int .u64 0), (.int .u64 0), (.int .u64 0), (.int .u64 0), (.int .u32 0)])
 (rdA (ptr H18.cl.cl.cl.cl.cl.next 0)).bind fun b20 => bif memN b20 [] then none else (st 25 (ptr H18.cl.cl.cl.cl.cl.next 0) t47 (H19.cl.cl.opn H17.lim)).bind fun H21 =>
 (ldN 25 (vs16.getD 3 dead) H21.cl).bind fun t51 =>
 (sa 5 (vs16.getD 0 dead) (vs16.getD 4 dead)).bind fun t54 =>
 (ldN 5 t54 H21.cl.cl.cl.cl.cl).bind fun t55 =>
 callK (C 21 [t51, t55, (vs16.getD 5 dead)] H21.cl.cl.cl.cl.cl.cl.cl) pnN fun t57 H22 =>
 (ext1 t57 0).bind fun t58 =>
 (ext1 t57 1).bind fun t59 =>
 (ext1 t57 2).bind fun t60 =>
 let H23 := H22.cl.cl.cl.cl.cl.new (.rw [(.int .u32 0), (.int .u32 0), (.int .u32 0), (.int .u32 0), (.int .u32 0), (.int .u32 0), (.int .u32 0), (.int .u32 0), (.int .u32 0), (.int .u32 0), (.int .u32 0), (.int .u32 0), (.int .u32 0), (.int .u32 0), (.int .u32 0), (.int .u32 0), (.int .u64 0), (.int .u64 0), (.int .u64 0), (.int .u64 0), (.int .u64 0), (.int .u64 0), (.int .u64 0), (.int .u64 0), (.int .u32 0)])
 (rdA (ptr H22.cl.cl.cl.cl.cl.next 0)).bind fun b24 => bif memN b24 [] then none else (st 25 (ptr H22.cl.cl.cl.cl.cl.next 0) t58 (H23.cl.cl.opn H21.lim)).bind fun H25 =>
 (ldN 25 (ptr H18.cl.cl.cl.cl.cl.next 0) H25).bind fun t61 =>
 (ldN 25 (ptr H22.cl.cl.cl.cl.cl.next 0) H25).bind fun t62 =>
 (beqA [0, 0, 0, 0, 0, 0, 0, 0, 0, 0, 0, 0, 0, 0, 0, 0, 0, 0, 0, 0, 0, 0, 0, 0, 0] .neq t61 t62).bind fun t63 =>
 (ifG t63 false (some (t48, H25)) (some (undef, H25))).bind fun p26 =>
 (ifG t63 false (some (t59, p26.2)) (some (undef, p26.2))).bind fun p27 =>
 (ifG t63 false ((bin 0 .neq p26.1 p27.1).bind fun t67 =>
 some (t67, p27.2)) (some (undef, p27.2))).bind fun p28 =>
 (pick t63 (.bool true) p28.1).bind fun t68 =>
 (ifG t68 false (some (t49, p28.2)) (some (undef, p28.2))).bind fun p29 =>
 (ifG t68 false (some (t60, p29.2)) (some (undef, p29.2))).bind fun p30 =>
 (ifG t68 false ((bin 0 .neq p29.1 p30.1).bind fun t72 =>
 some (t72, p30.2)) (some (undef, p30.2))).bind fun p31 =>
 (pick t68 (.bool true) p31.1).bind fun t73 =>
 ifB t73 (kr13 (Fr.of [6, 7, 8] [(.bool false), (vs16.getD 2 dead), (vs16.getD 3 dead)]) p31.2) ((ldN 25 (ptr H18.cl.cl.cl.cl.cl.next 0) p31.2).bind fun t74 =>
 (st 25 (vs16.getD 2 dead) t74 p31.2).bind fun H32 =>
 (ldN 25 (ptr H22.cl.cl.cl.cl.cl.next 0) H32).bind fun t75 =>
 (st 25 (vs16.getD 3 dead) t75 H32).bind fun H33 =>
 (bin 0 .add (vs16.getD 4 dead) (.int .i64 1)).bind fun t28 =>
 kn11 [(vs16.getD 0 dead), (vs16.getD 1 dead), (vs16.getD 2 dead), (vs16.getD 3 dead), t28] H33)) (kx12 0 (Fr.of [6, 7, 8] [((Fr.of [1, 2, 7, 8, 9] vs9).g 6), (vs9.getD 2 dead), (vs9.getD 3 dead)]) p15.2)) n [x1, x2, (ptr H1.cl.cl.cl.next 0), (ptr H4.cl.next 0), (.int .i64 0)] H8 (fun j34 f35 H36 => if j34 = 0 then (ldN 25 (f35.g 7) H36).bind fun t76 =>
 (ldN 25 (f35.g 8) H36).bind fun t77 =>
 (beqA [0, 0, 0, 0, 0, 0, 0, 0, 0, 0, 0, 0, 0, 0, 0, 0, 0, 0, 0, 0, 0, 0, 0, 0, 0] .eql t76 t77).bind fun t78 =>
 some (.ret t78, H36) else none) (fun f37 H38 => some (.ret (f37.g 6), H38))
def lv5 : List (Option An) := [none, none, none, none, some ⟨[1, 2, 7, 8, 9], [6, 7, 8], true, true⟩, none, none, none, none, some ⟨[1, 2, 7, 8, 9, 10], [], false, false⟩]
theorem s5_eq (C : Cl) (n : Nat) (x0 : Value) (x1 : Value) (x2 : Value) (H : Hp) : evFn Tryd.prog C n lv5 Tryd.f5 [x0, x1, x2] H = s5 C n x0 x1 x2 H := by kernel_rfl
/-- bulkhead/code.Encode -/
noncomputable def s9 (C : Cl) (n : Nat) (x0 : Value) (H : Hp) : R :=
 (bx x0).bind fun c2 =>
 let H1 := H.new (.rw c2)
 (ldN 5 (ptr H.next 0) H1).bind fun t6 =>
 callK (C 25 [t6] H1) pnK fun t7 H3 =>
 (bin 0 .neq t7 (.int .i64 0)).bind fun t9 =>
 ifB t9 (some (.ret (.tuple #[(.int .u32 0), t7]), H3)) ((fa 0 (ptr H.next 0)).bind fun t11 =>
 (ld t11 H3).bind fun t12 =>
 (cvI .u32 t12).bind fun t13 =>
 (bin 0 .shl t13 (.int .u64 24)).bind fun t14 =>
 (fa 1 (ptr H.next 0)).bind fun t15 =>
 (ld t15 H3).bind fun t16 =>
 (cvI .u32 t16).bind fun t17 =>
 (bin 0 .shl t17 (.int .u64 20)).bind fun t18 =>
 (bin 0 .or t14 t18).bind fun t19 =>
 (fa 2 (ptr H.next 0)).bind fun t20 =>
 (ld t20 H3).bind fun t21 =>
 (cvI .u32 t21).bind fun t22 =>
 (bin 0 .shl t22 (.int .u64 16)).bind fun t23 =>
 (bin 0 .or t19 t23).bind fun t24 =>
 (fa 0 (ptr H.next 0)).bind fun t25 =>
 (ld t25 H3).bind fun t26 =>
 callK (C 26 [t26] H3) pnK fun t27 H4 =>
 ifB t27 ((fa 4 (ptr H.next 0)).bind fun t29 =>
 (ld t29 H4).bind fun t30 =>
 (cvI .u32 t30).bind fun t31 =>
 (bin 0 .and t31 (.int .u32 65535)).bind fun t32 =>
 (bin 0 .or t24 t32).bind fun t33 =>
 some (.ret (.tuple #[t33, (.int .i64 0)]), H4)) ((fa 3 (ptr H.next 0)).bind fun t35 =>
 (ld t35 H4).bind fun t36 =>
 (cvI .u32 t36).bind fun t37 =>
 (bin 0 .shl t37 (.int .u64 12)).bind fun t38 =>
 (bin 0 .or t24 t38).bind fun t39 =>
 some (.ret (.tuple #[t39, (.int .i64 0)]), H4)))
def lv9 : List (Option An) := []
theorem s9_eq (C : Cl) (n : Nat) (x0 : Value) (H : Hp) : evFn Tryd.prog C n lv9 Tryd.f9 [x0] H = s9 C n x0 H := by kernel_rfl
/-- bulkhead/bulkheadref04.Encode -/
noncomputable def s10 (C : Cl) (n : Nat) (x0 : Value) (H : Hp) : R :=
 (bx x0).bind fun c2 =>
 let H1 := H.new (.rw c2)
 (ldN 5 (ptr H.next 0) H1).bind fun t5 =>
 callK (C 27 [t5] H1) pnK fun t6 H3 =>
 (bin 0 .neq t6 (.int .i64 0)).bind fun t8 =>
 ifB t8 (some (.ret (.tuple #[(.int .u32 0), t6]), H3)) ((fa 0 (ptr H.next 0)).bind fun t10 =>
 (ld t10 H3).bind fun t11 =>
 (cvI .u32 t11).bind fun t12 =>
 (bin 0 .shl t12 (.int .u64 24)).bind fun t13 =>
 (fa 1 (ptr H.next 0)).bind fun t14 =>
 (ld t14 H3).bind fun t15 =>
 (cvI .u32 t15).bind fun t16 =>
 (bin 0 .shl t16 (.int .u64 20)).bind fun t17 =>
 (bin 0 .or t13 t17).bind fun t18 =>
 (fa 2 (ptr H.next 0)).bind fun t19 =>
 (ld t19 H3).bind fun t20 =>
 (cvI .u32 t20).bind fun t21 =>
 (bin 0 .shl t21 (.int .u64 16)).bind fun t22 =>
 (bin 0 .or t18 t22).bind fun t23 =>
 (fa 3 (ptr H.next 0)).bind fun t24 =>
 (ld t24 H3).bind fun t25 =>
 (cvI .u32 t25).bind fun t26 =>
 (bin 0 .shl t26 (.int .u64 12)).bind fun t27 =>
 (bin 0 .or t23 t27).bind fun t28 =>
 (fa 4 (ptr H.next 0)).bind fun t29 =>
 (ld t29 H3).bind fun t30 =>
 (cvI .u32 t30).bind fun t31 =>
 (bin 0 .and t31 (.int .u32 65535)).bind fun t32 =>
 (bin 0 .or t28 t32).bind fun t33 =>
 some (.ret (.tuple #[t33, (.int .i64 0)]), H3))
def lv10 : List (Option An) := []
theorem s10_eq (C : Cl) (n : Nat) (x0 : Value) (H : Hp) : evFn Tryd.prog C n lv10 Tryd.f10 [x0] H = s10 C n x0 H := by kernel_rfl
/-- bulkhead/code.Decode -/
noncomputable def s11 (C : Cl) (n : Nat) (x0 : Value) (H : Hp) : R :=
 let H1 := H.new (.rw [(.int .i64 0), (.int .i64 0), (.int .i64 0), (.int .i64 0), (.int .i64 0)])
 (bin 0 .shr x0 (.int .u64 24)).bind fun t10 =>
 (cvI .i64 t10).bind fun t11 =>
 (bin 0 .shr x0 (.int .u64 20)).bind fun t13 =>
 (bin 0 .and t13 (.int .u32 15)).bind fun t14 =>
 (cvI .i64 t14).bind fun t15 =>
 (bin 0 .shr x0 (.int .u64 16)).bind fun t17 =>
 (bin 0 .and t17 (.int .u32 15)).bind fun t18 =>
 (cvI .i64 t18).bind fun t19 =>
 (fillL (pl [(0, 1), (1, 1), (2, 1), (3, 1), (4, 1)]) [(.int .i64 0), (.int .i64 0), (.int .i64 0), (.int .i64 0), (.int .i64 0)] [(0, t11), (1, t15), (2, t19)]).bind fun c2 =>
 let H3 := H1.new (.rw [(.int .i64 0), (.int .i64 0), (.int .i64 0), (.int .i64 0), (.int .i64 0)])
 (st 5 (ptr H1.next 0) (.agg c2.toArray) H3).bind fun H4 =>
 (fa 0 (ptr H1.next 0)).bind fun t21 =>
 (ld t21 H4).bind fun t22 =>
 callK (C 15 [t22] H4) pnK fun t23 H5 =>
 (bin 0 .eql t23 (.int .i64 0)).bind fun t24 =>
 ifB t24 ((fillL (pl [(0, 1), (1, 1), (2, 1), (3, 1), (4, 1)]) [(.int .i64 0), (.int .i64 0), (.int .i64 0), (.int .i64 0), (.int .i64 0)] []).bind fun c6 =>
 (st 5 (ptr H.next 0) (.agg c6.toArray) H5).bind fun H7 =>
 (ldN 5 (ptr H.next 0) H7).bind fun r8 =>
 some (.ret (.tuple #[r8, (.int .i64 5)]), H7)) (jn ((fa 0 (ptr H1.next 0)).bind fun t26 =>
 (ld t26 H5).bind fun t27 =>
 callK (C 26 [t27] H5) pnJ fun t28 H11 =>
 ifB t28 ((bin 0 .and x0 (.int .u32 65535)).bind fun t30 =>
 (cvI .i64 t30).bind fun t31 =>
 (fa 4 (ptr H1.next 0)).bind fun t32 =>
 (st 1 t32 t31 H11).bind fun H12 =>
 (fa 0 (ptr H1.next 0)).bind fun t34 =>
 (ld t34 H12).bind fun t35 =>
 callK (C 28 [t35] H12) pnJ fun t36 H13 =>
 (ext1 t36 0).bind fun t37 =>
 (ext1 t36 1).bind fun t38 =>
 (bin 0 .lss t37 (.int .i64 0)).bind fun t40 =>
 ifB t40 ((cvI .i16 x0).bind fun t42 =>
 (cvI .i64 t42).bind fun t43 =>
 (fa 4 (ptr H1.next 0)).bind fun t44 =>
 (st 1 t44 t43 H13).bind fun H14 =>
 some (.nrm [x0, (ptr H.next 0), (ptr H1.next 0)] H14)) (some (.nrm [x0, (ptr H.next 0), (ptr H1.next 0)] H13))) ((bin 0 .shr x0 (.int .u64 12)).bind fun t46 =>
 (bin 0 .and t46 (.int .u32 15)).bind fun t47 =>
 (cvI .i64 t47).bind fun t48 =>
 (fa 3 (ptr H1.next 0)).bind fun t49 =>
 (st 1 t49 t48 H11).bind fun H15 =>
 some (.nrm [x0, (ptr H.next 0), (ptr H1.next 0)] H15))) pnK noX noR fun vs9 H10 =>
 (ldN 5 (vs9.getD 2 dead) H10).bind fun t51 =>
 callK (C 9 [t51] H10) pnK fun t52 H16 =>
 (ext1 t52 0).bind fun t53 =>
 (ext1 t52 1).bind fun t54 =>
 (bin 0 .neq t54 (.int .i64 0)).bind fun t56 =>
 (ifG t56 false (some (t53, H16)) (some (undef, H16))).bind fun p17 =>
 (ifG t56 false (some ((vs9.getD 0 dead), p17.2)) (some (undef, p17.2))).bind fun p18 =>
 (ifG t56 false ((bin 0 .neq p17.1 p18.1).bind fun t60 =>
 some (t60, p18.2)) (some (undef, p18.2))).bind fun p19 =>
 (pick t56 (.bool true) p19.1).bind fun t61 =>
 ifB t61 ((fillL (pl [(0, 1), (1, 1), (2, 1), (3, 1), (4, 1)]) [(.int .i64 0), (.int .i64 0), (.int .i64 0), (.int .i64 0), (.int .i64 0)] []).bind fun c20 =>
 (st 5 (vs9.getD 1 dead) (.agg c20.toArray) p19.2).bind fun H21 =>
 (ldN 5 (vs9.getD 1 dead) H21).bind fun r22 =>
 some (.ret (.tuple #[r22, (.int .i64 6)]), H21)) ((ldN 5 (vs9.getD 2 dead) p19.2).bind fun t63 =>
 (st 5 (vs9.getD 1 dead) t63 p19.2).bind fun H23 =>
 (ldN 5 (vs9.getD 1 dead) H23).bind fun r24 =>
 some (.ret (.tuple #[r24, (.int .i64 0)]), H23)))
def lv11 : List (Option An) := [none, none, none, none, none, some ⟨[0, 2, 4], [], false, false⟩]
theorem s11_eq (C : Cl) (n : Nat) (x0 : Value) (H : Hp) : evFn Tryd.prog C n lv11 Tryd.f11 [x0] H = s11 C n x0 H := by kernel_rfl
/-- bulkhead/bulkheadref04.Decode -/
noncomputable def s12 (C : Cl) (n : Nat) (x0 : Value) (H : Hp) : R :=
 let H1 := H.new (.rw [(.int .i64 0), (.int .i64 0), (.int .i64 0), (.int .i64 0), (.int .i64 0)])
 (bin 0 .shr x0 (.int .u64 24)).bind fun t10 =>
 (cvI .i64 t10).bind fun t11 =>
 (bin 0 .shr x0 (.int .u64 20)).bind fun t13 =>
 (bin 0 .and t13 (.int .u32 15)).bind fun t14 =>
 (cvI .i64 t14).bind fun t15 =>
 (bin 0 .shr x0 (.int .u64 16)).bind fun t17 =>
 (bin 0 .and t17 (.int .u32 15)).bind fun t18 =>
 (cvI .i64 t18).bind fun t19 =>
 (fillL (pl [(0, 1), (1, 1), (2, 1), (3, 1), (4, 1)]) [(.int .i64 0), (.int .i64 0), (.int .i64 0), (.int .i64 0), (.int .i64 0)] [(0, t11), (1, t15), (2, t19)]).bind fun c2 =>
 let H3 := H1.new (.rw [(.int .i64 0), (.int .i64 0), (.int .i64 0), (.int .i64 0), (.int .i64 0)])
 (st 5 (ptr H1.next 0) (.agg c2.toArray) H3).bind fun H4 =>
 (fa 0 (ptr H1.next 0)).bind fun t21 =>
 (ld t21 H4).bind fun t22 =>
 callK (C 16 [t22] H4) pnK fun t23 H5 =>
 (bin 0 .eql t23 (.int .i64 0)).bind fun t25 =>
 ifB t25 ((fillL (pl [(0, 1), (1, 1), (2, 1), (3, 1), (4, 1)]) [(.int .i64 0), (.int .i64 0), (.int .i64 0), (.int .i64 0), (.int .i64 0)] []).bind fun c6 =>
 (st 5 (ptr H.next 0) (.agg c6.toArray) H5).bind fun H7 =>
 (ldN 5 (ptr H.next 0) H7).bind fun r8 =>
 some (.ret (.tuple #[r8, (.int .i64 5)]), H7)) (callK (C 29 [t23] H5) pnK fun t28 H9 =>
 jn ((len 0 t28 H9).bind fun t30 =>
 (bin 0 .gtr t30 (.int .i64 0)).bind fun t31 =>
 (ifG t31 true (some (t28, H9)) (some (undef, H9))).bind fun p12 =>
 (ifG t31 true (some (t28, p12.2)) (some (undef, p12.2))).bind fun p13 =>
 (ifG t31 true ((len 0 p13.1 p13.2).bind fun t35 =>
 some (t35, p13.2)) (some (undef, p13.2))).bind fun p14 =>
 (ifG t31 true ((bin 0 .sub p14.1 (.int .i64 1)).bind fun t36 =>
 some (t36, p14.2)) (some (undef, p14.2))).bind fun p15 =>
 (ifG t31 true ((sx p12.1 p15.1).bind fun t37 =>
 some (t37, p15.2)) (some (undef, p15.2))).bind fun p16 =>
 (ifG t31 true ((bin 0 .eql p16.1 (.int .u8 105)).bind fun t38 =>
 some (t38, p16.2)) (some (undef, p16.2))).bind fun p17 =>
 (pick t31 p17.1 (.bool false)).bind fun t39 =>
 ifB t39 ((bin 0 .and x0 (.int .u32 65535)).bind fun t41 =>
 (cvI .i64 t41).bind fun t42 =>
 (fa 4 (ptr H1.next 0)).bind fun t43 =>
 (st 1 t43 t42 p17.2).bind fun H18 =>
 (fa 4 (ptr H1.next 0)).bind fun t44 =>
 (ld t44 H18).bind fun t45 =>
 (bin 0 .geq t45 (.int .i64 32768)).bind fun t46 =>
 (ifG t46 true ((fa 0 (ptr H1.next 0)).bind fun t48 =>
 some (t48, H18)) (some (undef, H18))).bind fun p19 =>
 (ifG t46 true ((ld p19.1 p19.2).bind fun t49 =>
 some (t49, p19.2)) (some (undef, p19.2))).bind fun p20 =>
 (ifG t46 true ((fa 4 (ptr H1.next 0)).bind fun t50 =>
 some (t50, p20.2)) (some (undef, p20.2))).bind fun p21 =>
 (ifG t46 true ((ld p21.1 p21.2).bind fun t51 =>
 some (t51, p21.2)) (some (undef, p21.2))).bind fun p22 =>
 (ifG t46 true (callK (C 30 [p20.1, p22.1] p22.2) pnN fun t52 H23 =>
 some (t52, H23)) (some (undef, p22.2))).bind fun p24 =>
 (ifG t46 true ((un .not p24.1).bind fun t53 =>
 some (t53, p24.2)) (some (undef, p24.2))).bind fun p25 =>
 (pick t46 p25.1 (.bool false)).bind fun t54 =>
 ifB t54 ((fa 4 (ptr H1.next 0)).bind fun t55 =>
 (ld t55 p25.2).bind fun t56 =>
 (bin 0 .sub t56 (.int .i64 65536)).bind fun t57 =>
 (fa 4 (ptr H1.next 0)).bind fun t58 =>
 (st 1 t58 t57 p25.2).bind fun H26 =>
 some (.nrm [x0, (ptr H.next 0), (ptr H1.next 0)] H26)) (some (.nrm [x0, (ptr H.next 0), (ptr H1.next 0)] p25.2))) ((bin 0 .shr x0 (.int .u64 12)).bind fun t60 =>
 (bin 0 .and t60 (.int .u32 15)).bind fun t61 =>
 (cvI .i64 t61).bind fun t62 =>
 (fa 3 (ptr H1.next 0)).bind fun t63 =>
 (st 1 t63 t62 p17.2).bind fun H27 =>
 some (.nrm [x0, (ptr H.next 0), (ptr H1.next 0)] H27))) pnK noX noR fun vs10 H11 =>
 (ldN 5 (vs10.getD 2 dead) H11).bind fun t65 =>
 callK (C 10 [t65] H11) pnK fun t66 H28 =>
 (ext1 t66 0).bind fun t67 =>
 (ext1 t66 1).bind fun t68 =>
 (bin 0 .neq t68 (.int .i64 0)).bind fun t70 =>
 (ifG t70 false (some (t67, H28)) (some (undef, H28))).bind fun p29 =>
 (ifG t70 false (some ((vs10.getD 0 dead), p29.2)) (some (undef, p29.2))).bind fun p30 =>
 (ifG t70 false ((bin 0 .neq p29.1 p30.1).bind fun t74 =>
 some (t74, p30.2)) (some (undef, p30.2))).bind fun p31 =>
 (pick t70 (.bool true) p31.1).bind fun t75 =>
 ifB t75 ((fillL (pl [(0, 1), (1, 1), (2, 1), (3, 1), (4, 1)]) [(.int .i64 0), (.int .i64 0), (.int .i64 0), (.int .i64 0), (.int .i64 0)] []).bind fun c32 =>
 (st 5 (vs10.getD 1 dead) (.agg c32.toArray) p31.2).bind fun H33 =>
 (ldN 5 (vs10.getD 1 dead) H33).bind fun r34 =>
 some (.ret (.tuple #[r34, (.int .i64 6)]), H33)) ((ldN 5 (vs10.getD 2 dead) p31.2).bind fun t77 =>
 (st 5 (vs10.getD 1 dead) t77 p31.2).bind fun H35 =>
 (ldN 5 (vs10.getD 1 dead) H35).bind fun r36 =>
 some (.ret (.tuple #[r36, (.int .i64 0)]), H35)))
def lv12 : List (Option An) := [none, none, none, none, none, none, none, some ⟨[0, 2, 4], [], false, false⟩]
theorem s12_eq (C : Cl) (n : Nat) (x0 : Value) (H : Hp) : evFn Tryd.prog C n lv12 Tryd.f12 [x0] H = s12 C n x0 H := by kernel_rfl
/-- bulkhead/code.Cost -/
noncomputable def s13 (C : Cl) (n : Nat) (x0 : Value) (H : Hp) : R :=
 callK (C 31 [x0] H) pnK fun t4 H1 =>
 (fld false 1 2 t4).bind fun t5 =>
 some (.ret t5, H1)
def lv13 : List (Option An) := []
theorem s13_eq (C : Cl) (n : Nat) (x0 : Value) (H : Hp) : evFn Tryd.prog C n lv13 Tryd.f13 [x0] H = s13 C n x0 H := by kernel_rfl
/-- bulkhead/bulkheadref04.Cost -/
noncomputable def s14 (C : Cl) (n : Nat) (x0 : Value) (H : Hp) : R :=
 jn ((bin 0 .eql x0 (.int .i64 67)).bind fun t5 =>
 ifB t5 (some (.nrm [x0, x0, t5] H)) ((bin 0 .eql x0 (.int .i64 46)).bind fun t6 =>
 ifB t6 (some (.nrm [x0, x0, t6] H)) ((bin 0 .eql x0 (.int .i64 47)).bind fun t7 =>
 ifB t7 (some (.nrm [x0, x0, t7] H)) ((bin 0 .eql x0 (.int .i64 36)).bind fun t8 =>
 ifB t8 (some (.nrm [x0, x0, t8] H)) ((bin 0 .eql x0 (.int .i64 37)).bind fun t9 =>
 some (.nrm [x0, x0, t9] H)))))) pnK noX noR fun vs1 H2 =>
 ifB (vs1.getD 2 dead) (some (.ret (.int .i64 4), H2)) (jn ((bin 0 .eql (vs1.getD 1 dead) (.int .i64 4)).bind fun t11 =>
 ifB t11 (some (.nrm [(vs1.getD 0 dead), (vs1.getD 1 dead), t11] H2)) ((bin 0 .eql (vs1.getD 1 dead) (.int .i64 5)).bind fun t12 =>
 some (.nrm [(vs1.getD 0 dead), (vs1.getD 1 dead), t12] H2))) pnK noX noR fun vs3 H4 =>
 ifB (vs3.getD 2 dead) (some (.ret (.int .i64 3), H4)) (jn ((bin 0 .eql (vs3.getD 1 dead) (.int .i64 6)).bind fun t14 =>
 ifB t14 (some (.nrm [(vs3.getD 0 dead), (vs3.getD 1 dead), t14] H4)) ((bin 0 .eql (vs3.getD 1 dead) (.int .i64 7)).bind fun t15 =>
 ifB t15 (some (.nrm [(vs3.getD 0 dead), (vs3.getD 1 dead), t15] H4)) ((bin 0 .eql (vs3.getD 1 dead) (.int .i64 8)).bind fun t16 =>
 ifB t16 (some (.nrm [(vs3.getD 0 dead), (vs3.getD 1 dead), t16] H4)) ((bin 0 .eql (vs3.getD 1 dead) (.int .i64 9)).bind fun t17 =>
 some (.nrm [(vs3.getD 0 dead), (vs3.getD 1 dead), t17] H4))))) pnK noX noR fun vs5 H6 =>
 ifB (vs5.getD 2 dead) (some (.ret (.int .i64 12), H6)) (jn ((bin 0 .eql (vs5.getD 1 dead) (.int .i64 45)).bind fun t19 =>
 ifB t19 (some (.nrm [(vs5.getD 0 dead), (vs5.getD 1 dead), t19] H6)) ((bin 0 .eql (vs5.getD 1 dead) (.int .i64 44)).bind fun t20 =>
 some (.nrm [(vs5.getD 0 dead), (vs5.getD 1 dead), t20] H6))) pnK noX noR fun vs7 H8 =>
 ifB (vs7.getD 2 dead) (some (.ret (.int .i64 2), H8)) ((bin 0 .eql (vs7.getD 1 dead) (.int .i64 48)).bind fun t22 =>
 ifB t22 (some (.ret (.int .i64 5), H8)) ((bin 0 .eql (vs7.getD 1 dead) (.int .i64 49)).bind fun t24 =>
 ifB t24 (some (.ret (.int .i64 16), H8)) ((bin 0 .eql (vs7.getD 1 dead) (.int .i64 50)).bind fun t26 =>
 ifB t26 (some (.ret (.int .i64 20), H8)) (callK (C 16 [(vs7.getD 0 dead)] H8) pnK fun t28 H9 =>
 (bin 0 .eql t28 (.int .i64 0)).bind fun t30 =>
 ifB t30 (some (.ret (.int .i64 0), H9)) (jn ((bin 0 .eql t28 (.int .i64 1)).bind fun t32 =>
 ifB t32 (some (.nrm [t28, t32] H9)) ((bin 0 .eql t28 (.int .i64 2)).bind fun t33 =>
 ifB t33 (some (.nrm [t28, t33] H9)) ((bin 0 .eql t28 (.int .i64 3)).bind fun t34 =>
 ifB t34 (some (.nrm [t28, t34] H9)) ((bin 0 .eql t28 (.int .i64 4)).bind fun t35 =>
 some (.nrm [t28, t35] H9))))) pnK noX noR fun vs10 H11 =>
 ifB (vs10.getD 1 dead) (some (.ret (.int .i64 1), H11)) ((bin 0 .eql (vs10.getD 0 dead) (.int .i64 5)).bind fun t37 =>
 ifB t37 (some (.ret (.int .i64 3), H11)) (some (.ret (.int .i64 2), H11)))))))))))
def lv14 : List (Option An) := [none, none, none, some ⟨[0, 3, 4], [], false, false⟩, none, none, none, none, none, some ⟨[0, 3, 10], [], false, false⟩, none, none, some ⟨[0, 3, 13], [], false, false⟩, none, none, none, none, some ⟨[0, 3, 18], [], false, false⟩, none, none, none, none, none, none, none, none, none, none, none, none, some ⟨[28, 31], [], false, false⟩]
theorem s14_eq (C : Cl) (n : Nat) (x0 : Value) (H : Hp) : evFn Tryd.prog C n lv14 Tryd.f14 [x0] H = s14 C n x0 H := by kernel_rfl
/-- bulkhead/code.Class -/
noncomputable def s15 (C : Cl) (n : Nat) (x0 : Value) (H : Hp) : R :=
 callK (C 31 [x0] H) pnK fun t4 H1 =>
 (fld false 1 1 t4).bind fun t5 =>
 some (.ret t5, H1)
def lv15 : List (Option An) := []
theorem s15_eq (C : Cl) (n : Nat) (x0 : Value) (H : Hp) : evFn Tryd.prog C n lv15 Tryd.f15 [x0] H = s15 C n x0 H := by kernel_rfl
/-- bulkhead/bulkheadref04.Form -/
noncomputable def s16 (C : Cl) (n : Nat) (x0 : Value) (H : Hp) : R :=
 jn ((bin 0 .eql x0 (.int .i64 1)).bind fun t5 =>
 ifB t5 (some (.nrm [x0, t5] H)) ((bin 0 .eql x0 (.int .i64 64)).bind fun t6 =>
 ifB t6 (some (.nrm [x0, t6] H)) ((bin 0 .eql x0 (.int .i64 65)).bind fun t7 =>
 ifB t7 (some (.nrm [x0, t7] H)) ((bin 0 .eql x0 (.int .i64 66)).bind fun t8 =>
 ifB t8 (some (.nrm [x0, t8] H)) ((bin 0 .eql x0 (.int .i64 70)).bind fun t9 =>
 ifB t9 (some (.nrm [x0, t9] H)) ((bin 0 .eql x0 (.int .i64 71)).bind fun t10 =>
 ifB t10 (some (.nrm [x0, t10] H)) ((bin 0 .eql x0 (.int .i64 67)).bind fun t11 =>
 some (.nrm [x0, t11] H)))))))) pnK noX noR fun vs1 H2 =>
 ifB (vs1.getD 1 dead) (some (.ret (.int .i64 1), H2)) (jn ((bin 0 .eql (vs1.getD 0 dead) (.int .i64 2)).bind fun t13 =>
 ifB t13 (some (.nrm [(vs1.getD 0 dead), t13] H2)) ((bin 0 .eql (vs1.getD 0 dead) (.int .i64 3)).bind fun t14 =>
 ifB t14 (some (.nrm [(vs1.getD 0 dead), t14] H2)) ((bin 0 .eql (vs1.getD 0 dead) (.int .i64 10)).bind fun t15 =>
 ifB t15 (some (.nrm [(vs1.getD 0 dead), t15] H2)) ((bin 0 .eql (vs1.getD 0 dead) (.int .i64 11)).bind fun t16 =>
 ifB t16 (some (.nrm [(vs1.getD 0 dead), t16] H2)) ((bin 0 .eql (vs1.getD 0 dead) (.int .i64 12)).bind fun t17 =>
 ifB t17 (some (.nrm [(vs1.getD 0 dead), t17] H2)) ((bin 0 .eql (vs1.getD 0 dead) (.int .i64 13)).bind fun t18 =>
 ifB t18 (some (.nrm [(vs1.getD 0 dead), t18] H2)) ((bin 0 .eql (vs1.getD 0 dead) (.int .i64 14)).bind fun t19 =>
 ifB t19 (some (.nrm [(vs1.getD 0 dead), t19] H2)) ((bin 0 .eql (vs1.getD 0 dead) (.int .i64 15)).bind fun t20 =>
 ifB t20 (some (.nrm [(vs1.getD 0 dead), t20] H2)) ((bin 0 .eql (vs1.getD 0 dead) (.int .i64 16)).bind fun t21 =>
 ifB t21 (some (.nrm [(vs1.getD 0 dead), t21] H2)) ((bin 0 .eql (vs1.getD 0 dead) (.int .i64 17)).bind fun t22 =>
 ifB t22 (some (.nrm [(vs1.getD 0 dead), t22] H2)) ((bin 0 .eql (vs1.getD 0 dead) (.int .i64 4)).bind fun t23 =>
 ifB t23 (some (.nrm [(vs1.getD 0 dead), t23] H2)) ((bin 0 .eql (vs1.getD 0 dead) (.int .i64 5)).bind fun t24 =>
 ifB t24 (some (.nrm [(vs1.getD 0 dead), t24] H2)) ((bin 0 .eql (vs1.getD 0 dead) (.int .i64 6)).bind fun t25 =>
 ifB t25 (some (.nrm [(vs1.getD 0 dead), t25] H2)) ((bin 0 .eql (vs1.getD 0 dead) (.int .i64 7)).bind fun t26 =>
 ifB t26 (some (.nrm [(vs1.getD 0 dead), t26] H2)) ((bin 0 .eql (vs1.getD 0 dead) (.int .i64 8)).bind fun t27 =>
 ifB t27 (some (.nrm [(vs1.getD 0 dead), t27] H2)) ((bin 0 .eql (vs1.getD 0 dead) (.int .i64 9)).bind fun t28 =>
 some (.nrm [(vs1.getD 0 dead), t28] H2))))))))))))))))) pnK noX noR fun vs3 H4 =>
 ifB (vs3.getD 1 dead) (some (.ret (.int .i64 2), H4)) (jn ((bin 0 .eql (vs3.getD 0 dead) (.int .i64 18)).bind fun t30 =>
 ifB t30 (some (.nrm [(vs3.getD 0 dead), t30] H4)) ((bin 0 .eql (vs3.getD 0 dead) (.int .i64 19)).bind fun t31 =>
 ifB t31 (some (.nrm [(vs3.getD 0 dead), t31] H4)) ((bin 0 .eql (vs3.getD 0 dead) (.int .i64 20)).bind fun t32 =>
 ifB t32 (some (.nrm [(vs3.getD 0 dead), t32] H4)) ((bin 0 .eql (vs3.getD 0 dead) (.int .i64 21)).bind fun t33 =>
 ifB t33 (some (.nrm [(vs3.getD 0 dead), t33] H4)) ((bin 0 .eql (vs3.getD 0 dead) (.int .i64 22)).bind fun t34 =>
 ifB t34 (some (.nrm [(vs3.getD 0 dead), t34] H4)) ((bin 0 .eql (vs3.getD 0 dead) (.int .i64 23)).bind fun t35 =>
 ifB t35 (some (.nrm [(vs3.getD 0 dead), t35] H4)) ((bin 0 .eql (vs3.getD 0 dead) (.int .i64 24)).bind fun t36 =>
 ifB t36 (some (.nrm [(vs3.getD 0 dead), t36] H4)) ((bin 0 .eql (vs3.getD 0 dead) (.int .i64 25)).bind fun t37 =>
 ifB t37 (some (.nrm [(vs3.getD 0 dead), t37] H4)) ((bin 0 .eql (vs3.getD 0 dead) (.int .i64 26)).bind fun t38 =>
 some (.nrm [(vs3.getD 0 dead), t38] H4)))))))))) pnK noX noR fun vs5 H6 =>
 ifB (vs5.getD 1 dead) (some (.ret (.int .i64 3), H6)) ((bin 0 .eql (vs5.getD 0 dead) (.int .i64 27)).bind fun t40 =>
 ifB t40 (some (.ret (.int .i64 4), H6)) (jn ((bin 0 .eql (vs5.getD 0 dead) (.int .i64 28)).bind fun t42 =>
 ifB t42 (some (.nrm [(vs5.getD 0 dead), t42] H6)) ((bin 0 .eql (vs5.getD 0 dead) (.int .i64 29)).bind fun t43 =>
 ifB t43 (some (.nrm [(vs5.getD 0 dead), t43] H6)) ((bin 0 .eql (vs5.getD 0 dead) (.int .i64 30)).bind fun t44 =>
 ifB t44 (some (.nrm [(vs5.getD 0 dead), t44] H6)) ((bin 0 .eql (vs5.getD 0 dead) (.int .i64 31)).bind fun t45 =>
 ifB t45 (some (.nrm [(vs5.getD 0 dead), t45] H6)) ((bin 0 .eql (vs5.getD 0 dead) (.int .i64 32)).bind fun t46 =>
 ifB t46 (some (.nrm [(vs5.getD 0 dead), t46] H6)) ((bin 0 .eql (vs5.getD 0 dead) (.int .i64 33)).bind fun t47 =>
 ifB t47 (some (.nrm [(vs5.getD 0 dead), t47] H6)) ((bin 0 .eql (vs5.getD 0 dead) (.int .i64 34)).bind fun t48 =>
 ifB t48 (some (.nrm [(vs5.getD 0 dead), t48] H6)) ((bin 0 .eql (vs5.getD 0 dead) (.int .i64 35)).bind fun t49 =>
 ifB t49 (some (.nrm [(vs5.getD 0 dead), t49] H6)) ((bin 0 .eql (vs5.getD 0 dead) (.int .i64 45)).bind fun t50 =>
 some (.nrm [(vs5.getD 0 dead), t50] H6)))))))))) pnK noX noR fun vs7 H8 =>
 ifB (vs7.getD 1 dead) (some (.ret (.int .i64 5), H8)) (jn ((bin 0 .eql (vs7.getD 0 dead) (.int .i64 36)).bind fun t52 =>
 ifB t52 (some (.nrm [(vs7.getD 0 dead), t52] H8)) ((bin 0 .eql (vs7.getD 0 dead) (.int .i64 37)).bind fun t53 =>
 some (.nrm [(vs7.getD 0 dead), t53] H8))) pnK noX noR fun vs9 H10 =>
 ifB (vs9.getD 1 dead) (some (.ret (.int .i64 6), H10)) (jn ((bin 0 .eql (vs9.getD 0 dead) (.int .i64 38)).bind fun t55 =>
 ifB t55 (some (.nrm [(vs9.getD 0 dead), t55] H10)) ((bin 0 .eql (vs9.getD 0 dead) (.int .i64 39)).bind fun t56 =>
 ifB t56 (some (.nrm [(vs9.getD 0 dead), t56] H10)) ((bin 0 .eql (vs9.getD 0 dead) (.int .i64 40)).bind fun t57 =>
 ifB t57 (some (.nrm [(vs9.getD 0 dead), t57] H10)) ((bin 0 .eql (vs9.getD 0 dead) (.int .i64 41)).bind fun t58 =>
 ifB t58 (some (.nrm [(vs9.getD 0 dead), t58] H10)) ((bin 0 .eql (vs9.getD 0 dead) (.int .i64 42)).bind fun t59 =>
 ifB t59 (some (.nrm [(vs9.getD 0 dead), t59] H10)) ((bin 0 .eql (vs9.getD 0 dead) (.int .i64 43)).bind fun t60 =>
 some (.nrm [(vs9.getD 0 dead), t60] H10))))))) pnK noX noR fun vs11 H12 =>
 ifB (vs11.getD 1 dead) (some (.ret (.int .i64 7), H12)) ((bin 0 .eql (vs11.getD 0 dead) (.int .i64 44)).bind fun t62 =>
 ifB t62 (some (.ret (.int .i64 8), H12)) (jn ((bin 0 .eql (vs11.getD 0 dead) (.int .i64 46)).bind fun t64 =>
 ifB t64 (some (.nrm [(vs11.getD 0 dead), t64] H12)) ((bin 0 .eql (vs11.getD 0 dead) (.int .i64 47)).bind fun t65 =>
 ifB t65 (some (.nrm [(vs11.getD 0 dead), t65] H12)) ((bin 0 .eql (vs11.getD 0 dead) (.int .i64 48)).bind fun t66 =>
 ifB t66 (some (.nrm [(vs11.getD 0 dead), t66] H12)) ((bin 0 .eql (vs11.getD 0 dead) (.int .i64 49)).bind fun t67 =>
 ifB t67 (some (.nrm [(vs11.getD 0 dead), t67] H12)) ((bin 0 .eql (vs11.getD 0 dead) (.int .i64 51)).bind fun t68 =>
 ifB t68 (some (.nrm [(vs11.getD 0 dead), t68] H12)) ((bin 0 .eql (vs11.getD 0 dead) (.int .i64 52)).bind fun t69 =>
 some (.nrm [(vs11.getD 0 dead), t69] H12))))))) pnK noX noR fun vs13 H14 =>
 ifB (vs13.getD 1 dead) (some (.ret (.int .i64 9), H14)) (jn ((bin 0 .eql (vs13.getD 0 dead) (.int .i64 50)).bind fun t71 =>
 ifB t71 (some (.nrm [(vs13.getD 0 dead), t71] H14)) ((bin 0 .eql (vs13.getD 0 dead) (.int .i64 53)).bind fun t72 =>
 ifB t72 (some (.nrm [(vs13.getD 0 dead), t72] H14)) ((bin 0 .eql (vs13.getD 0 dead) (.int .i64 54)).bind fun t73 =>
 some (.nrm [(vs13.getD 0 dead), t73] H14)))) pnK noX noR fun vs15 H16 =>
 ifB (vs15.getD 1 dead) (some (.ret (.int .i64 10), H16)) (jn ((bin 0 .eql (vs15.getD 0 dead) (.int .i64 55)).bind fun t75 =>
 ifB t75 (some (.nrm [(vs15.getD 0 dead), t75] H16)) ((bin 0 .eql (vs15.getD 0 dead) (.int .i64 56)).bind fun t76 =>
 ifB t76 (some (.nrm [(vs15.getD 0 dead), t76] H16)) ((bin 0 .eql (vs15.getD 0 dead) (.int .i64 57)).bind fun t77 =>
 some (.nrm [(vs15.getD 0 dead), t77] H16)))) pnK noX noR fun vs17 H18 =>
 ifB (vs17.getD 1 dead) (some (.ret (.int .i64 11), H18)) (jn ((bin 0 .eql (vs17.getD 0 dead) (.int .i64 58)).bind fun t79 =>
 ifB t79 (some (.nrm [(vs17.getD 0 dead), t79] H18)) ((bin 0 .eql (vs17.getD 0 dead) (.int .i64 60)).bind fun t80 =>
 ifB t80 (some (.nrm [(vs17.getD 0 dead), t80] H18)) ((bin 0 .eql (vs17.getD 0 dead) (.int .i64 61)).bind fun t81 =>
 ifB t81 (some (.nrm [(vs17.getD 0 dead), t81] H18)) ((bin 0 .eql (vs17.getD 0 dead) (.int .i64 62)).bind fun t82 =>
 some (.nrm [(vs17.getD 0 dead), t82] H18))))) pnK noX noR fun vs19 H20 =>
 ifB (vs19.getD 1 dead) (some (.ret (.int .i64 12), H20)) ((bin 0 .eql (vs19.getD 0 dead) (.int .i64 59)).bind fun t84 =>
 ifB t84 (some (.ret (.int .i64 13), H20)) ((bin 0 .eql (vs19.getD 0 dead) (.int .i64 63)).bind fun t86 =>
 ifB t86 (some (.ret (.int .i64 14), H20)) (jn ((bin 0 .eql (vs19.getD 0 dead) (.int .i64 68)).bind fun t88 =>
 ifB t88 (some (.nrm [t88] H20)) ((bin 0 .eql (vs19.getD 0 dead) (.int .i64 69)).bind fun t89 =>
 some (.nrm [t89] H20))) pnK noX noR fun vs21 H22 =>
 ifB (vs21.getD 0 dead) (some (.ret (.int .i64 15), H22)) (some (.ret (.int .i64 0), H22))))))))))))))))
def lv16 : List (Option An) := [none, none, none, some ⟨[3, 4], [], false, false⟩, none, none, none, none, none, none, none, some ⟨[3, 12], [], false, false⟩, none, none, none, none, none, none, none, none, none, none, none, none, none, none, none, none, some ⟨[3, 29], [], false, false⟩, none, none, none, none, none, none, none, none, none, none, none, some ⟨[3, 41], [], false, false⟩, none, none, none, none, none, none, none, none, none, some ⟨[3, 51], [], false, false⟩, none, none, some ⟨[3, 54], [], false, false⟩, none, none, none, none, none, none, none, none, some ⟨[3, 63], [], false, false⟩, none, none, none, none, none, none, some ⟨[3, 70], [], false, false⟩, none, none, none, some ⟨[3, 74], [], false, false⟩, none, none, none, some ⟨[3, 78], [], false, false⟩, none, none, none, none, none, none, none, none, some ⟨[87], [], false, false⟩]
theorem s16_eq (C : Cl) (n : Nat) (x0 : Value) (H : Hp) : evFn Tryd.prog C n lv16 Tryd.f16 [x0] H = s16 C n x0 H := by kernel_rfl
/-- bulkhead/code.Name -/
noncomputable def s17 (C : Cl) (n : Nat) (x0 : Value) (H : Hp) : R :=
 callK (C 31 [x0] H) pnK fun t4 H1 =>
 (fld false 1 0 t4).bind fun t5 =>
 some (.ret t5, H1)
def lv17 : List (Option An) := []
theorem s17_eq (C : Cl) (n : Nat) (x0 : Value) (H : Hp) : evFn Tryd.prog C n lv17 Tryd.f17 [x0] H = s17 C n x0 H := by kernel_rfl
/-- bulkhead/bulkheadref04.Name -/
noncomputable def s18 (C : Cl) (n : Nat) (x0 : Value) (H : Hp) : R :=
 callK (C 16 [x0] H) pnK fun t4 H1 =>
 (bin 0 .eql t4 (.int .i64 0)).bind fun t5 =>
 ifB t5 (some (.ret (.string ⟨#[]⟩), H1)) ((ia 72 1 (ptr 0 0) x0).bind fun t7 =>
 (ld t7 H1).bind fun t8 =>
 some (.ret t8, H1))
def lv18 : List (Option An) := []
theorem s18_eq (C : Cl) (n : Nat) (x0 : Value) (H : Hp) : evFn Tryd.prog C n lv18 Tryd.f18 [x0] H = s18 C n x0 H := by kernel_rfl
/-- bulkhead/code.MaxCost -/
noncomputable def s19 (C : Cl) (n : Nat)  (H : Hp) : R :=
 some (.ret (.int .i64 20), H)
def lv19 : List (Option An) := []
theorem s19_eq (C : Cl) (n : Nat)  (H : Hp) : evFn Tryd.prog C n lv19 Tryd.f19 [] H = s19 C n  H := by kernel_rfl
/-- bulkhead/exec.Done -/
noncomputable def s20 (C : Cl) (n : Nat) (x0 : Value) (x1 : Value) (x2 : Value) (H : Hp) : R :=
 (bx x0).bind fun c2 =>
 let H1 := H.new (.rw c2)
 (bx x1).bind fun c4 =>
 let H3 := H1.new (.rw c4)
 let H5 := H3.new (.rw [(.int .u32 0), (.int .u32 0), (.int .u32 0), (.int .u32 0), (.int .u32 0), (.int .u32 0), (.int .u32 0), (.int .u32 0), (.int .u32 0), (.int .u32 0), (.int .u32 0), (.int .u32 0), (.int .u32 0), (.int .u32 0), (.int .u32 0), (.int .u32 0), (.int .u64 0), (.int .u64 0), (.int .u64 0), (.int .u64 0), (.int .u64 0), (.int .u64 0), (.int .u64 0), (.int .u64 0), (.int .u32 0)])
 (ldN 25 (ptr H.next 0) H5).bind fun t11 =>
 callK (C 32 [t11] H5) pnK fun t12 H6 =>
 (st 25 (ptr H.next 0) t12 H6).bind fun H7 =>
 (ldN 5 (ptr H1.next 0) H7).bind fun t13 =>
 callK (C 33 [t13] H7) pnK fun t14 H8 =>
 (un .not t14).bind fun t15 =>
 ifB t15 ((ldN 25 (ptr H.next 0) H8).bind fun t16 =>
 (st 25 (ptr H3.next 0) t16 H8).bind fun H9 =>
 (ldN 25 (ptr H3.next 0) H9).bind fun r10 =>
 some (.ret (.tuple #[r10, (.int .i64 1), (.int .u32 0)]), H9)) ((ldN 25 (ptr H.next 0) H8).bind fun t17 =>
 (ldN 5 (ptr H1.next 0) H8).bind fun t18 =>
 callK (C 22 [t17, t18] H8) pnK fun t19 H11 =>
 let H12 := H11.new (.rw [(.bool false), (.int .u32 0), (.int .i64 0), (.int .u64 0)])
 (st 4 (ptr H11.next 0) t19 H12).bind fun H13 =>
 (fa 2 (ptr H11.next 0)).bind fun t20 =>
 (ld t20 H13).bind fun t21 =>
 (bin 0 .gtr t21 (.int .i64 0)).bind fun t22 =>
 (ifG t22 true ((fa 1 (ptr H11.next 0)).bind fun t24 =>
 some (t24, H13)) (some (undef, H13))).bind fun p14 =>
 (ifG t22 true ((ld p14.1 p14.2).bind fun t25 =>
 some (t25, p14.2)) (some (undef, p14.2))).bind fun p15 =>
 (ifG t22 true ((fa 2 (ptr H11.next 0)).bind fun t26 =>
 some (t26, p15.2)) (some (undef, p15.2))).bind fun p16 =>
 (ifG t22 true ((ld p16.1 p16.2).bind fun t27 =>
 some (t27, p16.2)) (some (undef, p16.2))).bind fun p17 =>
 (ifG t22 true ((cvI .u32 p17.1).bind fun t28 =>
 some (t28, p17.2)) (some (undef, p17.2))).bind fun p18 =>
 (ifG t22 true ((bin 0 .rem p15.1 p18.1).bind fun t29 =>
 some (t29, p18.2)) (some (undef, p18.2))).bind fun p19 =>
 (ifG t22 true ((bin 0 .neq p19.1 (.int .u32 0)).bind fun t30 =>
 some (t30, p19.2)) (some (undef, p19.2))).bind fun p20 =>
 (pick t22 p20.1 (.bool false)).bind fun t31 =>
 ifB t31 ((ldN 25 (ptr H.next 0) p20.2.cl).bind fun t32 =>
 (fa 1 (ptr H11.next 0)).bind fun t33 =>
 ((rdA t33).map fun c => [c]).bind fun r21 =>
 (ld t33 p20.2.cl.cl.cl).bind fun t34 =>
 (rdA (ptr H3.next 0)).bind fun b22 => bif memN b22 (r21 ++ []) then none else (st 25 (ptr H3.next 0) t32 (p20.2.cl.cl.cl.cl.cl.opn p20.2.lim)).bind fun H23 =>
 (ldN 25 (ptr H3.next 0) H23).bind fun r24 =>
 some (.ret (.tuple #[r24, (.int .i64 5), t34]), H23)) ((ldN 25 (ptr H.next 0) p20.2).bind fun t35 =>
 (ldN 5 (ptr H1.next 0) p20.2).bind fun t36 =>
 (fillL (pl [(0, 25), (25, 5), (30, 1), (31, 1), (32, 1)]) [(.int .u32 0), (.int .u32 0), (.int .u32 0), (.int .u32 0), (.int .u32 0), (.int .u32 0), (.int .u32 0), (.int .u32 0), (.int .u32 0), (.int .u32 0), (.int .u32 0), (.int .u32 0), (.int .u32 0), (.int .u32 0), (.int .u32 0), (.int .u32 0), (.int .u64 0), (.int .u64 0), (.int .u64 0), (.int .u64 0), (.int .u64 0), (.int .u64 0), (.int .u64 0), (.int .u64 0), (.int .u32 0), (.int .i64 0), (.int .i64 0), (.int .i64 0), (.int .i64 0), (.int .i64 0), (.int .u64 0), (.int .i64 0), (.int .u32 0)] [(0, t35), (1, t36), (2, x2)]).bind fun c25 =>
 (bx (.agg c25.toArray)).bind fun c27 =>
 let H26 := p20.2.new (.rw c27)
 callK (C 34 [(ptr p20.2.next 0)] H26) pnK fun t41 H28 =>
 (nilc (ptr p20.2.next 0)).bind fun t43 =>
 (fa 31 t43).bind fun t44 =>
 (ld t44 H28).bind fun t45 =>
 (bin 0 .neq t45 (.int .i64 0)).bind fun t46 =>
 ifB t46 ((ldN 25 (ptr H.next 0) H28.cl).bind fun t47 =>
 (nilc (ptr p20.2.next 0)).bind fun t49 =>
 (fa 31 t49).bind fun t50 =>
 ((rdA t50).map fun c => [c]).bind fun r29 =>
 (ld t50 H28.cl.cl.cl.cl.cl).bind fun t51 =>
 (nilc (ptr p20.2.next 0)).bind fun t53 =>
 (fa 32 t53).bind fun t54 =>
 ((rdA t54).map fun c => [c]).bind fun r30 =>
 (ld t54 H28.cl.cl.cl.cl.cl.cl.cl.cl.cl).bind fun t55 =>
 (rdA (ptr H3.next 0)).bind fun b31 => bif memN b31 (r30 ++ (r29 ++ [])) then none else (st 25 (ptr H3.next 0) t47 (H28.cl.cl.cl.cl.cl.cl.cl.cl.cl.cl.cl.opn H28.lim)).bind fun H32 =>
 (ldN 25 (ptr H3.next 0) H32).bind fun r33 =>
 some (.ret (.tuple #[r33, t51, t55]), H32)) ((nilc (ptr p20.2.next 0)).bind fun t57 =>
 (fa 0 t57).bind fun t58 =>
 (ldN 25 t58 H28).bind fun t59 =>
 callK (C 32 [t59] H28) pnK fun t60 H34 =>
 (st 25 (ptr H3.next 0) t60 H34).bind fun H35 =>
 (ldN 25 (ptr H3.next 0) H35).bind fun r36 =>
 some (.ret (.tuple #[r36, (.int .i64 0), (.int .u32 0)]), H35))))
def lv20 : List (Option An) := []
theorem s20_eq (C : Cl) (n : Nat) (x0 : Value) (x1 : Value) (x2 : Value) (H : Hp) : evFn Tryd.prog C n lv20 Tryd.f20 [x0, x1, x2] H = s20 C n x0 x1 x2 H := by kernel_rfl
/-- bulkhead/bulkheadref08.Done -/
noncomputable def s21 (C : Cl) (n : Nat) (x0 : Value) (x1 : Value) (x2 : Value) (H : Hp) : R :=
 (bx x0).bind fun c2 =>
 let H1 := H.new (.rw c2)
 (bx x1).bind fun c4 =>
 let H3 := H1.new (.rw c4)
 let H5 := H3.new (.rw [(.int .u32 0), (.int .u32 0), (.int .u32 0), (.int .u32 0), (.int .u32 0), (.int .u32 0), (.int .u32 0), (.int .u32 0), (.int .u32 0), (.int .u32 0), (.int .u32 0), (.int .u32 0), (.int .u32 0), (.int .u32 0), (.int .u32 0), (.int .u32 0), (.int .u64 0), (.int .u64 0), (.int .u64 0), (.int .u64 0), (.int .u64 0), (.int .u64 0), (.int .u64 0), (.int .u64 0), (.int .u32 0)])
 (fa 0 (ptr H.next 0)).bind fun t17 =>
 (ia 16 1 t17 (.int .i64 0)).bind fun t18 =>
 (st 1 t18 (.int .u32 0) H5).bind fun H6 =>
 (ldN 5 (ptr H1.next 0) H6).bind fun t19 =>
 callK (C 27 [t19] H6) pnK fun t20 H7 =>
 (bin 0 .neq t20 (.int .i64 0)).bind fun t21 =>
 ifB t21 ((ldN 25 (ptr H.next 0) H7).bind fun t22 =>
 (st 25 (ptr H3.next 0) t22 H7).bind fun H8 =>
 (ldN 25 (ptr H3.next 0) H8).bind fun r9 =>
 some (.ret (.tuple #[r9, (.int .i64 1), (.int .u32 0)]), H8)) ((ldN 25 (ptr H.next 0) H7).bind fun t23 =>
 (ldN 5 (ptr H1.next 0) H7).bind fun t24 =>
 callK (C 23 [t23, t24] H7) pnK fun t25 H10 =>
 let H11 := H10.new (.rw [(.bool false), (.int .u32 0), (.int .i64 0), (.int .u64 0)])
 (st 4 (ptr H10.next 0) t25 H11).bind fun H12 =>
 (fa 2 (ptr H10.next 0)).bind fun t26 =>
 (ld t26 H12).bind fun t27 =>
 (bin 0 .gtr t27 (.int .i64 0)).bind fun t28 =>
 (ifG t28 true ((fa 1 (ptr H10.next 0)).bind fun t30 =>
 some (t30, H12)) (some (undef, H12))).bind fun p13 =>
 (ifG t28 true ((ld p13.1 p13.2).bind fun t31 =>
 some (t31, p13.2)) (some (undef, p13.2))).bind fun p14 =>
 (ifG t28 true ((fa 2 (ptr H10.next 0)).bind fun t32 =>
 some (t32, p14.2)) (some (undef, p14.2))).bind fun p15 =>
 (ifG t28 true ((ld p15.1 p15.2).bind fun t33 =>
 some (t33, p15.2)) (some (undef, p15.2))).bind fun p16 =>
 (ifG t28 true ((cvI .u32 p16.1).bind fun t34 =>
 some (t34, p16.2)) (some (undef, p16.2))).bind fun p17 =>
 (ifG t28 true ((bin 0 .rem p14.1 p17.1).bind fun t35 =>
 some (t35, p17.2)) (some (undef, p17.2))).bind fun p18 =>
 (ifG t28 true ((bin 0 .neq p18.1 (.int .u32 0)).bind fun t36 =>
 some (t36, p18.2)) (some (undef, p18.2))).bind fun p19 =>
 (pick t28 p19.1 (.bool false)).bind fun t37 =>
 ifB t37 ((ldN 25 (ptr H.next 0) p19.2.cl).bind fun t38 =>
 (fa 1 (ptr H10.next 0)).bind fun t39 =>
 ((rdA t39).map fun c => [c]).bind fun r20 =>
 (ld t39 p19.2.cl.cl.cl).bind fun t40 =>
 (rdA (ptr H3.next 0)).bind fun b21 => bif memN b21 (r20 ++ []) then none else (st 25 (ptr H3.next 0) t38 (p19.2.cl.cl.cl.cl.cl.opn p19.2.lim)).bind fun H22 =>
 (ldN 25 (ptr H3.next 0) H22).bind fun r23 =>
 some (.ret (.tuple #[r23, (.int .i64 5), t40]), H22)) ((fa 4 (ptr H1.next 0)).bind fun t41 =>
 (ld t41 p19.2).bind fun t42 =>
 callK (C 35 [t42] p19.2) pnK fun t43 H24 =>
 (ldN 25 (ptr H.next 0) H24).bind fun t44 =>
 let H25 := H24.new (.rw [(.int .u32 0), (.int .u32 0), (.int .u32 0), (.int .u32 0), (.int .u32 0), (.int .u32 0), (.int .u32 0), (.int .u32 0), (.int .u32 0), (.int .u32 0), (.int .u32 0), (.int .u32 0), (.int .u32 0), (.int .u32 0), (.int .u32 0), (.int .u32 0), (.int .u64 0), (.int .u64 0), (.int .u64 0), (.int .u64 0), (.int .u64 0), (.int .u64 0), (.int .u64 0), (.int .u64 0), (.int .u32 0)])
 (st 25 (ptr H24.next 0) t44 H25).bind fun H26 =>
 jn ((fa 0 (ptr H1.next 0)).bind fun t45 =>
 (ld t45 H26).bind fun t46 =>
 callK (C 16 [t46] H26) pnJ fun t47 H29 =>
 jn ((bin 0 .eql t47 (.int .i64 1)).bind fun t52 =>
 ifB t52 (some (.nrm [x2, (ptr H.next 0), (ptr H1.next 0), (ptr H3.next 0), (ptr H10.next 0), t43, (ptr H24.next 0), t47, t52] H29)) ((bin 0 .eql t47 (.int .i64 15)).bind fun t53 =>
 some (.nrm [x2, (ptr H.next 0), (ptr H1.next 0), (ptr H3.next 0), (ptr H10.next 0), t43, (ptr H24.next 0), t47, t53] H29))) pnJ noX noR fun vs30 H31 =>
 ifB (vs30.getD 8 dead) ((fa 0 (vs30.getD 2 dead)).bind fun t54 =>
 (ld t54 H31).bind fun t55 =>
 (bin 0 .neq t55 (.int .i64 1)).bind fun t56 =>
 ifB t56 ((ldN 25 (vs30.getD 1 dead) H31).bind fun t57 =>
 (st 25 (vs30.getD 3 dead) t57 H31).bind fun H32 =>
 some (.rt (Fr.of [6, 7, 8] [(vs30.getD 3 dead), (.int .i64 0), (.int .u32 0)]) H32)) (some (.nrm [(vs30.getD 1 dead), (vs30.getD 3 dead), (vs30.getD 6 dead)] H31))) (jn ((bin 0 .eql (vs30.getD 7 dead) (.int .i64 2)).bind fun t59 =>
 ifB t59 (some (.nrm [(vs30.getD 0 dead), (vs30.getD 1 dead), (vs30.getD 2 dead), (vs30.getD 3 dead), (vs30.getD 4 dead), (vs30.getD 5 dead), (vs30.getD 6 dead), (vs30.getD 7 dead), t59] H31)) ((bin 0 .eql (vs30.getD 7 dead) (.int .i64 3)).bind fun t60 =>
 ifB t60 (some (.nrm [(vs30.getD 0 dead), (vs30.getD 1 dead), (vs30.getD 2 dead), (vs30.getD 3 dead), (vs30.getD 4 dead), (vs30.getD 5 dead), (vs30.getD 6 dead), (vs30.getD 7 dead), t60] H31)) ((bin 0 .eql (vs30.getD 7 dead) (.int .i64 4)).bind fun t61 =>
 some (.nrm [(vs30.getD 0 dead), (vs30.getD 1 dead), (vs30.getD 2 dead), (vs30.getD 3 dead), (vs30.getD 4 dead), (vs30.getD 5 dead), (vs30.getD 6 dead), (vs30.getD 7 dead), t61] H31)))) pnJ noX noR fun vs33 H34 =>
 ifB (vs33.getD 8 dead) (jn ((fa 0 (vs33.getD 2 dead)).bind fun t63 =>
 (ld t63 H34).bind fun t64 =>
 callK (C 16 [t64] H34) pnJ fun t65 H37 =>
 (bin 0 .eql t65 (.int .i64 2)).bind fun t66 =>
 ifB t66 ((fa 3 (vs33.getD 2 dead)).bind fun t67 =>
 (ld t67 H37).bind fun t68 =>
 (fa 0 (vs33.getD 1 dead)).bind fun t69 =>
 (ia 16 1 t69 t68).bind fun t70 =>
 (ld t70 H37).bind fun t71 =>
 some (.nrm [(vs33.getD 1 dead), (vs33.getD 2 dead), (vs33.getD 3 dead), (vs33.getD 6 dead), t71] H37)) (some (.nrm [(vs33.getD 1 dead), (vs33.getD 2 dead), (vs33.getD 3 dead), (vs33.getD 6 dead), (vs33.getD 5 dead)] H37))) pnJ noX noR fun vs35 H36 =>
 (fa 0 (vs35.getD 1 dead)).bind fun t73 =>
 (ld t73 H36.cl.cl).bind fun t74 =>
 (fa 2 (vs35.getD 1 dead)).bind fun t75 =>
 (ld t75 H36.cl.cl.cl.cl).bind fun t76 =>
 (fa 0 (vs35.getD 0 dead)).bind fun t77 =>
 (ia 16 1 t77 t76).bind fun t78 =>
 (ld t78 H36.cl.cl.cl.cl.cl.cl.cl).bind fun t79 =>
 callK (C 36 [t74, t79, (vs35.getD 4 dead)] H36.cl.cl.cl.cl.cl.cl.cl.cl.cl) pnN fun t81 H38 =>
 (ext1 t81 0).bind fun t82 =>
 (ext1 t81 1).bind fun t83 =>
 (bin 0 .neq t83 (.int .i64 0)).bind fun t85 =>
 ifB t85 ((ldN 25 (vs35.getD 0 dead) (H38.cl.cl.cl.cl.opn H36.lim)).bind fun t86 =>
 (st 25 (vs35.getD 2 dead) t86 (H38.cl.cl.cl.cl.opn H36.lim)).bind fun H39 =>
 some (.rt (Fr.of [6, 7, 8] [(vs35.getD 2 dead), (.int .i64 6), (.int .u32 0)]) H39)) ((fa 1 (vs35.getD 1 dead)).bind fun t87 =>
 (ld t87 (H38.cl.cl.cl.cl.opn H36.lim)).bind fun t88 =>
 (fa 0 (vs35.getD 3 dead)).bind fun t90 =>
 (ia 16 1 t90 t88).bind fun t91 =>
 (st 1 t91 t82 (H38.cl.cl.cl.cl.opn H36.lim)).bind fun H40 =>
 some (.nrm [(vs35.getD 0 dead), (vs35.getD 2 dead), (vs35.getD 3 dead)] H40))) ((bin 0 .eql (vs33.getD 7 dead) (.int .i64 5)).bind fun t93 =>
 ifB t93 ((fa 0 (vs33.getD 2 dead)).bind fun t94 =>
 (ld t94 H34).bind fun t95 =>
 (bin 0 .eql t95 (.int .i64 45)).bind fun t96 =>
 ifB t96 ((ldN 25 (vs33.getD 1 dead) H34.cl).bind fun t97 =>
 (ldN 5 (vs33.getD 2 dead) H34.cl.cl).bind fun t98 =>
 (fa 2 (vs33.getD 2 dead)).bind fun t99 =>
 (ld t99 H34.cl.cl.cl.cl).bind fun t100 =>
 (fa 0 (vs33.getD 1 dead)).bind fun t101 =>
 (ia 16 1 t101 t100).bind fun t102 =>
 (ld t102 H34.cl.cl.cl.cl.cl.cl.cl).bind fun t103 =>
 (bin 0 .add t103 (vs33.getD 5 dead)).bind fun t105 =>
 callK (C 37 [t97, t98, t105, (.bool true)] H34.cl.cl.cl.cl.cl.cl.cl.cl.cl.cl) pnN fun t106 H41 =>
 (ext1 t106 0).bind fun t107 =>
 (ext1 t106 1).bind fun t108 =>
 (ext1 t106 2).bind fun t109 =>
 (st 25 (vs33.getD 3 dead) t107 (H41.cl.cl.cl.opn H34.lim)).bind fun H42 =>
 some (.rt (Fr.of [6, 7, 8] [(vs33.getD 3 dead), t108, t109]) H42)) ((fa 0 (vs33.getD 4 dead)).bind fun t110 =>
 (ld t110 H34).bind fun t111 =>
 (un .not t111).bind fun t112 =>
 ifB t112 ((fa 1 (vs33.getD 2 dead)).bind fun t113 =>
 (ld t113 H34.cl.cl).bind fun t114 =>
 (fa 0 (vs33.getD 2 dead)).bind fun t115 =>
 (ld t115 H34.cl.cl.cl.cl).bind fun t116 =>
 callK (C 38 [t116, (vs33.getD 0 dead)] H34.cl.cl.cl.cl.cl.cl) pnN fun t118 H43 =>
 (fa 0 (vs33.getD 6 dead)).bind fun t119 =>
 (ia 16 1 t119 t114).bind fun t120 =>
 (st 1 t120 t118 (H43.cl.opn H34.lim)).bind fun H44 =>
 some (.nrm [(vs33.getD 1 dead), (vs33.getD 3 dead), (vs33.getD 6 dead)] H44)) (some (.nrm [(vs33.getD 1 dead), (vs33.getD 3 dead), (vs33.getD 6 dead)] H34)))) ((bin 0 .eql (vs33.getD 7 dead) (.int .i64 6)).bind fun t122 =>
 ifB t122 ((fa 0 (vs33.getD 4 dead)).bind fun t123 =>
 (ld t123 H34).bind fun t124 =>
 (un .not t124).bind fun t125 =>
 ifB t125 ((fa 1 (vs33.getD 2 dead)).bind fun t126 =>
 (ld t126 H34).bind fun t127 =>
 (fa 16 (vs33.getD 6 dead)).bind fun t129 =>
 (ia 8 1 t129 t127).bind fun t130 =>
 (st 1 t130 (vs33.getD 0 dead) H34).bind fun H45 =>
 some (.nrm [(vs33.getD 1 dead), (vs33.getD 3 dead), (vs33.getD 6 dead)] H45)) (some (.nrm [(vs33.getD 1 dead), (vs33.getD 3 dead), (vs33.getD 6 dead)] H34))) ((bin 0 .eql (vs33.getD 7 dead) (.int .i64 7)).bind fun t132 =>
 ifB t132 ((fa 0 (vs33.getD 2 dead)).bind fun t134 =>
 (ld t134 H34.cl.cl).bind fun t135 =>
 (fa 1 (vs33.getD 2 dead)).bind fun t136 =>
 (ld t136 H34.cl.cl.cl.cl).bind fun t137 =>
 (fa 0 (vs33.getD 1 dead)).bind fun t138 =>
 (ia 16 1 t138 t137).bind fun t139 =>
 (ld t139 H34.cl.cl.cl.cl.cl.cl.cl).bind fun t140 =>
 (fa 2 (vs33.getD 2 dead)).bind fun t141 =>
 (ld t141 H34.cl.cl.cl.cl.cl.cl.cl.cl.cl).bind fun t142 =>
 (fa 0 (vs33.getD 1 dead)).bind fun t143 =>
 (ia 16 1 t143 t142).bind fun t144 =>
 (ld t144 H34.cl.cl.cl.cl.cl.cl.cl.cl.cl.cl.cl.cl).bind fun t145 =>
 callK (C 39 [t135, t140, t145] H34.cl.cl.cl.cl.cl.cl.cl.cl.cl.cl.cl.cl.cl) pnN fun t146 H46 =>
 (ext1 t146 0).bind fun t147 =>
 (ext1 t146 1).bind fun t148 =>
 ifB t147 ((ldN 25 (vs33.getD 1 dead) (H46.cl.cl.cl.cl.opn H34.lim)).bind fun t150 =>
 (ldN 5 (vs33.getD 2 dead) (H46.cl.cl.cl.cl.opn H34.lim)).bind fun t151 =>
 (fa 24 (vs33.getD 1 dead)).bind fun t152 =>
 (ld t152 (H46.cl.cl.cl.cl.opn H34.lim)).bind fun t153 =>
 (bin 0 .mul (.int .u32 4) (vs33.getD 5 dead)).bind fun t155 =>
 (bin 0 .add t153 t155).bind fun t156 =>
 callK (C 37 [t150, t151, t156, (.bool false)] (H46.cl.cl.cl.cl.opn H34.lim)) pnJ fun t157 H47 =>
 (ext1 t157 0).bind fun t158 =>
 (ext1 t157 1).bind fun t159 =>
 (ext1 t157 2).bind fun t160 =>
 (st 25 (vs33.getD 3 dead) t158 H47).bind fun H48 =>
 some (.rt (Fr.of [6, 7, 8] [(vs33.getD 3 dead), t159, t160]) H48)) (some (.nrm [(vs33.getD 1 dead), (vs33.getD 3 dead), (vs33.getD 6 dead)] (H46.cl.cl.cl.cl.opn H34.lim)))) ((bin 0 .eql (vs33.getD 7 dead) (.int .i64 8)).bind fun t162 =>
 ifB t162 ((ldN 25 (vs33.getD 1 dead) H34).bind fun t163 =>
 (ldN 5 (vs33.getD 2 dead) H34).bind fun t164 =>
 (fa 24 (vs33.getD 1 dead)).bind fun t165 =>
 (ld t165 H34).bind fun t166 =>
 (bin 0 .mul (.int .u32 4) (vs33.getD 5 dead)).bind fun t168 =>
 (bin 0 .add t166 t168).bind fun t169 =>
 callK (C 37 [t163, t164, t169, (.bool true)] H34) pnJ fun t170 H49 =>
 (ext1 t170 0).bind fun t171 =>
 (ext1 t170 1).bind fun t172 =>
 (ext1 t170 2).bind fun t173 =>
 (st 25 (vs33.getD 3 dead) t171 H49).bind fun H50 =>
 some (.rt (Fr.of [6, 7, 8] [(vs33.getD 3 dead), t172, t173]) H50)) ((ldN 25 (vs33.getD 1 dead) H34).bind fun t48 =>
 (ldN 5 (vs33.getD 2 dead) H34).bind fun t49 =>
 callK (C 40 [t48, t49] H34) pnJ fun t50 H51 =>
 (st 25 (vs33.getD 6 dead) t50 H51).bind fun H52 =>
 some (.nrm [(vs33.getD 1 dead), (vs33.getD 3 dead), (vs33.getD 6 dead)] H52)))))))) pnK noX (fun f57 H58 => (ldN 25 (f57.g 6) H58).bind fun r59 =>
 some (.ret (.tuple #[r59, (f57.g 7), (f57.g 8)]), H58)) fun vs27 H28 =>
 (fa 0 (vs27.getD 2 dead)).bind fun t174 =>
 (ia 16 1 t174 (.int .i64 0)).bind fun t175 =>
 (st 1 t175 (.int .u32 0) H28).bind fun H53 =>
 (fa 24 (vs27.getD 0 dead)).bind fun t176 =>
 (ld t176 H53).bind fun t177 =>
 (bin 0 .add t177 (.int .u32 4)).bind fun t178 =>
 (fa 24 (vs27.getD 2 dead)).bind fun t179 =>
 (st 1 t179 t178 H53).bind fun H54 =>
 (ldN 25 (vs27.getD 2 dead) H54).bind fun t180 =>
 (st 25 (vs27.getD 1 dead) t180 H54).bind fun H55 =>
 (ldN 25 (vs27.getD 1 dead) H55).bind fun r56 =>
 some (.ret (.tuple #[r56, (.int .i64 0), (.int .u32 0)]), H55)))
def lv21 : List (Option An) := [none, none, none, none, none, none, none, none, none, none, none, some ⟨[3, 6, 11], [6, 7, 8], false, true⟩, none, some ⟨[2, 3, 4, 6, 9, 10, 11, 47, 51], [], false, false⟩, none, none, none, some ⟨[2, 3, 4, 6, 9, 10, 11, 47, 58], [], false, false⟩, none, none, none, some ⟨[3, 4, 6, 11, 12], [], false, false⟩]
theorem s21_eq (C : Cl) (n : Nat) (x0 : Value) (x1 : Value) (x2 : Value) (H : Hp) : evFn Tryd.prog C n lv21 Tryd.f21 [x0, x1, x2] H = s21 C n x0 x1 x2 H := by kernel_rfl
/-- bulkhead/exec.Need -/
noncomputable def s22 (C : Cl) (n : Nat) (x0 : Value) (x1 : Value) (H : Hp) : R :=
 (bx x0).bind fun c2 =>
 let H1 := H.new (.rw c2)
 (bx x1).bind fun c4 =>
 let H3 := H1.new (.rw c4)
 let H5 := H3.new (.rw [(.bool false), (.int .u32 0), (.int .i64 0), (.int .u64 0)])
 (fa 0 (ptr H1.next 0)).bind fun t7 =>
 (ld t7 H5).bind fun t8 =>
 callK (C 41 [t8] H5) pnK fun t9 H6 =>
 (bin 0 .eql t9 (.int .i64 0)).bind fun t11 =>
 (ifG t11 false ((ldN 5 (ptr H1.next 0) H6).bind fun t13 =>
 some (t13, H6)) (some (undef, H6))).bind fun p7 =>
 (ifG t11 false (callK (C 33 [p7.1] p7.2) pnN fun t14 H8 =>
 some (t14, H8)) (some (undef, p7.2))).bind fun p9 =>
 (ifG t11 false ((un .not p9.1).bind fun t15 =>
 some (t15, p9.2)) (some (undef, p9.2))).bind fun p10 =>
 (pick t11 (.bool true) p10.1).bind fun t16 =>
 ifB t16 ((fillL (pl [(0, 1), (1, 1), (2, 1), (3, 1)]) [(.bool false), (.int .u32 0), (.int .i64 0), (.int .u64 0)] []).bind fun c11 =>
 (st 4 (ptr H3.next 0) (.agg c11.toArray) p10.2).bind fun H12 =>
 (ldN 4 (ptr H3.next 0) H12).bind fun r13 =>
 some (.ret r13, H12)) ((ldN 25 (ptr H.next 0) p10.2).bind fun t18 =>
 callK (C 32 [t18] p10.2) pnK fun t19 H14 =>
 (st 25 (ptr H.next 0) t19 H14).bind fun H15 =>
 (fa 2 (ptr H1.next 0)).bind fun t20 =>
 (ld t20 H15.cl.cl).bind fun t21 =>
 (fa 0 (ptr H.next 0)).bind fun t22 =>
 (ia 16 1 t22 t21).bind fun t23 =>
 (ld t23 H15.cl.cl.cl.cl.cl).bind fun t24 =>
 (fa 4 (ptr H1.next 0)).bind fun t25 =>
 (ld t25 H15.cl.cl.cl.cl.cl.cl.cl).bind fun t26 =>
 (cvI .u32 t26).bind fun t27 =>
 (bin 0 .add t24 t27).bind fun t28 =>
 (fillL (pl [(0, 1), (1, 1), (2, 1), (3, 1)]) [(.bool false), (.int .u32 0), (.int .i64 0), (.int .u64 0)] [(1, t28), (2, t9)]).bind fun c16 =>
 let H17 := H15.cl.cl.cl.cl.cl.cl.cl.cl.cl.cl.cl.cl.new (.rw [(.bool false), (.int .u32 0), (.int .i64 0), (.int .u64 0)])
 (st 4 (ptr H15.cl.cl.cl.cl.cl.cl.cl.cl.cl.cl.cl.cl.next 0) (.agg c16.toArray) (H17.opn H15.lim)).bind fun H18 =>
 jn ((fa 0 (ptr H1.next 0)).bind fun t31 =>
 (ld t31 H18).bind fun t32 =>
 jn ((bin 0 .eql t32 (.int .i64 33)).bind fun t34 =>
 ifB t34 (some (.nrm [(ptr H.next 0), (ptr H1.next 0), (ptr H3.next 0), t9, (ptr H15.cl.cl.cl.cl.cl.cl.cl.cl.cl.cl.cl.cl.next 0), t32, t34] H18)) ((bin 0 .eql t32 (.int .i64 34)).bind fun t35 =>
 ifB t35 (some (.nrm [(ptr H.next 0), (ptr H1.next 0), (ptr H3.next 0), t9, (ptr H15.cl.cl.cl.cl.cl.cl.cl.cl.cl.cl.cl.cl.next 0), t32, t35] H18)) ((bin 0 .eql t32 (.int .i64 35)).bind fun t36 =>
 some (.nrm [(ptr H.next 0), (ptr H1.next 0), (ptr H3.next 0), t9, (ptr H15.cl.cl.cl.cl.cl.cl.cl.cl.cl.cl.cl.cl.next 0), t32, t36] H18)))) pnJ noX noR fun vs21 H22 =>
 ifB (vs21.getD 6 dead) ((fa 1 (vs21.getD 1 dead)).bind fun t37 =>
 (ld t37 H22.cl.cl).bind fun t38 =>
 (fa 0 (vs21.getD 0 dead)).bind fun t39 =>
 (ia 16 1 t39 t38).bind fun t40 =>
 (ld t40 H22.cl.cl.cl.cl.cl).bind fun t41 =>
 (cvI .u64 t41).bind fun t42 =>
 (bin 0 .mul (.int .i64 8) (vs21.getD 3 dead)).bind fun t44 =>
 (bin 0 .shl (.int .u64 1) t44).bind fun t45 =>
 (bin 0 .sub t45 (.int .u64 1)).bind fun t46 =>
 (bin 0 .and t42 t46).bind fun t47 =>
 (fa 3 (vs21.getD 4 dead)).bind fun t48 =>
 (st 1 t48 t47 (H22.cl.cl.cl.cl.cl.cl.cl.cl.cl.cl.opn H22.lim)).bind fun H23 =>
 (fa 0 (vs21.getD 4 dead)).bind fun t49 =>
 (st 1 t49 (.bool true) H23).bind fun H24 =>
 some (.nrm [(vs21.getD 2 dead), (vs21.getD 4 dead)] H24)) ((bin 0 .eql (vs21.getD 5 dead) (.int .i64 37)).bind fun t51 =>
 ifB t51 ((fa 1 (vs21.getD 1 dead)).bind fun t52 =>
 (ld t52 H22).bind fun t53 =>
 (fa 16 (vs21.getD 0 dead)).bind fun t54 =>
 (ia 8 1 t54 t53).bind fun t55 =>
 (ld t55 H22).bind fun t56 =>
 (fa 3 (vs21.getD 4 dead)).bind fun t57 =>
 (st 1 t57 t56 H22).bind fun H25 =>
 (fa 0 (vs21.getD 4 dead)).bind fun t58 =>
 (st 1 t58 (.bool true) H25).bind fun H26 =>
 some (.nrm [(vs21.getD 2 dead), (vs21.getD 4 dead)] H26)) (some (.nrm [(vs21.getD 2 dead), (vs21.getD 4 dead)] H22)))) pnK noX noR fun vs19 H20 =>
 (ldN 4 (vs19.getD 1 dead) H20).bind fun t59 =>
 (st 4 (vs19.getD 0 dead) t59 H20).bind fun H27 =>
 (ldN 4 (vs19.getD 0 dead) H27).bind fun r28 =>
 some (.ret r28, H27))
def lv22 : List (Option An) := [none, none, none, none, none, none, none, some ⟨[4, 6], [], false, false⟩, none, some ⟨[2, 3, 4, 5, 6, 32, 33], [], false, false⟩]
theorem s22_eq (C : Cl) (n : Nat) (x0 : Value) (x1 : Value) (H : Hp) : evFn Tryd.prog C n lv22 Tryd.f22 [x0, x1] H = s22 C n x0 x1 H := by kernel_rfl
/-- bulkhead/bulkheadref08.Need -/
noncomputable def s23 (C : Cl) (n : Nat) (x0 : Value) (x1 : Value) (H : Hp) : R :=
 (bx x0).bind fun c2 =>
 let H1 := H.new (.rw c2)
 (bx x1).bind fun c4 =>
 let H3 := H1.new (.rw c4)
 let H5 := H3.new (.rw [(.bool false), (.int .u32 0), (.int .i64 0), (.int .u64 0)])
 (ldN 5 (ptr H1.next 0) H5).bind fun t6 =>
 callK (C 27 [t6] H5) pnK fun t7 H6 =>
 (bin 0 .neq t7 (.int .i64 0)).bind fun t8 =>
 (ifG t8 false ((fa 0 (ptr H1.next 0)).bind fun t10 =>
 some (t10, H6)) (some (undef, H6))).bind fun p7 =>
 (ifG t8 false ((ld p7.1 p7.2).bind fun t11 =>
 some (t11, p7.2)) (some (undef, p7.2))).bind fun p8 =>
 (ifG t8 false (callK (C 42 [p8.1] p8.2) pnN fun t12 H9 =>
 some (t12, H9)) (some (undef, p8.2))).bind fun p10 =>
 (ifG t8 false ((bin 0 .eql p10.1 (.int .i64 0)).bind fun t13 =>
 some (t13, p10.2)) (some (undef, p10.2))).bind fun p11 =>
 (pick t8 (.bool true) p11.1).bind fun t14 =>
 ifB t14 ((fillL (pl [(0, 1), (1, 1), (2, 1), (3, 1)]) [(.bool false), (.int .u32 0), (.int .i64 0), (.int .u64 0)] []).bind fun c12 =>
 (st 4 (ptr H3.next 0) (.agg c12.toArray) p11.2).bind fun H13 =>
 (ldN 4 (ptr H3.next 0) H13).bind fun r14 =>
 some (.ret r14, H13)) ((fa 0 (ptr H.next 0)).bind fun t16 =>
 (ia 16 1 t16 (.int .i64 0)).bind fun t17 =>
 (st 1 t17 (.int .u32 0) p11.2).bind fun H15 =>
 (fa 2 (ptr H1.next 0)).bind fun t18 =>
 (ld t18 H15.cl.cl).bind fun t19 =>
 (fa 0 (ptr H.next 0)).bind fun t20 =>
 (ia 16 1 t20 t19).bind fun t21 =>
 (ld t21 H15.cl.cl.cl.cl.cl).bind fun t22 =>
 (fa 4 (ptr H1.next 0)).bind fun t23 =>
 (ld t23 H15.cl.cl.cl.cl.cl.cl.cl).bind fun t24 =>
 callK (C 35 [t24] H15.cl.cl.cl.cl.cl.cl.cl.cl) pnN fun t25 H16 =>
 (bin 0 .add t22 t25).bind fun t26 =>
 (fa 0 (ptr H1.next 0)).bind fun t27 =>
 (ld t27 H16.cl.cl.cl).bind fun t28 =>
 callK (C 42 [t28] H16.cl.cl.cl.cl) pnN fun t29 H17 =>
 (fillL (pl [(0, 1), (1, 1), (2, 1), (3, 1)]) [(.bool false), (.int .u32 0), (.int .i64 0), (.int .u64 0)] [(1, t26), (2, t29)]).bind fun c18 =>
 let H19 := H17.cl.cl.new (.rw [(.bool false), (.int .u32 0), (.int .i64 0), (.int .u64 0)])
 (st 4 (ptr H17.cl.cl.next 0) (.agg c18.toArray) (H19.opn H15.lim)).bind fun H20 =>
 jn ((fa 0 (ptr H1.next 0)).bind fun t31 =>
 (ld t31 H20).bind fun t32 =>
 (bin 0 .eql t32 (.int .i64 33)).bind fun t34 =>
 ifB t34 ((fa 0 (ptr H17.cl.cl.next 0)).bind fun t35 =>
 (st 1 t35 (.bool true) H20).bind fun H23 =>
 (fa 1 (ptr H1.next 0)).bind fun t36 =>
 (ld t36 H23).bind fun t37 =>
 (fa 0 (ptr H.next 0)).bind fun t38 =>
 (ia 16 1 t38 t37).bind fun t39 =>
 (ld t39 H23).bind fun t40 =>
 (cvI .u64 t40).bind fun t41 =>
 (fa 3 (ptr H17.cl.cl.next 0)).bind fun t42 =>
 (st 1 t42 t41 H23).bind fun H24 =>
 some (.nrm [(ptr H3.next 0), (ptr H17.cl.cl.next 0)] H24)) ((bin 0 .eql t32 (.int .i64 34)).bind fun t44 =>
 ifB t44 ((fa 0 (ptr H17.cl.cl.next 0)).bind fun t45 =>
 (st 1 t45 (.bool true) H20).bind fun H25 =>
 (fa 1 (ptr H1.next 0)).bind fun t46 =>
 (ld t46 H25).bind fun t47 =>
 (fa 0 (ptr H.next 0)).bind fun t48 =>
 (ia 16 1 t48 t47).bind fun t49 =>
 (ld t49 H25).bind fun t50 =>
 (bin 0 .and t50 (.int .u32 65535)).bind fun t51 =>
 (cvI .u64 t51).bind fun t52 =>
 (fa 3 (ptr H17.cl.cl.next 0)).bind fun t53 =>
 (st 1 t53 t52 H25).bind fun H26 =>
 some (.nrm [(ptr H3.next 0), (ptr H17.cl.cl.next 0)] H26)) ((bin 0 .eql t32 (.int .i64 35)).bind fun t55 =>
 ifB t55 ((fa 0 (ptr H17.cl.cl.next 0)).bind fun t56 =>
 (st 1 t56 (.bool true) H20).bind fun H27 =>
 (fa 1 (ptr H1.next 0)).bind fun t57 =>
 (ld t57 H27).bind fun t58 =>
 (fa 0 (ptr H.next 0)).bind fun t59 =>
 (ia 16 1 t59 t58).bind fun t60 =>
 (ld t60 H27).bind fun t61 =>
 (bin 0 .and t61 (.int .u32 255)).bind fun t62 =>
 (cvI .u64 t62).bind fun t63 =>
 (fa 3 (ptr H17.cl.cl.next 0)).bind fun t64 =>
 (st 1 t64 t63 H27).bind fun H28 =>
 some (.nrm [(ptr H3.next 0), (ptr H17.cl.cl.next 0)] H28)) ((bin 0 .eql t32 (.int .i64 37)).bind fun t66 =>
 ifB t66 ((fa 0 (ptr H17.cl.cl.next 0)).bind fun t67 =>
 (st 1 t67 (.bool true) H20).bind fun H29 =>
 (fa 1 (ptr H1.next 0)).bind fun t68 =>
 (ld t68 H29).bind fun t69 =>
 (fa 16 (ptr H.next 0)).bind fun t70 =>
 (ia 8 1 t70 t69).bind fun t71 =>
 (ld t71 H29).bind fun t72 =>
 (fa 3 (ptr H17.cl.cl.next 0)).bind fun t73 =>
 (st 1 t73 t72 H29).bind fun H30 =>
 some (.nrm [(ptr H3.next 0), (ptr H17.cl.cl.next 0)] H30)) (some (.nrm [(ptr H3.next 0), (ptr H17.cl.cl.next 0)] H20)))))) pnK noX noR fun vs21 H22 =>
 (ldN 4 (vs21.getD 1 dead) H22).bind fun t74 =>
 (st 4 (vs21.getD 0 dead) t74 H22).bind fun H31 =>
 (ldN 4 (vs21.getD 0 dead) H31).bind fun r32 =>
 some (.ret r32, H31))
def lv23 : List (Option An) := [none, none, none, none, none, none, some ⟨[4, 5], [], false, false⟩]
theorem s23_eq (C : Cl) (n : Nat) (x0 : Value) (x1 : Value) (H : Hp) : evFn Tryd.prog C n lv23 Tryd.f23 [x0, x1] H = s23 C n x0 x1 H := by kernel_rfl
/-- bulkhead/bulkheadlaw08.works -/
noncomputable def s24 (C : Cl) (n : Nat)  (H : Hp) : R :=
 (fillL (pl [(0, 16), (16, 8), (24, 1)]) [(.int .u32 0), (.int .u32 0), (.int .u32 0), (.int .u32 0), (.int .u32 0), (.int .u32 0), (.int .u32 0), (.int .u32 0), (.int .u32 0), (.int .u32 0), (.int .u32 0), (.int .u32 0), (.int .u32 0), (.int .u32 0), (.int .u32 0), (.int .u32 0), (.int .u64 0), (.int .u64 0), (.int .u64 0), (.int .u64 0), (.int .u64 0), (.int .u64 0), (.int .u64 0), (.int .u64 0), (.int .u32 0)] [(2, (.int .u32 100))]).bind fun c1 =>
 let H2 := H.new (.rw [(.int .u32 0), (.int .u32 0), (.int .u32 0), (.int .u32 0), (.int .u32 0), (.int .u32 0), (.int .u32 0), (.int .u32 0), (.int .u32 0), (.int .u32 0), (.int .u32 0), (.int .u32 0), (.int .u32 0), (.int .u32 0), (.int .u32 0), (.int .u32 0), (.int .u64 0), (.int .u64 0), (.int .u64 0), (.int .u64 0), (.int .u64 0), (.int .u64 0), (.int .u64 0), (.int .u64 0), (.int .u32 0)])
 (st 25 (ptr H.next 0) (.agg c1.toArray) H2).bind fun H3 =>
 (fa 0 (ptr H.next 0)).bind fun t12 =>
 (ia 16 1 t12 (.int .i64 2)).bind fun t13 =>
 (st 1 t13 (.int .u32 7) H3).bind fun H4 =>
 (ldN 25 (ptr H.next 0) H4).bind fun t15 =>
 (fillL (pl [(0, 1), (1, 1), (2, 1), (3, 1), (4, 1)]) [(.int .i64 0), (.int .i64 0), (.int .i64 0), (.int .i64 0), (.int .i64 0)] [(0, (.int .i64 18)), (1, (.int .i64 1)), (2, (.int .i64 2)), (4, (.int .i64 (-5)))]).bind fun c5 =>
 callK (C 20 [t15, (.agg c5.toArray), (.int .u64 0)] H4) pnK fun t17 H6 =>
 (ext1 t17 0).bind fun t18 =>
 (ext1 t17 1).bind fun t19 =>
 (ext1 t17 2).bind fun t20 =>
 let H7 := H6.new (.rw [(.int .u32 0), (.int .u32 0), (.int .u32 0), (.int .u32 0), (.int .u32 0), (.int .u32 0), (.int .u32 0), (.int .u32 0), (.int .u32 0), (.int .u32 0), (.int .u32 0), (.int .u32 0), (.int .u32 0), (.int .u32 0), (.int .u32 0), (.int .u32 0), (.int .u64 0), (.int .u64 0), (.int .u64 0), (.int .u64 0), (.int .u64 0), (.int .u64 0), (.int .u64 0), (.int .u64 0), (.int .u32 0)])
 (st 25 (ptr H6.next 0) t18 H7).bind fun H8 =>
 (ldN 25 (ptr H.next 0) H8).bind fun t22 =>
 (fillL (pl [(0, 1), (1, 1), (2, 1), (3, 1), (4, 1)]) [(.int .i64 0), (.int .i64 0), (.int .i64 0), (.int .i64 0), (.int .i64 0)] [(0, (.int .i64 7)), (1, (.int .i64 1)), (2, (.int .i64 2))]).bind fun c9 =>
 callK (C 20 [t22, (.agg c9.toArray), (.int .u64 0)] H8) pnK fun t24 H10 =>
 (ext1 t24 0).bind fun t25 =>
 (ext1 t24 1).bind fun t26 =>
 (ext1 t24 2).bind fun t27 =>
 let H11 := H10.new (.rw [(.int .u32 0), (.int .u32 0), (.int .u32 0), (.int .u32 0), (.int .u32 0), (.int .u32 0), (.int .u32 0), (.int .u32 0), (.int .u32 0), (.int .u32 0), (.int .u32 0), (.int .u32 0), (.int .u32 0), (.int .u32 0), (.int .u32 0), (.int .u32 0), (.int .u64 0), (.int .u64 0), (.int .u64 0), (.int .u64 0), (.int .u64 0), (.int .u64 0), (.int .u64 0), (.int .u64 0), (.int .u32 0)])
 (st 25 (ptr H10.next 0) t25 H11).bind fun H12 =>
 (ldN 25 (ptr H.next 0) H12).bind fun t29 =>
 (fillL (pl [(0, 1), (1, 1), (2, 1), (3, 1), (4, 1)]) [(.int .i64 0), (.int .i64 0), (.int .i64 0), (.int .i64 0), (.int .i64 0)] [(0, (.int .i64 28)), (1, (.int .i64 1)), (2, (.int .i64 2)), (4, (.int .i64 2))]).bind fun c13 =>
 callK (C 20 [t29, (.agg c13.toArray), (.int .u64 0)] H12) pnK fun t31 H14 =>
 (ext1 t31 0).bind fun t32 =>
 (ext1 t31 1).bind fun t33 =>
 (ext1 t31 2).bind fun t34 =>
 let H15 := H14.new (.rw [(.int .u32 0), (.int .u32 0), (.int .u32 0), (.int .u32 0), (.int .u32 0), (.int .u32 0), (.int .u32 0), (.int .u32 0), (.int .u32 0), (.int .u32 0), (.int .u32 0), (.int .u32 0), (.int .u32 0), (.int .u32 0), (.int .u32 0), (.int .u32 0), (.int .u64 0), (.int .u64 0), (.int .u64 0), (.int .u64 0), (.int .u64 0), (.int .u64 0), (.int .u64 0), (.int .u64 0), (.int .u32 0)])
 (st 25 (ptr H14.next 0) t32 H15).bind fun H16 =>
 (fa 0 (ptr H6.next 0)).bind fun t35 =>
 (ia 16 1 t35 (.int .i64 1)).bind fun t36 =>
 (ld t36 H16).bind fun t37 =>
 (bin 0 .eql t37 (.int .u32 2)).bind fun t38 =>
 (ifG t38 true ((fa 24 (ptr H6.next 0)).bind fun t40 =>
 some (t40, H16)) (some (undef, H16))).bind fun p17 =>
 (ifG t38 true ((ld p17.1 p17.2).bind fun t41 =>
 some (t41, p17.2)) (some (undef, p17.2))).bind fun p18 =>
 (ifG t38 true ((bin 0 .eql p18.1 (.int .u32 104)).bind fun t42 =>
 some (t42, p18.2)) (some (undef, p18.2))).bind fun p19 =>
 (pick t38 p19.1 (.bool false)).bind fun t43 =>
 (ifG t43 true (some (t19, p19.2)) (some (undef, p19.2))).bind fun p20 =>
 (ifG t43 true ((bin 0 .eql p20.1 (.int .i64 0)).bind fun t46 =>
 some (t46, p20.2)) (some (undef, p20.2))).bind fun p21 =>
 (pick t43 p21.1 (.bool false)).bind fun t47 =>
 (ifG t47 true (some (t26, p21.2)) (some (undef, p21.2))).bind fun p22 =>
 (ifG t47 true ((bin 0 .eql p22.1 (.int .i64 6)).bind fun t50 =>
 some (t50, p22.2)) (some (undef, p22.2))).bind fun p23 =>
 (pick t47 p23.1 (.bool false)).bind fun t51 =>
 (ifG t51 true (some (t33, p23.2)) (some (undef, p23.2))).bind fun p24 =>
 (ifG t51 true ((bin 0 .eql p24.1 (.int .i64 5)).bind fun t54 =>
 some (t54, p24.2)) (some (undef, p24.2))).bind fun p25 =>
 (pick t51 p25.1 (.bool false)).bind fun t55 =>
 (ifG t55 true (some (t34, p25.2)) (some (undef, p25.2))).bind fun p26 =>
 (ifG t55 true ((bin 0 .eql p26.1 (.int .u32 9)).bind fun t58 =>
 some (t58, p26.2)) (some (undef, p26.2))).bind fun p27 =>
 (pick t55 p27.1 (.bool false)).bind fun t59 =>
 some (.ret t59, p27.2)
def lv24 : List (Option An) := []
theorem s24_eq (C : Cl) (n : Nat)  (H : Hp) : evFn Tryd.prog C n lv24 Tryd.f24 [] H = s24 C n  H := by kernel_rfl
/-- bulkhead/code.check -/
noncomputable def s25 (C : Cl) (n : Nat) (x0 : Value) (H : Hp) : R :=
 (bx x0).bind fun c2 =>
 let H1 := H.new (.rw c2)
 (fa 0 (ptr H.next 0)).bind fun t13 =>
 (ld t13 H1).bind fun t14 =>
 callK (C 31 [t14] H1) pnK fun t15 H3 =>
 let H4 := H3.new (.rw [(.string ⟨#[]⟩), (.int .i64 0), (.int .i64 0)])
 (st 3 (ptr H3.next 0) t15 H4).bind fun H5 =>
 (fa 1 (ptr H3.next 0)).bind fun t16 =>
 (ld t16 H5).bind fun t17 =>
 (bin 0 .eql t17 (.int .i64 0)).bind fun t18 =>
 ifB t18 (some (.ret (.int .i64 5), H5)) ((fa 0 (ptr H.next 0)).bind fun t19 =>
 (ld t19 H5).bind fun t20 =>
 (fillL (pl [(0, 1), (1, 1), (2, 1), (3, 1), (4, 1)]) [(.int .i64 0), (.int .i64 0), (.int .i64 0), (.int .i64 0), (.int .i64 0)] [(0, t20)]).bind fun c6 =>
 let H7 := H5.new (.rw [(.int .i64 0), (.int .i64 0), (.int .i64 0), (.int .i64 0), (.int .i64 0)])
 (st 5 (ptr H5.next 0) (.agg c6.toArray) H7).bind fun H8 =>
 (fa 1 (ptr H3.next 0)).bind fun t22 =>
 (ld t22 H8).bind fun t23 =>
 (ia 16 1 (ptr 1 0) t23).bind fun t24 =>
 (ld t24 H8).bind fun t25 =>
 (cvB t25 H8).bind fun p9 =>
 (len 1 p9.1 p9.2).bind fun t27 =>
 lp (fun vs10 H11 kn12 kx13 kr14 =>
 (bin 0 .lss (vs10.getD 4 dead) (vs10.getD 3 dead)).bind fun t29 =>
 ifB t29 ((sa 1 (vs10.getD 2 dead) (vs10.getD 4 dead)).bind fun t30 =>
 (ld t30 H11).bind fun t31 =>
 callK (C 43 [(vs10.getD 0 dead), t31] H11) pnK fun t34 H15 =>
 (ext1 t34 0).bind fun t35 =>
 (ext1 t34 1).bind fun t36 =>
 (ext1 t34 2).bind fun t37 =>
 (nilc t35).bind fun t39 =>
 (ld t39 H15).bind fun t40 =>
 (bin 0 .lss t40 t36).bind fun t42 =>
 (ifG t42 false (some (t35, H15)) (some (undef, H15))).bind fun p16 =>
 (ifG t42 false ((nilc p16.1).bind fun t45 =>
 some (t45, p16.2)) (some (undef, p16.2))).bind fun p17 =>
 (ifG t42 false ((ld p17.1 p17.2).bind fun t46 =>
 some (t46, p17.2)) (some (undef, p17.2))).bind fun p18 =>
 (ifG t42 false (some (t37, p18.2)) (some (undef, p18.2))).bind fun p19 =>
 (ifG t42 false ((bin 0 .gtr p18.1 p19.1).bind fun t48 =>
 some (t48, p19.2)) (some (undef, p19.2))).bind fun p20 =>
 (pick t42 (.bool true) p20.1).bind fun t49 =>
 ifB t49 (kr14 (Fr.of [1, 2, 4] [(vs10.getD 0 dead), (.int .i64 6), (vs10.getD 1 dead)]) p20.2) (callK (C 43 [(vs10.getD 1 dead), t31] p20.2) pnK fun t52 H21 =>
 (ext1 t52 0).bind fun t53 =>
 (ext1 t52 1).bind fun t54 =>
 (ext1 t52 2).bind fun t55 =>
 (nilc t35).bind fun t58 =>
 (ld t58 H21).bind fun t59 =>
 (nilc t53).bind fun t60 =>
 (st 1 t60 t59 H21).bind fun H22 =>
 (bin 0 .add (vs10.getD 4 dead) (.int .i64 1)).bind fun t61 =>
 kn12 [(vs10.getD 0 dead), (vs10.getD 1 dead), (vs10.getD 2 dead), (vs10.getD 3 dead), t61] H22)) (kx13 0 (Fr.of [1, 2, 4] [(vs10.getD 0 dead), ((Fr.of [1, 4, 26, 27, 28] vs10).g 2), (vs10.getD 1 dead)]) H11)) n [(ptr H.next 0), (ptr H5.next 0), p9.1, t27, (.int .i64 0)] p9.2 (fun j23 f24 H25 => if j23 = 0 then (ldN 5 (f24.g 4) H25).bind fun t62 =>
 (ldN 5 (f24.g 1) H25).bind fun t63 =>
 (beqA [0, 0, 0, 0, 0] .neq t62 t63).bind fun t64 =>
 ifB t64 (some (.ret (.int .i64 6), H25)) (some (.ret (.int .i64 0), H25)) else none) (fun f26 H27 => some (.ret (f26.g 2), H27)))
def lv25 : List (Option An) := [none, none, none, none, none, none, none, none, some ⟨[1, 4, 26, 27, 28], [1, 2, 4], true, true⟩]
theorem s25_eq (C : Cl) (n : Nat) (x0 : Value) (H : Hp) : evFn Tryd.prog C n lv25 Tryd.f25 [x0] H = s25 C n x0 H := by kernel_rfl
/-- bulkhead/code.hasImm -/
noncomputable def s26 (C : Cl) (n : Nat) (x0 : Value) (H : Hp) : R :=
 callK (C 31 [x0] H) pnK fun t4 H1 =>
 (fld false 1 1 t4).bind fun t5 =>
 (ia 16 1 (ptr 1 0) t5).bind fun t6 =>
 (ld t6 H1).bind fun t7 =>
 callK (C 44 [t7, (.string ⟨#[105]⟩)] H1) pnK fun t8 H2 =>
 some (.ret t8, H2)
def lv26 : List (Option An) := []
theorem s26_eq (C : Cl) (n : Nat) (x0 : Value) (H : Hp) : evFn Tryd.prog C n lv26 Tryd.f26 [x0] H = s26 C n x0 H := by kernel_rfl
/-- bulkhead/bulkheadref04.Check -/
noncomputable def s27 (C : Cl) (n : Nat) (x0 : Value) (H : Hp) : R :=
 (bx x0).bind fun c2 =>
 let H1 := H.new (.rw c2)
 (fa 0 (ptr H.next 0)).bind fun t9 =>
 (ld t9 H1).bind fun t10 =>
 callK (C 16 [t10] H1) pnK fun t11 H3 =>
 (bin 0 .eql t11 (.int .i64 0)).bind fun t13 =>
 ifB t13 (some (.ret (.int .i64 5), H3)) (callK (C 29 [t11] H3) pnK fun t15 H4 =>
 (fa 1 (ptr H.next 0)).bind fun t16 =>
 (ld t16 H4).bind fun t17 =>
 (fa 2 (ptr H.next 0)).bind fun t18 =>
 (ld t18 H4).bind fun t19 =>
 (fa 3 (ptr H.next 0)).bind fun t20 =>
 (ld t20 H4).bind fun t21 =>
 (fillL (plA 1) [(.int .i64 0), (.int .i64 0), (.int .i64 0)] [(0, t17), (1, t19), (2, t21)]).bind fun c5 =>
 let H6 := H4.new (.rw [(.int .i64 0), (.int .i64 0), (.int .i64 0)])
 (st 3 (ptr H4.next 0) (.agg c5.toArray) H6).bind fun H7 =>
 lp (fun vs8 H9 kn10 kx11 kr12 =>
 (bin 0 .lss (vs8.getD 4 dead) (.int .i64 3)).bind fun t24 =>
 ifB t24 (jn (jn ((len 0 (vs8.getD 1 dead) H9).bind fun t29 =>
 (bin 0 .lss (vs8.getD 4 dead) t29).bind fun t30 =>
 ifB t30 ((sx (vs8.getD 1 dead) (vs8.getD 4 dead)).bind fun t33 =>
 some (.nrm [(vs8.getD 0 dead), (vs8.getD 1 dead), (vs8.getD 2 dead), (vs8.getD 3 dead), (vs8.getD 4 dead), t33] H9)) (some (.nrm [(vs8.getD 0 dead), (vs8.getD 1 dead), (vs8.getD 2 dead), (vs8.getD 3 dead), (vs8.getD 4 dead), (.int .u8 45)] H9))) pnJ noX noR fun vs15 H16 =>
 (bin 0 .eql (vs15.getD 5 dead) (.int .u8 114)).bind fun t45 =>
 ifB t45 ((ia 3 1 (vs15.getD 2 dead) (vs15.getD 4 dead)).bind fun t47 =>
 (ld t47 H16).bind fun t48 =>
 (bin 0 .lss t48 (.int .i64 0)).bind fun t49 =>
 (ifG t49 false (some ((vs15.getD 4 dead), H16)) (some (undef, H16))).bind fun p17 =>
 (ifG t49 false ((ia 3 1 (vs15.getD 2 dead) p17.1).bind fun t52 =>
 some (t52, p17.2)) (some (undef, p17.2))).bind fun p18 =>
 (ifG t49 false ((ld p18.1 p18.2).bind fun t53 =>
 some (t53, p18.2)) (some (undef, p18.2))).bind fun p19 =>
 (ifG t49 false ((bin 0 .gtr p19.1 (.int .i64 15)).bind fun t54 =>
 some (t54, p19.2)) (some (undef, p19.2))).bind fun p20 =>
 (pick t49 (.bool true) p20.1).bind fun t55 =>
 ifB t55 (some (.rt (Fr.of [2] [(.int .i64 6)]) p20.2)) (some (.nrm [(vs15.getD 0 dead), (vs15.getD 1 dead), (vs15.getD 2 dead), (vs15.getD 3 dead), (vs15.getD 4 dead)] p20.2))) ((bin 0 .eql (vs15.getD 5 dead) (.int .u8 102)).bind fun t57 =>
 ifB t57 ((ia 3 1 (vs15.getD 2 dead) (vs15.getD 4 dead)).bind fun t59 =>
 (ld t59 H16).bind fun t60 =>
 (bin 0 .lss t60 (.int .i64 0)).bind fun t61 =>
 (ifG t61 false (some ((vs15.getD 4 dead), H16)) (some (undef, H16))).bind fun p21 =>
 (ifG t61 false ((ia 3 1 (vs15.getD 2 dead) p21.1).bind fun t64 =>
 some (t64, p21.2)) (some (undef, p21.2))).bind fun p22 =>
 (ifG t61 false ((ld p22.1 p22.2).bind fun t65 =>
 some (t65, p22.2)) (some (undef, p22.2))).bind fun p23 =>
 (ifG t61 false ((bin 0 .gtr p23.1 (.int .i64 7)).bind fun t66 =>
 some (t66, p23.2)) (some (undef, p23.2))).bind fun p24 =>
 (pick t61 (.bool true) p24.1).bind fun t67 =>
 ifB t67 (some (.rt (Fr.of [2] [(.int .i64 6)]) p24.2)) (some (.nrm [(vs15.getD 0 dead), (vs15.getD 1 dead), (vs15.getD 2 dead), (vs15.getD 3 dead), (vs15.getD 4 dead)] p24.2))) ((ifG (vs15.getD 3 dead) false (some ((vs15.getD 5 dead), H16)) (some (undef, H16))).bind fun p25 =>
 (ifG (vs15.getD 3 dead) false ((bin 0 .eql p25.1 (.int .u8 105)).bind fun t38 =>
 some (t38, p25.2)) (some (undef, p25.2))).bind fun p26 =>
 (pick (vs15.getD 3 dead) (.bool true) p26.1).bind fun t39 =>
 (ia 3 1 (vs15.getD 2 dead) (vs15.getD 4 dead)).bind fun t41 =>
 (ld t41 p26.2).bind fun t42 =>
 (bin 0 .neq t42 (.int .i64 0)).bind fun t43 =>
 ifB t43 (some (.rt (Fr.of [2] [(.int .i64 6)]) p26.2)) (some (.nrm [(vs15.getD 0 dead), (vs15.getD 1 dead), (vs15.getD 2 dead), t39, (vs15.getD 4 dead)] p26.2))))) pnK noX (fun f27 H28 => kr12 (Fr.of [1, 2, 6] [(f27.g 1), (f27.g 2), (f27.g 6)]) H28) fun vs13 H14 =>
 (bin 0 .add (vs13.getD 4 dead) (.int .i64 1)).bind fun t26 =>
 kn10 [(vs13.getD 0 dead), (vs13.getD 1 dead), (vs13.getD 2 dead), (vs13.getD 3 dead), t26] H14) (kx11 0 (Fr.of [1, 2, 6] [(vs8.getD 0 dead), ((Fr.of [1, 4, 5, 6, 7] vs8).g 2), (vs8.getD 3 dead)]) H9)) n [(ptr H.next 0), t15, (ptr H4.next 0), (.bool false), (.int .i64 0)] H7 (fun j29 f30 H31 => if j29 = 0 then (ifG (f30.g 6) true ((fa 0 (f30.g 1)).bind fun t70 =>
 some (t70, H31)) (some (undef, H31))).bind fun p32 =>
 (ifG (f30.g 6) true ((ld p32.1 p32.2).bind fun t71 =>
 some (t71, p32.2)) (some (undef, p32.2))).bind fun p33 =>
 (ifG (f30.g 6) true ((fa 4 (f30.g 1)).bind fun t72 =>
 some (t72, p33.2)) (some (undef, p33.2))).bind fun p34 =>
 (ifG (f30.g 6) true ((ld p34.1 p34.2).bind fun t73 =>
 some (t73, p34.2)) (some (undef, p34.2))).bind fun p35 =>
 (ifG (f30.g 6) true (callK (C 30 [p33.1, p35.1] p35.2) pnN fun t74 H36 =>
 some (t74, H36)) (some (undef, p35.2))).bind fun p37 =>
 (ifG (f30.g 6) true ((un .not p37.1).bind fun t75 =>
 some (t75, p37.2)) (some (undef, p37.2))).bind fun p38 =>
 (pick (f30.g 6) p38.1 (.bool false)).bind fun t76 =>
 (ifG t76 false (some ((f30.g 6), p38.2)) (some (undef, p38.2))).bind fun p39 =>
 (ifG t76 false ((un .not p39.1).bind fun t79 =>
 some (t79, p39.2)) (some (undef, p39.2))).bind fun p40 =>
 (ifG t76 false (some (p40.1, p40.2)) (some (undef, p40.2))).bind fun p41 =>
 (ifG p41.1 true ((fa 4 (f30.g 1)).bind fun t81 =>
 some (t81, p41.2)) (some (undef, p41.2))).bind fun p42 =>
 (ifG p41.1 true ((ld p42.1 p42.2).bind fun t82 =>
 some (t82, p42.2)) (some (undef, p42.2))).bind fun p43 =>
 (ifG p41.1 true ((bin 0 .neq p43.1 (.int .i64 0)).bind fun t83 =>
 some (t83, p43.2)) (some (undef, p43.2))).bind fun p44 =>
 (ifG t76 false ((pick p41.1 p44.1 (.bool false)).bind fun t84 =>
 some (t84, p44.2)) (some (undef, p44.2))).bind fun p45 =>
 (pick t76 (.bool true) p45.1).bind fun t85 =>
 ifB t85 (some (.ret (.int .i64 6), p45.2)) (some (.ret (.int .i64 0), p45.2)) else none) (fun f46 H47 => some (.ret (f46.g 2), H47)))
def lv27 : List (Option An) := [none, none, none, none, none, none, none, none, none, none, some ⟨[1, 4, 5, 6, 7], [1, 2, 6], true, true⟩, none, none, some ⟨[1, 4, 5, 6, 7], [2], false, true⟩, none, some ⟨[1, 4, 5, 6, 7, 8], [], false, false⟩]
theorem s27_eq (C : Cl) (n : Nat) (x0 : Value) (H : Hp) : evFn Tryd.prog C n lv27 Tryd.f27 [x0] H = s27 C n x0 H := by kernel_rfl
/-- bulkhead/code.limits -/
noncomputable def s28 (C : Cl) (n : Nat) (x0 : Value) (H : Hp) : R :=
 jn ((bin 0 .eql x0 (.int .i64 19)).bind fun t6 =>
 ifB t6 (some (.nrm [x0, t6] H)) ((bin 0 .eql x0 (.int .i64 20)).bind fun t7 =>
 ifB t7 (some (.nrm [x0, t7] H)) ((bin 0 .eql x0 (.int .i64 21)).bind fun t8 =>
 ifB t8 (some (.nrm [x0, t8] H)) ((bin 0 .eql x0 (.int .i64 27)).bind fun t9 =>
 some (.nrm [x0, t9] H))))) pnK noX noR fun vs1 H2 =>
 ifB (vs1.getD 1 dead) (some (.ret (.tuple #[(.int .i64 0), (.int .i64 65535)]), H2)) (jn ((bin 0 .eql (vs1.getD 0 dead) (.int .i64 22)).bind fun t11 =>
 ifB t11 (some (.nrm [(vs1.getD 0 dead), t11] H2)) ((bin 0 .eql (vs1.getD 0 dead) (.int .i64 23)).bind fun t12 =>
 ifB t12 (some (.nrm [(vs1.getD 0 dead), t12] H2)) ((bin 0 .eql (vs1.getD 0 dead) (.int .i64 24)).bind fun t13 =>
 some (.nrm [(vs1.getD 0 dead), t13] H2)))) pnK noX noR fun vs3 H4 =>
 ifB (vs3.getD 1 dead) (some (.ret (.tuple #[(.int .i64 0), (.int .i64 31)]), H4)) (jn ((bin 0 .eql (vs3.getD 0 dead) (.int .i64 68)).bind fun t15 =>
 ifB t15 (some (.nrm [t15] H4)) ((bin 0 .eql (vs3.getD 0 dead) (.int .i64 69)).bind fun t16 =>
 some (.nrm [t16] H4))) pnK noX noR fun vs5 H6 =>
 ifB (vs5.getD 0 dead) (some (.ret (.tuple #[(.int .i64 0), (.int .i64 9)]), H6)) (some (.ret (.tuple #[(.int .i64 (-32768)), (.int .i64 32767)]), H6))))
def lv28 : List (Option An) := [none, none, none, some ⟨[4, 5], [], false, false⟩, none, none, none, none, some ⟨[4, 10], [], false, false⟩, none, none, none, some ⟨[14], [], false, false⟩]
theorem s28_eq (C : Cl) (n : Nat) (x0 : Value) (H : Hp) : evFn Tryd.prog C n lv28 Tryd.f28 [x0] H = s28 C n x0 H := by kernel_rfl
/-- bulkhead/bulkheadref04.Operands -/
noncomputable def s29 (C : Cl) (n : Nat) (x0 : Value) (H : Hp) : R :=
 (bin 0 .eql x0 (.int .i64 2)).bind fun t5 =>
 ifB t5 (some (.ret (.string ⟨#[114, 114, 114]⟩), H)) (jn ((bin 0 .eql x0 (.int .i64 3)).bind fun t7 =>
 ifB t7 (some (.nrm [x0, t7] H)) ((bin 0 .eql x0 (.int .i64 5)).bind fun t8 =>
 ifB t8 (some (.nrm [x0, t8] H)) ((bin 0 .eql x0 (.int .i64 7)).bind fun t9 =>
 some (.nrm [x0, t9] H)))) pnK noX noR fun vs1 H2 =>
 ifB (vs1.getD 1 dead) (some (.ret (.string ⟨#[114, 114, 105]⟩), H2)) (jn ((bin 0 .eql (vs1.getD 0 dead) (.int .i64 4)).bind fun t11 =>
 ifB t11 (some (.nrm [(vs1.getD 0 dead), t11] H2)) ((bin 0 .eql (vs1.getD 0 dead) (.int .i64 8)).bind fun t12 =>
 ifB t12 (some (.nrm [(vs1.getD 0 dead), t12] H2)) ((bin 0 .eql (vs1.getD 0 dead) (.int .i64 15)).bind fun t13 =>
 some (.nrm [(vs1.getD 0 dead), t13] H2)))) pnK noX noR fun vs3 H4 =>
 ifB (vs3.getD 1 dead) (some (.ret (.string ⟨#[114, 105]⟩), H4)) ((bin 0 .eql (vs3.getD 0 dead) (.int .i64 6)).bind fun t15 =>
 ifB t15 (some (.ret (.string ⟨#[102, 114, 105]⟩), H4)) ((bin 0 .eql (vs3.getD 0 dead) (.int .i64 9)).bind fun t17 =>
 ifB t17 (some (.ret (.string ⟨#[102, 102, 102]⟩), H4)) ((bin 0 .eql (vs3.getD 0 dead) (.int .i64 10)).bind fun t19 =>
 ifB t19 (some (.ret (.string ⟨#[102, 102]⟩), H4)) ((bin 0 .eql (vs3.getD 0 dead) (.int .i64 11)).bind fun t21 =>
 ifB t21 (some (.ret (.string ⟨#[114, 102, 102]⟩), H4)) ((bin 0 .eql (vs3.getD 0 dead) (.int .i64 12)).bind fun t23 =>
 ifB t23 (some (.ret (.string ⟨#[114, 102]⟩), H4)) ((bin 0 .eql (vs3.getD 0 dead) (.int .i64 13)).bind fun t25 =>
 ifB t25 (some (.ret (.string ⟨#[102, 114]⟩), H4)) ((bin 0 .eql (vs3.getD 0 dead) (.int .i64 14)).bind fun t27 =>
 ifB t27 (some (.ret (.string ⟨#[102, 114, 114]⟩), H4)) (some (.ret (.string ⟨#[]⟩), H4)))))))))))
def lv29 : List (Option An) := [none, none, none, none, none, some ⟨[3, 6], [], false, false⟩, none, none, none, some ⟨[3, 10], [], false, false⟩]
theorem s29_eq (C : Cl) (n : Nat) (x0 : Value) (H : Hp) : evFn Tryd.prog C n lv29 Tryd.f29 [x0] H = s29 C n x0 H := by kernel_rfl
/-- bulkhead/bulkheadref04.imm -/
noncomputable def s30 (C : Cl) (n : Nat) (x0 : Value) (x1 : Value) (H : Hp) : R :=
 jn ((bin 0 .eql x0 (.int .i64 19)).bind fun t7 =>
 ifB t7 (some (.nrm [x1, x0, t7] H)) ((bin 0 .eql x0 (.int .i64 20)).bind fun t8 =>
 ifB t8 (some (.nrm [x1, x0, t8] H)) ((bin 0 .eql x0 (.int .i64 21)).bind fun t9 =>
 ifB t9 (some (.nrm [x1, x0, t9] H)) ((bin 0 .eql x0 (.int .i64 27)).bind fun t10 =>
 some (.nrm [x1, x0, t10] H))))) pnK noX noR fun vs1 H2 =>
 ifB (vs1.getD 2 dead) ((bin 0 .geq (vs1.getD 0 dead) (.int .i64 0)).bind fun t12 =>
 (ifG t12 true (some ((vs1.getD 0 dead), H2)) (some (undef, H2))).bind fun p3 =>
 (ifG t12 true ((bin 0 .leq p3.1 (.int .i64 65535)).bind fun t15 =>
 some (t15, p3.2)) (some (undef, p3.2))).bind fun p4 =>
 (pick t12 p4.1 (.bool false)).bind fun t16 =>
 some (.ret t16, p4.2)) (jn ((bin 0 .eql (vs1.getD 1 dead) (.int .i64 22)).bind fun t18 =>
 ifB t18 (some (.nrm [(vs1.getD 0 dead), (vs1.getD 1 dead), t18] H2)) ((bin 0 .eql (vs1.getD 1 dead) (.int .i64 23)).bind fun t19 =>
 ifB t19 (some (.nrm [(vs1.getD 0 dead), (vs1.getD 1 dead), t19] H2)) ((bin 0 .eql (vs1.getD 1 dead) (.int .i64 24)).bind fun t20 =>
 some (.nrm [(vs1.getD 0 dead), (vs1.getD 1 dead), t20] H2)))) pnK noX noR fun vs5 H6 =>
 ifB (vs5.getD 2 dead) ((bin 0 .geq (vs5.getD 0 dead) (.int .i64 0)).bind fun t22 =>
 (ifG t22 true (some ((vs5.getD 0 dead), H6)) (some (undef, H6))).bind fun p7 =>
 (ifG t22 true ((bin 0 .leq p7.1 (.int .i64 31)).bind fun t25 =>
 some (t25, p7.2)) (some (undef, p7.2))).bind fun p8 =>
 (pick t22 p8.1 (.bool false)).bind fun t26 =>
 some (.ret t26, p8.2)) (jn ((bin 0 .eql (vs5.getD 1 dead) (.int .i64 68)).bind fun t28 =>
 ifB t28 (some (.nrm [(vs5.getD 0 dead), t28] H6)) ((bin 0 .eql (vs5.getD 1 dead) (.int .i64 69)).bind fun t29 =>
 some (.nrm [(vs5.getD 0 dead), t29] H6))) pnK noX noR fun vs9 H10 =>
 ifB (vs9.getD 1 dead) ((bin 0 .geq (vs9.getD 0 dead) (.int .i64 0)).bind fun t31 =>
 (ifG t31 true (some ((vs9.getD 0 dead), H10)) (some (undef, H10))).bind fun p11 =>
 (ifG t31 true ((bin 0 .lss p11.1 (.int .i64 10)).bind fun t34 =>
 some (t34, p11.2)) (some (undef, p11.2))).bind fun p12 =>
 (pick t31 p12.1 (.bool false)).bind fun t35 =>
 some (.ret t35, p12.2)) ((bin 0 .geq (vs9.getD 0 dead) (.int .i64 (-32768))).bind fun t37 =>
 (ifG t37 true (some ((vs9.getD 0 dead), H10)) (some (undef, H10))).bind fun p13 =>
 (ifG t37 true ((bin 0 .leq p13.1 (.int .i64 32767)).bind fun t40 =>
 some (t40, p13.2)) (some (undef, p13.2))).bind fun p14 =>
 (pick t37 p14.1 (.bool false)).bind fun t41 =>
 some (.ret t41, p14.2))))
def lv30 : List (Option An) := [none, none, none, some ⟨[1, 5, 6], [], false, false⟩, none, none, none, none, some ⟨[1, 5, 17], [], false, false⟩, none, none, none, some ⟨[1, 27], [], false, false⟩]
theorem s30_eq (C : Cl) (n : Nat) (x0 : Value) (x1 : Value) (H : Hp) : evFn Tryd.prog C n lv30 Tryd.f30 [x0, x1] H = s30 C n x0 x1 H := by kernel_rfl
/-- bulkhead/code.of -/
noncomputable def s31 (C : Cl) (n : Nat) (x0 : Value) (H : Hp) : R :=
 let H1 := H.new (.rw [(.string ⟨#[]⟩), (.int .i64 0), (.int .i64 0)])
 (bin 0 .lss x0 (.int .i64 0)).bind fun t4 =>
 (ifG t4 false (some (x0, H1)) (some (undef, H1))).bind fun p2 =>
 (ifG t4 false (callK (C 45 [] p2.2) pnN fun t7 H3 =>
 some (t7, H3)) (some (undef, p2.2))).bind fun p4 =>
 (ifG t4 false (some ((.int .i64 72), p4.2)) (some (undef, p4.2))).bind fun p5 =>
 (ifG t4 false ((bin 0 .geq p2.1 p5.1).bind fun t9 =>
 some (t9, p5.2)) (some (undef, p5.2))).bind fun p6 =>
 (pick t4 (.bool true) p6.1).bind fun t10 =>
 ifB t10 ((fillL (pl [(0, 1), (1, 1), (2, 1)]) [(.string ⟨#[]⟩), (.int .i64 0), (.int .i64 0)] []).bind fun c7 =>
 (st 3 (ptr H.next 0) (.agg c7.toArray) p6.2).bind fun H8 =>
 (ldN 3 (ptr H.next 0) H8).bind fun r9 =>
 some (.ret r9, H8)) (callK (C 45 [] p6.2) pnK fun t12 H10 =>
 (ix true 72 3 t12 x0).bind fun t14 =>
 (st 3 (ptr H.next 0) t14 H10).bind fun H11 =>
 (ldN 3 (ptr H.next 0) H11).bind fun r12 =>
 some (.ret r12, H11))
def lv31 : List (Option An) := []
theorem s31_eq (C : Cl) (n : Nat) (x0 : Value) (H : Hp) : evFn Tryd.prog C n lv31 Tryd.f31 [x0] H = s31 C n x0 H := by kernel_rfl
/-- bulkhead/exec.plain -/
noncomputable def s32 (C : Cl) (n : Nat) (x0 : Value) (H : Hp) : R :=
 (bx x0).bind fun c2 =>
 let H1 := H.new (.rw c2)
 let H3 := H1.new (.rw [(.int .u32 0), (.int .u32 0), (.int .u32 0), (.int .u32 0), (.int .u32 0), (.int .u32 0), (.int .u32 0), (.int .u32 0), (.int .u32 0), (.int .u32 0), (.int .u32 0), (.int .u32 0), (.int .u32 0), (.int .u32 0), (.int .u32 0), (.int .u32 0), (.int .u64 0), (.int .u64 0), (.int .u64 0), (.int .u64 0), (.int .u64 0), (.int .u64 0), (.int .u64 0), (.int .u64 0), (.int .u32 0)])
 (fa 0 (ptr H.next 0)).bind fun t3 =>
 (ia 16 1 t3 (.int .i64 0)).bind fun t4 =>
 (st 1 t4 (.int .u32 0) H3).bind fun H4 =>
 (ldN 25 (ptr H.next 0) H4).bind fun t5 =>
 (st 25 (ptr H1.next 0) t5 H4).bind fun H5 =>
 (ldN 25 (ptr H1.next 0) H5).bind fun r6 =>
 some (.ret r6, H5)
def lv32 : List (Option An) := []
theorem s32_eq (C : Cl) (n : Nat) (x0 : Value) (H : Hp) : evFn Tryd.prog C n lv32 Tryd.f32 [x0] H = s32 C n x0 H := by kernel_rfl
/-- bulkhead/exec.right -/
noncomputable def s33 (C : Cl) (n : Nat) (x0 : Value) (H : Hp) : R :=
 (bx x0).bind fun c2 =>
 let H1 := H.new (.rw c2)
 (ldN 5 (ptr H.next 0) H1).bind fun t6 =>
 callK (C 9 [t6] H1) pnK fun t7 H3 =>
 (ext1 t7 0).bind fun t8 =>
 (ext1 t7 1).bind fun t9 =>
 (bin 0 .eql t9 (.int .i64 0)).bind fun t11 =>
 some (.ret t11, H3)
def lv33 : List (Option An) := []
theorem s33_eq (C : Cl) (n : Nat) (x0 : Value) (H : Hp) : evFn Tryd.prog C n lv33 Tryd.f33 [x0] H = s33 C n x0 H := by kernel_rfl
/-- (*bulkhead/exec.step).do -/
noncomputable def s34 (C : Cl) (n : Nat) (x0 : Value) (H : Hp) : R :=
 (nilc x0).bind fun t8 =>
 (fa 0 t8).bind fun t9 =>
 (ldN 25 t9 H.cl.cl.cl.cl).bind fun t10 =>
 (nilc x0).bind fun t12 =>
 (fa 25 t12).bind fun t13 =>
 ((rdA t13).map fun c => [c]).bind fun r1 =>
 (ldN 5 t13 H.cl.cl.cl.cl.cl.cl.cl.cl).bind fun t14 =>
 let H2 := H.cl.cl.cl.cl.cl.cl.cl.cl.cl.new (.rw [(.int .u32 0), (.int .u32 0), (.int .u32 0), (.int .u32 0), (.int .u32 0), (.int .u32 0), (.int .u32 0), (.int .u32 0), (.int .u32 0), (.int .u32 0), (.int .u32 0), (.int .u32 0), (.int .u32 0), (.int .u32 0), (.int .u32 0), (.int .u32 0), (.int .u64 0), (.int .u64 0), (.int .u64 0), (.int .u64 0), (.int .u64 0), (.int .u64 0), (.int .u64 0), (.int .u64 0), (.int .u32 0)])
 let H3 := H2.cl.new (.rw [(.int .i64 0), (.int .i64 0), (.int .i64 0), (.int .i64 0), (.int .i64 0)])
 (rdA (ptr H.cl.cl.cl.cl.cl.cl.cl.cl.cl.next 0)).bind fun b4 => bif memN b4 (r1 ++ []) then none else (st 25 (ptr H.cl.cl.cl.cl.cl.cl.cl.cl.cl.next 0) t10 (H3.cl.opn H.lim)).bind fun H5 =>
 (st 5 (ptr H2.cl.next 0) t14 H5).bind fun H6 =>
 (fa 4 (ptr H2.cl.next 0)).bind fun t15 =>
 (ld t15 H6).bind fun t16 =>
 (cvI .u32 t16).bind fun t17 =>
 (fa 0 (ptr H2.cl.next 0)).bind fun t19 =>
 (ld t19 H6).bind fun t20 =>
 callK (C 15 [t20] H6) pnK fun t21 H7 =>
 jn ((bin 0 .eql t21 (.int .i64 1)).bind fun t24 =>
 ifB t24 (ifB t24 ((fa 0 (ptr H2.cl.next 0)).bind fun t42 =>
 (ld t42 H7).bind fun t43 =>
 (bin 0 .eql t43 (.int .i64 1)).bind fun t44 =>
 ifB t44 ((nilc x0).bind fun t46 =>
 (fa 0 t46).bind fun t47 =>
 (fa 24 t47).bind fun t48 =>
 (ld t48 H7).bind fun t49 =>
 (bin 0 .add t49 (.int .u32 4)).bind fun t50 =>
 (nilc x0).bind fun t51 =>
 (fa 0 t51).bind fun t52 =>
 (fa 24 t52).bind fun t53 =>
 (st 1 t53 t50 H7).bind fun H10 =>
 some (.ex 0 (Fr.of [0, 2, 3, 4, 6] [x0, (ptr H.cl.cl.cl.cl.cl.cl.cl.cl.cl.next 0), (ptr H2.cl.next 0), t17, t21]) H10)) (some (.ex 0 (Fr.of [0, 2, 3, 4, 6] [x0, (ptr H.cl.cl.cl.cl.cl.cl.cl.cl.cl.next 0), (ptr H2.cl.next 0), t17, t21]) H7))) ((bin 0 .eql t21 (.int .i64 2)).bind fun t27 =>
 ifB t27 ((fa 3 (ptr H2.cl.next 0)).bind fun t54 =>
 (ld t54 H7).bind fun t55 =>
 (fa 0 (ptr H.cl.cl.cl.cl.cl.cl.cl.cl.cl.next 0)).bind fun t56 =>
 (ia 16 1 t56 t55).bind fun t57 =>
 (ld t57 H7).bind fun t58 =>
 some (.nrm [x0, (ptr H.cl.cl.cl.cl.cl.cl.cl.cl.cl.next 0), (ptr H2.cl.next 0), t58] H7)) ((bin 0 .eql t21 (.int .i64 3)).bind fun t29 =>
 ifB t29 (some (.nrm [x0, (ptr H.cl.cl.cl.cl.cl.cl.cl.cl.cl.next 0), (ptr H2.cl.next 0), t17] H7)) ((bin 0 .eql t21 (.int .i64 4)).bind fun t31 =>
 ifB t31 (some (.ex 4 (Fr.of [0, 2, 3, 4, 6] [x0, (ptr H.cl.cl.cl.cl.cl.cl.cl.cl.cl.next 0), (ptr H2.cl.next 0), t17, t21]) H7)) ((bin 0 .eql t21 (.int .i64 5)).bind fun t33 =>
 ifB t33 (ifB t33 (some (.ex 5 (Fr.of [0, 2, 3, 4, 6] [x0, (ptr H.cl.cl.cl.cl.cl.cl.cl.cl.cl.next 0), (ptr H2.cl.next 0), t17, t21]) H7)) ((bin 0 .eql t21 (.int .i64 7)).bind fun t36 =>
 ifB t36 (some (.ex 6 (Fr.of [0, 2, 3, 4, 6] [x0, (ptr H.cl.cl.cl.cl.cl.cl.cl.cl.cl.next 0), (ptr H2.cl.next 0), t17, t21]) H7)) ((bin 0 .eql t21 (.int .i64 8)).bind fun t38 =>
 ifB t38 (some (.ex 7 (Fr.of [0, 2, 3, 4, 6] [x0, (ptr H.cl.cl.cl.cl.cl.cl.cl.cl.cl.next 0), (ptr H2.cl.next 0), t17, t21]) H7)) ((bin 0 .eql t21 (.int .i64 9)).bind fun t40 =>
 ifB t40 (ifB t40 (some (.ex 8 (Fr.of [0, 2, 3, 4, 6] [x0, (ptr H.cl.cl.cl.cl.cl.cl.cl.cl.cl.next 0), (ptr H2.cl.next 0), t17, t21]) H7)) (some (.ex 9 (Fr.of [0, 2, 3, 4, 6] [x0, (ptr H.cl.cl.cl.cl.cl.cl.cl.cl.cl.next 0), (ptr H2.cl.next 0), t17, t21]) H7))) ((bin 0 .eql t21 (.int .i64 10)).bind fun t41 =>
 ifB t41 (some (.ex 8 (Fr.of [0, 2, 3, 4, 6] [x0, (ptr H.cl.cl.cl.cl.cl.cl.cl.cl.cl.next 0), (ptr H2.cl.next 0), t17, t21]) H7)) (some (.ex 9 (Fr.of [0, 2, 3, 4, 6] [x0, (ptr H.cl.cl.cl.cl.cl.cl.cl.cl.cl.next 0), (ptr H2.cl.next 0), t17, t21]) H7))))))) ((bin 0 .eql t21 (.int .i64 6)).bind fun t34 =>
 ifB t34 (some (.ex 5 (Fr.of [0, 2, 3, 4, 6] [x0, (ptr H.cl.cl.cl.cl.cl.cl.cl.cl.cl.next 0), (ptr H2.cl.next 0), t17, t21]) H7)) ((bin 0 .eql t21 (.int .i64 7)).bind fun t36 =>
 ifB t36 (some (.ex 6 (Fr.of [0, 2, 3, 4, 6] [x0, (ptr H.cl.cl.cl.cl.cl.cl.cl.cl.cl.next 0), (ptr H2.cl.next 0), t17, t21]) H7)) ((bin 0 .eql t21 (.int .i64 8)).bind fun t38 =>
 ifB t38 (some (.ex 7 (Fr.of [0, 2, 3, 4, 6] [x0, (ptr H.cl.cl.cl.cl.cl.cl.cl.cl.cl.next 0), (ptr H2.cl.next 0), t17, t21]) H7)) ((bin 0 .eql t21 (.int .i64 9)).bind fun t40 =>
 ifB t40 (ifB t40 (some (.ex 8 (Fr.of [0, 2, 3, 4, 6] [x0, (ptr H.cl.cl.cl.cl.cl.cl.cl.cl.cl.next 0), (ptr H2.cl.next 0), t17, t21]) H7)) (some (.ex 9 (Fr.of [0, 2, 3, 4, 6] [x0, (ptr H.cl.cl.cl.cl.cl.cl.cl.cl.cl.next 0), (ptr H2.cl.next 0), t17, t21]) H7))) ((bin 0 .eql t21 (.int .i64 10)).bind fun t41 =>
 ifB t41 (some (.ex 8 (Fr.of [0, 2, 3, 4, 6] [x0, (ptr H.cl.cl.cl.cl.cl.cl.cl.cl.cl.next 0), (ptr H2.cl.next 0), t17, t21]) H7)) (some (.ex 9 (Fr.of [0, 2, 3, 4, 6] [x0, (ptr H.cl.cl.cl.cl.cl.cl.cl.cl.cl.next 0), (ptr H2.cl.next 0), t17, t21]) H7)))))))))))) ((bin 0 .eql t21 (.int .i64 15)).bind fun t25 =>
 ifB t25 ((fa 0 (ptr H2.cl.next 0)).bind fun t42 =>
 (ld t42 H7).bind fun t43 =>
 (bin 0 .eql t43 (.int .i64 1)).bind fun t44 =>
 ifB t44 ((nilc x0).bind fun t46 =>
 (fa 0 t46).bind fun t47 =>
 (fa 24 t47).bind fun t48 =>
 (ld t48 H7).bind fun t49 =>
 (bin 0 .add t49 (.int .u32 4)).bind fun t50 =>
 (nilc x0).bind fun t51 =>
 (fa 0 t51).bind fun t52 =>
 (fa 24 t52).bind fun t53 =>
 (st 1 t53 t50 H7).bind fun H11 =>
 some (.ex 0 (Fr.of [0, 2, 3, 4, 6] [x0, (ptr H.cl.cl.cl.cl.cl.cl.cl.cl.cl.next 0), (ptr H2.cl.next 0), t17, t21]) H11)) (some (.ex 0 (Fr.of [0, 2, 3, 4, 6] [x0, (ptr H.cl.cl.cl.cl.cl.cl.cl.cl.cl.next 0), (ptr H2.cl.next 0), t17, t21]) H7))) ((bin 0 .eql t21 (.int .i64 2)).bind fun t27 =>
 ifB t27 ((fa 3 (ptr H2.cl.next 0)).bind fun t54 =>
 (ld t54 H7).bind fun t55 =>
 (fa 0 (ptr H.cl.cl.cl.cl.cl.cl.cl.cl.cl.next 0)).bind fun t56 =>
 (ia 16 1 t56 t55).bind fun t57 =>
 (ld t57 H7).bind fun t58 =>
 some (.nrm [x0, (ptr H.cl.cl.cl.cl.cl.cl.cl.cl.cl.next 0), (ptr H2.cl.next 0), t58] H7)) ((bin 0 .eql t21 (.int .i64 3)).bind fun t29 =>
 ifB t29 (some (.nrm [x0, (ptr H.cl.cl.cl.cl.cl.cl.cl.cl.cl.next 0), (ptr H2.cl.next 0), t17] H7)) ((bin 0 .eql t21 (.int .i64 4)).bind fun t31 =>
 ifB t31 (some (.ex 4 (Fr.of [0, 2, 3, 4, 6] [x0, (ptr H.cl.cl.cl.cl.cl.cl.cl.cl.cl.next 0), (ptr H2.cl.next 0), t17, t21]) H7)) ((bin 0 .eql t21 (.int .i64 5)).bind fun t33 =>
 ifB t33 (ifB t33 (some (.ex 5 (Fr.of [0, 2, 3, 4, 6] [x0, (ptr H.cl.cl.cl.cl.cl.cl.cl.cl.cl.next 0), (ptr H2.cl.next 0), t17, t21]) H7)) ((bin 0 .eql t21 (.int .i64 7)).bind fun t36 =>
 ifB t36 (some (.ex 6 (Fr.of [0, 2, 3, 4, 6] [x0, (ptr H.cl.cl.cl.cl.cl.cl.cl.cl.cl.next 0), (ptr H2.cl.next 0), t17, t21]) H7)) ((bin 0 .eql t21 (.int .i64 8)).bind fun t38 =>
 ifB t38 (some (.ex 7 (Fr.of [0, 2, 3, 4, 6] [x0, (ptr H.cl.cl.cl.cl.cl.cl.cl.cl.cl.next 0), (ptr H2.cl.next 0), t17, t21]) H7)) ((bin 0 .eql t21 (.int .i64 9)).bind fun t40 =>
 ifB t40 (ifB t40 (some (.ex 8 (Fr.of [0, 2, 3, 4, 6] [x0, (ptr H.cl.cl.cl.cl.cl.cl.cl.cl.cl.next 0), (ptr H2.cl.next 0), t17, t21]) H7)) (some (.ex 9 (Fr.of [0, 2, 3, 4, 6] [x0, (ptr H.cl.cl.cl.cl.cl.cl.cl.cl.cl.next 0), (ptr H2.cl.next 0), t17, t21]) H7))) ((bin 0 .eql t21 (.int .i64 10)).bind fun t41 =>
 ifB t41 (some (.ex 8 (Fr.of [0, 2, 3, 4, 6] [x0, (ptr H.cl.cl.cl.cl.cl.cl.cl.cl.cl.next 0), (ptr H2.cl.next 0), t17, t21]) H7)) (some (.ex 9 (Fr.of [0, 2, 3, 4, 6] [x0, (ptr H.cl.cl.cl.cl.cl.cl.cl.cl.cl.next 0), (ptr H2.cl.next 0), t17, t21]) H7))))))) ((bin 0 .eql t21 (.int .i64 6)).bind fun t34 =>
 ifB t34 (some (.ex 5 (Fr.of [0, 2, 3, 4, 6] [x0, (ptr H.cl.cl.cl.cl.cl.cl.cl.cl.cl.next 0), (ptr H2.cl.next 0), t17, t21]) H7)) ((bin 0 .eql t21 (.int .i64 7)).bind fun t36 =>
 ifB t36 (some (.ex 6 (Fr.of [0, 2, 3, 4, 6] [x0, (ptr H.cl.cl.cl.cl.cl.cl.cl.cl.cl.next 0), (ptr H2.cl.next 0), t17, t21]) H7)) ((bin 0 .eql t21 (.int .i64 8)).bind fun t38 =>
 ifB t38 (some (.ex 7 (Fr.of [0, 2, 3, 4, 6] [x0, (ptr H.cl.cl.cl.cl.cl.cl.cl.cl.cl.next 0), (ptr H2.cl.next 0), t17, t21]) H7)) ((bin 0 .eql t21 (.int .i64 9)).bind fun t40 =>
 ifB t40 (ifB t40 (some (.ex 8 (Fr.of [0, 2, 3, 4, 6] [x0, (ptr H.cl.cl.cl.cl.cl.cl.cl.cl.cl.next 0), (ptr H2.cl.next 0), t17, t21]) H7)) (some (.ex 9 (Fr.of [0, 2, 3, 4, 6] [x0, (ptr H.cl.cl.cl.cl.cl.cl.cl.cl.cl.next 0), (ptr H2.cl.next 0), t17, t21]) H7))) ((bin 0 .eql t21 (.int .i64 10)).bind fun t41 =>
 ifB t41 (some (.ex 8 (Fr.of [0, 2, 3, 4, 6] [x0, (ptr H.cl.cl.cl.cl.cl.cl.cl.cl.cl.next 0), (ptr H2.cl.next 0), t17, t21]) H7)) (some (.ex 9 (Fr.of [0, 2, 3, 4, 6] [x0, (ptr H.cl.cl.cl.cl.cl.cl.cl.cl.cl.next 0), (ptr H2.cl.next 0), t17, t21]) H7))))))))))))) pnK (fun j13 f14 H15 => if j13 = 4 then callK (C 46 [(f14.g 0), (.int .u32 0), (f14.g 4)] H15) pnK fun t69 H16 =>
 some (.ret (.tuple #[]), H16) else if j13 = 5 then callK (C 47 [(f14.g 0), (f14.g 4)] H15) pnK fun t72 H17 =>
 some (.ret (.tuple #[]), H17) else if j13 = 6 then callK (C 48 [(f14.g 0), (f14.g 4)] H15) pnK fun t75 H18 =>
 some (.ret (.tuple #[]), H18) else if j13 = 7 then (fa 1 (f14.g 3)).bind fun t77 =>
 (ld t77 H15.cl.cl.cl).bind fun t78 =>
 (fa 24 (f14.g 2)).bind fun t79 =>
 (ld t79 H15.cl.cl.cl.cl.cl).bind fun t80 =>
 (bin 0 .add t80 (.int .u32 4)).bind fun t81 =>
 (nilc (f14.g 0)).bind fun t82 =>
 (fa 0 t82).bind fun t83 =>
 (fa 0 t83).bind fun t84 =>
 (ia 16 1 t84 t78).bind fun t85 =>
 (st 1 t85 t81 (H15.cl.cl.cl.cl.cl.cl.cl.cl.cl.opn H15.lim)).bind fun H19 =>
 (fa 24 (f14.g 2)).bind fun t87 =>
 (ld t87 H19).bind fun t88 =>
 (bin 0 .mul (.int .u32 4) (f14.g 4)).bind fun t90 =>
 (bin 0 .add t88 t90).bind fun t91 =>
 callK (C 49 [(f14.g 0), t91] H19) pnK fun t92 H20 =>
 some (.ret (.tuple #[]), H20) else if j13 = 8 then callK (C 50 [(f14.g 0), (f14.g 6)] H15) pnK fun t95 H21 =>
 some (.ret (.tuple #[]), H21) else if j13 = 9 then callK (C 51 [(f14.g 0)] H15) pnK fun t97 H22 =>
 some (.ret (.tuple #[]), H22) else if j13 = 0 then some (.ret (.tuple #[]), H15) else none) noR fun vs8 H9 =>
 (fa 2 (vs8.getD 2 dead)).bind fun t60 =>
 (ld t60 H9).bind fun t61 =>
 (fa 0 (vs8.getD 1 dead)).bind fun t62 =>
 (ia 16 1 t62 t61).bind fun t63 =>
 (ld t63 H9).bind fun t64 =>
 callK (C 46 [(vs8.getD 0 dead), t64, (vs8.getD 3 dead)] H9) pnK fun t66 H12 =>
 some (.ret (.tuple #[]), H12)
def lv34 : List (Option An) := [none, none, none, none, none, none, none, none, none, none, none, some ⟨[0, 2, 3, 5], [0, 2, 3, 4, 6], true, false⟩]
theorem s34_eq (C : Cl) (n : Nat) (x0 : Value) (H : Hp) : evFn Tryd.prog C n lv34 Tryd.f34 [x0] H = s34 C n x0 H := by kernel_rfl
/-- bulkhead/bulkheadref01.Word -/
noncomputable def s35 (C : Cl) (n : Nat) (x0 : Value) (H : Hp) : R :=
 (bin 0 .and x0 (.int .i64 4294967295)).bind fun t4 =>
 (cvI .u32 t4).bind fun t5 =>
 some (.ret t5, H)
def lv35 : List (Option An) := []
theorem s35_eq (C : Cl) (n : Nat) (x0 : Value) (H : Hp) : evFn Tryd.prog C n lv35 Tryd.f35 [x0] H = s35 C n x0 H := by kernel_rfl
/-- bulkhead/bulkheadref01.Alu -/
noncomputable def s36 (C : Cl) (n : Nat) (x0 : Value) (x1 : Value) (x2 : Value) (H : Hp) : R :=
 callK (C 52 [x1] H) pnK fun t12 H1 =>
 callK (C 52 [x2] H1) pnK fun t14 H2 =>
 jn ((bin 0 .eql x0 (.int .i64 2)).bind fun t17 =>
 ifB t17 (some (.nrm [x0, x1, x2, t12, t14, x0, t17] H2)) ((bin 0 .eql x0 (.int .i64 18)).bind fun t18 =>
 some (.nrm [x0, x1, x2, t12, t14, x0, t18] H2))) pnK noX noR fun vs3 H4 =>
 ifB (vs3.getD 6 dead) ((bin 0 .add (vs3.getD 3 dead) (vs3.getD 4 dead)).bind fun t21 =>
 callK (C 35 [t21] H4) pnK fun t22 H5 =>
 some (.ret (.tuple #[t22, (.int .i64 0)]), H5)) ((bin 0 .eql (vs3.getD 5 dead) (.int .i64 3)).bind fun t24 =>
 ifB t24 ((bin 0 .sub (vs3.getD 3 dead) (vs3.getD 4 dead)).bind fun t27 =>
 callK (C 35 [t27] H4) pnK fun t28 H6 =>
 some (.ret (.tuple #[t28, (.int .i64 0)]), H6)) ((bin 0 .eql (vs3.getD 5 dead) (.int .i64 4)).bind fun t30 =>
 ifB t30 ((cvI .u64 (vs3.getD 1 dead)).bind fun t32 =>
 (cvI .u64 (vs3.getD 2 dead)).bind fun t34 =>
 (bin 0 .mul t32 t34).bind fun t35 =>
 (bin 0 .rem t35 (.int .u64 4294967296)).bind fun t36 =>
 (cvI .u32 t36).bind fun t37 =>
 some (.ret (.tuple #[t37, (.int .i64 0)]), H4)) ((bin 0 .eql (vs3.getD 5 dead) (.int .i64 5)).bind fun t39 =>
 ifB t39 ((bin 0 .mul (vs3.getD 3 dead) (vs3.getD 4 dead)).bind fun t42 =>
 (bin 0 .and t42 (.int .i64 4294967295)).bind fun t45 =>
 (bin 0 .sub t42 t45).bind fun t46 =>
 (bin 0 .quo t46 (.int .i64 4294967296)).bind fun t47 =>
 callK (C 35 [t47] H4) pnK fun t48 H7 =>
 some (.ret (.tuple #[t48, (.int .i64 0)]), H7)) (jn ((bin 0 .eql (vs3.getD 5 dead) (.int .i64 6)).bind fun t50 =>
 ifB t50 (some (.nrm [(vs3.getD 0 dead), (vs3.getD 1 dead), (vs3.getD 2 dead), (vs3.getD 3 dead), (vs3.getD 4 dead), (vs3.getD 5 dead), t50] H4)) ((bin 0 .eql (vs3.getD 5 dead) (.int .i64 8)).bind fun t51 =>
 ifB t51 (some (.nrm [(vs3.getD 0 dead), (vs3.getD 1 dead), (vs3.getD 2 dead), (vs3.getD 3 dead), (vs3.getD 4 dead), (vs3.getD 5 dead), t51] H4)) ((bin 0 .eql (vs3.getD 5 dead) (.int .i64 7)).bind fun t52 =>
 ifB t52 (some (.nrm [(vs3.getD 0 dead), (vs3.getD 1 dead), (vs3.getD 2 dead), (vs3.getD 3 dead), (vs3.getD 4 dead), (vs3.getD 5 dead), t52] H4)) ((bin 0 .eql (vs3.getD 5 dead) (.int .i64 9)).bind fun t53 =>
 some (.nrm [(vs3.getD 0 dead), (vs3.getD 1 dead), (vs3.getD 2 dead), (vs3.getD 3 dead), (vs3.getD 4 dead), (vs3.getD 5 dead), t53] H4))))) pnK noX noR fun vs8 H9 =>
 ifB (vs8.getD 6 dead) ((bin 0 .eql (vs8.getD 2 dead) (.int .u32 0)).bind fun t55 =>
 ifB t55 (some (.ret (.tuple #[(.int .u32 0), (.int .i64 10)]), H9)) (callK (C 53 [(vs8.getD 0 dead), (vs8.getD 1 dead), (vs8.getD 2 dead)] H9) pnK fun t59 H10 =>
 some (.ret (.tuple #[t59, (.int .i64 0)]), H10))) (jn ((bin 0 .eql (vs8.getD 5 dead) (.int .i64 10)).bind fun t61 =>
 ifB t61 (some (.nrm [(vs8.getD 0 dead), (vs8.getD 1 dead), (vs8.getD 2 dead), (vs8.getD 3 dead), (vs8.getD 4 dead), (vs8.getD 5 dead), t61] H9)) ((bin 0 .eql (vs8.getD 5 dead) (.int .i64 19)).bind fun t62 =>
 some (.nrm [(vs8.getD 0 dead), (vs8.getD 1 dead), (vs8.getD 2 dead), (vs8.getD 3 dead), (vs8.getD 4 dead), (vs8.getD 5 dead), t62] H9))) pnK noX noR fun vs11 H12 =>
 ifB (vs11.getD 6 dead) ((bin 0 .and (vs11.getD 1 dead) (vs11.getD 2 dead)).bind fun t65 =>
 some (.ret (.tuple #[t65, (.int .i64 0)]), H12)) (jn ((bin 0 .eql (vs11.getD 5 dead) (.int .i64 11)).bind fun t67 =>
 ifB t67 (some (.nrm [(vs11.getD 0 dead), (vs11.getD 1 dead), (vs11.getD 2 dead), (vs11.getD 3 dead), (vs11.getD 4 dead), (vs11.getD 5 dead), t67] H12)) ((bin 0 .eql (vs11.getD 5 dead) (.int .i64 20)).bind fun t68 =>
 some (.nrm [(vs11.getD 0 dead), (vs11.getD 1 dead), (vs11.getD 2 dead), (vs11.getD 3 dead), (vs11.getD 4 dead), (vs11.getD 5 dead), t68] H12))) pnK noX noR fun vs13 H14 =>
 ifB (vs13.getD 6 dead) ((bin 0 .or (vs13.getD 1 dead) (vs13.getD 2 dead)).bind fun t71 =>
 some (.ret (.tuple #[t71, (.int .i64 0)]), H14)) (jn ((bin 0 .eql (vs13.getD 5 dead) (.int .i64 12)).bind fun t73 =>
 ifB t73 (some (.nrm [(vs13.getD 0 dead), (vs13.getD 1 dead), (vs13.getD 2 dead), (vs13.getD 3 dead), (vs13.getD 4 dead), (vs13.getD 5 dead), t73] H14)) ((bin 0 .eql (vs13.getD 5 dead) (.int .i64 21)).bind fun t74 =>
 some (.nrm [(vs13.getD 0 dead), (vs13.getD 1 dead), (vs13.getD 2 dead), (vs13.getD 3 dead), (vs13.getD 4 dead), (vs13.getD 5 dead), t74] H14))) pnK noX noR fun vs15 H16 =>
 ifB (vs15.getD 6 dead) ((bin 0 .xor (vs15.getD 1 dead) (vs15.getD 2 dead)).bind fun t77 =>
 some (.ret (.tuple #[t77, (.int .i64 0)]), H16)) (jn ((bin 0 .eql (vs15.getD 5 dead) (.int .i64 13)).bind fun t79 =>
 ifB t79 (some (.nrm [(vs15.getD 0 dead), (vs15.getD 1 dead), (vs15.getD 2 dead), (vs15.getD 3 dead), (vs15.getD 4 dead), (vs15.getD 5 dead), t79] H16)) ((bin 0 .eql (vs15.getD 5 dead) (.int .i64 22)).bind fun t80 =>
 ifB t80 (some (.nrm [(vs15.getD 0 dead), (vs15.getD 1 dead), (vs15.getD 2 dead), (vs15.getD 3 dead), (vs15.getD 4 dead), (vs15.getD 5 dead), t80] H16)) ((bin 0 .eql (vs15.getD 5 dead) (.int .i64 14)).bind fun t81 =>
 ifB t81 (some (.nrm [(vs15.getD 0 dead), (vs15.getD 1 dead), (vs15.getD 2 dead), (vs15.getD 3 dead), (vs15.getD 4 dead), (vs15.getD 5 dead), t81] H16)) ((bin 0 .eql (vs15.getD 5 dead) (.int .i64 23)).bind fun t82 =>
 ifB t82 (some (.nrm [(vs15.getD 0 dead), (vs15.getD 1 dead), (vs15.getD 2 dead), (vs15.getD 3 dead), (vs15.getD 4 dead), (vs15.getD 5 dead), t82] H16)) ((bin 0 .eql (vs15.getD 5 dead) (.int .i64 15)).bind fun t83 =>
 ifB t83 (some (.nrm [(vs15.getD 0 dead), (vs15.getD 1 dead), (vs15.getD 2 dead), (vs15.getD 3 dead), (vs15.getD 4 dead), (vs15.getD 5 dead), t83] H16)) ((bin 0 .eql (vs15.getD 5 dead) (.int .i64 24)).bind fun t84 =>
 some (.nrm [(vs15.getD 0 dead), (vs15.getD 1 dead), (vs15.getD 2 dead), (vs15.getD 3 dead), (vs15.getD 4 dead), (vs15.getD 5 dead), t84] H16))))))) pnK noX noR fun vs17 H18 =>
 ifB (vs17.getD 6 dead) (callK (C 54 [(vs17.getD 0 dead), (vs17.getD 1 dead), (vs17.getD 2 dead)] H18) pnK fun t88 H19 =>
 some (.ret (.tuple #[t88, (.int .i64 0)]), H19)) (jn ((bin 0 .eql (vs17.getD 5 dead) (.int .i64 16)).bind fun t90 =>
 ifB t90 (some (.nrm [(vs17.getD 1 dead), (vs17.getD 2 dead), (vs17.getD 3 dead), (vs17.getD 4 dead), (vs17.getD 5 dead), t90] H18)) ((bin 0 .eql (vs17.getD 5 dead) (.int .i64 25)).bind fun t91 =>
 some (.nrm [(vs17.getD 1 dead), (vs17.getD 2 dead), (vs17.getD 3 dead), (vs17.getD 4 dead), (vs17.getD 5 dead), t91] H18))) pnK noX noR fun vs20 H21 =>
 ifB (vs20.getD 5 dead) ((bin 0 .lss (vs20.getD 2 dead) (vs20.getD 3 dead)).bind fun t94 =>
 callK (C 55 [t94] H21) pnK fun t95 H22 =>
 some (.ret (.tuple #[t95, (.int .i64 0)]), H22)) (jn ((bin 0 .eql (vs20.getD 4 dead) (.int .i64 17)).bind fun t97 =>
 ifB t97 (some (.nrm [(vs20.getD 0 dead), (vs20.getD 1 dead), (vs20.getD 4 dead), t97] H21)) ((bin 0 .eql (vs20.getD 4 dead) (.int .i64 26)).bind fun t98 =>
 some (.nrm [(vs20.getD 0 dead), (vs20.getD 1 dead), (vs20.getD 4 dead), t98] H21))) pnK noX noR fun vs23 H24 =>
 ifB (vs23.getD 3 dead) ((bin 0 .lss (vs23.getD 0 dead) (vs23.getD 1 dead)).bind fun t101 =>
 callK (C 55 [t101] H24) pnK fun t102 H25 =>
 some (.ret (.tuple #[t102, (.int .i64 0)]), H25)) ((bin 0 .eql (vs23.getD 2 dead) (.int .i64 27)).bind fun t104 =>
 ifB t104 ((bin 0 .rem (vs23.getD 1 dead) (.int .u32 65536)).bind fun t106 =>
 (bin 0 .mul t106 (.int .u32 65536)).bind fun t107 =>
 some (.ret (.tuple #[t107, (.int .i64 0)]), H24)) (some (.ret (.tuple #[(.int .u32 0), (.int .i64 5)]), H24)))))))))))))
def lv36 : List (Option An) := [none, none, none, none, some ⟨[0, 1, 2, 8, 9, 15, 16], [], false, false⟩, none, none, none, none, none, none, none, none, none, some ⟨[0, 1, 2, 8, 9, 15, 49], [], false, false⟩, none, none, none, none, none, none, none, some ⟨[0, 1, 2, 8, 9, 15, 60], [], false, false⟩, none, none, some ⟨[0, 1, 2, 8, 9, 15, 66], [], false, false⟩, none, none, some ⟨[0, 1, 2, 8, 9, 15, 72], [], false, false⟩, none, none, some ⟨[0, 1, 2, 8, 9, 15, 78], [], false, false⟩, none, none, none, none, none, none, some ⟨[1, 2, 8, 9, 15, 89], [], false, false⟩, none, none, some ⟨[1, 2, 15, 96], [], false, false⟩]
theorem s36_eq (C : Cl) (n : Nat) (x0 : Value) (x1 : Value) (x2 : Value) (H : Hp) : evFn Tryd.prog C n lv36 Tryd.f36 [x0, x1, x2] H = s36 C n x0 x1 x2 H := by kernel_rfl
/-- bulkhead/bulkheadref08.goes -/
noncomputable def s37 (C : Cl) (n : Nat) (x0 : Value) (x1 : Value) (x2 : Value) (x3 : Value) (H : Hp) : R :=
 (bx x0).bind fun c2 =>
 let H1 := H.new (.rw c2)
 (bx x1).bind fun c4 =>
 let H3 := H1.new (.rw c4)
 let H5 := H3.new (.rw [(.int .u32 0), (.int .u32 0), (.int .u32 0), (.int .u32 0), (.int .u32 0), (.int .u32 0), (.int .u32 0), (.int .u32 0), (.int .u32 0), (.int .u32 0), (.int .u32 0), (.int .u32 0), (.int .u32 0), (.int .u32 0), (.int .u32 0), (.int .u32 0), (.int .u64 0), (.int .u64 0), (.int .u64 0), (.int .u64 0), (.int .u64 0), (.int .u64 0), (.int .u64 0), (.int .u64 0), (.int .u32 0)])
 (bin 0 .rem x2 (.int .u32 4)).bind fun t12 =>
 (bin 0 .neq t12 (.int .u32 0)).bind fun t13 =>
 ifB t13 ((ldN 25 (ptr H.next 0) H5).bind fun t14 =>
 (st 25 (ptr H3.next 0) t14 H5).bind fun H6 =>
 (ldN 25 (ptr H3.next 0) H6).bind fun r7 =>
 some (.ret (.tuple #[r7, (.int .i64 5), x2]), H6)) (jn (ifB x3 ((fa 1 (ptr H1.next 0)).bind fun t17 =>
 (ld t17 H5).bind fun t18 =>
 (fa 24 (ptr H.next 0)).bind fun t19 =>
 (ld t19 H5).bind fun t20 =>
 (bin 0 .add t20 (.int .u32 4)).bind fun t21 =>
 (fa 0 (ptr H.next 0)).bind fun t22 =>
 (ia 16 1 t22 t18).bind fun t23 =>
 (st 1 t23 t21 H5).bind fun H10 =>
 (fa 0 (ptr H.next 0)).bind fun t24 =>
 (ia 16 1 t24 (.int .i64 0)).bind fun t25 =>
 (st 1 t25 (.int .u32 0) H10).bind fun H11 =>
 some (.nrm [x2, (ptr H.next 0), (ptr H3.next 0)] H11)) (some (.nrm [x2, (ptr H.next 0), (ptr H3.next 0)] H5))) pnK noX noR fun vs8 H9 =>
 (fa 24 (vs8.getD 1 dead)).bind fun t27 =>
 (st 1 t27 (vs8.getD 0 dead) H9).bind fun H12 =>
 (ldN 25 (vs8.getD 1 dead) H12).bind fun t28 =>
 (st 25 (vs8.getD 2 dead) t28 H12).bind fun H13 =>
 (ldN 25 (vs8.getD 2 dead) H13).bind fun r14 =>
 some (.ret (.tuple #[r14, (.int .i64 0), (.int .u32 0)]), H13))
def lv37 : List (Option An) := [none, none, none, none, some ⟨[2, 4, 8], [], false, false⟩]
theorem s37_eq (C : Cl) (n : Nat) (x0 : Value) (x1 : Value) (x2 : Value) (x3 : Value) (H : Hp) : evFn Tryd.prog C n lv37 Tryd.f37 [x0, x1, x2, x3] H = s37 C n x0 x1 x2 x3 H := by kernel_rfl
/-- bulkhead/bulkheadref08.loads -/
noncomputable def s38 (C : Cl) (n : Nat) (x0 : Value) (x1 : Value) (H : Hp) : R :=
 (cvI .u32 x1).bind fun t7 =>
 (bin 0 .eql x0 (.int .i64 29)).bind fun t10 =>
 ifB t10 (callK (C 56 [t7, (.int .i64 16), (.bool true)] H) pnK fun t12 H1 =>
 some (.ret t12, H1)) ((bin 0 .eql x0 (.int .i64 30)).bind fun t14 =>
 ifB t14 (callK (C 56 [t7, (.int .i64 16), (.bool false)] H) pnK fun t16 H2 =>
 some (.ret t16, H2)) ((bin 0 .eql x0 (.int .i64 31)).bind fun t18 =>
 ifB t18 (callK (C 56 [t7, (.int .i64 8), (.bool true)] H) pnK fun t20 H3 =>
 some (.ret t20, H3)) ((bin 0 .eql x0 (.int .i64 32)).bind fun t22 =>
 ifB t22 (callK (C 56 [t7, (.int .i64 8), (.bool false)] H) pnK fun t24 H4 =>
 some (.ret t24, H4)) (some (.ret t7, H)))))
def lv38 : List (Option An) := []
theorem s38_eq (C : Cl) (n : Nat) (x0 : Value) (x1 : Value) (H : Hp) : evFn Tryd.prog C n lv38 Tryd.f38 [x0, x1] H = s38 C n x0 x1 H := by kernel_rfl
/-- bulkhead/bulkheadref01.Branch -/
noncomputable def s39 (C : Cl) (n : Nat) (x0 : Value) (x1 : Value) (x2 : Value) (H : Hp) : R :=
 (bin 0 .eql x0 (.int .i64 38)).bind fun t10 =>
 ifB t10 ((bin 0 .eql x1 x2).bind fun t13 =>
 some (.ret (.tuple #[t13, (.int .i64 0)]), H)) ((bin 0 .eql x0 (.int .i64 39)).bind fun t15 =>
 ifB t15 ((bin 0 .neq x1 x2).bind fun t18 =>
 some (.ret (.tuple #[t18, (.int .i64 0)]), H)) ((bin 0 .eql x0 (.int .i64 40)).bind fun t20 =>
 ifB t20 (callK (C 52 [x1] H) pnK fun t22 H1 =>
 callK (C 52 [x2] H1) pnK fun t24 H2 =>
 (bin 0 .lss t22 t24).bind fun t25 =>
 some (.ret (.tuple #[t25, (.int .i64 0)]), H2)) ((bin 0 .eql x0 (.int .i64 41)).bind fun t27 =>
 ifB t27 (callK (C 52 [x1] H) pnK fun t29 H3 =>
 callK (C 52 [x2] H3) pnK fun t31 H4 =>
 (bin 0 .geq t29 t31).bind fun t32 =>
 some (.ret (.tuple #[t32, (.int .i64 0)]), H4)) ((bin 0 .eql x0 (.int .i64 42)).bind fun t34 =>
 ifB t34 ((bin 0 .lss x1 x2).bind fun t37 =>
 some (.ret (.tuple #[t37, (.int .i64 0)]), H)) ((bin 0 .eql x0 (.int .i64 43)).bind fun t39 =>
 ifB t39 ((bin 0 .geq x1 x2).bind fun t42 =>
 some (.ret (.tuple #[t42, (.int .i64 0)]), H)) (some (.ret (.tuple #[(.bool false), (.int .i64 5)]), H)))))))
def lv39 : List (Option An) := []
theorem s39_eq (C : Cl) (n : Nat) (x0 : Value) (x1 : Value) (x2 : Value) (H : Hp) : evFn Tryd.prog C n lv39 Tryd.f39 [x0, x1, x2] H = s39 C n x0 x1 x2 H := by kernel_rfl
/-- bulkhead/bulkheadref08.reals -/
noncomputable def s40 (C : Cl) (n : Nat) (x0 : Value) (x1 : Value) (H : Hp) : R :=
 (bx x0).bind fun c2 =>
 let H1 := H.new (.rw c2)
 (bx x1).bind fun c4 =>
 let H3 := H1.new (.rw c4)
 let H5 := H3.new (.rw [(.int .u32 0), (.int .u32 0), (.int .u32 0), (.int .u32 0), (.int .u32 0), (.int .u32 0), (.int .u32 0), (.int .u32 0), (.int .u32 0), (.int .u32 0), (.int .u32 0), (.int .u32 0), (.int .u32 0), (.int .u32 0), (.int .u32 0), (.int .u32 0), (.int .u64 0), (.int .u64 0), (.int .u64 0), (.int .u64 0), (.int .u64 0), (.int .u64 0), (.int .u64 0), (.int .u64 0), (.int .u32 0)])
 jn ((fa 0 (ptr H1.next 0)).bind fun t5 =>
 (ld t5 H5).bind fun t6 =>
 callK (C 16 [t6] H5) pnJ fun t7 H8 =>
 (bin 0 .eql t7 (.int .i64 9)).bind fun t9 =>
 ifB t9 ((fa 1 (ptr H1.next 0)).bind fun t11 =>
 (ld t11 H8.cl.cl).bind fun t12 =>
 (fa 0 (ptr H1.next 0)).bind fun t13 =>
 (ld t13 H8.cl.cl.cl.cl).bind fun t14 =>
 (fa 2 (ptr H1.next 0)).bind fun t15 =>
 (ld t15 H8.cl.cl.cl.cl.cl.cl).bind fun t16 =>
 (fa 16 (ptr H.next 0)).bind fun t17 =>
 (ia 8 1 t17 t16).bind fun t18 =>
 (ld t18 H8.cl.cl.cl.cl.cl.cl.cl.cl.cl).bind fun t19 =>
 (fa 3 (ptr H1.next 0)).bind fun t20 =>
 (ld t20 H8.cl.cl.cl.cl.cl.cl.cl.cl.cl.cl.cl).bind fun t21 =>
 (fa 16 (ptr H.next 0)).bind fun t22 =>
 (ia 8 1 t22 t21).bind fun t23 =>
 (ld t23 H8.cl.cl.cl.cl.cl.cl.cl.cl.cl.cl.cl.cl.cl.cl).bind fun t24 =>
 callK (C 57 [t14, t19, t24] H8.cl.cl.cl.cl.cl.cl.cl.cl.cl.cl.cl.cl.cl.cl.cl) pnN fun t25 H9 =>
 (ext1 t25 0).bind fun t26 =>
 (ext1 t25 1).bind fun t27 =>
 (fa 16 (ptr H.next 0)).bind fun t28 =>
 (ia 8 1 t28 t12).bind fun t29 =>
 (rdA t29).bind fun b10 => bif memN b10 [] then none else (st 1 t29 t26 (H9.cl.cl.cl.cl.cl.cl.opn H8.lim)).bind fun H11 =>
 some (.nrm [(ptr H.next 0), (ptr H1.next 0), (ptr H3.next 0)] H11)) ((bin 0 .eql t7 (.int .i64 10)).bind fun t31 =>
 ifB t31 ((fa 1 (ptr H1.next 0)).bind fun t33 =>
 (ld t33 H8.cl.cl).bind fun t34 =>
 (fa 0 (ptr H1.next 0)).bind fun t35 =>
 (ld t35 H8.cl.cl.cl.cl).bind fun t36 =>
 (fa 2 (ptr H1.next 0)).bind fun t37 =>
 (ld t37 H8.cl.cl.cl.cl.cl.cl).bind fun t38 =>
 (fa 16 (ptr H.next 0)).bind fun t39 =>
 (ia 8 1 t39 t38).bind fun t40 =>
 (ld t40 H8.cl.cl.cl.cl.cl.cl.cl.cl.cl).bind fun t41 =>
 callK (C 57 [t36, t41, (.int .u64 0)] H8.cl.cl.cl.cl.cl.cl.cl.cl.cl.cl) pnN fun t42 H12 =>
 (ext1 t42 0).bind fun t43 =>
 (ext1 t42 1).bind fun t44 =>
 (fa 16 (ptr H.next 0)).bind fun t45 =>
 (ia 8 1 t45 t34).bind fun t46 =>
 (rdA t46).bind fun b13 => bif memN b13 [] then none else (st 1 t46 t43 (H12.cl.cl.cl.cl.cl.cl.opn H8.lim)).bind fun H14 =>
 some (.nrm [(ptr H.next 0), (ptr H1.next 0), (ptr H3.next 0)] H14)) ((bin 0 .eql t7 (.int .i64 11)).bind fun t48 =>
 ifB t48 ((fa 1 (ptr H1.next 0)).bind fun t50 =>
 (ld t50 H8.cl.cl).bind fun t51 =>
 (fa 0 (ptr H1.next 0)).bind fun t52 =>
 (ld t52 H8.cl.cl.cl.cl).bind fun t53 =>
 (fa 2 (ptr H1.next 0)).bind fun t54 =>
 (ld t54 H8.cl.cl.cl.cl.cl.cl).bind fun t55 =>
 (fa 16 (ptr H.next 0)).bind fun t56 =>
 (ia 8 1 t56 t55).bind fun t57 =>
 (ld t57 H8.cl.cl.cl.cl.cl.cl.cl.cl.cl).bind fun t58 =>
 (fa 3 (ptr H1.next 0)).bind fun t59 =>
 (ld t59 H8.cl.cl.cl.cl.cl.cl.cl.cl.cl.cl.cl).bind fun t60 =>
 (fa 16 (ptr H.next 0)).bind fun t61 =>
 (ia 8 1 t61 t60).bind fun t62 =>
 (ld t62 H8.cl.cl.cl.cl.cl.cl.cl.cl.cl.cl.cl.cl.cl.cl).bind fun t63 =>
 callK (C 58 [t53, t58, t63] H8.cl.cl.cl.cl.cl.cl.cl.cl.cl.cl.cl.cl.cl.cl.cl) pnN fun t64 H15 =>
 (ext1 t64 0).bind fun t65 =>
 (ext1 t64 1).bind fun t66 =>
 (fa 0 (ptr H.next 0)).bind fun t67 =>
 (ia 16 1 t67 t51).bind fun t68 =>
 (rdA t68).bind fun b16 => bif memN b16 [] then none else (st 1 t68 t65 (H15.cl.cl.cl.cl.cl.cl.opn H8.lim)).bind fun H17 =>
 some (.nrm [(ptr H.next 0), (ptr H1.next 0), (ptr H3.next 0)] H17)) (some (.nrm [(ptr H.next 0), (ptr H1.next 0), (ptr H3.next 0)] H8))))) pnK noX noR fun vs6 H7 =>
 jn ((fa 0 (vs6.getD 1 dead)).bind fun t69 =>
 (ld t69 H7).bind fun t70 =>
 (bin 0 .eql t70 (.int .i64 58)).bind fun t72 =>
 ifB t72 ((fa 1 (vs6.getD 1 dead)).bind fun t73 =>
 (ld t73 H7.cl.cl).bind fun t74 =>
 (fa 2 (vs6.getD 1 dead)).bind fun t75 =>
 (ld t75 H7.cl.cl.cl.cl).bind fun t76 =>
 (fa 16 (vs6.getD 0 dead)).bind fun t77 =>
 (ia 8 1 t77 t76).bind fun t78 =>
 (ld t78 H7.cl.cl.cl.cl.cl.cl.cl).bind fun t79 =>
 callK (C 59 [t79] H7.cl.cl.cl.cl.cl.cl.cl.cl) pnN fun t80 H20 =>
 (fa 0 (vs6.getD 0 dead)).bind fun t81 =>
 (ia 16 1 t81 t74).bind fun t82 =>
 (st 1 t82 t80 (H20.cl.opn H7.lim)).bind fun H21 =>
 some (.nrm [(vs6.getD 0 dead), (vs6.getD 2 dead)] H21)) ((bin 0 .eql t70 (.int .i64 59)).bind fun t84 =>
 ifB t84 ((fa 1 (vs6.getD 1 dead)).bind fun t85 =>
 (ld t85 H7.cl.cl).bind fun t86 =>
 (fa 2 (vs6.getD 1 dead)).bind fun t87 =>
 (ld t87 H7.cl.cl.cl.cl).bind fun t88 =>
 (fa 0 (vs6.getD 0 dead)).bind fun t89 =>
 (ia 16 1 t89 t88).bind fun t90 =>
 (ld t90 H7.cl.cl.cl.cl.cl.cl.cl).bind fun t91 =>
 callK (C 60 [t91] H7.cl.cl.cl.cl.cl.cl.cl.cl) pnN fun t92 H22 =>
 (fa 16 (vs6.getD 0 dead)).bind fun t93 =>
 (ia 8 1 t93 t86).bind fun t94 =>
 (st 1 t94 t92 (H22.cl.opn H7.lim)).bind fun H23 =>
 some (.nrm [(vs6.getD 0 dead), (vs6.getD 2 dead)] H23)) ((bin 0 .eql t70 (.int .i64 60)).bind fun t96 =>
 ifB t96 ((fa 1 (vs6.getD 1 dead)).bind fun t97 =>
 (ld t97 H7.cl.cl).bind fun t98 =>
 (fa 2 (vs6.getD 1 dead)).bind fun t99 =>
 (ld t99 H7.cl.cl.cl.cl).bind fun t100 =>
 (fa 16 (vs6.getD 0 dead)).bind fun t101 =>
 (ia 8 1 t101 t100).bind fun t102 =>
 (ld t102 H7.cl.cl.cl.cl.cl.cl.cl).bind fun t103 =>
 callK (C 61 [t103] H7.cl.cl.cl.cl.cl.cl.cl.cl) pnN fun t104 H24 =>
 (fa 0 (vs6.getD 0 dead)).bind fun t105 =>
 (ia 16 1 t105 t98).bind fun t106 =>
 (st 1 t106 t104 (H24.cl.opn H7.lim)).bind fun H25 =>
 some (.nrm [(vs6.getD 0 dead), (vs6.getD 2 dead)] H25)) ((bin 0 .eql t70 (.int .i64 61)).bind fun t108 =>
 ifB t108 ((fa 1 (vs6.getD 1 dead)).bind fun t109 =>
 (ld t109 H7.cl.cl).bind fun t110 =>
 (fa 2 (vs6.getD 1 dead)).bind fun t111 =>
 (ld t111 H7.cl.cl.cl.cl).bind fun t112 =>
 (fa 16 (vs6.getD 0 dead)).bind fun t113 =>
 (ia 8 1 t113 t112).bind fun t114 =>
 (ld t114 H7.cl.cl.cl.cl.cl.cl.cl).bind fun t115 =>
 (cvI .u32 t115).bind fun t116 =>
 (fa 0 (vs6.getD 0 dead)).bind fun t117 =>
 (ia 16 1 t117 t110).bind fun t118 =>
 (st 1 t118 t116 (H7.cl.cl.cl.cl.cl.cl.cl.cl.cl.opn H7.lim)).bind fun H26 =>
 some (.nrm [(vs6.getD 0 dead), (vs6.getD 2 dead)] H26)) ((bin 0 .eql t70 (.int .i64 62)).bind fun t120 =>
 ifB t120 ((fa 1 (vs6.getD 1 dead)).bind fun t121 =>
 (ld t121 H7.cl.cl).bind fun t122 =>
 (fa 2 (vs6.getD 1 dead)).bind fun t123 =>
 (ld t123 H7.cl.cl.cl.cl).bind fun t124 =>
 (fa 16 (vs6.getD 0 dead)).bind fun t125 =>
 (ia 8 1 t125 t124).bind fun t126 =>
 (ld t126 H7.cl.cl.cl.cl.cl.cl.cl).bind fun t127 =>
 (bin 0 .shr t127 (.int .u64 32)).bind fun t128 =>
 (cvI .u32 t128).bind fun t129 =>
 (fa 0 (vs6.getD 0 dead)).bind fun t130 =>
 (ia 16 1 t130 t122).bind fun t131 =>
 (st 1 t131 t129 (H7.cl.cl.cl.cl.cl.cl.cl.cl.cl.cl.opn H7.lim)).bind fun H27 =>
 some (.nrm [(vs6.getD 0 dead), (vs6.getD 2 dead)] H27)) ((bin 0 .eql t70 (.int .i64 63)).bind fun t133 =>
 ifB t133 ((fa 1 (vs6.getD 1 dead)).bind fun t134 =>
 (ld t134 H7.cl.cl).bind fun t135 =>
 (fa 3 (vs6.getD 1 dead)).bind fun t136 =>
 (ld t136 H7.cl.cl.cl.cl).bind fun t137 =>
 (fa 0 (vs6.getD 0 dead)).bind fun t138 =>
 (ia 16 1 t138 t137).bind fun t139 =>
 (ld t139 H7.cl.cl.cl.cl.cl.cl.cl).bind fun t140 =>
 (cvI .u64 t140).bind fun t141 =>
 (bin 0 .shl t141 (.int .u64 32)).bind fun t142 =>
 (fa 2 (vs6.getD 1 dead)).bind fun t143 =>
 (ld t143 H7.cl.cl.cl.cl.cl.cl.cl.cl.cl.cl.cl).bind fun t144 =>
 (fa 0 (vs6.getD 0 dead)).bind fun t145 =>
 (ia 16 1 t145 t144).bind fun t146 =>
 (ld t146 H7.cl.cl.cl.cl.cl.cl.cl.cl.cl.cl.cl.cl.cl.cl).bind fun t147 =>
 (cvI .u64 t147).bind fun t148 =>
 (bin 0 .or t142 t148).bind fun t149 =>
 (fa 16 (vs6.getD 0 dead)).bind fun t150 =>
 (ia 8 1 t150 t135).bind fun t151 =>
 (st 1 t151 t149 (H7.cl.cl.cl.cl.cl.cl.cl.cl.cl.cl.cl.cl.cl.cl.cl.cl.cl.opn H7.lim)).bind fun H28 =>
 some (.nrm [(vs6.getD 0 dead), (vs6.getD 2 dead)] H28)) (some (.nrm [(vs6.getD 0 dead), (vs6.getD 2 dead)] H7)))))))) pnK noX noR fun vs18 H19 =>
 (ldN 25 (vs18.getD 0 dead) H19).bind fun t152 =>
 (st 25 (vs18.getD 1 dead) t152 H19).bind fun H29 =>
 (ldN 25 (vs18.getD 1 dead) H29).bind fun r30 =>
 some (.ret r30, H29)
def lv40 : List (Option An) := [none, some ⟨[2, 3, 4], [], false, false⟩, none, none, none, none, some ⟨[2, 4], [], false, false⟩]
theorem s40_eq (C : Cl) (n : Nat) (x0 : Value) (x1 : Value) (H : Hp) : evFn Tryd.prog C n lv40 Tryd.f40 [x0, x1] H = s40 C n x0 x1 H := by kernel_rfl
/-- bulkhead/exec.size -/
noncomputable def s41 (C : Cl) (n : Nat) (x0 : Value) (H : Hp) : R :=
 jn ((bin 0 .eql x0 (.int .i64 28)).bind fun t5 =>
 ifB t5 (some (.nrm [x0, t5] H)) ((bin 0 .eql x0 (.int .i64 33)).bind fun t6 =>
 some (.nrm [x0, t6] H))) pnK noX noR fun vs1 H2 =>
 ifB (vs1.getD 1 dead) (some (.ret (.int .i64 4), H2)) (jn ((bin 0 .eql (vs1.getD 0 dead) (.int .i64 29)).bind fun t8 =>
 ifB t8 (some (.nrm [(vs1.getD 0 dead), t8] H2)) ((bin 0 .eql (vs1.getD 0 dead) (.int .i64 30)).bind fun t9 =>
 ifB t9 (some (.nrm [(vs1.getD 0 dead), t9] H2)) ((bin 0 .eql (vs1.getD 0 dead) (.int .i64 34)).bind fun t10 =>
 some (.nrm [(vs1.getD 0 dead), t10] H2)))) pnK noX noR fun vs3 H4 =>
 ifB (vs3.getD 1 dead) (some (.ret (.int .i64 2), H4)) (jn ((bin 0 .eql (vs3.getD 0 dead) (.int .i64 31)).bind fun t12 =>
 ifB t12 (some (.nrm [(vs3.getD 0 dead), t12] H4)) ((bin 0 .eql (vs3.getD 0 dead) (.int .i64 32)).bind fun t13 =>
 ifB t13 (some (.nrm [(vs3.getD 0 dead), t13] H4)) ((bin 0 .eql (vs3.getD 0 dead) (.int .i64 35)).bind fun t14 =>
 some (.nrm [(vs3.getD 0 dead), t14] H4)))) pnK noX noR fun vs5 H6 =>
 ifB (vs5.getD 1 dead) (some (.ret (.int .i64 1), H6)) (jn ((bin 0 .eql (vs5.getD 0 dead) (.int .i64 36)).bind fun t16 =>
 ifB t16 (some (.nrm [t16] H6)) ((bin 0 .eql (vs5.getD 0 dead) (.int .i64 37)).bind fun t17 =>
 some (.nrm [t17] H6))) pnK noX noR fun vs7 H8 =>
 ifB (vs7.getD 0 dead) (some (.ret (.int .i64 8), H8)) (some (.ret (.int .i64 0), H8)))))
def lv41 : List (Option An) := [none, none, none, some ⟨[3, 4], [], false, false⟩, none, none, some ⟨[3, 7], [], false, false⟩, none, none, none, some ⟨[3, 11], [], false, false⟩, none, none, none, some ⟨[15], [], false, false⟩]
theorem s41_eq (C : Cl) (n : Nat) (x0 : Value) (H : Hp) : evFn Tryd.prog C n lv41 Tryd.f41 [x0] H = s41 C n x0 H := by kernel_rfl
/-- bulkhead/bulkheadref08.size -/
noncomputable def s42 (C : Cl) (n : Nat) (x0 : Value) (H : Hp) : R :=
 jn ((bin 0 .eql x0 (.int .i64 28)).bind fun t5 =>
 ifB t5 (some (.nrm [x0, t5] H)) ((bin 0 .eql x0 (.int .i64 33)).bind fun t6 =>
 some (.nrm [x0, t6] H))) pnK noX noR fun vs1 H2 =>
 ifB (vs1.getD 1 dead) (some (.ret (.int .i64 4), H2)) (jn ((bin 0 .eql (vs1.getD 0 dead) (.int .i64 29)).bind fun t8 =>
 ifB t8 (some (.nrm [(vs1.getD 0 dead), t8] H2)) ((bin 0 .eql (vs1.getD 0 dead) (.int .i64 30)).bind fun t9 =>
 ifB t9 (some (.nrm [(vs1.getD 0 dead), t9] H2)) ((bin 0 .eql (vs1.getD 0 dead) (.int .i64 34)).bind fun t10 =>
 some (.nrm [(vs1.getD 0 dead), t10] H2)))) pnK noX noR fun vs3 H4 =>
 ifB (vs3.getD 1 dead) (some (.ret (.int .i64 2), H4)) (jn ((bin 0 .eql (vs3.getD 0 dead) (.int .i64 31)).bind fun t12 =>
 ifB t12 (some (.nrm [(vs3.getD 0 dead), t12] H4)) ((bin 0 .eql (vs3.getD 0 dead) (.int .i64 32)).bind fun t13 =>
 ifB t13 (some (.nrm [(vs3.getD 0 dead), t13] H4)) ((bin 0 .eql (vs3.getD 0 dead) (.int .i64 35)).bind fun t14 =>
 some (.nrm [(vs3.getD 0 dead), t14] H4)))) pnK noX noR fun vs5 H6 =>
 ifB (vs5.getD 1 dead) (some (.ret (.int .i64 1), H6)) (jn ((bin 0 .eql (vs5.getD 0 dead) (.int .i64 36)).bind fun t16 =>
 ifB t16 (some (.nrm [t16] H6)) ((bin 0 .eql (vs5.getD 0 dead) (.int .i64 37)).bind fun t17 =>
 some (.nrm [t17] H6))) pnK noX noR fun vs7 H8 =>
 ifB (vs7.getD 0 dead) (some (.ret (.int .i64 8), H8)) (some (.ret (.int .i64 0), H8)))))
def lv42 : List (Option An) := [none, none, none, some ⟨[3, 4], [], false, false⟩, none, none, some ⟨[3, 7], [], false, false⟩, none, none, none, some ⟨[3, 11], [], false, false⟩, none, none, none, some ⟨[15], [], false, false⟩]
theorem s42_eq (C : Cl) (n : Nat) (x0 : Value) (H : Hp) : evFn Tryd.prog C n lv42 Tryd.f42 [x0] H = s42 C n x0 H := by kernel_rfl
/-- bulkhead/code.operand -/
noncomputable def s43 (C : Cl) (n : Nat) (x0 : Value) (x1 : Value) (H : Hp) : R :=
 (bin 0 .eql x1 (.int .u8 97)).bind fun t9 =>
 ifB t9 ((nilc x0).bind fun t11 =>
 (fa 1 t11).bind fun t12 =>
 some (.ret (.tuple #[t12, (.int .i64 0), (.int .i64 15)]), H)) ((bin 0 .eql x1 (.int .u8 98)).bind fun t14 =>
 ifB t14 ((nilc x0).bind fun t16 =>
 (fa 2 t16).bind fun t17 =>
 some (.ret (.tuple #[t17, (.int .i64 0), (.int .i64 15)]), H)) ((bin 0 .eql x1 (.int .u8 99)).bind fun t19 =>
 ifB t19 ((nilc x0).bind fun t21 =>
 (fa 3 t21).bind fun t22 =>
 some (.ret (.tuple #[t22, (.int .i64 0), (.int .i64 15)]), H)) ((bin 0 .eql x1 (.int .u8 65)).bind fun t24 =>
 ifB t24 ((nilc x0).bind fun t26 =>
 (fa 1 t26).bind fun t27 =>
 some (.ret (.tuple #[t27, (.int .i64 0), (.int .i64 7)]), H)) ((bin 0 .eql x1 (.int .u8 66)).bind fun t29 =>
 ifB t29 ((nilc x0).bind fun t31 =>
 (fa 2 t31).bind fun t32 =>
 some (.ret (.tuple #[t32, (.int .i64 0), (.int .i64 7)]), H)) ((bin 0 .eql x1 (.int .u8 67)).bind fun t34 =>
 ifB t34 ((nilc x0).bind fun t36 =>
 (fa 3 t36).bind fun t37 =>
 some (.ret (.tuple #[t37, (.int .i64 0), (.int .i64 7)]), H)) ((nilc x0).bind fun t40 =>
 (fa 0 t40).bind fun t41 =>
 (ld t41 H).bind fun t42 =>
 callK (C 28 [t42] H) pnK fun t43 H1 =>
 (ext1 t43 0).bind fun t44 =>
 (ext1 t43 1).bind fun t45 =>
 (nilc x0).bind fun t47 =>
 (fa 4 t47).bind fun t48 =>
 some (.ret (.tuple #[t48, t44, t45]), H1)))))))
def lv43 : List (Option An) := []
theorem s43_eq (C : Cl) (n : Nat) (x0 : Value) (x1 : Value) (H : Hp) : evFn Tryd.prog C n lv43 Tryd.f43 [x0, x1] H = s43 C n x0 x1 H := by kernel_rfl
/-- strings.Contains -/
noncomputable def s44 (C : Cl) (n : Nat) (x0 : Value) (x1 : Value) (H : Hp) : R :=
 callK (C 62 [x0, x1] H) pnK fun t7 H1 =>
 (bin 0 .geq t7 (.int .i64 0)).bind fun t8 =>
 some (.ret t8, H1)
def lv44 : List (Option An) := []
theorem s44_eq (C : Cl) (n : Nat) (x0 : Value) (x1 : Value) (H : Hp) : evFn Tryd.prog C n lv44 Tryd.f44 [x0, x1] H = s44 C n x0 x1 H := by kernel_rfl
/-- bulkhead/code.forms -/
noncomputable def s45 (C : Cl) (n : Nat)  (H : Hp) : R :=
 let H1 := H.new (.rw [(.string ⟨#[]⟩), (.int .i64 0), (.int .i64 0), (.string ⟨#[]⟩), (.int .i64 0), (.int .i64 0), (.string ⟨#[]⟩), (.int .i64 0), (.int .i64 0), (.string ⟨#[]⟩), (.int .i64 0), (.int .i64 0), (.string ⟨#[]⟩), (.int .i64 0), (.int .i64 0), (.string ⟨#[]⟩), (.int .i64 0), (.int .i64 0), (.string ⟨#[]⟩), (.int .i64 0), (.int .i64 0), (.string ⟨#[]⟩), (.int .i64 0), (.int .i64 0), (.string ⟨#[]⟩), (.int .i64 0), (.int .i64 0), (.string ⟨#[]⟩), (.int .i64 0), (.int .i64 0), (.string ⟨#[]⟩), (.int .i64 0), (.int .i64 0), (.string ⟨#[]⟩), (.int .i64 0), (.int .i64 0), (.string ⟨#[]⟩), (.int .i64 0), (.int .i64 0), (.string ⟨#[]⟩), (.int .i64 0), (.int .i64 0), (.string ⟨#[]⟩), (.int .i64 0), (.int .i64 0), (.string ⟨#[]⟩), (.int .i64 0), (.int .i64 0), (.string ⟨#[]⟩), (.int .i64 0), (.int .i64 0), (.string ⟨#[]⟩), (.int .i64 0), (.int .i64 0), (.string ⟨#[]⟩), (.int .i64 0), (.int .i64 0), (.string ⟨#[]⟩), (.int .i64 0), (.int .i64 0), (.string ⟨#[]⟩), (.int .i64 0), (.int .i64 0), (.string ⟨#[]⟩), (.int .i64 0), (.int .i64 0), (.string ⟨#[]⟩), (.int .i64 0), (.int .i64 0), (.string ⟨#[]⟩), (.int .i64 0), (.int .i64 0), (.string ⟨#[]⟩), (.int .i64 0), (.int .i64 0), (.string ⟨#[]⟩), (.int .i64 0), (.int .i64 0), (.string ⟨#[]⟩), (.int .i64 0), (.int .i64 0), (.string ⟨#[]⟩), (.int .i64 0), (.int .i64 0), (.string ⟨#[]⟩), (.int .i64 0), (.int .i64 0), (.string ⟨#[]⟩), (.int .i64 0), (.int .i64 0), (.string ⟨#[]⟩), (.int .i64 0), (.int .i64 0), (.string ⟨#[]⟩), (.int .i64 0), (.int .i64 0), (.string ⟨#[]⟩), (.int .i64 0), (.int .i64 0), (.string ⟨#[]⟩), (.int .i64 0), (.int .i64 0), (.string ⟨#[]⟩), (.int .i64 0), (.int .i64 0), (.string ⟨#[]⟩), (.int .i64 0), (.int .i64 0), (.string ⟨#[]⟩), (.int .i64 0), (.int .i64 0), (.string ⟨#[]⟩), (.int .i64 0), (.int .i64 0), (.string ⟨#[]⟩), (.int .i64 0), (.int .i64 0), (.string ⟨#[]⟩), (.int .i64 0), (.int .i64 0), (.string ⟨#[]⟩), (.int .i64 0), (.int .i64 0), (.string ⟨#[]⟩), (.int .i64 0), (.int .i64 0), (.string ⟨#[]⟩), (.int .i64 0), (.int .i64 0), (.string ⟨#[]⟩), (.int .i64 0), (.int .i64 0), (.string ⟨#[]⟩), (.int .i64 0), (.int .i64 0), (.string ⟨#[]⟩), (.int .i64 0), (.int .i64 0), (.string ⟨#[]⟩), (.int .i64 0), (.int .i64 0), (.string ⟨#[]⟩), (.int .i64 0), (.int .i64 0), (.string ⟨#[]⟩), (.int .i64 0), (.int .i64 0), (.string ⟨#[]⟩), (.int .i64 0), (.int .i64 0), (.string ⟨#[]⟩), (.int .i64 0), (.int .i64 0), (.string ⟨#[]⟩), (.int .i64 0), (.int .i64 0), (.string ⟨#[]⟩), (.int .i64 0), (.int .i64 0), (.string ⟨#[]⟩), (.int .i64 0), (.int .i64 0), (.string ⟨#[]⟩), (.int .i64 0), (.int .i64 0), (.string ⟨#[]⟩), (.int .i64 0), (.int .i64 0), (.string ⟨#[]⟩), (.int .i64 0), (.int .i64 0), (.string ⟨#[]⟩), (.int .i64 0), (.int .i64 0), (.string ⟨#[]⟩), (.int .i64 0), (.int .i64 0), (.string ⟨#[]⟩), (.int .i64 0), (.int .i64 0), (.string ⟨#[]⟩), (.int .i64 0), (.int .i64 0), (.string ⟨#[]⟩), (.int .i64 0), (.int .i64 0), (.string ⟨#[]⟩), (.int .i64 0), (.int .i64 0), (.string ⟨#[]⟩), (.int .i64 0), (.int .i64 0), (.string ⟨#[]⟩), (.int .i64 0), (.int .i64 0), (.string ⟨#[]⟩), (.int .i64 0), (.int .i64 0), (.string ⟨#[]⟩), (.int .i64 0), (.int .i64 0), (.string ⟨#[]⟩), (.int .i64 0), (.int .i64 0), (.string ⟨#[]⟩), (.int .i64 0), (.int .i64 0), (.string ⟨#[]⟩), (.int .i64 0), (.int .i64 0), (.string ⟨#[]⟩), (.int .i64 0), (.int .i64 0), (.string ⟨#[]⟩), (.int .i64 0), (.int .i64 0)])
 (fillL (pl [(0, 1), (1, 1), (2, 1)]) [(.string ⟨#[]⟩), (.int .i64 0), (.int .i64 0)] [(0, (.string ⟨#[110, 111, 112]⟩)), (1, (.int .i64 1)), (2, (.int .i64 1))]).bind fun c2 =>
 (fillL (pl [(0, 1), (1, 1), (2, 1)]) [(.string ⟨#[]⟩), (.int .i64 0), (.int .i64 0)] [(0, (.string ⟨#[101, 99, 97, 108, 108]⟩)), (1, (.int .i64 1)), (2, (.int .i64 1))]).bind fun c3 =>
 (fillL (pl [(0, 1), (1, 1), (2, 1)]) [(.string ⟨#[]⟩), (.int .i64 0), (.int .i64 0)] [(0, (.string ⟨#[98, 114, 107]⟩)), (1, (.int .i64 1)), (2, (.int .i64 1))]).bind fun c4 =>
 (fillL (pl [(0, 1), (1, 1), (2, 1)]) [(.string ⟨#[]⟩), (.int .i64 0), (.int .i64 0)] [(0, (.string ⟨#[104, 99, 97, 108, 108]⟩)), (1, (.int .i64 1)), (2, (.int .i64 1))]).bind fun c5 =>
 (fillL (pl [(0, 1), (1, 1), (2, 1)]) [(.string ⟨#[]⟩), (.int .i64 0), (.int .i64 0)] [(0, (.string ⟨#[119, 102, 105]⟩)), (1, (.int .i64 1)), (2, (.int .i64 1))]).bind fun c6 =>
 (fillL (pl [(0, 1), (1, 1), (2, 1)]) [(.string ⟨#[]⟩), (.int .i64 0), (.int .i64 0)] [(0, (.string ⟨#[104, 97, 108, 116]⟩)), (1, (.int .i64 1)), (2, (.int .i64 1))]).bind fun c7 =>
 (fillL (pl [(0, 1), (1, 1), (2, 1)]) [(.string ⟨#[]⟩), (.int .i64 0), (.int .i64 0)] [(0, (.string ⟨#[101, 114, 101, 116]⟩)), (1, (.int .i64 1)), (2, (.int .i64 4))]).bind fun c8 =>
 (fillL (pl [(0, 1), (1, 1), (2, 1)]) [(.string ⟨#[]⟩), (.int .i64 0), (.int .i64 0)] [(0, (.string ⟨#[97, 100, 100]⟩)), (1, (.int .i64 2)), (2, (.int .i64 1))]).bind fun c9 =>
 (fillL (pl [(0, 1), (1, 1), (2, 1)]) [(.string ⟨#[]⟩), (.int .i64 0), (.int .i64 0)] [(0, (.string ⟨#[115, 117, 98]⟩)), (1, (.int .i64 2)), (2, (.int .i64 1))]).bind fun c10 =>
 (fillL (pl [(0, 1), (1, 1), (2, 1)]) [(.string ⟨#[]⟩), (.int .i64 0), (.int .i64 0)] [(0, (.string ⟨#[97, 110, 100]⟩)), (1, (.int .i64 2)), (2, (.int .i64 1))]).bind fun c11 =>
 (fillL (pl [(0, 1), (1, 1), (2, 1)]) [(.string ⟨#[]⟩), (.int .i64 0), (.int .i64 0)] [(0, (.string ⟨#[111, 114]⟩)), (1, (.int .i64 2)), (2, (.int .i64 1))]).bind fun c12 =>
 (fillL (pl [(0, 1), (1, 1), (2, 1)]) [(.string ⟨#[]⟩), (.int .i64 0), (.int .i64 0)] [(0, (.string ⟨#[120, 111, 114]⟩)), (1, (.int .i64 2)), (2, (.int .i64 1))]).bind fun c13 =>
 (fillL (pl [(0, 1), (1, 1), (2, 1)]) [(.string ⟨#[]⟩), (.int .i64 0), (.int .i64 0)] [(0, (.string ⟨#[115, 104, 108]⟩)), (1, (.int .i64 2)), (2, (.int .i64 1))]).bind fun c14 =>
 (fillL (pl [(0, 1), (1, 1), (2, 1)]) [(.string ⟨#[]⟩), (.int .i64 0), (.int .i64 0)] [(0, (.string ⟨#[115, 104, 114]⟩)), (1, (.int .i64 2)), (2, (.int .i64 1))]).bind fun c15 =>
 (fillL (pl [(0, 1), (1, 1), (2, 1)]) [(.string ⟨#[]⟩), (.int .i64 0), (.int .i64 0)] [(0, (.string ⟨#[115, 97, 114]⟩)), (1, (.int .i64 2)), (2, (.int .i64 1))]).bind fun c16 =>
 (fillL (pl [(0, 1), (1, 1), (2, 1)]) [(.string ⟨#[]⟩), (.int .i64 0), (.int .i64 0)] [(0, (.string ⟨#[115, 108, 116]⟩)), (1, (.int .i64 2)), (2, (.int .i64 1))]).bind fun c17 =>
 (fillL (pl [(0, 1), (1, 1), (2, 1)]) [(.string ⟨#[]⟩), (.int .i64 0), (.int .i64 0)] [(0, (.string ⟨#[115, 108, 116, 117]⟩)), (1, (.int .i64 2)), (2, (.int .i64 1))]).bind fun c18 =>
 (fillL (pl [(0, 1), (1, 1), (2, 1)]) [(.string ⟨#[]⟩), (.int .i64 0), (.int .i64 0)] [(0, (.string ⟨#[109, 117, 108]⟩)), (1, (.int .i64 2)), (2, (.int .i64 3))]).bind fun c19 =>
 (fillL (pl [(0, 1), (1, 1), (2, 1)]) [(.string ⟨#[]⟩), (.int .i64 0), (.int .i64 0)] [(0, (.string ⟨#[109, 117, 108, 104]⟩)), (1, (.int .i64 2)), (2, (.int .i64 3))]).bind fun c20 =>
 (fillL (pl [(0, 1), (1, 1), (2, 1)]) [(.string ⟨#[]⟩), (.int .i64 0), (.int .i64 0)] [(0, (.string ⟨#[100, 105, 118]⟩)), (1, (.int .i64 2)), (2, (.int .i64 12))]).bind fun c21 =>
 (fillL (pl [(0, 1), (1, 1), (2, 1)]) [(.string ⟨#[]⟩), (.int .i64 0), (.int .i64 0)] [(0, (.string ⟨#[100, 105, 118, 117]⟩)), (1, (.int .i64 2)), (2, (.int .i64 12))]).bind fun c22 =>
 (fillL (pl [(0, 1), (1, 1), (2, 1)]) [(.string ⟨#[]⟩), (.int .i64 0), (.int .i64 0)] [(0, (.string ⟨#[114, 101, 109]⟩)), (1, (.int .i64 2)), (2, (.int .i64 12))]).bind fun c23 =>
 (fillL (pl [(0, 1), (1, 1), (2, 1)]) [(.string ⟨#[]⟩), (.int .i64 0), (.int .i64 0)] [(0, (.string ⟨#[114, 101, 109, 117]⟩)), (1, (.int .i64 2)), (2, (.int .i64 12))]).bind fun c24 =>
 (fillL (pl [(0, 1), (1, 1), (2, 1)]) [(.string ⟨#[]⟩), (.int .i64 0), (.int .i64 0)] [(0, (.string ⟨#[97, 100, 100, 105]⟩)), (1, (.int .i64 3)), (2, (.int .i64 1))]).bind fun c25 =>
 (fillL (pl [(0, 1), (1, 1), (2, 1)]) [(.string ⟨#[]⟩), (.int .i64 0), (.int .i64 0)] [(0, (.string ⟨#[97, 110, 100, 105]⟩)), (1, (.int .i64 3)), (2, (.int .i64 1))]).bind fun c26 =>
 (fillL (pl [(0, 1), (1, 1), (2, 1)]) [(.string ⟨#[]⟩), (.int .i64 0), (.int .i64 0)] [(0, (.string ⟨#[111, 114, 105]⟩)), (1, (.int .i64 3)), (2, (.int .i64 1))]).bind fun c27 =>
 (fillL (pl [(0, 1), (1, 1), (2, 1)]) [(.string ⟨#[]⟩), (.int .i64 0), (.int .i64 0)] [(0, (.string ⟨#[120, 111, 114, 105]⟩)), (1, (.int .i64 3)), (2, (.int .i64 1))]).bind fun c28 =>
 (fillL (pl [(0, 1), (1, 1), (2, 1)]) [(.string ⟨#[]⟩), (.int .i64 0), (.int .i64 0)] [(0, (.string ⟨#[115, 104, 108, 105]⟩)), (1, (.int .i64 3)), (2, (.int .i64 1))]).bind fun c29 =>
 (fillL (pl [(0, 1), (1, 1), (2, 1)]) [(.string ⟨#[]⟩), (.int .i64 0), (.int .i64 0)] [(0, (.string ⟨#[115, 104, 114, 105]⟩)), (1, (.int .i64 3)), (2, (.int .i64 1))]).bind fun c30 =>
 (fillL (pl [(0, 1), (1, 1), (2, 1)]) [(.string ⟨#[]⟩), (.int .i64 0), (.int .i64 0)] [(0, (.string ⟨#[115, 97, 114, 105]⟩)), (1, (.int .i64 3)), (2, (.int .i64 1))]).bind fun c31 =>
 (fillL (pl [(0, 1), (1, 1), (2, 1)]) [(.string ⟨#[]⟩), (.int .i64 0), (.int .i64 0)] [(0, (.string ⟨#[115, 108, 116, 105]⟩)), (1, (.int .i64 3)), (2, (.int .i64 1))]).bind fun c32 =>
 (fillL (pl [(0, 1), (1, 1), (2, 1)]) [(.string ⟨#[]⟩), (.int .i64 0), (.int .i64 0)] [(0, (.string ⟨#[115, 108, 116, 105, 117]⟩)), (1, (.int .i64 3)), (2, (.int .i64 1))]).bind fun c33 =>
 (fillL (pl [(0, 1), (1, 1), (2, 1)]) [(.string ⟨#[]⟩), (.int .i64 0), (.int .i64 0)] [(0, (.string ⟨#[108, 117, 105]⟩)), (1, (.int .i64 4)), (2, (.int .i64 1))]).bind fun c34 =>
 (fillL (pl [(0, 1), (1, 1), (2, 1)]) [(.string ⟨#[]⟩), (.int .i64 0), (.int .i64 0)] [(0, (.string ⟨#[108, 119]⟩)), (1, (.int .i64 5)), (2, (.int .i64 3))]).bind fun c35 =>
 (fillL (pl [(0, 1), (1, 1), (2, 1)]) [(.string ⟨#[]⟩), (.int .i64 0), (.int .i64 0)] [(0, (.string ⟨#[108, 104]⟩)), (1, (.int .i64 5)), (2, (.int .i64 3))]).bind fun c36 =>
 (fillL (pl [(0, 1), (1, 1), (2, 1)]) [(.string ⟨#[]⟩), (.int .i64 0), (.int .i64 0)] [(0, (.string ⟨#[108, 104, 117]⟩)), (1, (.int .i64 5)), (2, (.int .i64 3))]).bind fun c37 =>
 (fillL (pl [(0, 1), (1, 1), (2, 1)]) [(.string ⟨#[]⟩), (.int .i64 0), (.int .i64 0)] [(0, (.string ⟨#[108, 98]⟩)), (1, (.int .i64 5)), (2, (.int .i64 3))]).bind fun c38 =>
 (fillL (pl [(0, 1), (1, 1), (2, 1)]) [(.string ⟨#[]⟩), (.int .i64 0), (.int .i64 0)] [(0, (.string ⟨#[108, 98, 117]⟩)), (1, (.int .i64 5)), (2, (.int .i64 3))]).bind fun c39 =>
 (fillL (pl [(0, 1), (1, 1), (2, 1)]) [(.string ⟨#[]⟩), (.int .i64 0), (.int .i64 0)] [(0, (.string ⟨#[115, 119]⟩)), (1, (.int .i64 5)), (2, (.int .i64 3))]).bind fun c40 =>
 (fillL (pl [(0, 1), (1, 1), (2, 1)]) [(.string ⟨#[]⟩), (.int .i64 0), (.int .i64 0)] [(0, (.string ⟨#[115, 104]⟩)), (1, (.int .i64 5)), (2, (.int .i64 3))]).bind fun c41 =>
 (fillL (pl [(0, 1), (1, 1), (2, 1)]) [(.string ⟨#[]⟩), (.int .i64 0), (.int .i64 0)] [(0, (.string ⟨#[115, 98]⟩)), (1, (.int .i64 5)), (2, (.int .i64 3))]).bind fun c42 =>
 (fillL (pl [(0, 1), (1, 1), (2, 1)]) [(.string ⟨#[]⟩), (.int .i64 0), (.int .i64 0)] [(0, (.string ⟨#[106, 97, 108, 114]⟩)), (1, (.int .i64 5)), (2, (.int .i64 2))]).bind fun c43 =>
 (fillL (pl [(0, 1), (1, 1), (2, 1)]) [(.string ⟨#[]⟩), (.int .i64 0), (.int .i64 0)] [(0, (.string ⟨#[102, 108, 100]⟩)), (1, (.int .i64 6)), (2, (.int .i64 4))]).bind fun c44 =>
 (fillL (pl [(0, 1), (1, 1), (2, 1)]) [(.string ⟨#[]⟩), (.int .i64 0), (.int .i64 0)] [(0, (.string ⟨#[102, 115, 100]⟩)), (1, (.int .i64 6)), (2, (.int .i64 4))]).bind fun c45 =>
 (fillL (pl [(0, 1), (1, 1), (2, 1)]) [(.string ⟨#[]⟩), (.int .i64 0), (.int .i64 0)] [(0, (.string ⟨#[98, 101, 113]⟩)), (1, (.int .i64 7)), (2, (.int .i64 2))]).bind fun c46 =>
 (fillL (pl [(0, 1), (1, 1), (2, 1)]) [(.string ⟨#[]⟩), (.int .i64 0), (.int .i64 0)] [(0, (.string ⟨#[98, 110, 101]⟩)), (1, (.int .i64 7)), (2, (.int .i64 2))]).bind fun c47 =>
 (fillL (pl [(0, 1), (1, 1), (2, 1)]) [(.string ⟨#[]⟩), (.int .i64 0), (.int .i64 0)] [(0, (.string ⟨#[98, 108, 116]⟩)), (1, (.int .i64 7)), (2, (.int .i64 2))]).bind fun c48 =>
 (fillL (pl [(0, 1), (1, 1), (2, 1)]) [(.string ⟨#[]⟩), (.int .i64 0), (.int .i64 0)] [(0, (.string ⟨#[98, 103, 101]⟩)), (1, (.int .i64 7)), (2, (.int .i64 2))]).bind fun c49 =>
 (fillL (pl [(0, 1), (1, 1), (2, 1)]) [(.string ⟨#[]⟩), (.int .i64 0), (.int .i64 0)] [(0, (.string ⟨#[98, 108, 116, 117]⟩)), (1, (.int .i64 7)), (2, (.int .i64 2))]).bind fun c50 =>
 (fillL (pl [(0, 1), (1, 1), (2, 1)]) [(.string ⟨#[]⟩), (.int .i64 0), (.int .i64 0)] [(0, (.string ⟨#[98, 103, 101, 117]⟩)), (1, (.int .i64 7)), (2, (.int .i64 2))]).bind fun c51 =>
 (fillL (pl [(0, 1), (1, 1), (2, 1)]) [(.string ⟨#[]⟩), (.int .i64 0), (.int .i64 0)] [(0, (.string ⟨#[106, 97, 108]⟩)), (1, (.int .i64 8)), (2, (.int .i64 2))]).bind fun c52 =>
 (fillL (pl [(0, 1), (1, 1), (2, 1)]) [(.string ⟨#[]⟩), (.int .i64 0), (.int .i64 0)] [(0, (.string ⟨#[102, 97, 100, 100]⟩)), (1, (.int .i64 9)), (2, (.int .i64 4))]).bind fun c53 =>
 (fillL (pl [(0, 1), (1, 1), (2, 1)]) [(.string ⟨#[]⟩), (.int .i64 0), (.int .i64 0)] [(0, (.string ⟨#[102, 115, 117, 98]⟩)), (1, (.int .i64 9)), (2, (.int .i64 4))]).bind fun c54 =>
 (fillL (pl [(0, 1), (1, 1), (2, 1)]) [(.string ⟨#[]⟩), (.int .i64 0), (.int .i64 0)] [(0, (.string ⟨#[102, 109, 117, 108]⟩)), (1, (.int .i64 9)), (2, (.int .i64 5))]).bind fun c55 =>
 (fillL (pl [(0, 1), (1, 1), (2, 1)]) [(.string ⟨#[]⟩), (.int .i64 0), (.int .i64 0)] [(0, (.string ⟨#[102, 100, 105, 118]⟩)), (1, (.int .i64 9)), (2, (.int .i64 16))]).bind fun c56 =>
 (fillL (pl [(0, 1), (1, 1), (2, 1)]) [(.string ⟨#[]⟩), (.int .i64 0), (.int .i64 0)] [(0, (.string ⟨#[102, 109, 105, 110]⟩)), (1, (.int .i64 9)), (2, (.int .i64 2))]).bind fun c57 =>
 (fillL (pl [(0, 1), (1, 1), (2, 1)]) [(.string ⟨#[]⟩), (.int .i64 0), (.int .i64 0)] [(0, (.string ⟨#[102, 109, 97, 120]⟩)), (1, (.int .i64 9)), (2, (.int .i64 2))]).bind fun c58 =>
 (fillL (pl [(0, 1), (1, 1), (2, 1)]) [(.string ⟨#[]⟩), (.int .i64 0), (.int .i64 0)] [(0, (.string ⟨#[102, 115, 113, 114, 116]⟩)), (1, (.int .i64 10)), (2, (.int .i64 20))]).bind fun c59 =>
 (fillL (pl [(0, 1), (1, 1), (2, 1)]) [(.string ⟨#[]⟩), (.int .i64 0), (.int .i64 0)] [(0, (.string ⟨#[102, 110, 101, 103]⟩)), (1, (.int .i64 10)), (2, (.int .i64 2))]).bind fun c60 =>
 (fillL (pl [(0, 1), (1, 1), (2, 1)]) [(.string ⟨#[]⟩), (.int .i64 0), (.int .i64 0)] [(0, (.string ⟨#[102, 97, 98, 115]⟩)), (1, (.int .i64 10)), (2, (.int .i64 2))]).bind fun c61 =>
 (fillL (pl [(0, 1), (1, 1), (2, 1)]) [(.string ⟨#[]⟩), (.int .i64 0), (.int .i64 0)] [(0, (.string ⟨#[102, 101, 113]⟩)), (1, (.int .i64 11)), (2, (.int .i64 2))]).bind fun c62 =>
 (fillL (pl [(0, 1), (1, 1), (2, 1)]) [(.string ⟨#[]⟩), (.int .i64 0), (.int .i64 0)] [(0, (.string ⟨#[102, 108, 116]⟩)), (1, (.int .i64 11)), (2, (.int .i64 2))]).bind fun c63 =>
 (fillL (pl [(0, 1), (1, 1), (2, 1)]) [(.string ⟨#[]⟩), (.int .i64 0), (.int .i64 0)] [(0, (.string ⟨#[102, 108, 101]⟩)), (1, (.int .i64 11)), (2, (.int .i64 2))]).bind fun c64 =>
 (fillL (pl [(0, 1), (1, 1), (2, 1)]) [(.string ⟨#[]⟩), (.int .i64 0), (.int .i64 0)] [(0, (.string ⟨#[102, 99, 108, 97, 115, 115]⟩)), (1, (.int .i64 12)), (2, (.int .i64 2))]).bind fun c65 =>
 (fillL (pl [(0, 1), (1, 1), (2, 1)]) [(.string ⟨#[]⟩), (.int .i64 0), (.int .i64 0)] [(0, (.string ⟨#[102, 99, 118, 116, 119]⟩)), (1, (.int .i64 12)), (2, (.int .i64 2))]).bind fun c66 =>
 (fillL (pl [(0, 1), (1, 1), (2, 1)]) [(.string ⟨#[]⟩), (.int .i64 0), (.int .i64 0)] [(0, (.string ⟨#[102, 109, 118, 108]⟩)), (1, (.int .i64 12)), (2, (.int .i64 2))]).bind fun c67 =>
 (fillL (pl [(0, 1), (1, 1), (2, 1)]) [(.string ⟨#[]⟩), (.int .i64 0), (.int .i64 0)] [(0, (.string ⟨#[102, 109, 118, 104]⟩)), (1, (.int .i64 12)), (2, (.int .i64 2))]).bind fun c68 =>
 (fillL (pl [(0, 1), (1, 1), (2, 1)]) [(.string ⟨#[]⟩), (.int .i64 0), (.int .i64 0)] [(0, (.string ⟨#[102, 99, 118, 116, 100]⟩)), (1, (.int .i64 13)), (2, (.int .i64 2))]).bind fun c69 =>
 (fillL (pl [(0, 1), (1, 1), (2, 1)]) [(.string ⟨#[]⟩), (.int .i64 0), (.int .i64 0)] [(0, (.string ⟨#[102, 112, 117, 116]⟩)), (1, (.int .i64 14)), (2, (.int .i64 2))]).bind fun c70 =>
 (fillL (pl [(0, 1), (1, 1), (2, 1)]) [(.string ⟨#[]⟩), (.int .i64 0), (.int .i64 0)] [(0, (.string ⟨#[109, 102, 99]⟩)), (1, (.int .i64 15)), (2, (.int .i64 2))]).bind fun c71 =>
 (fillL (pl [(0, 1), (1, 1), (2, 1)]) [(.string ⟨#[]⟩), (.int .i64 0), (.int .i64 0)] [(0, (.string ⟨#[109, 116, 99]⟩)), (1, (.int .i64 15)), (2, (.int .i64 2))]).bind fun c72 =>
 (fillL (plA 3) [(.string ⟨#[]⟩), (.int .i64 0), (.int .i64 0), (.string ⟨#[]⟩), (.int .i64 0), (.int .i64 0), (.string ⟨#[]⟩), (.int .i64 0), (.int .i64 0), (.string ⟨#[]⟩), (.int .i64 0), (.int .i64 0), (.string ⟨#[]⟩), (.int .i64 0), (.int .i64 0), (.string ⟨#[]⟩), (.int .i64 0), (.int .i64 0), (.string ⟨#[]⟩), (.int .i64 0), (.int .i64 0), (.string ⟨#[]⟩), (.int .i64 0), (.int .i64 0), (.string ⟨#[]⟩), (.int .i64 0), (.int .i64 0), (.string ⟨#[]⟩), (.int .i64 0), (.int .i64 0), (.string ⟨#[]⟩), (.int .i64 0), (.int .i64 0), (.string ⟨#[]⟩), (.int .i64 0), (.int .i64 0), (.string ⟨#[]⟩), (.int .i64 0), (.int .i64 0), (.string ⟨#[]⟩), (.int .i64 0), (.int .i64 0), (.string ⟨#[]⟩), (.int .i64 0), (.int .i64 0), (.string ⟨#[]⟩), (.int .i64 0), (.int .i64 0), (.string ⟨#[]⟩), (.int .i64 0), (.int .i64 0), (.string ⟨#[]⟩), (.int .i64 0), (.int .i64 0), (.string ⟨#[]⟩), (.int .i64 0), (.int .i64 0), (.string ⟨#[]⟩), (.int .i64 0), (.int .i64 0), (.string ⟨#[]⟩), (.int .i64 0), (.int .i64 0), (.string ⟨#[]⟩), (.int .i64 0), (.int .i64 0), (.string ⟨#[]⟩), (.int .i64 0), (.int .i64 0), (.string ⟨#[]⟩), (.int .i64 0), (.int .i64 0), (.string ⟨#[]⟩), (.int .i64 0), (.int .i64 0), (.string ⟨#[]⟩), (.int .i64 0), (.int .i64 0), (.string ⟨#[]⟩), (.int .i64 0), (.int .i64 0), (.string ⟨#[]⟩), (.int .i64 0), (.int .i64 0), (.string ⟨#[]⟩), (.int .i64 0), (.int .i64 0), (.string ⟨#[]⟩), (.int .i64 0), (.int .i64 0), (.string ⟨#[]⟩), (.int .i64 0), (.int .i64 0), (.string ⟨#[]⟩), (.int .i64 0), (.int .i64 0), (.string ⟨#[]⟩), (.int .i64 0), (.int .i64 0), (.string ⟨#[]⟩), (.int .i64 0), (.int .i64 0), (.string ⟨#[]⟩), (.int .i64 0), (.int .i64 0), (.string ⟨#[]⟩), (.int .i64 0), (.int .i64 0), (.string ⟨#[]⟩), (.int .i64 0), (.int .i64 0), (.string ⟨#[]⟩), (.int .i64 0), (.int .i64 0), (.string ⟨#[]⟩), (.int .i64 0), (.int .i64 0), (.string ⟨#[]⟩), (.int .i64 0), (.int .i64 0), (.string ⟨#[]⟩), (.int .i64 0), (.int .i64 0), (.string ⟨#[]⟩), (.int .i64 0), (.int .i64 0), (.string ⟨#[]⟩), (.int .i64 0), (.int .i64 0), (.string ⟨#[]⟩), (.int .i64 0), (.int .i64 0), (.string ⟨#[]⟩), (.int .i64 0), (.int .i64 0), (.string ⟨#[]⟩), (.int .i64 0), (.int .i64 0), (.string ⟨#[]⟩), (.int .i64 0), (.int .i64 0), (.string ⟨#[]⟩), (.int .i64 0), (.int .i64 0), (.string ⟨#[]⟩), (.int .i64 0), (.int .i64 0), (.string ⟨#[]⟩), (.int .i64 0), (.int .i64 0), (.string ⟨#[]⟩), (.int .i64 0), (.int .i64 0), (.string ⟨#[]⟩), (.int .i64 0), (.int .i64 0), (.string ⟨#[]⟩), (.int .i64 0), (.int .i64 0), (.string ⟨#[]⟩), (.int .i64 0), (.int .i64 0), (.string ⟨#[]⟩), (.int .i64 0), (.int .i64 0), (.string ⟨#[]⟩), (.int .i64 0), (.int .i64 0), (.string ⟨#[]⟩), (.int .i64 0), (.int .i64 0), (.string ⟨#[]⟩), (.int .i64 0), (.int .i64 0), (.string ⟨#[]⟩), (.int .i64 0), (.int .i64 0), (.string ⟨#[]⟩), (.int .i64 0), (.int .i64 0), (.string ⟨#[]⟩), (.int .i64 0), (.int .i64 0), (.string ⟨#[]⟩), (.int .i64 0), (.int .i64 0), (.string ⟨#[]⟩), (.int .i64 0), (.int .i64 0), (.string ⟨#[]⟩), (.int .i64 0), (.int .i64 0), (.string ⟨#[]⟩), (.int .i64 0), (.int .i64 0), (.string ⟨#[]⟩), (.int .i64 0), (.int .i64 0), (.string ⟨#[]⟩), (.int .i64 0), (.int .i64 0), (.string ⟨#[]⟩), (.int .i64 0), (.int .i64 0), (.string ⟨#[]⟩), (.int .i64 0), (.int .i64 0), (.string ⟨#[]⟩), (.int .i64 0), (.int .i64 0), (.string ⟨#[]⟩), (.int .i64 0), (.int .i64 0), (.string ⟨#[]⟩), (.int .i64 0), (.int .i64 0)] [(1, (.agg c2.toArray)), (64, (.agg c3.toArray)), (65, (.agg c4.toArray)), (66, (.agg c5.toArray)), (70, (.agg c6.toArray)), (71, (.agg c7.toArray)), (67, (.agg c8.toArray)), (2, (.agg c9.toArray)), (3, (.agg c10.toArray)), (10, (.agg c11.toArray)), (11, (.agg c12.toArray)), (12, (.agg c13.toArray)), (13, (.agg c14.toArray)), (14, (.agg c15.toArray)), (15, (.agg c16.toArray)), (16, (.agg c17.toArray)), (17, (.agg c18.toArray)), (4, (.agg c19.toArray)), (5, (.agg c20.toArray)), (6, (.agg c21.toArray)), (7, (.agg c22.toArray)), (8, (.agg c23.toArray)), (9, (.agg c24.toArray)), (18, (.agg c25.toArray)), (19, (.agg c26.toArray)), (20, (.agg c27.toArray)), (21, (.agg c28.toArray)), (22, (.agg c29.toArray)), (23, (.agg c30.toArray)), (24, (.agg c31.toArray)), (25, (.agg c32.toArray)), (26, (.agg c33.toArray)), (27, (.agg c34.toArray)), (28, (.agg c35.toArray)), (29, (.agg c36.toArray)), (30, (.agg c37.toArray)), (31, (.agg c38.toArray)), (32, (.agg c39.toArray)), (33, (.agg c40.toArray)), (34, (.agg c41.toArray)), (35, (.agg c42.toArray)), (45, (.agg c43.toArray)), (36, (.agg c44.toArray)), (37, (.agg c45.toArray)), (38, (.agg c46.toArray)), (39, (.agg c47.toArray)), (40, (.agg c48.toArray)), (41, (.agg c49.toArray)), (42, (.agg c50.toArray)), (43, (.agg c51.toArray)), (44, (.agg c52.toArray)), (46, (.agg c53.toArray)), (47, (.agg c54.toArray)), (48, (.agg c55.toArray)), (49, (.agg c56.toArray)), (51, (.agg c57.toArray)), (52, (.agg c58.toArray)), (50, (.agg c59.toArray)), (53, (.agg c60.toArray)), (54, (.agg c61.toArray)), (55, (.agg c62.toArray)), (56, (.agg c63.toArray)), (57, (.agg c64.toArray)), (58, (.agg c65.toArray)), (60, (.agg c66.toArray)), (61, (.agg c67.toArray)), (62, (.agg c68.toArray)), (59, (.agg c69.toArray)), (63, (.agg c70.toArray)), (68, (.agg c71.toArray)), (69, (.agg c72.toArray))]).bind fun c73 =>
 (st 216 (ptr H.next 0) (.agg c73.toArray) H1).bind fun H74 =>
 (ldN 216 (ptr H.next 0) H74).bind fun r75 =>
 some (.ret r75, H74)
def lv45 : List (Option An) := []
theorem s45_eq (C : Cl) (n : Nat)  (H : Hp) : evFn Tryd.prog C n lv45 Tryd.f45 [] H = s45 C n  H := by kernel_rfl
/-- (*bulkhead/exec.step).alu -/
noncomputable def s46 (C : Cl) (n : Nat) (x0 : Value) (x1 : Value) (x2 : Value) (H : Hp) : R :=
 (nilc x0).bind fun t10 =>
 (fa 25 t10).bind fun t11 =>
 (fa 0 t11).bind fun t12 =>
 (ld t12 H).bind fun t13 =>
 callK (C 63 [t13, x1, x2] H) pnK fun t16 H1 =>
 (ext1 t16 0).bind fun t17 =>
 (ext1 t16 1).bind fun t18 =>
 (bin 0 .eql t18 (.int .i64 10)).bind fun t20 =>
 ifB t20 (callK (C 64 [x0, (.int .i64 6), (.int .u32 0)] H1) pnK fun t22 H2 =>
 some (.ret (.tuple #[]), H2)) (callK (C 65 [x0, t17] H1) pnK fun t25 H3 =>
 some (.ret (.tuple #[]), H3))
def lv46 : List (Option An) := []
theorem s46_eq (C : Cl) (n : Nat) (x0 : Value) (x1 : Value) (x2 : Value) (H : Hp) : evFn Tryd.prog C n lv46 Tryd.f46 [x0, x1, x2] H = s46 C n x0 x1 x2 H := by kernel_rfl
/-- (*bulkhead/exec.step).memory -/
noncomputable def s47 (C : Cl) (n : Nat) (x0 : Value) (x1 : Value) (H : Hp) : R :=
 (nilc x0).bind fun t8 =>
 (fa 0 t8).bind fun t9 =>
 (ldN 25 t9 H.cl.cl.cl.cl).bind fun t10 =>
 (nilc x0).bind fun t12 =>
 (fa 25 t12).bind fun t13 =>
 ((rdA t13).map fun c => [c]).bind fun r1 =>
 (ldN 5 t13 H.cl.cl.cl.cl.cl.cl.cl.cl).bind fun t14 =>
 let H2 := H.cl.cl.cl.cl.cl.cl.cl.cl.cl.new (.rw [(.int .u32 0), (.int .u32 0), (.int .u32 0), (.int .u32 0), (.int .u32 0), (.int .u32 0), (.int .u32 0), (.int .u32 0), (.int .u32 0), (.int .u32 0), (.int .u32 0), (.int .u32 0), (.int .u32 0), (.int .u32 0), (.int .u32 0), (.int .u32 0), (.int .u64 0), (.int .u64 0), (.int .u64 0), (.int .u64 0), (.int .u64 0), (.int .u64 0), (.int .u64 0), (.int .u64 0), (.int .u32 0)])
 let H3 := H2.cl.new (.rw [(.int .i64 0), (.int .i64 0), (.int .i64 0), (.int .i64 0), (.int .i64 0)])
 (rdA (ptr H.cl.cl.cl.cl.cl.cl.cl.cl.cl.next 0)).bind fun b4 => bif memN b4 (r1 ++ []) then none else (st 25 (ptr H.cl.cl.cl.cl.cl.cl.cl.cl.cl.next 0) t10 (H3.cl.opn H.lim)).bind fun H5 =>
 (st 5 (ptr H2.cl.next 0) t14 H5).bind fun H6 =>
 (fa 0 (ptr H2.cl.next 0)).bind fun t15 =>
 (ld t15 H6).bind fun t16 =>
 callK (C 41 [t16] H6) pnK fun t17 H7 =>
 (bin 0 .mul (.int .i64 8) t17).bind fun t18 =>
 (fa 0 (ptr H2.cl.next 0)).bind fun t19 =>
 (ld t19 H7).bind fun t20 =>
 (bin 0 .eql t20 (.int .i64 45)).bind fun t31 =>
 ifB t31 ((fa 1 (ptr H2.cl.next 0)).bind fun t33 =>
 (ld t33 H7.cl.cl.cl).bind fun t34 =>
 (fa 24 (ptr H.cl.cl.cl.cl.cl.cl.cl.cl.cl.next 0)).bind fun t35 =>
 (ld t35 H7.cl.cl.cl.cl.cl).bind fun t36 =>
 (bin 0 .add t36 (.int .u32 4)).bind fun t37 =>
 (nilc x0).bind fun t38 =>
 (fa 0 t38).bind fun t39 =>
 (fa 0 t39).bind fun t40 =>
 (ia 16 1 t40 t34).bind fun t41 =>
 (st 1 t41 t37 (H7.cl.cl.cl.cl.cl.cl.cl.cl.cl.opn H7.lim)).bind fun H8 =>
 (fa 2 (ptr H2.cl.next 0)).bind fun t43 =>
 (ld t43 H8).bind fun t44 =>
 (fa 0 (ptr H.cl.cl.cl.cl.cl.cl.cl.cl.cl.next 0)).bind fun t45 =>
 (ia 16 1 t45 t44).bind fun t46 =>
 (ld t46 H8).bind fun t47 =>
 (bin 0 .add t47 x1).bind fun t49 =>
 callK (C 49 [x0, t49] H8) pnK fun t50 H9 =>
 some (.ret (.tuple #[]), H9)) (jn ((bin 0 .eql t20 (.int .i64 28)).bind fun t52 =>
 ifB t52 (some (.nrm [x0, (ptr H2.cl.next 0), t18, t20, t52] H7)) ((bin 0 .eql t20 (.int .i64 29)).bind fun t53 =>
 ifB t53 (some (.nrm [x0, (ptr H2.cl.next 0), t18, t20, t53] H7)) ((bin 0 .eql t20 (.int .i64 31)).bind fun t54 =>
 ifB t54 (some (.nrm [x0, (ptr H2.cl.next 0), t18, t20, t54] H7)) ((bin 0 .eql t20 (.int .i64 30)).bind fun t55 =>
 ifB t55 (some (.nrm [x0, (ptr H2.cl.next 0), t18, t20, t55] H7)) ((bin 0 .eql t20 (.int .i64 32)).bind fun t56 =>
 some (.nrm [x0, (ptr H2.cl.next 0), t18, t20, t56] H7)))))) pnK noX noR fun vs10 H11 =>
 ifB (vs10.getD 4 dead) ((nilc (vs10.getD 0 dead)).bind fun t59 =>
 (fa 30 t59).bind fun t60 =>
 (ld t60 H11.cl.cl.cl.cl.cl).bind fun t61 =>
 (cvI .u32 t61).bind fun t62 =>
 (fa 0 (vs10.getD 1 dead)).bind fun t64 =>
 (ld t64 H11.cl.cl.cl.cl.cl.cl.cl.cl.cl).bind fun t65 =>
 (bin 0 .eql t65 (.int .i64 29)).bind fun t66 =>
 (ifG t66 false ((fa 0 (vs10.getD 1 dead)).bind fun t68 =>
 some (t68, H11.cl.cl.cl.cl.cl.cl.cl.cl.cl.cl.cl.cl)) (some (undef, H11.cl.cl.cl.cl.cl.cl.cl.cl.cl.cl.cl.cl))).bind fun p12 =>
 (ifG t66 false ((ld p12.1 p12.2.cl).bind fun t69 =>
 some (t69, p12.2.cl)) (some (undef, p12.2.cl))).bind fun p13 =>
 (ifG t66 false ((bin 0 .eql p13.1 (.int .i64 31)).bind fun t70 =>
 some (t70, p13.2.cl)) (some (undef, p13.2.cl))).bind fun p14 =>
 (pick t66 (.bool true) p14.1).bind fun t71 =>
 callK (C 66 [t62, (vs10.getD 2 dead), t71] p14.2.cl.cl) pnN fun t72 H15 =>
 callK (C 65 [(vs10.getD 0 dead), t72] (H15.opn H11.lim)) pnK fun t73 H16 =>
 some (.ret (.tuple #[]), H16)) ((bin 0 .eql (vs10.getD 3 dead) (.int .i64 36)).bind fun t75 =>
 ifB t75 ((nilc (vs10.getD 0 dead)).bind fun t78 =>
 (fa 30 t78).bind fun t79 =>
 (ld t79 H11).bind fun t80 =>
 callK (C 67 [(vs10.getD 0 dead), t80] H11) pnK fun t81 H17 =>
 some (.ret (.tuple #[]), H17)) ((nilc (vs10.getD 0 dead)).bind fun t22 =>
 (fa 0 t22).bind fun t23 =>
 (fa 24 t23).bind fun t24 =>
 (ld t24 H11).bind fun t25 =>
 (bin 0 .add t25 (.int .u32 4)).bind fun t26 =>
 (nilc (vs10.getD 0 dead)).bind fun t27 =>
 (fa 0 t27).bind fun t28 =>
 (fa 24 t28).bind fun t29 =>
 (st 1 t29 t26 H11).bind fun H18 =>
 some (.ret (.tuple #[]), H18))))
def lv47 : List (Option An) := [none, none, none, none, none, some ⟨[0, 5, 6, 20, 51], [], false, false⟩]
theorem s47_eq (C : Cl) (n : Nat) (x0 : Value) (x1 : Value) (H : Hp) : evFn Tryd.prog C n lv47 Tryd.f47 [x0, x1] H = s47 C n x0 x1 H := by kernel_rfl
/-- (*bulkhead/exec.step).branch -/
noncomputable def s48 (C : Cl) (n : Nat) (x0 : Value) (x1 : Value) (H : Hp) : R :=
 (nilc x0).bind fun t9 =>
 (fa 0 t9).bind fun t10 =>
 (ldN 25 t10 H.cl.cl.cl.cl).bind fun t11 =>
 (nilc x0).bind fun t13 =>
 (fa 25 t13).bind fun t14 =>
 ((rdA t14).map fun c => [c]).bind fun r1 =>
 (ldN 5 t14 H.cl.cl.cl.cl.cl.cl.cl.cl).bind fun t15 =>
 let H2 := H.cl.cl.cl.cl.cl.cl.cl.cl.cl.new (.rw [(.int .u32 0), (.int .u32 0), (.int .u32 0), (.int .u32 0), (.int .u32 0), (.int .u32 0), (.int .u32 0), (.int .u32 0), (.int .u32 0), (.int .u32 0), (.int .u32 0), (.int .u32 0), (.int .u32 0), (.int .u32 0), (.int .u32 0), (.int .u32 0), (.int .u64 0), (.int .u64 0), (.int .u64 0), (.int .u64 0), (.int .u64 0), (.int .u64 0), (.int .u64 0), (.int .u64 0), (.int .u32 0)])
 let H3 := H2.cl.new (.rw [(.int .i64 0), (.int .i64 0), (.int .i64 0), (.int .i64 0), (.int .i64 0)])
 (rdA (ptr H.cl.cl.cl.cl.cl.cl.cl.cl.cl.next 0)).bind fun b4 => bif memN b4 (r1 ++ []) then none else (st 25 (ptr H.cl.cl.cl.cl.cl.cl.cl.cl.cl.next 0) t11 (H3.cl.opn H.lim)).bind fun H5 =>
 (st 5 (ptr H2.cl.next 0) t15 H5).bind fun H6 =>
 (fa 0 (ptr H2.cl.next 0)).bind fun t17 =>
 (ld t17 H6.cl.cl).bind fun t18 =>
 (fa 1 (ptr H2.cl.next 0)).bind fun t19 =>
 (ld t19 H6.cl.cl.cl.cl).bind fun t20 =>
 (fa 0 (ptr H.cl.cl.cl.cl.cl.cl.cl.cl.cl.next 0)).bind fun t21 =>
 (ia 16 1 t21 t20).bind fun t22 =>
 (ld t22 H6.cl.cl.cl.cl.cl.cl.cl).bind fun t23 =>
 (fa 2 (ptr H2.cl.next 0)).bind fun t24 =>
 (ld t24 H6.cl.cl.cl.cl.cl.cl.cl.cl.cl).bind fun t25 =>
 (fa 0 (ptr H.cl.cl.cl.cl.cl.cl.cl.cl.cl.next 0)).bind fun t26 =>
 (ia 16 1 t26 t25).bind fun t27 =>
 (ld t27 H6.cl.cl.cl.cl.cl.cl.cl.cl.cl.cl.cl.cl).bind fun t28 =>
 callK (C 68 [t18, t23, t28] H6.cl.cl.cl.cl.cl.cl.cl.cl.cl.cl.cl.cl.cl) pnN fun t29 H7 =>
 (ext1 t29 0).bind fun t30 =>
 (ext1 t29 1).bind fun t31 =>
 ifB t30 ((fa 24 (ptr H.cl.cl.cl.cl.cl.cl.cl.cl.cl.next 0)).bind fun t34 =>
 (ld t34 (H7.cl.cl.cl.cl.opn H6.lim)).bind fun t35 =>
 (bin 0 .mul (.int .u32 4) x1).bind fun t37 =>
 (bin 0 .add t35 t37).bind fun t38 =>
 callK (C 49 [x0, t38] (H7.cl.cl.cl.cl.opn H6.lim)) pnK fun t39 H8 =>
 some (.ret (.tuple #[]), H8)) ((nilc x0).bind fun t41 =>
 (fa 0 t41).bind fun t42 =>
 (fa 24 t42).bind fun t43 =>
 (ld t43 (H7.cl.cl.cl.cl.opn H6.lim)).bind fun t44 =>
 (bin 0 .add t44 (.int .u32 4)).bind fun t45 =>
 (nilc x0).bind fun t46 =>
 (fa 0 t46).bind fun t47 =>
 (fa 24 t47).bind fun t48 =>
 (st 1 t48 t45 (H7.cl.cl.cl.cl.opn H6.lim)).bind fun H9 =>
 some (.ret (.tuple #[]), H9))
def lv48 : List (Option An) := []
theorem s48_eq (C : Cl) (n : Nat) (x0 : Value) (x1 : Value) (H : Hp) : evFn Tryd.prog C n lv48 Tryd.f48 [x0, x1] H = s48 C n x0 x1 H := by kernel_rfl
/-- (*bulkhead/exec.step).to -/
noncomputable def s49 (C : Cl) (n : Nat) (x0 : Value) (x1 : Value) (H : Hp) : R :=
 (bin 0 .rem x1 (.int .u32 4)).bind fun t5 =>
 (bin 0 .neq t5 (.int .u32 0)).bind fun t6 =>
 ifB t6 (callK (C 64 [x0, (.int .i64 5), x1] H) pnK fun t9 H1 =>
 some (.ret (.tuple #[]), H1)) ((nilc x0).bind fun t12 =>
 (fa 0 t12).bind fun t13 =>
 (fa 24 t13).bind fun t14 =>
 (st 1 t14 x1 H).bind fun H2 =>
 some (.ret (.tuple #[]), H2))
def lv49 : List (Option An) := []
theorem s49_eq (C : Cl) (n : Nat) (x0 : Value) (x1 : Value) (H : Hp) : evFn Tryd.prog C n lv49 Tryd.f49 [x0, x1] H = s49 C n x0 x1 H := by kernel_rfl
/-- (*bulkhead/exec.step).float -/
noncomputable def s50 (C : Cl) (n : Nat) (x0 : Value) (x1 : Value) (H : Hp) : R :=
 (nilc x0).bind fun t10 =>
 (fa 0 t10).bind fun t11 =>
 (ldN 25 t11 H.cl.cl.cl.cl).bind fun t12 =>
 (nilc x0).bind fun t14 =>
 (fa 25 t14).bind fun t15 =>
 ((rdA t15).map fun c => [c]).bind fun r1 =>
 (ldN 5 t15 H.cl.cl.cl.cl.cl.cl.cl.cl).bind fun t16 =>
 let H2 := H.cl.cl.cl.cl.cl.cl.cl.cl.cl.new (.rw [(.int .u32 0), (.int .u32 0), (.int .u32 0), (.int .u32 0), (.int .u32 0), (.int .u32 0), (.int .u32 0), (.int .u32 0), (.int .u32 0), (.int .u32 0), (.int .u32 0), (.int .u32 0), (.int .u32 0), (.int .u32 0), (.int .u32 0), (.int .u32 0), (.int .u64 0), (.int .u64 0), (.int .u64 0), (.int .u64 0), (.int .u64 0), (.int .u64 0), (.int .u64 0), (.int .u64 0), (.int .u32 0)])
 let H3 := H2.cl.new (.rw [(.int .i64 0), (.int .i64 0), (.int .i64 0), (.int .i64 0), (.int .i64 0)])
 (rdA (ptr H.cl.cl.cl.cl.cl.cl.cl.cl.cl.next 0)).bind fun b4 => bif memN b4 (r1 ++ []) then none else (st 25 (ptr H.cl.cl.cl.cl.cl.cl.cl.cl.cl.next 0) t12 (H3.cl.opn H.lim)).bind fun H5 =>
 (st 5 (ptr H2.cl.next 0) t16 H5).bind fun H6 =>
 jn ((bin 0 .eql x1 (.int .i64 9)).bind fun t18 =>
 ifB t18 ((fa 3 (ptr H2.cl.next 0)).bind fun t19 =>
 (ld t19 H6).bind fun t20 =>
 (fa 16 (ptr H.cl.cl.cl.cl.cl.cl.cl.cl.cl.next 0)).bind fun t21 =>
 (ia 8 1 t21 t20).bind fun t22 =>
 (ld t22 H6).bind fun t23 =>
 some (.nrm [x0, (ptr H.cl.cl.cl.cl.cl.cl.cl.cl.cl.next 0), (ptr H2.cl.next 0), t23] H6)) (some (.nrm [x0, (ptr H.cl.cl.cl.cl.cl.cl.cl.cl.cl.next 0), (ptr H2.cl.next 0), (.int .u64 0)] H6))) pnK noX noR fun vs7 H8 =>
 (fa 0 (vs7.getD 2 dead)).bind fun t25 =>
 (ld t25 H8.cl.cl).bind fun t26 =>
 (fa 2 (vs7.getD 2 dead)).bind fun t27 =>
 (ld t27 H8.cl.cl.cl.cl).bind fun t28 =>
 (fa 16 (vs7.getD 1 dead)).bind fun t29 =>
 (ia 8 1 t29 t28).bind fun t30 =>
 (ld t30 H8.cl.cl.cl.cl.cl.cl.cl).bind fun t31 =>
 callK (C 69 [t26, t31, (vs7.getD 3 dead)] H8.cl.cl.cl.cl.cl.cl.cl.cl.cl) pnN fun t33 H9 =>
 (ext1 t33 0).bind fun t34 =>
 (ext1 t33 1).bind fun t35 =>
 callK (C 67 [(vs7.getD 0 dead), t34] (H9.cl.cl.cl.cl.opn H8.lim)) pnK fun t38 H10 =>
 some (.ret (.tuple #[]), H10)
def lv50 : List (Option An) := [none, none, some ⟨[0, 4, 5, 6], [], false, false⟩]
theorem s50_eq (C : Cl) (n : Nat) (x0 : Value) (x1 : Value) (H : Hp) : evFn Tryd.prog C n lv50 Tryd.f50 [x0, x1] H = s50 C n x0 x1 H := by kernel_rfl
/-- (*bulkhead/exec.step).between -/
noncomputable def s51 (C : Cl) (n : Nat) (x0 : Value) (H : Hp) : R :=
 (nilc x0).bind fun t7 =>
 (fa 0 t7).bind fun t8 =>
 (ldN 25 t8 H.cl.cl.cl.cl).bind fun t9 =>
 (nilc x0).bind fun t11 =>
 (fa 25 t11).bind fun t12 =>
 ((rdA t12).map fun c => [c]).bind fun r1 =>
 (ldN 5 t12 H.cl.cl.cl.cl.cl.cl.cl.cl).bind fun t13 =>
 let H2 := H.cl.cl.cl.cl.cl.cl.cl.cl.cl.new (.rw [(.int .u32 0), (.int .u32 0), (.int .u32 0), (.int .u32 0), (.int .u32 0), (.int .u32 0), (.int .u32 0), (.int .u32 0), (.int .u32 0), (.int .u32 0), (.int .u32 0), (.int .u32 0), (.int .u32 0), (.int .u32 0), (.int .u32 0), (.int .u32 0), (.int .u64 0), (.int .u64 0), (.int .u64 0), (.int .u64 0), (.int .u64 0), (.int .u64 0), (.int .u64 0), (.int .u64 0), (.int .u32 0)])
 let H3 := H2.cl.new (.rw [(.int .i64 0), (.int .i64 0), (.int .i64 0), (.int .i64 0), (.int .i64 0)])
 (rdA (ptr H.cl.cl.cl.cl.cl.cl.cl.cl.cl.next 0)).bind fun b4 => bif memN b4 (r1 ++ []) then none else (st 25 (ptr H.cl.cl.cl.cl.cl.cl.cl.cl.cl.next 0) t9 (H3.cl.opn H.lim)).bind fun H5 =>
 (st 5 (ptr H2.cl.next 0) t13 H5).bind fun H6 =>
 (fa 0 (ptr H2.cl.next 0)).bind fun t14 =>
 (ld t14 H6).bind fun t15 =>
 jn ((bin 0 .eql t15 (.int .i64 55)).bind fun t17 =>
 ifB t17 (some (.nrm [x0, (ptr H.cl.cl.cl.cl.cl.cl.cl.cl.cl.next 0), (ptr H2.cl.next 0), t15, t17] H6)) ((bin 0 .eql t15 (.int .i64 56)).bind fun t18 =>
 ifB t18 (some (.nrm [x0, (ptr H.cl.cl.cl.cl.cl.cl.cl.cl.cl.next 0), (ptr H2.cl.next 0), t15, t18] H6)) ((bin 0 .eql t15 (.int .i64 57)).bind fun t19 =>
 some (.nrm [x0, (ptr H.cl.cl.cl.cl.cl.cl.cl.cl.cl.next 0), (ptr H2.cl.next 0), t15, t19] H6)))) pnK noX noR fun vs7 H8 =>
 ifB (vs7.getD 4 dead) ((fa 0 (vs7.getD 2 dead)).bind fun t21 =>
 (ld t21 H8.cl.cl).bind fun t22 =>
 (fa 2 (vs7.getD 2 dead)).bind fun t23 =>
 (ld t23 H8.cl.cl.cl.cl).bind fun t24 =>
 (fa 16 (vs7.getD 1 dead)).bind fun t25 =>
 (ia 8 1 t25 t24).bind fun t26 =>
 (ld t26 H8.cl.cl.cl.cl.cl.cl.cl).bind fun t27 =>
 (fa 3 (vs7.getD 2 dead)).bind fun t28 =>
 (ld t28 H8.cl.cl.cl.cl.cl.cl.cl.cl.cl).bind fun t29 =>
 (fa 16 (vs7.getD 1 dead)).bind fun t30 =>
 (ia 8 1 t30 t29).bind fun t31 =>
 (ld t31 H8.cl.cl.cl.cl.cl.cl.cl.cl.cl.cl.cl.cl).bind fun t32 =>
 callK (C 70 [t22, t27, t32] H8.cl.cl.cl.cl.cl.cl.cl.cl.cl.cl.cl.cl.cl) pnN fun t33 H9 =>
 (ext1 t33 0).bind fun t34 =>
 (ext1 t33 1).bind fun t35 =>
 callK (C 65 [(vs7.getD 0 dead), t34] (H9.cl.cl.cl.cl.opn H8.lim)) pnK fun t38 H10 =>
 some (.ret (.tuple #[]), H10)) ((bin 0 .eql (vs7.getD 3 dead) (.int .i64 58)).bind fun t40 =>
 ifB t40 ((fa 2 (vs7.getD 2 dead)).bind fun t42 =>
 (ld t42 H8).bind fun t43 =>
 (fa 16 (vs7.getD 1 dead)).bind fun t44 =>
 (ia 8 1 t44 t43).bind fun t45 =>
 (ld t45 H8).bind fun t46 =>
 callK (C 71 [t46] H8) pnK fun t47 H11 =>
 callK (C 65 [(vs7.getD 0 dead), t47] H11) pnK fun t48 H12 =>
 some (.ret (.tuple #[]), H12)) ((bin 0 .eql (vs7.getD 3 dead) (.int .i64 60)).bind fun t50 =>
 ifB t50 ((fa 2 (vs7.getD 2 dead)).bind fun t52 =>
 (ld t52 H8).bind fun t53 =>
 (fa 16 (vs7.getD 1 dead)).bind fun t54 =>
 (ia 8 1 t54 t53).bind fun t55 =>
 (ld t55 H8).bind fun t56 =>
 callK (C 72 [t56] H8) pnK fun t57 H13 =>
 callK (C 65 [(vs7.getD 0 dead), t57] H13) pnK fun t58 H14 =>
 some (.ret (.tuple #[]), H14)) ((bin 0 .eql (vs7.getD 3 dead) (.int .i64 61)).bind fun t60 =>
 ifB t60 ((fa 2 (vs7.getD 2 dead)).bind fun t62 =>
 (ld t62 H8).bind fun t63 =>
 (fa 16 (vs7.getD 1 dead)).bind fun t64 =>
 (ia 8 1 t64 t63).bind fun t65 =>
 (ld t65 H8).bind fun t66 =>
 (cvI .u32 t66).bind fun t67 =>
 callK (C 65 [(vs7.getD 0 dead), t67] H8) pnK fun t68 H15 =>
 some (.ret (.tuple #[]), H15)) ((bin 0 .eql (vs7.getD 3 dead) (.int .i64 62)).bind fun t70 =>
 ifB t70 ((fa 2 (vs7.getD 2 dead)).bind fun t72 =>
 (ld t72 H8).bind fun t73 =>
 (fa 16 (vs7.getD 1 dead)).bind fun t74 =>
 (ia 8 1 t74 t73).bind fun t75 =>
 (ld t75 H8).bind fun t76 =>
 (bin 0 .shr t76 (.int .u64 32)).bind fun t77 =>
 (cvI .u32 t77).bind fun t78 =>
 callK (C 65 [(vs7.getD 0 dead), t78] H8) pnK fun t79 H16 =>
 some (.ret (.tuple #[]), H16)) ((bin 0 .eql (vs7.getD 3 dead) (.int .i64 59)).bind fun t81 =>
 ifB t81 ((fa 2 (vs7.getD 2 dead)).bind fun t83 =>
 (ld t83 H8).bind fun t84 =>
 (fa 0 (vs7.getD 1 dead)).bind fun t85 =>
 (ia 16 1 t85 t84).bind fun t86 =>
 (ld t86 H8).bind fun t87 =>
 callK (C 73 [t87] H8) pnK fun t88 H17 =>
 callK (C 67 [(vs7.getD 0 dead), t88] H17) pnK fun t89 H18 =>
 some (.ret (.tuple #[]), H18)) ((bin 0 .eql (vs7.getD 3 dead) (.int .i64 63)).bind fun t91 =>
 ifB t91 ((fa 3 (vs7.getD 2 dead)).bind fun t93 =>
 (ld t93 H8.cl.cl.cl).bind fun t94 =>
 (fa 0 (vs7.getD 1 dead)).bind fun t95 =>
 (ia 16 1 t95 t94).bind fun t96 =>
 (ld t96 H8.cl.cl.cl.cl.cl.cl).bind fun t97 =>
 (cvI .u64 t97).bind fun t98 =>
 (bin 0 .shl t98 (.int .u64 32)).bind fun t99 =>
 (fa 2 (vs7.getD 2 dead)).bind fun t100 =>
 (ld t100 H8.cl.cl.cl.cl.cl.cl.cl.cl.cl.cl).bind fun t101 =>
 (fa 0 (vs7.getD 1 dead)).bind fun t102 =>
 (ia 16 1 t102 t101).bind fun t103 =>
 (ld t103 H8.cl.cl.cl.cl.cl.cl.cl.cl.cl.cl.cl.cl.cl).bind fun t104 =>
 (cvI .u64 t104).bind fun t105 =>
 (bin 0 .or t99 t105).bind fun t106 =>
 callK (C 67 [(vs7.getD 0 dead), t106] (H8.cl.cl.cl.cl.cl.cl.cl.cl.cl.cl.cl.cl.cl.cl.cl.opn H8.lim)) pnK fun t107 H19 =>
 some (.ret (.tuple #[]), H19)) (some (.ret (.tuple #[]), H8))))))))
def lv51 : List (Option An) := [none, none, some ⟨[0, 2, 3, 15, 16], [], false, false⟩]
theorem s51_eq (C : Cl) (n : Nat) (x0 : Value) (H : Hp) : evFn Tryd.prog C n lv51 Tryd.f51 [x0] H = s51 C n x0 H := by kernel_rfl
/-- bulkhead/bulkheadref01.Signed -/
noncomputable def s52 (C : Cl) (n : Nat) (x0 : Value) (H : Hp) : R :=
 (cvI .i64 x0).bind fun t5 =>
 jn ((bin 0 .geq t5 (.int .i64 2147483648)).bind fun t7 =>
 ifB t7 ((bin 0 .sub t5 (.int .i64 4294967296)).bind fun t9 =>
 some (.nrm [t9] H)) (some (.nrm [t5] H))) pnK noX noR fun vs1 H2 =>
 some (.ret (vs1.getD 0 dead), H2)
def lv52 : List (Option An) := [none, none, some ⟨[3], [], false, false⟩]
theorem s52_eq (C : Cl) (n : Nat) (x0 : Value) (H : Hp) : evFn Tryd.prog C n lv52 Tryd.f52 [x0] H = s52 C n x0 H := by kernel_rfl
/-- bulkhead/bulkheadref01.divide -/
noncomputable def s53 (C : Cl) (n : Nat) (x0 : Value) (x1 : Value) (x2 : Value) (H : Hp) : R :=
 callK (C 52 [x1] H) pnK fun t10 H1 =>
 callK (C 52 [x2] H1) pnK fun t12 H2 =>
 (bin 0 .eql x0 (.int .i64 6)).bind fun t15 =>
 ifB t15 ((bin 0 .quo t10 t12).bind fun t18 =>
 callK (C 35 [t18] H2) pnK fun t19 H3 =>
 some (.ret t19, H3)) ((bin 0 .eql x0 (.int .i64 8)).bind fun t21 =>
 ifB t21 ((bin 0 .rem t10 t12).bind fun t24 =>
 callK (C 35 [t24] H2) pnK fun t25 H4 =>
 some (.ret t25, H4)) ((bin 0 .eql x0 (.int .i64 7)).bind fun t27 =>
 ifB t27 ((cvI .i64 x1).bind fun t29 =>
 (cvI .i64 x2).bind fun t31 =>
 (bin 0 .quo t29 t31).bind fun t32 =>
 callK (C 35 [t32] H2) pnK fun t33 H5 =>
 some (.ret t33, H5)) ((cvI .i64 x1).bind fun t35 =>
 (cvI .i64 x2).bind fun t37 =>
 (bin 0 .rem t35 t37).bind fun t38 =>
 callK (C 35 [t38] H2) pnK fun t39 H6 =>
 some (.ret t39, H6))))
def lv53 : List (Option An) := []
theorem s53_eq (C : Cl) (n : Nat) (x0 : Value) (x1 : Value) (x2 : Value) (H : Hp) : evFn Tryd.prog C n lv53 Tryd.f53 [x0, x1, x2] H = s53 C n x0 x1 x2 H := by kernel_rfl
/-- bulkhead/bulkheadref01.shift -/
noncomputable def s54 (C : Cl) (n : Nat) (x0 : Value) (x1 : Value) (x2 : Value) (H : Hp) : R :=
 (bin 0 .rem x2 (.int .u32 32)).bind fun t11 =>
 (cvI .i64 t11).bind fun t12 =>
 callK (C 52 [x1] H) pnK fun t14 H1 =>
 jn ((bin 0 .eql x0 (.int .i64 13)).bind fun t17 =>
 ifB t17 (some (.nrm [x1, t12, t14, x0, t17] H1)) ((bin 0 .eql x0 (.int .i64 22)).bind fun t18 =>
 some (.nrm [x1, t12, t14, x0, t18] H1))) pnK noX noR fun vs2 H3 =>
 ifB (vs2.getD 4 dead) ((cvI .i64 (vs2.getD 0 dead)).bind fun t20 =>
 (bin 0 .shl t20 (vs2.getD 1 dead)).bind fun t22 =>
 callK (C 35 [t22] H3) pnK fun t23 H4 =>
 some (.ret t23, H4)) (jn ((bin 0 .eql (vs2.getD 3 dead) (.int .i64 14)).bind fun t25 =>
 ifB t25 (some (.nrm [(vs2.getD 0 dead), (vs2.getD 1 dead), (vs2.getD 2 dead), t25] H3)) ((bin 0 .eql (vs2.getD 3 dead) (.int .i64 23)).bind fun t26 =>
 some (.nrm [(vs2.getD 0 dead), (vs2.getD 1 dead), (vs2.getD 2 dead), t26] H3))) pnK noX noR fun vs5 H6 =>
 ifB (vs5.getD 3 dead) ((cvI .i64 (vs5.getD 0 dead)).bind fun t28 =>
 (bin 0 .shr t28 (vs5.getD 1 dead)).bind fun t30 =>
 callK (C 35 [t30] H6) pnK fun t31 H7 =>
 some (.ret t31, H7)) (lp (fun vs8 H9 kn10 kx11 kr12 =>
 (bin 0 .lss (vs8.getD 2 dead) (vs8.getD 0 dead)).bind fun t34 =>
 ifB t34 (jn ((bin 0 .rem (vs8.getD 1 dead) (.int .i64 2)).bind fun t38 =>
 (bin 0 .neq t38 (.int .i64 0)).bind fun t39 =>
 ifB t39 ((bin 0 .sub (vs8.getD 1 dead) (.int .i64 1)).bind fun t41 =>
 some (.nrm [(vs8.getD 0 dead), t41, (vs8.getD 2 dead)] H9)) (some (.nrm [(vs8.getD 0 dead), (vs8.getD 1 dead), (vs8.getD 2 dead)] H9))) pnK noX noR fun vs13 H14 =>
 (bin 0 .quo (vs13.getD 1 dead) (.int .i64 2)).bind fun t43 =>
 (bin 0 .add (vs13.getD 2 dead) (.int .i64 1)).bind fun t36 =>
 kn10 [(vs13.getD 0 dead), t43, t36] H14) (kx11 1 (Fr.of [8] [(vs8.getD 1 dead)]) H9)) n [(vs5.getD 1 dead), (vs5.getD 2 dead), (.int .i64 0)] H6 (fun j15 f16 H17 => if j15 = 1 then callK (C 35 [(f16.g 8)] H17) pnK fun t45 H18 =>
 some (.ret t45, H18) else none) noR))
def lv54 : List (Option An) := [none, none, none, none, none, some ⟨[1, 7, 8, 15, 16], [], false, false⟩, none, none, some ⟨[1, 7, 8, 24], [], false, false⟩, none, none, none, none, some ⟨[7, 8, 9], [8], true, false⟩, none, none, none, some ⟨[7, 8, 9], [], false, false⟩]
theorem s54_eq (C : Cl) (n : Nat) (x0 : Value) (x1 : Value) (x2 : Value) (H : Hp) : evFn Tryd.prog C n lv54 Tryd.f54 [x0, x1, x2] H = s54 C n x0 x1 x2 H := by kernel_rfl
/-- bulkhead/bulkheadref01.yes -/
noncomputable def s55 (C : Cl) (n : Nat) (x0 : Value) (H : Hp) : R :=
 ifB x0 (some (.ret (.int .u32 1), H)) (some (.ret (.int .u32 0), H))
def lv55 : List (Option An) := []
theorem s55_eq (C : Cl) (n : Nat) (x0 : Value) (H : Hp) : evFn Tryd.prog C n lv55 Tryd.f55 [x0] H = s55 C n x0 H := by kernel_rfl
/-- bulkhead/bulkheadref01.Extend -/
noncomputable def s56 (C : Cl) (n : Nat) (x0 : Value) (x1 : Value) (x2 : Value) (H : Hp) : R :=
 (bin 0 .lss x1 (.int .i64 1)).bind fun t10 =>
 ifB t10 (some (.ret (.int .u32 0), H)) ((bin 0 .gtr x1 (.int .i64 31)).bind fun t12 =>
 ifB t12 (some (.ret x0, H)) ((bin 0 .shl (.int .i64 1) x1).bind fun t15 =>
 (cvI .i64 x0).bind fun t17 =>
 (bin 0 .rem t17 t15).bind fun t19 =>
 jn ((ifG x2 true (some (t19, H)) (some (undef, H))).bind fun p3 =>
 (ifG x2 true (some (t15, p3.2)) (some (undef, p3.2))).bind fun p4 =>
 (ifG x2 true ((bin 0 .quo p4.1 (.int .i64 2)).bind fun t24 =>
 some (t24, p4.2)) (some (undef, p4.2))).bind fun p5 =>
 (ifG x2 true ((bin 0 .geq p3.1 p5.1).bind fun t25 =>
 some (t25, p5.2)) (some (undef, p5.2))).bind fun p6 =>
 (pick x2 p6.1 (.bool false)).bind fun t26 =>
 ifB t26 ((bin 0 .sub t19 t15).bind fun t29 =>
 some (.nrm [t29] p6.2)) (some (.nrm [t19] p6.2))) pnK noX noR fun vs1 H2 =>
 callK (C 35 [(vs1.getD 0 dead)] H2) pnK fun t31 H7 =>
 some (.ret t31, H7)))
def lv56 : List (Option An) := [none, none, none, none, none, none, none, none, none, some ⟨[8], [], false, false⟩]
theorem s56_eq (C : Cl) (n : Nat) (x0 : Value) (x1 : Value) (x2 : Value) (H : Hp) : evFn Tryd.prog C n lv56 Tryd.f56 [x0, x1, x2] H = s56 C n x0 x1 x2 H := by kernel_rfl
/-- bulkhead/bulkheadref02.Arith -/
noncomputable def s57 (C : Cl) (n : Nat) (x0 : Value) (x1 : Value) (x2 : Value) (H : Hp) : R :=
 callK (C 74 [x1] H) pnK fun t11 H1 =>
 callK (C 74 [x2] H1) pnK fun t13 H2 =>
 (bin 0 .eql x0 (.int .i64 46)).bind fun t16 =>
 ifB t16 ((bin 0 .add t11 t13).bind fun t19 =>
 callK (C 75 [t19] H2) pnK fun t20 H3 =>
 some (.ret (.tuple #[t20, (.int .i64 0)]), H3)) ((bin 0 .eql x0 (.int .i64 47)).bind fun t22 =>
 ifB t22 ((bin 0 .sub t11 t13).bind fun t25 =>
 callK (C 75 [t25] H2) pnK fun t26 H4 =>
 some (.ret (.tuple #[t26, (.int .i64 0)]), H4)) ((bin 0 .eql x0 (.int .i64 48)).bind fun t28 =>
 ifB t28 ((bin 0 .mul t11 t13).bind fun t31 =>
 callK (C 75 [t31] H2) pnK fun t32 H5 =>
 some (.ret (.tuple #[t32, (.int .i64 0)]), H5)) ((bin 0 .eql x0 (.int .i64 49)).bind fun t34 =>
 ifB t34 ((bin 0 .quo t11 t13).bind fun t37 =>
 callK (C 75 [t37] H2) pnK fun t38 H6 =>
 some (.ret (.tuple #[t38, (.int .i64 0)]), H6)) ((bin 0 .eql x0 (.int .i64 50)).bind fun t40 =>
 ifB t40 (callK (C 76 [x1] H2) pnK fun t42 H7 =>
 some (.ret (.tuple #[t42, (.int .i64 0)]), H7)) (jn ((bin 0 .eql x0 (.int .i64 51)).bind fun t44 =>
 ifB t44 (some (.nrm [x0, x1, x2, x0, t44] H2)) ((bin 0 .eql x0 (.int .i64 52)).bind fun t45 =>
 some (.nrm [x0, x1, x2, x0, t45] H2))) pnK noX noR fun vs8 H9 =>
 ifB (vs8.getD 4 dead) ((bin 0 .eql (vs8.getD 0 dead) (.int .i64 51)).bind fun t47 =>
 callK (C 77 [t47, (vs8.getD 1 dead), (vs8.getD 2 dead)] H9) pnK fun t50 H10 =>
 some (.ret (.tuple #[t50, (.int .i64 0)]), H10)) ((bin 0 .eql (vs8.getD 3 dead) (.int .i64 53)).bind fun t52 =>
 ifB t52 ((bin 0 .xor (vs8.getD 1 dead) (.int .u64 9223372036854775808)).bind fun t54 =>
 some (.ret (.tuple #[t54, (.int .i64 0)]), H9)) ((bin 0 .eql (vs8.getD 3 dead) (.int .i64 54)).bind fun t56 =>
 ifB t56 ((bin 0 .andNot (vs8.getD 1 dead) (.int .u64 9223372036854775808)).bind fun t58 =>
 some (.ret (.tuple #[t58, (.int .i64 0)]), H9)) (some (.ret (.tuple #[(.int .u64 0), (.int .i64 5)]), H9)))))))))
def lv57 : List (Option An) := [none, none, none, none, none, none, none, none, none, none, none, none, none, none, none, some ⟨[0, 1, 2, 14, 43], [], false, false⟩]
theorem s57_eq (C : Cl) (n : Nat) (x0 : Value) (x1 : Value) (x2 : Value) (H : Hp) : evFn Tryd.prog C n lv57 Tryd.f57 [x0, x1, x2] H = s57 C n x0 x1 x2 H := by kernel_rfl
/-- bulkhead/bulkheadref02.Compare -/
noncomputable def s58 (C : Cl) (n : Nat) (x0 : Value) (x1 : Value) (x2 : Value) (H : Hp) : R :=
 (bin 0 .neq x0 (.int .i64 55)).bind fun t10 =>
 (ifG t10 true (some (x0, H)) (some (undef, H))).bind fun p1 =>
 (ifG t10 true ((bin 0 .neq p1.1 (.int .i64 56)).bind fun t13 =>
 some (t13, p1.2)) (some (undef, p1.2))).bind fun p2 =>
 (pick t10 p2.1 (.bool false)).bind fun t14 =>
 (ifG t14 true (some (x0, p2.2)) (some (undef, p2.2))).bind fun p3 =>
 (ifG t14 true ((bin 0 .neq p3.1 (.int .i64 57)).bind fun t17 =>
 some (t17, p3.2)) (some (undef, p3.2))).bind fun p4 =>
 (pick t14 p4.1 (.bool false)).bind fun t18 =>
 ifB t18 (some (.ret (.tuple #[(.int .u32 0), (.int .i64 5)]), p4.2)) (callK (C 78 [x1] p4.2) pnK fun t20 H5 =>
 (ifG t20 false (some (x2, H5)) (some (undef, H5))).bind fun p6 =>
 (ifG t20 false (callK (C 78 [p6.1] p6.2) pnN fun t23 H7 =>
 some (t23, H7)) (some (undef, p6.2))).bind fun p8 =>
 (pick t20 (.bool true) p8.1).bind fun t24 =>
 ifB t24 (some (.ret (.tuple #[(.int .u32 0), (.int .i64 0)]), p8.2)) ((bin 0 .eql x1 x2).bind fun t27 =>
 (ifG t27 false (some (x1, p8.2)) (some (undef, p8.2))).bind fun p9 =>
 (ifG t27 false (callK (C 79 [p9.1] p9.2) pnN fun t30 H10 =>
 some (t30, H10)) (some (undef, p9.2))).bind fun p11 =>
 (ifG t27 false (some (p11.1, p11.2)) (some (undef, p11.2))).bind fun p12 =>
 (ifG p12.1 true (some (x2, p12.2)) (some (undef, p12.2))).bind fun p13 =>
 (ifG p12.1 true (callK (C 79 [p13.1] p13.2) pnN fun t33 H14 =>
 some (t33, H14)) (some (undef, p13.2))).bind fun p15 =>
 (ifG t27 false ((pick p12.1 p15.1 (.bool false)).bind fun t34 =>
 some (t34, p15.2)) (some (undef, p15.2))).bind fun p16 =>
 (pick t27 (.bool true) p16.1).bind fun t35 =>
 (bin 0 .eql x0 (.int .i64 55)).bind fun t37 =>
 (ifG t37 true (some (t35, p16.2)) (some (undef, p16.2))).bind fun p17 =>
 (pick t37 p17.1 (.bool false)).bind fun t40 =>
 (ifG t40 false (some (x0, p17.2)) (some (undef, p17.2))).bind fun p18 =>
 (ifG t40 false ((bin 0 .eql p18.1 (.int .i64 56)).bind fun t43 =>
 some (t43, p18.2)) (some (undef, p18.2))).bind fun p19 =>
 (ifG t40 false (some (p19.1, p19.2)) (some (undef, p19.2))).bind fun p20 =>
 (ifG p20.1 true (some (x1, p20.2)) (some (undef, p20.2))).bind fun p21 =>
 (ifG p20.1 true (some (x2, p21.2)) (some (undef, p21.2))).bind fun p22 =>
 (ifG p20.1 true (callK (C 80 [p21.1, p22.1] p22.2) pnN fun t47 H23 =>
 some (t47, H23)) (some (undef, p22.2))).bind fun p24 =>
 (ifG t40 false ((pick p20.1 p24.1 (.bool false)).bind fun t48 =>
 some (t48, p24.2)) (some (undef, p24.2))).bind fun p25 =>
 (pick t40 (.bool true) p25.1).bind fun t49 =>
 (ifG t49 false (some (x0, p25.2)) (some (undef, p25.2))).bind fun p26 =>
 (ifG t49 false ((bin 0 .eql p26.1 (.int .i64 57)).bind fun t52 =>
 some (t52, p26.2)) (some (undef, p26.2))).bind fun p27 =>
 (ifG t49 false (some (p27.1, p27.2)) (some (undef, p27.2))).bind fun p28 =>
 (ifG p28.1 true (some (t35, p28.2)) (some (undef, p28.2))).bind fun p29 =>
 (ifG p28.1 true (some (p29.1, p29.2)) (some (undef, p29.2))).bind fun p30 =>
 (ifG p30.1 false (some (x1, p30.2)) (some (undef, p30.2))).bind fun p31 =>
 (ifG p30.1 false (some (x2, p31.2)) (some (undef, p31.2))).bind fun p32 =>
 (ifG p30.1 false (callK (C 80 [p31.1, p32.1] p32.2) pnN fun t58 H33 =>
 some (t58, H33)) (some (undef, p32.2))).bind fun p34 =>
 (ifG p28.1 true ((pick p30.1 (.bool true) p34.1).bind fun t59 =>
 some (t59, p34.2)) (some (undef, p34.2))).bind fun p35 =>
 (ifG t49 false ((pick p28.1 p35.1 (.bool false)).bind fun t60 =>
 some (t60, p35.2)) (some (undef, p35.2))).bind fun p36 =>
 (pick t49 (.bool true) p36.1).bind fun t61 =>
 ifB t61 (some (.ret (.tuple #[(.int .u32 1), (.int .i64 0)]), p36.2)) (some (.ret (.tuple #[(.int .u32 0), (.int .i64 0)]), p36.2))))
def lv58 : List (Option An) := []
theorem s58_eq (C : Cl) (n : Nat) (x0 : Value) (x1 : Value) (x2 : Value) (H : Hp) : evFn Tryd.prog C n lv58 Tryd.f58 [x0, x1, x2] H = s58 C n x0 x1 x2 H := by kernel_rfl
/-- bulkhead/bulkheadref02.Class -/
noncomputable def s59 (C : Cl) (n : Nat) (x0 : Value) (H : Hp) : R :=
 (bin 0 .andNot x0 (.int .u64 9223372036854775808)).bind fun t6 =>
 jn ((bin 0 .gtr t6 (.int .u64 9218868437227405312)).bind fun t9 =>
 (ifG t9 true (some (t6, H)) (some (undef, H))).bind fun p3 =>
 (ifG t9 true ((bin 0 .and p3.1 (.int .u64 2251799813685248)).bind fun t12 =>
 some (t12, p3.2)) (some (undef, p3.2))).bind fun p4 =>
 (ifG t9 true ((bin 0 .neq p4.1 (.int .u64 0)).bind fun t13 =>
 some (t13, p4.2)) (some (undef, p4.2))).bind fun p5 =>
 (pick t9 p5.1 (.bool false)).bind fun t14 =>
 ifB t14 (some (.rt (Fr.of [2] [(.int .u32 512)]) p5.2)) ((bin 0 .gtr t6 (.int .u64 9218868437227405312)).bind fun t17 =>
 ifB t17 (some (.rt (Fr.of [2] [(.int .u32 256)]) p5.2)) ((bin 0 .eql t6 (.int .u64 9218868437227405312)).bind fun t20 =>
 ifB t20 (some (.nrm [x0, (.int .i64 7)] p5.2)) ((bin 0 .geq t6 (.int .u64 4503599627370496)).bind fun t23 =>
 ifB t23 (some (.nrm [x0, (.int .i64 6)] p5.2)) ((bin 0 .gtr t6 (.int .u64 0)).bind fun t26 =>
 ifB t26 (some (.nrm [x0, (.int .i64 5)] p5.2)) (some (.nrm [x0, (.int .i64 4)] p5.2))))))) pnK noX (fun f8 H9 => some (.ret (f8.g 2), H9)) fun vs1 H2 =>
 jn ((bin 0 .geq (vs1.getD 0 dead) (.int .u64 9223372036854775808)).bind fun t28 =>
 ifB t28 ((bin 0 .sub (.int .i64 7) (vs1.getD 1 dead)).bind fun t30 =>
 some (.nrm [t30] H2)) (some (.nrm [(vs1.getD 1 dead)] H2))) pnK noX noR fun vs6 H7 =>
 (bin 0 .shl (.int .u32 1) (vs6.getD 0 dead)).bind fun t32 =>
 some (.ret t32, H7)
def lv59 : List (Option An) := [none, none, none, some ⟨[0, 4], [2], false, true⟩, none, none, none, none, none, none, none, some ⟨[4], [], false, false⟩]
theorem s59_eq (C : Cl) (n : Nat) (x0 : Value) (H : Hp) : evFn Tryd.prog C n lv59 Tryd.f59 [x0] H = s59 C n x0 H := by kernel_rfl
/-- bulkhead/bulkheadref02.ToInt -/
noncomputable def s61 (C : Cl) (n : Nat) (x0 : Value) (H : Hp) : R :=
 callK (C 78 [x0] H) pnK fun t5 H1 =>
 ifB t5 (some (.ret (.int .u32 2147483647), H1)) (callK (C 74 [x0] H1) pnK fun t7 H2 =>
 (bin 0 .geq t7 (.float .f64 4746794007248502784)).bind fun t9 =>
 ifB t9 (some (.ret (.int .u32 2147483647), H2)) ((bin 0 .leq t7 (.float .f64 13970166044103278592)).bind fun t11 =>
 ifB t11 (some (.ret (.int .u32 2147483648), H2)) ((cvI .i32 t7).bind fun t13 =>
 (cvI .u32 t13).bind fun t14 =>
 some (.ret t14, H2))))
def lv61 : List (Option An) := []
theorem s61_eq (C : Cl) (n : Nat) (x0 : Value) (H : Hp) : evFn Tryd.prog C n lv61 Tryd.f61 [x0] H = s61 C n x0 H := by kernel_rfl
/-- strings.Index -/
noncomputable def s62 (C : Cl) (n : Nat) (x0 : Value) (x1 : Value) (H : Hp) : R :=
 callK (C 82 [x0, x1] H) pnK fun t7 H1 =>
 some (.ret t7, H1)
def lv62 : List (Option An) := []
theorem s62_eq (C : Cl) (n : Nat) (x0 : Value) (x1 : Value) (H : Hp) : evFn Tryd.prog C n lv62 Tryd.f62 [x0, x1] H = s62 C n x0 x1 H := by kernel_rfl
/-- bulkhead/word.Alu -/
noncomputable def s63 (C : Cl) (n : Nat) (x0 : Value) (x1 : Value) (x2 : Value) (H : Hp) : R :=
 (bin 0 .and x2 (.int .u32 31)).bind fun t10 =>
 jn ((bin 0 .eql x0 (.int .i64 2)).bind fun t13 =>
 ifB t13 (some (.nrm [x0, x1, x2, t10, x0, t13] H)) ((bin 0 .eql x0 (.int .i64 18)).bind fun t14 =>
 some (.nrm [x0, x1, x2, t10, x0, t14] H))) pnK noX noR fun vs1 H2 =>
 ifB (vs1.getD 5 dead) ((bin 0 .add (vs1.getD 1 dead) (vs1.getD 2 dead)).bind fun t17 =>
 some (.ret (.tuple #[t17, (.int .i64 0)]), H2)) ((bin 0 .eql (vs1.getD 4 dead) (.int .i64 3)).bind fun t19 =>
 ifB t19 ((bin 0 .sub (vs1.getD 1 dead) (vs1.getD 2 dead)).bind fun t22 =>
 some (.ret (.tuple #[t22, (.int .i64 0)]), H2)) ((bin 0 .eql (vs1.getD 4 dead) (.int .i64 4)).bind fun t24 =>
 ifB t24 ((bin 0 .mul (vs1.getD 1 dead) (vs1.getD 2 dead)).bind fun t27 =>
 some (.ret (.tuple #[t27, (.int .i64 0)]), H2)) ((bin 0 .eql (vs1.getD 4 dead) (.int .i64 5)).bind fun t29 =>
 ifB t29 ((cvI .i32 (vs1.getD 1 dead)).bind fun t31 =>
 (cvI .i64 t31).bind fun t32 =>
 (cvI .i32 (vs1.getD 2 dead)).bind fun t34 =>
 (cvI .i64 t34).bind fun t35 =>
 (bin 0 .mul t32 t35).bind fun t36 =>
 (cvI .u64 t36).bind fun t37 =>
 (bin 0 .shr t37 (.int .u64 32)).bind fun t38 =>
 (cvI .u32 t38).bind fun t39 =>
 some (.ret (.tuple #[t39, (.int .i64 0)]), H2)) (jn ((bin 0 .eql (vs1.getD 4 dead) (.int .i64 6)).bind fun t41 =>
 ifB t41 (some (.nrm [(vs1.getD 0 dead), (vs1.getD 1 dead), (vs1.getD 2 dead), (vs1.getD 3 dead), (vs1.getD 4 dead), t41] H2)) ((bin 0 .eql (vs1.getD 4 dead) (.int .i64 7)).bind fun t42 =>
 ifB t42 (some (.nrm [(vs1.getD 0 dead), (vs1.getD 1 dead), (vs1.getD 2 dead), (vs1.getD 3 dead), (vs1.getD 4 dead), t42] H2)) ((bin 0 .eql (vs1.getD 4 dead) (.int .i64 8)).bind fun t43 =>
 ifB t43 (some (.nrm [(vs1.getD 0 dead), (vs1.getD 1 dead), (vs1.getD 2 dead), (vs1.getD 3 dead), (vs1.getD 4 dead), t43] H2)) ((bin 0 .eql (vs1.getD 4 dead) (.int .i64 9)).bind fun t44 =>
 some (.nrm [(vs1.getD 0 dead), (vs1.getD 1 dead), (vs1.getD 2 dead), (vs1.getD 3 dead), (vs1.getD 4 dead), t44] H2))))) pnK noX noR fun vs3 H4 =>
 ifB (vs3.getD 5 dead) (callK (C 83 [(vs3.getD 0 dead), (vs3.getD 1 dead), (vs3.getD 2 dead)] H4) pnK fun t48 H5 =>
 (ext1 t48 0).bind fun t49 =>
 (ext1 t48 1).bind fun t50 =>
 some (.ret (.tuple #[t49, t50]), H5)) (jn ((bin 0 .eql (vs3.getD 4 dead) (.int .i64 10)).bind fun t52 =>
 ifB t52 (some (.nrm [(vs3.getD 1 dead), (vs3.getD 2 dead), (vs3.getD 3 dead), (vs3.getD 4 dead), t52] H4)) ((bin 0 .eql (vs3.getD 4 dead) (.int .i64 19)).bind fun t53 =>
 some (.nrm [(vs3.getD 1 dead), (vs3.getD 2 dead), (vs3.getD 3 dead), (vs3.getD 4 dead), t53] H4))) pnK noX noR fun vs6 H7 =>
 ifB (vs6.getD 4 dead) ((bin 0 .and (vs6.getD 0 dead) (vs6.getD 1 dead)).bind fun t56 =>
 some (.ret (.tuple #[t56, (.int .i64 0)]), H7)) (jn ((bin 0 .eql (vs6.getD 3 dead) (.int .i64 11)).bind fun t58 =>
 ifB t58 (some (.nrm [(vs6.getD 0 dead), (vs6.getD 1 dead), (vs6.getD 2 dead), (vs6.getD 3 dead), t58] H7)) ((bin 0 .eql (vs6.getD 3 dead) (.int .i64 20)).bind fun t59 =>
 some (.nrm [(vs6.getD 0 dead), (vs6.getD 1 dead), (vs6.getD 2 dead), (vs6.getD 3 dead), t59] H7))) pnK noX noR fun vs8 H9 =>
 ifB (vs8.getD 4 dead) ((bin 0 .or (vs8.getD 0 dead) (vs8.getD 1 dead)).bind fun t62 =>
 some (.ret (.tuple #[t62, (.int .i64 0)]), H9)) (jn ((bin 0 .eql (vs8.getD 3 dead) (.int .i64 12)).bind fun t64 =>
 ifB t64 (some (.nrm [(vs8.getD 0 dead), (vs8.getD 1 dead), (vs8.getD 2 dead), (vs8.getD 3 dead), t64] H9)) ((bin 0 .eql (vs8.getD 3 dead) (.int .i64 21)).bind fun t65 =>
 some (.nrm [(vs8.getD 0 dead), (vs8.getD 1 dead), (vs8.getD 2 dead), (vs8.getD 3 dead), t65] H9))) pnK noX noR fun vs10 H11 =>
 ifB (vs10.getD 4 dead) ((bin 0 .xor (vs10.getD 0 dead) (vs10.getD 1 dead)).bind fun t68 =>
 some (.ret (.tuple #[t68, (.int .i64 0)]), H11)) (jn ((bin 0 .eql (vs10.getD 3 dead) (.int .i64 13)).bind fun t70 =>
 ifB t70 (some (.nrm [(vs10.getD 0 dead), (vs10.getD 1 dead), (vs10.getD 2 dead), (vs10.getD 3 dead), t70] H11)) ((bin 0 .eql (vs10.getD 3 dead) (.int .i64 22)).bind fun t71 =>
 some (.nrm [(vs10.getD 0 dead), (vs10.getD 1 dead), (vs10.getD 2 dead), (vs10.getD 3 dead), t71] H11))) pnK noX noR fun vs12 H13 =>
 ifB (vs12.getD 4 dead) ((bin 0 .shl (vs12.getD 0 dead) (vs12.getD 2 dead)).bind fun t74 =>
 some (.ret (.tuple #[t74, (.int .i64 0)]), H13)) (jn ((bin 0 .eql (vs12.getD 3 dead) (.int .i64 14)).bind fun t76 =>
 ifB t76 (some (.nrm [(vs12.getD 0 dead), (vs12.getD 1 dead), (vs12.getD 2 dead), (vs12.getD 3 dead), t76] H13)) ((bin 0 .eql (vs12.getD 3 dead) (.int .i64 23)).bind fun t77 =>
 some (.nrm [(vs12.getD 0 dead), (vs12.getD 1 dead), (vs12.getD 2 dead), (vs12.getD 3 dead), t77] H13))) pnK noX noR fun vs14 H15 =>
 ifB (vs14.getD 4 dead) ((bin 0 .shr (vs14.getD 0 dead) (vs14.getD 2 dead)).bind fun t80 =>
 some (.ret (.tuple #[t80, (.int .i64 0)]), H15)) (jn ((bin 0 .eql (vs14.getD 3 dead) (.int .i64 15)).bind fun t82 =>
 ifB t82 (some (.nrm [(vs14.getD 0 dead), (vs14.getD 1 dead), (vs14.getD 2 dead), (vs14.getD 3 dead), t82] H15)) ((bin 0 .eql (vs14.getD 3 dead) (.int .i64 24)).bind fun t83 =>
 some (.nrm [(vs14.getD 0 dead), (vs14.getD 1 dead), (vs14.getD 2 dead), (vs14.getD 3 dead), t83] H15))) pnK noX noR fun vs16 H17 =>
 ifB (vs16.getD 4 dead) ((cvI .i32 (vs16.getD 0 dead)).bind fun t85 =>
 (bin 0 .shr t85 (vs16.getD 2 dead)).bind fun t87 =>
 (cvI .u32 t87).bind fun t88 =>
 some (.ret (.tuple #[t88, (.int .i64 0)]), H17)) (jn ((bin 0 .eql (vs16.getD 3 dead) (.int .i64 16)).bind fun t90 =>
 ifB t90 (some (.nrm [(vs16.getD 0 dead), (vs16.getD 1 dead), (vs16.getD 3 dead), t90] H17)) ((bin 0 .eql (vs16.getD 3 dead) (.int .i64 25)).bind fun t91 =>
 some (.nrm [(vs16.getD 0 dead), (vs16.getD 1 dead), (vs16.getD 3 dead), t91] H17))) pnK noX noR fun vs18 H19 =>
 ifB (vs18.getD 3 dead) ((cvI .i32 (vs18.getD 0 dead)).bind fun t93 =>
 (cvI .i32 (vs18.getD 1 dead)).bind fun t95 =>
 (bin 0 .lss t93 t95).bind fun t96 =>
 callK (C 84 [t96] H19) pnK fun t97 H20 =>
 (ext1 t97 0).bind fun t98 =>
 (ext1 t97 1).bind fun t99 =>
 some (.ret (.tuple #[t98, t99]), H20)) (jn ((bin 0 .eql (vs18.getD 2 dead) (.int .i64 17)).bind fun t101 =>
 ifB t101 (some (.nrm [(vs18.getD 0 dead), (vs18.getD 1 dead), (vs18.getD 2 dead), t101] H19)) ((bin 0 .eql (vs18.getD 2 dead) (.int .i64 26)).bind fun t102 =>
 some (.nrm [(vs18.getD 0 dead), (vs18.getD 1 dead), (vs18.getD 2 dead), t102] H19))) pnK noX noR fun vs21 H22 =>
 ifB (vs21.getD 3 dead) ((bin 0 .lss (vs21.getD 0 dead) (vs21.getD 1 dead)).bind fun t105 =>
 callK (C 84 [t105] H22) pnK fun t106 H23 =>
 (ext1 t106 0).bind fun t107 =>
 (ext1 t106 1).bind fun t108 =>
 some (.ret (.tuple #[t107, t108]), H23)) ((bin 0 .eql (vs21.getD 2 dead) (.int .i64 27)).bind fun t110 =>
 ifB t110 ((bin 0 .shl (vs21.getD 1 dead) (.int .u64 16)).bind fun t112 =>
 some (.ret (.tuple #[t112, (.int .i64 0)]), H22)) (some (.ret (.tuple #[(.int .u32 0), (.int .i64 5)]), H22)))))))))))))))
def lv63 : List (Option An) := [none, none, none, none, some ⟨[0, 1, 2, 8, 11, 12], [], false, false⟩, none, none, none, none, none, none, none, none, some ⟨[0, 1, 2, 8, 11, 40], [], false, false⟩, none, none, none, none, some ⟨[1, 2, 8, 11, 51], [], false, false⟩, none, none, some ⟨[1, 2, 8, 11, 57], [], false, false⟩, none, none, some ⟨[1, 2, 8, 11, 63], [], false, false⟩, none, none, some ⟨[1, 2, 8, 11, 69], [], false, false⟩, none, none, some ⟨[1, 2, 8, 11, 75], [], false, false⟩, none, none, some ⟨[1, 2, 8, 11, 81], [], false, false⟩, none, none, some ⟨[1, 2, 11, 89], [], false, false⟩, none, none, some ⟨[1, 2, 11, 100], [], false, false⟩]
theorem s63_eq (C : Cl) (n : Nat) (x0 : Value) (x1 : Value) (x2 : Value) (H : Hp) : evFn Tryd.prog C n lv63 Tryd.f63 [x0, x1, x2] H = s63 C n x0 x1 x2 H := by kernel_rfl
/-- (*bulkhead/exec.step).trap -/
noncomputable def s64 (C : Cl) (n : Nat) (x0 : Value) (x1 : Value) (x2 : Value) (H : Hp) : R :=
 (nilc x0).bind fun t10 =>
 (fa 31 t10).bind fun t11 =>
 (st 1 t11 x1 H).bind fun H1 =>
 (nilc x0).bind fun t12 =>
 (fa 32 t12).bind fun t13 =>
 (st 1 t13 x2 H1).bind fun H2 =>
 some (.ret (.tuple #[]), H2)
def lv64 : List (Option An) := []
theorem s64_eq (C : Cl) (n : Nat) (x0 : Value) (x1 : Value) (x2 : Value) (H : Hp) : evFn Tryd.prog C n lv64 Tryd.f64 [x0, x1, x2] H = s64 C n x0 x1 x2 H := by kernel_rfl
/-- (*bulkhead/exec.step).set -/
noncomputable def s65 (C : Cl) (n : Nat) (x0 : Value) (x1 : Value) (H : Hp) : R :=
 (nilc x0).bind fun t6 =>
 (fa 25 t6).bind fun t7 =>
 (fa 1 t7).bind fun t8 =>
 (ld t8 H.cl.cl.cl.cl.cl.cl).bind fun t9 =>
 (nilc x0).bind fun t11 =>
 (fa 0 t11).bind fun t12 =>
 (fa 0 t12).bind fun t13 =>
 (ia 16 1 t13 t9).bind fun t14 =>
 (st 1 t14 x1 (H.cl.cl.cl.cl.cl.cl.cl.cl.cl.cl.opn H.lim)).bind fun H1 =>
 (nilc x0).bind fun t16 =>
 (fa 0 t16).bind fun t17 =>
 (fa 24 t17).bind fun t18 =>
 (ld t18 H1).bind fun t19 =>
 (bin 0 .add t19 (.int .u32 4)).bind fun t20 =>
 (nilc x0).bind fun t21 =>
 (fa 0 t21).bind fun t22 =>
 (fa 24 t22).bind fun t23 =>
 (st 1 t23 t20 H1).bind fun H2 =>
 some (.ret (.tuple #[]), H2)
def lv65 : List (Option An) := []
theorem s65_eq (C : Cl) (n : Nat) (x0 : Value) (x1 : Value) (H : Hp) : evFn Tryd.prog C n lv65 Tryd.f65 [x0, x1] H = s65 C n x0 x1 H := by kernel_rfl
/-- bulkhead/word.Extend -/
noncomputable def s66 (C : Cl) (n : Nat) (x0 : Value) (x1 : Value) (x2 : Value) (H : Hp) : R :=
 (bin 0 .lss x1 (.int .i64 1)).bind fun t10 =>
 ifB t10 (some (.ret (.int .u32 0), H)) ((bin 0 .gtr x1 (.int .i64 31)).bind fun t13 =>
 ifB t13 (some (.ret x0, H)) ((bin 0 .sub (.int .i64 32) x1).bind fun t16 =>
 ifB x2 ((bin 0 .shl x0 t16).bind fun t20 =>
 (cvI .i32 t20).bind fun t21 =>
 (bin 0 .shr t21 t16).bind fun t23 =>
 (cvI .u32 t23).bind fun t24 =>
 some (.ret t24, H)) ((bin 0 .shl x0 t16).bind fun t27 =>
 (bin 0 .shr t27 t16).bind fun t29 =>
 some (.ret t29, H))))
def lv66 : List (Option An) := []
theorem s66_eq (C : Cl) (n : Nat) (x0 : Value) (x1 : Value) (x2 : Value) (H : Hp) : evFn Tryd.prog C n lv66 Tryd.f66 [x0, x1, x2] H = s66 C n x0 x1 x2 H := by kernel_rfl
/-- (*bulkhead/exec.step).setFloat -/
noncomputable def s67 (C : Cl) (n : Nat) (x0 : Value) (x1 : Value) (H : Hp) : R :=
 (nilc x0).bind fun t6 =>
 (fa 25 t6).bind fun t7 =>
 (fa 1 t7).bind fun t8 =>
 (ld t8 H.cl.cl.cl.cl.cl.cl).bind fun t9 =>
 (nilc x0).bind fun t11 =>
 (fa 0 t11).bind fun t12 =>
 (fa 16 t12).bind fun t13 =>
 (ia 8 1 t13 t9).bind fun t14 =>
 (st 1 t14 x1 (H.cl.cl.cl.cl.cl.cl.cl.cl.cl.cl.opn H.lim)).bind fun H1 =>
 (nilc x0).bind fun t16 =>
 (fa 0 t16).bind fun t17 =>
 (fa 24 t17).bind fun t18 =>
 (ld t18 H1).bind fun t19 =>
 (bin 0 .add t19 (.int .u32 4)).bind fun t20 =>
 (nilc x0).bind fun t21 =>
 (fa 0 t21).bind fun t22 =>
 (fa 24 t22).bind fun t23 =>
 (st 1 t23 t20 H1).bind fun H2 =>
 some (.ret (.tuple #[]), H2)
def lv67 : List (Option An) := []
theorem s67_eq (C : Cl) (n : Nat) (x0 : Value) (x1 : Value) (H : Hp) : evFn Tryd.prog C n lv67 Tryd.f67 [x0, x1] H = s67 C n x0 x1 H := by kernel_rfl
/-- bulkhead/word.Branch -/
noncomputable def s68 (C : Cl) (n : Nat) (x0 : Value) (x1 : Value) (x2 : Value) (H : Hp) : R :=
 (bin 0 .eql x0 (.int .i64 38)).bind fun t10 =>
 ifB t10 ((bin 0 .eql x1 x2).bind fun t13 =>
 some (.ret (.tuple #[t13, (.int .i64 0)]), H)) ((bin 0 .eql x0 (.int .i64 39)).bind fun t15 =>
 ifB t15 ((bin 0 .neq x1 x2).bind fun t18 =>
 some (.ret (.tuple #[t18, (.int .i64 0)]), H)) ((bin 0 .eql x0 (.int .i64 40)).bind fun t20 =>
 ifB t20 ((cvI .i32 x1).bind fun t22 =>
 (cvI .i32 x2).bind fun t24 =>
 (bin 0 .lss t22 t24).bind fun t25 =>
 some (.ret (.tuple #[t25, (.int .i64 0)]), H)) ((bin 0 .eql x0 (.int .i64 41)).bind fun t27 =>
 ifB t27 ((cvI .i32 x1).bind fun t29 =>
 (cvI .i32 x2).bind fun t31 =>
 (bin 0 .geq t29 t31).bind fun t32 =>
 some (.ret (.tuple #[t32, (.int .i64 0)]), H)) ((bin 0 .eql x0 (.int .i64 42)).bind fun t34 =>
 ifB t34 ((bin 0 .lss x1 x2).bind fun t37 =>
 some (.ret (.tuple #[t37, (.int .i64 0)]), H)) ((bin 0 .eql x0 (.int .i64 43)).bind fun t39 =>
 ifB t39 ((bin 0 .geq x1 x2).bind fun t42 =>
 some (.ret (.tuple #[t42, (.int .i64 0)]), H)) (some (.ret (.tuple #[(.bool false), (.int .i64 5)]), H)))))))
def lv68 : List (Option An) := []
theorem s68_eq (C : Cl) (n : Nat) (x0 : Value) (x1 : Value) (x2 : Value) (H : Hp) : evFn Tryd.prog C n lv68 Tryd.f68 [x0, x1, x2] H = s68 C n x0 x1 x2 H := by kernel_rfl
/-- bulkhead/real.Arith -/
noncomputable def s69 (C : Cl) (n : Nat) (x0 : Value) (x1 : Value) (x2 : Value) (H : Hp) : R :=
 callK (C 85 [x1] H) pnK fun t11 H1 =>
 callK (C 85 [x2] H1) pnK fun t13 H2 =>
 (bin 0 .eql x0 (.int .i64 46)).bind fun t16 =>
 ifB t16 ((bin 0 .add t11 t13).bind fun t19 =>
 callK (C 86 [t19] H2) pnK fun t20 H3 =>
 some (.ret (.tuple #[t20, (.int .i64 0)]), H3)) ((bin 0 .eql x0 (.int .i64 47)).bind fun t22 =>
 ifB t22 ((bin 0 .sub t11 t13).bind fun t25 =>
 callK (C 86 [t25] H2) pnK fun t26 H4 =>
 some (.ret (.tuple #[t26, (.int .i64 0)]), H4)) ((bin 0 .eql x0 (.int .i64 48)).bind fun t28 =>
 ifB t28 ((bin 0 .mul t11 t13).bind fun t31 =>
 callK (C 86 [t31] H2) pnK fun t32 H5 =>
 some (.ret (.tuple #[t32, (.int .i64 0)]), H5)) ((bin 0 .eql x0 (.int .i64 49)).bind fun t34 =>
 ifB t34 ((bin 0 .quo t11 t13).bind fun t37 =>
 callK (C 86 [t37] H2) pnK fun t38 H6 =>
 some (.ret (.tuple #[t38, (.int .i64 0)]), H6)) ((bin 0 .eql x0 (.int .i64 50)).bind fun t40 =>
 ifB t40 (callK (C 87 [t11] H2) pnK fun t42 H7 =>
 callK (C 86 [t42] H7) pnK fun t43 H8 =>
 some (.ret (.tuple #[t43, (.int .i64 0)]), H8)) (jn ((bin 0 .eql x0 (.int .i64 51)).bind fun t45 =>
 ifB t45 (some (.nrm [x0, x1, x2, x0, t45] H2)) ((bin 0 .eql x0 (.int .i64 52)).bind fun t46 =>
 some (.nrm [x0, x1, x2, x0, t46] H2))) pnK noX noR fun vs9 H10 =>
 ifB (vs9.getD 4 dead) ((bin 0 .eql (vs9.getD 0 dead) (.int .i64 52)).bind fun t50 =>
 callK (C 88 [(vs9.getD 1 dead), (vs9.getD 2 dead), t50] H10) pnK fun t51 H11 =>
 some (.ret (.tuple #[t51, (.int .i64 0)]), H11)) ((bin 0 .eql (vs9.getD 3 dead) (.int .i64 53)).bind fun t53 =>
 ifB t53 ((bin 0 .xor (vs9.getD 1 dead) (.int .u64 9223372036854775808)).bind fun t55 =>
 some (.ret (.tuple #[t55, (.int .i64 0)]), H10)) ((bin 0 .eql (vs9.getD 3 dead) (.int .i64 54)).bind fun t57 =>
 ifB t57 ((bin 0 .andNot (vs9.getD 1 dead) (.int .u64 9223372036854775808)).bind fun t59 =>
 some (.ret (.tuple #[t59, (.int .i64 0)]), H10)) (some (.ret (.tuple #[(.int .u64 0), (.int .i64 5)]), H10)))))))))
def lv69 : List (Option An) := [none, none, none, none, none, none, none, none, none, none, none, none, none, none, some ⟨[0, 1, 2, 14, 44], [], false, false⟩]
theorem s69_eq (C : Cl) (n : Nat) (x0 : Value) (x1 : Value) (x2 : Value) (H : Hp) : evFn Tryd.prog C n lv69 Tryd.f69 [x0, x1, x2] H = s69 C n x0 x1 x2 H := by kernel_rfl
/-- bulkhead/real.Compare -/
noncomputable def s70 (C : Cl) (n : Nat) (x0 : Value) (x1 : Value) (x2 : Value) (H : Hp) : R :=
 callK (C 85 [x1] H) pnK fun t12 H1 =>
 callK (C 85 [x2] H1) pnK fun t14 H2 =>
 jn ((bin 0 .eql x0 (.int .i64 55)).bind fun t17 =>
 ifB t17 ((bin 0 .eql t12 t14).bind fun t20 =>
 some (.nrm [t20] H2)) ((bin 0 .eql x0 (.int .i64 56)).bind fun t22 =>
 ifB t22 ((bin 0 .lss t12 t14).bind fun t25 =>
 some (.nrm [t25] H2)) ((bin 0 .eql x0 (.int .i64 57)).bind fun t27 =>
 ifB t27 ((bin 0 .leq t12 t14).bind fun t30 =>
 some (.nrm [t30] H2)) (some (.rt (Fr.of [6, 7] [(.int .u32 0), (.int .i64 5)]) H2))))) pnK noX (fun f5 H6 => some (.ret (.tuple #[(f5.g 6), (f5.g 7)]), H6)) fun vs3 H4 =>
 ifB (vs3.getD 0 dead) (some (.ret (.tuple #[(.int .u32 1), (.int .i64 0)]), H4)) (some (.ret (.tuple #[(.int .u32 0), (.int .i64 0)]), H4))
def lv70 : List (Option An) := [none, none, none, some ⟨[10], [6, 7], false, true⟩]
theorem s70_eq (C : Cl) (n : Nat) (x0 : Value) (x1 : Value) (x2 : Value) (H : Hp) : evFn Tryd.prog C n lv70 Tryd.f70 [x0, x1, x2] H = s70 C n x0 x1 x2 H := by kernel_rfl
/-- bulkhead/real.Class -/
noncomputable def s71 (C : Cl) (n : Nat) (x0 : Value) (H : Hp) : R :=
 (bin 0 .shr x0 (.int .u64 52)).bind fun t7 =>
 (bin 0 .and t7 (.int .u64 2047)).bind fun t8 =>
 (bin 0 .and x0 (.int .u64 4503599627370495)).bind fun t10 =>
 jn ((bin 0 .eql t8 (.int .u64 2047)).bind fun t13 =>
 (ifG t13 true (some (t10, H)) (some (undef, H))).bind fun p3 =>
 (ifG t13 true ((bin 0 .shr p3.1 (.int .u64 51)).bind fun t16 =>
 some (t16, p3.2)) (some (undef, p3.2))).bind fun p4 =>
 (ifG t13 true ((bin 0 .eql p4.1 (.int .u64 1)).bind fun t17 =>
 some (t17, p4.2)) (some (undef, p4.2))).bind fun p5 =>
 (pick t13 p5.1 (.bool false)).bind fun t18 =>
 ifB t18 (some (.rt (Fr.of [2] [(.int .u32 512)]) p5.2)) ((bin 0 .eql t8 (.int .u64 2047)).bind fun t21 =>
 (ifG t21 true (some (t10, p5.2)) (some (undef, p5.2))).bind fun p6 =>
 (ifG t21 true ((bin 0 .neq p6.1 (.int .u64 0)).bind fun t24 =>
 some (t24, p6.2)) (some (undef, p6.2))).bind fun p7 =>
 (pick t21 p7.1 (.bool false)).bind fun t25 =>
 ifB t25 (some (.rt (Fr.of [2] [(.int .u32 256)]) p7.2)) ((bin 0 .eql t8 (.int .u64 2047)).bind fun t28 =>
 ifB t28 (some (.nrm [x0, (.int .i64 3)] p7.2)) ((bin 0 .neq t8 (.int .u64 0)).bind fun t31 =>
 ifB t31 (some (.nrm [x0, (.int .i64 2)] p7.2)) ((bin 0 .neq t10 (.int .u64 0)).bind fun t34 =>
 ifB t34 (some (.nrm [x0, (.int .i64 1)] p7.2)) (some (.nrm [x0, (.int .i64 0)] p7.2))))))) pnK noX (fun f8 H9 => some (.ret (f8.g 2), H9)) fun vs1 H2 =>
 (bin 0 .and (vs1.getD 0 dead) (.int .u64 9223372036854775808)).bind fun t36 =>
 (bin 0 .neq t36 (.int .u64 0)).bind fun t37 =>
 ifB t37 ((bin 0 .sub (.int .i64 3) (vs1.getD 1 dead)).bind fun t39 =>
 (bin 0 .shl (.int .u32 1) t39).bind fun t40 =>
 some (.ret t40, H2)) ((bin 0 .add (.int .i64 4) (vs1.getD 1 dead)).bind fun t42 =>
 (bin 0 .shl (.int .u32 1) t42).bind fun t43 =>
 some (.ret t43, H2))
def lv71 : List (Option An) := [none, none, none, some ⟨[0, 5], [2], false, true⟩]
theorem s71_eq (C : Cl) (n : Nat) (x0 : Value) (H : Hp) : evFn Tryd.prog C n lv71 Tryd.f71 [x0] H = s71 C n x0 H := by kernel_rfl
/-- bulkhead/real.ToInt -/
noncomputable def s72 (C : Cl) (n : Nat) (x0 : Value) (H : Hp) : R :=
 callK (C 85 [x0] H) pnK fun t5 H1 =>
 (bin 0 .neq t5 t5).bind fun t9 =>
 (ifG t9 false (some (t5, H1)) (some (undef, H1))).bind fun p2 =>
 (ifG t9 false ((bin 0 .geq p2.1 (.float .f64 4746794007248502784)).bind fun t12 =>
 some (t12, p2.2)) (some (undef, p2.2))).bind fun p3 =>
 (pick t9 (.bool true) p3.1).bind fun t13 =>
 ifB t13 (some (.ret (.int .u32 2147483647), p3.2)) ((bin 0 .leq t5 (.float .f64 13970166044103278592)).bind fun t16 =>
 ifB t16 (some (.ret (.int .u32 2147483648), p3.2)) ((cvI .i32 t5).bind fun t18 =>
 (cvI .u32 t18).bind fun t19 =>
 some (.ret t19, p3.2)))
def lv72 : List (Option An) := []
theorem s72_eq (C : Cl) (n : Nat) (x0 : Value) (H : Hp) : evFn Tryd.prog C n lv72 Tryd.f72 [x0] H = s72 C n x0 H := by kernel_rfl
/-- bulkhead/bulkheadref02.one -/
noncomputable def s75 (C : Cl) (n : Nat) (x0 : Value) (H : Hp) : R :=
 callK (C 81 [x0] H) pnK fun t5 H1 =>
 callK (C 78 [t5] H1) pnK fun t7 H2 =>
 ifB t7 (some (.ret (.int .u64 9221120237041090560), H2)) (some (.ret t5, H2))
def lv75 : List (Option An) := []
theorem s75_eq (C : Cl) (n : Nat) (x0 : Value) (H : Hp) : evFn Tryd.prog C n lv75 Tryd.f75 [x0] H = s75 C n x0 H := by kernel_rfl
/-- bulkhead/bulkheadref02.root -/
noncomputable def s76 (C : Cl) (n : Nat) (x0 : Value) (H : Hp) : R :=
 callK (C 78 [x0] H) pnK fun t11 H1 =>
 ifB t11 (some (.ret (.int .u64 9221120237041090560), H1)) (callK (C 79 [x0] H1) pnK fun t14 H2 =>
 (ifG t14 false (some (x0, H2)) (some (undef, H2))).bind fun p3 =>
 (ifG t14 false ((bin 0 .eql p3.1 (.int .u64 9218868437227405312)).bind fun t17 =>
 some (t17, p3.2)) (some (undef, p3.2))).bind fun p4 =>
 (pick t14 (.bool true) p4.1).bind fun t18 =>
 ifB t18 (some (.ret x0, p4.2)) ((bin 0 .geq x0 (.int .u64 9223372036854775808)).bind fun t22 =>
 ifB t22 (some (.ret (.int .u64 9221120237041090560), p4.2)) ((bin 0 .shr x0 (.int .u64 52)).bind fun t24 =>
 (cvI .i64 t24).bind fun t25 =>
 (bin 0 .and x0 (.int .u64 4503599627370495)).bind fun t27 =>
 jn ((bin 0 .eql t25 (.int .i64 0)).bind fun t29 =>
 ifB t29 (lp (fun vs7 H8 kn9 kx10 kr11 =>
 (bin 0 .lss (vs7.getD 1 dead) (.int .u64 4503599627370496)).bind fun t31 =>
 ifB t31 ((bin 0 .shl (vs7.getD 1 dead) (.int .u64 1)).bind fun t33 =>
 (bin 0 .sub (vs7.getD 0 dead) (.int .i64 1)).bind fun t35 =>
 kn9 [t35, t33] H8) (kx10 1 (Fr.of [3, 4] [(vs7.getD 0 dead), (vs7.getD 1 dead)]) H8)) n [(.int .i64 1), t27] p4.2 (fun j12 f13 H14 => if j12 = 1 then some (.nrm [(f13.g 3), (f13.g 4)] H14) else some (.ex j12 (Fr.of [] []) H14)) noR) ((bin 0 .or t27 (.int .u64 4503599627370496)).bind fun t37 =>
 some (.nrm [t25, t37] p4.2))) pnK noX noR fun vs5 H6 =>
 (bin 0 .sub (vs5.getD 0 dead) (.int .i64 1023)).bind fun t39 =>
 jn ((bin 0 .and t39 (.int .i64 1)).bind fun t41 =>
 (bin 0 .neq t41 (.int .i64 0)).bind fun t42 =>
 ifB t42 ((bin 0 .shl (vs5.getD 1 dead) (.int .u64 1)).bind fun t44 =>
 some (.nrm [t39, t44] H6)) (some (.nrm [t39, (vs5.getD 1 dead)] H6))) pnK noX noR fun vs15 H16 =>
 (bin 0 .shr (vs15.getD 0 dead) (.int .u64 1)).bind fun t46 =>
 (bin 0 .shl (vs15.getD 1 dead) (.int .u64 1)).bind fun t48 =>
 lp (fun vs17 H18 kn19 kx20 kr21 =>
 (bin 0 .neq (vs17.getD 4 dead) (.int .u64 0)).bind fun t50 =>
 ifB t50 ((bin 0 .add (vs17.getD 3 dead) (vs17.getD 4 dead)).bind fun t55 =>
 jn ((bin 0 .leq t55 (vs17.getD 1 dead)).bind fun t58 =>
 ifB t58 ((bin 0 .add t55 (vs17.getD 4 dead)).bind fun t61 =>
 (bin 0 .sub (vs17.getD 1 dead) t55).bind fun t64 =>
 (bin 0 .add (vs17.getD 2 dead) (vs17.getD 4 dead)).bind fun t67 =>
 some (.nrm [(vs17.getD 0 dead), t64, t67, t61, (vs17.getD 4 dead)] H18)) (some (.nrm [(vs17.getD 0 dead), (vs17.getD 1 dead), (vs17.getD 2 dead), (vs17.getD 3 dead), (vs17.getD 4 dead)] H18))) pnK noX noR fun vs22 H23 =>
 (bin 0 .shl (vs22.getD 1 dead) (.int .u64 1)).bind fun t69 =>
 (bin 0 .shr (vs22.getD 4 dead) (.int .u64 1)).bind fun t52 =>
 kn19 [(vs22.getD 0 dead), t69, (vs22.getD 2 dead), (vs22.getD 3 dead), t52] H23) (kx20 3 (Fr.of [3, 4, 5] [(vs17.getD 0 dead), (vs17.getD 1 dead), (vs17.getD 2 dead)]) H18)) n [t46, t48, (.int .u64 0), (.int .u64 0), (.int .u64 9007199254740992)] H16 (fun j24 f25 H26 => if j24 = 3 then jn ((bin 0 .neq (f25.g 4) (.int .u64 0)).bind fun t71 =>
 ifB t71 ((bin 0 .and (f25.g 5) (.int .u64 1)).bind fun t74 =>
 (bin 0 .add (f25.g 5) t74).bind fun t75 =>
 some (.nrm [(f25.g 3), t75] H26)) (some (.nrm [(f25.g 3), (f25.g 5)] H26))) pnK noX noR fun vs27 H28 =>
 (bin 0 .shr (vs27.getD 1 dead) (.int .u64 1)).bind fun t77 =>
 (bin 0 .add (vs27.getD 0 dead) (.int .i64 1022)).bind fun t79 =>
 (cvI .u64 t79).bind fun t80 =>
 (bin 0 .shl t80 (.int .u64 52)).bind fun t81 =>
 (bin 0 .add t77 t81).bind fun t82 =>
 some (.ret t82, H28) else none) noR)))
def lv76 : List (Option An) := [none, none, none, none, none, none, none, none, none, none, some ⟨[3, 4], [], false, false⟩, none, none, some ⟨[3, 4], [3, 4], true, false⟩, none, none, none, none, some ⟨[3, 4], [], false, false⟩, none, none, none, none, none, none, none, some ⟨[3, 4, 5, 6, 7], [3, 4, 5], true, false⟩, none, none, none, none, some ⟨[3, 4, 5, 6, 7], [], false, false⟩, none, none, none, some ⟨[3, 5], [], false, false⟩]
theorem s76_eq (C : Cl) (n : Nat) (x0 : Value) (H : Hp) : evFn Tryd.prog C n lv76 Tryd.f76 [x0] H = s76 C n x0 H := by kernel_rfl
/-- bulkhead/bulkheadref02.pick -/
noncomputable def s77 (C : Cl) (n : Nat) (x0 : Value) (x1 : Value) (x2 : Value) (H : Hp) : R :=
 callK (C 78 [x1] H) pnK fun t9 H1 =>
 (ifG t9 true (some (x2, H1)) (some (undef, H1))).bind fun p2 =>
 (ifG t9 true (callK (C 78 [p2.1] p2.2) pnN fun t12 H3 =>
 some (t12, H3)) (some (undef, p2.2))).bind fun p4 =>
 (pick t9 p4.1 (.bool false)).bind fun t13 =>
 ifB t13 (some (.ret (.int .u64 9221120237041090560), p4.2)) (callK (C 78 [x1] p4.2) pnK fun t16 H5 =>
 ifB t16 (some (.ret x2, H5)) (callK (C 78 [x2] H5) pnK fun t20 H6 =>
 ifB t20 (some (.ret x1, H6)) (callK (C 89 [x1] H6) pnK fun t24 H7 =>
 callK (C 89 [x2] H7) pnK fun t26 H8 =>
 (bin 0 .lss t24 t26).bind fun t27 =>
 (bin 1 .eql x0 t27).bind fun t28 =>
 ifB t28 (some (.ret x1, H8)) (some (.ret x2, H8)))))
def lv77 : List (Option An) := []
theorem s77_eq (C : Cl) (n : Nat) (x0 : Value) (x1 : Value) (x2 : Value) (H : Hp) : evFn Tryd.prog C n lv77 Tryd.f77 [x0, x1, x2] H = s77 C n x0 x1 x2 H := by kernel_rfl
/-- bulkhead/bulkheadref02.IsNan -/
noncomputable def s78 (C : Cl) (n : Nat) (x0 : Value) (H : Hp) : R :=
 (bin 0 .andNot x0 (.int .u64 9223372036854775808)).bind fun t4 =>
 (bin 0 .gtr t4 (.int .u64 9218868437227405312)).bind fun t5 =>
 some (.ret t5, H)
def lv78 : List (Option An) := []
theorem s78_eq (C : Cl) (n : Nat) (x0 : Value) (H : Hp) : evFn Tryd.prog C n lv78 Tryd.f78 [x0] H = s78 C n x0 H := by kernel_rfl
/-- bulkhead/bulkheadref02.zero -/
noncomputable def s79 (C : Cl) (n : Nat) (x0 : Value) (H : Hp) : R :=
 (bin 0 .andNot x0 (.int .u64 9223372036854775808)).bind fun t4 =>
 (bin 0 .eql t4 (.int .u64 0)).bind fun t5 =>
 some (.ret t5, H)
def lv79 : List (Option An) := []
theorem s79_eq (C : Cl) (n : Nat) (x0 : Value) (H : Hp) : evFn Tryd.prog C n lv79 Tryd.f79 [x0] H = s79 C n x0 H := by kernel_rfl
/-- bulkhead/bulkheadref02.less -/
noncomputable def s80 (C : Cl) (n : Nat) (x0 : Value) (x1 : Value) (H : Hp) : R :=
 callK (C 79 [x0] H) pnK fun t6 H1 =>
 (ifG t6 true (some (x1, H1)) (some (undef, H1))).bind fun p2 =>
 (ifG t6 true (callK (C 79 [p2.1] p2.2) pnN fun t9 H3 =>
 some (t9, H3)) (some (undef, p2.2))).bind fun p4 =>
 (pick t6 p4.1 (.bool false)).bind fun t10 =>
 ifB t10 (some (.ret (.bool false), p4.2)) (callK (C 89 [x0] p4.2) pnK fun t12 H5 =>
 callK (C 89 [x1] H5) pnK fun t14 H6 =>
 (bin 0 .lss t12 t14).bind fun t15 =>
 some (.ret t15, H6))
def lv80 : List (Option An) := []
theorem s80_eq (C : Cl) (n : Nat) (x0 : Value) (x1 : Value) (H : Hp) : evFn Tryd.prog C n lv80 Tryd.f80 [x0, x1] H = s80 C n x0 x1 H := by kernel_rfl
/-- internal/stringslite.Index -/
noncomputable def s82 (C : Cl) (n : Nat) (x0 : Value) (x1 : Value) (H : Hp) : R :=
 (len 0 x1 H).bind fun t15 =>
 (bin 0 .eql t15 (.int .i64 0)).bind fun t18 =>
 (ifG t18 false (some (x1, H)) (some (undef, H))).bind fun p1 =>
 (ifG t18 false (some (x0, p1.2)) (some (undef, p1.2))).bind fun p2 =>
 (ifG t18 false ((bin 0 .eql p1.1 p2.1).bind fun t22 =>
 some (t22, p2.2)) (some (undef, p2.2))).bind fun p3 =>
 (pick t18 (.bool true) p3.1).bind fun t23 =>
 ifB t23 (some (.ret (.int .i64 0), p3.2)) ((bin 0 .eql t15 (.int .i64 1)).bind fun t26 =>
 ifB t26 ((sx x1 (.int .i64 0)).bind fun t29 =>
 callK (C 90 [x0, t29] p3.2) pnK fun t30 H4 =>
 some (.ret t30, H4)) ((len 0 x0 p3.2).bind fun t34 =>
 (bin 0 .geq t15 t34).bind fun t35 =>
 ifB t35 (some (.ret (.int .i64 (-1)), p3.2)) ((ld (ptr 3 0) p3.2).bind fun t38 =>
 (bin 0 .leq t15 t38).bind fun t39 =>
 (ifG t39 true (some (x0, p3.2)) (some (undef, p3.2))).bind fun p5 =>
 (ifG t39 true ((len 0 p5.1 p5.2).bind fun t42 =>
 some (t42, p5.2)) (some (undef, p5.2))).bind fun p6 =>
 (ifG t39 true ((bin 0 .leq p6.1 (.int .i64 64)).bind fun t43 =>
 some (t43, p6.2)) (some (undef, p6.2))).bind fun p7 =>
 (pick t39 p7.1 (.bool false)).bind fun t44 =>
 ifB t44 (callK (C 91 [x0, x1] p7.2) pnK fun t47 H8 =>
 some (.ret t47, H8)) ((sx x1 (.int .i64 0)).bind fun t49 =>
 (sx x1 (.int .i64 1)).bind fun t51 =>
 (len 0 x0 p7.2).bind fun t53 =>
 (bin 0 .sub t53 t15).bind fun t55 =>
 (bin 0 .add t55 (.int .i64 1)).bind fun t56 =>
 lp (fun vs9 H10 kn11 kx12 kr13 =>
 (bin 0 .lss (vs9.getD 5 dead) (vs9.getD 6 dead)).bind fun t59 =>
 ifB t59 (jn ((sx (vs9.getD 0 dead) (vs9.getD 5 dead)).bind fun t62 =>
 (bin 0 .neq t62 (vs9.getD 3 dead)).bind fun t64 =>
 ifB t64 ((bin 0 .add (vs9.getD 5 dead) (.int .i64 1)).bind fun t67 =>
 (slS (vs9.getD 0 dead) (some t67) (some (vs9.getD 6 dead))).bind fun t69 =>
 callK (C 90 [t69, (vs9.getD 3 dead)] H10) pnJ fun t71 H16 =>
 (bin 0 .lss t71 (.int .i64 0)).bind fun t73 =>
 ifB t73 (some (.rt (Fr.of [4] [(.int .i64 (-1))]) H16)) ((bin 0 .add t71 (.int .i64 1)).bind fun t76 =>
 (bin 0 .add (vs9.getD 5 dead) t76).bind fun t77 =>
 some (.nrm [(vs9.getD 0 dead), (vs9.getD 1 dead), (vs9.getD 2 dead), (vs9.getD 3 dead), (vs9.getD 4 dead), t77, (vs9.getD 6 dead), (vs9.getD 7 dead)] H16))) (some (.nrm [(vs9.getD 0 dead), (vs9.getD 1 dead), (vs9.getD 2 dead), (vs9.getD 3 dead), (vs9.getD 4 dead), (vs9.getD 5 dead), (vs9.getD 6 dead), (vs9.getD 7 dead)] H10))) pnK noX (fun f40 H41 => kr13 (Fr.of [4] [(f40.g 4)]) H41) fun vs14 H15 =>
 (bin 0 .add (vs14.getD 5 dead) (.int .i64 1)).bind fun t80 =>
 (sx (vs14.getD 0 dead) t80).bind fun t81 =>
 (bin 0 .eql t81 (vs14.getD 4 dead)).bind fun t83 =>
 (ifG t83 true (some ((vs14.getD 0 dead), H15)) (some (undef, H15))).bind fun p17 =>
 (ifG t83 true (some ((vs14.getD 5 dead), p17.2)) (some (undef, p17.2))).bind fun p18 =>
 (ifG t83 true (some ((vs14.getD 5 dead), p18.2)) (some (undef, p18.2))).bind fun p19 =>
 (ifG t83 true (some ((vs14.getD 2 dead), p19.2)) (some (undef, p19.2))).bind fun p20 =>
 (ifG t83 true ((bin 0 .add p19.1 p20.1).bind fun t89 =>
 some (t89, p20.2)) (some (undef, p20.2))).bind fun p21 =>
 (ifG t83 true ((slS p17.1 (some p18.1) (some p21.1)).bind fun t90 =>
 some (t90, p21.2)) (some (undef, p21.2))).bind fun p22 =>
 (ifG t83 true (some ((vs14.getD 1 dead), p22.2)) (some (undef, p22.2))).bind fun p23 =>
 (ifG t83 true ((bin 0 .eql p22.1 p23.1).bind fun t92 =>
 some (t92, p23.2)) (some (undef, p23.2))).bind fun p24 =>
 (pick t83 p24.1 (.bool false)).bind fun t93 =>
 ifB t93 (kr13 (Fr.of [4] [(vs14.getD 5 dead)]) p24.2) ((bin 0 .add (vs14.getD 5 dead) (.int .i64 1)).bind fun t96 =>
 (bin 0 .add (vs14.getD 7 dead) (.int .i64 1)).bind fun t98 =>
 (ld (ptr 3 0) p24.2).bind fun t100 =>
 (bin 0 .leq (vs14.getD 2 dead) t100).bind fun t101 =>
 (ifG t101 true (some (t98, p24.2)) (some (undef, p24.2))).bind fun p25 =>
 (ifG t101 true (some (t96, p25.2)) (some (undef, p25.2))).bind fun p26 =>
 (ifG t101 true (callK (C 92 [p26.1] p26.2) pnN fun t105 H27 =>
 some (t105, H27)) (some (undef, p26.2))).bind fun p28 =>
 (ifG t101 true ((bin 0 .gtr p25.1 p28.1).bind fun t106 =>
 some (t106, p28.2)) (some (undef, p28.2))).bind fun p29 =>
 (pick t101 p29.1 (.bool false)).bind fun t107 =>
 ifB t107 ((slS (vs14.getD 0 dead) (some t96) none).bind fun t110 =>
 callK (C 91 [t110, (vs14.getD 1 dead)] p29.2) pnK fun t112 H30 =>
 (bin 0 .geq t112 (.int .i64 0)).bind fun t114 =>
 ifB t114 ((bin 0 .add t112 t96).bind fun t117 =>
 kr13 (Fr.of [4] [t117]) H30) (kr13 (Fr.of [4] [(.int .i64 (-1))]) H30)) ((ld (ptr 3 0) p29.2).bind fun t119 =>
 (bin 0 .gtr (vs14.getD 2 dead) t119).bind fun t120 =>
 (ifG t120 true (some (t98, p29.2)) (some (undef, p29.2))).bind fun p31 =>
 (ifG t120 true (some (t96, p31.2)) (some (undef, p31.2))).bind fun p32 =>
 (ifG t120 true ((bin 0 .shr p32.1 (.int .u64 4)).bind fun t124 =>
 some (t124, p32.2)) (some (undef, p32.2))).bind fun p33 =>
 (ifG t120 true ((bin 0 .add (.int .i64 4) p33.1).bind fun t125 =>
 some (t125, p33.2)) (some (undef, p33.2))).bind fun p34 =>
 (ifG t120 true ((bin 0 .geq p31.1 p34.1).bind fun t126 =>
 some (t126, p34.2)) (some (undef, p34.2))).bind fun p35 =>
 (pick t120 p35.1 (.bool false)).bind fun t127 =>
 (ifG t127 true (some (t96, p35.2)) (some (undef, p35.2))).bind fun p36 =>
 (ifG t127 true (some ((vs14.getD 6 dead), p36.2)) (some (undef, p36.2))).bind fun p37 =>
 (ifG t127 true ((bin 0 .lss p36.1 p37.1).bind fun t131 =>
 some (t131, p37.2)) (some (undef, p37.2))).bind fun p38 =>
 (pick t127 p38.1 (.bool false)).bind fun t132 =>
 ifB t132 ((slS (vs14.getD 0 dead) (some t96) none).bind fun t135 =>
 callK (C 93 [t135, (vs14.getD 1 dead)] p38.2) pnK fun t137 H39 =>
 (bin 0 .lss t137 (.int .i64 0)).bind fun t139 =>
 ifB t139 (kr13 (Fr.of [4] [(.int .i64 (-1))]) H39) ((bin 0 .add t96 t137).bind fun t142 =>
 kr13 (Fr.of [4] [t142]) H39)) (kn11 [(vs14.getD 0 dead), (vs14.getD 1 dead), (vs14.getD 2 dead), (vs14.getD 3 dead), (vs14.getD 4 dead), t96, (vs14.getD 6 dead), t98] p38.2)))) (kx12 1 (Fr.of [4] [((Fr.of [0, 1, 5, 6, 7, 8, 9, 10] vs9).g 4)]) H10)) n [x0, x1, t15, t49, t51, (.int .i64 0), t56, (.int .i64 0)] p7.2 (fun j42 f43 H44 => if j42 = 1 then some (.ret (.int .i64 (-1)), H44) else none) (fun f45 H46 => some (.ret (f45.g 4), H46))))))
def lv82 : List (Option An) := [none, none, none, none, none, none, none, none, none, none, none, none, none, none, none, none, none, some ⟨[0, 1, 5, 6, 7, 8, 9, 10], [4], true, true⟩, none, none, some ⟨[0, 1, 5, 6, 7, 8, 9, 10], [4], false, true⟩]
theorem s82_eq (C : Cl) (n : Nat) (x0 : Value) (x1 : Value) (H : Hp) : evFn Tryd.prog C n lv82 Tryd.f82 [x0, x1] H = s82 C n x0 x1 H := by kernel_rfl
/-- bulkhead/word.divide -/
noncomputable def s83 (C : Cl) (n : Nat) (x0 : Value) (x1 : Value) (x2 : Value) (H : Hp) : R :=
 (bin 0 .eql x2 (.int .u32 0)).bind fun t11 =>
 ifB t11 (some (.ret (.tuple #[(.int .u32 0), (.int .i64 10)]), H)) ((cvI .i32 x1).bind fun t13 =>
 (cvI .i64 t13).bind fun t14 =>
 (cvI .i32 x2).bind fun t16 =>
 (cvI .i64 t16).bind fun t17 =>
 (bin 0 .eql x0 (.int .i64 6)).bind fun t20 =>
 ifB t20 ((bin 0 .quo t14 t17).bind fun t23 =>
 (cvI .u32 t23).bind fun t24 =>
 some (.ret (.tuple #[t24, (.int .i64 0)]), H)) ((bin 0 .eql x0 (.int .i64 8)).bind fun t26 =>
 ifB t26 ((bin 0 .rem t14 t17).bind fun t29 =>
 (cvI .u32 t29).bind fun t30 =>
 some (.ret (.tuple #[t30, (.int .i64 0)]), H)) ((bin 0 .eql x0 (.int .i64 7)).bind fun t32 =>
 ifB t32 ((bin 0 .quo x1 x2).bind fun t35 =>
 some (.ret (.tuple #[t35, (.int .i64 0)]), H)) ((bin 0 .rem x1 x2).bind fun t38 =>
 some (.ret (.tuple #[t38, (.int .i64 0)]), H)))))
def lv83 : List (Option An) := []
theorem s83_eq (C : Cl) (n : Nat) (x0 : Value) (x1 : Value) (x2 : Value) (H : Hp) : evFn Tryd.prog C n lv83 Tryd.f83 [x0, x1, x2] H = s83 C n x0 x1 x2 H := by kernel_rfl
/-- bulkhead/word.flag -/
noncomputable def s84 (C : Cl) (n : Nat) (x0 : Value) (H : Hp) : R :=
 ifB x0 (some (.ret (.tuple #[(.int .u32 1), (.int .i64 0)]), H)) (some (.ret (.tuple #[(.int .u32 0), (.int .i64 0)]), H))
def lv84 : List (Option An) := []
theorem s84_eq (C : Cl) (n : Nat) (x0 : Value) (H : Hp) : evFn Tryd.prog C n lv84 Tryd.f84 [x0] H = s84 C n x0 H := by kernel_rfl
/-- bulkhead/real.float -/
noncomputable def s85 (C : Cl) (n : Nat) (x0 : Value) (H : Hp) : R :=
 callK (C 74 [x0] H) pnK fun t4 H1 =>
 some (.ret t4, H1)
def lv85 : List (Option An) := []
theorem s85_eq (C : Cl) (n : Nat) (x0 : Value) (H : Hp) : evFn Tryd.prog C n lv85 Tryd.f85 [x0] H = s85 C n x0 H := by kernel_rfl
/-- bulkhead/real.bits -/
noncomputable def s86 (C : Cl) (n : Nat) (x0 : Value) (H : Hp) : R :=
 (bin 0 .neq x0 x0).bind fun t5 =>
 ifB t5 (some (.ret (.int .u64 9221120237041090560), H)) (callK (C 81 [x0] H) pnK fun t7 H1 =>
 some (.ret t7, H1))
def lv86 : List (Option An) := []
theorem s86_eq (C : Cl) (n : Nat) (x0 : Value) (H : Hp) : evFn Tryd.prog C n lv86 Tryd.f86 [x0] H = s86 C n x0 H := by kernel_rfl
/-- math.Sqrt -/
noncomputable def s87 (C : Cl) (n : Nat) (x0 : Value) (H : Hp) : R :=
 callK (C 94 [x0] H) pnK fun t4 H1 =>
 some (.ret t4, H1)
def lv87 : List (Option An) := []
theorem s87_eq (C : Cl) (n : Nat) (x0 : Value) (H : Hp) : evFn Tryd.prog C n lv87 Tryd.f87 [x0] H = s87 C n x0 H := by kernel_rfl
/-- bulkhead/real.extreme -/
noncomputable def s88 (C : Cl) (n : Nat) (x0 : Value) (x1 : Value) (x2 : Value) (H : Hp) : R :=
 callK (C 95 [x0] H) pnK fun t9 H1 =>
 (ifG t9 true (some (x1, H1)) (some (undef, H1))).bind fun p2 =>
 (ifG t9 true (callK (C 95 [p2.1] p2.2) pnN fun t12 H3 =>
 some (t12, H3)) (some (undef, p2.2))).bind fun p4 =>
 (pick t9 p4.1 (.bool false)).bind fun t13 =>
 ifB t13 (some (.ret (.int .u64 9221120237041090560), p4.2)) (callK (C 95 [x0] p4.2) pnK fun t16 H5 =>
 ifB t16 (some (.ret x1, H5)) (callK (C 95 [x1] H5) pnK fun t20 H6 =>
 ifB t20 (some (.ret x0, H6)) (callK (C 96 [x1, x0] H6) pnK fun t25 H7 =>
 (bin 1 .neq t25 x2).bind fun t27 =>
 ifB t27 (some (.ret x1, H7)) (some (.ret x0, H7)))))
def lv88 : List (Option An) := []
theorem s88_eq (C : Cl) (n : Nat) (x0 : Value) (x1 : Value) (x2 : Value) (H : Hp) : evFn Tryd.prog C n lv88 Tryd.f88 [x0, x1, x2] H = s88 C n x0 x1 x2 H := by kernel_rfl
/-- bulkhead/bulkheadref02.order -/
noncomputable def s89 (C : Cl) (n : Nat) (x0 : Value) (H : Hp) : R :=
 (bin 0 .geq x0 (.int .u64 9223372036854775808)).bind fun t4 =>
 ifB t4 ((bin 0 .andNot x0 (.int .u64 9223372036854775808)).bind fun t6 =>
 (cvI .i64 t6).bind fun t7 =>
 (un .neg t7).bind fun t8 =>
 (bin 0 .sub t8 (.int .i64 1)).bind fun t9 =>
 some (.ret t9, H)) ((cvI .i64 x0).bind fun t11 =>
 some (.ret t11, H))
def lv89 : List (Option An) := []
theorem s89_eq (C : Cl) (n : Nat) (x0 : Value) (H : Hp) : evFn Tryd.prog C n lv89 Tryd.f89 [x0] H = s89 C n x0 H := by kernel_rfl
/-- internal/stringslite.IndexByte -/
noncomputable def s90 (C : Cl) (n : Nat) (x0 : Value) (x1 : Value) (H : Hp) : R :=
 callK (C 97 [x0, x1] H) pnK fun t7 H1 =>
 some (.ret t7, H1)
def lv90 : List (Option An) := []
theorem s90_eq (C : Cl) (n : Nat) (x0 : Value) (x1 : Value) (H : Hp) : evFn Tryd.prog C n lv90 Tryd.f90 [x0, x1] H = s90 C n x0 x1 H := by kernel_rfl
/-- internal/bytealg.Cutover -/
noncomputable def s92 (C : Cl) (n : Nat) (x0 : Value) (H : Hp) : R :=
 (bin 0 .add x0 (.int .i64 16)).bind fun t4 =>
 (bin 0 .quo t4 (.int .i64 8)).bind fun t5 =>
 some (.ret t5, H)
def lv92 : List (Option An) := []
theorem s92_eq (C : Cl) (n : Nat) (x0 : Value) (H : Hp) : evFn Tryd.prog C n lv92 Tryd.f92 [x0] H = s92 C n x0 H := by kernel_rfl
/-- internal/bytealg.IndexRabinKarp[string] -/
noncomputable def s93 (C : Cl) (n : Nat) (x0 : Value) (x1 : Value) (H : Hp) : R :=
 callK (C 98 [x1] H) pnK fun t13 H1 =>
 (ext1 t13 0).bind fun t14 =>
 (ext1 t13 1).bind fun t15 =>
 (len 0 x1 H1).bind fun t17 =>
 lp (fun vs2 H3 kn4 kx5 kr6 =>
 (bin 0 .lss (vs2.getD 6 dead) (vs2.getD 4 dead)).bind fun t20 =>
 ifB t20 ((bin 0 .mul (vs2.getD 5 dead) (.int .u32 16777619)).bind fun t24 =>
 (sx (vs2.getD 0 dead) (vs2.getD 6 dead)).bind fun t27 =>
 (cvI .u32 t27).bind fun t28 =>
 (bin 0 .add t24 t28).bind fun t29 =>
 (bin 0 .add (vs2.getD 6 dead) (.int .i64 1)).bind fun t22 =>
 kn4 [(vs2.getD 0 dead), (vs2.getD 1 dead), (vs2.getD 2 dead), (vs2.getD 3 dead), (vs2.getD 4 dead), t29, t22] H3) (kx5 0 (Fr.of [0, 1, 5, 6, 7, 8] [(vs2.getD 0 dead), (vs2.getD 1 dead), (vs2.getD 2 dead), (vs2.getD 3 dead), (vs2.getD 4 dead), (vs2.getD 5 dead)]) H3)) n [x0, x1, t14, t15, t17, (.int .u32 0), (.int .i64 0)] H1 (fun j7 f8 H9 => if j7 = 0 then (bin 0 .eql (f8.g 8) (f8.g 5)).bind fun t32 =>
 (ifG t32 true (some ((f8.g 0), H9)) (some (undef, H9))).bind fun p10 =>
 (ifG t32 true (some ((f8.g 7), p10.2)) (some (undef, p10.2))).bind fun p11 =>
 (ifG t32 true ((slS p10.1 none (some p11.1)).bind fun t36 =>
 some (t36, p11.2)) (some (undef, p11.2))).bind fun p12 =>
 (ifG t32 true (some ((f8.g 1), p12.2)) (some (undef, p12.2))).bind fun p13 =>
 (ifG t32 true ((bin 0 .eql p12.1 p13.1).bind fun t38 =>
 some (t38, p13.2)) (some (undef, p13.2))).bind fun p14 =>
 (pick t32 p14.1 (.bool false)).bind fun t39 =>
 ifB t39 (some (.ret (.int .i64 0), p14.2)) (lp (fun vs15 H16 kn17 kx18 kr19 =>
 (len 0 (vs15.getD 0 dead) H16).bind fun t43 =>
 (bin 0 .lss (vs15.getD 6 dead) t43).bind fun t44 =>
 ifB t44 ((bin 0 .mul (vs15.getD 5 dead) (.int .u32 16777619)).bind fun t46 =>
 (sx (vs15.getD 0 dead) (vs15.getD 6 dead)).bind fun t50 =>
 (cvI .u32 t50).bind fun t51 =>
 (bin 0 .add t46 t51).bind fun t52 =>
 (bin 0 .sub (vs15.getD 6 dead) (vs15.getD 4 dead)).bind fun t58 =>
 (sx (vs15.getD 0 dead) t58).bind fun t59 =>
 (cvI .u32 t59).bind fun t60 =>
 (bin 0 .mul (vs15.getD 3 dead) t60).bind fun t61 =>
 (bin 0 .sub t52 t61).bind fun t62 =>
 (bin 0 .add (vs15.getD 6 dead) (.int .i64 1)).bind fun t64 =>
 (bin 0 .eql t62 (vs15.getD 2 dead)).bind fun t67 =>
 (ifG t67 true (some ((vs15.getD 0 dead), H16)) (some (undef, H16))).bind fun p20 =>
 (ifG t67 true (some (t64, p20.2)) (some (undef, p20.2))).bind fun p21 =>
 (ifG t67 true (some ((vs15.getD 4 dead), p21.2)) (some (undef, p21.2))).bind fun p22 =>
 (ifG t67 true ((bin 0 .sub p21.1 p22.1).bind fun t72 =>
 some (t72, p22.2)) (some (undef, p22.2))).bind fun p23 =>
 (ifG t67 true (some (t64, p23.2)) (some (undef, p23.2))).bind fun p24 =>
 (ifG t67 true ((slS p20.1 (some p23.1) (some p24.1)).bind fun t74 =>
 some (t74, p24.2)) (some (undef, p24.2))).bind fun p25 =>
 (ifG t67 true (some ((vs15.getD 1 dead), p25.2)) (some (undef, p25.2))).bind fun p26 =>
 (ifG t67 true ((bin 0 .eql p25.1 p26.1).bind fun t76 =>
 some (t76, p26.2)) (some (undef, p26.2))).bind fun p27 =>
 (pick t67 p27.1 (.bool false)).bind fun t77 =>
 ifB t77 ((bin 0 .sub t64 (vs15.getD 4 dead)).bind fun t80 =>
 kr19 (Fr.of [4] [t80]) p27.2) (kn17 [(vs15.getD 0 dead), (vs15.getD 1 dead), (vs15.getD 2 dead), (vs15.getD 3 dead), (vs15.getD 4 dead), t62, t64] p27.2)) (kx18 2 (Fr.of [4] [((Fr.of [0, 1, 5, 6, 7, 8, 10] vs15).g 4)]) H16)) n [(f8.g 0), (f8.g 1), (f8.g 5), (f8.g 6), (f8.g 7), (f8.g 8), (f8.g 7)] p14.2 (fun j28 f29 H30 => if j28 = 2 then some (.ret (.int .i64 (-1)), H30) else none) (fun f31 H32 => some (.ret (f31.g 4), H32))) else none) noR
def lv93 : List (Option An) := [none, none, none, none, none, none, some ⟨[0, 1, 5, 6, 7, 8, 9], [0, 1, 5, 6, 7, 8], true, false⟩, none, none, none, none, none, none, none, none, some ⟨[0, 1, 5, 6, 7, 8, 10], [4], true, true⟩]
theorem s93_eq (C : Cl) (n : Nat) (x0 : Value) (x1 : Value) (H : Hp) : evFn Tryd.prog C n lv93 Tryd.f93 [x0, x1] H = s93 C n x0 x1 H := by kernel_rfl
/-- bulkhead/real.isNaN -/
noncomputable def s95 (C : Cl) (n : Nat) (x0 : Value) (H : Hp) : R :=
 callK (C 85 [x0] H) pnK fun t4 H1 =>
 callK (C 85 [x0] H1) pnK fun t6 H2 =>
 (bin 0 .neq t4 t6).bind fun t7 =>
 some (.ret t7, H2)
def lv95 : List (Option An) := []
theorem s95_eq (C : Cl) (n : Nat) (x0 : Value) (H : Hp) : evFn Tryd.prog C n lv95 Tryd.f95 [x0] H = s95 C n x0 H := by kernel_rfl
/-- bulkhead/real.less -/
noncomputable def s96 (C : Cl) (n : Nat) (x0 : Value) (x1 : Value) (H : Hp) : R :=
 callK (C 85 [x0] H) pnK fun t8 H1 =>
 callK (C 85 [x1] H1) pnK fun t10 H2 =>
 (bin 0 .lss t8 t10).bind fun t13 =>
 (ifG t13 false (some (t8, H2)) (some (undef, H2))).bind fun p3 =>
 (ifG t13 false (some (t10, p3.2)) (some (undef, p3.2))).bind fun p4 =>
 (ifG t13 false ((bin 0 .eql p3.1 p4.1).bind fun t17 =>
 some (t17, p4.2)) (some (undef, p4.2))).bind fun p5 =>
 (ifG t13 false (some (p5.1, p5.2)) (some (undef, p5.2))).bind fun p6 =>
 (ifG p6.1 true (some (t8, p6.2)) (some (undef, p6.2))).bind fun p7 =>
 (ifG p6.1 true (callK (C 99 [p7.1] p7.2) pnN fun t20 H8 =>
 some (t20, H8)) (some (undef, p7.2))).bind fun p9 =>
 (ifG t13 false ((pick p6.1 p9.1 (.bool false)).bind fun t21 =>
 some (t21, p9.2)) (some (undef, p9.2))).bind fun p10 =>
 (ifG t13 false (some (p10.1, p10.2)) (some (undef, p10.2))).bind fun p11 =>
 (ifG p11.1 true (some (t10, p11.2)) (some (undef, p11.2))).bind fun p12 =>
 (ifG p11.1 true (callK (C 99 [p12.1] p12.2) pnN fun t24 H13 =>
 some (t24, H13)) (some (undef, p12.2))).bind fun p14 =>
 (ifG p11.1 true ((un .not p14.1).bind fun t25 =>
 some (t25, p14.2)) (some (undef, p14.2))).bind fun p15 =>
 (ifG t13 false ((pick p11.1 p15.1 (.bool false)).bind fun t26 =>
 some (t26, p15.2)) (some (undef, p15.2))).bind fun p16 =>
 (pick t13 (.bool true) p16.1).bind fun t27 =>
 some (.ret t27, p16.2)
def lv96 : List (Option An) := []
theorem s96_eq (C : Cl) (n : Nat) (x0 : Value) (x1 : Value) (H : Hp) : evFn Tryd.prog C n lv96 Tryd.f96 [x0, x1] H = s96 C n x0 x1 H := by kernel_rfl
def live (f : FuncId) : List (Option An) := [[], [], lv2, lv3, [], lv5, [], [], [], lv9, lv10, lv11, lv12, lv13, lv14, lv15, lv16, lv17, lv18, lv19, lv20, lv21, lv22, lv23, lv24, lv25, lv26, lv27, lv28, lv29, lv30, lv31, lv32, lv33, lv34, lv35, lv36, lv37, lv38, lv39, lv40, lv41, lv42, lv43, lv44, lv45, lv46, lv47, lv48, lv49, lv50, lv51, lv52, lv53, lv54, lv55, lv56, lv57, lv58, lv59, [], lv61, lv62, lv63, lv64, lv65, lv66, lv67, lv68, lv69, lv70, lv71, lv72, [], [], lv75, lv76, lv77, lv78, lv79, lv80, [], lv82, lv83, lv84, lv85, lv86, lv87, lv88, lv89, lv90, [], lv92, lv93, [], lv95, lv96].getD f []
end Go.Proofs.YthenglaoolmajaaDoor
