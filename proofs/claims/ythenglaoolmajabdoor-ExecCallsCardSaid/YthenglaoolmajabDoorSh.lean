/- The program's functions as plain Lean functions over the evaluator's operations, each tied to the program's own code by an equation. -/
import Derived.Test.YthenglaoolmajabDoorProg
import Derived.Test.YthenglaoolmajabDoorEvUse
import Derived.KernelRfl
namespace Go.Proofs.YthenglaoolmajabDoor
open Go Go.Ev
set_option maxRecDepth 100000
set_option linter.unusedVariables false
def shapesC : List Value := [.string ⟨#[]⟩, .string ⟨#[]⟩, .string ⟨#[97, 98, 99]⟩, .string ⟨#[97, 98, 105]⟩, .string ⟨#[97, 105]⟩, .string ⟨#[97, 105, 98]⟩, .string ⟨#[65, 105, 98]⟩, .string ⟨#[97, 98, 105]⟩, .string ⟨#[97, 105]⟩, .string ⟨#[65, 66, 67]⟩, .string ⟨#[65, 66]⟩, .string ⟨#[97, 66, 67]⟩, .string ⟨#[97, 66]⟩, .string ⟨#[65, 98]⟩, .string ⟨#[65, 98, 99]⟩, .string ⟨#[97, 105]⟩]
def TAB : Map Blk := Map.lf.put 0 (some (.ro shapesC))
instance tabs : Tabs := ⟨3, TAB⟩
/-- bulkhead/bulkheadlaw08.ExecCalls -/
noncomputable def s3 (C : Cl) (n : Nat) (x0 : Value) (x1 : Value) (x2 : Value) (H : Hp) : R :=
 (bx x0).bind fun c2 =>
 let H1 := H.new (.rw c2)
 callK (C 4 [] H1) pnK fun t13 H3 =>
 (un .not t13).bind fun t14 =>
 ifB t14 (some (.ret (.bool false), H3)) ((cvI .u64 x1).bind fun t16 =>
 (bin 0 .rem t16 (.int .u64 15)).bind fun t17 =>
 (cvI .i64 t17).bind fun t18 =>
 (bin 0 .add (.int .i64 1) t18).bind fun t19 =>
 (cvI .u64 x2).bind fun t21 =>
 (bin 0 .rem t21 (.int .u64 65536)).bind fun t22 =>
 (cvI .i64 t22).bind fun t23 =>
 (bin 0 .sub t23 (.int .i64 32768)).bind fun t24 =>
 (fa 24 (ptr H.next 0)).bind fun t25 =>
 (ld t25 H3).bind fun t26 =>
 (bin 0 .andNot t26 (.int .u32 3)).bind fun t27 =>
 (fa 24 (ptr H.next 0)).bind fun t28 =>
 (st 1 t28 t27 H3).bind fun H4 =>
 (ldN 25 (ptr H.next 0) H4).bind fun t30 =>
 (fillL (pl [(0, 1), (1, 1), (2, 1), (3, 1), (4, 1)]) [(.int .i64 0), (.int .i64 0), (.int .i64 0), (.int .i64 0), (.int .i64 0)] [(0, (.int .i64 44)), (1, t19), (4, t24)]).bind fun c5 =>
 callK (C 5 [t30, (.agg c5.toArray), (.int .u64 0)] H4) pnK fun t34 H6 =>
 (ext1 t34 0).bind fun t35 =>
 (ext1 t34 1).bind fun t36 =>
 (ext1 t34 2).bind fun t37 =>
 let H7 := H6.new (.rw [(.int .u32 0), (.int .u32 0), (.int .u32 0), (.int .u32 0), (.int .u32 0), (.int .u32 0), (.int .u32 0), (.int .u32 0), (.int .u32 0), (.int .u32 0), (.int .u32 0), (.int .u32 0), (.int .u32 0), (.int .u32 0), (.int .u32 0), (.int .u32 0), (.int .u64 0), (.int .u64 0), (.int .u64 0), (.int .u64 0), (.int .u64 0), (.int .u64 0), (.int .u64 0), (.int .u64 0), (.int .u32 0)])
 (st 25 (ptr H6.next 0) t35 H7).bind fun H8 =>
 (bin 0 .neq t36 (.int .i64 0)).bind fun t39 =>
 (ifG t39 false ((fa 24 (ptr H6.next 0)).bind fun t41 =>
 some (t41, H8.cl.cl.cl.cl)) (some (undef, H8.cl.cl.cl.cl))).bind fun p9 =>
 (ifG t39 false ((ld p9.1 p9.2.cl).bind fun t42 =>
 some (t42, p9.2.cl)) (some (undef, p9.2.cl))).bind fun p10 =>
 (ifG t39 false ((fa 24 (ptr H.next 0)).bind fun t43 =>
 some (t43, p10.2.cl)) (some (undef, p10.2.cl))).bind fun p11 =>
 (ifG t39 false ((ld p11.1 p11.2.cl).bind fun t44 =>
 some (t44, p11.2.cl)) (some (undef, p11.2.cl))).bind fun p12 =>
 (ifG t39 false (some (t24, p12.2.cl)) (some (undef, p12.2.cl))).bind fun p13 =>
 (ifG t39 false ((cvI .u32 p13.1).bind fun t46 =>
 some (t46, p13.2.cl)) (some (undef, p13.2.cl))).bind fun p14 =>
 (ifG t39 false ((bin 0 .mul (.int .u32 4) p14.1).bind fun t47 =>
 some (t47, p14.2.cl)) (some (undef, p14.2.cl))).bind fun p15 =>
 (ifG t39 false ((bin 0 .add p12.1 p15.1).bind fun t48 =>
 some (t48, p15.2.cl)) (some (undef, p15.2.cl))).bind fun p16 =>
 (ifG t39 false ((bin 0 .neq p10.1 p16.1).bind fun t49 =>
 some (t49, p16.2.cl)) (some (undef, p16.2.cl))).bind fun p17 =>
 (pick t39 (.bool true) p17.1).bind fun t50 =>
 (ifG t50 false (some (t19, p17.2.cl.cl.cl)) (some (undef, p17.2.cl.cl.cl))).bind fun p18 =>
 (ifG t50 false ((fa 0 (ptr H6.next 0)).bind fun t53 =>
 some (t53, p18.2.cl)) (some (undef, p18.2.cl))).bind fun p19 =>
 (ifG t50 false ((ia 16 1 p19.1 p18.1).bind fun t54 =>
 some (t54, p19.2.cl)) (some (undef, p19.2.cl))).bind fun p20 =>
 (ifG t50 false ((ld p20.1 p20.2.cl).bind fun t55 =>
 some (t55, p20.2.cl)) (some (undef, p20.2.cl))).bind fun p21 =>
 (ifG t50 false ((fa 24 (ptr H.next 0)).bind fun t56 =>
 some (t56, p21.2.cl)) (some (undef, p21.2.cl))).bind fun p22 =>
 (ifG t50 false ((ld p22.1 p22.2.cl).bind fun t57 =>
 some (t57, p22.2.cl)) (some (undef, p22.2.cl))).bind fun p23 =>
 (ifG t50 false ((bin 0 .add p23.1 (.int .u32 4)).bind fun t58 =>
 some (t58, p23.2.cl)) (some (undef, p23.2.cl))).bind fun p24 =>
 (ifG t50 false ((bin 0 .neq p21.1 p24.1).bind fun t59 =>
 some (t59, (p24.2.opn H8.lim))) (some (undef, (p24.2.opn H8.lim)))).bind fun p25 =>
 (pick t50 (.bool true) p25.1).bind fun t60 =>
 ifB t60 (some (.ret (.bool false), p25.2)) ((ldN 25 (ptr H6.next 0) p25.2).bind fun t62 =>
 (fillL (pl [(0, 1), (1, 1), (2, 1), (3, 1), (4, 1)]) [(.int .i64 0), (.int .i64 0), (.int .i64 0), (.int .i64 0), (.int .i64 0)] [(0, (.int .i64 45)), (2, t19)]).bind fun c26 =>
 callK (C 5 [t62, (.agg c26.toArray), (.int .u64 0)] p25.2) pnK fun t65 H27 =>
 (ext1 t65 0).bind fun t66 =>
 (ext1 t65 1).bind fun t67 =>
 (ext1 t65 2).bind fun t68 =>
 let H28 := H27.new (.rw [(.int .u32 0), (.int .u32 0), (.int .u32 0), (.int .u32 0), (.int .u32 0), (.int .u32 0), (.int .u32 0), (.int .u32 0), (.int .u32 0), (.int .u32 0), (.int .u32 0), (.int .u32 0), (.int .u32 0), (.int .u32 0), (.int .u32 0), (.int .u32 0), (.int .u64 0), (.int .u64 0), (.int .u64 0), (.int .u64 0), (.int .u64 0), (.int .u64 0), (.int .u64 0), (.int .u64 0), (.int .u32 0)])
 (st 25 (ptr H27.next 0) t66 H28).bind fun H29 =>
 (bin 0 .eql t67 (.int .i64 0)).bind fun t70 =>
 (ifG t70 true ((fa 24 (ptr H27.next 0)).bind fun t72 =>
 some (t72, H29)) (some (undef, H29))).bind fun p30 =>
 (ifG t70 true ((ld p30.1 p30.2).bind fun t73 =>
 some (t73, p30.2)) (some (undef, p30.2))).bind fun p31 =>
 (ifG t70 true ((fa 24 (ptr H.next 0)).bind fun t74 =>
 some (t74, p31.2)) (some (undef, p31.2))).bind fun p32 =>
 (ifG t70 true ((ld p32.1 p32.2).bind fun t75 =>
 some (t75, p32.2)) (some (undef, p32.2))).bind fun p33 =>
 (ifG t70 true ((bin 0 .add p33.1 (.int .u32 4)).bind fun t76 =>
 some (t76, p33.2)) (some (undef, p33.2))).bind fun p34 =>
 (ifG t70 true ((bin 0 .eql p31.1 p34.1).bind fun t77 =>
 some (t77, p34.2)) (some (undef, p34.2))).bind fun p35 =>
 (pick t70 p35.1 (.bool false)).bind fun t78 =>
 (ifG t78 true ((fa 0 (ptr H27.next 0)).bind fun t80 =>
 some (t80, p35.2)) (some (undef, p35.2))).bind fun p36 =>
 (ifG t78 true ((ldN 16 p36.1 p36.2).bind fun t81 =>
 some (t81, p36.2)) (some (undef, p36.2))).bind fun p37 =>
 (ifG t78 true ((fa 0 (ptr H6.next 0)).bind fun t82 =>
 some (t82, p37.2)) (some (undef, p37.2))).bind fun p38 =>
 (ifG t78 true ((ldN 16 p38.1 p38.2).bind fun t83 =>
 some (t83, p38.2)) (some (undef, p38.2))).bind fun p39 =>
 (ifG t78 true ((beqA [0, 0, 0, 0, 0, 0, 0, 0, 0, 0, 0, 0, 0, 0, 0, 0] .eql p37.1 p39.1).bind fun t84 =>
 some (t84, p39.2)) (some (undef, p39.2))).bind fun p40 =>
 (pick t78 p40.1 (.bool false)).bind fun t85 =>
 some (.ret t85, p40.2)))
def lv3 : List (Option An) := []
theorem s3_eq (C : Cl) (n : Nat) (x0 : Value) (x1 : Value) (x2 : Value) (H : Hp) : evFn Tryd.prog C n lv3 Tryd.f3 [x0, x1, x2] H = s3 C n x0 x1 x2 H := by kernel_rfl
/-- bulkhead/bulkheadlaw08.works -/
noncomputable def s4 (C : Cl) (n : Nat)  (H : Hp) : R :=
 (fillL (pl [(0, 16), (16, 8), (24, 1)]) [(.int .u32 0), (.int .u32 0), (.int .u32 0), (.int .u32 0), (.int .u32 0), (.int .u32 0), (.int .u32 0), (.int .u32 0), (.int .u32 0), (.int .u32 0), (.int .u32 0), (.int .u32 0), (.int .u32 0), (.int .u32 0), (.int .u32 0), (.int .u32 0), (.int .u64 0), (.int .u64 0), (.int .u64 0), (.int .u64 0), (.int .u64 0), (.int .u64 0), (.int .u64 0), (.int .u64 0), (.int .u32 0)] [(2, (.int .u32 100))]).bind fun c1 =>
 let H2 := H.new (.rw [(.int .u32 0), (.int .u32 0), (.int .u32 0), (.int .u32 0), (.int .u32 0), (.int .u32 0), (.int .u32 0), (.int .u32 0), (.int .u32 0), (.int .u32 0), (.int .u32 0), (.int .u32 0), (.int .u32 0), (.int .u32 0), (.int .u32 0), (.int .u32 0), (.int .u64 0), (.int .u64 0), (.int .u64 0), (.int .u64 0), (.int .u64 0), (.int .u64 0), (.int .u64 0), (.int .u64 0), (.int .u32 0)])
 (st 25 (ptr H.next 0) (.agg c1.toArray) H2).bind fun H3 =>
 (fa 0 (ptr H.next 0)).bind fun t12 =>
 (ia 16 1 t12 (.int .i64 2)).bind fun t13 =>
 (st 1 t13 (.int .u32 7) H3).bind fun H4 =>
 (ldN 25 (ptr H.next 0) H4).bind fun t15 =>
 (fillL (pl [(0, 1), (1, 1), (2, 1), (3, 1), (4, 1)]) [(.int .i64 0), (.int .i64 0), (.int .i64 0), (.int .i64 0), (.int .i64 0)] [(0, (.int .i64 18)), (1, (.int .i64 1)), (2, (.int .i64 2)), (4, (.int .i64 (-5)))]).bind fun c5 =>
 callK (C 5 [t15, (.agg c5.toArray), (.int .u64 0)] H4) pnK fun t17 H6 =>
 (ext1 t17 0).bind fun t18 =>
 (ext1 t17 1).bind fun t19 =>
 (ext1 t17 2).bind fun t20 =>
 let H7 := H6.new (.rw [(.int .u32 0), (.int .u32 0), (.int .u32 0), (.int .u32 0), (.int .u32 0), (.int .u32 0), (.int .u32 0), (.int .u32 0), (.int .u32 0), (.int .u32 0), (.int .u32 0), (.int .u32 0), (.int .u32 0), (.int .u32 0), (.int .u32 0), (.int .u32 0), (.int .u64 0), (.int .u64 0), (.int .u64 0), (.int .u64 0), (.int .u64 0), (.int .u64 0), (.int .u64 0), (.int .u64 0), (.int .u32 0)])
 (st 25 (ptr H6.next 0) t18 H7).bind fun H8 =>
 (ldN 25 (ptr H.next 0) H8).bind fun t22 =>
 (fillL (pl [(0, 1), (1, 1), (2, 1), (3, 1), (4, 1)]) [(.int .i64 0), (.int .i64 0), (.int .i64 0), (.int .i64 0), (.int .i64 0)] [(0, (.int .i64 7)), (1, (.int .i64 1)), (2, (.int .i64 2))]).bind fun c9 =>
 callK (C 5 [t22, (.agg c9.toArray), (.int .u64 0)] H8) pnK fun t24 H10 =>
 (ext1 t24 0).bind fun t25 =>
 (ext1 t24 1).bind fun t26 =>
 (ext1 t24 2).bind fun t27 =>
 let H11 := H10.new (.rw [(.int .u32 0), (.int .u32 0), (.int .u32 0), (.int .u32 0), (.int .u32 0), (.int .u32 0), (.int .u32 0), (.int .u32 0), (.int .u32 0), (.int .u32 0), (.int .u32 0), (.int .u32 0), (.int .u32 0), (.int .u32 0), (.int .u32 0), (.int .u32 0), (.int .u64 0), (.int .u64 0), (.int .u64 0), (.int .u64 0), (.int .u64 0), (.int .u64 0), (.int .u64 0), (.int .u64 0), (.int .u32 0)])
 (st 25 (ptr H10.next 0) t25 H11).bind fun H12 =>
 (ldN 25 (ptr H.next 0) H12).bind fun t29 =>
 (fillL (pl [(0, 1), (1, 1), (2, 1), (3, 1), (4, 1)]) [(.int .i64 0), (.int .i64 0), (.int .i64 0), (.int .i64 0), (.int .i64 0)] [(0, (.int .i64 28)), (1, (.int .i64 1)), (2, (.int .i64 2)), (4, (.int .i64 2))]).bind fun c13 =>
 callK (C 5 [t29, (.agg c13.toArray), (.int .u64 0)] H12) pnK fun t31 H14 =>
 (ext1 t31 0).bind fun t32 =>
 (ext1 t31 1).bind fun t33 =>
 (ext1 t31 2).bind fun t34 =>
 let H15 := H14.new (.rw [(.int .u32 0), (.int .u32 0), (.int .u32 0), (.int .u32 0), (.int .u32 0), (.int .u32 0), (.int .u32 0), (.int .u32 0), (.int .u32 0), (.int .u32 0), (.int .u32 0), (.int .u32 0), (.int .u32 0), (.int .u32 0), (.int .u32 0), (.int .u32 0), (.int .u64 0), (.int .u64 0), (.int .u64 0), (.int .u64 0), (.int .u64 0), (.int .u64 0), (.int .u64 0), (.int .u64 0), (.int .u32 0)])
 (st 25 (ptr H14.next 0) t32 H15).bind fun H16 =>
 (fa 0 (ptr H6.next 0)).bind fun t35 =>
 (ia 16 1 t35 (.int .i64 1)).bind fun t36 =>
 (ld t36 H16).bind fun t37 =>
 (bin 0 .eql t37 (.int .u32 2)).bind fun t38 =>
 (ifG t38 true ((fa 24 (ptr H6.next 0)).bind fun t40 =>
 some (t40, H16)) (some (undef, H16))).bind fun p17 =>
 (ifG t38 true ((ld p17.1 p17.2).bind fun t41 =>
 some (t41, p17.2)) (some (undef, p17.2))).bind fun p18 =>
 (ifG t38 true ((bin 0 .eql p18.1 (.int .u32 104)).bind fun t42 =>
 some (t42, p18.2)) (some (undef, p18.2))).bind fun p19 =>
 (pick t38 p19.1 (.bool false)).bind fun t43 =>
 (ifG t43 true (some (t19, p19.2)) (some (undef, p19.2))).bind fun p20 =>
 (ifG t43 true ((bin 0 .eql p20.1 (.int .i64 0)).bind fun t46 =>
 some (t46, p20.2)) (some (undef, p20.2))).bind fun p21 =>
 (pick t43 p21.1 (.bool false)).bind fun t47 =>
 (ifG t47 true (some (t26, p21.2)) (some (undef, p21.2))).bind fun p22 =>
 (ifG t47 true ((bin 0 .eql p22.1 (.int .i64 6)).bind fun t50 =>
 some (t50, p22.2)) (some (undef, p22.2))).bind fun p23 =>
 (pick t47 p23.1 (.bool false)).bind fun t51 =>
 (ifG t51 true (some (t33, p23.2)) (some (undef, p23.2))).bind fun p24 =>
 (ifG t51 true ((bin 0 .eql p24.1 (.int .i64 5)).bind fun t54 =>
 some (t54, p24.2)) (some (undef, p24.2))).bind fun p25 =>
 (pick t51 p25.1 (.bool false)).bind fun t55 =>
 (ifG t55 true (some (t34, p25.2)) (some (undef, p25.2))).bind fun p26 =>
 (ifG t55 true ((bin 0 .eql p26.1 (.int .u32 9)).bind fun t58 =>
 some (t58, p26.2)) (some (undef, p26.2))).bind fun p27 =>
 (pick t55 p27.1 (.bool false)).bind fun t59 =>
 some (.ret t59, p27.2)
def lv4 : List (Option An) := []
theorem s4_eq (C : Cl) (n : Nat)  (H : Hp) : evFn Tryd.prog C n lv4 Tryd.f4 [] H = s4 C n  H := by kernel_rfl
/-- bulkhead/exec.Done -/
noncomputable def s5 (C : Cl) (n : Nat) (x0 : Value) (x1 : Value) (x2 : Value) (H : Hp) : R :=
 (bx x0).bind fun c2 =>
 let H1 := H.new (.rw c2)
 (bx x1).bind fun c4 =>
 let H3 := H1.new (.rw c4)
 let H5 := H3.new (.rw [(.int .u32 0), (.int .u32 0), (.int .u32 0), (.int .u32 0), (.int .u32 0), (.int .u32 0), (.int .u32 0), (.int .u32 0), (.int .u32 0), (.int .u32 0), (.int .u32 0), (.int .u32 0), (.int .u32 0), (.int .u32 0), (.int .u32 0), (.int .u32 0), (.int .u64 0), (.int .u64 0), (.int .u64 0), (.int .u64 0), (.int .u64 0), (.int .u64 0), (.int .u64 0), (.int .u64 0), (.int .u32 0)])
 (ldN 25 (ptr H.next 0) H5).bind fun t11 =>
 callK (C 6 [t11] H5) pnK fun t12 H6 =>
 (st 25 (ptr H.next 0) t12 H6).bind fun H7 =>
 (ldN 5 (ptr H1.next 0) H7).bind fun t13 =>
 callK (C 7 [t13] H7) pnK fun t14 H8 =>
 (un .not t14).bind fun t15 =>
 ifB t15 ((ldN 25 (ptr H.next 0) H8).bind fun t16 =>
 (st 25 (ptr H3.next 0) t16 H8).bind fun H9 =>
 (ldN 25 (ptr H3.next 0) H9).bind fun r10 =>
 some (.ret (.tuple #[r10, (.int .i64 1), (.int .u32 0)]), H9)) ((ldN 25 (ptr H.next 0) H8).bind fun t17 =>
 (ldN 5 (ptr H1.next 0) H8).bind fun t18 =>
 callK (C 8 [t17, t18] H8) pnK fun t19 H11 =>
 let H12 := H11.new (.rw [(.bool false), (.int .u32 0), (.int .i64 0), (.int .u64 0)])
 (st 4 (ptr H11.next 0) t19 H12).bind fun H13 =>
 (fa 2 (ptr H11.next 0)).bind fun t20 =>
 (ld t20 H13).bind fun t21 =>
 (bin 0 .gtr t21 (.int .i64 0)).bind fun t22 =>
 (ifG t22 true ((fa 1 (ptr H11.next 0)).bind fun t24 =>
 some (t24, H13)) (some (undef, H13))).bind fun p14 =>
 (ifG t22 true ((ld p14.1 p14.2).bind fun t25 =>
 some (t25, p14.2)) (some (undef, p14.2))).bind fun p15 =>
 (ifG t22 true ((fa 2 (ptr H11.next 0)).bind fun t26 =>
 some (t26, p15.2)) (some (undef, p15.2))).bind fun p16 =>
 (ifG t22 true ((ld p16.1 p16.2).bind fun t27 =>
 some (t27, p16.2)) (some (undef, p16.2))).bind fun p17 =>
 (ifG t22 true ((cvI .u32 p17.1).bind fun t28 =>
 some (t28, p17.2)) (some (undef, p17.2))).bind fun p18 =>
 (ifG t22 true ((bin 0 .rem p15.1 p18.1).bind fun t29 =>
 some (t29, p18.2)) (some (undef, p18.2))).bind fun p19 =>
 (ifG t22 true ((bin 0 .neq p19.1 (.int .u32 0)).bind fun t30 =>
 some (t30, p19.2)) (some (undef, p19.2))).bind fun p20 =>
 (pick t22 p20.1 (.bool false)).bind fun t31 =>
 ifB t31 ((ldN 25 (ptr H.next 0) p20.2.cl).bind fun t32 =>
 (fa 1 (ptr H11.next 0)).bind fun t33 =>
 ((rdA t33).map fun c => [c]).bind fun r21 =>
 (ld t33 p20.2.cl.cl.cl).bind fun t34 =>
 (rdA (ptr H3.next 0)).bind fun b22 => bif memN b22 (r21 ++ []) then none else (st 25 (ptr H3.next 0) t32 (p20.2.cl.cl.cl.cl.cl.opn p20.2.lim)).bind fun H23 =>
 (ldN 25 (ptr H3.next 0) H23).bind fun r24 =>
 some (.ret (.tuple #[r24, (.int .i64 5), t34]), H23)) ((ldN 25 (ptr H.next 0) p20.2).bind fun t35 =>
 (ldN 5 (ptr H1.next 0) p20.2).bind fun t36 =>
 (fillL (pl [(0, 25), (25, 5), (30, 1), (31, 1), (32, 1)]) [(.int .u32 0), (.int .u32 0), (.int .u32 0), (.int .u32 0), (.int .u32 0), (.int .u32 0), (.int .u32 0), (.int .u32 0), (.int .u32 0), (.int .u32 0), (.int .u32 0), (.int .u32 0), (.int .u32 0), (.int .u32 0), (.int .u32 0), (.int .u32 0), (.int .u64 0), (.int .u64 0), (.int .u64 0), (.int .u64 0), (.int .u64 0), (.int .u64 0), (.int .u64 0), (.int .u64 0), (.int .u32 0), (.int .i64 0), (.int .i64 0), (.int .i64 0), (.int .i64 0), (.int .i64 0), (.int .u64 0), (.int .i64 0), (.int .u32 0)] [(0, t35), (1, t36), (2, x2)]).bind fun c25 =>
 (bx (.agg c25.toArray)).bind fun c27 =>
 let H26 := p20.2.new (.rw c27)
 callK (C 9 [(ptr p20.2.next 0)] H26) pnK fun t41 H28 =>
 (nilc (ptr p20.2.next 0)).bind fun t43 =>
 (fa 31 t43).bind fun t44 =>
 (ld t44 H28).bind fun t45 =>
 (bin 0 .neq t45 (.int .i64 0)).bind fun t46 =>
 ifB t46 ((ldN 25 (ptr H.next 0) H28.cl).bind fun t47 =>
 (nilc (ptr p20.2.next 0)).bind fun t49 =>
 (fa 31 t49).bind fun t50 =>
 ((rdA t50).map fun c => [c]).bind fun r29 =>
 (ld t50 H28.cl.cl.cl.cl.cl).bind fun t51 =>
 (nilc (ptr p20.2.next 0)).bind fun t53 =>
 (fa 32 t53).bind fun t54 =>
 ((rdA t54).map fun c => [c]).bind fun r30 =>
 (ld t54 H28.cl.cl.cl.cl.cl.cl.cl.cl.cl).bind fun t55 =>
 (rdA (ptr H3.next 0)).bind fun b31 => bif memN b31 (r30 ++ (r29 ++ [])) then none else (st 25 (ptr H3.next 0) t47 (H28.cl.cl.cl.cl.cl.cl.cl.cl.cl.cl.cl.opn H28.lim)).bind fun H32 =>
 (ldN 25 (ptr H3.next 0) H32).bind fun r33 =>
 some (.ret (.tuple #[r33, t51, t55]), H32)) ((nilc (ptr p20.2.next 0)).bind fun t57 =>
 (fa 0 t57).bind fun t58 =>
 (ldN 25 t58 H28).bind fun t59 =>
 callK (C 6 [t59] H28) pnK fun t60 H34 =>
 (st 25 (ptr H3.next 0) t60 H34).bind fun H35 =>
 (ldN 25 (ptr H3.next 0) H35).bind fun r36 =>
 some (.ret (.tuple #[r36, (.int .i64 0), (.int .u32 0)]), H35))))
def lv5 : List (Option An) := []
theorem s5_eq (C : Cl) (n : Nat) (x0 : Value) (x1 : Value) (x2 : Value) (H : Hp) : evFn Tryd.prog C n lv5 Tryd.f5 [x0, x1, x2] H = s5 C n x0 x1 x2 H := by kernel_rfl
/-- bulkhead/exec.plain -/
noncomputable def s6 (C : Cl) (n : Nat) (x0 : Value) (H : Hp) : R :=
 (bx x0).bind fun c2 =>
 let H1 := H.new (.rw c2)
 let H3 := H1.new (.rw [(.int .u32 0), (.int .u32 0), (.int .u32 0), (.int .u32 0), (.int .u32 0), (.int .u32 0), (.int .u32 0), (.int .u32 0), (.int .u32 0), (.int .u32 0), (.int .u32 0), (.int .u32 0), (.int .u32 0), (.int .u32 0), (.int .u32 0), (.int .u32 0), (.int .u64 0), (.int .u64 0), (.int .u64 0), (.int .u64 0), (.int .u64 0), (.int .u64 0), (.int .u64 0), (.int .u64 0), (.int .u32 0)])
 (fa 0 (ptr H.next 0)).bind fun t3 =>
 (ia 16 1 t3 (.int .i64 0)).bind fun t4 =>
 (st 1 t4 (.int .u32 0) H3).bind fun H4 =>
 (ldN 25 (ptr H.next 0) H4).bind fun t5 =>
 (st 25 (ptr H1.next 0) t5 H4).bind fun H5 =>
 (ldN 25 (ptr H1.next 0) H5).bind fun r6 =>
 some (.ret r6, H5)
def lv6 : List (Option An) := []
theorem s6_eq (C : Cl) (n : Nat) (x0 : Value) (H : Hp) : evFn Tryd.prog C n lv6 Tryd.f6 [x0] H = s6 C n x0 H := by kernel_rfl
/-- bulkhead/exec.right -/
noncomputable def s7 (C : Cl) (n : Nat) (x0 : Value) (H : Hp) : R :=
 (bx x0).bind fun c2 =>
 let H1 := H.new (.rw c2)
 (ldN 5 (ptr H.next 0) H1).bind fun t6 =>
 callK (C 10 [t6] H1) pnK fun t7 H3 =>
 (ext1 t7 0).bind fun t8 =>
 (ext1 t7 1).bind fun t9 =>
 (bin 0 .eql t9 (.int .i64 0)).bind fun t11 =>
 some (.ret t11, H3)
def lv7 : List (Option An) := []
theorem s7_eq (C : Cl) (n : Nat) (x0 : Value) (H : Hp) : evFn Tryd.prog C n lv7 Tryd.f7 [x0] H = s7 C n x0 H := by kernel_rfl
/-- bulkhead/exec.Need -/
noncomputable def s8 (C : Cl) (n : Nat) (x0 : Value) (x1 : Value) (H : Hp) : R :=
 (bx x0).bind fun c2 =>
 let H1 := H.new (.rw c2)
 (bx x1).bind fun c4 =>
 let H3 := H1.new (.rw c4)
 let H5 := H3.new (.rw [(.bool false), (.int .u32 0), (.int .i64 0), (.int .u64 0)])
 (fa 0 (ptr H1.next 0)).bind fun t7 =>
 (ld t7 H5).bind fun t8 =>
 callK (C 11 [t8] H5) pnK fun t9 H6 =>
 (bin 0 .eql t9 (.int .i64 0)).bind fun t11 =>
 (ifG t11 false ((ldN 5 (ptr H1.next 0) H6).bind fun t13 =>
 some (t13, H6)) (some (undef, H6))).bind fun p7 =>
 (ifG t11 false (callK (C 7 [p7.1] p7.2) pnN fun t14 H8 =>
 some (t14, H8)) (some (undef, p7.2))).bind fun p9 =>
 (ifG t11 false ((un .not p9.1).bind fun t15 =>
 some (t15, p9.2)) (some (undef, p9.2))).bind fun p10 =>
 (pick t11 (.bool true) p10.1).bind fun t16 =>
 ifB t16 ((fillL (pl [(0, 1), (1, 1), (2, 1), (3, 1)]) [(.bool false), (.int .u32 0), (.int .i64 0), (.int .u64 0)] []).bind fun c11 =>
 (st 4 (ptr H3.next 0) (.agg c11.toArray) p10.2).bind fun H12 =>
 (ldN 4 (ptr H3.next 0) H12).bind fun r13 =>
 some (.ret r13, H12)) ((ldN 25 (ptr H.next 0) p10.2).bind fun t18 =>
 callK (C 6 [t18] p10.2) pnK fun t19 H14 =>
 (st 25 (ptr H.next 0) t19 H14).bind fun H15 =>
 (fa 2 (ptr H1.next 0)).bind fun t20 =>
 (ld t20 H15.cl.cl).bind fun t21 =>
 (fa 0 (ptr H.next 0)).bind fun t22 =>
 (ia 16 1 t22 t21).bind fun t23 =>
 (ld t23 H15.cl.cl.cl.cl.cl).bind fun t24 =>
 (fa 4 (ptr H1.next 0)).bind fun t25 =>
 (ld t25 H15.cl.cl.cl.cl.cl.cl.cl).bind fun t26 =>
 (cvI .u32 t26).bind fun t27 =>
 (bin 0 .add t24 t27).bind fun t28 =>
 (fillL (pl [(0, 1), (1, 1), (2, 1), (3, 1)]) [(.bool false), (.int .u32 0), (.int .i64 0), (.int .u64 0)] [(1, t28), (2, t9)]).bind fun c16 =>
 let H17 := H15.cl.cl.cl.cl.cl.cl.cl.cl.cl.cl.cl.cl.new (.rw [(.bool false), (.int .u32 0), (.int .i64 0), (.int .u64 0)])
 (st 4 (ptr H15.cl.cl.cl.cl.cl.cl.cl.cl.cl.cl.cl.cl.next 0) (.agg c16.toArray) (H17.opn H15.lim)).bind fun H18 =>
 jn ((fa 0 (ptr H1.next 0)).bind fun t31 =>
 (ld t31 H18).bind fun t32 =>
 jn ((bin 0 .eql t32 (.int .i64 33)).bind fun t34 =>
 ifB t34 (some (.nrm [(ptr H.next 0), (ptr H1.next 0), (ptr H3.next 0), t9, (ptr H15.cl.cl.cl.cl.cl.cl.cl.cl.cl.cl.cl.cl.next 0), t32, t34] H18)) ((bin 0 .eql t32 (.int .i64 34)).bind fun t35 =>
 ifB t35 (some (.nrm [(ptr H.next 0), (ptr H1.next 0), (ptr H3.next 0), t9, (ptr H15.cl.cl.cl.cl.cl.cl.cl.cl.cl.cl.cl.cl.next 0), t32, t35] H18)) ((bin 0 .eql t32 (.int .i64 35)).bind fun t36 =>
 some (.nrm [(ptr H.next 0), (ptr H1.next 0), (ptr H3.next 0), t9, (ptr H15.cl.cl.cl.cl.cl.cl.cl.cl.cl.cl.cl.cl.next 0), t32, t36] H18)))) pnJ noX noR fun vs21 H22 =>
 ifB (vs21.getD 6 dead) ((fa 1 (vs21.getD 1 dead)).bind fun t37 =>
 (ld t37 H22.cl.cl).bind fun t38 =>
 (fa 0 (vs21.getD 0 dead)).bind fun t39 =>
 (ia 16 1 t39 t38).bind fun t40 =>
 (ld t40 H22.cl.cl.cl.cl.cl).bind fun t41 =>
 (cvI .u64 t41).bind fun t42 =>
 (bin 0 .mul (.int .i64 8) (vs21.getD 3 dead)).bind fun t44 =>
 (bin 0 .shl (.int .u64 1) t44).bind fun t45 =>
 (bin 0 .sub t45 (.int .u64 1)).bind fun t46 =>
 (bin 0 .and t42 t46).bind fun t47 =>
 (fa 3 (vs21.getD 4 dead)).bind fun t48 =>
 (st 1 t48 t47 (H22.cl.cl.cl.cl.cl.cl.cl.cl.cl.cl.opn H22.lim)).bind fun H23 =>
 (fa 0 (vs21.getD 4 dead)).bind fun t49 =>
 (st 1 t49 (.bool true) H23).bind fun H24 =>
 some (.nrm [(vs21.getD 2 dead), (vs21.getD 4 dead)] H24)) ((bin 0 .eql (vs21.getD 5 dead) (.int .i64 37)).bind fun t51 =>
 ifB t51 ((fa 1 (vs21.getD 1 dead)).bind fun t52 =>
 (ld t52 H22).bind fun t53 =>
 (fa 16 (vs21.getD 0 dead)).bind fun t54 =>
 (ia 8 1 t54 t53).bind fun t55 =>
 (ld t55 H22).bind fun t56 =>
 (fa 3 (vs21.getD 4 dead)).bind fun t57 =>
 (st 1 t57 t56 H22).bind fun H25 =>
 (fa 0 (vs21.getD 4 dead)).bind fun t58 =>
 (st 1 t58 (.bool true) H25).bind fun H26 =>
 some (.nrm [(vs21.getD 2 dead), (vs21.getD 4 dead)] H26)) (some (.nrm [(vs21.getD 2 dead), (vs21.getD 4 dead)] H22)))) pnK noX noR fun vs19 H20 =>
 (ldN 4 (vs19.getD 1 dead) H20).bind fun t59 =>
 (st 4 (vs19.getD 0 dead) t59 H20).bind fun H27 =>
 (ldN 4 (vs19.getD 0 dead) H27).bind fun r28 =>
 some (.ret r28, H27))
def lv8 : List (Option An) := [none, none, none, none, none, none, none, some ⟨[4, 6], [], false, false⟩, none, some ⟨[2, 3, 4, 5, 6, 32, 33], [], false, false⟩]
theorem s8_eq (C : Cl) (n : Nat) (x0 : Value) (x1 : Value) (H : Hp) : evFn Tryd.prog C n lv8 Tryd.f8 [x0, x1] H = s8 C n x0 x1 H := by kernel_rfl
/-- (*bulkhead/exec.step).do -/
noncomputable def s9 (C : Cl) (n : Nat) (x0 : Value) (H : Hp) : R :=
 (nilc x0).bind fun t8 =>
 (fa 0 t8).bind fun t9 =>
 (ldN 25 t9 H.cl.cl.cl.cl).bind fun t10 =>
 (nilc x0).bind fun t12 =>
 (fa 25 t12).bind fun t13 =>
 ((rdA t13).map fun c => [c]).bind fun r1 =>
 (ldN 5 t13 H.cl.cl.cl.cl.cl.cl.cl.cl).bind fun t14 =>
 let H2 := H.cl.cl.cl.cl.cl.cl.cl.cl.cl.new (.rw [(.int .u32 0), (.int .u32 0), (.int .u32 0), (.int .u32 0), (.int .u32 0), (.int .u32 0), (.int .u32 0), (.int .u32 0), (.int .u32 0), (.int .u32 0), (.int .u32 0), (.int .u32 0), (.int .u32 0), (.int .u32 0), (.int .u32 0), (.int .u32 0), (.int .u64 0), (.int .u64 0), (.int .u64 0), (.int .u64 0), (.int .u64 0), (.int .u64 0), (.int .u64 0), (.int .u64 0), (.int .u32 0)])
 let H3 := H2.cl.new (.rw [(.int .i64 0), (.int .i64 0), (.int .i64 0), (.int .i64 0), (.int .i64 0)])
 (rdA (ptr H.cl.cl.cl.cl.cl.cl.cl.cl.cl.next 0)).bind fun b4 => bif memN b4 (r1 ++ []) then none else (st 25 (ptr H.cl.cl.cl.cl.cl.cl.cl.cl.cl.next 0) t10 (H3.cl.opn H.lim)).bind fun H5 =>
 (st 5 (ptr H2.cl.next 0) t14 H5).bind fun H6 =>
 (fa 4 (ptr H2.cl.next 0)).bind fun t15 =>
 (ld t15 H6).bind fun t16 =>
 (cvI .u32 t16).bind fun t17 =>
 (fa 0 (ptr H2.cl.next 0)).bind fun t19 =>
 (ld t19 H6).bind fun t20 =>
 callK (C 12 [t20] H6) pnK fun t21 H7 =>
 jn ((bin 0 .eql t21 (.int .i64 1)).bind fun t24 =>
 ifB t24 (ifB t24 ((fa 0 (ptr H2.cl.next 0)).bind fun t42 =>
 (ld t42 H7).bind fun t43 =>
 (bin 0 .eql t43 (.int .i64 1)).bind fun t44 =>
 ifB t44 ((nilc x0).bind fun t46 =>
 (fa 0 t46).bind fun t47 =>
 (fa 24 t47).bind fun t48 =>
 (ld t48 H7).bind fun t49 =>
 (bin 0 .add t49 (.int .u32 4)).bind fun t50 =>
 (nilc x0).bind fun t51 =>
 (fa 0 t51).bind fun t52 =>
 (fa 24 t52).bind fun t53 =>
 (st 1 t53 t50 H7).bind fun H10 =>
 some (.ex 0 (Fr.of [0, 2, 3, 4, 6] [x0, (ptr H.cl.cl.cl.cl.cl.cl.cl.cl.cl.next 0), (ptr H2.cl.next 0), t17, t21]) H10)) (some (.ex 0 (Fr.of [0, 2, 3, 4, 6] [x0, (ptr H.cl.cl.cl.cl.cl.cl.cl.cl.cl.next 0), (ptr H2.cl.next 0), t17, t21]) H7))) ((bin 0 .eql t21 (.int .i64 2)).bind fun t27 =>
 ifB t27 ((fa 3 (ptr H2.cl.next 0)).bind fun t54 =>
 (ld t54 H7).bind fun t55 =>
 (fa 0 (ptr H.cl.cl.cl.cl.cl.cl.cl.cl.cl.next 0)).bind fun t56 =>
 (ia 16 1 t56 t55).bind fun t57 =>
 (ld t57 H7).bind fun t58 =>
 some (.nrm [x0, (ptr H.cl.cl.cl.cl.cl.cl.cl.cl.cl.next 0), (ptr H2.cl.next 0), t58] H7)) ((bin 0 .eql t21 (.int .i64 3)).bind fun t29 =>
 ifB t29 (some (.nrm [x0, (ptr H.cl.cl.cl.cl.cl.cl.cl.cl.cl.next 0), (ptr H2.cl.next 0), t17] H7)) ((bin 0 .eql t21 (.int .i64 4)).bind fun t31 =>
 ifB t31 (some (.ex 4 (Fr.of [0, 2, 3, 4, 6] [x0, (ptr H.cl.cl.cl.cl.cl.cl.cl.cl.cl.next 0), (ptr H2.cl.next 0), t17, t21]) H7)) ((bin 0 .eql t21 (.int .i64 5)).bind fun t33 =>
 ifB t33 (ifB t33 (some (.ex 5 (Fr.of [0, 2, 3, 4, 6] [x0, (ptr H.cl.cl.cl.cl.cl.cl.cl.cl.cl.next 0), (ptr H2.cl.next 0), t17, t21]) H7)) ((bin 0 .eql t21 (.int .i64 7)).bind fun t36 =>
 ifB t36 (some (.ex 6 (Fr.of [0, 2, 3, 4, 6] [x0, (ptr H.cl.cl.cl.cl.cl.cl.cl.cl.cl.next 0), (ptr H2.cl.next 0), t17, t21]) H7)) ((bin 0 .eql t21 (.int .i64 8)).bind fun t38 =>
 ifB t38 (some (.ex 7 (Fr.of [0, 2, 3, 4, 6] [x0, (ptr H.cl.cl.cl.cl.cl.cl.cl.cl.cl.next 0), (ptr H2.cl.next 0), t17, t21]) H7)) ((bin 0 .eql t21 (.int .i64 9)).bind fun t40 =>
 ifB t40 (ifB t40 (some (.ex 8 (Fr.of [0, 2, 3, 4, 6] [x0, (ptr H.cl.cl.cl.cl.cl.cl.cl.cl.cl.next 0), (ptr H2.cl.next 0), t17, t21]) H7)) (some (.ex 9 (Fr.of [0, 2, 3, 4, 6] [x0, (ptr H.cl.cl.cl.cl.cl.cl.cl.cl.cl.next 0), (ptr H2.cl.next 0), t17, t21]) H7))) ((bin 0 .eql t21 (.int .i64 10)).bind fun t41 =>
 ifB t41 (some (.ex 8 (Fr.of [0, 2, 3, 4, 6] [x0, (ptr H.cl.cl.cl.cl.cl.cl.cl.cl.cl.next 0), (ptr H2.cl.next 0), t17, t21]) H7)) (some (.ex 9 (Fr.of [0, 2, 3, 4, 6] [x0, (ptr H.cl.cl.cl.cl.cl.cl.cl.cl.cl.next 0), (ptr H2.cl.next 0), t17, t21]) H7))))))) ((bin 0 .eql t21 (.int .i64 6)).bind fun t34 =>
 ifB t34 (some (.ex 5 (Fr.of [0, 2, 3, 4, 6] [x0, (ptr H.cl.cl.cl.cl.cl.cl.cl.cl.cl.next 0), (ptr H2.cl.next 0), t17, t21]) H7)) ((bin 0 .eql t21 (.int .i64 7)).bind fun t36 =>
 ifB t36 (some (.ex 6 (Fr.of [0, 2, 3, 4, 6] [x0, (ptr H.cl.cl.cl.cl.cl.cl.cl.cl.cl.next 0), (ptr H2.cl.next 0), t17, t21]) H7)) ((bin 0 .eql t21 (.int .i64 8)).bind fun t38 =>
 ifB t38 (some (.ex 7 (Fr.of [0, 2, 3, 4, 6] [x0, (ptr H.cl.cl.cl.cl.cl.cl.cl.cl.cl.next 0), (ptr H2.cl.next 0), t17, t21]) H7)) ((bin 0 .eql t21 (.int .i64 9)).bind fun t40 =>
 ifB t40 (ifB t40 (some (.ex 8 (Fr.of [0, 2, 3, 4, 6] [x0, (ptr H.cl.cl.cl.cl.cl.cl.cl.cl.cl.next 0), (ptr H2.cl.next 0), t17, t21]) H7)) (some (.ex 9 (Fr.of [0, 2, 3, 4, 6] [x0, (ptr H.cl.cl.cl.cl.cl.cl.cl.cl.cl.next 0), (ptr H2.cl.next 0), t17, t21]) H7))) ((bin 0 .eql t21 (.int .i64 10)).bind fun t41 =>
 ifB t41 (some (.ex 8 (Fr.of [0, 2, 3, 4, 6] [x0, (ptr H.cl.cl.cl.cl.cl.cl.cl.cl.cl.next 0), (ptr H2.cl.next 0), t17, t21]) H7)) (some (.ex 9 (Fr.of [0, 2, 3, 4, 6] [x0, (ptr H.cl.cl.cl.cl.cl.cl.cl.cl.cl.next 0), (ptr H2.cl.next 0), t17, t21]) H7)))))))))))) ((bin 0 .eql t21 (.int .i64 15)).bind fun t25 =>
 ifB t25 ((fa 0 (ptr H2.cl.next 0)).bind fun t42 =>
 (ld t42 H7).bind fun t43 =>
 (bin 0 .eql t43 (.int .i64 1)).bind fun t44 =>
 ifB t44 ((nilc x0).bind fun t46 =>
 (fa 0 t46).bind fun t47 =>
 (fa 24 t47).bind fun t48 =>
 (ld t48 H7).bind fun t49 =>
 (bin 0 .add t49 (.int .u32 4)).bind fun t50 =>
 (nilc x0).bind fun t51 =>
 (fa 0 t51).bind fun t52 =>
 (fa 24 t52).bind fun t53 =>
 (st 1 t53 t50 H7).bind fun H11 =>
 some (.ex 0 (Fr.of [0, 2, 3, 4, 6] [x0, (ptr H.cl.cl.cl.cl.cl.cl.cl.cl.cl.next 0), (ptr H2.cl.next 0), t17, t21]) H11)) (some (.ex 0 (Fr.of [0, 2, 3, 4, 6] [x0, (ptr H.cl.cl.cl.cl.cl.cl.cl.cl.cl.next 0), (ptr H2.cl.next 0), t17, t21]) H7))) ((bin 0 .eql t21 (.int .i64 2)).bind fun t27 =>
 ifB t27 ((fa 3 (ptr H2.cl.next 0)).bind fun t54 =>
 (ld t54 H7).bind fun t55 =>
 (fa 0 (ptr H.cl.cl.cl.cl.cl.cl.cl.cl.cl.next 0)).bind fun t56 =>
 (ia 16 1 t56 t55).bind fun t57 =>
 (ld t57 H7).bind fun t58 =>
 some (.nrm [x0, (ptr H.cl.cl.cl.cl.cl.cl.cl.cl.cl.next 0), (ptr H2.cl.next 0), t58] H7)) ((bin 0 .eql t21 (.int .i64 3)).bind fun t29 =>
 ifB t29 (some (.nrm [x0, (ptr H.cl.cl.cl.cl.cl.cl.cl.cl.cl.next 0), (ptr H2.cl.next 0), t17] H7)) ((bin 0 .eql t21 (.int .i64 4)).bind fun t31 =>
 ifB t31 (some (.ex 4 (Fr.of [0, 2, 3, 4, 6] [x0, (ptr H.cl.cl.cl.cl.cl.cl.cl.cl.cl.next 0), (ptr H2.cl.next 0), t17, t21]) H7)) ((bin 0 .eql t21 (.int .i64 5)).bind fun t33 =>
 ifB t33 (ifB t33 (some (.ex 5 (Fr.of [0, 2, 3, 4, 6] [x0, (ptr H.cl.cl.cl.cl.cl.cl.cl.cl.cl.next 0), (ptr H2.cl.next 0), t17, t21]) H7)) ((bin 0 .eql t21 (.int .i64 7)).bind fun t36 =>
 ifB t36 (some (.ex 6 (Fr.of [0, 2, 3, 4, 6] [x0, (ptr H.cl.cl.cl.cl.cl.cl.cl.cl.cl.next 0), (ptr H2.cl.next 0), t17, t21]) H7)) ((bin 0 .eql t21 (.int .i64 8)).bind fun t38 =>
 ifB t38 (some (.ex 7 (Fr.of [0, 2, 3, 4, 6] [x0, (ptr H.cl.cl.cl.cl.cl.cl.cl.cl.cl.next 0), (ptr H2.cl.next 0), t17, t21]) H7)) ((bin 0 .eql t21 (.int .i64 9)).bind fun t40 =>
 ifB t40 (ifB t40 (some (.ex 8 (Fr.of [0, 2, 3, 4, 6] [x0, (ptr H.cl.cl.cl.cl.cl.cl.cl.cl.cl.next 0), (ptr H2.cl.next 0), t17, t21]) H7)) (some (.ex 9 (Fr.of [0, 2, 3, 4, 6] [x0, (ptr H.cl.cl.cl.cl.cl.cl.cl.cl.cl.next 0), (ptr H2.cl.next 0), t17, t21]) H7))) ((bin 0 .eql t21 (.int .i64 10)).bind fun t41 =>
 ifB t41 (some (.ex 8 (Fr.of [0, 2, 3, 4, 6] [x0, (ptr H.cl.cl.cl.cl.cl.cl.cl.cl.cl.next 0), (ptr H2.cl.next 0), t17, t21]) H7)) (some (.ex 9 (Fr.of [0, 2, 3, 4, 6] [x0, (ptr H.cl.cl.cl.cl.cl.cl.cl.cl.cl.next 0), (ptr H2.cl.next 0), t17, t21]) H7))))))) ((bin 0 .eql t21 (.int .i64 6)).bind fun t34 =>
 ifB t34 (some (.ex 5 (Fr.of [0, 2, 3, 4, 6] [x0, (ptr H.cl.cl.cl.cl.cl.cl.cl.cl.cl.next 0), (ptr H2.cl.next 0), t17, t21]) H7)) ((bin 0 .eql t21 (.int .i64 7)).bind fun t36 =>
 ifB t36 (some (.ex 6 (Fr.of [0, 2, 3, 4, 6] [x0, (ptr H.cl.cl.cl.cl.cl.cl.cl.cl.cl.next 0), (ptr H2.cl.next 0), t17, t21]) H7)) ((bin 0 .eql t21 (.int .i64 8)).bind fun t38 =>
 ifB t38 (some (.ex 7 (Fr.of [0, 2, 3, 4, 6] [x0, (ptr H.cl.cl.cl.cl.cl.cl.cl.cl.cl.next 0), (ptr H2.cl.next 0), t17, t21]) H7)) ((bin 0 .eql t21 (.int .i64 9)).bind fun t40 =>
 ifB t40 (ifB t40 (some (.ex 8 (Fr.of [0, 2, 3, 4, 6] [x0, (ptr H.cl.cl.cl.cl.cl.cl.cl.cl.cl.next 0), (ptr H2.cl.next 0), t17, t21]) H7)) (some (.ex 9 (Fr.of [0, 2, 3, 4, 6] [x0, (ptr H.cl.cl.cl.cl.cl.cl.cl.cl.cl.next 0), (ptr H2.cl.next 0), t17, t21]) H7))) ((bin 0 .eql t21 (.int .i64 10)).bind fun t41 =>
 ifB t41 (some (.ex 8 (Fr.of [0, 2, 3, 4, 6] [x0, (ptr H.cl.cl.cl.cl.cl.cl.cl.cl.cl.next 0), (ptr H2.cl.next 0), t17, t21]) H7)) (some (.ex 9 (Fr.of [0, 2, 3, 4, 6] [x0, (ptr H.cl.cl.cl.cl.cl.cl.cl.cl.cl.next 0), (ptr H2.cl.next 0), t17, t21]) H7))))))))))))) pnK (fun j13 f14 H15 => if j13 = 4 then callK (C 13 [(f14.g 0), (.int .u32 0), (f14.g 4)] H15) pnK fun t69 H16 =>
 some (.ret (.tuple #[]), H16) else if j13 = 5 then callK (C 14 [(f14.g 0), (f14.g 4)] H15) pnK fun t72 H17 =>
 some (.ret (.tuple #[]), H17) else if j13 = 6 then callK (C 15 [(f14.g 0), (f14.g 4)] H15) pnK fun t75 H18 =>
 some (.ret (.tuple #[]), H18) else if j13 = 7 then (fa 1 (f14.g 3)).bind fun t77 =>
 (ld t77 H15.cl.cl.cl).bind fun t78 =>
 (fa 24 (f14.g 2)).bind fun t79 =>
 (ld t79 H15.cl.cl.cl.cl.cl).bind fun t80 =>
 (bin 0 .add t80 (.int .u32 4)).bind fun t81 =>
 (nilc (f14.g 0)).bind fun t82 =>
 (fa 0 t82).bind fun t83 =>
 (fa 0 t83).bind fun t84 =>
 (ia 16 1 t84 t78).bind fun t85 =>
 (st 1 t85 t81 (H15.cl.cl.cl.cl.cl.cl.cl.cl.cl.opn H15.lim)).bind fun H19 =>
 (fa 24 (f14.g 2)).bind fun t87 =>
 (ld t87 H19).bind fun t88 =>
 (bin 0 .mul (.int .u32 4) (f14.g 4)).bind fun t90 =>
 (bin 0 .add t88 t90).bind fun t91 =>
 callK (C 16 [(f14.g 0), t91] H19) pnK fun t92 H20 =>
 some (.ret (.tuple #[]), H20) else if j13 = 8 then callK (C 17 [(f14.g 0), (f14.g 6)] H15) pnK fun t95 H21 =>
 some (.ret (.tuple #[]), H21) else if j13 = 9 then callK (C 18 [(f14.g 0)] H15) pnK fun t97 H22 =>
 some (.ret (.tuple #[]), H22) else if j13 = 0 then some (.ret (.tuple #[]), H15) else none) noR fun vs8 H9 =>
 (fa 2 (vs8.getD 2 dead)).bind fun t60 =>
 (ld t60 H9).bind fun t61 =>
 (fa 0 (vs8.getD 1 dead)).bind fun t62 =>
 (ia 16 1 t62 t61).bind fun t63 =>
 (ld t63 H9).bind fun t64 =>
 callK (C 13 [(vs8.getD 0 dead), t64, (vs8.getD 3 dead)] H9) pnK fun t66 H12 =>
 some (.ret (.tuple #[]), H12)
def lv9 : List (Option An) := [none, none, none, none, none, none, none, none, none, none, none, some ⟨[0, 2, 3, 5], [0, 2, 3, 4, 6], true, false⟩]
theorem s9_eq (C : Cl) (n : Nat) (x0 : Value) (H : Hp) : evFn Tryd.prog C n lv9 Tryd.f9 [x0] H = s9 C n x0 H := by kernel_rfl
/-- bulkhead/code.Encode -/
noncomputable def s10 (C : Cl) (n : Nat) (x0 : Value) (H : Hp) : R :=
 (bx x0).bind fun c2 =>
 let H1 := H.new (.rw c2)
 (ldN 5 (ptr H.next 0) H1).bind fun t6 =>
 callK (C 19 [t6] H1) pnK fun t7 H3 =>
 (bin 0 .neq t7 (.int .i64 0)).bind fun t9 =>
 ifB t9 (some (.ret (.tuple #[(.int .u32 0), t7]), H3)) ((fa 0 (ptr H.next 0)).bind fun t11 =>
 (ld t11 H3).bind fun t12 =>
 (cvI .u32 t12).bind fun t13 =>
 (bin 0 .shl t13 (.int .u64 24)).bind fun t14 =>
 (fa 1 (ptr H.next 0)).bind fun t15 =>
 (ld t15 H3).bind fun t16 =>
 (cvI .u32 t16).bind fun t17 =>
 (bin 0 .shl t17 (.int .u64 20)).bind fun t18 =>
 (bin 0 .or t14 t18).bind fun t19 =>
 (fa 2 (ptr H.next 0)).bind fun t20 =>
 (ld t20 H3).bind fun t21 =>
 (cvI .u32 t21).bind fun t22 =>
 (bin 0 .shl t22 (.int .u64 16)).bind fun t23 =>
 (bin 0 .or t19 t23).bind fun t24 =>
 (fa 0 (ptr H.next 0)).bind fun t25 =>
 (ld t25 H3).bind fun t26 =>
 callK (C 20 [t26] H3) pnK fun t27 H4 =>
 ifB t27 ((fa 4 (ptr H.next 0)).bind fun t29 =>
 (ld t29 H4).bind fun t30 =>
 (cvI .u32 t30).bind fun t31 =>
 (bin 0 .and t31 (.int .u32 65535)).bind fun t32 =>
 (bin 0 .or t24 t32).bind fun t33 =>
 some (.ret (.tuple #[t33, (.int .i64 0)]), H4)) ((fa 3 (ptr H.next 0)).bind fun t35 =>
 (ld t35 H4).bind fun t36 =>
 (cvI .u32 t36).bind fun t37 =>
 (bin 0 .shl t37 (.int .u64 12)).bind fun t38 =>
 (bin 0 .or t24 t38).bind fun t39 =>
 some (.ret (.tuple #[t39, (.int .i64 0)]), H4)))
def lv10 : List (Option An) := []
theorem s10_eq (C : Cl) (n : Nat) (x0 : Value) (H : Hp) : evFn Tryd.prog C n lv10 Tryd.f10 [x0] H = s10 C n x0 H := by kernel_rfl
/-- bulkhead/exec.size -/
noncomputable def s11 (C : Cl) (n : Nat) (x0 : Value) (H : Hp) : R :=
 jn ((bin 0 .eql x0 (.int .i64 28)).bind fun t5 =>
 ifB t5 (some (.nrm [x0, t5] H)) ((bin 0 .eql x0 (.int .i64 33)).bind fun t6 =>
 some (.nrm [x0, t6] H))) pnK noX noR fun vs1 H2 =>
 ifB (vs1.getD 1 dead) (some (.ret (.int .i64 4), H2)) (jn ((bin 0 .eql (vs1.getD 0 dead) (.int .i64 29)).bind fun t8 =>
 ifB t8 (some (.nrm [(vs1.getD 0 dead), t8] H2)) ((bin 0 .eql (vs1.getD 0 dead) (.int .i64 30)).bind fun t9 =>
 ifB t9 (some (.nrm [(vs1.getD 0 dead), t9] H2)) ((bin 0 .eql (vs1.getD 0 dead) (.int .i64 34)).bind fun t10 =>
 some (.nrm [(vs1.getD 0 dead), t10] H2)))) pnK noX noR fun vs3 H4 =>
 ifB (vs3.getD 1 dead) (some (.ret (.int .i64 2), H4)) (jn ((bin 0 .eql (vs3.getD 0 dead) (.int .i64 31)).bind fun t12 =>
 ifB t12 (some (.nrm [(vs3.getD 0 dead), t12] H4)) ((bin 0 .eql (vs3.getD 0 dead) (.int .i64 32)).bind fun t13 =>
 ifB t13 (some (.nrm [(vs3.getD 0 dead), t13] H4)) ((bin 0 .eql (vs3.getD 0 dead) (.int .i64 35)).bind fun t14 =>
 some (.nrm [(vs3.getD 0 dead), t14] H4)))) pnK noX noR fun vs5 H6 =>
 ifB (vs5.getD 1 dead) (some (.ret (.int .i64 1), H6)) (jn ((bin 0 .eql (vs5.getD 0 dead) (.int .i64 36)).bind fun t16 =>
 ifB t16 (some (.nrm [t16] H6)) ((bin 0 .eql (vs5.getD 0 dead) (.int .i64 37)).bind fun t17 =>
 some (.nrm [t17] H6))) pnK noX noR fun vs7 H8 =>
 ifB (vs7.getD 0 dead) (some (.ret (.int .i64 8), H8)) (some (.ret (.int .i64 0), H8)))))
def lv11 : List (Option An) := [none, none, none, some ⟨[3, 4], [], false, false⟩, none, none, some ⟨[3, 7], [], false, false⟩, none, none, none, some ⟨[3, 11], [], false, false⟩, none, none, none, some ⟨[15], [], false, false⟩]
theorem s11_eq (C : Cl) (n : Nat) (x0 : Value) (H : Hp) : evFn Tryd.prog C n lv11 Tryd.f11 [x0] H = s11 C n x0 H := by kernel_rfl
/-- bulkhead/code.Class -/
noncomputable def s12 (C : Cl) (n : Nat) (x0 : Value) (H : Hp) : R :=
 callK (C 21 [x0] H) pnK fun t4 H1 =>
 (fld false 1 1 t4).bind fun t5 =>
 some (.ret t5, H1)
def lv12 : List (Option An) := []
theorem s12_eq (C : Cl) (n : Nat) (x0 : Value) (H : Hp) : evFn Tryd.prog C n lv12 Tryd.f12 [x0] H = s12 C n x0 H := by kernel_rfl
/-- (*bulkhead/exec.step).alu -/
noncomputable def s13 (C : Cl) (n : Nat) (x0 : Value) (x1 : Value) (x2 : Value) (H : Hp) : R :=
 (nilc x0).bind fun t10 =>
 (fa 25 t10).bind fun t11 =>
 (fa 0 t11).bind fun t12 =>
 (ld t12 H).bind fun t13 =>
 callK (C 22 [t13, x1, x2] H) pnK fun t16 H1 =>
 (ext1 t16 0).bind fun t17 =>
 (ext1 t16 1).bind fun t18 =>
 (bin 0 .eql t18 (.int .i64 10)).bind fun t20 =>
 ifB t20 (callK (C 23 [x0, (.int .i64 6), (.int .u32 0)] H1) pnK fun t22 H2 =>
 some (.ret (.tuple #[]), H2)) (callK (C 24 [x0, t17] H1) pnK fun t25 H3 =>
 some (.ret (.tuple #[]), H3))
def lv13 : List (Option An) := []
theorem s13_eq (C : Cl) (n : Nat) (x0 : Value) (x1 : Value) (x2 : Value) (H : Hp) : evFn Tryd.prog C n lv13 Tryd.f13 [x0, x1, x2] H = s13 C n x0 x1 x2 H := by kernel_rfl
/-- (*bulkhead/exec.step).memory -/
noncomputable def s14 (C : Cl) (n : Nat) (x0 : Value) (x1 : Value) (H : Hp) : R :=
 (nilc x0).bind fun t8 =>
 (fa 0 t8).bind fun t9 =>
 (ldN 25 t9 H.cl.cl.cl.cl).bind fun t10 =>
 (nilc x0).bind fun t12 =>
 (fa 25 t12).bind fun t13 =>
 ((rdA t13).map fun c => [c]).bind fun r1 =>
 (ldN 5 t13 H.cl.cl.cl.cl.cl.cl.cl.cl).bind fun t14 =>
 let H2 := H.cl.cl.cl.cl.cl.cl.cl.cl.cl.new (.rw [(.int .u32 0), (.int .u32 0), (.int .u32 0), (.int .u32 0), (.int .u32 0), (.int .u32 0), (.int .u32 0), (.int .u32 0), (.int .u32 0), (.int .u32 0), (.int .u32 0), (.int .u32 0), (.int .u32 0), (.int .u32 0), (.int .u32 0), (.int .u32 0), (.int .u64 0), (.int .u64 0), (.int .u64 0), (.int .u64 0), (.int .u64 0), (.int .u64 0), (.int .u64 0), (.int .u64 0), (.int .u32 0)])
 let H3 := H2.cl.new (.rw [(.int .i64 0), (.int .i64 0), (.int .i64 0), (.int .i64 0), (.int .i64 0)])
 (rdA (ptr H.cl.cl.cl.cl.cl.cl.cl.cl.cl.next 0)).bind fun b4 => bif memN b4 (r1 ++ []) then none else (st 25 (ptr H.cl.cl.cl.cl.cl.cl.cl.cl.cl.next 0) t10 (H3.cl.opn H.lim)).bind fun H5 =>
 (st 5 (ptr H2.cl.next 0) t14 H5).bind fun H6 =>
 (fa 0 (ptr H2.cl.next 0)).bind fun t15 =>
 (ld t15 H6).bind fun t16 =>
 callK (C 11 [t16] H6) pnK fun t17 H7 =>
 (bin 0 .mul (.int .i64 8) t17).bind fun t18 =>
 (fa 0 (ptr H2.cl.next 0)).bind fun t19 =>
 (ld t19 H7).bind fun t20 =>
 (bin 0 .eql t20 (.int .i64 45)).bind fun t31 =>
 ifB t31 ((fa 1 (ptr H2.cl.next 0)).bind fun t33 =>
 (ld t33 H7.cl.cl.cl).bind fun t34 =>
 (fa 24 (ptr H.cl.cl.cl.cl.cl.cl.cl.cl.cl.next 0)).bind fun t35 =>
 (ld t35 H7.cl.cl.cl.cl.cl).bind fun t36 =>
 (bin 0 .add t36 (.int .u32 4)).bind fun t37 =>
 (nilc x0).bind fun t38 =>
 (fa 0 t38).bind fun t39 =>
 (fa 0 t39).bind fun t40 =>
 (ia 16 1 t40 t34).bind fun t41 =>
 (st 1 t41 t37 (H7.cl.cl.cl.cl.cl.cl.cl.cl.cl.opn H7.lim)).bind fun H8 =>
 (fa 2 (ptr H2.cl.next 0)).bind fun t43 =>
 (ld t43 H8).bind fun t44 =>
 (fa 0 (ptr H.cl.cl.cl.cl.cl.cl.cl.cl.cl.next 0)).bind fun t45 =>
 (ia 16 1 t45 t44).bind fun t46 =>
 (ld t46 H8).bind fun t47 =>
 (bin 0 .add t47 x1).bind fun t49 =>
 callK (C 16 [x0, t49] H8) pnK fun t50 H9 =>
 some (.ret (.tuple #[]), H9)) (jn ((bin 0 .eql t20 (.int .i64 28)).bind fun t52 =>
 ifB t52 (some (.nrm [x0, (ptr H2.cl.next 0), t18, t20, t52] H7)) ((bin 0 .eql t20 (.int .i64 29)).bind fun t53 =>
 ifB t53 (some (.nrm [x0, (ptr H2.cl.next 0), t18, t20, t53] H7)) ((bin 0 .eql t20 (.int .i64 31)).bind fun t54 =>
 ifB t54 (some (.nrm [x0, (ptr H2.cl.next 0), t18, t20, t54] H7)) ((bin 0 .eql t20 (.int .i64 30)).bind fun t55 =>
 ifB t55 (some (.nrm [x0, (ptr H2.cl.next 0), t18, t20, t55] H7)) ((bin 0 .eql t20 (.int .i64 32)).bind fun t56 =>
 some (.nrm [x0, (ptr H2.cl.next 0), t18, t20, t56] H7)))))) pnK noX noR fun vs10 H11 =>
 ifB (vs10.getD 4 dead) ((nilc (vs10.getD 0 dead)).bind fun t59 =>
 (fa 30 t59).bind fun t60 =>
 (ld t60 H11.cl.cl.cl.cl.cl).bind fun t61 =>
 (cvI .u32 t61).bind fun t62 =>
 (fa 0 (vs10.getD 1 dead)).bind fun t64 =>
 (ld t64 H11.cl.cl.cl.cl.cl.cl.cl.cl.cl).bind fun t65 =>
 (bin 0 .eql t65 (.int .i64 29)).bind fun t66 =>
 (ifG t66 false ((fa 0 (vs10.getD 1 dead)).bind fun t68 =>
 some (t68, H11.cl.cl.cl.cl.cl.cl.cl.cl.cl.cl.cl.cl)) (some (undef, H11.cl.cl.cl.cl.cl.cl.cl.cl.cl.cl.cl.cl))).bind fun p12 =>
 (ifG t66 false ((ld p12.1 p12.2.cl).bind fun t69 =>
 some (t69, p12.2.cl)) (some (undef, p12.2.cl))).bind fun p13 =>
 (ifG t66 false ((bin 0 .eql p13.1 (.int .i64 31)).bind fun t70 =>
 some (t70, p13.2.cl)) (some (undef, p13.2.cl))).bind fun p14 =>
 (pick t66 (.bool true) p14.1).bind fun t71 =>
 callK (C 25 [t62, (vs10.getD 2 dead), t71] p14.2.cl.cl) pnN fun t72 H15 =>
 callK (C 24 [(vs10.getD 0 dead), t72] (H15.opn H11.lim)) pnK fun t73 H16 =>
 some (.ret (.tuple #[]), H16)) ((bin 0 .eql (vs10.getD 3 dead) (.int .i64 36)).bind fun t75 =>
 ifB t75 ((nilc (vs10.getD 0 dead)).bind fun t78 =>
 (fa 30 t78).bind fun t79 =>
 (ld t79 H11).bind fun t80 =>
 callK (C 26 [(vs10.getD 0 dead), t80] H11) pnK fun t81 H17 =>
 some (.ret (.tuple #[]), H17)) ((nilc (vs10.getD 0 dead)).bind fun t22 =>
 (fa 0 t22).bind fun t23 =>
 (fa 24 t23).bind fun t24 =>
 (ld t24 H11).bind fun t25 =>
 (bin 0 .add t25 (.int .u32 4)).bind fun t26 =>
 (nilc (vs10.getD 0 dead)).bind fun t27 =>
 (fa 0 t27).bind fun t28 =>
 (fa 24 t28).bind fun t29 =>
 (st 1 t29 t26 H11).bind fun H18 =>
 some (.ret (.tuple #[]), H18))))
def lv14 : List (Option An) := [none, none, none, none, none, some ⟨[0, 5, 6, 20, 51], [], false, false⟩]
theorem s14_eq (C : Cl) (n : Nat) (x0 : Value) (x1 : Value) (H : Hp) : evFn Tryd.prog C n lv14 Tryd.f14 [x0, x1] H = s14 C n x0 x1 H := by kernel_rfl
/-- (*bulkhead/exec.step).branch -/
noncomputable def s15 (C : Cl) (n : Nat) (x0 : Value) (x1 : Value) (H : Hp) : R :=
 (nilc x0).bind fun t9 =>
 (fa 0 t9).bind fun t10 =>
 (ldN 25 t10 H.cl.cl.cl.cl).bind fun t11 =>
 (nilc x0).bind fun t13 =>
 (fa 25 t13).bind fun t14 =>
 ((rdA t14).map fun c => [c]).bind fun r1 =>
 (ldN 5 t14 H.cl.cl.cl.cl.cl.cl.cl.cl).bind fun t15 =>
 let H2 := H.cl.cl.cl.cl.cl.cl.cl.cl.cl.new (.rw [(.int .u32 0), (.int .u32 0), (.int .u32 0), (.int .u32 0), (.int .u32 0), (.int .u32 0), (.int .u32 0), (.int .u32 0), (.int .u32 0), (.int .u32 0), (.int .u32 0), (.int .u32 0), (.int .u32 0), (.int .u32 0), (.int .u32 0), (.int .u32 0), (.int .u64 0), (.int .u64 0), (.int .u64 0), (.int .u64 0), (.int .u64 0), (.int .u64 0), (.int .u64 0), (.int .u64 0), (.int .u32 0)])
 let H3 := H2.cl.new (.rw [(.int .i64 0), (.int .i64 0), (.int .i64 0), (.int .i64 0), (.int .i64 0)])
 (rdA (ptr H.cl.cl.cl.cl.cl.cl.cl.cl.cl.next 0)).bind fun b4 => bif memN b4 (r1 ++ []) then none else (st 25 (ptr H.cl.cl.cl.cl.cl.cl.cl.cl.cl.next 0) t11 (H3.cl.opn H.lim)).bind fun H5 =>
 (st 5 (ptr H2.cl.next 0) t15 H5).bind fun H6 =>
 (fa 0 (ptr H2.cl.next 0)).bind fun t17 =>
 (ld t17 H6.cl.cl).bind fun t18 =>
 (fa 1 (ptr H2.cl.next 0)).bind fun t19 =>
 (ld t19 H6.cl.cl.cl.cl).bind fun t20 =>
 (fa 0 (ptr H.cl.cl.cl.cl.cl.cl.cl.cl.cl.next 0)).bind fun t21 =>
 (ia 16 1 t21 t20).bind fun t22 =>
 (ld t22 H6.cl.cl.cl.cl.cl.cl.cl).bind fun t23 =>
 (fa 2 (ptr H2.cl.next 0)).bind fun t24 =>
 (ld t24 H6.cl.cl.cl.cl.cl.cl.cl.cl.cl).bind fun t25 =>
 (fa 0 (ptr H.cl.cl.cl.cl.cl.cl.cl.cl.cl.next 0)).bind fun t26 =>
 (ia 16 1 t26 t25).bind fun t27 =>
 (ld t27 H6.cl.cl.cl.cl.cl.cl.cl.cl.cl.cl.cl.cl).bind fun t28 =>
 callK (C 27 [t18, t23, t28] H6.cl.cl.cl.cl.cl.cl.cl.cl.cl.cl.cl.cl.cl) pnN fun t29 H7 =>
 (ext1 t29 0).bind fun t30 =>
 (ext1 t29 1).bind fun t31 =>
 ifB t30 ((fa 24 (ptr H.cl.cl.cl.cl.cl.cl.cl.cl.cl.next 0)).bind fun t34 =>
 (ld t34 (H7.cl.cl.cl.cl.opn H6.lim)).bind fun t35 =>
 (bin 0 .mul (.int .u32 4) x1).bind fun t37 =>
 (bin 0 .add t35 t37).bind fun t38 =>
 callK (C 16 [x0, t38] (H7.cl.cl.cl.cl.opn H6.lim)) pnK fun t39 H8 =>
 some (.ret (.tuple #[]), H8)) ((nilc x0).bind fun t41 =>
 (fa 0 t41).bind fun t42 =>
 (fa 24 t42).bind fun t43 =>
 (ld t43 (H7.cl.cl.cl.cl.opn H6.lim)).bind fun t44 =>
 (bin 0 .add t44 (.int .u32 4)).bind fun t45 =>
 (nilc x0).bind fun t46 =>
 (fa 0 t46).bind fun t47 =>
 (fa 24 t47).bind fun t48 =>
 (st 1 t48 t45 (H7.cl.cl.cl.cl.opn H6.lim)).bind fun H9 =>
 some (.ret (.tuple #[]), H9))
def lv15 : List (Option An) := []
theorem s15_eq (C : Cl) (n : Nat) (x0 : Value) (x1 : Value) (H : Hp) : evFn Tryd.prog C n lv15 Tryd.f15 [x0, x1] H = s15 C n x0 x1 H := by kernel_rfl
/-- (*bulkhead/exec.step).to -/
noncomputable def s16 (C : Cl) (n : Nat) (x0 : Value) (x1 : Value) (H : Hp) : R :=
 (bin 0 .rem x1 (.int .u32 4)).bind fun t5 =>
 (bin 0 .neq t5 (.int .u32 0)).bind fun t6 =>
 ifB t6 (callK (C 23 [x0, (.int .i64 5), x1] H) pnK fun t9 H1 =>
 some (.ret (.tuple #[]), H1)) ((nilc x0).bind fun t12 =>
 (fa 0 t12).bind fun t13 =>
 (fa 24 t13).bind fun t14 =>
 (st 1 t14 x1 H).bind fun H2 =>
 some (.ret (.tuple #[]), H2))
def lv16 : List (Option An) := []
theorem s16_eq (C : Cl) (n : Nat) (x0 : Value) (x1 : Value) (H : Hp) : evFn Tryd.prog C n lv16 Tryd.f16 [x0, x1] H = s16 C n x0 x1 H := by kernel_rfl
/-- (*bulkhead/exec.step).float -/
noncomputable def s17 (C : Cl) (n : Nat) (x0 : Value) (x1 : Value) (H : Hp) : R :=
 (nilc x0).bind fun t10 =>
 (fa 0 t10).bind fun t11 =>
 (ldN 25 t11 H.cl.cl.cl.cl).bind fun t12 =>
 (nilc x0).bind fun t14 =>
 (fa 25 t14).bind fun t15 =>
 ((rdA t15).map fun c => [c]).bind fun r1 =>
 (ldN 5 t15 H.cl.cl.cl.cl.cl.cl.cl.cl).bind fun t16 =>
 let H2 := H.cl.cl.cl.cl.cl.cl.cl.cl.cl.new (.rw [(.int .u32 0), (.int .u32 0), (.int .u32 0), (.int .u32 0), (.int .u32 0), (.int .u32 0), (.int .u32 0), (.int .u32 0), (.int .u32 0), (.int .u32 0), (.int .u32 0), (.int .u32 0), (.int .u32 0), (.int .u32 0), (.int .u32 0), (.int .u32 0), (.int .u64 0), (.int .u64 0), (.int .u64 0), (.int .u64 0), (.int .u64 0), (.int .u64 0), (.int .u64 0), (.int .u64 0), (.int .u32 0)])
 let H3 := H2.cl.new (.rw [(.int .i64 0), (.int .i64 0), (.int .i64 0), (.int .i64 0), (.int .i64 0)])
 (rdA (ptr H.cl.cl.cl.cl.cl.cl.cl.cl.cl.next 0)).bind fun b4 => bif memN b4 (r1 ++ []) then none else (st 25 (ptr H.cl.cl.cl.cl.cl.cl.cl.cl.cl.next 0) t12 (H3.cl.opn H.lim)).bind fun H5 =>
 (st 5 (ptr H2.cl.next 0) t16 H5).bind fun H6 =>
 jn ((bin 0 .eql x1 (.int .i64 9)).bind fun t18 =>
 ifB t18 ((fa 3 (ptr H2.cl.next 0)).bind fun t19 =>
 (ld t19 H6).bind fun t20 =>
 (fa 16 (ptr H.cl.cl.cl.cl.cl.cl.cl.cl.cl.next 0)).bind fun t21 =>
 (ia 8 1 t21 t20).bind fun t22 =>
 (ld t22 H6).bind fun t23 =>
 some (.nrm [x0, (ptr H.cl.cl.cl.cl.cl.cl.cl.cl.cl.next 0), (ptr H2.cl.next 0), t23] H6)) (some (.nrm [x0, (ptr H.cl.cl.cl.cl.cl.cl.cl.cl.cl.next 0), (ptr H2.cl.next 0), (.int .u64 0)] H6))) pnK noX noR fun vs7 H8 =>
 (fa 0 (vs7.getD 2 dead)).bind fun t25 =>
 (ld t25 H8.cl.cl).bind fun t26 =>
 (fa 2 (vs7.getD 2 dead)).bind fun t27 =>
 (ld t27 H8.cl.cl.cl.cl).bind fun t28 =>
 (fa 16 (vs7.getD 1 dead)).bind fun t29 =>
 (ia 8 1 t29 t28).bind fun t30 =>
 (ld t30 H8.cl.cl.cl.cl.cl.cl.cl).bind fun t31 =>
 callK (C 28 [t26, t31, (vs7.getD 3 dead)] H8.cl.cl.cl.cl.cl.cl.cl.cl.cl) pnN fun t33 H9 =>
 (ext1 t33 0).bind fun t34 =>
 (ext1 t33 1).bind fun t35 =>
 callK (C 26 [(vs7.getD 0 dead), t34] (H9.cl.cl.cl.cl.opn H8.lim)) pnK fun t38 H10 =>
 some (.ret (.tuple #[]), H10)
def lv17 : List (Option An) := [none, none, some ⟨[0, 4, 5, 6], [], false, false⟩]
theorem s17_eq (C : Cl) (n : Nat) (x0 : Value) (x1 : Value) (H : Hp) : evFn Tryd.prog C n lv17 Tryd.f17 [x0, x1] H = s17 C n x0 x1 H := by kernel_rfl
/-- (*bulkhead/exec.step).between -/
noncomputable def s18 (C : Cl) (n : Nat) (x0 : Value) (H : Hp) : R :=
 (nilc x0).bind fun t7 =>
 (fa 0 t7).bind fun t8 =>
 (ldN 25 t8 H.cl.cl.cl.cl).bind fun t9 =>
 (nilc x0).bind fun t11 =>
 (fa 25 t11).bind fun t12 =>
 ((rdA t12).map fun c => [c]).bind fun r1 =>
 (ldN 5 t12 H.cl.cl.cl.cl.cl.cl.cl.cl).bind fun t13 =>
 let H2 := H.cl.cl.cl.cl.cl.cl.cl.cl.cl.new (.rw [(.int .u32 0), (.int .u32 0), (.int .u32 0), (.int .u32 0), (.int .u32 0), (.int .u32 0), (.int .u32 0), (.int .u32 0), (.int .u32 0), (.int .u32 0), (.int .u32 0), (.int .u32 0), (.int .u32 0), (.int .u32 0), (.int .u32 0), (.int .u32 0), (.int .u64 0), (.int .u64 0), (.int .u64 0), (.int .u64 0), (.int .u64 0), (.int .u64 0), (.int .u64 0), (.int .u64 0), (.int .u32 0)])
 let H3 := H2.cl.new (.rw [(.int .i64 0), (.int .i64 0), (.int .i64 0), (.int .i64 0), (.int .i64 0)])
 (rdA (ptr H.cl.cl.cl.cl.cl.cl.cl.cl.cl.next 0)).bind fun b4 => bif memN b4 (r1 ++ []) then none else (st 25 (ptr H.cl.cl.cl.cl.cl.cl.cl.cl.cl.next 0) t9 (H3.cl.opn H.lim)).bind fun H5 =>
 (st 5 (ptr H2.cl.next 0) t13 H5).bind fun H6 =>
 (fa 0 (ptr H2.cl.next 0)).bind fun t14 =>
 (ld t14 H6).bind fun t15 =>
 jn ((bin 0 .eql t15 (.int .i64 55)).bind fun t17 =>
 ifB t17 (some (.nrm [x0, (ptr H.cl.cl.cl.cl.cl.cl.cl.cl.cl.next 0), (ptr H2.cl.next 0), t15, t17] H6)) ((bin 0 .eql t15 (.int .i64 56)).bind fun t18 =>
 ifB t18 (some (.nrm [x0, (ptr H.cl.cl.cl.cl.cl.cl.cl.cl.cl.next 0), (ptr H2.cl.next 0), t15, t18] H6)) ((bin 0 .eql t15 (.int .i64 57)).bind fun t19 =>
 some (.nrm [x0, (ptr H.cl.cl.cl.cl.cl.cl.cl.cl.cl.next 0), (ptr H2.cl.next 0), t15, t19] H6)))) pnK noX noR fun vs7 H8 =>
 ifB (vs7.getD 4 dead) ((fa 0 (vs7.getD 2 dead)).bind fun t21 =>
 (ld t21 H8.cl.cl).bind fun t22 =>
 (fa 2 (vs7.getD 2 dead)).bind fun t23 =>
 (ld t23 H8.cl.cl.cl.cl).bind fun t24 =>
 (fa 16 (vs7.getD 1 dead)).bind fun t25 =>
 (ia 8 1 t25 t24).bind fun t26 =>
 (ld t26 H8.cl.cl.cl.cl.cl.cl.cl).bind fun t27 =>
 (fa 3 (vs7.getD 2 dead)).bind fun t28 =>
 (ld t28 H8.cl.cl.cl.cl.cl.cl.cl.cl.cl).bind fun t29 =>
 (fa 16 (vs7.getD 1 dead)).bind fun t30 =>
 (ia 8 1 t30 t29).bind fun t31 =>
 (ld t31 H8.cl.cl.cl.cl.cl.cl.cl.cl.cl.cl.cl.cl).bind fun t32 =>
 callK (C 29 [t22, t27, t32] H8.cl.cl.cl.cl.cl.cl.cl.cl.cl.cl.cl.cl.cl) pnN fun t33 H9 =>
 (ext1 t33 0).bind fun t34 =>
 (ext1 t33 1).bind fun t35 =>
 callK (C 24 [(vs7.getD 0 dead), t34] (H9.cl.cl.cl.cl.opn H8.lim)) pnK fun t38 H10 =>
 some (.ret (.tuple #[]), H10)) ((bin 0 .eql (vs7.getD 3 dead) (.int .i64 58)).bind fun t40 =>
 ifB t40 ((fa 2 (vs7.getD 2 dead)).bind fun t42 =>
 (ld t42 H8).bind fun t43 =>
 (fa 16 (vs7.getD 1 dead)).bind fun t44 =>
 (ia 8 1 t44 t43).bind fun t45 =>
 (ld t45 H8).bind fun t46 =>
 callK (C 30 [t46] H8) pnK fun t47 H11 =>
 callK (C 24 [(vs7.getD 0 dead), t47] H11) pnK fun t48 H12 =>
 some (.ret (.tuple #[]), H12)) ((bin 0 .eql (vs7.getD 3 dead) (.int .i64 60)).bind fun t50 =>
 ifB t50 ((fa 2 (vs7.getD 2 dead)).bind fun t52 =>
 (ld t52 H8).bind fun t53 =>
 (fa 16 (vs7.getD 1 dead)).bind fun t54 =>
 (ia 8 1 t54 t53).bind fun t55 =>
 (ld t55 H8).bind fun t56 =>
 callK (C 31 [t56] H8) pnK fun t57 H13 =>
 callK (C 24 [(vs7.getD 0 dead), t57] H13) pnK fun t58 H14 =>
 some (.ret (.tuple #[]), H14)) ((bin 0 .eql (vs7.getD 3 dead) (.int .i64 61)).bind fun t60 =>
 ifB t60 ((fa 2 (vs7.getD 2 dead)).bind fun t62 =>
 (ld t62 H8).bind fun t63 =>
 (fa 16 (vs7.getD 1 dead)).bind fun t64 =>
 (ia 8 1 t64 t63).bind fun t65 =>
 (ld t65 H8).bind fun t66 =>
 (cvI .u32 t66).bind fun t67 =>
 callK (C 24 [(vs7.getD 0 dead), t67] H8) pnK fun t68 H15 =>
 some (.ret (.tuple #[]), H15)) ((bin 0 .eql (vs7.getD 3 dead) (.int .i64 62)).bind fun t70 =>
 ifB t70 ((fa 2 (vs7.getD 2 dead)).bind fun t72 =>
 (ld t72 H8).bind fun t73 =>
 (fa 16 (vs7.getD 1 dead)).bind fun t74 =>
 (ia 8 1 t74 t73).bind fun t75 =>
 (ld t75 H8).bind fun t76 =>
 (bin 0 .shr t76 (.int .u64 32)).bind fun t77 =>
 (cvI .u32 t77).bind fun t78 =>
 callK (C 24 [(vs7.getD 0 dead), t78] H8) pnK fun t79 H16 =>
 some (.ret (.tuple #[]), H16)) ((bin 0 .eql (vs7.getD 3 dead) (.int .i64 59)).bind fun t81 =>
 ifB t81 ((fa 2 (vs7.getD 2 dead)).bind fun t83 =>
 (ld t83 H8).bind fun t84 =>
 (fa 0 (vs7.getD 1 dead)).bind fun t85 =>
 (ia 16 1 t85 t84).bind fun t86 =>
 (ld t86 H8).bind fun t87 =>
 callK (C 32 [t87] H8) pnK fun t88 H17 =>
 callK (C 26 [(vs7.getD 0 dead), t88] H17) pnK fun t89 H18 =>
 some (.ret (.tuple #[]), H18)) ((bin 0 .eql (vs7.getD 3 dead) (.int .i64 63)).bind fun t91 =>
 ifB t91 ((fa 3 (vs7.getD 2 dead)).bind fun t93 =>
 (ld t93 H8.cl.cl.cl).bind fun t94 =>
 (fa 0 (vs7.getD 1 dead)).bind fun t95 =>
 (ia 16 1 t95 t94).bind fun t96 =>
 (ld t96 H8.cl.cl.cl.cl.cl.cl).bind fun t97 =>
 (cvI .u64 t97).bind fun t98 =>
 (bin 0 .shl t98 (.int .u64 32)).bind fun t99 =>
 (fa 2 (vs7.getD 2 dead)).bind fun t100 =>
 (ld t100 H8.cl.cl.cl.cl.cl.cl.cl.cl.cl.cl).bind fun t101 =>
 (fa 0 (vs7.getD 1 dead)).bind fun t102 =>
 (ia 16 1 t102 t101).bind fun t103 =>
 (ld t103 H8.cl.cl.cl.cl.cl.cl.cl.cl.cl.cl.cl.cl.cl).bind fun t104 =>
 (cvI .u64 t104).bind fun t105 =>
 (bin 0 .or t99 t105).bind fun t106 =>
 callK (C 26 [(vs7.getD 0 dead), t106] (H8.cl.cl.cl.cl.cl.cl.cl.cl.cl.cl.cl.cl.cl.cl.cl.opn H8.lim)) pnK fun t107 H19 =>
 some (.ret (.tuple #[]), H19)) (some (.ret (.tuple #[]), H8))))))))
def lv18 : List (Option An) := [none, none, some ⟨[0, 2, 3, 15, 16], [], false, false⟩]
theorem s18_eq (C : Cl) (n : Nat) (x0 : Value) (H : Hp) : evFn Tryd.prog C n lv18 Tryd.f18 [x0] H = s18 C n x0 H := by kernel_rfl
/-- bulkhead/code.check -/
noncomputable def s19 (C : Cl) (n : Nat) (x0 : Value) (H : Hp) : R :=
 (bx x0).bind fun c2 =>
 let H1 := H.new (.rw c2)
 (fa 0 (ptr H.next 0)).bind fun t13 =>
 (ld t13 H1).bind fun t14 =>
 callK (C 21 [t14] H1) pnK fun t15 H3 =>
 let H4 := H3.new (.rw [(.string ⟨#[]⟩), (.int .i64 0), (.int .i64 0)])
 (st 3 (ptr H3.next 0) t15 H4).bind fun H5 =>
 (fa 1 (ptr H3.next 0)).bind fun t16 =>
 (ld t16 H5).bind fun t17 =>
 (bin 0 .eql t17 (.int .i64 0)).bind fun t18 =>
 ifB t18 (some (.ret (.int .i64 5), H5)) ((fa 0 (ptr H.next 0)).bind fun t19 =>
 (ld t19 H5).bind fun t20 =>
 (fillL (pl [(0, 1), (1, 1), (2, 1), (3, 1), (4, 1)]) [(.int .i64 0), (.int .i64 0), (.int .i64 0), (.int .i64 0), (.int .i64 0)] [(0, t20)]).bind fun c6 =>
 let H7 := H5.new (.rw [(.int .i64 0), (.int .i64 0), (.int .i64 0), (.int .i64 0), (.int .i64 0)])
 (st 5 (ptr H5.next 0) (.agg c6.toArray) H7).bind fun H8 =>
 (fa 1 (ptr H3.next 0)).bind fun t22 =>
 (ld t22 H8).bind fun t23 =>
 (ia 16 1 (ptr 0 0) t23).bind fun t24 =>
 (ld t24 H8).bind fun t25 =>
 (cvB t25 H8).bind fun p9 =>
 (len 1 p9.1 p9.2).bind fun t27 =>
 lp (fun vs10 H11 kn12 kx13 kr14 =>
 (bin 0 .lss (vs10.getD 4 dead) (vs10.getD 3 dead)).bind fun t29 =>
 ifB t29 ((sa 1 (vs10.getD 2 dead) (vs10.getD 4 dead)).bind fun t30 =>
 (ld t30 H11).bind fun t31 =>
 callK (C 33 [(vs10.getD 0 dead), t31] H11) pnK fun t34 H15 =>
 (ext1 t34 0).bind fun t35 =>
 (ext1 t34 1).bind fun t36 =>
 (ext1 t34 2).bind fun t37 =>
 (nilc t35).bind fun t39 =>
 (ld t39 H15).bind fun t40 =>
 (bin 0 .lss t40 t36).bind fun t42 =>
 (ifG t42 false (some (t35, H15)) (some (undef, H15))).bind fun p16 =>
 (ifG t42 false ((nilc p16.1).bind fun t45 =>
 some (t45, p16.2)) (some (undef, p16.2))).bind fun p17 =>
 (ifG t42 false ((ld p17.1 p17.2).bind fun t46 =>
 some (t46, p17.2)) (some (undef, p17.2))).bind fun p18 =>
 (ifG t42 false (some (t37, p18.2)) (some (undef, p18.2))).bind fun p19 =>
 (ifG t42 false ((bin 0 .gtr p18.1 p19.1).bind fun t48 =>
 some (t48, p19.2)) (some (undef, p19.2))).bind fun p20 =>
 (pick t42 (.bool true) p20.1).bind fun t49 =>
 ifB t49 (kr14 (Fr.of [1, 2, 4] [(vs10.getD 0 dead), (.int .i64 6), (vs10.getD 1 dead)]) p20.2) (callK (C 33 [(vs10.getD 1 dead), t31] p20.2) pnK fun t52 H21 =>
 (ext1 t52 0).bind fun t53 =>
 (ext1 t52 1).bind fun t54 =>
 (ext1 t52 2).bind fun t55 =>
 (nilc t35).bind fun t58 =>
 (ld t58 H21).bind fun t59 =>
 (nilc t53).bind fun t60 =>
 (st 1 t60 t59 H21).bind fun H22 =>
 (bin 0 .add (vs10.getD 4 dead) (.int .i64 1)).bind fun t61 =>
 kn12 [(vs10.getD 0 dead), (vs10.getD 1 dead), (vs10.getD 2 dead), (vs10.getD 3 dead), t61] H22)) (kx13 0 (Fr.of [1, 2, 4] [(vs10.getD 0 dead), ((Fr.of [1, 4, 26, 27, 28] vs10).g 2), (vs10.getD 1 dead)]) H11)) n [(ptr H.next 0), (ptr H5.next 0), p9.1, t27, (.int .i64 0)] p9.2 (fun j23 f24 H25 => if j23 = 0 then (ldN 5 (f24.g 4) H25).bind fun t62 =>
 (ldN 5 (f24.g 1) H25).bind fun t63 =>
 (beqA [0, 0, 0, 0, 0] .neq t62 t63).bind fun t64 =>
 ifB t64 (some (.ret (.int .i64 6), H25)) (some (.ret (.int .i64 0), H25)) else none) (fun f26 H27 => some (.ret (f26.g 2), H27)))
def lv19 : List (Option An) := [none, none, none, none, none, none, none, none, some ⟨[1, 4, 26, 27, 28], [1, 2, 4], true, true⟩]
theorem s19_eq (C : Cl) (n : Nat) (x0 : Value) (H : Hp) : evFn Tryd.prog C n lv19 Tryd.f19 [x0] H = s19 C n x0 H := by kernel_rfl
/-- bulkhead/code.hasImm -/
noncomputable def s20 (C : Cl) (n : Nat) (x0 : Value) (H : Hp) : R :=
 callK (C 21 [x0] H) pnK fun t4 H1 =>
 (fld false 1 1 t4).bind fun t5 =>
 (ia 16 1 (ptr 0 0) t5).bind fun t6 =>
 (ld t6 H1).bind fun t7 =>
 callK (C 34 [t7, (.string ⟨#[105]⟩)] H1) pnK fun t8 H2 =>
 some (.ret t8, H2)
def lv20 : List (Option An) := []
theorem s20_eq (C : Cl) (n : Nat) (x0 : Value) (H : Hp) : evFn Tryd.prog C n lv20 Tryd.f20 [x0] H = s20 C n x0 H := by kernel_rfl
/-- bulkhead/code.of -/
noncomputable def s21 (C : Cl) (n : Nat) (x0 : Value) (H : Hp) : R :=
 let H1 := H.new (.rw [(.string ⟨#[]⟩), (.int .i64 0), (.int .i64 0)])
 (bin 0 .lss x0 (.int .i64 0)).bind fun t4 =>
 (ifG t4 false (some (x0, H1)) (some (undef, H1))).bind fun p2 =>
 (ifG t4 false (callK (C 35 [] p2.2) pnN fun t7 H3 =>
 some (t7, H3)) (some (undef, p2.2))).bind fun p4 =>
 (ifG t4 false (some ((.int .i64 72), p4.2)) (some (undef, p4.2))).bind fun p5 =>
 (ifG t4 false ((bin 0 .geq p2.1 p5.1).bind fun t9 =>
 some (t9, p5.2)) (some (undef, p5.2))).bind fun p6 =>
 (pick t4 (.bool true) p6.1).bind fun t10 =>
 ifB t10 ((fillL (pl [(0, 1), (1, 1), (2, 1)]) [(.string ⟨#[]⟩), (.int .i64 0), (.int .i64 0)] []).bind fun c7 =>
 (st 3 (ptr H.next 0) (.agg c7.toArray) p6.2).bind fun H8 =>
 (ldN 3 (ptr H.next 0) H8).bind fun r9 =>
 some (.ret r9, H8)) (callK (C 35 [] p6.2) pnK fun t12 H10 =>
 (ix true 72 3 t12 x0).bind fun t14 =>
 (st 3 (ptr H.next 0) t14 H10).bind fun H11 =>
 (ldN 3 (ptr H.next 0) H11).bind fun r12 =>
 some (.ret r12, H11))
def lv21 : List (Option An) := []
theorem s21_eq (C : Cl) (n : Nat) (x0 : Value) (H : Hp) : evFn Tryd.prog C n lv21 Tryd.f21 [x0] H = s21 C n x0 H := by kernel_rfl
/-- bulkhead/word.Alu -/
noncomputable def s22 (C : Cl) (n : Nat) (x0 : Value) (x1 : Value) (x2 : Value) (H : Hp) : R :=
 (bin 0 .and x2 (.int .u32 31)).bind fun t10 =>
 jn ((bin 0 .eql x0 (.int .i64 2)).bind fun t13 =>
 ifB t13 (some (.nrm [x0, x1, x2, t10, x0, t13] H)) ((bin 0 .eql x0 (.int .i64 18)).bind fun t14 =>
 some (.nrm [x0, x1, x2, t10, x0, t14] H))) pnK noX noR fun vs1 H2 =>
 ifB (vs1.getD 5 dead) ((bin 0 .add (vs1.getD 1 dead) (vs1.getD 2 dead)).bind fun t17 =>
 some (.ret (.tuple #[t17, (.int .i64 0)]), H2)) ((bin 0 .eql (vs1.getD 4 dead) (.int .i64 3)).bind fun t19 =>
 ifB t19 ((bin 0 .sub (vs1.getD 1 dead) (vs1.getD 2 dead)).bind fun t22 =>
 some (.ret (.tuple #[t22, (.int .i64 0)]), H2)) ((bin 0 .eql (vs1.getD 4 dead) (.int .i64 4)).bind fun t24 =>
 ifB t24 ((bin 0 .mul (vs1.getD 1 dead) (vs1.getD 2 dead)).bind fun t27 =>
 some (.ret (.tuple #[t27, (.int .i64 0)]), H2)) ((bin 0 .eql (vs1.getD 4 dead) (.int .i64 5)).bind fun t29 =>
 ifB t29 ((cvI .i32 (vs1.getD 1 dead)).bind fun t31 =>
 (cvI .i64 t31).bind fun t32 =>
 (cvI .i32 (vs1.getD 2 dead)).bind fun t34 =>
 (cvI .i64 t34).bind fun t35 =>
 (bin 0 .mul t32 t35).bind fun t36 =>
 (cvI .u64 t36).bind fun t37 =>
 (bin 0 .shr t37 (.int .u64 32)).bind fun t38 =>
 (cvI .u32 t38).bind fun t39 =>
 some (.ret (.tuple #[t39, (.int .i64 0)]), H2)) (jn ((bin 0 .eql (vs1.getD 4 dead) (.int .i64 6)).bind fun t41 =>
 ifB t41 (some (.nrm [(vs1.getD 0 dead), (vs1.getD 1 dead), (vs1.getD 2 dead), (vs1.getD 3 dead), (vs1.getD 4 dead), t41] H2)) ((bin 0 .eql (vs1.getD 4 dead) (.int .i64 7)).bind fun t42 =>
 ifB t42 (some (.nrm [(vs1.getD 0 dead), (vs1.getD 1 dead), (vs1.getD 2 dead), (vs1.getD 3 dead), (vs1.getD 4 dead), t42] H2)) ((bin 0 .eql (vs1.getD 4 dead) (.int .i64 8)).bind fun t43 =>
 ifB t43 (some (.nrm [(vs1.getD 0 dead), (vs1.getD 1 dead), (vs1.getD 2 dead), (vs1.getD 3 dead), (vs1.getD 4 dead), t43] H2)) ((bin 0 .eql (vs1.getD 4 dead) (.int .i64 9)).bind fun t44 =>
 some (.nrm [(vs1.getD 0 dead), (vs1.getD 1 dead), (vs1.getD 2 dead), (vs1.getD 3 dead), (vs1.getD 4 dead), t44] H2))))) pnK noX noR fun vs3 H4 =>
 ifB (vs3.getD 5 dead) (callK (C 36 [(vs3.getD 0 dead), (vs3.getD 1 dead), (vs3.getD 2 dead)] H4) pnK fun t48 H5 =>
 (ext1 t48 0).bind fun t49 =>
 (ext1 t48 1).bind fun t50 =>
 some (.ret (.tuple #[t49, t50]), H5)) (jn ((bin 0 .eql (vs3.getD 4 dead) (.int .i64 10)).bind fun t52 =>
 ifB t52 (some (.nrm [(vs3.getD 1 dead), (vs3.getD 2 dead), (vs3.getD 3 dead), (vs3.getD 4 dead), t52] H4)) ((bin 0 .eql (vs3.getD 4 dead) (.int .i64 19)).bind fun t53 =>
 some (.nrm [(vs3.getD 1 dead), (vs3.getD 2 dead), (vs3.getD 3 dead), (vs3.getD 4 dead), t53] H4))) pnK noX noR fun vs6 H7 =>
 ifB (vs6.getD 4 dead) ((bin 0 .and (vs6.getD 0 dead) (vs6.getD 1 dead)).bind fun t56 =>
 some (.ret (.tuple #[t56, (.int .i64 0)]), H7)) (jn ((bin 0 .eql (vs6.getD 3 dead) (.int .i64 11)).bind fun t58 =>
 ifB t58 (some (.nrm [(vs6.getD 0 dead), (vs6.getD 1 dead), (vs6.getD 2 dead), (vs6.getD 3 dead), t58] H7)) ((bin 0 .eql (vs6.getD 3 dead) (.int .i64 20)).bind fun t59 =>
 some (.nrm [(vs6.getD 0 dead), (vs6.getD 1 dead), (vs6.getD 2 dead), (vs6.getD 3 dead), t59] H7))) pnK noX noR fun vs8 H9 =>
 ifB (vs8.getD 4 dead) ((bin 0 .or (vs8.getD 0 dead) (vs8.getD 1 dead)).bind fun t62 =>
 some (.ret (.tuple #[t62, (.int .i64 0)]), H9)) (jn ((bin 0 .eql (vs8.getD 3 dead) (.int .i64 12)).bind fun t64 =>
 ifB t64 (some (.nrm [(vs8.getD 0 dead), (vs8.getD 1 dead), (vs8.getD 2 dead), (vs8.getD 3 dead), t64] H9)) ((bin 0 .eql (vs8.getD 3 dead) (.int .i64 21)).bind fun t65 =>
 some (.nrm [(vs8.getD 0 dead), (vs8.getD 1 dead), (vs8.getD 2 dead), (vs8.getD 3 dead), t65] H9))) pnK noX noR fun vs10 H11 =>
 ifB (vs10.getD 4 dead) ((bin 0 .xor (vs10.getD 0 dead) (vs10.getD 1 dead)).bind fun t68 =>
 some (.ret (.tuple #[t68, (.int .i64 0)]), H11)) (jn ((bin 0 .eql (vs10.getD 3 dead) (.int .i64 13)).bind fun t70 =>
 ifB t70 (some (.nrm [(vs10.getD 0 dead), (vs10.getD 1 dead), (vs10.getD 2 dead), (vs10.getD 3 dead), t70] H11)) ((bin 0 .eql (vs10.getD 3 dead) (.int .i64 22)).bind fun t71 =>
 some (.nrm [(vs10.getD 0 dead), (vs10.getD 1 dead), (vs10.getD 2 dead), (vs10.getD 3 dead), t71] H11))) pnK noX noR fun vs12 H13 =>
 ifB (vs12.getD 4 dead) ((bin 0 .shl (vs12.getD 0 dead) (vs12.getD 2 dead)).bind fun t74 =>
 some (.ret (.tuple #[t74, (.int .i64 0)]), H13)) (jn ((bin 0 .eql (vs12.getD 3 dead) (.int .i64 14)).bind fun t76 =>
 ifB t76 (some (.nrm [(vs12.getD 0 dead), (vs12.getD 1 dead), (vs12.getD 2 dead), (vs12.getD 3 dead), t76] H13)) ((bin 0 .eql (vs12.getD 3 dead) (.int .i64 23)).bind fun t77 =>
 some (.nrm [(vs12.getD 0 dead), (vs12.getD 1 dead), (vs12.getD 2 dead), (vs12.getD 3 dead), t77] H13))) pnK noX noR fun vs14 H15 =>
 ifB (vs14.getD 4 dead) ((bin 0 .shr (vs14.getD 0 dead) (vs14.getD 2 dead)).bind fun t80 =>
 some (.ret (.tuple #[t80, (.int .i64 0)]), H15)) (jn ((bin 0 .eql (vs14.getD 3 dead) (.int .i64 15)).bind fun t82 =>
 ifB t82 (some (.nrm [(vs14.getD 0 dead), (vs14.getD 1 dead), (vs14.getD 2 dead), (vs14.getD 3 dead), t82] H15)) ((bin 0 .eql (vs14.getD 3 dead) (.int .i64 24)).bind fun t83 =>
 some (.nrm [(vs14.getD 0 dead), (vs14.getD 1 dead), (vs14.getD 2 dead), (vs14.getD 3 dead), t83] H15))) pnK noX noR fun vs16 H17 =>
 ifB (vs16.getD 4 dead) ((cvI .i32 (vs16.getD 0 dead)).bind fun t85 =>
 (bin 0 .shr t85 (vs16.getD 2 dead)).bind fun t87 =>
 (cvI .u32 t87).bind fun t88 =>
 some (.ret (.tuple #[t88, (.int .i64 0)]), H17)) (jn ((bin 0 .eql (vs16.getD 3 dead) (.int .i64 16)).bind fun t90 =>
 ifB t90 (some (.nrm [(vs16.getD 0 dead), (vs16.getD 1 dead), (vs16.getD 3 dead), t90] H17)) ((bin 0 .eql (vs16.getD 3 dead) (.int .i64 25)).bind fun t91 =>
 some (.nrm [(vs16.getD 0 dead), (vs16.getD 1 dead), (vs16.getD 3 dead), t91] H17))) pnK noX noR fun vs18 H19 =>
 ifB (vs18.getD 3 dead) ((cvI .i32 (vs18.getD 0 dead)).bind fun t93 =>
 (cvI .i32 (vs18.getD 1 dead)).bind fun t95 =>
 (bin 0 .lss t93 t95).bind fun t96 =>
 callK (C 37 [t96] H19) pnK fun t97 H20 =>
 (ext1 t97 0).bind fun t98 =>
 (ext1 t97 1).bind fun t99 =>
 some (.ret (.tuple #[t98, t99]), H20)) (jn ((bin 0 .eql (vs18.getD 2 dead) (.int .i64 17)).bind fun t101 =>
 ifB t101 (some (.nrm [(vs18.getD 0 dead), (vs18.getD 1 dead), (vs18.getD 2 dead), t101] H19)) ((bin 0 .eql (vs18.getD 2 dead) (.int .i64 26)).bind fun t102 =>
 some (.nrm [(vs18.getD 0 dead), (vs18.getD 1 dead), (vs18.getD 2 dead), t102] H19))) pnK noX noR fun vs21 H22 =>
 ifB (vs21.getD 3 dead) ((bin 0 .lss (vs21.getD 0 dead) (vs21.getD 1 dead)).bind fun t105 =>
 callK (C 37 [t105] H22) pnK fun t106 H23 =>
 (ext1 t106 0).bind fun t107 =>
 (ext1 t106 1).bind fun t108 =>
 some (.ret (.tuple #[t107, t108]), H23)) ((bin 0 .eql (vs21.getD 2 dead) (.int .i64 27)).bind fun t110 =>
 ifB t110 ((bin 0 .shl (vs21.getD 1 dead) (.int .u64 16)).bind fun t112 =>
 some (.ret (.tuple #[t112, (.int .i64 0)]), H22)) (some (.ret (.tuple #[(.int .u32 0), (.int .i64 5)]), H22)))))))))))))))
def lv22 : List (Option An) := [none, none, none, none, some ⟨[0, 1, 2, 8, 11, 12], [], false, false⟩, none, none, none, none, none, none, none, none, some ⟨[0, 1, 2, 8, 11, 40], [], false, false⟩, none, none, none, none, some ⟨[1, 2, 8, 11, 51], [], false, false⟩, none, none, some ⟨[1, 2, 8, 11, 57], [], false, false⟩, none, none, some ⟨[1, 2, 8, 11, 63], [], false, false⟩, none, none, some ⟨[1, 2, 8, 11, 69], [], false, false⟩, none, none, some ⟨[1, 2, 8, 11, 75], [], false, false⟩, none, none, some ⟨[1, 2, 8, 11, 81], [], false, false⟩, none, none, some ⟨[1, 2, 11, 89], [], false, false⟩, none, none, some ⟨[1, 2, 11, 100], [], false, false⟩]
theorem s22_eq (C : Cl) (n : Nat) (x0 : Value) (x1 : Value) (x2 : Value) (H : Hp) : evFn Tryd.prog C n lv22 Tryd.f22 [x0, x1, x2] H = s22 C n x0 x1 x2 H := by kernel_rfl
/-- (*bulkhead/exec.step).trap -/
noncomputable def s23 (C : Cl) (n : Nat) (x0 : Value) (x1 : Value) (x2 : Value) (H : Hp) : R :=
 (nilc x0).bind fun t10 =>
 (fa 31 t10).bind fun t11 =>
 (st 1 t11 x1 H).bind fun H1 =>
 (nilc x0).bind fun t12 =>
 (fa 32 t12).bind fun t13 =>
 (st 1 t13 x2 H1).bind fun H2 =>
 some (.ret (.tuple #[]), H2)
def lv23 : List (Option An) := []
theorem s23_eq (C : Cl) (n : Nat) (x0 : Value) (x1 : Value) (x2 : Value) (H : Hp) : evFn Tryd.prog C n lv23 Tryd.f23 [x0, x1, x2] H = s23 C n x0 x1 x2 H := by kernel_rfl
/-- (*bulkhead/exec.step).set -/
noncomputable def s24 (C : Cl) (n : Nat) (x0 : Value) (x1 : Value) (H : Hp) : R :=
 (nilc x0).bind fun t6 =>
 (fa 25 t6).bind fun t7 =>
 (fa 1 t7).bind fun t8 =>
 (ld t8 H.cl.cl.cl.cl.cl.cl).bind fun t9 =>
 (nilc x0).bind fun t11 =>
 (fa 0 t11).bind fun t12 =>
 (fa 0 t12).bind fun t13 =>
 (ia 16 1 t13 t9).bind fun t14 =>
 (st 1 t14 x1 (H.cl.cl.cl.cl.cl.cl.cl.cl.cl.cl.opn H.lim)).bind fun H1 =>
 (nilc x0).bind fun t16 =>
 (fa 0 t16).bind fun t17 =>
 (fa 24 t17).bind fun t18 =>
 (ld t18 H1).bind fun t19 =>
 (bin 0 .add t19 (.int .u32 4)).bind fun t20 =>
 (nilc x0).bind fun t21 =>
 (fa 0 t21).bind fun t22 =>
 (fa 24 t22).bind fun t23 =>
 (st 1 t23 t20 H1).bind fun H2 =>
 some (.ret (.tuple #[]), H2)
def lv24 : List (Option An) := []
theorem s24_eq (C : Cl) (n : Nat) (x0 : Value) (x1 : Value) (H : Hp) : evFn Tryd.prog C n lv24 Tryd.f24 [x0, x1] H = s24 C n x0 x1 H := by kernel_rfl
/-- bulkhead/word.Extend -/
noncomputable def s25 (C : Cl) (n : Nat) (x0 : Value) (x1 : Value) (x2 : Value) (H : Hp) : R :=
 (bin 0 .lss x1 (.int .i64 1)).bind fun t10 =>
 ifB t10 (some (.ret (.int .u32 0), H)) ((bin 0 .gtr x1 (.int .i64 31)).bind fun t13 =>
 ifB t13 (some (.ret x0, H)) ((bin 0 .sub (.int .i64 32) x1).bind fun t16 =>
 ifB x2 ((bin 0 .shl x0 t16).bind fun t20 =>
 (cvI .i32 t20).bind fun t21 =>
 (bin 0 .shr t21 t16).bind fun t23 =>
 (cvI .u32 t23).bind fun t24 =>
 some (.ret t24, H)) ((bin 0 .shl x0 t16).bind fun t27 =>
 (bin 0 .shr t27 t16).bind fun t29 =>
 some (.ret t29, H))))
def lv25 : List (Option An) := []
theorem s25_eq (C : Cl) (n : Nat) (x0 : Value) (x1 : Value) (x2 : Value) (H : Hp) : evFn Tryd.prog C n lv25 Tryd.f25 [x0, x1, x2] H = s25 C n x0 x1 x2 H := by kernel_rfl
/-- (*bulkhead/exec.step).setFloat -/
noncomputable def s26 (C : Cl) (n : Nat) (x0 : Value) (x1 : Value) (H : Hp) : R :=
 (nilc x0).bind fun t6 =>
 (fa 25 t6).bind fun t7 =>
 (fa 1 t7).bind fun t8 =>
 (ld t8 H.cl.cl.cl.cl.cl.cl).bind fun t9 =>
 (nilc x0).bind fun t11 =>
 (fa 0 t11).bind fun t12 =>
 (fa 16 t12).bind fun t13 =>
 (ia 8 1 t13 t9).bind fun t14 =>
 (st 1 t14 x1 (H.cl.cl.cl.cl.cl.cl.cl.cl.cl.cl.opn H.lim)).bind fun H1 =>
 (nilc x0).bind fun t16 =>
 (fa 0 t16).bind fun t17 =>
 (fa 24 t17).bind fun t18 =>
 (ld t18 H1).bind fun t19 =>
 (bin 0 .add t19 (.int .u32 4)).bind fun t20 =>
 (nilc x0).bind fun t21 =>
 (fa 0 t21).bind fun t22 =>
 (fa 24 t22).bind fun t23 =>
 (st 1 t23 t20 H1).bind fun H2 =>
 some (.ret (.tuple #[]), H2)
def lv26 : List (Option An) := []
theorem s26_eq (C : Cl) (n : Nat) (x0 : Value) (x1 : Value) (H : Hp) : evFn Tryd.prog C n lv26 Tryd.f26 [x0, x1] H = s26 C n x0 x1 H := by kernel_rfl
/-- bulkhead/word.Branch -/
noncomputable def s27 (C : Cl) (n : Nat) (x0 : Value) (x1 : Value) (x2 : Value) (H : Hp) : R :=
 (bin 0 .eql x0 (.int .i64 38)).bind fun t10 =>
 ifB t10 ((bin 0 .eql x1 x2).bind fun t13 =>
 some (.ret (.tuple #[t13, (.int .i64 0)]), H)) ((bin 0 .eql x0 (.int .i64 39)).bind fun t15 =>
 ifB t15 ((bin 0 .neq x1 x2).bind fun t18 =>
 some (.ret (.tuple #[t18, (.int .i64 0)]), H)) ((bin 0 .eql x0 (.int .i64 40)).bind fun t20 =>
 ifB t20 ((cvI .i32 x1).bind fun t22 =>
 (cvI .i32 x2).bind fun t24 =>
 (bin 0 .lss t22 t24).bind fun t25 =>
 some (.ret (.tuple #[t25, (.int .i64 0)]), H)) ((bin 0 .eql x0 (.int .i64 41)).bind fun t27 =>
 ifB t27 ((cvI .i32 x1).bind fun t29 =>
 (cvI .i32 x2).bind fun t31 =>
 (bin 0 .geq t29 t31).bind fun t32 =>
 some (.ret (.tuple #[t32, (.int .i64 0)]), H)) ((bin 0 .eql x0 (.int .i64 42)).bind fun t34 =>
 ifB t34 ((bin 0 .lss x1 x2).bind fun t37 =>
 some (.ret (.tuple #[t37, (.int .i64 0)]), H)) ((bin 0 .eql x0 (.int .i64 43)).bind fun t39 =>
 ifB t39 ((bin 0 .geq x1 x2).bind fun t42 =>
 some (.ret (.tuple #[t42, (.int .i64 0)]), H)) (some (.ret (.tuple #[(.bool false), (.int .i64 5)]), H)))))))
def lv27 : List (Option An) := []
theorem s27_eq (C : Cl) (n : Nat) (x0 : Value) (x1 : Value) (x2 : Value) (H : Hp) : evFn Tryd.prog C n lv27 Tryd.f27 [x0, x1, x2] H = s27 C n x0 x1 x2 H := by kernel_rfl
/-- bulkhead/code.operand -/
noncomputable def s33 (C : Cl) (n : Nat) (x0 : Value) (x1 : Value) (H : Hp) : R :=
 (bin 0 .eql x1 (.int .u8 97)).bind fun t9 =>
 ifB t9 ((nilc x0).bind fun t11 =>
 (fa 1 t11).bind fun t12 =>
 some (.ret (.tuple #[t12, (.int .i64 0), (.int .i64 15)]), H)) ((bin 0 .eql x1 (.int .u8 98)).bind fun t14 =>
 ifB t14 ((nilc x0).bind fun t16 =>
 (fa 2 t16).bind fun t17 =>
 some (.ret (.tuple #[t17, (.int .i64 0), (.int .i64 15)]), H)) ((bin 0 .eql x1 (.int .u8 99)).bind fun t19 =>
 ifB t19 ((nilc x0).bind fun t21 =>
 (fa 3 t21).bind fun t22 =>
 some (.ret (.tuple #[t22, (.int .i64 0), (.int .i64 15)]), H)) ((bin 0 .eql x1 (.int .u8 65)).bind fun t24 =>
 ifB t24 ((nilc x0).bind fun t26 =>
 (fa 1 t26).bind fun t27 =>
 some (.ret (.tuple #[t27, (.int .i64 0), (.int .i64 7)]), H)) ((bin 0 .eql x1 (.int .u8 66)).bind fun t29 =>
 ifB t29 ((nilc x0).bind fun t31 =>
 (fa 2 t31).bind fun t32 =>
 some (.ret (.tuple #[t32, (.int .i64 0), (.int .i64 7)]), H)) ((bin 0 .eql x1 (.int .u8 67)).bind fun t34 =>
 ifB t34 ((nilc x0).bind fun t36 =>
 (fa 3 t36).bind fun t37 =>
 some (.ret (.tuple #[t37, (.int .i64 0), (.int .i64 7)]), H)) ((nilc x0).bind fun t40 =>
 (fa 0 t40).bind fun t41 =>
 (ld t41 H).bind fun t42 =>
 callK (C 43 [t42] H) pnK fun t43 H1 =>
 (ext1 t43 0).bind fun t44 =>
 (ext1 t43 1).bind fun t45 =>
 (nilc x0).bind fun t47 =>
 (fa 4 t47).bind fun t48 =>
 some (.ret (.tuple #[t48, t44, t45]), H1)))))))
def lv33 : List (Option An) := []
theorem s33_eq (C : Cl) (n : Nat) (x0 : Value) (x1 : Value) (H : Hp) : evFn Tryd.prog C n lv33 Tryd.f33 [x0, x1] H = s33 C n x0 x1 H := by kernel_rfl
/-- bulkhead/code.forms -/
noncomputable def s35 (C : Cl) (n : Nat)  (H : Hp) : R :=
 let H1 := H.new (.rw [(.string ⟨#[]⟩), (.int .i64 0), (.int .i64 0), (.string ⟨#[]⟩), (.int .i64 0), (.int .i64 0), (.string ⟨#[]⟩), (.int .i64 0), (.int .i64 0), (.string ⟨#[]⟩), (.int .i64 0), (.int .i64 0), (.string ⟨#[]⟩), (.int .i64 0), (.int .i64 0), (.string ⟨#[]⟩), (.int .i64 0), (.int .i64 0), (.string ⟨#[]⟩), (.int .i64 0), (.int .i64 0), (.string ⟨#[]⟩), (.int .i64 0), (.int .i64 0), (.string ⟨#[]⟩), (.int .i64 0), (.int .i64 0), (.string ⟨#[]⟩), (.int .i64 0), (.int .i64 0), (.string ⟨#[]⟩), (.int .i64 0), (.int .i64 0), (.string ⟨#[]⟩), (.int .i64 0), (.int .i64 0), (.string ⟨#[]⟩), (.int .i64 0), (.int .i64 0), (.string ⟨#[]⟩), (.int .i64 0), (.int .i64 0), (.string ⟨#[]⟩), (.int .i64 0), (.int .i64 0), (.string ⟨#[]⟩), (.int .i64 0), (.int .i64 0), (.string ⟨#[]⟩), (.int .i64 0), (.int .i64 0), (.string ⟨#[]⟩), (.int .i64 0), (.int .i64 0), (.string ⟨#[]⟩), (.int .i64 0), (.int .i64 0), (.string ⟨#[]⟩), (.int .i64 0), (.int .i64 0), (.string ⟨#[]⟩), (.int .i64 0), (.int .i64 0), (.string ⟨#[]⟩), (.int .i64 0), (.int .i64 0), (.string ⟨#[]⟩), (.int .i64 0), (.int .i64 0), (.string ⟨#[]⟩), (.int .i64 0), (.int .i64 0), (.string ⟨#[]⟩), (.int .i64 0), (.int .i64 0), (.string ⟨#[]⟩), (.int .i64 0), (.int .i64 0), (.string ⟨#[]⟩), (.int .i64 0), (.int .i64 0), (.string ⟨#[]⟩), (.int .i64 0), (.int .i64 0), (.string ⟨#[]⟩), (.int .i64 0), (.int .i64 0), (.string ⟨#[]⟩), (.int .i64 0), (.int .i64 0), (.string ⟨#[]⟩), (.int .i64 0), (.int .i64 0), (.string ⟨#[]⟩), (.int .i64 0), (.int .i64 0), (.string ⟨#[]⟩), (.int .i64 0), (.int .i64 0), (.string ⟨#[]⟩), (.int .i64 0), (.int .i64 0), (.string ⟨#[]⟩), (.int .i64 0), (.int .i64 0), (.string ⟨#[]⟩), (.int .i64 0), (.int .i64 0), (.string ⟨#[]⟩), (.int .i64 0), (.int .i64 0), (.string ⟨#[]⟩), (.int .i64 0), (.int .i64 0), (.string ⟨#[]⟩), (.int .i64 0), (.int .i64 0), (.string ⟨#[]⟩), (.int .i64 0), (.int .i64 0), (.string ⟨#[]⟩), (.int .i64 0), (.int .i64 0), (.string ⟨#[]⟩), (.int .i64 0), (.int .i64 0), (.string ⟨#[]⟩), (.int .i64 0), (.int .i64 0), (.string ⟨#[]⟩), (.int .i64 0), (.int .i64 0), (.string ⟨#[]⟩), (.int .i64 0), (.int .i64 0), (.string ⟨#[]⟩), (.int .i64 0), (.int .i64 0), (.string ⟨#[]⟩), (.int .i64 0), (.int .i64 0), (.string ⟨#[]⟩), (.int .i64 0), (.int .i64 0), (.string ⟨#[]⟩), (.int .i64 0), (.int .i64 0), (.string ⟨#[]⟩), (.int .i64 0), (.int .i64 0), (.string ⟨#[]⟩), (.int .i64 0), (.int .i64 0), (.string ⟨#[]⟩), (.int .i64 0), (.int .i64 0), (.string ⟨#[]⟩), (.int .i64 0), (.int .i64 0), (.string ⟨#[]⟩), (.int .i64 0), (.int .i64 0), (.string ⟨#[]⟩), (.int .i64 0), (.int .i64 0), (.string ⟨#[]⟩), (.int .i64 0), (.int .i64 0), (.string ⟨#[]⟩), (.int .i64 0), (.int .i64 0), (.string ⟨#[]⟩), (.int .i64 0), (.int .i64 0), (.string ⟨#[]⟩), (.int .i64 0), (.int .i64 0), (.string ⟨#[]⟩), (.int .i64 0), (.int .i64 0), (.string ⟨#[]⟩), (.int .i64 0), (.int .i64 0), (.string ⟨#[]⟩), (.int .i64 0), (.int .i64 0), (.string ⟨#[]⟩), (.int .i64 0), (.int .i64 0), (.string ⟨#[]⟩), (.int .i64 0), (.int .i64 0), (.string ⟨#[]⟩), (.int .i64 0), (.int .i64 0), (.string ⟨#[]⟩), (.int .i64 0), (.int .i64 0), (.string ⟨#[]⟩), (.int .i64 0), (.int .i64 0), (.string ⟨#[]⟩), (.int .i64 0), (.int .i64 0), (.string ⟨#[]⟩), (.int .i64 0), (.int .i64 0), (.string ⟨#[]⟩), (.int .i64 0), (.int .i64 0), (.string ⟨#[]⟩), (.int .i64 0), (.int .i64 0), (.string ⟨#[]⟩), (.int .i64 0), (.int .i64 0)])
 (fillL (pl [(0, 1), (1, 1), (2, 1)]) [(.string ⟨#[]⟩), (.int .i64 0), (.int .i64 0)] [(0, (.string ⟨#[110, 111, 112]⟩)), (1, (.int .i64 1)), (2, (.int .i64 1))]).bind fun c2 =>
 (fillL (pl [(0, 1), (1, 1), (2, 1)]) [(.string ⟨#[]⟩), (.int .i64 0), (.int .i64 0)] [(0, (.string ⟨#[101, 99, 97, 108, 108]⟩)), (1, (.int .i64 1)), (2, (.int .i64 1))]).bind fun c3 =>
 (fillL (pl [(0, 1), (1, 1), (2, 1)]) [(.string ⟨#[]⟩), (.int .i64 0), (.int .i64 0)] [(0, (.string ⟨#[98, 114, 107]⟩)), (1, (.int .i64 1)), (2, (.int .i64 1))]).bind fun c4 =>
 (fillL (pl [(0, 1), (1, 1), (2, 1)]) [(.string ⟨#[]⟩), (.int .i64 0), (.int .i64 0)] [(0, (.string ⟨#[104, 99, 97, 108, 108]⟩)), (1, (.int .i64 1)), (2, (.int .i64 1))]).bind fun c5 =>
 (fillL (pl [(0, 1), (1, 1), (2, 1)]) [(.string ⟨#[]⟩), (.int .i64 0), (.int .i64 0)] [(0, (.string ⟨#[119, 102, 105]⟩)), (1, (.int .i64 1)), (2, (.int .i64 1))]).bind fun c6 =>
 (fillL (pl [(0, 1), (1, 1), (2, 1)]) [(.string ⟨#[]⟩), (.int .i64 0), (.int .i64 0)] [(0, (.string ⟨#[104, 97, 108, 116]⟩)), (1, (.int .i64 1)), (2, (.int .i64 1))]).bind fun c7 =>
 (fillL (pl [(0, 1), (1, 1), (2, 1)]) [(.string ⟨#[]⟩), (.int .i64 0), (.int .i64 0)] [(0, (.string ⟨#[101, 114, 101, 116]⟩)), (1, (.int .i64 1)), (2, (.int .i64 4))]).bind fun c8 =>
 (fillL (pl [(0, 1), (1, 1), (2, 1)]) [(.string ⟨#[]⟩), (.int .i64 0), (.int .i64 0)] [(0, (.string ⟨#[97, 100, 100]⟩)), (1, (.int .i64 2)), (2, (.int .i64 1))]).bind fun c9 =>
 (fillL (pl [(0, 1), (1, 1), (2, 1)]) [(.string ⟨#[]⟩), (.int .i64 0), (.int .i64 0)] [(0, (.string ⟨#[115, 117, 98]⟩)), (1, (.int .i64 2)), (2, (.int .i64 1))]).bind fun c10 =>
 (fillL (pl [(0, 1), (1, 1), (2, 1)]) [(.string ⟨#[]⟩), (.int .i64 0), (.int .i64 0)] [(0, (.string ⟨#[97, 110, 100]⟩)), (1, (.int .i64 2)), (2, (.int .i64 1))]).bind fun c11 =>
 (fillL (pl [(0, 1), (1, 1), (2, 1)]) [(.string ⟨#[]⟩), (.int .i64 0), (.int .i64 0)] [(0, (.string ⟨#[111, 114]⟩)), (1, (.int .i64 2)), (2, (.int .i64 1))]).bind fun c12 =>
 (fillL (pl [(0, 1), (1, 1), (2, 1)]) [(.string ⟨#[]⟩), (.int .i64 0), (.int .i64 0)] [(0, (.string ⟨#[120, 111, 114]⟩)), (1, (.int .i64 2)), (2, (.int .i64 1))]).bind fun c13 =>
 (fillL (pl [(0, 1), (1, 1), (2, 1)]) [(.string ⟨#[]⟩), (.int .i64 0), (.int .i64 0)] [(0, (.string ⟨#[115, 104, 108]⟩)), (1, (.int .i64 2)), (2, (.int .i64 1))]).bind fun c14 =>
 (fillL (pl [(0, 1), (1, 1), (2, 1)]) [(.string ⟨#[]⟩), (.int .i64 0), (.int .i64 0)] [(0, (.string ⟨#[115, 104, 114]⟩)), (1, (.int .i64 2)), (2, (.int .i64 1))]).bind fun c15 =>
 (fillL (pl [(0, 1), (1, 1), (2, 1)]) [(.string ⟨#[]⟩), (.int .i64 0), (.int .i64 0)] [(0, (.string ⟨#[115, 97, 114]⟩)), (1, (.int .i64 2)), (2, (.int .i64 1))]).bind fun c16 =>
 (fillL (pl [(0, 1), (1, 1), (2, 1)]) [(.string ⟨#[]⟩), (.int .i64 0), (.int .i64 0)] [(0, (.string ⟨#[115, 108, 116]⟩)), (1, (.int .i64 2)), (2, (.int .i64 1))]).bind fun c17 =>
 (fillL (pl [(0, 1), (1, 1), (2, 1)]) [(.string ⟨#[]⟩), (.int .i64 0), (.int .i64 0)] [(0, (.string ⟨#[115, 108, 116, 117]⟩)), (1, (.int .i64 2)), (2, (.int .i64 1))]).bind fun c18 =>
 (fillL (pl [(0, 1), (1, 1), (2, 1)]) [(.string ⟨#[]⟩), (.int .i64 0), (.int .i64 0)] [(0, (.string ⟨#[109, 117, 108]⟩)), (1, (.int .i64 2)), (2, (.int .i64 3))]).bind fun c19 =>
 (fillL (pl [(0, 1), (1, 1), (2, 1)]) [(.string ⟨#[]⟩), (.int .i64 0), (.int .i64 0)] [(0, (.string ⟨#[109, 117, 108, 104]⟩)), (1, (.int .i64 2)), (2, (.int .i64 3))]).bind fun c20 =>
 (fillL (pl [(0, 1), (1, 1), (2, 1)]) [(.string ⟨#[]⟩), (.int .i64 0), (.int .i64 0)] [(0, (.string ⟨#[100, 105, 118]⟩)), (1, (.int .i64 2)), (2, (.int .i64 12))]).bind fun c21 =>
 (fillL (pl [(0, 1), (1, 1), (2, 1)]) [(.string ⟨#[]⟩), (.int .i64 0), (.int .i64 0)] [(0, (.string ⟨#[100, 105, 118, 117]⟩)), (1, (.int .i64 2)), (2, (.int .i64 12))]).bind fun c22 =>
 (fillL (pl [(0, 1), (1, 1), (2, 1)]) [(.string ⟨#[]⟩), (.int .i64 0), (.int .i64 0)] [(0, (.string ⟨#[114, 101, 109]⟩)), (1, (.int .i64 2)), (2, (.int .i64 12))]).bind fun c23 =>
 (fillL (pl [(0, 1), (1, 1), (2, 1)]) [(.string ⟨#[]⟩), (.int .i64 0), (.int .i64 0)] [(0, (.string ⟨#[114, 101, 109, 117]⟩)), (1, (.int .i64 2)), (2, (.int .i64 12))]).bind fun c24 =>
 (fillL (pl [(0, 1), (1, 1), (2, 1)]) [(.string ⟨#[]⟩), (.int .i64 0), (.int .i64 0)] [(0, (.string ⟨#[97, 100, 100, 105]⟩)), (1, (.int .i64 3)), (2, (.int .i64 1))]).bind fun c25 =>
 (fillL (pl [(0, 1), (1, 1), (2, 1)]) [(.string ⟨#[]⟩), (.int .i64 0), (.int .i64 0)] [(0, (.string ⟨#[97, 110, 100, 105]⟩)), (1, (.int .i64 3)), (2, (.int .i64 1))]).bind fun c26 =>
 (fillL (pl [(0, 1), (1, 1), (2, 1)]) [(.string ⟨#[]⟩), (.int .i64 0), (.int .i64 0)] [(0, (.string ⟨#[111, 114, 105]⟩)), (1, (.int .i64 3)), (2, (.int .i64 1))]).bind fun c27 =>
 (fillL (pl [(0, 1), (1, 1), (2, 1)]) [(.string ⟨#[]⟩), (.int .i64 0), (.int .i64 0)] [(0, (.string ⟨#[120, 111, 114, 105]⟩)), (1, (.int .i64 3)), (2, (.int .i64 1))]).bind fun c28 =>
 (fillL (pl [(0, 1), (1, 1), (2, 1)]) [(.string ⟨#[]⟩), (.int .i64 0), (.int .i64 0)] [(0, (.string ⟨#[115, 104, 108, 105]⟩)), (1, (.int .i64 3)), (2, (.int .i64 1))]).bind fun c29 =>
 (fillL (pl [(0, 1), (1, 1), (2, 1)]) [(.string ⟨#[]⟩), (.int .i64 0), (.int .i64 0)] [(0, (.string ⟨#[115, 104, 114, 105]⟩)), (1, (.int .i64 3)), (2, (.int .i64 1))]).bind fun c30 =>
 (fillL (pl [(0, 1), (1, 1), (2, 1)]) [(.string ⟨#[]⟩), (.int .i64 0), (.int .i64 0)] [(0, (.string ⟨#[115, 97, 114, 105]⟩)), (1, (.int .i64 3)), (2, (.int .i64 1))]).bind fun c31 =>
 (fillL (pl [(0, 1), (1, 1), (2, 1)]) [(.string ⟨#[]⟩), (.int .i64 0), (.int .i64 0)] [(0, (.string ⟨#[115, 108, 116, 105]⟩)), (1, (.int .i64 3)), (2, (.int .i64 1))]).bind fun c32 =>
 (fillL (pl [(0, 1), (1, 1), (2, 1)]) [(.string ⟨#[]⟩), (.int .i64 0), (.int .i64 0)] [(0, (.string ⟨#[115, 108, 116, 105, 117]⟩)), (1, (.int .i64 3)), (2, (.int .i64 1))]).bind fun c33 =>
 (fillL (pl [(0, 1), (1, 1), (2, 1)]) [(.string ⟨#[]⟩), (.int .i64 0), (.int .i64 0)] [(0, (.string ⟨#[108, 117, 105]⟩)), (1, (.int .i64 4)), (2, (.int .i64 1))]).bind fun c34 =>
 (fillL (pl [(0, 1), (1, 1), (2, 1)]) [(.string ⟨#[]⟩), (.int .i64 0), (.int .i64 0)] [(0, (.string ⟨#[108, 119]⟩)), (1, (.int .i64 5)), (2, (.int .i64 3))]).bind fun c35 =>
 (fillL (pl [(0, 1), (1, 1), (2, 1)]) [(.string ⟨#[]⟩), (.int .i64 0), (.int .i64 0)] [(0, (.string ⟨#[108, 104]⟩)), (1, (.int .i64 5)), (2, (.int .i64 3))]).bind fun c36 =>
 (fillL (pl [(0, 1), (1, 1), (2, 1)]) [(.string ⟨#[]⟩), (.int .i64 0), (.int .i64 0)] [(0, (.string ⟨#[108, 104, 117]⟩)), (1, (.int .i64 5)), (2, (.int .i64 3))]).bind fun c37 =>
 (fillL (pl [(0, 1), (1, 1), (2, 1)]) [(.string ⟨#[]⟩), (.int .i64 0), (.int .i64 0)] [(0, (.string ⟨#[108, 98]⟩)), (1, (.int .i64 5)), (2, (.int .i64 3))]).bind fun c38 =>
 (fillL (pl [(0, 1), (1, 1), (2, 1)]) [(.string ⟨#[]⟩), (.int .i64 0), (.int .i64 0)] [(0, (.string ⟨#[108, 98, 117]⟩)), (1, (.int .i64 5)), (2, (.int .i64 3))]).bind fun c39 =>
 (fillL (pl [(0, 1), (1, 1), (2, 1)]) [(.string ⟨#[]⟩), (.int .i64 0), (.int .i64 0)] [(0, (.string ⟨#[115, 119]⟩)), (1, (.int .i64 5)), (2, (.int .i64 3))]).bind fun c40 =>
 (fillL (pl [(0, 1), (1, 1), (2, 1)]) [(.string ⟨#[]⟩), (.int .i64 0), (.int .i64 0)] [(0, (.string ⟨#[115, 104]⟩)), (1, (.int .i64 5)), (2, (.int .i64 3))]).bind fun c41 =>
 (fillL (pl [(0, 1), (1, 1), (2, 1)]) [(.string ⟨#[]⟩), (.int .i64 0), (.int .i64 0)] [(0, (.string ⟨#[115, 98]⟩)), (1, (.int .i64 5)), (2, (.int .i64 3))]).bind fun c42 =>
 (fillL (pl [(0, 1), (1, 1), (2, 1)]) [(.string ⟨#[]⟩), (.int .i64 0), (.int .i64 0)] [(0, (.string ⟨#[106, 97, 108, 114]⟩)), (1, (.int .i64 5)), (2, (.int .i64 2))]).bind fun c43 =>
 (fillL (pl [(0, 1), (1, 1), (2, 1)]) [(.string ⟨#[]⟩), (.int .i64 0), (.int .i64 0)] [(0, (.string ⟨#[102, 108, 100]⟩)), (1, (.int .i64 6)), (2, (.int .i64 4))]).bind fun c44 =>
 (fillL (pl [(0, 1), (1, 1), (2, 1)]) [(.string ⟨#[]⟩), (.int .i64 0), (.int .i64 0)] [(0, (.string ⟨#[102, 115, 100]⟩)), (1, (.int .i64 6)), (2, (.int .i64 4))]).bind fun c45 =>
 (fillL (pl [(0, 1), (1, 1), (2, 1)]) [(.string ⟨#[]⟩), (.int .i64 0), (.int .i64 0)] [(0, (.string ⟨#[98, 101, 113]⟩)), (1, (.int .i64 7)), (2, (.int .i64 2))]).bind fun c46 =>
 (fillL (pl [(0, 1), (1, 1), (2, 1)]) [(.string ⟨#[]⟩), (.int .i64 0), (.int .i64 0)] [(0, (.string ⟨#[98, 110, 101]⟩)), (1, (.int .i64 7)), (2, (.int .i64 2))]).bind fun c47 =>
 (fillL (pl [(0, 1), (1, 1), (2, 1)]) [(.string ⟨#[]⟩), (.int .i64 0), (.int .i64 0)] [(0, (.string ⟨#[98, 108, 116]⟩)), (1, (.int .i64 7)), (2, (.int .i64 2))]).bind fun c48 =>
 (fillL (pl [(0, 1), (1, 1), (2, 1)]) [(.string ⟨#[]⟩), (.int .i64 0), (.int .i64 0)] [(0, (.string ⟨#[98, 103, 101]⟩)), (1, (.int .i64 7)), (2, (.int .i64 2))]).bind fun c49 =>
 (fillL (pl [(0, 1), (1, 1), (2, 1)]) [(.string ⟨#[]⟩), (.int .i64 0), (.int .i64 0)] [(0, (.string ⟨#[98, 108, 116, 117]⟩)), (1, (.int .i64 7)), (2, (.int .i64 2))]).bind fun c50 =>
 (fillL (pl [(0, 1), (1, 1), (2, 1)]) [(.string ⟨#[]⟩), (.int .i64 0), (.int .i64 0)] [(0, (.string ⟨#[98, 103, 101, 117]⟩)), (1, (.int .i64 7)), (2, (.int .i64 2))]).bind fun c51 =>
 (fillL (pl [(0, 1), (1, 1), (2, 1)]) [(.string ⟨#[]⟩), (.int .i64 0), (.int .i64 0)] [(0, (.string ⟨#[106, 97, 108]⟩)), (1, (.int .i64 8)), (2, (.int .i64 2))]).bind fun c52 =>
 (fillL (pl [(0, 1), (1, 1), (2, 1)]) [(.string ⟨#[]⟩), (.int .i64 0), (.int .i64 0)] [(0, (.string ⟨#[102, 97, 100, 100]⟩)), (1, (.int .i64 9)), (2, (.int .i64 4))]).bind fun c53 =>
 (fillL (pl [(0, 1), (1, 1), (2, 1)]) [(.string ⟨#[]⟩), (.int .i64 0), (.int .i64 0)] [(0, (.string ⟨#[102, 115, 117, 98]⟩)), (1, (.int .i64 9)), (2, (.int .i64 4))]).bind fun c54 =>
 (fillL (pl [(0, 1), (1, 1), (2, 1)]) [(.string ⟨#[]⟩), (.int .i64 0), (.int .i64 0)] [(0, (.string ⟨#[102, 109, 117, 108]⟩)), (1, (.int .i64 9)), (2, (.int .i64 5))]).bind fun c55 =>
 (fillL (pl [(0, 1), (1, 1), (2, 1)]) [(.string ⟨#[]⟩), (.int .i64 0), (.int .i64 0)] [(0, (.string ⟨#[102, 100, 105, 118]⟩)), (1, (.int .i64 9)), (2, (.int .i64 16))]).bind fun c56 =>
 (fillL (pl [(0, 1), (1, 1), (2, 1)]) [(.string ⟨#[]⟩), (.int .i64 0), (.int .i64 0)] [(0, (.string ⟨#[102, 109, 105, 110]⟩)), (1, (.int .i64 9)), (2, (.int .i64 2))]).bind fun c57 =>
 (fillL (pl [(0, 1), (1, 1), (2, 1)]) [(.string ⟨#[]⟩), (.int .i64 0), (.int .i64 0)] [(0, (.string ⟨#[102, 109, 97, 120]⟩)), (1, (.int .i64 9)), (2, (.int .i64 2))]).bind fun c58 =>
 (fillL (pl [(0, 1), (1, 1), (2, 1)]) [(.string ⟨#[]⟩), (.int .i64 0), (.int .i64 0)] [(0, (.string ⟨#[102, 115, 113, 114, 116]⟩)), (1, (.int .i64 10)), (2, (.int .i64 20))]).bind fun c59 =>
 (fillL (pl [(0, 1), (1, 1), (2, 1)]) [(.string ⟨#[]⟩), (.int .i64 0), (.int .i64 0)] [(0, (.string ⟨#[102, 110, 101, 103]⟩)), (1, (.int .i64 10)), (2, (.int .i64 2))]).bind fun c60 =>
 (fillL (pl [(0, 1), (1, 1), (2, 1)]) [(.string ⟨#[]⟩), (.int .i64 0), (.int .i64 0)] [(0, (.string ⟨#[102, 97, 98, 115]⟩)), (1, (.int .i64 10)), (2, (.int .i64 2))]).bind fun c61 =>
 (fillL (pl [(0, 1), (1, 1), (2, 1)]) [(.string ⟨#[]⟩), (.int .i64 0), (.int .i64 0)] [(0, (.string ⟨#[102, 101, 113]⟩)), (1, (.int .i64 11)), (2, (.int .i64 2))]).bind fun c62 =>
 (fillL (pl [(0, 1), (1, 1), (2, 1)]) [(.string ⟨#[]⟩), (.int .i64 0), (.int .i64 0)] [(0, (.string ⟨#[102, 108, 116]⟩)), (1, (.int .i64 11)), (2, (.int .i64 2))]).bind fun c63 =>
 (fillL (pl [(0, 1), (1, 1), (2, 1)]) [(.string ⟨#[]⟩), (.int .i64 0), (.int .i64 0)] [(0, (.string ⟨#[102, 108, 101]⟩)), (1, (.int .i64 11)), (2, (.int .i64 2))]).bind fun c64 =>
 (fillL (pl [(0, 1), (1, 1), (2, 1)]) [(.string ⟨#[]⟩), (.int .i64 0), (.int .i64 0)] [(0, (.string ⟨#[102, 99, 108, 97, 115, 115]⟩)), (1, (.int .i64 12)), (2, (.int .i64 2))]).bind fun c65 =>
 (fillL (pl [(0, 1), (1, 1), (2, 1)]) [(.string ⟨#[]⟩), (.int .i64 0), (.int .i64 0)] [(0, (.string ⟨#[102, 99, 118, 116, 119]⟩)), (1, (.int .i64 12)), (2, (.int .i64 2))]).bind fun c66 =>
 (fillL (pl [(0, 1), (1, 1), (2, 1)]) [(.string ⟨#[]⟩), (.int .i64 0), (.int .i64 0)] [(0, (.string ⟨#[102, 109, 118, 108]⟩)), (1, (.int .i64 12)), (2, (.int .i64 2))]).bind fun c67 =>
 (fillL (pl [(0, 1), (1, 1), (2, 1)]) [(.string ⟨#[]⟩), (.int .i64 0), (.int .i64 0)] [(0, (.string ⟨#[102, 109, 118, 104]⟩)), (1, (.int .i64 12)), (2, (.int .i64 2))]).bind fun c68 =>
 (fillL (pl [(0, 1), (1, 1), (2, 1)]) [(.string ⟨#[]⟩), (.int .i64 0), (.int .i64 0)] [(0, (.string ⟨#[102, 99, 118, 116, 100]⟩)), (1, (.int .i64 13)), (2, (.int .i64 2))]).bind fun c69 =>
 (fillL (pl [(0, 1), (1, 1), (2, 1)]) [(.string ⟨#[]⟩), (.int .i64 0), (.int .i64 0)] [(0, (.string ⟨#[102, 112, 117, 116]⟩)), (1, (.int .i64 14)), (2, (.int .i64 2))]).bind fun c70 =>
 (fillL (pl [(0, 1), (1, 1), (2, 1)]) [(.string ⟨#[]⟩), (.int .i64 0), (.int .i64 0)] [(0, (.string ⟨#[109, 102, 99]⟩)), (1, (.int .i64 15)), (2, (.int .i64 2))]).bind fun c71 =>
 (fillL (pl [(0, 1), (1, 1), (2, 1)]) [(.string ⟨#[]⟩), (.int .i64 0), (.int .i64 0)] [(0, (.string ⟨#[109, 116, 99]⟩)), (1, (.int .i64 15)), (2, (.int .i64 2))]).bind fun c72 =>
 (fillL (plA 3) [(.string ⟨#[]⟩), (.int .i64 0), (.int .i64 0), (.string ⟨#[]⟩), (.int .i64 0), (.int .i64 0), (.string ⟨#[]⟩), (.int .i64 0), (.int .i64 0), (.string ⟨#[]⟩), (.int .i64 0), (.int .i64 0), (.string ⟨#[]⟩), (.int .i64 0), (.int .i64 0), (.string ⟨#[]⟩), (.int .i64 0), (.int .i64 0), (.string ⟨#[]⟩), (.int .i64 0), (.int .i64 0), (.string ⟨#[]⟩), (.int .i64 0), (.int .i64 0), (.string ⟨#[]⟩), (.int .i64 0), (.int .i64 0), (.string ⟨#[]⟩), (.int .i64 0), (.int .i64 0), (.string ⟨#[]⟩), (.int .i64 0), (.int .i64 0), (.string ⟨#[]⟩), (.int .i64 0), (.int .i64 0), (.string ⟨#[]⟩), (.int .i64 0), (.int .i64 0), (.string ⟨#[]⟩), (.int .i64 0), (.int .i64 0), (.string ⟨#[]⟩), (.int .i64 0), (.int .i64 0), (.string ⟨#[]⟩), (.int .i64 0), (.int .i64 0), (.string ⟨#[]⟩), (.int .i64 0), (.int .i64 0), (.string ⟨#[]⟩), (.int .i64 0), (.int .i64 0), (.string ⟨#[]⟩), (.int .i64 0), (.int .i64 0), (.string ⟨#[]⟩), (.int .i64 0), (.int .i64 0), (.string ⟨#[]⟩), (.int .i64 0), (.int .i64 0), (.string ⟨#[]⟩), (.int .i64 0), (.int .i64 0), (.string ⟨#[]⟩), (.int .i64 0), (.int .i64 0), (.string ⟨#[]⟩), (.int .i64 0), (.int .i64 0), (.string ⟨#[]⟩), (.int .i64 0), (.int .i64 0), (.string ⟨#[]⟩), (.int .i64 0), (.int .i64 0), (.string ⟨#[]⟩), (.int .i64 0), (.int .i64 0), (.string ⟨#[]⟩), (.int .i64 0), (.int .i64 0), (.string ⟨#[]⟩), (.int .i64 0), (.int .i64 0), (.string ⟨#[]⟩), (.int .i64 0), (.int .i64 0), (.string ⟨#[]⟩), (.int .i64 0), (.int .i64 0), (.string ⟨#[]⟩), (.int .i64 0), (.int .i64 0), (.string ⟨#[]⟩), (.int .i64 0), (.int .i64 0), (.string ⟨#[]⟩), (.int .i64 0), (.int .i64 0), (.string ⟨#[]⟩), (.int .i64 0), (.int .i64 0), (.string ⟨#[]⟩), (.int .i64 0), (.int .i64 0), (.string ⟨#[]⟩), (.int .i64 0), (.int .i64 0), (.string ⟨#[]⟩), (.int .i64 0), (.int .i64 0), (.string ⟨#[]⟩), (.int .i64 0), (.int .i64 0), (.string ⟨#[]⟩), (.int .i64 0), (.int .i64 0), (.string ⟨#[]⟩), (.int .i64 0), (.int .i64 0), (.string ⟨#[]⟩), (.int .i64 0), (.int .i64 0), (.string ⟨#[]⟩), (.int .i64 0), (.int .i64 0), (.string ⟨#[]⟩), (.int .i64 0), (.int .i64 0), (.string ⟨#[]⟩), (.int .i64 0), (.int .i64 0), (.string ⟨#[]⟩), (.int .i64 0), (.int .i64 0), (.string ⟨#[]⟩), (.int .i64 0), (.int .i64 0), (.string ⟨#[]⟩), (.int .i64 0), (.int .i64 0), (.string ⟨#[]⟩), (.int .i64 0), (.int .i64 0), (.string ⟨#[]⟩), (.int .i64 0), (.int .i64 0), (.string ⟨#[]⟩), (.int .i64 0), (.int .i64 0), (.string ⟨#[]⟩), (.int .i64 0), (.int .i64 0), (.string ⟨#[]⟩), (.int .i64 0), (.int .i64 0), (.string ⟨#[]⟩), (.int .i64 0), (.int .i64 0), (.string ⟨#[]⟩), (.int .i64 0), (.int .i64 0), (.string ⟨#[]⟩), (.int .i64 0), (.int .i64 0), (.string ⟨#[]⟩), (.int .i64 0), (.int .i64 0), (.string ⟨#[]⟩), (.int .i64 0), (.int .i64 0), (.string ⟨#[]⟩), (.int .i64 0), (.int .i64 0), (.string ⟨#[]⟩), (.int .i64 0), (.int .i64 0), (.string ⟨#[]⟩), (.int .i64 0), (.int .i64 0), (.string ⟨#[]⟩), (.int .i64 0), (.int .i64 0), (.string ⟨#[]⟩), (.int .i64 0), (.int .i64 0), (.string ⟨#[]⟩), (.int .i64 0), (.int .i64 0), (.string ⟨#[]⟩), (.int .i64 0), (.int .i64 0), (.string ⟨#[]⟩), (.int .i64 0), (.int .i64 0), (.string ⟨#[]⟩), (.int .i64 0), (.int .i64 0), (.string ⟨#[]⟩), (.int .i64 0), (.int .i64 0), (.string ⟨#[]⟩), (.int .i64 0), (.int .i64 0), (.string ⟨#[]⟩), (.int .i64 0), (.int .i64 0), (.string ⟨#[]⟩), (.int .i64 0), (.int .i64 0), (.string ⟨#[]⟩), (.int .i64 0), (.int .i64 0)] [(1, (.agg c2.toArray)), (64, (.agg c3.toArray)), (65, (.agg c4.toArray)), (66, (.agg c5.toArray)), (70, (.agg c6.toArray)), (71, (.agg c7.toArray)), (67, (.agg c8.toArray)), (2, (.agg c9.toArray)), (3, (.agg c10.toArray)), (10, (.agg c11.toArray)), (11, (.agg c12.toArray)), (12, (.agg c13.toArray)), (13, (.agg c14.toArray)), (14, (.agg c15.toArray)), (15, (.agg c16.toArray)), (16, (.agg c17.toArray)), (17, (.agg c18.toArray)), (4, (.agg c19.toArray)), (5, (.agg c20.toArray)), (6, (.agg c21.toArray)), (7, (.agg c22.toArray)), (8, (.agg c23.toArray)), (9, (.agg c24.toArray)), (18, (.agg c25.toArray)), (19, (.agg c26.toArray)), (20, (.agg c27.toArray)), (21, (.agg c28.toArray)), (22, (.agg c29.toArray)), (23, (.agg c30.toArray)), (24, (.agg c31.toArray)), (25, (.agg c32.toArray)), (26, (.agg c33.toArray)), (27, (.agg c34.toArray)), (28, (.agg c35.toArray)), (29, (.agg c36.toArray)), (30, (.agg c37.toArray)), (31, (.agg c38.toArray)), (32, (.agg c39.toArray)), (33, (.agg c40.toArray)), (34, (.agg c41.toArray)), (35, (.agg c42.toArray)), (45, (.agg c43.toArray)), (36, (.agg c44.toArray)), (37, (.agg c45.toArray)), (38, (.agg c46.toArray)), (39, (.agg c47.toArray)), (40, (.agg c48.toArray)), (41, (.agg c49.toArray)), (42, (.agg c50.toArray)), (43, (.agg c51.toArray)), (44, (.agg c52.toArray)), (46, (.agg c53.toArray)), (47, (.agg c54.toArray)), (48, (.agg c55.toArray)), (49, (.agg c56.toArray)), (51, (.agg c57.toArray)), (52, (.agg c58.toArray)), (50, (.agg c59.toArray)), (53, (.agg c60.toArray)), (54, (.agg c61.toArray)), (55, (.agg c62.toArray)), (56, (.agg c63.toArray)), (57, (.agg c64.toArray)), (58, (.agg c65.toArray)), (60, (.agg c66.toArray)), (61, (.agg c67.toArray)), (62, (.agg c68.toArray)), (59, (.agg c69.toArray)), (63, (.agg c70.toArray)), (68, (.agg c71.toArray)), (69, (.agg c72.toArray))]).bind fun c73 =>
 (st 216 (ptr H.next 0) (.agg c73.toArray) H1).bind fun H74 =>
 (ldN 216 (ptr H.next 0) H74).bind fun r75 =>
 some (.ret r75, H74)
def lv35 : List (Option An) := []
theorem s35_eq (C : Cl) (n : Nat)  (H : Hp) : evFn Tryd.prog C n lv35 Tryd.f35 [] H = s35 C n  H := by kernel_rfl
/-- bulkhead/word.divide -/
noncomputable def s36 (C : Cl) (n : Nat) (x0 : Value) (x1 : Value) (x2 : Value) (H : Hp) : R :=
 (bin 0 .eql x2 (.int .u32 0)).bind fun t11 =>
 ifB t11 (some (.ret (.tuple #[(.int .u32 0), (.int .i64 10)]), H)) ((cvI .i32 x1).bind fun t13 =>
 (cvI .i64 t13).bind fun t14 =>
 (cvI .i32 x2).bind fun t16 =>
 (cvI .i64 t16).bind fun t17 =>
 (bin 0 .eql x0 (.int .i64 6)).bind fun t20 =>
 ifB t20 ((bin 0 .quo t14 t17).bind fun t23 =>
 (cvI .u32 t23).bind fun t24 =>
 some (.ret (.tuple #[t24, (.int .i64 0)]), H)) ((bin 0 .eql x0 (.int .i64 8)).bind fun t26 =>
 ifB t26 ((bin 0 .rem t14 t17).bind fun t29 =>
 (cvI .u32 t29).bind fun t30 =>
 some (.ret (.tuple #[t30, (.int .i64 0)]), H)) ((bin 0 .eql x0 (.int .i64 7)).bind fun t32 =>
 ifB t32 ((bin 0 .quo x1 x2).bind fun t35 =>
 some (.ret (.tuple #[t35, (.int .i64 0)]), H)) ((bin 0 .rem x1 x2).bind fun t38 =>
 some (.ret (.tuple #[t38, (.int .i64 0)]), H)))))
def lv36 : List (Option An) := []
theorem s36_eq (C : Cl) (n : Nat) (x0 : Value) (x1 : Value) (x2 : Value) (H : Hp) : evFn Tryd.prog C n lv36 Tryd.f36 [x0, x1, x2] H = s36 C n x0 x1 x2 H := by kernel_rfl
/-- bulkhead/word.flag -/
noncomputable def s37 (C : Cl) (n : Nat) (x0 : Value) (H : Hp) : R :=
 ifB x0 (some (.ret (.tuple #[(.int .u32 1), (.int .i64 0)]), H)) (some (.ret (.tuple #[(.int .u32 0), (.int .i64 0)]), H))
def lv37 : List (Option An) := []
theorem s37_eq (C : Cl) (n : Nat) (x0 : Value) (H : Hp) : evFn Tryd.prog C n lv37 Tryd.f37 [x0] H = s37 C n x0 H := by kernel_rfl
/-- bulkhead/code.limits -/
noncomputable def s43 (C : Cl) (n : Nat) (x0 : Value) (H : Hp) : R :=
 jn ((bin 0 .eql x0 (.int .i64 19)).bind fun t6 =>
 ifB t6 (some (.nrm [x0, t6] H)) ((bin 0 .eql x0 (.int .i64 20)).bind fun t7 =>
 ifB t7 (some (.nrm [x0, t7] H)) ((bin 0 .eql x0 (.int .i64 21)).bind fun t8 =>
 ifB t8 (some (.nrm [x0, t8] H)) ((bin 0 .eql x0 (.int .i64 27)).bind fun t9 =>
 some (.nrm [x0, t9] H))))) pnK noX noR fun vs1 H2 =>
 ifB (vs1.getD 1 dead) (some (.ret (.tuple #[(.int .i64 0), (.int .i64 65535)]), H2)) (jn ((bin 0 .eql (vs1.getD 0 dead) (.int .i64 22)).bind fun t11 =>
 ifB t11 (some (.nrm [(vs1.getD 0 dead), t11] H2)) ((bin 0 .eql (vs1.getD 0 dead) (.int .i64 23)).bind fun t12 =>
 ifB t12 (some (.nrm [(vs1.getD 0 dead), t12] H2)) ((bin 0 .eql (vs1.getD 0 dead) (.int .i64 24)).bind fun t13 =>
 some (.nrm [(vs1.getD 0 dead), t13] H2)))) pnK noX noR fun vs3 H4 =>
 ifB (vs3.getD 1 dead) (some (.ret (.tuple #[(.int .i64 0), (.int .i64 31)]), H4)) (jn ((bin 0 .eql (vs3.getD 0 dead) (.int .i64 68)).bind fun t15 =>
 ifB t15 (some (.nrm [t15] H4)) ((bin 0 .eql (vs3.getD 0 dead) (.int .i64 69)).bind fun t16 =>
 some (.nrm [t16] H4))) pnK noX noR fun vs5 H6 =>
 ifB (vs5.getD 0 dead) (some (.ret (.tuple #[(.int .i64 0), (.int .i64 9)]), H6)) (some (.ret (.tuple #[(.int .i64 (-32768)), (.int .i64 32767)]), H6))))
def lv43 : List (Option An) := [none, none, none, some ⟨[4, 5], [], false, false⟩, none, none, none, none, some ⟨[4, 10], [], false, false⟩, none, none, none, some ⟨[14], [], false, false⟩]
theorem s43_eq (C : Cl) (n : Nat) (x0 : Value) (H : Hp) : evFn Tryd.prog C n lv43 Tryd.f43 [x0] H = s43 C n x0 H := by kernel_rfl
def live (f : FuncId) : List (Option An) := [[], [], [], lv3, lv4, lv5, lv6, lv7, lv8, lv9, lv10, lv11, lv12, lv13, lv14, lv15, lv16, lv17, lv18, lv19, lv20, lv21, lv22, lv23, lv24, lv25, lv26, lv27, [], [], [], [], [], lv33, [], lv35, lv36, lv37, [], [], [], [], [], lv43].getD f []
end Go.Proofs.YthenglaoolmajabDoor
