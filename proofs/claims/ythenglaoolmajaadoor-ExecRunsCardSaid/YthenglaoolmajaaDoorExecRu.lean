/- The law ExecRuns answers true. -/
import Derived.Test.YthenglaoolmajaaDoorEvBun
import Derived.Test.YthenglaoolmajaaDoorRefH
import Derived.Test.YthenglaoolmajaaDoorEvSlc
namespace Go.Proofs.YthenglaoolmajaaDoor
open Go Go.Ev
set_option maxRecDepth 100000
set_option linter.unusedSimpArgs false
set_option linter.unusedVariables false
set_option maxHeartbeats 4000000
set_option linter.unusedSectionVars false
attribute [local congr] bind_front callK_front jn_front ifB_front ifG_front lp_front
/-- the memory of a round -/
structure St5 (LC DC : List Value) (H : Hp) (R F : Nat → Int) (pc : Int) : Prop where
  c4 : H.cells 4 = some LC
  c5 : H.cells 5 = some DC
  c7 : H.cells 7 = some (regs R F pc)
  c8 : H.cells 8 = some (regs R F pc)
  w7 : H.rwc 7 = some (regs R F pc)
  w8 : H.rwc 8 = some (regs R F pc)
  lim : H.lim = 6
  next : 9 ≤ H.next
  inR : ∀ i, i < 16 → inK .u32 (R i)
  inF : ∀ i, i < 8 → inK .u64 (F i)
  inP : 0 ≤ pc ∧ pc < 4294967296
/-- what a round reads of the arguments -/
structure In5 (x1 x2 : Value) (LC DC : List Value) (n1 n2 : Nat) : Prop where
  len1 : ∀ H, len 1 x1 H = some (.int .i64 n1)
  len2 : ∀ H, len 1 x2 H = some (.int .i64 n2)
  sa1 : ∀ i : Nat, i < n1 → sa 5 x1 (.int .i64 i) = some (ptr 4 (i * 5))
  sa2 : ∀ i : Nat, i < n2 → sa 1 x2 (.int .i64 i) = some (ptr 5 i)
  le1 : LC.length = n1 * 5
  get1 : ∀ i : Nat, i < n1 → ∃ op A B C I, (LC.drop (i * 5)).take 5 = [.int .i64 op, .int .i64 A, .int .i64 B, .int .i64 C, .int .i64 I]
  get2 : ∀ i : Nat, i < n2 → ∃ v, DC[i]? = some (.int .u64 v) ∧ inK .u64 v
noncomputable def B5 (C : Cl) : List Value → Hp → (List Value → Hp → R) → (Nat → Fr → Hp → R) → (Fr → Hp → R) → R := fun vs9 H10 kn11 kx12 kr13 =>  (len 1 (vs9.getD 0 dead) H10).bind fun t21 => (bin 0 .lss (vs9.getD 4 dead) t21).bind fun t22 => (ifG t22 true (some ((vs9.getD 4 dead), H10)) (some (undef, H10))).bind fun p14 => (ifG t22 true ((bin 0 .lss p14.1 (.int .i64 300)).bind fun t25 => some (t25, p14.2)) (some (undef, p14.2))).bind fun p15 => (pick t22 p15.1 (.bool false)).bind fun t26 => ifB t26 ((cvI .u64 (vs9.getD 4 dead)).bind fun t30 => jn ((len 1 (vs9.getD 1 dead) p15.2).bind fun t33 => (bin 0 .lss (vs9.getD 4 dead) t33).bind fun t34 => ifB t34 ((sa 1 (vs9.getD 1 dead) (vs9.getD 4 dead)).bind fun t37 => (ld t37 p15.2).bind fun t38 => some (.nrm [(vs9.getD 0 dead), (vs9.getD 1 dead), (vs9.getD 2 dead), (vs9.getD 3 dead), (vs9.getD 4 dead), t38] p15.2)) (some (.nrm [(vs9.getD 0 dead), (vs9.getD 1 dead), (vs9.getD 2 dead), (vs9.getD 3 dead), (vs9.getD 4 dead), t30] p15.2))) pnK noX noR fun vs16 H17 => (ldN 25 (vs16.getD 2 dead) H17.cl).bind fun t40 => (sa 5 (vs16.getD 0 dead) (vs16.getD 4 dead)).bind fun t43 => (ldN 5 t43 H17.cl.cl.cl.cl.cl).bind fun t44 => callK (C 20 [t40, t44, (vs16.getD 5 dead)] H17.cl.cl.cl.cl.cl.cl.cl) pnN fun t46 H18 => (ext1 t46 0).bind fun t47 => (ext1 t46 1).bind fun t48 => (ext1 t46 2).bind fun t49 => let H19 := H18.cl.cl.cl.cl.cl.new (.rw [(.int .u32 0), (.int .u32 0), (.int .u32 0), (.int .u32 0), (.int .u32 0), (.int .u32 0), (.int .u32 0), (.int .u32 0), (.int .u32 0), (.int .u32 0), (.int .u32 0), (.int .u32 0), (.int .u32 0), (.int .u32 0), (.int .u32 0), (.int .u32 0), (.int .u64 0), (.int .u64 0), (.int .u64 0), (.int .u64 0), (.int .u64 0), (.int .u64 0), (.int .u64 0), (.int .u64 0), (.int .u32 0)]); (rdA (ptr H18.cl.cl.cl.cl.cl.next 0)).bind fun b20 => bif memN b20 [] then none else (st 25 (ptr H18.cl.cl.cl.cl.cl.next 0) t47 (H19.cl.cl.opn H17.lim)).bind fun H21 => (ldN 25 (vs16.getD 3 dead) H21.cl).bind fun t51 => (sa 5 (vs16.getD 0 dead) (vs16.getD 4 dead)).bind fun t54 => (ldN 5 t54 H21.cl.cl.cl.cl.cl).bind fun t55 => callK (C 21 [t51, t55, (vs16.getD 5 dead)] H21.cl.cl.cl.cl.cl.cl.cl) pnN fun t57 H22 => (ext1 t57 0).bind fun t58 => (ext1 t57 1).bind fun t59 => (ext1 t57 2).bind fun t60 => let H23 := H22.cl.cl.cl.cl.cl.new (.rw [(.int .u32 0), (.int .u32 0), (.int .u32 0), (.int .u32 0), (.int .u32 0), (.int .u32 0), (.int .u32 0), (.int .u32 0), (.int .u32 0), (.int .u32 0), (.int .u32 0), (.int .u32 0), (.int .u32 0), (.int .u32 0), (.int .u32 0), (.int .u32 0), (.int .u64 0), (.int .u64 0), (.int .u64 0), (.int .u64 0), (.int .u64 0), (.int .u64 0), (.int .u64 0), (.int .u64 0), (.int .u32 0)]); (rdA (ptr H22.cl.cl.cl.cl.cl.next 0)).bind fun b24 => bif memN b24 [] then none else (st 25 (ptr H22.cl.cl.cl.cl.cl.next 0) t58 (H23.cl.cl.opn H21.lim)).bind fun H25 => (ldN 25 (ptr H18.cl.cl.cl.cl.cl.next 0) H25).bind fun t61 => (ldN 25 (ptr H22.cl.cl.cl.cl.cl.next 0) H25).bind fun t62 => (beqA [0, 0, 0, 0, 0, 0, 0, 0, 0, 0, 0, 0, 0, 0, 0, 0, 0, 0, 0, 0, 0, 0, 0, 0, 0] .neq t61 t62).bind fun t63 => (ifG t63 false (some (t48, H25)) (some (undef, H25))).bind fun p26 => (ifG t63 false (some (t59, p26.2)) (some (undef, p26.2))).bind fun p27 => (ifG t63 false ((bin 0 .neq p26.1 p27.1).bind fun t67 => some (t67, p27.2)) (some (undef, p27.2))).bind fun p28 => (pick t63 (.bool true) p28.1).bind fun t68 => (ifG t68 false (some (t49, p28.2)) (some (undef, p28.2))).bind fun p29 => (ifG t68 false (some (t60, p29.2)) (some (undef, p29.2))).bind fun p30 => (ifG t68 false ((bin 0 .neq p29.1 p30.1).bind fun t72 => some (t72, p30.2)) (some (undef, p30.2))).bind fun p31 => (pick t68 (.bool true) p31.1).bind fun t73 => ifB t73 (kr13 (Fr.of [6, 7, 8] [(.bool false), (vs16.getD 2 dead), (vs16.getD 3 dead)]) p31.2) ((ldN 25 (ptr H18.cl.cl.cl.cl.cl.next 0) p31.2).bind fun t74 => (st 25 (vs16.getD 2 dead) t74 p31.2).bind fun H32 => (ldN 25 (ptr H22.cl.cl.cl.cl.cl.next 0) H32).bind fun t75 => (st 25 (vs16.getD 3 dead) t75 H32).bind fun H33 => (bin 0 .add (vs16.getD 4 dead) (.int .i64 1)).bind fun t28 => kn11 [(vs16.getD 0 dead), (vs16.getD 1 dead), (vs16.getD 2 dead), (vs16.getD 3 dead), t28] H33)) (kx12 0 (Fr.of [6, 7, 8] [((Fr.of [1, 2, 7, 8, 9] vs9).g 6), (vs9.getD 2 dead), (vs9.getD 3 dead)]) p15.2)
theorem B5_app (C : Cl) (vs9 : List Value) (H10 : Hp) (kn11 : List Value → Hp → R) (kx12 : Nat → Fr → Hp → R) (kr13 : Fr → Hp → R) : B5 C vs9 H10 kn11 kx12 kr13 =  (len 1 (vs9.getD 0 dead) H10).bind fun t21 => (bin 0 .lss (vs9.getD 4 dead) t21).bind fun t22 => (ifG t22 true (some ((vs9.getD 4 dead), H10)) (some (undef, H10))).bind fun p14 => (ifG t22 true ((bin 0 .lss p14.1 (.int .i64 300)).bind fun t25 => some (t25, p14.2)) (some (undef, p14.2))).bind fun p15 => (pick t22 p15.1 (.bool false)).bind fun t26 => ifB t26 ((cvI .u64 (vs9.getD 4 dead)).bind fun t30 => jn ((len 1 (vs9.getD 1 dead) p15.2).bind fun t33 => (bin 0 .lss (vs9.getD 4 dead) t33).bind fun t34 => ifB t34 ((sa 1 (vs9.getD 1 dead) (vs9.getD 4 dead)).bind fun t37 => (ld t37 p15.2).bind fun t38 => some (.nrm [(vs9.getD 0 dead), (vs9.getD 1 dead), (vs9.getD 2 dead), (vs9.getD 3 dead), (vs9.getD 4 dead), t38] p15.2)) (some (.nrm [(vs9.getD 0 dead), (vs9.getD 1 dead), (vs9.getD 2 dead), (vs9.getD 3 dead), (vs9.getD 4 dead), t30] p15.2))) pnK noX noR fun vs16 H17 => (ldN 25 (vs16.getD 2 dead) H17.cl).bind fun t40 => (sa 5 (vs16.getD 0 dead) (vs16.getD 4 dead)).bind fun t43 => (ldN 5 t43 H17.cl.cl.cl.cl.cl).bind fun t44 => callK (C 20 [t40, t44, (vs16.getD 5 dead)] H17.cl.cl.cl.cl.cl.cl.cl) pnN fun t46 H18 => (ext1 t46 0).bind fun t47 => (ext1 t46 1).bind fun t48 => (ext1 t46 2).bind fun t49 => let H19 := H18.cl.cl.cl.cl.cl.new (.rw [(.int .u32 0), (.int .u32 0), (.int .u32 0), (.int .u32 0), (.int .u32 0), (.int .u32 0), (.int .u32 0), (.int .u32 0), (.int .u32 0), (.int .u32 0), (.int .u32 0), (.int .u32 0), (.int .u32 0), (.int .u32 0), (.int .u32 0), (.int .u32 0), (.int .u64 0), (.int .u64 0), (.int .u64 0), (.int .u64 0), (.int .u64 0), (.int .u64 0), (.int .u64 0), (.int .u64 0), (.int .u32 0)]); (rdA (ptr H18.cl.cl.cl.cl.cl.next 0)).bind fun b20 => bif memN b20 [] then none else (st 25 (ptr H18.cl.cl.cl.cl.cl.next 0) t47 (H19.cl.cl.opn H17.lim)).bind fun H21 => (ldN 25 (vs16.getD 3 dead) H21.cl).bind fun t51 => (sa 5 (vs16.getD 0 dead) (vs16.getD 4 dead)).bind fun t54 => (ldN 5 t54 H21.cl.cl.cl.cl.cl).bind fun t55 => callK (C 21 [t51, t55, (vs16.getD 5 dead)] H21.cl.cl.cl.cl.cl.cl.cl) pnN fun t57 H22 => (ext1 t57 0).bind fun t58 => (ext1 t57 1).bind fun t59 => (ext1 t57 2).bind fun t60 => let H23 := H22.cl.cl.cl.cl.cl.new (.rw [(.int .u32 0), (.int .u32 0), (.int .u32 0), (.int .u32 0), (.int .u32 0), (.int .u32 0), (.int .u32 0), (.int .u32 0), (.int .u32 0), (.int .u32 0), (.int .u32 0), (.int .u32 0), (.int .u32 0), (.int .u32 0), (.int .u32 0), (.int .u32 0), (.int .u64 0), (.int .u64 0), (.int .u64 0), (.int .u64 0), (.int .u64 0), (.int .u64 0), (.int .u64 0), (.int .u64 0), (.int .u32 0)]); (rdA (ptr H22.cl.cl.cl.cl.cl.next 0)).bind fun b24 => bif memN b24 [] then none else (st 25 (ptr H22.cl.cl.cl.cl.cl.next 0) t58 (H23.cl.cl.opn H21.lim)).bind fun H25 => (ldN 25 (ptr H18.cl.cl.cl.cl.cl.next 0) H25).bind fun t61 => (ldN 25 (ptr H22.cl.cl.cl.cl.cl.next 0) H25).bind fun t62 => (beqA [0, 0, 0, 0, 0, 0, 0, 0, 0, 0, 0, 0, 0, 0, 0, 0, 0, 0, 0, 0, 0, 0, 0, 0, 0] .neq t61 t62).bind fun t63 => (ifG t63 false (some (t48, H25)) (some (undef, H25))).bind fun p26 => (ifG t63 false (some (t59, p26.2)) (some (undef, p26.2))).bind fun p27 => (ifG t63 false ((bin 0 .neq p26.1 p27.1).bind fun t67 => some (t67, p27.2)) (some (undef, p27.2))).bind fun p28 => (pick t63 (.bool true) p28.1).bind fun t68 => (ifG t68 false (some (t49, p28.2)) (some (undef, p28.2))).bind fun p29 => (ifG t68 false (some (t60, p29.2)) (some (undef, p29.2))).bind fun p30 => (ifG t68 false ((bin 0 .neq p29.1 p30.1).bind fun t72 => some (t72, p30.2)) (some (undef, p30.2))).bind fun p31 => (pick t68 (.bool true) p31.1).bind fun t73 => ifB t73 (kr13 (Fr.of [6, 7, 8] [(.bool false), (vs16.getD 2 dead), (vs16.getD 3 dead)]) p31.2) ((ldN 25 (ptr H18.cl.cl.cl.cl.cl.next 0) p31.2).bind fun t74 => (st 25 (vs16.getD 2 dead) t74 p31.2).bind fun H32 => (ldN 25 (ptr H22.cl.cl.cl.cl.cl.next 0) H32).bind fun t75 => (st 25 (vs16.getD 3 dead) t75 H32).bind fun H33 => (bin 0 .add (vs16.getD 4 dead) (.int .i64 1)).bind fun t28 => kn11 [(vs16.getD 0 dead), (vs16.getD 1 dead), (vs16.getD 2 dead), (vs16.getD 3 dead), t28] H33)) (kx12 0 (Fr.of [6, 7, 8] [((Fr.of [1, 2, 7, 8, 9] vs9).g 6), (vs9.getD 2 dead), (vs9.getD 3 dead)]) p15.2) := rfl
theorem s5_B (C : Cl) (n : Nat) (x0 x1 x2 : Value) (H : Hp) : s5 C n x0 x1 x2 H = ( (bx x0).bind fun c2 => let H1 := H.new (.rw c2); (ldN 25 (ptr H.next 0) H1.cl).bind fun t17 => ((rdA (ptr H.next 0)).map fun c => [c]).bind fun r3 => (ldN 25 (ptr H.next 0) H1.cl.cl).bind fun t18 => let H4 := H1.cl.cl.cl.new (.rw [(.int .u32 0), (.int .u32 0), (.int .u32 0), (.int .u32 0), (.int .u32 0), (.int .u32 0), (.int .u32 0), (.int .u32 0), (.int .u32 0), (.int .u32 0), (.int .u32 0), (.int .u32 0), (.int .u32 0), (.int .u32 0), (.int .u32 0), (.int .u32 0), (.int .u64 0), (.int .u64 0), (.int .u64 0), (.int .u64 0), (.int .u64 0), (.int .u64 0), (.int .u64 0), (.int .u64 0), (.int .u32 0)]); let H5 := H4.cl.new (.rw [(.int .u32 0), (.int .u32 0), (.int .u32 0), (.int .u32 0), (.int .u32 0), (.int .u32 0), (.int .u32 0), (.int .u32 0), (.int .u32 0), (.int .u32 0), (.int .u32 0), (.int .u32 0), (.int .u32 0), (.int .u32 0), (.int .u32 0), (.int .u32 0), (.int .u64 0), (.int .u64 0), (.int .u64 0), (.int .u64 0), (.int .u64 0), (.int .u64 0), (.int .u64 0), (.int .u64 0), (.int .u32 0)]); (rdA (ptr H1.cl.cl.cl.next 0)).bind fun b6 => bif memN b6 (r3 ++ []) then none else (st 25 (ptr H1.cl.cl.cl.next 0) t17 (H5.cl.opn H1.lim)).bind fun H7 => (st 25 (ptr H4.cl.next 0) t18 H7).bind fun H8 =>  lp (B5 C) n [x1, x2, (ptr H1.cl.cl.cl.next 0), (ptr H4.cl.next 0), (.int .i64 0)] H8 (fun j34 f35 H36 => if j34 = 0 then (ldN 25 (f35.g 7) H36).bind fun t76 => (ldN 25 (f35.g 8) H36).bind fun t77 => (beqA [0, 0, 0, 0, 0, 0, 0, 0, 0, 0, 0, 0, 0, 0, 0, 0, 0, 0, 0, 0, 0, 0, 0, 0, 0] .eql t76 t77).bind fun t78 => some (.ret t78, H36) else none) (fun f37 H38 => some (.ret (f37.g 6), H38))) := rfl
theorem lp5 (n : Nat) {x1 x2 : Value} {LC DC : List Value} {n1 n2 : Nat} (hI : In5 x1 x2 LC DC n1 n2) : ∀ (m i : Nat) (H : Hp) (R F : Nat → Int) (pc : Int), i + m = 300 → St5 LC DC H R F pc →
    ∃ H', lp (B5 (evCall cfc (n+80))) (m + 1) [x1, x2, ptr 7 0, ptr 8 0, .int .i64 i] H (fun j34 f35 H36 => if j34 = 0 then (ldN 25 (f35.g 7) H36).bind fun t76 => (ldN 25 (f35.g 8) H36).bind fun t77 => (beqA [0, 0, 0, 0, 0, 0, 0, 0, 0, 0, 0, 0, 0, 0, 0, 0, 0, 0, 0, 0, 0, 0, 0, 0, 0] .eql t76 t77).bind fun t78 => some (.ret t78, H36) else none) (fun f37 H38 => some (.ret (f37.g 6), H38)) = some (.ret (.bool true), H')
  | m, i, H, R, F, pc, hm, hS => by
    obtain ⟨c4, c5, c7, c8, w7, w8, hl, hn, hR, hF, hP⟩ := hS
    by_cases h1 : i < n1
    · have g1 : ((i : Int) < (n1 : Int)) = True := eq_true (by omega)
      by_cases h2 : i < 300
      · have g2 : ((i : Int) < 300) = True := eq_true (by omega)
        obtain ⟨op, A, B, C, I, hi⟩ := hI.get1 i h1
        have hle : (i * 5 + 5 ≤ LC.length) = True := eq_true (by have := hI.le1; omega)
        obtain ⟨ld, hld, hcond⟩ : ∃ ld, inK .u64 ld ∧ ((i < n2 ∧ DC[i]? = some (.int .u64 ld)) ∨ (¬ i < n2 ∧ ld = IntKind.wrap .u64 i)) := by
          by_cases h3 : i < n2
          · obtain ⟨v, hv, hv2⟩ := hI.get2 i h3
            exact ⟨v, hv2, .inl ⟨h3, hv⟩⟩
          · refine ⟨_, ?_, .inr ⟨h3, rfl⟩⟩
            have := u64_wrap i
            exact ⟨this.1, Int.le_of_lt_add_one this.2⟩
        have hl64 : U64 ld := ⟨hld.1, Int.lt_add_one_of_le hld.2⟩
        obtain ⟨R2, F2, pc2, c, t, e20, e21, hR2, hF2, hP2⟩ := both R F pc op A B C I ld hR hF hP hl64
        obtain ⟨m', rfl⟩ : ∃ m', m = m' + 1 := ⟨m - 1, by omega⟩
        obtain ⟨N, hN⟩ : ∃ N, H.next = N := ⟨_, rfl⟩
        have n7 : (7 = N) = False := eq_false (by omega)
        have n8 : (8 = N) = False := eq_false (by omega)
        have n4 : (4 = N) = False := eq_false (by omega)
        have n5 : (5 = N) = False := eq_false (by omega)
        have n6 : (N = 6) = False := eq_false (by omega)
        have n6' : (N + 1 = 6) = False := eq_false (by omega)
        have n7' : (7 = N + 1) = False := eq_false (by omega)
        have n8' : (8 = N + 1) = False := eq_false (by omega)
        have n4' : (4 = N + 1) = False := eq_false (by omega)
        have n5' : (5 = N + 1) = False := eq_false (by omega)
        have nn : (N = N + 1) = False := eq_false (by omega)
        have nn' : (N + 1 = N) = False := eq_false (by omega)
        have l1 : (N ≤ N + 1) = True := eq_true (by omega)
        have l6 : (6 ≤ N) = True := eq_true (by omega)
        have l6' : (6 ≤ N + 1) = True := eq_true (by omega)
        have ei : IntKind.wrap .i64 ((i : Int) + 1) = ((i + 1 : Nat) : Int) := IntWalk.i64_in _ (by omega)
        have ih := lp5 n hI m' (i + 1)
        rw [lp_succ]
        have hs1 := hI.sa1 i h1
        have hl1 := hI.len1
        have hl2 := hI.len2
        rcases hcond with ⟨h3, hv⟩ | ⟨h3, rfl⟩
        · have g3 : ((i : Int) < (n2 : Int)) = True := eq_true (by omega)
          have hs2 := hI.sa2 i h3
          simp -implicitDefEqProofs only [B5_app, hl1, hl2, hs1, hs2, g1, g2, g3, hv, hle, hi, c4, c5, c7, c8, w7, w8, hl, hN, n4, n5, n6, n6', n7, n8, n4', n5', n7', n8', nn, nn', l1, l6, l6', e20, e21, ei, tabs_gn, ↓EVdn, EVup, goInt, splice, okC, Fr.of, Fr.ofI, Fr.g, Nat.reduceAdd, Nat.reduceMul, Nat.reduceEqDiff, Nat.reduceLT, Nat.reduceLeDiff, Nat.reduceBEq, Int.reduceLT, Int.reduceLE, Int.reduceToNat, Int.reduceAdd, Int.reduceSub, Int.reduceMul, Int.reduceEq, Int.reduceNeg, ↓reduceIte, ↓reduceDIte, Nat.beq, reduceCtorEq, Value.int.injEq, Nat.reduceSub, flat_int, flat_bool, flat_i5, regs_flat, upd_upd, beq_self_eq_true, get_opn]
          refine ih _ R2 F2 pc2 (by omega) ⟨?_, ?_, ?_, ?_, ?_, ?_, ?_, ?_, hR2, hF2, hP2⟩
          all_goals first
            | (simp -implicitDefEqProofs only [hl, hN, c4, c5, c7, c8, w7, w8, n4, n5, n6, n6', n7, n8, n4', n5', n7', n8', nn, nn', tabs_gn, ↓EVdn, EVup, goInt, splice, okC, Fr.of, Fr.ofI, Fr.g, Nat.reduceAdd, Nat.reduceMul, Nat.reduceEqDiff, Nat.reduceLT, Nat.reduceLeDiff, Nat.reduceBEq, Int.reduceLT, Int.reduceLE, Int.reduceToNat, Int.reduceAdd, Int.reduceSub, Int.reduceMul, Int.reduceEq, Int.reduceNeg, ↓reduceIte, ↓reduceDIte, Nat.beq, reduceCtorEq, Value.int.injEq, Nat.reduceSub, flat_int, flat_bool, flat_i5, regs_flat, upd_upd, beq_self_eq_true, get_opn]; done)
            | (simp -implicitDefEqProofs only [hl, hN, c4, c5, c7, c8, w7, w8, n4, n5, n6, n6', n7, n8, n4', n5', n7', n8', nn, nn', tabs_gn, ↓EVdn, EVup, goInt, splice, okC, Fr.of, Fr.ofI, Fr.g, Nat.reduceAdd, Nat.reduceMul, Nat.reduceEqDiff, Nat.reduceLT, Nat.reduceLeDiff, Nat.reduceBEq, Int.reduceLT, Int.reduceLE, Int.reduceToNat, Int.reduceAdd, Int.reduceSub, Int.reduceMul, Int.reduceEq, Int.reduceNeg, ↓reduceIte, ↓reduceDIte, Nat.beq, reduceCtorEq, Value.int.injEq, Nat.reduceSub, flat_int, flat_bool, flat_i5, regs_flat, upd_upd, beq_self_eq_true, get_opn]; omega)
        · have g3 : ((i : Int) < (n2 : Int)) = False := eq_false (by omega)
          simp -implicitDefEqProofs only [B5_app, hl1, hl2, hs1, g1, g2, g3, hle, hi, c4, c5, c7, c8, w7, w8, hl, hN, n4, n5, n6, n6', n7, n8, n4', n5', n7', n8', nn, nn', l1, l6, l6', e20, e21, ei, tabs_gn, ↓EVdn, EVup, goInt, splice, okC, Fr.of, Fr.ofI, Fr.g, Nat.reduceAdd, Nat.reduceMul, Nat.reduceEqDiff, Nat.reduceLT, Nat.reduceLeDiff, Nat.reduceBEq, Int.reduceLT, Int.reduceLE, Int.reduceToNat, Int.reduceAdd, Int.reduceSub, Int.reduceMul, Int.reduceEq, Int.reduceNeg, ↓reduceIte, ↓reduceDIte, Nat.beq, reduceCtorEq, Value.int.injEq, Nat.reduceSub, flat_int, flat_bool, flat_i5, regs_flat, upd_upd, beq_self_eq_true, get_opn]
          refine ih _ R2 F2 pc2 (by omega) ⟨?_, ?_, ?_, ?_, ?_, ?_, ?_, ?_, hR2, hF2, hP2⟩
          all_goals first
            | (simp -implicitDefEqProofs only [hl, hN, c4, c5, c7, c8, w7, w8, n4, n5, n6, n6', n7, n8, n4', n5', n7', n8', nn, nn', tabs_gn, ↓EVdn, EVup, goInt, splice, okC, Fr.of, Fr.ofI, Fr.g, Nat.reduceAdd, Nat.reduceMul, Nat.reduceEqDiff, Nat.reduceLT, Nat.reduceLeDiff, Nat.reduceBEq, Int.reduceLT, Int.reduceLE, Int.reduceToNat, Int.reduceAdd, Int.reduceSub, Int.reduceMul, Int.reduceEq, Int.reduceNeg, ↓reduceIte, ↓reduceDIte, Nat.beq, reduceCtorEq, Value.int.injEq, Nat.reduceSub, flat_int, flat_bool, flat_i5, regs_flat, upd_upd, beq_self_eq_true, get_opn]; done)
            | (simp -implicitDefEqProofs only [hl, hN, c4, c5, c7, c8, w7, w8, n4, n5, n6, n6', n7, n8, n4', n5', n7', n8', nn, nn', tabs_gn, ↓EVdn, EVup, goInt, splice, okC, Fr.of, Fr.ofI, Fr.g, Nat.reduceAdd, Nat.reduceMul, Nat.reduceEqDiff, Nat.reduceLT, Nat.reduceLeDiff, Nat.reduceBEq, Int.reduceLT, Int.reduceLE, Int.reduceToNat, Int.reduceAdd, Int.reduceSub, Int.reduceMul, Int.reduceEq, Int.reduceNeg, ↓reduceIte, ↓reduceDIte, Nat.beq, reduceCtorEq, Value.int.injEq, Nat.reduceSub, flat_int, flat_bool, flat_i5, regs_flat, upd_upd, beq_self_eq_true, get_opn]; omega)
      · have g2 : ((i : Int) < 300) = False := eq_false (by omega)
        have hl1 := hI.len1
        rw [lp_succ]
        exact ⟨H, by simp -implicitDefEqProofs only [B5_app, hl1, g1, g2, c7, c8, regs_self, tabs_gn, ↓EVdn, EVup, goInt, splice, okC, Fr.of, Fr.ofI, Fr.g, Nat.reduceAdd, Nat.reduceMul, Nat.reduceEqDiff, Nat.reduceLT, Nat.reduceLeDiff, Nat.reduceBEq, Int.reduceLT, Int.reduceLE, Int.reduceToNat, Int.reduceAdd, Int.reduceSub, Int.reduceMul, Int.reduceEq, Int.reduceNeg, ↓reduceIte, ↓reduceDIte, Nat.beq, reduceCtorEq, Value.int.injEq, Nat.reduceSub, flat_int, flat_bool, flat_i5, regs_flat, upd_upd, beq_self_eq_true, get_opn]⟩
    · have g1 : ((i : Int) < (n1 : Int)) = False := eq_false (by omega)
      have hl1 := hI.len1
      rw [lp_succ]
      exact ⟨H, by simp -implicitDefEqProofs only [B5_app, hl1, g1, c7, c8, regs_self, tabs_gn, ↓EVdn, EVup, goInt, splice, okC, Fr.of, Fr.ofI, Fr.g, Nat.reduceAdd, Nat.reduceMul, Nat.reduceEqDiff, Nat.reduceLT, Nat.reduceLeDiff, Nat.reduceBEq, Int.reduceLT, Int.reduceLE, Int.reduceToNat, Int.reduceAdd, Int.reduceSub, Int.reduceMul, Int.reduceEq, Int.reduceNeg, ↓reduceIte, ↓reduceDIte, Nat.beq, reduceCtorEq, Value.int.injEq, Nat.reduceSub, flat_int, flat_bool, flat_i5, regs_flat, upd_upd, beq_self_eq_true, get_opn]⟩
/-- the memory that the call begins with: the slices' elements -/
def hp5 (LC DC : List Value) : Hp := ⟨6, 6, (Map.lf.put 4 (some (.ro LC))).put 5 (some (.ro DC))⟩
theorem hp5_get (LC DC : List Value) (i : Nat) : (hp5 LC DC).get i = if i = 5 then some (.ro DC) else if i = 4 then some (.ro LC) else (Tabs.base : Map Blk).get i := by
  unfold hp5 Hp.get
  simp only [Map.get_put]
  by_cases h5 : i = 5
  · simp [h5]
  · by_cases h4 : i = 4
    · simp [h4]
    · simp [h5, h4, Map.get]
theorem hp5_c4 (LC DC : List Value) : (hp5 LC DC).cells 4 = some LC := by simp [Hp.cells, hp5_get]
theorem hp5_c5 (LC DC : List Value) : (hp5 LC DC).cells 5 = some DC := by simp [Hp.cells, hp5_get]
theorem hp5_next (LC DC : List Value) : (hp5 LC DC).next = 6 := rfl
theorem hp5_lim (LC DC : List Value) : (hp5 LC DC).lim = 6 := rfl
theorem v5 {x1 x2 : Value} {LC DC : List Value} {n1 n2 : Nat} (hI : In5 x1 x2 LC DC n1 n2) (R F : Nat → Int) (pc : Int) (hR : ∀ i, i < 16 → inK .u32 (R i)) (hF : ∀ i, i < 8 → inK .u64 (F i)) (hP : 0 ≤ pc ∧ pc < 4294967296) :
    ∃ H', s5 (evCall cfc 301) 301 (.agg (regs R F pc).toArray) x1 x2 (hp5 LC DC) = some (.ret (.bool true), H') := by
  have c4 := hp5_c4 LC DC
  have c5 := hp5_c5 LC DC
  have nx := hp5_next LC DC
  have lm := hp5_lim LC DC
  generalize hp5 LC DC = H at c4 c5 nx lm
  have key : ∀ H2, St5 LC DC H2 R F pc → _ := fun H2 h => lp5 221 hI 300 0 H2 R F pc rfl h
  rw [s5_B]
  have c0 : ((0 : Nat) : Int) = 0 := rfl
  simp only [c0] at key
  simp -implicitDefEqProofs only [c4, c5, nx, lm, tabs_gn, ↓EVdn, EVup, goInt, splice, okC, Fr.of, Fr.ofI, Fr.g, Nat.reduceAdd, Nat.reduceMul, Nat.reduceEqDiff, Nat.reduceLT, Nat.reduceLeDiff, Nat.reduceBEq, Int.reduceLT, Int.reduceLE, Int.reduceToNat, Int.reduceAdd, Int.reduceSub, Int.reduceMul, Int.reduceEq, Int.reduceNeg, ↓reduceIte, ↓reduceDIte, Nat.beq, reduceCtorEq, Value.int.injEq, Nat.reduceSub, flat_int, flat_bool, flat_i5, regs_flat, upd_upd, beq_self_eq_true, get_opn]
  refine key _ ⟨?_, ?_, ?_, ?_, ?_, ?_, ?_, ?_, hR, hF, hP⟩
  all_goals first
    | (simp -implicitDefEqProofs only [c4, c5, nx, lm, tabs_gn, ↓EVdn, EVup, lp_succ, goInt, splice, okC, Fr.of, Fr.ofI, Fr.g, Nat.reduceAdd, Nat.reduceMul, Nat.reduceEqDiff, Nat.reduceLT, Nat.reduceLeDiff, Nat.reduceBEq, Int.reduceLT, Int.reduceLE, Int.reduceToNat, Int.reduceAdd, Int.reduceSub, Int.reduceMul, Int.reduceEq, Int.reduceNeg, ↓reduceIte, ↓reduceDIte, Nat.beq, reduceCtorEq, Value.int.injEq, Nat.reduceSub, flat_int, flat_bool, flat_i5, regs_flat, upd_upd, beq_self_eq_true, get_opn]; done)
    | (simp -implicitDefEqProofs only [c4, c5, nx, lm, tabs_gn, ↓EVdn, EVup, lp_succ, goInt, splice, okC, Fr.of, Fr.ofI, Fr.g, Nat.reduceAdd, Nat.reduceMul, Nat.reduceEqDiff, Nat.reduceLT, Nat.reduceLeDiff, Nat.reduceBEq, Int.reduceLT, Int.reduceLE, Int.reduceToNat, Int.reduceAdd, Int.reduceSub, Int.reduceMul, Int.reduceEq, Int.reduceNeg, ↓reduceIte, ↓reduceDIte, Nat.beq, reduceCtorEq, Value.int.injEq, Nat.reduceSub, flat_int, flat_bool, flat_i5, regs_flat, upd_upd, beq_self_eq_true, get_opn]; omega)
end Go.Proofs.YthenglaoolmajaaDoor
