/- The library's contracts keep what the evaluator is told of them. -/
import Derived.Test.YtbaooebafijenaaGreatDoorHlib
import Derived.Test.YtbaooebafijenaaGreatDoorHvLib
import Derived.Test.YtbaooebafijenaaGreatDoorHshelf
namespace Go.Proofs.YtbaooebafijenaaGreatDoor
open Go Go.Ev Go.RowKit
set_option maxRecDepth 100000
set_option linter.unusedVariables false
set_option linter.unusedSectionVars false
variable [Mx]
theorem globs : Tryz.prog.globals.size = 11 := by kernel_rfl
theorem named_pow : Tryz.prog.globalNamed "internal/strconv.uint64pow10" = some 8 := by kernel_rfl
theorem pow_flat : powC.all flat = true := by kernel_rfl
theorem pow_eq : powC = Lib.pow10Tab.map fun z => Value.int .u64 z := by kernel_rfl
theorem has80 : ∃ fn, Tryz.prog.funcs[80]? = some fn ∧ fn.name ≠ "runtime.NumGoroutine" ∧ fn.body.isSome = true := ⟨Tryz.f80, by kernel_rfl, by decide, by kernel_rfl⟩
theorem has12 : ∃ fn, Tryz.prog.funcs[12]? = some fn ∧ fn.name ≠ "runtime.NumGoroutine" ∧ fn.body.isSome = true := ⟨Tryz.f12, by kernel_rfl, by decide, by kernel_rfl⟩
theorem has13 : ∃ fn, Tryz.prog.funcs[13]? = some fn ∧ fn.name ≠ "runtime.NumGoroutine" ∧ fn.body.isSome = true := ⟨Tryz.f13, by kernel_rfl, by decide, by kernel_rfl⟩
theorem has63 : ∃ fn, Tryz.prog.funcs[63]? = some fn ∧ fn.name ≠ "runtime.NumGoroutine" ∧ fn.body.isSome = true := ⟨Tryz.f63, by kernel_rfl, by decide, by kernel_rfl⟩
theorem has72 : ∃ fn, Tryz.prog.funcs[72]? = some fn ∧ fn.name ≠ "runtime.NumGoroutine" ∧ fn.body.isSome = true := ⟨Tryz.f72, by kernel_rfl, by decide, by kernel_rfl⟩
theorem has79 : ∃ fn, Tryz.prog.funcs[79]? = some fn ∧ fn.name ≠ "runtime.NumGoroutine" ∧ fn.body.isSome = true := ⟨Tryz.f79, by kernel_rfl, by decide, by kernel_rfl⟩
theorem below_drewN (w : World) (n : Nat) : Below w.heap.size w (w.drewN n) := ⟨rfl, rfl, rfl, Nat.le_refl _, fun _ _ => rfl⟩
theorem below_grow (w : World) (n : Nat) (os : Array Obj) : Below w.heap.size w (Go.Sort.grow (w.drewN n) os) := by
 refine ⟨rfl, rfl, rfl, ?_, fun k hk => ?_⟩
 · show w.heap.size ≤ (w.heap ++ os).size
   simp
 · show (w.heap ++ os)[k]? = _
   rw [Array.getElem?_append_left hk]
theorem extL_ok : ExtOK Tryz.prog extL := by
 intro f args v h
 unfold extL at h
 split at h
 · rename_i n
   split at h
   · rename_i hn
     cases h
     refine ext_of (by rfl) has80 fun w ⟨ρ, H, hS⟩ => ?_
     obtain ⟨e, z, hw⟩ := hS.base_flat (g := 8) (by rw [globs]; decide) (cs := powC) rfl pow_flat
     have ht : Lib.TabIs Tryz.prog w "internal/strconv.uint64pow10" .u64 Lib.pow10Tab := by
       unfold Lib.TabIs World.var?
       rw [named_pow]
       simp only [Option.bind_some, hw, pow_eq]
     refine (Tryz.strconv_Itoa n hn.1 hn.2 w ht).mono ?_
     rintro e w' ⟨rfl, k, os, rfl⟩
     rw [← itoaF_eq n hn]
     exact ⟨⟨_, rfl, fun ρ => .string _⟩, below_grow w k os⟩
   · cases h
 · rename_i s p
   split at h
   · rename_i hs
     cases h
     refine ext_of (by rfl) has13 fun w ⟨ρ, H, hS⟩ => ?_
     obtain ⟨v', h1, h2⟩ := hS.base_cell (g := 2) (by rw [globs]; decide) (cs := [.int .i64 Mx.m]) rfl (i := 0) rfl
     cases h2
     refine (Tryz.strings_Cut s p _ w hs h1).mono ?_
     rintro e w' ⟨rfl, k, rfl⟩
     exact ⟨⟨_, rfl, fun ρ => VR.flatN_refl 4 _ rfl⟩, below_drewN w k⟩
   · cases h
 · rename_i s c
   cases h
   refine ext_of (by rfl) has63 fun w ⟨ρ, H, hS⟩ => ?_
   refine (Tryz.strings_Contains_one s c w).mono ?_
   rintro e w' ⟨rfl, rfl⟩
   exact ⟨⟨_, rfl, fun ρ => .bool _⟩, Below.refl _ _⟩
 · rename_i s p
   cases h
   refine ext_of (by rfl) has72 fun w ⟨ρ, H, hS⟩ => ?_
   refine (Tryz.strings_CutPrefix s p w).mono ?_
   rintro e w' ⟨rfl, rfl⟩
   exact ⟨⟨_, rfl, fun ρ => VR.flatN_refl 4 _ rfl⟩, Below.refl _ _⟩
 · rename_i s
   split at h
   · rename_i hs
     cases h
     refine ext_of (by rfl) has79 fun w ⟨ρ, H, hS⟩ => ?_
     unfold atoiV
     cases hat : Lib.atoiAll s.data.toList with
     | ok v =>
       refine (Tryz.strconv_Atoi_ok s (by omega) v hat w).mono ?_
       rintro e w' ⟨rfl, hw⟩
       refine ⟨⟨_, rfl, fun ρ => VR.flatN_refl 4 _ rfl⟩, ?_⟩
       rcases hw with rfl | ⟨t, rfl⟩
       · exact Below.refl _ _
       · exact Lib.bytesWorld_below _ _ _
     | range =>
       obtain ⟨v', h1, h2⟩ := hS.base_cell (g := 7) (by rw [globs]; decide) (cs := [.iface 187 dead]) rfl (i := 0) rfl
       cases h2 with
       | @iface _ _ p _ =>
         refine (Tryz.strconv_Atoi_range s hs hat _ w h1 (.inr ⟨_, _, rfl⟩)).mono ?_
         rintro e w' ⟨N, rfl, _, _, hb⟩
         exact ⟨⟨_, rfl, fun ρ => .tuple rfl (VL.cons (.int _ _) (VL.cons (.iface (.dead _)) VL.nil)).2⟩, hb⟩
     | _ =>
       obtain ⟨v', h1, h2⟩ := hS.base_cell (g := 6) (by rw [globs]; decide) (cs := [.iface 187 dead]) rfl (i := 0) rfl
       cases h2 with
       | @iface _ _ p _ =>
         refine (Any.strconv_Atoi_syntax Tryz.laysC172 s hs hat _ w h1 (.inr ⟨_, _, rfl⟩)).mono ?_
         rintro e w' ⟨N, rfl, _, _, hb⟩
         exact ⟨⟨_, rfl, fun ρ => VR.tuple rfl (VL.cons (.int _ _) (VL.cons (.iface (.dead _)) VL.nil)).2⟩, hb⟩
   · cases h
 · cases h
theorem exhL_ok : ExhOK Tryz.prog exhL := by
 intro f args H r h
 unfold exhL at h
 split at h
 · exact exhA_ok _ H r h
 · rename_i s sep
   split at h
   · rename_i hs
     cases h
     refine ⟨has12, fun ρ w args' hS ha => ?_⟩
     have := VL.flat_eq ha rfl
     subst this
     obtain ⟨v', h1, h2⟩ := hS.base_cell (g := 2) (by rw [globs]; decide) (cs := [.int .i64 Mx.m]) rfl (i := 0) rfl
     cases h2
     refine (Tryz.strings_Split s sep _ w hs.1 h1 hs.2).mono ?_
     rintro e w' ⟨rfl, rfl⟩
     have hst := new_sound hS 9 (cs := (Lib.splitB sep 0 (Lib.countB s sep) s).map Value.string) (c := ((Lib.splitB sep 0 (Lib.countB s sep) s).map Value.string).toArray) (VL.of_get rfl fun i x y hx hy => by
       rw [hx] at hy
       cases hy
       rw [List.getElem?_map, Option.map_eq_some_iff] at hx
       obtain ⟨t, _, rfl⟩ := hx
       exact .string _)
     refine ⟨_, hst.1, _, rfl, ?_⟩
     refine new_slice ρ H.next w.heap.size _ 1 _ _ (Nat.le_refl _) ?_
     have := Lib.splitB_all sep hs.2 0 _ s rfl
     simp [this]
   · cases h
 · cases h
end Go.Proofs.YtbaooebafijenaaGreatDoor
