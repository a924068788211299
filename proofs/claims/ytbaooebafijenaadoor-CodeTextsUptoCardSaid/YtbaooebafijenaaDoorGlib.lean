/- The library's functions that the program calls, as the evaluator is told of them: contracts of the kit's shelf, laid at this program. -/
import Derived.Test.YtbaooebafijenaaDoorGsh
import Derived.Test.YtbaooebafijenaaDoorGvLib
import Derived.Test.YtbaooebafijenaaDoorGshelf
namespace Go.Proofs.YtbaooebafijenaaDoor
open Go Go.Ev Go.RowKit
set_option maxRecDepth 100000
set_option linter.unusedVariables false
set_option linter.unusedSectionVars false
variable [Mx]

/-- a number's digits; f: at least so many -/
def digF : Nat → Nat → List UInt8
  | 0, _ => []
  | f + 1, u => if u < 10 then [UInt8.ofNat (48 + u)] else digF f (u / 10) ++ [UInt8.ofNat (48 + u % 10)]
theorem digF_eq : ∀ (f u : Nat), u < 10 ^ (f + 1) → digF (f + 1) u = Lib.decDigits u
  | 0, u, h => by
    rw [Lib.decDigits, dif_pos (by simpa using h)]
    simp only [digF]
    rw [if_pos (by simpa using h)]
  | f + 1, u, h => by
    rw [Lib.decDigits]
    simp only [digF]
    by_cases h1 : u < 10
    · rw [if_pos h1, dif_pos h1]
    · rw [if_neg h1, dif_neg h1]
      have h2 : u / 10 < 10 ^ (f + 1) := by
        rw [Nat.pow_succ] at h
        omega
      have := digF_eq f (u / 10) h2
      simp only [digF] at this
      rw [← this]
def itoaF (n : Int) : List UInt8 := if n < 0 then 45 :: digF 20 n.natAbs else digF 20 n.toNat
theorem itoaF_eq (n : Int) (h : -9223372036854775808 ≤ n ∧ n ≤ 9223372036854775807) : itoaF n = Lib.itoa n := by
  unfold itoaF Lib.itoa
  rw [digF_eq 19 n.natAbs (by omega), digF_eq 19 n.toNat (by omega)]
def itoaB (n : Int) : ByteArray := ⟨(itoaF n).toArray⟩
def itoaV (n : Int) : Value := .string (itoaB n)
def cutV (s p : ByteArray) : Value := .tuple #[.string ⟨(Lib.cut s.data.toList p.data.toList).1.toArray⟩, .string ⟨(Lib.cut s.data.toList p.data.toList).2.1.toArray⟩, .bool (Lib.cut s.data.toList p.data.toList).2.2]
def cutPV (s p : ByteArray) : Value := .tuple #[.string ⟨(Lib.trimPrefix s.data.toList p.data.toList).toArray⟩, .bool (Lib.hasPrefix s.data.toList p.data.toList)]
def atoiV (s : ByteArray) : Value :=
  match Lib.atoiAll s.data.toList with
  | .ok v => .tuple #[.int .i64 v, .nilIface]
  | .range => .tuple #[.int .i64 (Lib.atoiSat s.data.toList), .iface 155 dead]
  | _ => .tuple #[.int .i64 0, .iface 155 dead]
/-- functions of plain values -/
def extL (f : FuncId) (args : List Value) : Option Value :=
  match f, args with
  | 24, [.int .i64 n] => if -9223372036854775808 ≤ n ∧ n ≤ 9223372036854775807 then some (itoaV n) else none
  | 38, [.string s, .string p] => if s.size < 4294967281 then some (cutV s p) else none
  | 65, [.string s, .string ⟨⟨[c]⟩⟩] => some (.bool (decide (0 ≤ Lib.indexByte s.data.toList c)))
  | 72, [.string s, .string p] => some (cutPV s p)
  | 86, [.string s] => if s.size ≤ 281474976710656 then some (atoiV s) else none
  | _, _ => none
/-- functions that read or make memory -/
def exhL (f : FuncId) (args : List Value) (H : Hp) : Option (Out × Hp) :=
  match f, args with
  | 25, [.slice none 0 0, .string sep] => some (.ret (.string ⟨#[]⟩), H)
  | 25, [.slice (some ⟨b, o, none⟩) n _, .string sep] => (H.cells b).bind fun cs => (strsOf ((cs.drop o).take n)).bind fun xs =>
    if xs.length = n ∧ n ≤ 140737488355328 ∧ (Lib.join (xs.map (·.data.toList)) sep.data.toList).length ≤ 140737488355328 then some (.ret (.string ⟨(Lib.join (xs.map (·.data.toList)) sep.data.toList).toArray⟩), H) else none
  | 37, [.string s, .string sep] => if s.size < 4294967281 ∧ 1 ≤ sep.size then
      some (.ret (.slice (some ⟨H.next, 0, none⟩) (Lib.countB s sep + 1) 1), H.new (.rw ((Lib.splitB sep 0 (Lib.countB s sep) s).map Value.string))) else none
  | _, _ => none

theorem globs : Tryd.prog.globals.size = 10 := by kernel_rfl
theorem named_pow : Tryd.prog.globalNamed "internal/strconv.uint64pow10" = some 3 := by kernel_rfl
theorem pow_flat : powC.all flat = true := by kernel_rfl
theorem pow_eq : powC = Lib.pow10Tab.map fun z => Value.int .u64 z := by kernel_rfl

theorem has24 : ∃ fn, Tryd.prog.funcs[24]? = some fn ∧ fn.name ≠ "runtime.NumGoroutine" ∧ fn.body.isSome = true := ⟨Tryd.f24, by kernel_rfl, by decide, by kernel_rfl⟩
theorem has25 : ∃ fn, Tryd.prog.funcs[25]? = some fn ∧ fn.name ≠ "runtime.NumGoroutine" ∧ fn.body.isSome = true := ⟨Tryd.f25, by kernel_rfl, by decide, by kernel_rfl⟩
theorem has37 : ∃ fn, Tryd.prog.funcs[37]? = some fn ∧ fn.name ≠ "runtime.NumGoroutine" ∧ fn.body.isSome = true := ⟨Tryd.f37, by kernel_rfl, by decide, by kernel_rfl⟩
theorem has38 : ∃ fn, Tryd.prog.funcs[38]? = some fn ∧ fn.name ≠ "runtime.NumGoroutine" ∧ fn.body.isSome = true := ⟨Tryd.f38, by kernel_rfl, by decide, by kernel_rfl⟩
theorem has65 : ∃ fn, Tryd.prog.funcs[65]? = some fn ∧ fn.name ≠ "runtime.NumGoroutine" ∧ fn.body.isSome = true := ⟨Tryd.f65, by kernel_rfl, by decide, by kernel_rfl⟩
theorem has72 : ∃ fn, Tryd.prog.funcs[72]? = some fn ∧ fn.name ≠ "runtime.NumGoroutine" ∧ fn.body.isSome = true := ⟨Tryd.f72, by kernel_rfl, by decide, by kernel_rfl⟩
theorem has86 : ∃ fn, Tryd.prog.funcs[86]? = some fn ∧ fn.name ≠ "runtime.NumGoroutine" ∧ fn.body.isSome = true := ⟨Tryd.f86, by kernel_rfl, by decide, by kernel_rfl⟩

theorem below_drewN (w : World) (n : Nat) : Below w.heap.size w (w.drewN n) := ⟨rfl, rfl, rfl, Nat.le_refl _, fun _ _ => rfl⟩
theorem below_grow (w : World) (n : Nat) (os : Array Obj) : Below w.heap.size w (Go.Sort.grow (w.drewN n) os) := by
  refine ⟨rfl, rfl, rfl, ?_, fun k hk => ?_⟩
  · show w.heap.size ≤ (w.heap ++ os).size
    simp
  · show (w.heap ++ os)[k]? = _
    rw [Array.getElem?_append_left hk]

theorem extL_ok : ExtOK Tryd.prog extL := by
  intro f args v h
  unfold extL at h
  split at h
  · rename_i n
    split at h
    · rename_i hn
      cases h
      refine ext_of (by rfl) has24 fun w ⟨ρ, H, hS⟩ => ?_
      obtain ⟨e, z, hw⟩ := hS.base_flat (g := 3) (by rw [globs]; decide) (cs := powC) rfl pow_flat
      have ht : Lib.TabIs Tryd.prog w "internal/strconv.uint64pow10" .u64 Lib.pow10Tab := by
        unfold Lib.TabIs World.var?
        rw [named_pow]
        simp only [Option.bind_some, hw, pow_eq]
      refine (Tryd.strconv_Itoa n hn.1 hn.2 w ht).mono ?_
      rintro e w' ⟨rfl, k, os, rfl⟩
      rw [← itoaF_eq n hn]
      exact ⟨⟨_, rfl, fun ρ => .string _⟩, below_grow w k os⟩
    · cases h
  · rename_i s p
    split at h
    · rename_i hs
      cases h
      refine ext_of (by rfl) has38 fun w ⟨ρ, H, hS⟩ => ?_
      obtain ⟨v', h1, h2⟩ := hS.base_cell (g := 2) (by rw [globs]; decide) (cs := [.int .i64 Mx.m]) rfl (i := 0) rfl
      cases h2
      refine (Tryd.strings_Cut s p _ w hs h1).mono ?_
      rintro e w' ⟨rfl, k, rfl⟩
      exact ⟨⟨_, rfl, fun ρ => VR.flatN_refl 4 _ rfl⟩, below_drewN w k⟩
    · cases h
  · rename_i s c
    cases h
    refine ext_of (by rfl) has65 fun w ⟨ρ, H, hS⟩ => ?_
    refine (Tryd.strings_Contains_one s c w).mono ?_
    rintro e w' ⟨rfl, rfl⟩
    exact ⟨⟨_, rfl, fun ρ => .bool _⟩, Below.refl _ _⟩
  · rename_i s p
    cases h
    refine ext_of (by rfl) has72 fun w ⟨ρ, H, hS⟩ => ?_
    refine (Tryd.strings_CutPrefix s p w).mono ?_
    rintro e w' ⟨rfl, rfl⟩
    exact ⟨⟨_, rfl, fun ρ => VR.flatN_refl 4 _ rfl⟩, Below.refl _ _⟩
  · rename_i s
    split at h
    · rename_i hs
      cases h
      refine ext_of (by rfl) has86 fun w ⟨ρ, H, hS⟩ => ?_
      unfold atoiV
      cases hat : Lib.atoiAll s.data.toList with
      | ok v =>
        refine (Tryd.strconv_Atoi_ok s (by omega) v hat w).mono ?_
        rintro e w' ⟨rfl, hw⟩
        refine ⟨⟨_, rfl, fun ρ => VR.flatN_refl 4 _ rfl⟩, ?_⟩
        rcases hw with rfl | ⟨t, rfl⟩
        · exact Below.refl _ _
        · exact Lib.bytesWorld_below _ _ _
      | range =>
        obtain ⟨v', h1, h2⟩ := hS.base_cell (g := 9) (by rw [globs]; decide) (cs := [.iface 171 dead]) rfl (i := 0) rfl
        cases h2 with
        | @iface _ _ p _ =>
          refine (Tryd.strconv_Atoi_range s hs hat _ w h1 (.inr ⟨_, _, rfl⟩)).mono ?_
          rintro e w' ⟨N, rfl, _, _, hb⟩
          exact ⟨⟨_, rfl, fun ρ => .tuple rfl (VL.cons (.int _ _) (VL.cons (.iface (.dead _)) VL.nil)).2⟩, hb⟩
      | _ =>
        obtain ⟨v', h1, h2⟩ := hS.base_cell (g := 8) (by rw [globs]; decide) (cs := [.iface 171 dead]) rfl (i := 0) rfl
        cases h2 with
        | @iface _ _ p _ =>
          refine (Any.strconv_Atoi_syntax Tryd.laysC172 s hs hat _ w h1 (.inr ⟨_, _, rfl⟩)).mono ?_
          rintro e w' ⟨N, rfl, _, _, hb⟩
          exact ⟨⟨_, rfl, fun ρ => VR.tuple rfl (VL.cons (.int _ _) (VL.cons (.iface (.dead _)) VL.nil)).2⟩, hb⟩
    · cases h
  · cases h

theorem exhL_ok : ExhOK Tryd.prog exhL := by
  intro f args H r h
  unfold exhL at h
  split at h
  · rename_i sep
    cases h
    refine ⟨has25, fun ρ w args' hS ha => ?_⟩
    have := VL.flat_eq ha rfl
    subst this
    refine (Tryd.strings_Join_none none 0 sep w).mono ?_
    rintro e w' ⟨rfl, rfl⟩
    exact ⟨ρ, Stp.refl hS, _, rfl, .string _⟩
  · rename_i b o n c sep
    cases hc : H.cells b with
    | none => simp [hc] at h
    | some cs =>
      simp only [hc, Option.bind_some] at h
      cases hx : strsOf ((cs.drop o).take n) with
      | none => simp [hx] at h
      | some xs =>
        simp only [hx, Option.bind_some] at h
        split at h
        · rename_i hn
          cases h
          refine ⟨has25, fun ρ w args' hS ha => ?_⟩
          obtain ⟨v1, l1, rfl, h1, h2⟩ := ha.inv_cons
          obtain ⟨v2, l2, rfl, h3, h4⟩ := h2.inv_cons
          have := h4.inv_nil
          subst this
          cases h3
          have hxs := strsOf_get hx
          obtain ⟨hlen, hn2, hj⟩ := hn
          cases h1 with
          | @slice _ _ b' d _ _ c' hr hcap hsz =>
            obtain ⟨cc, e, z, h5, h6⟩ := hS.cells hc hr
            have hb' := (hS.low b b' d hr).2
            rw [← hlen] at hcap ⊢
            refine (Tryd.strings_Join b' (o + d) c' xs sep w (fun j x hjx => ?_) hb' (by omega) hcap hj).mono ?_
            · have h7 : cs[o + j]? = some (.string x) := by
                have h8 : ((cs.drop o).take n)[j]? = some (.string x) := by rw [hxs, List.getElem?_map, hjx]; rfl
                rw [List.getElem?_take] at h8
                split at h8
                · rw [List.getElem?_drop] at h8; exact h8
                · cases h8
              obtain ⟨v', h9, h10⟩ := h6.2 (o + j) _ h7
              cases h10
              rw [cell?_of h5]
              rw [← h9]
              congr 1
              omega
            · rintro e w' ⟨rfl, hb⟩
              exact ⟨ρ, hS.grown hb, _, rfl, .string _⟩
          | sl0 hr =>
            have : xs = [] := List.eq_nil_of_length_eq_zero hlen
            subst this
            refine (Tryd.strings_Join_none _ 0 sep w).mono ?_
            rintro e w' ⟨rfl, rfl⟩
            exact ⟨ρ, Stp.refl hS, _, rfl, .string _⟩
        · cases h
  · rename_i s sep
    split at h
    · rename_i hs
      cases h
      refine ⟨has37, fun ρ w args' hS ha => ?_⟩
      have := VL.flat_eq ha rfl
      subst this
      obtain ⟨v', h1, h2⟩ := hS.base_cell (g := 2) (by rw [globs]; decide) (cs := [.int .i64 Mx.m]) rfl (i := 0) rfl
      cases h2
      refine (Tryd.strings_Split s sep _ w hs.1 h1 hs.2).mono ?_
      rintro e w' ⟨rfl, rfl⟩
      have hst := new_sound hS 9 (cs := (Lib.splitB sep 0 (Lib.countB s sep) s).map Value.string) (c := ((Lib.splitB sep 0 (Lib.countB s sep) s).map Value.string).toArray) (VL.of_get rfl fun i x y hx hy => by
        rw [hx] at hy
        cases hy
        rw [List.getElem?_map, Option.map_eq_some_iff] at hx
        obtain ⟨t, _, rfl⟩ := hx
        exact .string _)
      refine ⟨_, hst.1, _, rfl, ?_⟩
      refine new_slice ρ H.next w.heap.size _ 1 _ _ (Nat.le_refl _) ?_
      have := Lib.splitB_all sep hs.2 0 _ s rfl
      simp [this]
    · cases h
  · cases h
end Go.Proofs.YtbaooebafijenaaDoor
