/- The library's functions that the program calls, as the evaluator is told of them: told. -/
import Derived.Test.YtbaooebafijenaaGreatDoorHas4
import Derived.Test.YtbaooebafijenaaGreatDoorHvLib
import Derived.Lib.ItoaNum
import Derived.Lib.IndexMore
import Derived.Lib.Strings
import Derived.Lib.AtoiAll
import Derived.Lib.Bytealg
import Derived.Lib.Split
import Derived.Lib.AtoiAllCases
namespace Go.Proofs.YtbaooebafijenaaGreatDoor
open Go Go.Ev Go.RowKit
set_option maxRecDepth 100000
set_option linter.unusedVariables false
set_option linter.unusedSectionVars false
variable [Mx]
def digF : Nat → Nat → List UInt8
 | 0, _ => []
 | f + 1, u => if u < 10 then [UInt8.ofNat (48 + u)] else digF f (u / 10) ++ [UInt8.ofNat (48 + u % 10)]
theorem digF_eq : ∀ (f u : Nat), u < 10 ^ (f + 1) → digF (f + 1) u = Lib.decDigits u
 | 0, u, h => by
   rw [Lib.decDigits, dif_pos (by simpa using h)]
   simp only [digF]
   rw [if_pos (by simpa using h)]
 | f + 1, u, h => by
   rw [Lib.decDigits]
   simp only [digF]
   by_cases h1 : u < 10
   · rw [if_pos h1, dif_pos h1]
   · rw [if_neg h1, dif_neg h1]
     have h2 : u / 10 < 10 ^ (f + 1) := by
       rw [Nat.pow_succ] at h
       omega
     have := digF_eq f (u / 10) h2
     simp only [digF] at this
     rw [← this]
def itoaF (n : Int) : List UInt8 := if n < 0 then 45 :: digF 20 n.natAbs else digF 20 n.toNat
theorem itoaF_eq (n : Int) (h : -9223372036854775808 ≤ n ∧ n ≤ 9223372036854775807) : itoaF n = Lib.itoa n := by
 unfold itoaF Lib.itoa
 rw [digF_eq 19 n.natAbs (by omega), digF_eq 19 n.toNat (by omega)]
def itoaB (n : Int) : ByteArray := ⟨(itoaF n).toArray⟩
def itoaV (n : Int) : Value := .string (itoaB n)
def cutV (s p : ByteArray) : Value := .tuple #[.string ⟨(Lib.cut s.data.toList p.data.toList).1.toArray⟩, .string ⟨(Lib.cut s.data.toList p.data.toList).2.1.toArray⟩, .bool (Lib.cut s.data.toList p.data.toList).2.2]
def cutPV (s p : ByteArray) : Value := .tuple #[.string ⟨(Lib.trimPrefix s.data.toList p.data.toList).toArray⟩, .bool (Lib.hasPrefix s.data.toList p.data.toList)]
def atoiV (s : ByteArray) : Value :=
 match Lib.atoiAll s.data.toList with
 | .ok v => .tuple #[.int .i64 v, .nilIface]
 | .range => .tuple #[.int .i64 (Lib.atoiSat s.data.toList), .iface 170 dead]
 | _ => .tuple #[.int .i64 0, .iface 170 dead]
def extL (f : FuncId) (args : List Value) : Option Value :=
 match f, args with
 | 80, [.int .i64 n] => if -9223372036854775808 ≤ n ∧ n ≤ 9223372036854775807 then some (itoaV n) else none
 | 13, [.string s, .string p] => if s.size < 4294967281 then some (cutV s p) else none
 | 63, [.string s, .string ⟨⟨[c]⟩⟩] => some (.bool (decide (0 ≤ Lib.indexByte s.data.toList c)))
 | 72, [.string s, .string p] => some (cutPV s p)
 | 79, [.string s] => if s.size ≤ 281474976710656 then some (atoiV s) else none
 | _, _ => none
def exhL (f : FuncId) (args : List Value) (H : Hp) : Option (Out × Hp) :=
 match f, args with
 | 19, args => exhA args H
 | 12, [.string s, .string sep] => if s.size < 4294967281 ∧ 1 ≤ sep.size then
     some (.ret (.slice (some ⟨H.next, 0, none⟩) (Lib.countB s sep + 1) 1), H.new (.rw ((Lib.splitB sep 0 (Lib.countB s sep) s).map Value.string))) else none
 | _, _ => none
end Go.Proofs.YtbaooebafijenaaGreatDoor
