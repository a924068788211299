/- Remarks change no word: the call. -/
import Derived.Test.YtbaooebafijenaaGreatDoorHRem2
namespace Go.Proofs.YtbaooebafijenaaGreatDoor
open Go Go.Ev
set_option maxRecDepth 100000
set_option linter.unusedSectionVars false
variable [Mx]
theorem v4 (n : Nat) (H : Hp) (s t : ByteArray) (z : Int) : evCall cfc (n+70001) 4 [.string s, .string t, .int .i64 z] H = some (.ret (.bool true), H) := by
  rw [evCall_quiet (fn := Tryz.f4) (by rfl) (by rfl) Tryz.func4 (by rfl) (by rfl)]
  obtain ⟨H', h⟩ := s4_ok n s.data.toList t.data.toList z
  rw [list_bs, list_bs] at h
  refine (congrArg (movR [] H) ((s4_eq _ _ _ _ _ _).trans h)).trans (movR_flat rfl)
end Go.Proofs.YtbaooebafijenaaGreatDoor
