/- The chapter's first two examples: 'works' answers true (reckoned by the kernel). -/
import Derived.Test.YtbaooebafijenaaGreatDoorHCodeA
namespace Go.Proofs.YtbaooebafijenaaGreatDoor
open Go Go.Ev
set_option maxRecDepth 100000
set_option linter.unusedSectionVars false
variable [Mx]
theorem works_ok (n : Nat) : okR (s9 (evCall cfc (n+300)) (n+300) Hp.fl) (.bool true) = true := by kernel_rfl
theorem v9 (n : Nat) (H : Hp) : evCall cfc (n+301) 9 [] H = some (.ret (.bool true), H) := by
  rw [evCall_quiet (fn := Tryz.f9) (by rfl) (by rfl) Tryz.func9 (by rfl) (by rfl)]
  exact (congrArg (movR [] H) (s9_eq _ _ _)).trans (okR_floor (works_ok n) H)
end Go.Proofs.YtbaooebafijenaaGreatDoor
