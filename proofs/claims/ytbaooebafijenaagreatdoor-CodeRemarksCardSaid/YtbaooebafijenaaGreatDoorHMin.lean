/- Rows that grow, texts as rows of letters. -/
import Derived.Test.YtbaooebafijenaaGreatDoorHTk
import Derived.Lib.Join
import Derived.Test.YtbaooebafijenaaGreatDoorHvLst
namespace Go.Proofs.YtbaooebafijenaaGreatDoor
open Go Go.Ev
set_option maxRecDepth 100000
set_option linter.unusedSimpArgs false
set_option linter.unusedVariables false
set_option maxHeartbeats 2000000
set_option linter.unusedSectionVars false
variable [Mx]
/-- a row of its own -/
def RowS (H : Hp) (lb : Option Nat) (lo : Nat) (cs : List Value) : Prop := match lb with | none => cs = [] | some b => H.get b = some (.rw cs) ∧ lo ≤ b ∧ b < H.next ∧ cs ≠ []
theorem rwc_get {H : Hp} {b : Nat} {cs : List Value} (h : H.get b = some (.rw cs)) : H.rwc b = some cs := by unfold Hp.rwc; rw [h]
theorem cells_get {H : Hp} {b : Nat} {cs : List Value} (h : H.get b = some (.rw cs)) : H.cells b = some cs := cells_rwc (rwc_get h)
theorem app_row {sz by_ : Nat} {H : Hp} {n : Nat} {cs : List Value} {lb : Option Nat} {lo : Nat} (hr : n * sz = cs.length) (hR : RowS H lb lo cs) (hlo : H.lim ≤ lo) (hlo2 : lo ≤ H.next) (hgn : Tabs.gn ≤ H.lim) {m : Nat} {xs : List Value} (hm : m = 0 ↔ xs = []) (hsz : 0 < sz) (hroom : roomy (n + m) by_ = true) (hxs : xs.all okC = true) :
    ∃ H2 lb2, appd sz by_ (svOf lb n sz) m xs H = some (svOf lb2 (n + m) sz, H2) ∧ RowS H2 lb2 lo (cs ++ xs) ∧ H.next ≤ H2.next ∧ H2.lim = H.lim ∧ (∀ c, c < H.next → lb ≠ some c → H2.get c = H.get c) ∧ ∀ c, lb2 = some c → H.next ≤ c := by
  cases lb with
  | none =>
    have hcs : cs = [] := hR
    subst hcs
    have hn : n = 0 := by
      rcases Nat.mul_eq_zero.1 (show n * sz = 0 from hr) with h | h
      · exact h
      · omega
    subst hn
    by_cases h0 : m = 0
    · have := hm.1 h0
      subst this
      subst h0
      exact ⟨H, none, rfl, rfl, Nat.le_refl _, rfl, fun _ _ _ => rfl, fun c hc => by cases hc⟩
    · rw [Nat.zero_add] at hroom
      refine ⟨H.new (.rw xs), some H.next, ?_, ⟨by rw [Hp.get_new, if_pos rfl]; rfl, hlo2, by simp, fun h => h0 (hm.2 (by simpa using h))⟩, by simp, rfl, fun c hc _ => by rw [Hp.get_new, if_neg (by omega)], fun c hc => by cases hc; omega⟩
      simp only [appd, svOf]
      rw [if_neg h0, if_pos ⟨hroom, hxs⟩, Nat.zero_add]
  | some l =>
    obtain ⟨h1, h2, h3, h4⟩ := hR
    refine ⟨(H.del l).new (.rw (cs ++ xs)), some H.next, ?_, ⟨by rw [Hp.get_new]; exact if_pos rfl, hlo2, by show H.next < H.next + 1; omega, by simp [h4]⟩, by show H.next ≤ H.next + 1; omega, rfl, fun c hc hl => ?_, fun c hc => by cases hc; omega⟩
    · simp only [appd, svOf]
      rw [if_pos ⟨trivial, by omega, hroom, hxs⟩, h1]
      simp only
      rw [if_pos (by omega), List.drop_zero]
    · rw [Hp.get_new, if_neg (by show ¬ c = H.next; omega), Hp.get_del H (by omega), if_neg (fun e => hl (by rw [e]))]
theorem row_new {H : Hp} {lb : Option Nat} {lo : Nat} {cs : List Value} (h : RowS H lb lo cs) (x : Blk) : RowS (H.new x) lb lo cs := by
  cases lb with
  | none => exact h
  | some l => exact ⟨by rw [Hp.get_new, if_neg (by have := h.2.2.1; omega)]; exact h.1, h.2.1, by have := h.2.2.1; show l < H.next + 1; omega, h.2.2.2⟩
theorem bs_app (a b : Bs) : bs a ++ bs b = bs (a ++ b) := bytes_inj (by rw [app_list]; rfl)
theorem bin_bs (q : Nat) (a b : Bs) (h : a.length + b.length ≤ 9223372036854775807) : bin q .add (.string (bs a)) (.string (bs b)) = some (.string (bs (a ++ b))) := by
  rw [bin_sadd q _ _ (by rw [Lib.size_eq, Lib.size_eq]; exact h), bs_app]
theorem bs_emp_iff (l : Bs) : bs l = emp ↔ l = [] := ⟨fun h => bs_inj (b := []) h, fun h => by rw [h]; rfl⟩
end Go.Proofs.YtbaooebafijenaaGreatDoor
