/- Rows that grow: a variable that holds a row of its own. -/
import Derived.Test.YtbaooebafijenaaGreatDoorHvBun
namespace Go.Ev
open Go
set_option linter.unusedSectionVars false
set_option linter.unusedSimpArgs false
variable [Tabs]
theorem cells_rwc {H : Hp} {b : Nat} {cs : List Value} (h : H.rwc b = some cs) : H.cells b = some cs := by
  unfold Hp.rwc at h
  unfold Hp.cells
  split at h
  · rename_i c hg; rw [hg]; exact h
  · cases h
theorem get_rwc {H : Hp} {b : Nat} {cs : List Value} (h : H.rwc b = some cs) : H.get b = some (.rw cs) := by
  unfold Hp.rwc at h
  split at h
  · rename_i c hg; rw [hg]; cases h; rfl
  · cases h
theorem rwc_del (H : Hp) {b : Nat} (hb : Tabs.gn ≤ b) (c : Nat) : (H.del b).rwc c = if c = b then none else H.rwc c := by
  unfold Hp.rwc
  rw [Hp.get_del H hb]
  by_cases h : c = b <;> simp [h]
theorem st_rwc {H : Hp} {b o n : Nat} {cs vs : List Value} {v : Value} (h : H.rwc b = some cs) (hl : H.lim ≤ b) (hbx : bx v = some vs) (hn : vs.length = n) (ho : o + n ≤ cs.length) (hok : vs.all okC = true) : st n (ptr b o) v H = some (H.set b (.rw (splice cs o vs))) := by
  rw [sto_ptr, if_pos hl, h]
  simp only [Option.bind_some, hbx]
  rw [if_pos ⟨hn, ho, hok⟩]
/-- a row of n elements that has all of block 'lb' -/
def svOf (lb : Option Nat) (n sz : Nat) : Value :=
  match lb with
  | none => .slice none 0 0
  | some l => .slice (some ⟨l, 0, none⟩) n sz
/-- a row grows -/
theorem Lst.app {sz by_ : Nat} {H : Hp} {n : Nat} {cs : List Value} {sv : Value} {lb : Option Nat} (hsv : sv = svOf lb n sz) (hr : n * sz = cs.length)
    (hh : match lb with | none => n = 0 ∧ cs = [] | some l => H.rwc l = some cs ∧ H.lim ≤ l ∧ l < H.next) (hgn : Tabs.gn ≤ H.lim) {m : Nat} {xs : List Value} (hm : 0 < m) (hroom : roomy (n + m) by_ = true) (hxs : xs.all okC = true) :
    ∃ H2, appd sz by_ sv m xs H = some (.slice (some ⟨H.next, 0, none⟩) (n + m) sz, H2) ∧ H2.rwc H.next = some (cs ++ xs) ∧ H2.next = H.next + 1 ∧ H2.lim = H.lim ∧ ∀ c, c ≠ H.next → lb ≠ some c → H2.rwc c = H.rwc c := by
  cases lb with
  | none =>
    obtain ⟨rfl, rfl⟩ := hh
    subst hsv
    rw [Nat.zero_add] at hroom
    refine ⟨H.new (.rw xs), ?_, by rw [rwc_new, if_pos rfl]; rfl, rfl, rfl, fun c hc _ => by rw [rwc_new, if_neg hc]⟩
    simp only [appd, svOf]
    rw [if_neg (by omega), if_pos ⟨hroom, hxs⟩, Nat.zero_add]
  | some l =>
    obtain ⟨h1, h2, h3⟩ := hh
    subst hsv
    refine ⟨(H.del l).new (.rw (cs ++ xs)), ?_, by rw [rwc_new]; exact if_pos rfl, rfl, rfl, fun c hc hl => ?_⟩
    · simp only [appd, svOf]
      rw [if_pos ⟨trivial, h2, hroom, hxs⟩, get_rwc h1]
      simp only
      rw [if_pos (by omega), List.drop_zero]
    · rw [rwc_new, if_neg (by simpa using hc), rwc_del H (by omega), if_neg (fun e => hl (by rw [e]))]
/-! ### Rows that a call hands back -/
theorem mvL_flat (bl : Pk) (Hs : Hp) (n : Nat) (st : Hp × List Nat) : ∀ cs : List Value, cs.all flat = true → mvL (mvV bl Hs (n + 1)) cs st = some (cs, st)
  | [], _ => rfl
  | c :: cs, h => by
    simp only [List.all_cons, Bool.and_eq_true] at h
    simp only [mvL]
    have : mvV bl Hs (n + 1) c st = some (c, st) := by simp [mvV, h.1]
    rw [this]
    simp [mvL_flat bl Hs n st cs h.2]
theorem movR_row (H Hs : Hp) {b : Nat} {cs : List Value} (hb : Tabs.gn ≤ b) (h : Hs.rwc b = some cs) (hf : cs.all flat = true) (n sz : Nat) :
    movR [] H (some (.ret (.slice (some ⟨b, 0, none⟩) n sz), Hs)) = some (.ret (.slice (some ⟨H.next, 0, none⟩) n sz), H.new (.rw cs)) := by
  have hfl : flat (.slice (some ⟨b, 0, none⟩) n sz) = false := rfl
  have h1 : mvA (mvV [] Hs 5) [] Hs b 0 (H, []) = some (⟨H.next, 0, none⟩, (H.new (.rw cs), [b])) := by
    unfold mvA
    rw [if_neg (by omega)]
    simp only [List.getElem?_nil, get_rwc h]
    rw [mvL_flat [] Hs 4 _ cs hf]
    simp
  have h2 : mvV [] Hs 6 (.slice (some ⟨b, 0, none⟩) n sz) (H, []) = (mvA (mvV [] Hs 5) [] Hs b 0 (H, [])).map fun (a, s) => (.slice (some a) n sz, s) := rfl
  simp only [movR]
  rw [h2, h1]
  rfl
theorem strs_flat (l : List ByteArray) : (l.map Value.string).all flat = true := by
  induction l with
  | nil => rfl
  | cons x l ih => rw [List.map_cons, List.all_cons, ih]; rfl
end Go.Ev
