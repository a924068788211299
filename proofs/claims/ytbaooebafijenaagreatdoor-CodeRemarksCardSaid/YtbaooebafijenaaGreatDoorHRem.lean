/- Remarks change no word: the law answers true. -/
import Derived.Test.YtbaooebafijenaaGreatDoorHLin
import Derived.Test.YtbaooebafijenaaGreatDoorHSame
import Derived.Test.YtbaooebafijenaaGreatDoorHWorks
import Derived.Test.YtbaooebafijenaaGreatDoorHvBun
namespace Go.Proofs.YtbaooebafijenaaGreatDoor
open Go Go.Ev
set_option linter.unusedVariables false
set_option linter.unusedSectionVars false
variable [Mx]
def Want.sh (m : Nat) (w : Want) : Want := { w with line := w.line + m }
def Asm.sh (m : Nat) (a : Asm) : Asm := { a with wants := a.wants.map (Want.sh m), line := a.line + m }
def shE {α : Type} (m : Nat) : Except (Int × Int) α → Except (Int × Int) α
  | .error (l, e) => .error (l + m, e)
  | .ok a => .ok a
theorem oneV_sh (m : Nat) (a : Asm) (T : List ByteArray) : oneV (a.sh m) T = match oneV a T with | .error e => .error e | .ok b => .ok (b.sh m) := by
  unfold oneV
  cases rdV (lbGo T).2 with
  | none => rfl
  | some p =>
    obtain ⟨ws, i, lab⟩ := p
    simp only [Asm.sh]
    cases addL a.labels a.words.length (lbGo T).1 with
    | none => rfl
    | some ls =>
      simp only
      by_cases h : 65536 < a.words.length + ws.length
      · simp only [h, if_true]
      · simp only [h, if_false]
        congr 2
        by_cases h2 : lab = emp
        · simp only [h2, if_true]
        · simp only [h2, if_false]
          simp [Want.sh]
theorem asmL_sh (m : Nat) : ∀ (l : List Bs) (a : Asm) (k : Nat), asmL (a.sh m) (k + m) l = match asmL a k l with | .error (p, e) => .error (p + m, e) | .ok b => .ok (b.sh m)
  | [], a, k => rfl
  | x :: l, a, k => by
    have e1 : ({ a.sh m with line := ((k + m + 1 : Nat) : Int) } : Asm) = ({ a with line := ((k + 1 : Nat) : Int) } : Asm).sh m := by
      simp only [Asm.sh]
      congr 1
      omega
    simp only [asmL, e1, oneV_sh]
    cases oneV { a with line := ((k + 1 : Nat) : Int) } (lineT x) with
    | error e =>
      simp only
      congr 2
      omega
    | ok b =>
      simp only
      have e2 : k + m + 1 = k + 1 + m := by omega
      rw [e2]
      exact asmL_sh m l b (k + 1)
theorem resV_sh (m : Nat) (a : Asm) (w : Want) : resV (a.sh m) (w.sh m) = match resV a w with | .error (p, e) => .error (p + m, e) | .ok b => .ok (b.sh m) := by
  unfold resV
  simp only [Asm.sh, Want.sh, Want.ins]
  cases findL w.lab a.labels with
  | none => rfl
  | some z =>
    simp only
    by_cases h : Ins.chk { op := w.i.op, A := w.i.A, B := w.i.B, C := w.i.C, I := IntKind.wrap .i64 (z - w.at_) } = 0
    · simp only [h, if_true]
    · simp only [h, if_false]
theorem resGo_sh (m : Nat) : ∀ (l : List Want) (a : Asm), resGo (a.sh m) (l.map (Want.sh m)) = match resGo a l with | .error (p, e) => .error (p + m, e) | .ok b => .ok (b.sh m)
  | [], a => rfl
  | w :: l, a => by
    simp only [List.map_cons, resGo, resV_sh]
    cases resV a w with
    | error p => obtain ⟨p, e⟩ := p; rfl
    | ok b => exact resGo_sh m l b
theorem asmF_sh (m : Nat) (a : Asm) (k : Nat) (l : List Bs) : asmF (asmL (a.sh m) (k + m) l) = shE m (asmF (asmL a k l)) := by
  rw [asmL_sh]
  cases asmL a k l with
  | error p => obtain ⟨p, e⟩ := p; rfl
  | ok b =>
    simp only [asmF]
    have : (b.sh m).wants = b.wants.map (Want.sh m) := rfl
    rw [this, resGo_sh]
    cases resGo b b.wants with
    | error p => obtain ⟨p, e⟩ := p; rfl
    | ok c => rfl
/-- so many remarks -/
def remL (note : Bs) : Nat → Bs
  | 0 => []
  | k + 1 => remL note k ++ (59 :: note ++ [10])
theorem remL_len (note : Bs) : ∀ k, (remL note k).length = k * (note.length + 2)
  | 0 => by simp [remL]
  | k + 1 => by simp only [remL, List.length_append, List.length_cons, List.length_nil, remL_len note k, Nat.succ_mul]
theorem remL_front (note : Bs) : ∀ k, remL note (k + 1) = (59 :: note ++ [10]) ++ remL note k
  | 0 => by simp [remL]
  | k + 1 => by
    have h := remL_front note k
    have e : remL note (k + 1 + 1) = remL note (k + 1) ++ (59 :: note ++ [10]) := rfl
    have e2 : remL note (k + 1) = remL note k ++ (59 :: note ++ [10]) := rfl
    rw [e, h, List.append_assoc, ← e2, h]
theorem lin_rem (note : Bs) (h : 10 ∉ note) : ∀ (k : Nat) (r : Bs), lin (remL note k ++ r) [] = List.replicate k (59 :: note) ++ lin r []
  | 0, r => rfl
  | k + 1, r => by
    have e : remL note (k + 1) ++ r = (59 :: note) ++ 10 :: (remL note k ++ r) := by rw [remL_front]; simp
    rw [e, lin_some _ _ _ (by simp [h]), lin_rem note h k r]
    rfl
theorem asmL_rem (note : Bs) (r : List Bs) : ∀ (k : Nat) (j : Nat), asmL (asm0.sh j) j (List.replicate k (59 :: note) ++ r) = asmL (asm0.sh (j + k)) (j + k) r
  | 0, j => rfl
  | k + 1, j => by
    have hT : lineT (59 :: note) = [] := rfl
    have h1 : oneV { asm0.sh j with line := ((j + 1 : Nat) : Int) } (lineT (59 :: note)) = .ok (asm0.sh (j + 1)) := by
      rw [hT]
      have : oneV { asm0.sh j with line := ((j + 1 : Nat) : Int) } [] = .ok { asm0.sh j with line := ((j + 1 : Nat) : Int) } := rfl
      rw [this]
      simp [Asm.sh, asm0]
    have e : List.replicate (k + 1) (59 :: note) ++ r = (59 :: note) :: (List.replicate k (59 :: note) ++ r) := rfl
    rw [e, asmL_step h1, asmL_rem note r k (j + 1)]
    have : j + 1 + k = j + (k + 1) := by omega
    rw [this]
theorem rem_law (note text : Bs) (k : Nat) (h : 10 ∉ note) (hl : (remL note k ++ text).length ≤ 1048576) : asmV (bs (remL note k ++ text)) = shE k (asmV (bs text)) := by
  have hl2 : text.length ≤ 1048576 := by rw [List.length_append] at hl; omega
  rw [asmV_L _ hl, asmV_L _ hl2, lin_rem note h]
  have e0 : asm0 = asm0.sh 0 := rfl
  have h1 := asmL_rem note (lin text []) k 0
  rw [← e0] at h1
  rw [h1, Nat.zero_add]
  have := asmF_sh k asm0 0 (lin text [])
  rw [Nat.zero_add] at this
  exact this
end Go.Proofs.YtbaooebafijenaaGreatDoor
namespace Go.Proofs.YtbaooebafijenaaGreatDoor
open Go Go.Ev
set_option maxRecDepth 100000
set_option linter.unusedSimpArgs false
set_option linter.unusedVariables false
set_option maxHeartbeats 4000000
set_option linter.unusedSectionVars false
variable [Mx]
attribute [local congr] bind_front callK_front jn_front ifB_front ifG_front lp_front
/-! ### Faults: their numbers and lines -/
theorem oneV_err {a : Asm} {T : List ByteArray} {e : Int} (h : oneV a T = .error e) : e ≠ 0 := by
  unfold oneV at h
  split at h
  · cases h; decide
  · split at h
    · cases h; decide
    · split at h
      · cases h; decide
      · cases h
theorem oneV_wants {a b : Asm} {T : List ByteArray} (h : oneV a T = .ok b) : ∀ w ∈ b.wants, w ∈ a.wants ∨ w.line = a.line := by
  unfold oneV at h
  split at h
  · cases h
  · split at h
    · cases h
    · split at h
      · cases h
      · cases h
        simp only
        intro w hw
        split at hw
        · exact .inl hw
        · rw [List.mem_append] at hw
          rcases hw with hw | hw
          · exact .inl hw
          · simp only [List.mem_cons, List.not_mem_nil, or_false] at hw
            subst hw
            exact .inr rfl
theorem asmL_err : ∀ (l : List Bs) (a : Asm) (k : Nat) (p e : Int), asmL a k l = .error (p, e) → 0 ≤ p ∧ p ≤ k + l.length ∧ e ≠ 0
  | [], a, k, p, e, h => by simp only [asmL] at h; cases h
  | x :: l, a, k, p, e, h => by
    simp only [asmL] at h
    split at h
    · rename_i e' he
      cases h
      exact ⟨by omega, by simp only [List.length_cons]; omega, oneV_err he⟩
    · rename_i b hb
      have := asmL_err l b (k + 1) p e h
      simp only [List.length_cons]
      exact ⟨this.1, by omega, this.2.2⟩
theorem asmL_wants : ∀ (l : List Bs) (a : Asm) (k : Nat) (b : Asm), asmL a k l = .ok b → (∀ w ∈ a.wants, 0 ≤ w.line ∧ w.line ≤ k) → ∀ w ∈ b.wants, 0 ≤ w.line ∧ w.line ≤ k + l.length
  | [], a, k, b, h, ha => by simp only [asmL] at h; cases h; intro w hw; have := ha w hw; simp only [List.length_nil]; omega
  | x :: l, a, k, b, h, ha => by
    simp only [asmL] at h
    split at h
    · cases h
    · rename_i c hc
      have := asmL_wants l c (k + 1) b h (fun w hw => by
        rcases oneV_wants hc w hw with h1 | h1
        · have := ha w h1; omega
        · simp only at h1; omega)
      intro w hw
      have := this w hw
      simp only [List.length_cons]
      omega
theorem resGo_err : ∀ (l : List Want) (a : Asm) (p e : Int), resGo a l = .error (p, e) → (∃ w ∈ l, w.line = p) ∧ e ≠ 0
  | [], a, p, e, h => by simp only [resGo] at h; cases h
  | w :: l, a, p, e, h => by
    simp only [resGo] at h
    split at h
    · rename_i q hq
      cases h
      unfold resV at hq
      split at hq
      · cases hq; exact ⟨⟨w, by simp, rfl⟩, by decide⟩
      · split at hq
        · cases hq
        · cases hq; exact ⟨⟨w, by simp, rfl⟩, by decide⟩
    · rename_i b hb
      obtain ⟨⟨v, h1, h2⟩, h3⟩ := resGo_err l b p e h
      exact ⟨⟨v, by simp [h1], h2⟩, h3⟩
theorem lin_len : ∀ (l cur : Bs), (lin l cur).length ≤ l.length + 1
  | [], cur => by simp only [lin]; split <;> simp
  | c :: r, cur => by
    simp only [lin]
    split
    · have := lin_len r []
      simp only [List.length_cons]
      omega
    · have := lin_len r (cur ++ [c])
      simp only [List.length_cons]
      omega
theorem asmV_err (l : Bs) (h : l.length ≤ 1048576) (p e : Int) (he : asmV (bs l) = .error (p, e)) : 0 ≤ p ∧ p ≤ l.length + 1 ∧ e ≠ 0 := by
  rw [asmV_L l h] at he
  have hl := lin_len l []
  cases hg : asmL asm0 0 (lin l []) with
  | error q =>
    rw [hg] at he
    cases he
    have := asmL_err _ _ _ _ _ hg
    exact ⟨this.1, by omega, this.2.2⟩
  | ok b =>
    rw [hg] at he
    simp only [asmF] at he
    split at he
    · rename_i q hq
      cases he
      obtain ⟨⟨w, h1, h2⟩, h3⟩ := resGo_err _ _ _ _ hq
      have := asmL_wants _ _ _ _ hg (fun w hw => by cases hw) w h1
      subst h2
      exact ⟨this.1, by omega, h3⟩
    · cases he
/-! ### The loops -/
theorem rem_l1 (C : Cl) (n : Nat) (x0 L : Value) (note : Bs) (hn : note.length ≤ 200) (H : Hp) (kx : Nat → Fr → Hp → Option (Out × Hp)) (kr : Fr → Hp → Option (Out × Hp)) : ∀ (r k m : Nat), k + r = note.length → r < m →
    lp (s4_b1 C n) m [x0, .string (bs note), L, .int .i64 k] H kx kr = if 10 ∈ note.drop k then kr (Fr.of [0, 1, 2, 6] [x0, .string (bs note), L, .bool true]) H else kx 0 (Fr.of [0, 1, 2, 6] [x0, .string (bs note), L, dead]) H := by
  have hsz : (bs note).size = note.length := by rw [Lib.size_eq, bs_list]
  intro r
  induction r with
  | zero =>
    intro k m hk hm
    obtain ⟨m, rfl⟩ : ∃ q, m = q + 1 := ⟨m - 1, by omega⟩
    have hlt : ((k : Int) < (note.length : Int)) = False := eq_false (by omega)
    have e : note.drop k = [] := List.drop_eq_nil_of_le (by omega)
    rw [lp_succ, e]
    simp -implicitDefEqProofs only [s4_b1, ↓GVdn, GVup, goInt, splice, okC, Fr.of, Fr.ofI, Fr.g, Nat.reduceAdd, Nat.reduceMul, Nat.reduceEqDiff, Nat.reduceLT, Nat.reduceLeDiff, Nat.reduceBEq, Int.reduceLT, Int.reduceLE, Int.reduceToNat, Int.reduceAdd, Int.reduceSub, Int.reduceMul, Int.reduceEq, Int.reduceNeg, ↓reduceIte, ↓reduceDIte, Nat.beq, reduceCtorEq, Value.int.injEq, Nat.reduceSub, sto_ptr, hsz, hlt, List.not_mem_nil, if_false]
  | succ r ih =>
    intro k m hk hm
    obtain ⟨m, rfl⟩ : ∃ q, m = q + 1 := ⟨m - 1, by omega⟩
    have hkl : k < note.length := by omega
    have hlt : ((k : Int) < (note.length : Int)) = True := eq_true (by omega)
    have hd : note.drop k = note[k] :: note.drop (k + 1) := List.drop_eq_getElem_cons hkl
    have hx : sx (.string (bs note)) (.int .i64 k) = some (.int .u8 (note[k]).toNat) := by
      have h1 : (bs note)[k]? = some note[k] := by
        rw [getElem?_pos (bs note) k (by rw [hsz]; exact hkl)]
        rfl
      simp only [sx]
      rw [if_pos (by omega), Int.toNat_natCast, h1]
      rfl
    have hw1 : IntKind.wrap .i64 ((k : Int) + 1) = ((k + 1 : Nat) : Int) := by rw [IntWalk.i64_in _ (by omega)]; rfl
    have ih := ih (k + 1) m (by omega) (by omega)
    rw [hd]
    by_cases h10 : note[k] = 10
    · have e10 : (((note[k]).toNat : Int) = 10) = True := eq_true (by rw [h10]; rfl)
      rw [lp_succ, if_pos (by rw [h10]; simp)]
      simp -implicitDefEqProofs only [s4_b1, ↓GVdn, GVup, goInt, splice, okC, Fr.of, Fr.ofI, Fr.g, Nat.reduceAdd, Nat.reduceMul, Nat.reduceEqDiff, Nat.reduceLT, Nat.reduceLeDiff, Nat.reduceBEq, Int.reduceLT, Int.reduceLE, Int.reduceToNat, Int.reduceAdd, Int.reduceSub, Int.reduceMul, Int.reduceEq, Int.reduceNeg, ↓reduceIte, ↓reduceDIte, Nat.beq, reduceCtorEq, Value.int.injEq, Nat.reduceSub, sto_ptr, hsz, hlt, hx, e10]
    · have e10 : (((note[k]).toNat : Int) = 10) = False := eq_false (fun e => h10 (UInt8.toNat_inj.1 (by simpa using (by omega : (note[k]).toNat = 10))))
      have em : (10 ∈ note[k] :: note.drop (k + 1)) = (10 ∈ note.drop (k + 1)) := by
        simp only [List.mem_cons, eq_iff_iff, or_iff_right_iff_imp]
        intro e; exact absurd e.symm h10
      rw [lp_succ]
      simp -implicitDefEqProofs only [s4_b1, ↓GVdn, GVup, goInt, splice, okC, Fr.of, Fr.ofI, Fr.g, Nat.reduceAdd, Nat.reduceMul, Nat.reduceEqDiff, Nat.reduceLT, Nat.reduceLeDiff, Nat.reduceBEq, Int.reduceLT, Int.reduceLE, Int.reduceToNat, Int.reduceAdd, Int.reduceSub, Int.reduceMul, Int.reduceEq, Int.reduceNeg, ↓reduceIte, ↓reduceDIte, Nat.beq, reduceCtorEq, Value.int.injEq, Nat.reduceSub, sto_ptr, hsz, hlt, hx, e10, hw1, ih, em]
theorem rem_l2 (C : Cl) (n : Nat) (x0 : Value) (note : Bs) (hn : note.length ≤ 200) (L : Nat) (hL : L < 20) (H : Hp) (kx : Nat → Fr → Hp → Option (Out × Hp)) (kr : Fr → Hp → Option (Out × Hp)) : ∀ (r k m : Nat), k + r = L → r < m →
    lp (s4_b2 C n) m [x0, .string (bs note), .int .i64 L, .string (bs (remL note k)), .int .i64 k] H kx kr = kx 2 (Fr.of [0, 2, 8] [x0, .int .i64 L, .string (bs (remL note L))]) H := by
  intro r
  induction r with
  | zero =>
    intro k m hk hm
    obtain ⟨m, rfl⟩ : ∃ q, m = q + 1 := ⟨m - 1, by omega⟩
    have hlt : ((k : Int) < (L : Int)) = False := eq_false (by omega)
    have : k = L := by omega
    subst this
    rw [lp_succ]
    simp -implicitDefEqProofs only [s4_b2, ↓GVdn, GVup, goInt, splice, okC, Fr.of, Fr.ofI, Fr.g, Nat.reduceAdd, Nat.reduceMul, Nat.reduceEqDiff, Nat.reduceLT, Nat.reduceLeDiff, Nat.reduceBEq, Int.reduceLT, Int.reduceLE, Int.reduceToNat, Int.reduceAdd, Int.reduceSub, Int.reduceMul, Int.reduceEq, Int.reduceNeg, ↓reduceIte, ↓reduceDIte, Nat.beq, reduceCtorEq, Value.int.injEq, Nat.reduceSub, sto_ptr, hlt]
  | succ r ih =>
    intro k m hk hm
    obtain ⟨m, rfl⟩ : ∃ q, m = q + 1 := ⟨m - 1, by omega⟩
    have hlt : ((k : Int) < (L : Int)) = True := eq_true (by omega)
    have hlen : (remL note k).length ≤ 8000 := by
      rw [remL_len]
      have : k * (note.length + 2) ≤ 20 * 202 := Nat.mul_le_mul (by omega) (by omega)
      omega
    have a1 : bin 0 .add (.string (bs (remL note k))) (.string ⟨#[59]⟩) = some (.string (bs (remL note k ++ [59]))) := bin_bs 0 _ [59] (by simp only [List.length_cons, List.length_nil]; omega)
    have a2 : bin 0 .add (.string (bs (remL note k ++ [59]))) (.string (bs note)) = some (.string (bs (remL note k ++ [59] ++ note))) := bin_bs 0 _ _ (by simp only [List.length_append, List.length_cons, List.length_nil]; omega)
    have a3 : bin 0 .add (.string (bs (remL note k ++ [59] ++ note))) (.string ⟨#[10]⟩) = some (.string (bs (remL note (k + 1)))) := by
      have := bin_bs 0 (remL note k ++ [59] ++ note) [10] (by simp only [List.length_append, List.length_cons, List.length_nil]; omega)
      have e : remL note k ++ [59] ++ note ++ [10] = remL note (k + 1) := by simp [remL]
      rw [e] at this
      exact this
    have hw1 : IntKind.wrap .i64 ((k : Int) + 1) = ((k + 1 : Nat) : Int) := by rw [IntWalk.i64_in _ (by omega)]; rfl
    have ih := ih (k + 1) m (by omega) (by omega)
    rw [lp_succ]
    simp -implicitDefEqProofs only [s4_b2, ↓GVdn, GVup, goInt, splice, okC, Fr.of, Fr.ofI, Fr.g, Nat.reduceAdd, Nat.reduceMul, Nat.reduceEqDiff, Nat.reduceLT, Nat.reduceLeDiff, Nat.reduceBEq, Int.reduceLT, Int.reduceLE, Int.reduceToNat, Int.reduceAdd, Int.reduceSub, Int.reduceMul, Int.reduceEq, Int.reduceNeg, ↓reduceIte, ↓reduceDIte, Nat.beq, reduceCtorEq, Value.int.injEq, Nat.reduceSub, sto_ptr, hlt, a1, a2, a3, hw1, ih]
end Go.Proofs.YtbaooebafijenaaGreatDoor
