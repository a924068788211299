/- The words of a program's text. -/
import Derived.Test.YtbaooebafijenaaGreatDoorHAsm
import Derived.Lib.SplitLaws
import Derived.Test.YtbaooebafijenaaGreatDoorHvBun
namespace Go.Proofs.YtbaooebafijenaaGreatDoor
open Go Go.Ev
set_option maxRecDepth 100000
set_option linter.unusedSimpArgs false
set_option linter.unusedVariables false
set_option maxHeartbeats 4000000
set_option linter.unusedSectionVars false
variable [Mx]
attribute [local congr] bind_front callK_front jn_front ifB_front ifG_front lp_front
/-- the labels' distances put in -/
def resGo (a : Asm) : List Want → Except (Int × Int) Asm
  | [] => .ok a
  | w :: r => match resV a w with
    | .error p => .error p
    | .ok a' => resGo a' r
theorem resV_ok {a a' : Asm} {w : Want} (h : resV a w = .ok a') : a'.wants = a.wants ∧ a'.words.length = a.words.length ∧ a'.labels = a.labels := by
  unfold resV at h
  split at h
  · cases h
  · split at h
    · cases h; simp
    · cases h
theorem wns_at : ∀ (l : List Want) (k : Nat) (h : k < l.length), ((wns l).drop (k * 8)).take 8 = (l[k]).cells
  | w :: l, 0, h => by
    have e : wns (w :: l) = w.cells ++ wns l := rfl
    rw [Nat.zero_mul, List.drop_zero, e, List.take_append_of_le_length (by show 8 ≤ 8; exact Nat.le_refl _)]
    rfl
  | w :: l, k + 1, h => by
    have e : wns (w :: l) = w.cells ++ wns l := rfl
    have e2 : (k + 1) * 8 = w.cells.length + k * 8 := by show (k + 1) * 8 = 8 + k * 8; omega
    rw [e2, e, List.drop_append, List.drop_of_length_le (Nat.le_add_right _ _), List.nil_append, Nat.add_sub_cancel_left]
    simp only [List.getElem_cons_succ]
    exact wns_at l k (by simpa using h)
structure P2 (H : Hp) (a : Asm) (wb tb : Option Nat) : Prop where
  as_ : AsS H 14 13 a wb tb
  lim : H.lim = 11
  g10 : H.get 11 = some (.rw [.slice none 0 0])
  g11 : H.get 12 = some (.rw [.nilIface])
  w15 : ∀ b, wb = some b → 16 ≤ b
  ats : ∀ w ∈ a.wants, 0 ≤ w.at_ ∧ w.at_ < a.words.length
theorem asm_l2 (n : Nat) (wants : List Want) (wb tb : Option Nat) (hnl : wants.length ≤ 65536) : ∀ (r k m : Nat), k + r = wants.length → r < m → ∀ (H : Hp) (a : Asm), P2 H a wb tb → a.wants = wants →
    match resGo a (wants.drop k) with
    | .error (l, e) => ∃ H' p, (∀ (kx : Nat → Fr → Hp → Option JR) (kr : Fr → Hp → Option JR), lp (s5_b2 (evCall cfc (n+10)) (n+10)) m [ptr 11 0, ptr 12 0, ptr 14 0, svOf tb wants.length 8, .int .i64 wants.length, .int .i64 k] H kx kr = some (.pan (faultP p) H')) ∧ FaultS H' l e p
    | .ok a' => ∃ H', (∀ (kx : Nat → Fr → Hp → Option JR) (kr : Fr → Hp → Option JR), lp (s5_b2 (evCall cfc (n+10)) (n+10)) m [ptr 11 0, ptr 12 0, ptr 14 0, svOf tb wants.length 8, .int .i64 wants.length, .int .i64 k] H kx kr = kx 2 (Fr.of [2, 3, 4] [ptr 11 0, ptr 12 0, ptr 14 0]) H') ∧ P2 H' a' wb tb := by
  intro r
  induction r with
  | zero =>
    intro k m hk hm H a hP haw
    obtain ⟨m, rfl⟩ : ∃ q, m = q + 1 := ⟨m - 1, by omega⟩
    have e : wants.drop k = [] := List.drop_eq_nil_of_le (by omega)
    rw [e]
    simp only [resGo]
    have hlt : ((k : Int) < (wants.length : Int)) = False := eq_false (by omega)
    refine ⟨H, fun kx kr => ?_, hP⟩
    rw [lp_succ]
    simp -implicitDefEqProofs only [s5_b2, ↓GVdn, GVup, goInt, splice, okC, Fr.of, Fr.ofI, Fr.g, Nat.reduceAdd, Nat.reduceMul, Nat.reduceEqDiff, Nat.reduceLT, Nat.reduceLeDiff, Nat.reduceBEq, Int.reduceLT, Int.reduceLE, Int.reduceToNat, Int.reduceAdd, Int.reduceSub, Int.reduceMul, Int.reduceEq, Int.reduceNeg, ↓reduceIte, ↓reduceDIte, Nat.beq, reduceCtorEq, Value.int.injEq, Nat.reduceSub, sto_ptr, hlt]
  | succ r ih =>
    intro k m hk hm H a hP haw
    obtain ⟨m, rfl⟩ : ∃ q, m = q + 1 := ⟨m - 1, by omega⟩
    have hkl : k < wants.length := by omega
    have hd : wants.drop k = wants[k] :: wants.drop (k + 1) := List.drop_eq_getElem_cons hkl
    have hmem : wants[k] ∈ wants := List.getElem_mem hkl
    have hat8 := wns_at wants k hkl
    rw [hd]
    simp only [resGo]
    generalize wants[k] = w at hmem hat8 ⊢
    have hlt : ((k : Int) < (wants.length : Int)) = True := eq_true (by omega)
    have hi0 : ((0 : Int) ≤ (k : Int)) = True := eq_true (by omega)
    have hw1 : IntKind.wrap .i64 ((k : Int) + 1) = ((k + 1 : Nat) : Int) := by rw [IntWalk.i64_in _ (by omega)]; rfl
    have hin : (0 ≤ (k : Int) ∧ (k : Int) < (wants.length : Int)) = True := eq_true (by omega)
    have htr := hP.as_.tr
    rw [haw] at htr
    have nA := hP.as_.nA
    cases tb with
    | none =>
      have : wns wants = [] := htr
      have h0 : wants.length * 8 = 0 := by have := congrArg List.length this; rwa [wns_len] at this
      omega
    | some bb =>
      have ct := cells_get htr.1
      have hle : (k * 8 + 8 ≤ (wns wants).length) = True := eq_true (by rw [wns_len]; omega)
      have hbb := htr.2.2.1
      have hS1 : AsS ((H.new (.rw Z8)).set H.next (.rw w.cells)) 14 13 a wb (some bb) := hP.as_.keep (fun b hb => by rw [Hp.get_set, if_neg (by omega), Hp.get_new, if_neg (by omega)]) (by show H.next ≤ H.next + 1; omega) rfl
      have fW : st 8 (ptr H.next 0) (.agg w.cells.toArray) (H.new (.rw Z8)) = some ((H.new (.rw Z8)).set H.next (.rw w.cells)) := by
        have := st_rwc (H := H.new (.rw Z8)) (b := H.next) (o := 0) (n := 8) (cs := Z8) (v := .agg w.cells.toArray) (vs := w.cells) (by rw [rwc_new, if_pos rfl]) (by show H.lim ≤ H.next; rw [hP.lim]; omega) rfl rfl (by show 0 + 8 ≤ 8; omega) rfl
        exact this
      have cT : ∀ L, (((H.new (.rw Z8)).set H.next (.rw w.cells)).opn L).cells H.next = some w.cells := fun L => by rw [cells_opn, cells_set, if_pos rfl]
      have cT0 : ((H.new (.rw Z8)).set H.next (.rw w.cells)).cells H.next = some w.cells := by rw [cells_set, if_pos rfl]
      have h40 := v16 n 14 13 _ a wb (some bb) w hS1 (hP.ats w (by rw [haw]; exact hmem))
      have wl : (8 ≤ w.cells.length) = True := eq_true (Nat.le_refl 8)
      have wt : w.cells.take 8 = w.cells := rfl
      cases hr : resV a w with
      | error q =>
        obtain ⟨l, e⟩ := q
        rw [hr] at h40
        obtain ⟨H', p, i1, i2⟩ := h40
        simp only
        refine ⟨H', p, fun kx kr => ?_, i2.cell, by have := i2.new; have : H.next + 1 ≤ p := this; omega, by rw [i2.lim]; exact hP.lim, ?_, ?_⟩
        · rw [lp_succ]
          simp only [Z8] at fW cT0 i1
          simp -implicitDefEqProofs only [s5_b2, ↓GVdn, GVup, goInt, splice, okC, Fr.of, Fr.ofI, Fr.g, Nat.reduceAdd, Nat.reduceMul, Nat.reduceEqDiff, Nat.reduceLT, Nat.reduceLeDiff, Nat.reduceBEq, Int.reduceLT, Int.reduceLE, Int.reduceToNat, Int.reduceAdd, Int.reduceSub, Int.reduceMul, Int.reduceEq, Int.reduceNeg, ↓reduceIte, ↓reduceDIte, Nat.beq, reduceCtorEq, Value.int.injEq, Nat.reduceSub, opn_lim, svOf, hlt, hi0, hin, hw1, ct, hle, hat8, fW, cT0, wl, wt, i1, callK_pan, pnJ_eq]
        · rw [i2.old 11 (by omega) (by show 11 < H.next + 1; omega), Hp.get_set, if_neg (by omega), Hp.get_new, if_neg (by omega)]; exact hP.g10
        · rw [i2.old 12 (by omega) (by show 12 < H.next + 1; omega), Hp.get_set, if_neg (by omega), Hp.get_new, if_neg (by omega)]; exact hP.g11
      | ok a' =>
        rw [hr] at h40
        obtain ⟨H', i1, i2, i3, i4, i5⟩ := h40
        obtain ⟨r1, r2, r3⟩ := resV_ok hr
        have i3' : H.next + 1 ≤ H'.next := i3
        have keepL : ∀ b, b < 13 → H'.get b = H.get b := fun b h1 => by
          rw [i5 b (by show b < H.next + 1; omega) (fun e => by have := hP.w15 b e; omega), Hp.get_set, if_neg (by omega), Hp.get_new, if_neg (by omega)]
        have hP' : P2 H' a' wb (some bb) := ⟨i2, by rw [i4]; exact hP.lim, by rw [keepL 11 (by omega)]; exact hP.g10, by rw [keepL 12 (by omega)]; exact hP.g11, hP.w15, by rw [r1, r2]; exact hP.ats⟩
        have ih := ih (k + 1) m (by omega) (by omega) H' a' hP' (by rw [r1]; exact haw)
        have step : ∀ (kx : Nat → Fr → Hp → Option JR) (kr : Fr → Hp → Option JR), lp (s5_b2 (evCall cfc (n+10)) (n+10)) (m + 1) [ptr 11 0, ptr 12 0, ptr 14 0, svOf (some bb) wants.length 8, .int .i64 wants.length, .int .i64 k] H kx kr = lp (s5_b2 (evCall cfc (n+10)) (n+10)) m [ptr 11 0, ptr 12 0, ptr 14 0, svOf (some bb) wants.length 8, .int .i64 wants.length, .int .i64 ((k + 1 : Nat) : Int)] H' kx kr := by
          intro kx kr
          rw [lp_succ]
          simp only [Z8] at fW cT0 i1
          simp -implicitDefEqProofs only [s5_b2, ↓GVdn, GVup, goInt, splice, okC, Fr.of, Fr.ofI, Fr.g, Nat.reduceAdd, Nat.reduceMul, Nat.reduceEqDiff, Nat.reduceLT, Nat.reduceLeDiff, Nat.reduceBEq, Int.reduceLT, Int.reduceLE, Int.reduceToNat, Int.reduceAdd, Int.reduceSub, Int.reduceMul, Int.reduceEq, Int.reduceNeg, ↓reduceIte, ↓reduceDIte, Nat.beq, reduceCtorEq, Value.int.injEq, Nat.reduceSub, opn_lim, svOf, hlt, hi0, hin, hw1, ct, hle, hat8, fW, cT0, wl, wt, i1]
        simp only [step]
        exact ih
/-! ### The whole -/
theorem oneV_ats {a a' : Asm} {T : List ByteArray} (h : oneV a T = .ok a') (ha : ∀ w ∈ a.wants, 0 ≤ w.at_ ∧ w.at_ < a.words.length) : ∀ w ∈ a'.wants, 0 ≤ w.at_ ∧ w.at_ < a'.words.length := by
  unfold oneV at h
  split at h
  · cases h
  · rename_i ws i lab hrd
    split at h
    · cases h
    · split at h
      · cases h
      · cases h
        simp only [List.length_append]
        split
        · intro w hw
          have := ha w hw
          omega
        · rename_i hl
          have h1 := rdV_lab hrd hl
          intro w hw
          rw [List.mem_append] at hw
          rcases hw with hw | hw
          · have := ha w hw
            omega
          · simp only [List.mem_cons, List.not_mem_nil, or_false] at hw
            subst hw
            simp only
            omega
theorem asmGo_ats : ∀ (l : List ByteArray) (a : Asm) (k : Nat) (a' : Asm), asmGo a k l = .ok a' → (∀ w ∈ a.wants, 0 ≤ w.at_ ∧ w.at_ < a.words.length) → ∀ w ∈ a'.wants, 0 ≤ w.at_ ∧ w.at_ < a'.words.length
  | [], a, k, a', h, ha => by simp only [asmGo] at h; cases h; exact ha
  | s :: l, a, k, a', h, ha => by
    simp only [asmGo] at h
    split at h
    · cases h
    · rename_i a1 h1
      exact asmGo_ats l a1 (k + 1) a' h (oneV_ats h1 ha)
def asm0 : Asm := ⟨[], [], [], 0⟩
/-- a text's lines -/
def splitV (s : ByteArray) : List ByteArray := Lib.splitB ⟨#[10]⟩ 0 (Lib.countB s ⟨#[10]⟩) s
def linesV (s : ByteArray) : List ByteArray := if (splitV s).getD ((splitV s).length - 1) emp = emp then (splitV s).take ((splitV s).length - 1) else splitV s
def asmV (s : ByteArray) : Except (Int × Int) (List Int) :=
  if 1048576 < s.size then .error (0, 9)
  else match asmGo asm0 0 (linesV s) with
    | .error p => .error p
    | .ok a => match resGo a a.wants with
      | .error p => .error p
      | .ok a' => .ok a'.words
def asmR (r : Except (Int × Int) (List Int)) (H : Hp) : R :=
  match r with
  | .error (l, e) => some (.ret (.tuple #[.slice none 0 0, .iface 39 (ptr H.next 0)]), H.new (.rw [.int .i64 l, .iface 27 (.int .i64 e)]))
  | .ok ws => if ws = [] then some (.ret (.tuple #[.slice none 0 0, .nilIface]), H) else some (.ret (.tuple #[.slice (some ⟨H.next, 0, none⟩) ws.length 1, .nilIface]), H.new (.rw (wvs ws)))
theorem wvs_flat (l : List Int) : (wvs l).all flat = true := by
  induction l with
  | nil => rfl
  | cons x l ih => show (flat (.int .u32 x) && (wvs l).all flat) = true; rw [ih]; rfl
theorem mov_ok (H Hs : Hp) {wb : Option Nat} {lo : Nat} {ws : List Int} (h : RowS Hs wb lo (wvs ws)) (hlo : Tabs.gn ≤ lo) : movR [] H (some (.ret (.tuple #[svOf wb ws.length 1, .nilIface]), Hs)) = asmR (.ok ws) H := by
  cases wb with
  | none =>
    have hw : wvs ws = [] := h
    have : ws = [] := List.map_eq_nil_iff.1 hw
    subst this
    exact movR_flat (bl := []) (H := H) (Hs := Hs) (v := .tuple #[.slice none 0 0, .nilIface]) rfl
  | some b =>
    obtain ⟨h1, h2, h3, h4⟩ := h
    have hne : ¬ ws = [] := fun e => h4 (by rw [e]; rfl)
    have hfl : flat (.tuple #[.slice (some ⟨b, 0, none⟩) ws.length 1, .nilIface]) = false := rfl
    have hm : mvA (mvV [] Hs 4) [] Hs b 0 (H, []) = some (⟨H.next, 0, none⟩, (H.new (.rw (wvs ws)), [b])) := by
      unfold mvA
      rw [if_neg (by omega)]
      simp only [List.getElem?_nil, h1]
      rw [mvL_flat [] Hs 3 _ _ (wvs_flat ws)]
      simp
    have e1 : mvV [] Hs 6 (.tuple #[.slice (some ⟨b, 0, none⟩) ws.length 1, .nilIface]) (H, []) = (mvL (mvV [] Hs 5) [.slice (some ⟨b, 0, none⟩) ws.length 1, .nilIface] (H, [])).map fun (cs, s) => (.tuple cs.toArray, s) := rfl
    have e2 : mvV [] Hs 5 (.slice (some ⟨b, 0, none⟩) ws.length 1) (H, []) = (mvA (mvV [] Hs 4) [] Hs b 0 (H, [])).map fun (a, s) => (.slice (some a) ws.length 1, s) := rfl
    have e3 : ∀ s, mvV [] Hs 5 .nilIface s = some (.nilIface, s) := fun s => rfl
    simp only [movR, svOf, e1, mvL, e2, hm, Option.map_some, Option.bind_some, e3]
    simp only [asmR]
    rw [if_neg hne]
theorem mov_err (H Hs : Hp) {p : Nat} {l e : Int} (hp : 11 ≤ p) (h : Hs.rwc p = some [.int .i64 l, .iface 27 (.int .i64 e)]) : movR [] H (some (.ret (.tuple #[.slice none 0 0, .iface 39 (ptr p 0)]), Hs)) = asmR (.error (l, e)) H := by
  have hm : mvA (mvV [] Hs 3) [] Hs p 0 (H, []) = some (⟨H.next, 0, none⟩, (H.new (.rw [.int .i64 l, .iface 27 (.int .i64 e)]), [p])) := by
    unfold mvA
    rw [if_neg (by show ¬ p < 11; omega)]
    simp only [List.getElem?_nil, get_rwc h]
    rw [mvL_flat [] Hs 2 _ _ rfl]
    simp
  have e1 : mvV [] Hs 6 (.tuple #[.slice none 0 0, .iface 39 (ptr p 0)]) (H, []) = (mvL (mvV [] Hs 5) [.slice none 0 0, .iface 39 (ptr p 0)] (H, [])).map fun (cs, s) => (.tuple cs.toArray, s) := rfl
  have e2 : ∀ s, mvV [] Hs 5 (.slice none 0 0) s = some (.slice none 0 0, s) := fun s => rfl
  have e3 : mvV [] Hs 5 (.iface 39 (ptr p 0)) (H, []) = ((mvA (mvV [] Hs 3) [] Hs p 0 (H, [])).map fun (a, s) => (.pointer (some a), s)).map fun (v, s) => (.iface 39 v, s) := rfl
  simp only [movR, e1, mvL, e2, e3, hm, Option.map_some, Option.bind_some]
  rfl
theorem q5 (n : Nat) (x0 : Value) (hx0 : flat x0 = true) (H : Hp) : evCall cfc (n+1) 5 [x0] H = movR [] H (s5 (evCall cfc n) n x0 Hp.fl) := by
  rw [evCall_quiet (fn := Tryz.f5) (by rfl) (by rfl) Tryz.func5 (by rfl) (by simp [hx0])]
  exact congrArg (movR [] H) (s5_eq _ _ _ _)
theorem offR_nrm (vs : List Value) (H : Hp) : offR (some (.nrm vs H)) = some (.nilIface, H) := rfl
theorem offR_pan (p : Nat) (H : Hp) : offR (some (.pan (faultP p) H)) = some (.iface 39 (ptr p 0), H) := rfl
theorem splitV_ne (s : ByteArray) : splitV s ≠ [] ∧ (splitV s).length = Lib.countB s ⟨#[10]⟩ + 1 := by
  have h2 : (splitV s).length = Lib.countB s ⟨#[10]⟩ + 1 := Lib.splitB_all ⟨#[10]⟩ (by decide) 0 _ s rfl
  exact ⟨fun e => by rw [e] at h2; simp at h2, h2⟩
theorem split_size : ∀ (k : Nat) (s : ByteArray), ∀ x ∈ Lib.splitB ⟨#[10]⟩ 0 k s, x.size ≤ s.size
  | 0, s, x, h => by
    simp only [Lib.splitB, List.mem_cons, List.not_mem_nil, or_false] at h
    subst h; exact Nat.le_refl _
  | k + 1, s, x, h => by
    unfold Lib.splitB at h
    split at h
    · simp only [List.mem_cons, List.not_mem_nil, or_false] at h
      subst h; exact Nat.le_refl _
    · rcases List.mem_cons.1 h with rfl | h
      · rw [ByteArray.size_extract]; omega
      · have := split_size k _ x h
        rw [ByteArray.size_extract] at this
        omega
theorem tasr_same (t : TypeId) (z v : Value) : tasr t true z (.iface t v) = some (.tuple #[v, .bool true]) := by simp [tasr]
theorem e37 (n : Nat) (s : ByteArray) (hs : s.size < 4294967281) (H : Hp) : evCall cfc (n+1) 12 [.string s, .string ⟨#[10]⟩] H = some (.ret (.slice (some ⟨H.next, 0, none⟩) (Lib.countB s ⟨#[10]⟩ + 1) 1), H.new (.rw ((splitV s).map Value.string))) :=
  evCall_exh (by rfl) (show exhL 12 [.string s, .string ⟨#[10]⟩] H = some (.ret (.slice (some ⟨H.next, 0, none⟩) (Lib.countB s ⟨#[10]⟩ + 1) 1), H.new (.rw ((splitV s).map Value.string))) from if_pos ⟨hs, by decide⟩) n
/-- how the deferred function ends a fault, and an end without one -/
theorem end_err {H' : Hp} {l e : Int} {p : Nat} (h : FaultS H' l e p) : ∃ H2, st 1 (ptr 11 0) (.slice none 0 0) H' = some (H'.set 11 (.rw [.slice none 0 0])) ∧ st 1 (ptr 12 0) (.iface 39 (ptr p 0)) (H'.set 11 (.rw [.slice none 0 0])) = some H2 ∧ H2.cells 11 = some [.slice none 0 0] ∧ H2.cells 12 = some [.iface 39 (ptr p 0)] ∧ H2.rwc p = some [.int .i64 l, .iface 27 (.int .i64 e)] := by
  obtain ⟨h1, h2, h3, h4, h5⟩ := h
  refine ⟨(H'.set 11 (.rw [.slice none 0 0])).set 12 (.rw [.iface 39 (ptr p 0)]), ?_, ?_, ?_, ?_, ?_⟩
  · exact st_rwc (cs := [.slice none 0 0]) (o := 0) (n := 1) (vs := [.slice none 0 0]) (rwc_get h4) (by omega) rfl rfl (by simp) rfl
  · exact st_rwc (cs := [.nilIface]) (o := 0) (n := 1) (vs := [.iface 39 (ptr p 0)]) (by rw [rwc_set, if_neg (by decide)]; exact rwc_get h5) (by show H'.lim ≤ 12; omega) rfl rfl (by simp) rfl
  · rw [cells_set, if_neg (by decide), cells_set, if_pos rfl]
  · rw [cells_set, if_pos rfl]
  · rw [rwc_set, if_neg (by omega), rwc_set, if_neg (by omega)]; exact h1
def H5i : Hp := (((Hp.fl.new (.rw [.slice none 0 0])).new (.rw [.nilIface])).new (.mp [] 0)).new (.rw [.slice none 0 0, .map (some 13), .slice none 0 0, .int .i64 0])
theorem gH5 : H5i.get 11 = some (.rw [.slice none 0 0]) ∧ H5i.get 12 = some (.rw [.nilIface]) ∧ H5i.get 13 = some (.mp [] 0) ∧ H5i.get 14 = some (.rw [.slice none 0 0, .map (some 13), .slice none 0 0, .int .i64 0]) := by
  have e1 : (Hp.fl).next = 11 := rfl
  unfold H5i
  refine ⟨?_, ?_, ?_, ?_⟩ <;> simp [Hp.get_new, e1]
theorem p1_start (x : Blk) : P1 (H5i.new x) asm0 none none := by
  obtain ⟨g10, g11, g12, g13⟩ := gH5
  have e1 : H5i.next = 15 := rfl
  have o : ∀ b, b < 15 → (H5i.new x).get b = H5i.get b := fun b hb => by rw [Hp.get_new, if_neg (by omega)]
  refine ⟨⟨⟨by decide, by decide⟩, ?_, ?_, ?_, ?_, ?_, by decide, by rw [o 14 (by decide)]; exact g13, ⟨[], 0, by rw [o 13 (by decide)]; exact g12, rfl⟩, rfl, rfl, fun b hb => (by cases hb), fun b hb => (by cases hb), by decide⟩, rfl, by rw [o 11 (by decide)]; exact g10, by rw [o 12 (by decide)]; exact g11, ?_, fun b hb => (by cases hb), fun b hb => (by cases hb)⟩
  · show 11 ≤ 11; decide
  · show 11 ≤ 14; decide
  · show 11 ≤ 13; decide
  · show 14 < 16; decide
  · show 13 < 16; decide
  · show 16 ≤ 16; decide
theorem end_ok {H : Hp} {a : Asm} {wb tb : Option Nat} (h : P2 H a wb tb) : st 1 (ptr 11 0) (svOf wb a.words.length 1) H = some (H.set 11 (.rw [svOf wb a.words.length 1])) ∧ st 1 (ptr 12 0) .nilIface (H.set 11 (.rw [svOf wb a.words.length 1])) = some ((H.set 11 (.rw [svOf wb a.words.length 1])).set 12 (.rw [.nilIface])) ∧
    ((H.set 11 (.rw [svOf wb a.words.length 1])).set 12 (.rw [.nilIface])).cells 11 = some [svOf wb a.words.length 1] ∧ ((H.set 11 (.rw [svOf wb a.words.length 1])).set 12 (.rw [.nilIface])).cells 12 = some [.nilIface] ∧ RowS ((H.set 11 (.rw [svOf wb a.words.length 1])).set 12 (.rw [.nilIface])) wb 11 (wvs a.words) := by
  have hl := h.lim
  refine ⟨?_, ?_, ?_, ?_, ?_⟩
  · exact st_rwc (cs := [.slice none 0 0]) (o := 0) (n := 1) (rwc_get h.g10) (by omega) (bx_sv _ _ _) rfl (by simp) (by simp [okC_sv])
  · exact st_rwc (cs := [.nilIface]) (o := 0) (n := 1) (vs := [.nilIface]) (by rw [rwc_set, if_neg (by decide)]; exact rwc_get h.g11) (by show H.lim ≤ 12; omega) rfl rfl (by simp) rfl
  · rw [cells_set, if_neg (by decide), cells_set, if_pos rfl]
  · rw [cells_set, if_pos rfl]
  · have := h.as_.wr
    rw [hl] at this
    exact row_set (row_set this _ (fun e => by have := h.w15 11 e; omega)) _ (fun e => by have := h.w15 12 e; omega)
def run13 (n : Nat) (s : ByteArray) (r : Except (Int × Int) (List Int)) : Prop :=
  match r with
  | .error (l, e) => ∃ p Hs, s5 (evCall cfc (n+84)) (n+84) (.string s) Hp.fl = some (.ret (.tuple #[.slice none 0 0, .iface 39 (ptr p 0)]), Hs) ∧ 11 ≤ p ∧ Hs.rwc p = some [.int .i64 l, .iface 27 (.int .i64 e)]
  | .ok ws => ∃ wb Hs, s5 (evCall cfc (n+84)) (n+84) (.string s) Hp.fl = some (.ret (.tuple #[svOf wb ws.length 1, .nilIface]), Hs) ∧ RowS Hs wb 11 (wvs ws)
theorem bx_map (x : Option Nat) : bx (.map x) = some [.map x] := rfl
theorem run13_ok (n : Nat) (s : ByteArray) (hs : s.size ≤ 1048576 → 2 * s.size + 1 < n ∧ Lib.countB s ⟨#[10]⟩ + 1 < n ∧ Lib.countB s ⟨#[10]⟩ < 4294967290) (hn : 65536 < n) : run13 n s (asmV s) := by
  have n0 : (Hp.fl).next = 11 := rfl
  have l0 : (Hp.fl).lim = 11 := rfl
  unfold asmV
  by_cases hbig : 1048576 < s.size
  · rw [if_pos hbig]
    have hbig' : (1048576 < (s.size : Int)) = True := eq_true (by omega)
    have h36 := fun H x => v11 (n+83) H x 0 9
    have hF : FaultS (H5i.new (.rw [.int .i64 0, .iface 27 (.int .i64 9)])) 0 9 15 := by
      obtain ⟨g10, g11, _, _⟩ := gH5
      exact ⟨by rw [rwc_new, if_pos (by rfl)], by decide, rfl, by rw [Hp.get_new, if_neg (by show ¬ 11 = 15; decide)]; exact g10, by rw [Hp.get_new, if_neg (by show ¬ 12 = 15; decide)]; exact g11⟩
    obtain ⟨H2, f1, f2, f3, f4, f5⟩ := end_err hF
    simp only [H5i] at f1 f2
    simp only [run13]
    refine ⟨15, H2, ?_, by decide, f5⟩
    simp -implicitDefEqProofs only [s5, bx_map, ↓GVdn, GVup, goInt, splice, okC, Fr.of, Fr.ofI, Fr.g, Nat.reduceAdd, Nat.reduceMul, Nat.reduceEqDiff, Nat.reduceLT, Nat.reduceLeDiff, Nat.reduceBEq, Int.reduceLT, Int.reduceLE, Int.reduceToNat, Int.reduceAdd, Int.reduceSub, Int.reduceMul, Int.reduceEq, Int.reduceNeg, ↓reduceIte, ↓reduceDIte, Nat.beq, reduceCtorEq, Value.int.injEq, Nat.reduceSub, opn_lim, tabs_gn, n0, l0, hbig', h36, callK_pan, jn_pan, pnJ_eq, offR_pan, tasr_same, f1, f2, f3, f4]
  · obtain ⟨z1, z2, z3⟩ := hs (by omega)
    have hbig' : (1048576 < (s.size : Int)) = False := eq_false (by omega)
    rw [if_neg hbig]
    obtain ⟨sne, slen⟩ := splitV_ne s
    have h37 := e37 (n+83) s (by omega) H5i
    simp only [H5i] at h37
    have hlast : ((splitV s).map Value.string)[Lib.countB s ⟨#[10]⟩]? = some (.string ((splitV s).getD ((splitV s).length - 1) emp)) := by
      rw [slen, Nat.add_sub_cancel, List.getElem?_map, List.getElem?_eq_getElem (by omega), List.getD_eq_getElem?_getD, List.getElem?_eq_getElem (by omega)]
      rfl
    have hw : IntKind.wrap .i64 (((Lib.countB s ⟨#[10]⟩ + 1 : Nat) : Int) - 1) = (Lib.countB s ⟨#[10]⟩ : Int) := by rw [IntWalk.i64_in _ (by omega)]; omega
    have hlt : ((0 : Int) ≤ (Lib.countB s ⟨#[10]⟩ : Int) ∧ (Lib.countB s ⟨#[10]⟩ : Int) < ((Lib.countB s ⟨#[10]⟩ + 1 : Nat) : Int)) = True := eq_true (by omega)
    have hle : ((Lib.countB s ⟨#[10]⟩ : Int) ≤ ((Lib.countB s ⟨#[10]⟩ + 1 : Nat) : Int)) = True := eq_true (by omega)
    have hlt2 : ((Lib.countB s ⟨#[10]⟩ : Int) < ((Lib.countB s ⟨#[10]⟩ + 1 : Nat) : Int)) = True := eq_true (by omega)
    have hsz : ∀ x ∈ splitV s, x.size ≤ 536870912 ∧ 2 * x.size + 1 < n := fun x hx => by have := split_size _ s x hx; omega
    have g14 : (H5i.new (.rw ((splitV s).map Value.string))).get 15 = some (.rw ((splitV s).map Value.string)) := by rw [Hp.get_new, if_pos (by rfl)]
    by_cases hem : (splitV s).getD ((splitV s).length - 1) emp = emp
    · have hli : linesV s = (splitV s).take (Lib.countB s ⟨#[10]⟩) := by unfold linesV; rw [if_pos hem, slen, Nat.add_sub_cancel]
      have l1 := asm_l1 n (splitV s) (Lib.countB s ⟨#[10]⟩) (by omega) (by omega) hsz (Lib.countB s ⟨#[10]⟩) 0 (n+84) (by omega) (by omega) _ asm0 none none (p1_start _) g14
      rw [List.drop_zero, ← hli] at l1
      have hem : ((splitV s).getD ((splitV s).length - 1) emp = ⟨#[]⟩) = True := eq_true hem
      cases hgo : asmGo asm0 0 (linesV s) with
      | error q =>
        obtain ⟨l, e⟩ := q
        rw [hgo] at l1
        obtain ⟨H', p, l1, hF⟩ := l1
        obtain ⟨H2, f1, f2, f3, f4, f5⟩ := end_err hF
        simp only
        have l1' : ∀ (kx : Nat → Fr → Hp → Option JR) (kr : Fr → Hp → Option JR), lp (s5_b1 (evCall cfc (n+84)) (n+84)) (n+84) [ptr 11 0, ptr 12 0, ptr 14 0, .slice (some ⟨15, 0, none⟩) (Lib.countB s ⟨#[10]⟩) 1, .int .i64 (Lib.countB s ⟨#[10]⟩ : Nat), .int .i64 0] _ kx kr = _ := l1
        simp only [H5i] at l1'
        refine ⟨p, H2, ?_, by have := hF.2.1; omega, f5⟩
        simp -implicitDefEqProofs only [s5, bx_map, ↓GVdn, GVup, goInt, splice, okC, Fr.of, Fr.ofI, Fr.g, Nat.reduceAdd, Nat.reduceMul, Nat.reduceEqDiff, Nat.reduceLT, Nat.reduceLeDiff, Nat.reduceBEq, Int.reduceLT, Int.reduceLE, Int.reduceToNat, Int.reduceAdd, Int.reduceSub, Int.reduceMul, Int.reduceEq, Int.reduceNeg, ↓reduceIte, ↓reduceDIte, Nat.beq, reduceCtorEq, Value.int.injEq, Nat.reduceSub, opn_lim, tabs_gn, n0, l0, hbig', h37, hlast, hw, hlt, hlt2, hle, hem, Nat.sub_zero, l1', offR_pan, tasr_same, f1, f2, f3, f4]
      | ok a' =>
        rw [hgo] at l1
        obtain ⟨H', wb, tb, l1, hP⟩ := l1
        have l1' : ∀ (kx : Nat → Fr → Hp → Option JR) (kr : Fr → Hp → Option JR), lp (s5_b1 (evCall cfc (n+84)) (n+84)) (n+84) [ptr 11 0, ptr 12 0, ptr 14 0, .slice (some ⟨15, 0, none⟩) (Lib.countB s ⟨#[10]⟩) 1, .int .i64 (Lib.countB s ⟨#[10]⟩ : Nat), .int .i64 0] _ kx kr = _ := l1
        simp only [H5i] at l1'
        have hP2 : P2 H' a' wb tb := ⟨hP.as_, hP.lim, hP.g10, hP.g11, hP.w15, asmGo_ats _ _ _ _ hgo (fun w hw => by cases hw)⟩
        have hbw := hP.as_.bw
        have l2 := asm_l2 (n+74) a'.wants wb tb (by omega) a'.wants.length 0 (n+84) (by omega) (by omega) H' a' hP2 rfl
        rw [List.drop_zero] at l2
        have cA := cells_get hP.as_.cell
        have hwn : ∀ H, len 1 (svOf tb a'.wants.length 8) H = some (.int .i64 a'.wants.length) := fun H => len_sv _ _ _ _ (fun e => by have h := hP.as_.tr; subst e; have h : wns a'.wants = [] := h; have := congrArg List.length h; rw [wns_len, List.length_nil] at this; omega)
        cases hre : resGo a' a'.wants with
        | error q =>
          obtain ⟨l, e⟩ := q
          rw [hre] at l2
          obtain ⟨H3, p, l2, hF⟩ := l2
          obtain ⟨H2, f1, f2, f3, f4, f5⟩ := end_err hF
          have l2' : ∀ (kx : Nat → Fr → Hp → Option JR) (kr : Fr → Hp → Option JR), lp (s5_b2 (evCall cfc (n+84)) (n+84)) (n+84) [ptr 11 0, ptr 12 0, ptr 14 0, svOf tb a'.wants.length 8, .int .i64 a'.wants.length, .int .i64 0] H' kx kr = _ := l2
          simp only [hre]
          refine ⟨p, H2, ?_, by have := hF.2.1; omega, f5⟩
          simp -implicitDefEqProofs only [s5, bx_map, ↓GVdn, GVup, goInt, splice, okC, Fr.of, Fr.ofI, Fr.g, Nat.reduceAdd, Nat.reduceMul, Nat.reduceEqDiff, Nat.reduceLT, Nat.reduceLeDiff, Nat.reduceBEq, Int.reduceLT, Int.reduceLE, Int.reduceToNat, Int.reduceAdd, Int.reduceSub, Int.reduceMul, Int.reduceEq, Int.reduceNeg, ↓reduceIte, ↓reduceDIte, Nat.beq, reduceCtorEq, Value.int.injEq, Nat.reduceSub, opn_lim, tabs_gn, n0, l0, hbig', h37, hlast, hw, hlt, hlt2, hle, hem, Nat.sub_zero, l1', cA, hwn, l2', offR_pan, tasr_same, f1, f2, f3, f4]
        | ok a2 =>
          rw [hre] at l2
          obtain ⟨H3, l2, hP3⟩ := l2
          have l2' : ∀ (kx : Nat → Fr → Hp → Option JR) (kr : Fr → Hp → Option JR), lp (s5_b2 (evCall cfc (n+84)) (n+84)) (n+84) [ptr 11 0, ptr 12 0, ptr 14 0, svOf tb a'.wants.length 8, .int .i64 a'.wants.length, .int .i64 0] H' kx kr = _ := l2
          obtain ⟨f1, f2, f3, f4, f5⟩ := end_ok hP3
          have cA3 := cells_get hP3.as_.cell
          simp only [hre]
          refine ⟨wb, _, ?_, f5⟩
          simp -implicitDefEqProofs only [s5, bx_map, ↓GVdn, GVup, goInt, splice, okC, Fr.of, Fr.ofI, Fr.g, Nat.reduceAdd, Nat.reduceMul, Nat.reduceEqDiff, Nat.reduceLT, Nat.reduceLeDiff, Nat.reduceBEq, Int.reduceLT, Int.reduceLE, Int.reduceToNat, Int.reduceAdd, Int.reduceSub, Int.reduceMul, Int.reduceEq, Int.reduceNeg, ↓reduceIte, ↓reduceDIte, Nat.beq, reduceCtorEq, Value.int.injEq, Nat.reduceSub, opn_lim, tabs_gn, n0, l0, hbig', h37, hlast, hw, hlt, hlt2, hle, hem, Nat.sub_zero, l1', cA, hwn, l2', cA3, f1, f2, f3, f4, offR_nrm]
    · have hli : linesV s = (splitV s).take (Lib.countB s ⟨#[10]⟩ + 1) := by unfold linesV; rw [if_neg hem, List.take_of_length_le (by omega)]
      have l1 := asm_l1 n (splitV s) (Lib.countB s ⟨#[10]⟩ + 1) (by omega) (by omega) hsz (Lib.countB s ⟨#[10]⟩ + 1) 0 (n+84) (by omega) (by omega) _ asm0 none none (p1_start _) g14
      rw [List.drop_zero, ← hli] at l1
      have hem : ((splitV s).getD ((splitV s).length - 1) emp = ⟨#[]⟩) = False := eq_false hem
      cases hgo : asmGo asm0 0 (linesV s) with
      | error q =>
        obtain ⟨l, e⟩ := q
        rw [hgo] at l1
        obtain ⟨H', p, l1, hF⟩ := l1
        obtain ⟨H2, f1, f2, f3, f4, f5⟩ := end_err hF
        simp only
        have l1' : ∀ (kx : Nat → Fr → Hp → Option JR) (kr : Fr → Hp → Option JR), lp (s5_b1 (evCall cfc (n+84)) (n+84)) (n+84) [ptr 11 0, ptr 12 0, ptr 14 0, .slice (some ⟨15, 0, none⟩) (Lib.countB s ⟨#[10]⟩ + 1) 1, .int .i64 (Lib.countB s ⟨#[10]⟩ + 1 : Nat), .int .i64 0] _ kx kr = _ := l1
        simp only [H5i] at l1'
        refine ⟨p, H2, ?_, by have := hF.2.1; omega, f5⟩
        simp -implicitDefEqProofs only [s5, bx_map, ↓GVdn, GVup, goInt, splice, okC, Fr.of, Fr.ofI, Fr.g, Nat.reduceAdd, Nat.reduceMul, Nat.reduceEqDiff, Nat.reduceLT, Nat.reduceLeDiff, Nat.reduceBEq, Int.reduceLT, Int.reduceLE, Int.reduceToNat, Int.reduceAdd, Int.reduceSub, Int.reduceMul, Int.reduceEq, Int.reduceNeg, ↓reduceIte, ↓reduceDIte, Nat.beq, reduceCtorEq, Value.int.injEq, Nat.reduceSub, opn_lim, tabs_gn, n0, l0, hbig', h37, hlast, hw, hlt, hlt2, hle, hem, Nat.sub_zero, l1', offR_pan, tasr_same, f1, f2, f3, f4]
      | ok a' =>
        rw [hgo] at l1
        obtain ⟨H', wb, tb, l1, hP⟩ := l1
        have l1' : ∀ (kx : Nat → Fr → Hp → Option JR) (kr : Fr → Hp → Option JR), lp (s5_b1 (evCall cfc (n+84)) (n+84)) (n+84) [ptr 11 0, ptr 12 0, ptr 14 0, .slice (some ⟨15, 0, none⟩) (Lib.countB s ⟨#[10]⟩ + 1) 1, .int .i64 (Lib.countB s ⟨#[10]⟩ + 1 : Nat), .int .i64 0] _ kx kr = _ := l1
        simp only [H5i] at l1'
        have hP2 : P2 H' a' wb tb := ⟨hP.as_, hP.lim, hP.g10, hP.g11, hP.w15, asmGo_ats _ _ _ _ hgo (fun w hw => by cases hw)⟩
        have hbw := hP.as_.bw
        have l2 := asm_l2 (n+74) a'.wants wb tb (by omega) a'.wants.length 0 (n+84) (by omega) (by omega) H' a' hP2 rfl
        rw [List.drop_zero] at l2
        have cA := cells_get hP.as_.cell
        have hwn : ∀ H, len 1 (svOf tb a'.wants.length 8) H = some (.int .i64 a'.wants.length) := fun H => len_sv _ _ _ _ (fun e => by have h := hP.as_.tr; subst e; have h : wns a'.wants = [] := h; have := congrArg List.length h; rw [wns_len, List.length_nil] at this; omega)
        cases hre : resGo a' a'.wants with
        | error q =>
          obtain ⟨l, e⟩ := q
          rw [hre] at l2
          obtain ⟨H3, p, l2, hF⟩ := l2
          obtain ⟨H2, f1, f2, f3, f4, f5⟩ := end_err hF
          have l2' : ∀ (kx : Nat → Fr → Hp → Option JR) (kr : Fr → Hp → Option JR), lp (s5_b2 (evCall cfc (n+84)) (n+84)) (n+84) [ptr 11 0, ptr 12 0, ptr 14 0, svOf tb a'.wants.length 8, .int .i64 a'.wants.length, .int .i64 0] H' kx kr = _ := l2
          simp only [hre]
          refine ⟨p, H2, ?_, by have := hF.2.1; omega, f5⟩
          simp -implicitDefEqProofs only [s5, bx_map, ↓GVdn, GVup, goInt, splice, okC, Fr.of, Fr.ofI, Fr.g, Nat.reduceAdd, Nat.reduceMul, Nat.reduceEqDiff, Nat.reduceLT, Nat.reduceLeDiff, Nat.reduceBEq, Int.reduceLT, Int.reduceLE, Int.reduceToNat, Int.reduceAdd, Int.reduceSub, Int.reduceMul, Int.reduceEq, Int.reduceNeg, ↓reduceIte, ↓reduceDIte, Nat.beq, reduceCtorEq, Value.int.injEq, Nat.reduceSub, opn_lim, tabs_gn, n0, l0, hbig', h37, hlast, hw, hlt, hlt2, hle, hem, Nat.sub_zero, l1', cA, hwn, l2', offR_pan, tasr_same, f1, f2, f3, f4]
        | ok a2 =>
          rw [hre] at l2
          obtain ⟨H3, l2, hP3⟩ := l2
          have l2' : ∀ (kx : Nat → Fr → Hp → Option JR) (kr : Fr → Hp → Option JR), lp (s5_b2 (evCall cfc (n+84)) (n+84)) (n+84) [ptr 11 0, ptr 12 0, ptr 14 0, svOf tb a'.wants.length 8, .int .i64 a'.wants.length, .int .i64 0] H' kx kr = _ := l2
          obtain ⟨f1, f2, f3, f4, f5⟩ := end_ok hP3
          have cA3 := cells_get hP3.as_.cell
          simp only [hre]
          refine ⟨wb, _, ?_, f5⟩
          simp -implicitDefEqProofs only [s5, bx_map, ↓GVdn, GVup, goInt, splice, okC, Fr.of, Fr.ofI, Fr.g, Nat.reduceAdd, Nat.reduceMul, Nat.reduceEqDiff, Nat.reduceLT, Nat.reduceLeDiff, Nat.reduceBEq, Int.reduceLT, Int.reduceLE, Int.reduceToNat, Int.reduceAdd, Int.reduceSub, Int.reduceMul, Int.reduceEq, Int.reduceNeg, ↓reduceIte, ↓reduceDIte, Nat.beq, reduceCtorEq, Value.int.injEq, Nat.reduceSub, opn_lim, tabs_gn, n0, l0, hbig', h37, hlast, hw, hlt, hlt2, hle, hem, Nat.sub_zero, l1', cA, hwn, l2', cA3, f1, f2, f3, f4, offR_nrm]
theorem v5 (n : Nat) (s : ByteArray) (H : Hp) (hs : s.size ≤ 1048576 → 2 * s.size + 1 < n ∧ Lib.countB s ⟨#[10]⟩ + 1 < n ∧ Lib.countB s ⟨#[10]⟩ < 4294967290) (hn : 65536 < n) : evCall cfc (n+85) 5 [.string s] H = asmR (asmV s) H := by
  rw [q5 (n+84) _ rfl H]
  have h := run13_ok n s hs hn
  generalize asmV s = r at h ⊢
  match r, h with
  | .error (l, e), ⟨p, Hs, h1, h2, h3⟩ => rw [h1]; exact mov_err H Hs h2 h3
  | .ok ws, ⟨wb, Hs, h1, h2⟩ => rw [h1]; exact mov_ok H Hs h2 (Nat.le_refl 11)
end Go.Proofs.YtbaooebafijenaaGreatDoor
