/- Lines of a text as rows of letters. -/
import Derived.Test.YtbaooebafijenaaGreatDoorHMin
import Derived.Test.YtbaooebafijenaaGreatDoorHAsm2
namespace Go.Proofs.YtbaooebafijenaaGreatDoor
open Go Go.Ev
set_option linter.unusedVariables false
set_option linter.unusedSectionVars false
variable [Mx]
theorem first_of (c : UInt8) : ∀ l : Bs, c ∉ l ∨ ∃ p r, l = p ++ c :: r ∧ c ∉ p
 | [] => .inl (by simp)
 | x :: l => by
   by_cases h : x = c
   · subst h
     exact .inr ⟨[], l, rfl, by simp⟩
   · rcases first_of c l with h1 | ⟨p, r, h1, h2⟩
     · exact .inl (by simp only [List.mem_cons, not_or]; exact ⟨fun e => h e.symm, h1⟩)
     · subst h1
       exact .inr ⟨x :: p, r, rfl, by simp only [List.mem_cons, not_or]; exact ⟨fun e => h e.symm, h2⟩⟩
theorem ib_none (c : UInt8) : ∀ l : Bs, c ∉ l → Lib.indexByte l c = -1
 | [], _ => rfl
 | x :: l, h => by
   simp only [List.mem_cons, not_or] at h
   unfold Lib.indexByte
   have : (x == c) = false := beq_eq_false_iff_ne.2 fun e => h.1 e.symm
   rw [this, ib_none c l h.2]
   rfl
theorem ib_some (c : UInt8) : ∀ (p r : Bs), c ∉ p → Lib.indexByte (p ++ c :: r) c = p.length
 | [], r, _ => by simp [Lib.indexByte]
 | x :: p, r, h => by
   simp only [List.mem_cons, not_or] at h
   rw [List.cons_append]
   unfold Lib.indexByte
   have : (x == c) = false := beq_eq_false_iff_ne.2 fun e => h.1 e.symm
   have h1 : ¬ ((p.length : Int) == -1) = true := fun e => by have := beq_iff_eq.1 e; omega
   rw [this, ib_some c p r h.2, if_neg h1]
   simp
def spl : Bs → Bs → List Bs
 | [], cur => [cur]
 | c :: r, cur => if c = 10 then cur :: spl r [] else spl r (cur ++ [c])
theorem spl_none : ∀ (l cur : Bs), 10 ∉ l → spl l cur = [cur ++ l]
 | [], cur, _ => by simp [spl]
 | c :: l, cur, h => by
   simp only [List.mem_cons, not_or] at h
   rw [spl, if_neg (fun e => h.1 e.symm), spl_none l _ h.2]
   simp
theorem spl_some : ∀ (p r cur : Bs), 10 ∉ p → spl (p ++ 10 :: r) cur = (cur ++ p) :: spl r []
 | [], r, cur, _ => by simp [spl]
 | c :: p, r, cur, h => by
   simp only [List.mem_cons, not_or] at h
   rw [List.cons_append, spl, if_neg (fun e => h.1 e.symm), spl_some p r _ h.2]
   simp
theorem spl_ne : ∀ (l cur : Bs), spl l cur ≠ []
 | [], cur => by simp [spl]
 | c :: l, cur => by
   rw [spl]
   split
   · simp
   · exact spl_ne l _
theorem splitK_spl : ∀ (n : Nat) (l : Bs), l.length ≤ n → Lib.splitK [10] 0 (Lib.count l [10]) l = spl l [] ∧ Lib.count l [10] + 1 = (spl l []).length
 | 0, l, h => by
   have : l = [] := List.eq_nil_of_length_eq_zero (by omega)
   subst this
   exact ⟨rfl, rfl⟩
 | n + 1, l, h => by
   rcases first_of 10 l with h1 | ⟨p, r, rfl, h2⟩
   · have hi : Lib.index l [10] = -1 := by rw [Lib.index_one, ib_none 10 l h1]
     rw [Lib.count_miss hi, spl_none l [] h1]
     exact ⟨rfl, rfl⟩
   · have hi : Lib.index (p ++ 10 :: r) [10] = p.length := by rw [Lib.index_one, ib_some 10 p r h2]
     have hc : Lib.count (p ++ 10 :: r) [10] = 1 + Lib.count r [10] := by
       have := Lib.countB_hit (bs (p ++ 10 :: r)) ⟨#[10]⟩ p.length (by decide) hi
       have e : ((bs (p ++ 10 :: r)).extract (p.length + 1) (bs (p ++ 10 :: r)).size).data.toList = r := by
         rw [extract_list, bs_list, List.drop_append, List.drop_of_length_le (by omega)]
         have e2 : p.length + 1 - p.length = 1 := by omega
         rw [e2, List.nil_append, List.drop_succ_cons, List.drop_zero, List.take_of_length_le]
         rw [Lib.size_eq, bs_list]
         simp
         omega
       have this2 : Lib.count (p ++ 10 :: r) [10] = 1 + Lib.count ((bs (p ++ 10 :: r)).extract (p.length + 1) (bs (p ++ 10 :: r)).size).data.toList [10] := this
       rw [e] at this2
       exact this2
     obtain ⟨i1, i2⟩ := splitK_spl n r (by simp at h; omega)
     rw [hc, Nat.add_comm 1]
     refine ⟨?_, by rw [spl_some p r [] h2, List.length_cons]; omega⟩
     rw [Lib.splitK, hi]
     have h1 : ¬ ((p.length : Int) == -1) = true := fun e => by have := beq_iff_eq.1 e; omega
     rw [if_neg h1, spl_some p r [] h2]
     have e1 : (p ++ 10 :: r).take ((p.length : Int).toNat + 0) = [] ++ p := by simp
     have e2 : (p ++ 10 :: r).drop ((p.length : Int).toNat + [(10 : UInt8)].length) = r := by
       have e3 : ((p.length : Int).toNat + [(10 : UInt8)].length) = p.length + 1 := by simp
       rw [e3, List.drop_append, List.drop_of_length_le (by omega)]
       have e4 : p.length + 1 - p.length = 1 := by omega
       rw [e4]
       rfl
     rw [e1, e2, i1]
theorem map_data (l : List ByteArray) (m : List Bs) (h : l.map (·.data.toList) = m) : l = m.map bs := by
 subst h
 rw [List.map_map]
 have : (bs ∘ fun x : ByteArray => x.data.toList) = id := by funext x; exact list_bs x
 rw [this]
 simp
theorem split_spl (s : ByteArray) : splitV s = (spl s.data.toList []).map bs := by
 refine map_data _ _ ?_
 unfold splitV
 rw [Lib.splitB_data]
 exact (splitK_spl _ s.data.toList (Nat.le_refl _)).1
theorem count_le (s : ByteArray) : Lib.countB s ⟨#[10]⟩ ≤ s.size := Lib.countB_le ⟨#[10]⟩ (by decide) s.size s (Nat.le_refl _)
def lin : Bs → Bs → List Bs
 | [], cur => if cur = [] then [] else [cur]
 | c :: r, cur => if c = 10 then cur :: lin r [] else lin r (cur ++ [c])
theorem lin_none : ∀ (l cur : Bs), 10 ∉ l → lin l cur = if cur ++ l = [] then [] else [cur ++ l]
 | [], cur, _ => by simp [lin]
 | c :: l, cur, h => by
   simp only [List.mem_cons, not_or] at h
   rw [lin, if_neg (fun e => h.1 e.symm), lin_none l _ h.2]
   simp
theorem lin_some : ∀ (p r cur : Bs), 10 ∉ p → lin (p ++ 10 :: r) cur = (cur ++ p) :: lin r []
 | [], r, cur, _ => by simp [lin]
 | c :: p, r, cur, h => by
   simp only [List.mem_cons, not_or] at h
   rw [List.cons_append, lin, if_neg (fun e => h.1 e.symm), lin_some p r _ h.2]
   simp
def trimE (l : List Bs) : List Bs := if l.getD (l.length - 1) [] = [] then l.take (l.length - 1) else l
theorem trimE_cons (x : Bs) (l : List Bs) (h : l ≠ []) : trimE (x :: l) = x :: trimE l := by
 have hl : 0 < l.length := List.length_pos_iff.2 h
 have e1 : (x :: l).length - 1 = (l.length - 1) + 1 := by simp only [List.length_cons]; omega
 unfold trimE
 simp only [e1, List.getD_cons_succ, List.take_succ_cons]
 split <;> rfl
theorem lin_spl : ∀ (l cur : Bs), lin l cur = trimE (spl l cur)
 | [], cur => by simp [lin, spl, trimE]
 | c :: l, cur => by
   simp only [lin, spl]
   by_cases h : c = 10
   · rw [if_pos h, if_pos h, lin_spl l [], trimE_cons _ _ (spl_ne l [])]
   · rw [if_neg h, if_neg h]
     exact lin_spl l (cur ++ [c])
theorem getD_bs (l : List Bs) (k : Nat) : (l.map bs).getD k emp = bs (l.getD k []) := by
 simp only [List.getD_eq_getElem?_getD, List.getElem?_map]
 cases l[k]? <;> rfl
theorem lines_lin (s : ByteArray) : linesV s = (lin s.data.toList []).map bs := by
 unfold linesV
 rw [split_spl, lin_spl, List.length_map, getD_bs]
 unfold trimE
 simp only [bs_emp_iff]
 split
 · rw [List.map_take]
 · rfl
def cutL (c : UInt8) : Bs → Bs
 | [] => []
 | x :: r => if x = c then [] else x :: cutL c r
theorem cutL_none (c : UInt8) : ∀ l : Bs, c ∉ l → cutL c l = l
 | [], _ => rfl
 | x :: l, h => by
   simp only [List.mem_cons, not_or] at h
   rw [cutL, if_neg (fun e => h.1 e.symm), cutL_none c l h.2]
theorem cutL_some (c : UInt8) : ∀ p r : Bs, c ∉ p → cutL c (p ++ c :: r) = p
 | [], r, _ => by simp [cutL]
 | x :: p, r, h => by
   simp only [List.mem_cons, not_or] at h
   rw [List.cons_append, cutL, if_neg (fun e => h.1 e.symm), cutL_some c p r h.2]
theorem cutS_eq (s : ByteArray) : cutS s = bs (cutL 59 s.data.toList) := by
 unfold cutS
 show bs _ = bs _
 congr 1
 unfold Lib.cut
 rcases first_of 59 s.data.toList with h1 | ⟨p, r, h1, h2⟩
 · have hi : Lib.index s.data.toList [59] = -1 := by rw [Lib.index_one, ib_none 59 _ h1]
   rw [hi, if_neg (by decide), cutL_none 59 _ h1]
 · have hi : Lib.index s.data.toList [59] = p.length := by rw [Lib.index_one, h1, ib_some 59 p r h2]
   rw [hi, if_pos (by omega), h1, cutL_some 59 p r h2]
   simp
def lineT (l : Bs) : List ByteArray := (tk2 (cutL 59 l) []).map bs
theorem line_tok (l : Bs) : tokensV (cutS (bs l)) = lineT l := by
 rw [cutS_eq, tokens_tk2, bs_list, bs_list]
 rfl
def asmL (a : Asm) (k : Nat) : List Bs → Except (Int × Int) Asm
 | [] => .ok a
 | l :: r => match oneV { a with line := ((k + 1 : Nat) : Int) } (lineT l) with
   | .error e => .error (((k + 1 : Nat) : Int), e)
   | .ok a' => asmL a' (k + 1) r
theorem asmGo_L : ∀ (r : List Bs) (a : Asm) (k : Nat), asmGo a k (r.map bs) = asmL a k r
 | [], a, k => rfl
 | l :: r, a, k => by
   rw [List.map_cons]
   simp only [asmGo, asmL, line_tok]
   cases oneV { a with line := ((k + 1 : Nat) : Int) } (lineT l) with
   | error e => rfl
   | ok a' => exact asmGo_L r a' (k + 1)
def asmF (r : Except (Int × Int) Asm) : Except (Int × Int) (List Int) :=
 match r with
 | .error p => .error p
 | .ok a => match resGo a a.wants with
   | .error p => .error p
   | .ok a' => .ok a'.words
theorem asmV_L (l : Bs) (h : l.length ≤ 1048576) : asmV (bs l) = asmF (asmL asm0 0 (lin l [])) := by
 unfold asmV asmF
 rw [if_neg (by rw [Lib.size_eq, bs_list]; omega), lines_lin, bs_list, asmGo_L]
 cases asmL asm0 0 (lin l []) with
 | error p => rfl
 | ok a =>
   simp only
   cases resGo a a.wants <;> rfl
end Go.Proofs.YtbaooebafijenaaGreatDoor
