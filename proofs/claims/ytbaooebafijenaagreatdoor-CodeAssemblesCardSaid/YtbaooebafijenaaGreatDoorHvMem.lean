/- The evaluator's memory as rewriting rules: closing and opening moved to the base; rows of registers. -/
import Derived.Test.YtbaooebafijenaaGreatDoorHvBits
namespace Go.Ev
open Go
set_option linter.unusedSectionVars false
set_option linter.unusedSimpArgs false
section
variable [Tabs]
theorem cl_opn (H : Hp) : H.cl = H.opn H.next := rfl
theorem new_opn (H : Hp) (x : Blk) (L : Nat) : (H.new x).opn L = (H.opn L).new x := rfl
theorem set_opn (H : Hp) (b : Nat) (x : Blk) (L : Nat) : (H.set b x).opn L = (H.opn L).set b x := rfl
theorem opn_opn (H : Hp) (L M : Nat) : (H.opn L).opn M = H.opn M := rfl
theorem fl_opn : (Hp.fl).opn Tabs.gn = Hp.fl := rfl
theorem next_opn (H : Hp) (L : Nat) : (H.opn L).next = H.next := rfl
theorem lim_opn (H : Hp) (L : Nat) : (H.opn L).lim = L := rfl
theorem get_opn (H : Hp) (L b : Nat) : (H.opn L).get b = H.get b := rfl
theorem cells_opn (H : Hp) (L b : Nat) : (H.opn L).cells b = H.cells b := rfl
def Hp.rwc (H : Hp) (b : Nat) : Option (List Value) := match H.get b with | some (.rw cs) => some cs | _ => none
theorem rwc_opn (H : Hp) (L b : Nat) : (H.opn L).rwc b = H.rwc b := rfl
theorem rwc_new (H : Hp) (cs : List Value) (b : Nat) : (H.new (.rw cs)).rwc b = if b = H.next then some cs else H.rwc b := by
 by_cases h : b = H.next <;> simp [Hp.rwc, h]
theorem rwc_set (H : Hp) (cs : List Value) (b c : Nat) : (H.set c (.rw cs)).rwc b = if b = c then some cs else H.rwc b := by
 by_cases h : b = c <;> simp [Hp.rwc, h]
theorem sto_ptr (n b o : Nat) (v : Value) (H : Hp) : st n (ptr b o) v H =
   if H.lim ≤ b then (H.rwc b).bind fun cs => (bx v).bind fun vs => if vs.length = n ∧ o + n ≤ cs.length ∧ vs.all okC = true then some (H.set b (.rw (splice cs o vs))) else none else none := by
 rw [st_ptr]
 by_cases h : H.lim ≤ b
 · simp only [Hp.wc, Hp.rwc, h, if_true]; rfl
 · simp only [Hp.wc, h, if_false, Option.bind_none]
end
def upd (f : Nat → Int) (i : Nat) (v : Int) : Nat → Int := fun j => if j = i then v else f j
def rowI (k : IntKind) (n : Nat) (f : Nat → Int) : List Value := (List.range n).map fun i => .int k (f i)
theorem rowI_length (k : IntKind) (n : Nat) (f : Nat → Int) : (rowI k n f).length = n := by simp [rowI]
theorem rowI_get (k : IntKind) (n : Nat) (f : Nat → Int) (i : Nat) (h : i < n) : (rowI k n f)[i]? = some (.int k (f i)) := by simp [rowI, h]
theorem rowI_set (k : IntKind) (n : Nat) (f : Nat → Int) (i : Nat) (v : Int) : (rowI k n f).set i (.int k v) = rowI k n (upd f i v) := by
 apply List.ext_getElem?
 intro j
 rw [List.getElem?_set]
 by_cases hj : j < n
 · rw [rowI_get _ _ _ _ hj, rowI_get _ _ _ _ hj, rowI_length]
   by_cases e : i = j
   · subst e; simp [upd, hj]
   · have : ¬ j = i := fun h => e h.symm
     simp [upd, e, this]
 · rw [List.getElem?_eq_none (by rw [rowI_length]; omega), List.getElem?_eq_none (by rw [rowI_length]; omega), rowI_length]
   split
   · split
     · omega
     · rfl
   · rfl
theorem rowI_all (k : IntKind) (n : Nat) (f : Nat → Int) (p : Value → Bool) (h : ∀ x, p (.int k x) = true) : (rowI k n f).all p = true := by
 simp [rowI, h]
theorem splice_eq : ∀ (vs cs : List Value) (o : Nat), o + vs.length ≤ cs.length → splice cs o vs = cs.take o ++ vs ++ cs.drop (o + vs.length)
 | [], cs, o, h => by simp [splice]
 | v :: vs, cs, o, h => by
   simp only [List.length_cons] at h
   rw [splice, splice_eq vs (cs.set o v) (o + 1) (by simp; omega)]
   have ho : o < cs.length := by omega
   have h1 : (cs.set o v).take (o + 1) = cs.take o ++ [v] := by
     apply List.ext_getElem?
     intro j
     have hl : (cs.take o).length = o := by rw [List.length_take]; omega
     by_cases hj : j < o
     · rw [List.getElem?_take_of_lt (by omega), List.getElem?_set_ne (by omega), List.getElem?_append_left (by omega), List.getElem?_take_of_lt hj]
     · by_cases hj' : j = o
       · subst hj'
         rw [List.getElem?_take_of_lt (by omega), List.getElem?_set_self ho, List.getElem?_append_right (by omega), hl]
         simp
       · rw [List.getElem?_eq_none (by rw [List.length_take]; omega), List.getElem?_eq_none (by rw [List.length_append, hl]; simp only [List.length_cons, List.length_nil]; omega)]
   have h2 : (cs.set o v).drop (o + 1 + vs.length) = cs.drop (o + (vs.length + 1)) := by
     rw [List.drop_set_of_lt (by omega)]
     congr 1
     omega
   rw [h1, h2]
   simp
def regs (R F : Nat → Int) (pc : Int) : List Value := rowI .u32 16 R ++ (rowI .u64 8 F ++ [.int .u32 pc])
theorem regs_length (R F : Nat → Int) (pc : Int) : (regs R F pc).length = 25 := by simp [regs, rowI_length]
theorem regs_R (R F : Nat → Int) (pc : Int) (i : Nat) (h : i < 16) : (regs R F pc)[i]? = some (.int .u32 (R i)) := by
 rw [regs, List.getElem?_append_left (by rw [rowI_length]; exact h), rowI_get _ _ _ _ h]
theorem regs_F (R F : Nat → Int) (pc : Int) (i : Nat) (h : i < 8) : (regs R F pc)[16 + i]? = some (.int .u64 (F i)) := by
 rw [regs, List.getElem?_append_right (by rw [rowI_length]; omega), rowI_length, List.getElem?_append_left (by rw [rowI_length]; omega), show 16 + i - 16 = i by omega, rowI_get _ _ _ _ h]
theorem regs_pc (R F : Nat → Int) (pc : Int) : (regs R F pc)[24]? = some (.int .u32 pc) := by
 rw [regs, List.getElem?_append_right (by rw [rowI_length]; omega), rowI_length, List.getElem?_append_right (by rw [rowI_length]; omega), rowI_length]
 rfl
theorem regs_setR (R F : Nat → Int) (pc : Int) (i : Nat) (v : Int) (h : i < 16) : (regs R F pc).set i (.int .u32 v) = regs (upd R i v) F pc := by
 rw [regs, List.set_append_left _ _ (by rw [rowI_length]; exact h), rowI_set]; rfl
theorem regs_setF (R F : Nat → Int) (pc : Int) (i : Nat) (v : Int) (h : i < 8) : (regs R F pc).set (16 + i) (.int .u64 v) = regs R (upd F i v) pc := by
 rw [regs, List.set_append_right _ _ (by rw [rowI_length]; omega), rowI_length, show 16 + i - 16 = i by omega, List.set_append_left _ _ (by rw [rowI_length]; exact h), rowI_set]; rfl
theorem regs_setPc (R F : Nat → Int) (pc : Int) (v : Int) : (regs R F pc).set 24 (.int .u32 v) = regs R F v := by
 rw [regs, List.set_append_right _ _ (by rw [rowI_length]; omega), rowI_length, List.set_append_right _ _ (by rw [rowI_length]; omega), rowI_length]; rfl
theorem regs_all (R F : Nat → Int) (pc : Int) (p : Value → Bool) (h : ∀ (k : IntKind) (x : Int), p (.int k x) = true) : (regs R F pc).all p = true := by
 simp only [regs, List.all_append, rowI_all _ _ _ _ (h _), List.all_cons, h, List.all_nil, Bool.and_self]
theorem regs_okC (R F : Nat → Int) (pc : Int) : (regs R F pc).all okC = true := regs_all R F pc _ fun _ _ => rfl
theorem regs_flat (R F : Nat → Int) (pc : Int) : flat (.agg (regs R F pc).toArray) = true := regs_all R F pc (flatN 3) fun _ _ => rfl
end Go.Ev
namespace Go.Ev
open Go
theorem app_get (R F : Nat → Int) (pc : Int) (l : List Value) (k : Nat) (h : 25 ≤ k) : (regs R F pc ++ l)[k]? = l[k - 25]? := by
 rw [List.getElem?_append_right (by rw [regs_length]; exact h), regs_length]
theorem app_R (R F : Nat → Int) (pc : Int) (l : List Value) (k : Nat) (h : k < 16) : (regs R F pc ++ l)[k]? = some (.int .u32 (R k)) := by
 rw [List.getElem?_append_left (by rw [regs_length]; omega), regs_R _ _ _ _ h]
theorem app_F (R F : Nat → Int) (pc : Int) (l : List Value) (k : Nat) (h : k < 8) : (regs R F pc ++ l)[16 + k]? = some (.int .u64 (F k)) := by
 rw [List.getElem?_append_left (by rw [regs_length]; omega), regs_F _ _ _ _ h]
theorem app_pc (R F : Nat → Int) (pc : Int) (l : List Value) : (regs R F pc ++ l)[24]? = some (.int .u32 pc) := by
 rw [List.getElem?_append_left (by rw [regs_length]; omega), regs_pc]
theorem app_set (R F : Nat → Int) (pc : Int) (l : List Value) (k : Nat) (v : Value) (h : 25 ≤ k) : (regs R F pc ++ l).set k v = regs R F pc ++ l.set (k - 25) v := by
 rw [List.set_append_right _ _ (by rw [regs_length]; exact h), regs_length]
theorem app_setR (R F : Nat → Int) (pc : Int) (l : List Value) (k : Nat) (v : Int) (h : k < 16) : (regs R F pc ++ l).set k (.int .u32 v) = regs (upd R k v) F pc ++ l := by
 rw [List.set_append_left _ _ (by rw [regs_length]; omega), regs_setR _ _ _ _ _ h]
theorem app_setF (R F : Nat → Int) (pc : Int) (l : List Value) (k : Nat) (v : Int) (h : k < 8) : (regs R F pc ++ l).set (16 + k) (.int .u64 v) = regs R (upd F k v) pc ++ l := by
 rw [List.set_append_left _ _ (by rw [regs_length]; omega), regs_setF _ _ _ _ _ h]
theorem app_setPc (R F : Nat → Int) (pc : Int) (l : List Value) (v : Int) : (regs R F pc ++ l).set 24 (.int .u32 v) = regs R F v ++ l := by
 rw [List.set_append_left _ _ (by rw [regs_length]; omega), regs_setPc]
theorem app_length (R F : Nat → Int) (pc : Int) (l : List Value) : (regs R F pc ++ l).length = 25 + l.length := by rw [List.length_append, regs_length]
theorem app_take (R F : Nat → Int) (pc : Int) (l : List Value) : (regs R F pc ++ l).take 25 = regs R F pc := by
 rw [List.take_append_of_le_length (by rw [regs_length]; omega), List.take_of_length_le (by rw [regs_length]; omega)]
theorem app_drop (R F : Nat → Int) (pc : Int) (l : List Value) : (regs R F pc ++ l).drop 25 = l := by
 rw [List.drop_append_of_le_length (by rw [regs_length]; omega), List.drop_of_length_le (by rw [regs_length]; omega)]
 rfl
theorem app_all (R F : Nat → Int) (pc : Int) (l : List Value) : (regs R F pc ++ l).all okC = l.all okC := by rw [List.all_append, regs_okC]; rfl
theorem regs_take (R F : Nat → Int) (pc : Int) : (regs R F pc).take 25 = regs R F pc := List.take_of_length_le (by rw [regs_length]; omega)
theorem splice_regs (R F : Nat → Int) (pc : Int) (cs : List Value) (h : 25 ≤ cs.length) : splice cs 0 (regs R F pc) = regs R F pc ++ cs.drop 25 := by
 rw [splice_eq _ _ _ (by rw [regs_length]; omega), regs_length]
 rfl
theorem regs_append_nil (R F : Nat → Int) (pc : Int) : regs R F pc ++ [] = regs R F pc := List.append_nil _
end Go.Ev
namespace Go.Ev
open Go
theorem regs_take16 (R F : Nat → Int) (pc : Int) : (regs R F pc).take 16 = rowI .u32 16 R := by
 rw [regs, List.take_append_of_le_length (by rw [rowI_length]; omega), List.take_of_length_le (by rw [rowI_length]; omega)]
theorem app_take16 (R F : Nat → Int) (pc : Int) (l : List Value) : (regs R F pc ++ l).take 16 = rowI .u32 16 R := by
 rw [List.take_append_of_le_length (by rw [regs_length]; omega), regs_take16]
theorem seqS_self (k : IntKind) : ∀ (l : List Int), seqS (List.replicate l.length 0) (l.map (.int k)) (l.map (.int k)) = some true
 | [] => rfl
 | a :: l => by
   simp only [List.length_cons, List.replicate_succ, List.map_cons]
   rw [seqS_int, seqS_self k l]
   simp
theorem seqS_append : ∀ (s t : List Nat) (a b c d : List Value), a.length = s.length → b.length = s.length → seqS s a b = some true → seqS (s ++ t) (a ++ c) (b ++ d) = seqS t c d
 | [], t, a, b, c, d, ha, hb, _ => by
   cases a with
   | nil => cases b with
     | nil => rfl
     | cons _ _ => simp at hb
   | cons _ _ => simp at ha
 | k :: s, t, [], b, c, d, ha, hb, h => by simp at ha
 | k :: s, t, x :: a, [], c, d, ha, hb, h => by simp at hb
 | k :: s, t, x :: a, y :: b, c, d, ha, hb, h => by
   simp only [seqS, List.cons_append] at h ⊢
   obtain ⟨p, hp, h⟩ := Option.bind_eq_some_iff.1 h
   obtain ⟨q, hq, h⟩ := Option.map_eq_some_iff.1 h
   simp only [Bool.and_eq_true] at h
   obtain ⟨rfl, rfl⟩ := h
   rw [hp, seqS_append s t a b c d (by simpa using ha) (by simpa using hb) hq]
   cases seqS t c d <;> simp
theorem row_self (k : IntKind) (n : Nat) (R : Nat → Int) : seqS (List.replicate n 0) (rowI k n R) (rowI k n R) = some true := by
 have := seqS_self k ((List.range n).map R)
 simpa [rowI, List.map_map, Function.comp_def] using this
theorem row16_self (R : Nat → Int) : seqS [0, 0, 0, 0, 0, 0, 0, 0, 0, 0, 0, 0, 0, 0, 0, 0] (rowI .u32 16 R) (rowI .u32 16 R) = some true := row_self .u32 16 R
theorem regs_self (R F : Nat → Int) (pc : Int) : seqS [0, 0, 0, 0, 0, 0, 0, 0, 0, 0, 0, 0, 0, 0, 0, 0, 0, 0, 0, 0, 0, 0, 0, 0, 0] (regs R F pc) (regs R F pc) = some true := by
 have h1 := seqS_append (List.replicate 16 0) (List.replicate 9 0) (rowI .u32 16 R) (rowI .u32 16 R) (rowI .u64 8 F ++ [.int .u32 pc]) (rowI .u64 8 F ++ [.int .u32 pc]) (by simp [rowI_length]) (by simp [rowI_length]) (row_self _ _ _)
 have h2 := seqS_append (List.replicate 8 0) [0] (rowI .u64 8 F) (rowI .u64 8 F) [.int .u32 pc] [.int .u32 pc] (by simp [rowI_length]) (by simp [rowI_length]) (row_self _ _ _)
 have h3 : seqS [0] [.int .u32 pc] [.int .u32 pc] = some true := by simp [seqS, seq1]
 exact h1.trans (h2.trans h3)
end Go.Ev
namespace Go.Ev
open Go
theorem regs_drop (R F : Nat → Int) (pc : Int) : (regs R F pc).drop 25 = [] := List.drop_of_length_le (by rw [regs_length]; omega)
end Go.Ev
namespace Go.Ev
open Go
theorem rdA_ptr (b o : Nat) : rdA (ptr b o) = some b := rfl
theorem memN_nil (b : Nat) : memN b [] = false := rfl
theorem memN_cons (b c : Nat) (l : List Nat) : memN b (c :: l) = if b = c then true else memN b l := by
 simp only [memN]
 by_cases h : b = c
 · subst h; simp
 · have : Nat.beq b c = false := by
     cases hb : Nat.beq b c with
     | false => rfl
     | true => exact absurd (Nat.eq_of_beq_eq_true hb) h
   rw [this]; simp [h]
end Go.Ev
