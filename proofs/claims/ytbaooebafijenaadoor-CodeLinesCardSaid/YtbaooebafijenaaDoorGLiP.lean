/- Lines of instructions are their words: what the texts of CodeLines are assembled to. -/
import Derived.Test.YtbaooebafijenaaDoorGLin
import Derived.Test.YtbaooebafijenaaDoorGBw
import Derived.KernelRfl
namespace Go.Proofs.YtbaooebafijenaaDoor
open Go Go.Ev
set_option maxRecDepth 100000
set_option linter.unusedVariables false
set_option linter.unusedSectionVars false
variable [Mx]
theorem one_plain {a : Asm} {T : List ByteArray} {ws : List Int} {i : Ins} (h1 : lbGo T = ([], T)) (h2 : rdV T = some (ws, i, emp)) (h3 : a.words.length + ws.length ≤ 65536) : oneV a T = .ok { a with words := a.words ++ ws } := by
  unfold oneV
  rw [h1]
  simp only [h2, addL]
  rw [if_neg (by omega)]
  simp
theorem asmL_rep (l : Bs) (ws : List Int) (i : Ins) (h1 : lbGo (lineT l) = ([], lineT l)) (h2 : rdV (lineT l) = some (ws, i, emp)) : ∀ (b : Nat) (a : Asm) (k : Nat) (r : List Bs), a.words.length + b * ws.length ≤ 65536 →
    ∃ ln, asmL a k (List.replicate b l ++ r) = asmL { a with words := a.words ++ (List.replicate b ws).flatten, line := ln } (k + b) r
  | 0, a, k, r, h => ⟨a.line, by simp⟩
  | b + 1, a, k, r, h => by
    rw [Nat.succ_mul] at h
    have hs := asmL_step (r := List.replicate b l ++ r) (one_plain (a := { a with line := ((k + 1 : Nat) : Int) }) h1 h2 (by simp only; omega))
    obtain ⟨ln, ih⟩ := asmL_rep l ws i h1 h2 b { a with words := a.words ++ ws, line := ((k + 1 : Nat) : Int) } (k + 1) r (by simp only [List.length_append]; omega)
    refine ⟨ln, ?_⟩
    rw [List.replicate_succ, List.cons_append, hs]
    refine Eq.trans ih ?_
    simp only [List.replicate_succ, List.flatten_cons, List.append_assoc]
    congr 1
    omega
def repL (b : Nat) (l : Bs) : Bs := (List.replicate b l).flatten
theorem repL_succ (b : Nat) (l : Bs) : repL (b + 1) l = l ++ repL b l := by simp [repL, List.replicate_succ]
theorem repL_len (b : Nat) (l : Bs) : (repL b l).length = b * l.length := by
  induction b with
  | zero => simp [repL]
  | succ b ih => rw [repL_succ, List.length_append, ih, Nat.succ_mul]; omega
theorem lin_rep (l : Bs) (h : 10 ∉ l) : ∀ (b : Nat) (r : Bs), lin (repL b (l ++ [10]) ++ r) [] = List.replicate b l ++ lin r []
  | 0, r => by simp [repL]
  | b + 1, r => by
    rw [repL_succ, List.append_assoc, List.append_assoc, List.singleton_append, lin_some l _ [] h, lin_rep l h b r]
    simp [List.replicate_succ]
def tLi : Bs := [108, 105, 32, 114, 49, 44, 32, 55, 48, 48, 48, 48]
def tNop : Bs := [110, 111, 112]
def tJal : Bs := [106, 97, 108, 32, 114, 49, 53, 44, 32, 116, 104, 101, 114, 101]
def tTh : Bs := [116, 104, 101, 114, 101, 58]
def tThH : Bs := [116, 104, 101, 114, 101, 58, 32, 104, 97, 108, 116]
def there : ByteArray := ⟨#[116, 104, 101, 114, 101]⟩
def halt : ByteArray := ⟨#[104, 97, 108, 116]⟩
theorem li1 : lbGo (lineT tLi) = ([], lineT tLi) := by kernel_rfl
theorem li2 : rdV (lineT tLi) = some (liW 1 70000, zer, emp) := by kernel_rfl
theorem nop1 : lbGo (lineT tNop) = ([], lineT tNop) := by kernel_rfl
theorem nop2 : rdV (lineT tNop) = some ([encW 1 0 0 0 0], ⟨1, 0, 0, 0, 0⟩, emp) := by kernel_rfl
theorem jal1 : lbGo (lineT tJal) = ([], lineT tJal) := by kernel_rfl
theorem jal2 : rdV (lineT tJal) = some ([encW 44 15 0 0 0], ⟨44, 15, 0, 0, 0⟩, there) := by kernel_rfl
theorem th1 : lbGo (lineT tTh) = ([there], []) := by kernel_rfl
theorem thh1 : lbGo (lineT tThH) = ([there], [halt]) := by kernel_rfl
theorem thh2 : rdV [halt] = some ([encW 71 0 0 0 0], ⟨71, 0, 0, 0, 0⟩, emp) := by kernel_rfl
theorem one_jal {a : Asm} (h3 : a.words.length + 1 ≤ 65536) : oneV a (lineT tJal) = .ok { a with words := a.words ++ [encW 44 15 0 0 0], wants := a.wants ++ [⟨a.line, a.words.length, ⟨44, 15, 0, 0, 0⟩, there⟩] } := by
  unfold oneV
  rw [jal1]
  simp only [jal2, addL]
  rw [if_neg (by simp; omega), if_neg (by decide)]
theorem one_th {a : Asm} (h : a.labels = []) (h3 : a.words.length ≤ 65536) : oneV a (lineT tTh) = .ok { a with labels := [(there, (a.words.length : Int))] } := by
  unfold oneV
  rw [th1]
  simp only [rdV, addL, h, findL]
  rw [if_neg (by simp; omega)]
  simp
theorem one_thh {a : Asm} (h : a.labels = []) (h3 : a.words.length + 1 ≤ 65536) : oneV a (lineT tThH) = .ok { a with words := a.words ++ [encW 71 0 0 0 0], labels := [(there, (a.words.length : Int))] } := by
  unfold oneV
  rw [thh1]
  simp only [thh2, addL, h, findL]
  rw [if_neg (by simp; omega)]
  simp
theorem jal_chk (z : Int) (h : -32768 ≤ z ∧ z ≤ 32767) : chkV 44 15 0 0 z = 0 := by
  unfold chkV
  have e1 : formV 44 = 8 := rfl
  have e2 : lowV 44 = -32768 := rfl
  have e3 : highV 44 = 32767 := rfl
  have e4 : mxA 8 = 15 := rfl
  have e5 : mxB 8 = 0 := rfl
  have e6 : mxC 8 = 0 := rfl
  have e7 : hasF 8 = true := rfl
  rw [if_neg (by decide), if_pos]
  unfold okF
  rw [e1, e2, e3, e4, e5, e6, e7]
  simp only [cond_true]
  omega
theorem flat_len (b : Nat) (ws : List Int) : ((List.replicate b ws).flatten).length = b * ws.length := by
  induction b with
  | zero => simp
  | succ b ih => rw [List.replicate_succ, List.flatten_cons, List.length_append, ih, Nat.succ_mul]; omega
def txtA (B N : Nat) : Bs := repL B (tLi ++ [10]) ++ (tJal ++ 10 :: (repL N (tNop ++ [10]) ++ tThH))
def txtB (B N : Nat) : Bs := repL B (tLi ++ [10]) ++ (tTh ++ 10 :: (repL N (tNop ++ [10]) ++ (tJal ++ [10])))
theorem asm_ahead (B N : Nat) (hB : B < 50) (hN : N < 200) : ∃ ws, asmV (bs (txtA B N)) = .ok ws ∧ ws.length = 2 * B + N + 2 ∧ ws[2 * B]? = some (encV 44 15 0 0 ((N + 1 : Nat) : Int)) := by
  have hlen : (txtA B N).length ≤ 1048576 := by
    unfold txtA
    have e1 : tLi.length = 12 := rfl
    have e2 : tNop.length = 3 := rfl
    have e3 : tJal.length = 14 := rfl
    have e4 : tThH.length = 11 := rfl
    simp only [List.length_append, List.length_cons, List.length_nil, repL_len, e1, e2, e3, e4]
    omega
  rw [asmV_L _ hlen]
  unfold txtA
  rw [lin_rep tLi (by decide), lin_some tJal _ [] (by decide), lin_rep tNop (by decide), lin_none tThH [] (by decide), if_neg (by decide)]
  have l2 : (liW 1 70000).length = 2 := rfl
  obtain ⟨l1, e1⟩ := asmL_rep tLi _ _ li1 li2 B asm0 0 ([] ++ tJal :: (List.replicate N tNop ++ [[] ++ tThH])) (by rw [l2]; show 0 + B * 2 ≤ 65536; omega)
  simp only [List.nil_append] at e1 ⊢
  rw [e1]
  have fl := flat_len B (liW 1 70000)
  rw [l2] at fl
  generalize (List.replicate B (liW 1 70000)).flatten = w1 at fl
  rw [asmL_step (one_jal (by simp only [List.length_append]; show 0 + w1.length + 1 ≤ 65536; omega))]
  simp only [asm0, List.nil_append]
  obtain ⟨l2', e2⟩ := asmL_rep tNop _ _ nop1 nop2 N ⟨w1 ++ [encW 44 15 0 0 0], [], [⟨((0 + B + 1 : Nat) : Int), (w1.length : Int), ⟨44, 15, 0, 0, 0⟩, there⟩], ((0 + B + 1 : Nat) : Int)⟩ (0 + B + 1) [tThH] (by simp; omega)
  rw [e2]
  have fn := flat_len N [encW 1 0 0 0 0]
  rw [List.length_singleton, Nat.mul_one] at fn
  generalize (List.replicate N [encW 1 0 0 0 0]).flatten = w2 at fn
  rw [asmL_step (one_thh rfl (by simp only [List.length_append, List.length_cons, List.length_nil]; omega))]
  simp only [asmL, asmF, resGo, resV, findL, if_true]
  have hI : IntKind.wrap .i64 (((w1 ++ [encW 44 15 0 0 0] ++ w2).length : Int) - (w1.length : Int)) = ((N + 1 : Nat) : Int) := by
    rw [IntWalk.i64_in _ (by simp; omega)]
    simp
    omega
  have hc : (Want.ins ⟨((0 + B + 1 : Nat) : Int), (w1.length : Int), ⟨44, 15, 0, 0, 0⟩, there⟩ ((w1 ++ [encW 44 15 0 0 0] ++ w2).length : Int)).chk = 0 := by
    show chkV 44 15 0 0 (IntKind.wrap .i64 (((w1 ++ [encW 44 15 0 0 0] ++ w2).length : Int) - (w1.length : Int))) = 0
    rw [hI]
    exact jal_chk _ (by omega)
  have hw : (Want.ins ⟨((0 + B + 1 : Nat) : Int), (w1.length : Int), ⟨44, 15, 0, 0, 0⟩, there⟩ ((w1 ++ [encW 44 15 0 0 0] ++ w2).length : Int)).word = encV 44 15 0 0 ((N + 1 : Nat) : Int) := by
    show encV 44 15 0 0 (IntKind.wrap .i64 (((w1 ++ [encW 44 15 0 0 0] ++ w2).length : Int) - (w1.length : Int))) = _
    rw [hI]
  rw [if_pos hc, hw]
  refine ⟨_, rfl, ?_, ?_⟩
  · simp; omega
  · rw [Int.toNat_natCast, fl, Nat.mul_comm B 2, List.getElem?_set_self (by simp; omega)]
theorem asm_behind (B N : Nat) (hB : B < 50) (hN : N < 200) : ∃ ws, asmV (bs (txtB B N)) = .ok ws ∧ ws.length = 2 * B + N + 1 ∧ ws[2 * B + N]? = some (encV 44 15 0 0 (-(N : Int))) := by
  have hlen : (txtB B N).length ≤ 1048576 := by
    unfold txtB
    have e1 : tLi.length = 12 := rfl
    have e2 : tNop.length = 3 := rfl
    have e3 : tJal.length = 14 := rfl
    have e4 : tTh.length = 6 := rfl
    simp only [List.length_append, List.length_cons, List.length_nil, repL_len, e1, e2, e3, e4]
    omega
  rw [asmV_L _ hlen]
  unfold txtB
  have e0 : tJal ++ [10] = tJal ++ 10 :: [] := rfl
  rw [lin_rep tLi (by decide), lin_some tTh _ [] (by decide), lin_rep tNop (by decide), e0, lin_some tJal [] [] (by decide)]
  have l2 : (liW 1 70000).length = 2 := rfl
  obtain ⟨l1, e1⟩ := asmL_rep tLi _ _ li1 li2 B asm0 0 ([] ++ tTh :: (List.replicate N tNop ++ ([] ++ tJal) :: lin [] [])) (by rw [l2]; show 0 + B * 2 ≤ 65536; omega)
  simp only [List.nil_append] at e1 ⊢
  rw [e1]
  have fl := flat_len B (liW 1 70000)
  rw [l2] at fl
  generalize (List.replicate B (liW 1 70000)).flatten = w1 at fl
  rw [asmL_step (one_th rfl (by simp only [List.length_append]; show 0 + w1.length ≤ 65536; omega))]
  simp only [asm0, List.nil_append]
  obtain ⟨l2', e2⟩ := asmL_rep tNop _ _ nop1 nop2 N ⟨w1, [(there, (w1.length : Int))], [], ((0 + B + 1 : Nat) : Int)⟩ (0 + B + 1) (tJal :: lin [] []) (by simp; omega)
  rw [e2]
  have fn := flat_len N [encW 1 0 0 0 0]
  rw [List.length_singleton, Nat.mul_one] at fn
  generalize (List.replicate N [encW 1 0 0 0 0]).flatten = w2 at fn
  rw [asmL_step (one_jal (by simp only [List.length_append]; omega))]
  simp only [lin, if_true, asmL, asmF, resGo, resV, findL, List.nil_append]
  have hI : IntKind.wrap .i64 ((w1.length : Int) - ((w1 ++ w2).length : Int)) = -(N : Int) := by
    rw [IntWalk.i64_in _ (by simp; omega)]
    simp
    omega
  have hc : (Want.ins ⟨((0 + B + 1 + N + 1 : Nat) : Int), ((w1 ++ w2).length : Int), ⟨44, 15, 0, 0, 0⟩, there⟩ (w1.length : Int)).chk = 0 := by
    show chkV 44 15 0 0 (IntKind.wrap .i64 ((w1.length : Int) - ((w1 ++ w2).length : Int))) = 0
    rw [hI]
    exact jal_chk _ (by omega)
  have hw : (Want.ins ⟨((0 + B + 1 + N + 1 : Nat) : Int), ((w1 ++ w2).length : Int), ⟨44, 15, 0, 0, 0⟩, there⟩ (w1.length : Int)).word = encV 44 15 0 0 (-(N : Int)) := by
    show encV 44 15 0 0 (IntKind.wrap .i64 ((w1.length : Int) - ((w1 ++ w2).length : Int))) = _
    rw [hI]
  rw [if_pos hc, hw]
  refine ⟨_, rfl, ?_, ?_⟩
  · simp; omega
  · rw [Int.toNat_natCast, List.length_append, fl, fn, Nat.mul_comm B 2, List.getElem?_set_self (by simp; omega)]
end Go.Proofs.YtbaooebafijenaaDoor
namespace Go.Proofs.YtbaooebafijenaaDoor
open Go Go.Ev
set_option maxRecDepth 100000
set_option linter.unusedVariables false
set_option linter.unusedSectionVars false
variable [Mx]
/-! ### The letters of an instruction's text -/
def tame (l : Bs) : Prop := ∀ c ∈ l, c ≠ 10 ∧ c ≠ 59
theorem tame_app {a b : Bs} (ha : tame a) (hb : tame b) : tame (a ++ b) := fun c hc => (List.mem_append.1 hc).elim (ha c) (hb c)
theorem tame_dec {l : Bs} (h : l.all (fun c => decide (c ≠ 10 ∧ c ≠ 59)) = true) : tame l := fun c hc => of_decide_eq_true (List.all_eq_true.1 h c hc)
theorem tame_joinTail (sep : Bs) (hs : tame sep) : ∀ l : List Bs, (∀ x ∈ l, tame x) → tame (Lib.joinTail sep l)
  | [], _ => fun c hc => by simp [Lib.joinTail] at hc
  | x :: l, h => by
    have e : Lib.joinTail sep (x :: l) = sep ++ x ++ Lib.joinTail sep l := by simp [Lib.joinTail]
    rw [e]
    exact tame_app (tame_app hs (h x List.mem_cons_self)) (tame_joinTail sep hs l fun y hy => h y (List.mem_cons_of_mem _ hy))
theorem tame_join (sep : Bs) (hs : tame sep) (l : List Bs) (h : ∀ x ∈ l, tame x) : tame (Lib.join l sep) := by
  cases l with
  | nil => rw [Lib.join_nil]; exact fun c hc => by cases hc
  | cons x l =>
    rw [Lib.join_cons]
    exact tame_app (h x List.mem_cons_self) (tame_joinTail sep hs l fun y hy => h y (List.mem_cons_of_mem _ hy))
theorem tame_itoa (z : Int) (h : -9223372036854775808 ≤ z ∧ z ≤ 9223372036854775807) : tame (itoaB z).data.toList := by
  rw [itoa_list h]
  have hd : ∀ n, tame (Lib.decDigits n) := fun n c hc => by
    have := (digits_dig _ n (Nat.lt_succ_self _)).1 c hc
    unfold isDig at this
    exact ⟨fun e => by subst e; exact absurd this.1 (by decide), fun e => by subst e; exact absurd this.2 (by decide)⟩
  unfold Lib.itoa
  split
  · exact fun c hc => (List.mem_cons.1 hc).elim (fun e => by subst e; decide) (hd _ c)
  · exact hd _
theorem tame_opd (i : Ins) (c : Nat) (h : -9223372036854775808 ≤ i.get c ∧ i.get c ≤ 9223372036854775807) : tame (opdV i c).data.toList := by
  rw [opd_list]
  have h1 := tame_itoa _ h
  split
  · exact h1
  · split
    · exact fun x hx => (List.mem_cons.1 hx).elim (fun e => by subst e; decide) (h1 x)
    · exact fun x hx => (List.mem_cons.1 hx).elim (fun e => by subst e; decide) (h1 x)
theorem tame_name (op : Int) : tame (nameV op).data.toList := by
  by_cases h : 0 ≤ op ∧ op < 72
  · have := List.all_eq_true.1 (show (List.range 72).all (fun k => (nameV (k : Int)).data.toList.all (fun c => decide (c ≠ 10 ∧ c ≠ 59))) = true by kernel_rfl) op.toNat (List.mem_range.2 (by omega))
    rw [show ((op.toNat : Nat) : Int) = op by omega] at this
    exact tame_dec this
  · unfold nameV
    rw [if_neg h]
    exact fun c hc => by cases hc
theorem tame_text {i : Ins} (hk : chkV i.op i.A i.B i.C i.I = 0) : tame (textV i).data.toList := by
  have hg : ∀ c, -9223372036854775808 ≤ i.get c ∧ i.get c ≤ 9223372036854775807 := fun c => by have := get_small hk c; omega
  have ho : ∀ x ∈ opsV i, tame x.data.toList := fun x hx => by
    simp only [opsV, List.mem_map] at hx
    obtain ⟨c, _, rfl⟩ := hx
    exact tame_opd i c.toNat (hg _)
  have hr : ∀ x ∈ rowV (formV i.op) (opsV i), tame x.data.toList := by
    unfold rowV
    split
    · rename_i h56
      obtain ⟨a, b, c, e, _⟩ := ops56 i h56
      rw [e] at ho ⊢
      intro x hx
      simp only [List.getD_cons_zero, List.getD_cons_succ, List.mem_cons, List.not_mem_nil, or_false] at hx
      rcases hx with rfl | rfl
      · exact ho _ (by simp)
      · rw [app_list, app_list, app_list]
        exact tame_app (tame_app (tame_app (ho _ (by simp)) (tame_dec rfl)) (ho _ (by simp))) (tame_dec rfl)
    · exact ho
  unfold textV
  split
  · exact tame_name _
  · rw [app_list, app_list]
    refine tame_app (tame_app (tame_name _) (tame_dec rfl)) ?_
    show tame (Lib.join _ [44, 32])
    refine tame_join _ (tame_dec rfl) _ fun x hx => ?_
    obtain ⟨y, hy, rfl⟩ := List.mem_map.1 hx
    exact hr y hy
/-! ### The words of a line -/
theorem tk2_blanks (b : Bs) (hb : ∀ c ∈ b, blB c = true) : ∀ l cur : Bs, tk2 (l ++ b) cur = tk2 l cur
  | [], cur => by
    have h0 : ∀ b : Bs, (∀ c ∈ b, blB c = true) → tk2 b [] = [] := by
      intro b
      induction b with
      | nil => intro _; rfl
      | cons c b ih => intro h; rw [tk2, if_pos (h c List.mem_cons_self), ih fun x hx => h x (List.mem_cons_of_mem _ hx)]; rfl
    cases b with
    | nil => rfl
    | cons c b =>
      show tk2 (c :: b) cur = flL cur
      simp only [tk2]
      rw [if_pos (hb c List.mem_cons_self), h0 b fun x hx => hb x (List.mem_cons_of_mem _ hx), List.append_nil]
  | c :: l, cur => by
    rw [List.cons_append]
    simp only [tk2]
    rw [tk2_blanks b hb l [], tk2_blanks b hb l (cur ++ [c])]
theorem named_li : namedV liB = -1 := by kernel_rfl
theorem named_word : namedV wordB = -1 := by kernel_rfl
theorem put_colon (c : Nat) (hc : shpC c) : (putV c colon).2 = false := by
  rcases hc with rfl | rfl | rfl | rfl | rfl | rfl | rfl <;> kernel_rfl
theorem label_colon : labelV colon = false := by kernel_rfl
theorem ins_read {T : List ByteArray} {i : Ins} (h : insV T = (i, emp, true)) : lbGo T = ([], T) ∧ rdV T = some ([encW i.op i.A i.B i.C i.I], i, emp) := by
  cases T with
  | nil => cases (show (zer, emp, false) = (i, emp, true) from h)
  | cons t T1 =>
    have hn : ¬ namedV t < 0 := by
      intro e
      simp only [insV] at h
      rw [if_pos e] at h
      cases h
    constructor
    · cases T1 with
      | nil => rfl
      | cons c r =>
        simp only [lbGo]
        by_cases hc : c = colon
        · exfalso
          subst hc
          obtain ⟨f1, f2⟩ := named_form (s := t) (by omega)
          obtain ⟨sz, bl, sc⟩ := shp_facts (formV (namedV t)) ⟨f1, f2⟩
          simp only [insV] at h
          rw [if_neg hn] at h
          split at h
          · cases h
          · split at h
            · cases h
            · rename_i hlen
              have hop0 : (opL (formV (namedV t)) (colon :: r)).getD 0 emp = colon := by
                unfold opL
                split <;> rfl
              have hopl : 1 ≤ (opL (formV (namedV t)) (colon :: r)).length := by
                unfold opL
                split
                · simp
                · simp
              have hsz : 1 ≤ (shpB (formV (namedV t))).size := by omega
              rw [Lib.size_eq] at hsz
              generalize hs : (shpB (formV (namedV t))).data.toList = S at sc h hsz
              cases S with
              | nil => simp at hsz
              | cons x S =>
                have hg : insGo (formV (namedV t)) (betw (formV (namedV t))) (opL (formV (namedV t)) (colon :: r)) (x :: S) 0 ⟨namedV t, 0, 0, 0, 0⟩ emp = none := by
                  simp only [insGo]
                  rw [if_neg (fun h => absurd h.1 (by decide)), Nat.mul_zero, hop0, if_neg (fun h => by rw [label_colon] at h; exact absurd h.2 (by decide)), put_colon _ (sc x List.mem_cons_self)]
                  rfl
                rw [hg] at h
                cases h
        · rw [if_neg (fun h => hc h.1)]
    · simp only [rdV]
      rw [if_neg (fun e => hn (by rw [e, named_li]; decide)), if_neg (fun e => hn (by rw [e, named_word]; decide)), h]
      rfl
theorem enc_word {i : Ins} (hk : chkV i.op i.A i.B i.C i.I = 0) : encW i.op i.A i.B i.C i.I = i.word := if_pos hk
theorem one_ins {a : Asm} {l : Bs} {i : Ins} (hk : chkV i.op i.A i.B i.C i.I = 0) (ht : lineT l = tokensV (textV i)) (h3 : a.words.length + 1 ≤ 65536) : oneV a (lineT l) = .ok { a with words := a.words ++ [i.word] } := by
  have hb := back_text hk
  obtain ⟨h1, h2⟩ := ins_read hb
  rw [ht, ← enc_word hk]
  exact one_plain h1 h2 (by simpa using h3)
theorem one_blank {a : Asm} {l : Bs} (ht : lineT l = []) (h3 : a.words.length ≤ 65536) : oneV a (lineT l) = .ok a := by
  rw [ht]
  have := one_plain (a := a) (T := []) (ws := []) (i := zer) rfl rfl (by simpa using h3)
  rw [this]
  simp
/-! ### Pieces of the text -/
def moreL (g : Nat) : Bs := if g = 0 then [10] else if g = 1 then [32, 59, 32, 110, 111, 116, 104, 105, 110, 103, 10] else if g = 2 then [10, 9, 10] else [32, 32, 10, 59, 10]
def piece (p : Ins × Nat) : Bs := 32 :: (textV p.1).data.toList ++ moreL p.2
def plines (p : Ins × Nat) : List Bs :=
  if p.2 = 0 then [32 :: (textV p.1).data.toList] else if p.2 = 1 then [32 :: (textV p.1).data.toList ++ [32, 59, 32, 110, 111, 116, 104, 105, 110, 103]]
  else if p.2 = 2 then [32 :: (textV p.1).data.toList, [9]] else [32 :: (textV p.1).data.toList ++ [32, 32], [59]]
def tx (l : List (Ins × Nat)) : Bs := l.flatMap piece
theorem no10 {l : Bs} (h : tame l) : 10 ∉ l := fun e => (h 10 e).1 rfl
theorem no59 {l : Bs} (h : tame l) : 59 ∉ l := fun e => (h 59 e).2 rfl
theorem lin_piece {p : Ins × Nat} (hk : chkV p.1.op p.1.A p.1.B p.1.C p.1.I = 0) (r : Bs) : lin (piece p ++ r) [] = plines p ++ lin r [] := by
  have ht : tame (32 :: (textV p.1).data.toList) := tame_app (a := [32]) (tame_dec rfl) (tame_text hk)
  unfold piece plines moreL
  split
  · rw [List.append_assoc, List.singleton_append, lin_some _ _ [] (no10 ht)]; rfl
  · split
    · have h2 : tame ((32 :: (textV p.1).data.toList) ++ [32]) := tame_app ht (tame_dec rfl)
      have e : 32 :: (textV p.1).data.toList ++ [32, 59, 32, 110, 111, 116, 104, 105, 110, 103, 10] ++ r = (32 :: (textV p.1).data.toList ++ [32, 59, 32, 110, 111, 116, 104, 105, 110, 103]) ++ 10 :: r := by simp
      rw [e, lin_some _ _ [] (fun h => by
        rcases List.mem_append.1 h with h | h
        · exact no10 ht h
        · exact absurd h (by decide))]
      rfl
    · split
      · have e : 32 :: (textV p.1).data.toList ++ [10, 9, 10] ++ r = (32 :: (textV p.1).data.toList) ++ 10 :: ([9] ++ 10 :: r) := by simp
        rw [e, lin_some _ _ [] (no10 ht), lin_some [9] r [] (by decide)]
        rfl
      · have e : 32 :: (textV p.1).data.toList ++ [32, 32, 10, 59, 10] ++ r = (32 :: (textV p.1).data.toList ++ [32, 32]) ++ 10 :: ([59] ++ 10 :: r) := by simp
        rw [e, lin_some _ _ [] (no10 (tame_app ht (tame_dec rfl))), lin_some [59] r [] (by decide)]
        rfl
theorem line_text {i : Ins} (hk : chkV i.op i.A i.B i.C i.I = 0) (b : Bs) (hb : ∀ c ∈ b, blB c = true) (hb2 : tame b) : lineT (32 :: (textV i).data.toList ++ b) = tokensV (textV i) := by
  have ht : tame (32 :: (textV i).data.toList) := tame_app (a := [32]) (tame_dec rfl) (tame_text hk)
  unfold lineT
  rw [cutL_none 59 _ (no59 (tame_app ht hb2)), tk2_blanks b hb, tk2_bl, tokens_tk2]
  rfl
theorem line_rem {i : Ins} (hk : chkV i.op i.A i.B i.C i.I = 0) : lineT (32 :: (textV i).data.toList ++ [32, 59, 32, 110, 111, 116, 104, 105, 110, 103]) = tokensV (textV i) := by
  have ht : tame (32 :: (textV i).data.toList) := tame_app (a := [32]) (tame_dec rfl) (tame_text hk)
  have e : 32 :: (textV i).data.toList ++ [32, 59, 32, 110, 111, 116, 104, 105, 110, 103] = (32 :: (textV i).data.toList ++ [32]) ++ 59 :: [32, 110, 111, 116, 104, 105, 110, 103] := by simp
  unfold lineT
  rw [e, cutL_some 59 _ _ (no59 (tame_app ht (tame_dec rfl))), tk2_blanks [32] (by decide), tk2_bl, tokens_tk2]
  rfl
theorem asmL_piece {p : Ins × Nat} (hk : chkV p.1.op p.1.A p.1.B p.1.C p.1.I = 0) (a : Asm) (k : Nat) (r : List Bs) (h3 : a.words.length + 1 ≤ 65536) :
    ∃ ln k', asmL a k (plines p ++ r) = asmL { a with words := a.words ++ [p.1.word], line := ln } k' r := by
  have h0 : lineT (32 :: (textV p.1).data.toList) = tokensV (textV p.1) := by
    have := line_text hk [] (by simp) (fun c hc => by cases hc)
    rwa [List.append_nil] at this
  unfold plines
  split
  · exact ⟨_, _, asmL_step (one_ins hk h0 h3)⟩
  · split
    · exact ⟨_, _, asmL_step (one_ins hk (line_rem hk) h3)⟩
    · split
      · refine ⟨_, _, (asmL_step (one_ins hk h0 h3)).trans (asmL_step (a := { a with words := a.words ++ [p.1.word], line := _ }) (one_blank (by kernel_rfl) (by simpa using h3)))⟩
      · refine ⟨_, _, (asmL_step (one_ins hk (line_text hk [32, 32] (by decide) (tame_dec rfl)) h3)).trans (asmL_step (a := { a with words := a.words ++ [p.1.word], line := _ }) (one_blank (by kernel_rfl) (by simpa using h3)))⟩
theorem asmL_tx : ∀ (l : List (Ins × Nat)) (a : Asm) (k : Nat), (∀ p ∈ l, chkV p.1.op p.1.A p.1.B p.1.C p.1.I = 0) → a.words.length + l.length ≤ 65536 →
    ∃ ln, asmL a k (lin (tx l) []) = .ok { a with words := a.words ++ l.map fun p => p.1.word, line := ln }
  | [], a, k, _, _ => ⟨a.line, by simp [tx, lin, asmL]⟩
  | p :: l, a, k, h, hn => by
    have e : tx (p :: l) = piece p ++ tx l := rfl
    rw [e, lin_piece (h p List.mem_cons_self)]
    simp only [List.length_cons] at hn
    obtain ⟨ln, k', h1⟩ := asmL_piece (h p List.mem_cons_self) a k (lin (tx l) []) (by omega)
    obtain ⟨ln2, h2⟩ := asmL_tx l { a with words := a.words ++ [p.1.word], line := ln } k' (fun q hq => h q (List.mem_cons_of_mem _ hq)) (by simp; omega)
    refine ⟨ln2, ?_⟩
    rw [h1, h2]
    simp
theorem text_len {i : Ins} (hk : chkV i.op i.A i.B i.C i.I = 0) : (textV i).data.toList.length ≤ 400 := by
  obtain ⟨hf1, hf2, _⟩ := chk_small hk
  obtain ⟨r1, r2⟩ := row_small i ⟨hf1, hf2⟩
  have jl := join_len [44, 32] rfl _ r2
  rw [List.length_map] at jl
  have hj : (joinV (rowV (formV i.op) (opsV i))).size ≤ 102 * (rowV (formV i.op) (opsV i)).length := by rw [Lib.size_eq]; exact jl
  have hn := nameV_size i.op
  have z32 : (⟨#[32]⟩ : ByteArray).size = 1 := rfl
  rw [← Lib.size_eq]
  unfold textV
  split
  · omega
  · rw [app1, app1]; omega
theorem piece_len {p : Ins × Nat} (hk : chkV p.1.op p.1.A p.1.B p.1.C p.1.I = 0) : (piece p).length ≤ 412 := by
  have := text_len hk
  have hm : (moreL p.2).length ≤ 11 := by
    unfold moreL
    split
    · decide
    · split
      · decide
      · split <;> decide
  unfold piece
  simp only [List.cons_append, List.length_cons, List.length_append]
  omega
theorem tx_len : ∀ l : List (Ins × Nat), (∀ p ∈ l, chkV p.1.op p.1.A p.1.B p.1.C p.1.I = 0) → (tx l).length ≤ 412 * l.length
  | [], _ => by simp [tx]
  | p :: l, h => by
    have e : tx (p :: l) = piece p ++ tx l := rfl
    have h1 := piece_len (h p List.mem_cons_self)
    have h2 := tx_len l fun q hq => h q (List.mem_cons_of_mem _ hq)
    rw [e, List.length_append, List.length_cons]
    omega
theorem asm_tx (l : List (Ins × Nat)) (h : ∀ p ∈ l, chkV p.1.op p.1.A p.1.B p.1.C p.1.I = 0) (hl : l.length ≤ 300) : asmV (bs (tx l)) = .ok (l.map fun p => p.1.word) := by
  have hlen := tx_len l h
  rw [asmV_L _ (by omega)]
  obtain ⟨ln, e⟩ := asmL_tx l asm0 0 h (by show 0 + l.length ≤ 65536; omega)
  rw [e]
  simp [asmF, asm0, resGo]
end Go.Proofs.YtbaooebafijenaaDoor
