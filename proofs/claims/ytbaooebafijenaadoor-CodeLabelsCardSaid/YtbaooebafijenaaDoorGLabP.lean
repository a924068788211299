/- A jump to a label: what the texts of CodeLabels are assembled to. -/
import Derived.Test.YtbaooebafijenaaDoorGLin
import Derived.Test.YtbaooebafijenaaDoorGBw
import Derived.KernelRfl
namespace Go.Proofs.YtbaooebafijenaaDoor
open Go Go.Ev
set_option maxRecDepth 100000
set_option linter.unusedVariables false
set_option linter.unusedSectionVars false
variable [Mx]
theorem one_plain {a : Asm} {T : List ByteArray} {ws : List Int} {i : Ins} (h1 : lbGo T = ([], T)) (h2 : rdV T = some (ws, i, emp)) (h3 : a.words.length + ws.length ≤ 65536) : oneV a T = .ok { a with words := a.words ++ ws } := by
  unfold oneV
  rw [h1]
  simp only [h2, addL]
  rw [if_neg (by omega)]
  simp
theorem asmL_rep (l : Bs) (ws : List Int) (i : Ins) (h1 : lbGo (lineT l) = ([], lineT l)) (h2 : rdV (lineT l) = some (ws, i, emp)) : ∀ (b : Nat) (a : Asm) (k : Nat) (r : List Bs), a.words.length + b * ws.length ≤ 65536 →
    ∃ ln, asmL a k (List.replicate b l ++ r) = asmL { a with words := a.words ++ (List.replicate b ws).flatten, line := ln } (k + b) r
  | 0, a, k, r, h => ⟨a.line, by simp⟩
  | b + 1, a, k, r, h => by
    rw [Nat.succ_mul] at h
    have hs := asmL_step (r := List.replicate b l ++ r) (one_plain (a := { a with line := ((k + 1 : Nat) : Int) }) h1 h2 (by simp only; omega))
    obtain ⟨ln, ih⟩ := asmL_rep l ws i h1 h2 b { a with words := a.words ++ ws, line := ((k + 1 : Nat) : Int) } (k + 1) r (by simp only [List.length_append]; omega)
    refine ⟨ln, ?_⟩
    rw [List.replicate_succ, List.cons_append, hs]
    refine Eq.trans ih ?_
    simp only [List.replicate_succ, List.flatten_cons, List.append_assoc]
    congr 1
    omega
def repL (b : Nat) (l : Bs) : Bs := (List.replicate b l).flatten
theorem repL_succ (b : Nat) (l : Bs) : repL (b + 1) l = l ++ repL b l := by simp [repL, List.replicate_succ]
theorem repL_len (b : Nat) (l : Bs) : (repL b l).length = b * l.length := by
  induction b with
  | zero => simp [repL]
  | succ b ih => rw [repL_succ, List.length_append, ih, Nat.succ_mul]; omega
theorem lin_rep (l : Bs) (h : 10 ∉ l) : ∀ (b : Nat) (r : Bs), lin (repL b (l ++ [10]) ++ r) [] = List.replicate b l ++ lin r []
  | 0, r => by simp [repL]
  | b + 1, r => by
    rw [repL_succ, List.append_assoc, List.append_assoc, List.singleton_append, lin_some l _ [] h, lin_rep l h b r]
    simp [List.replicate_succ]
def tLi : Bs := [108, 105, 32, 114, 49, 44, 32, 55, 48, 48, 48, 48]
def tNop : Bs := [110, 111, 112]
def tJal : Bs := [106, 97, 108, 32, 114, 49, 53, 44, 32, 116, 104, 101, 114, 101]
def tTh : Bs := [116, 104, 101, 114, 101, 58]
def tThH : Bs := [116, 104, 101, 114, 101, 58, 32, 104, 97, 108, 116]
def there : ByteArray := ⟨#[116, 104, 101, 114, 101]⟩
def halt : ByteArray := ⟨#[104, 97, 108, 116]⟩
theorem li1 : lbGo (lineT tLi) = ([], lineT tLi) := by kernel_rfl
theorem li2 : rdV (lineT tLi) = some (liW 1 70000, zer, emp) := by kernel_rfl
theorem nop1 : lbGo (lineT tNop) = ([], lineT tNop) := by kernel_rfl
theorem nop2 : rdV (lineT tNop) = some ([encW 1 0 0 0 0], ⟨1, 0, 0, 0, 0⟩, emp) := by kernel_rfl
theorem jal1 : lbGo (lineT tJal) = ([], lineT tJal) := by kernel_rfl
theorem jal2 : rdV (lineT tJal) = some ([encW 44 15 0 0 0], ⟨44, 15, 0, 0, 0⟩, there) := by kernel_rfl
theorem th1 : lbGo (lineT tTh) = ([there], []) := by kernel_rfl
theorem thh1 : lbGo (lineT tThH) = ([there], [halt]) := by kernel_rfl
theorem thh2 : rdV [halt] = some ([encW 71 0 0 0 0], ⟨71, 0, 0, 0, 0⟩, emp) := by kernel_rfl
theorem one_jal {a : Asm} (h3 : a.words.length + 1 ≤ 65536) : oneV a (lineT tJal) = .ok { a with words := a.words ++ [encW 44 15 0 0 0], wants := a.wants ++ [⟨a.line, a.words.length, ⟨44, 15, 0, 0, 0⟩, there⟩] } := by
  unfold oneV
  rw [jal1]
  simp only [jal2, addL]
  rw [if_neg (by simp; omega), if_neg (by decide)]
theorem one_th {a : Asm} (h : a.labels = []) (h3 : a.words.length ≤ 65536) : oneV a (lineT tTh) = .ok { a with labels := [(there, (a.words.length : Int))] } := by
  unfold oneV
  rw [th1]
  simp only [rdV, addL, h, findL]
  rw [if_neg (by simp; omega)]
  simp
theorem one_thh {a : Asm} (h : a.labels = []) (h3 : a.words.length + 1 ≤ 65536) : oneV a (lineT tThH) = .ok { a with words := a.words ++ [encW 71 0 0 0 0], labels := [(there, (a.words.length : Int))] } := by
  unfold oneV
  rw [thh1]
  simp only [thh2, addL, h, findL]
  rw [if_neg (by simp; omega)]
  simp
theorem jal_chk (z : Int) (h : -32768 ≤ z ∧ z ≤ 32767) : chkV 44 15 0 0 z = 0 := by
  unfold chkV
  have e1 : formV 44 = 8 := rfl
  have e2 : lowV 44 = -32768 := rfl
  have e3 : highV 44 = 32767 := rfl
  have e4 : mxA 8 = 15 := rfl
  have e5 : mxB 8 = 0 := rfl
  have e6 : mxC 8 = 0 := rfl
  have e7 : hasF 8 = true := rfl
  rw [if_neg (by decide), if_pos]
  unfold okF
  rw [e1, e2, e3, e4, e5, e6, e7]
  simp only [cond_true]
  omega
theorem flat_len (b : Nat) (ws : List Int) : ((List.replicate b ws).flatten).length = b * ws.length := by
  induction b with
  | zero => simp
  | succ b ih => rw [List.replicate_succ, List.flatten_cons, List.length_append, ih, Nat.succ_mul]; omega
def txtA (B N : Nat) : Bs := repL B (tLi ++ [10]) ++ (tJal ++ 10 :: (repL N (tNop ++ [10]) ++ tThH))
def txtB (B N : Nat) : Bs := repL B (tLi ++ [10]) ++ (tTh ++ 10 :: (repL N (tNop ++ [10]) ++ (tJal ++ [10])))
theorem asm_ahead (B N : Nat) (hB : B < 50) (hN : N < 200) : ∃ ws, asmV (bs (txtA B N)) = .ok ws ∧ ws.length = 2 * B + N + 2 ∧ ws[2 * B]? = some (encV 44 15 0 0 ((N + 1 : Nat) : Int)) := by
  have hlen : (txtA B N).length ≤ 1048576 := by
    unfold txtA
    have e1 : tLi.length = 12 := rfl
    have e2 : tNop.length = 3 := rfl
    have e3 : tJal.length = 14 := rfl
    have e4 : tThH.length = 11 := rfl
    simp only [List.length_append, List.length_cons, List.length_nil, repL_len, e1, e2, e3, e4]
    omega
  rw [asmV_L _ hlen]
  unfold txtA
  rw [lin_rep tLi (by decide), lin_some tJal _ [] (by decide), lin_rep tNop (by decide), lin_none tThH [] (by decide), if_neg (by decide)]
  have l2 : (liW 1 70000).length = 2 := rfl
  obtain ⟨l1, e1⟩ := asmL_rep tLi _ _ li1 li2 B asm0 0 ([] ++ tJal :: (List.replicate N tNop ++ [[] ++ tThH])) (by rw [l2]; show 0 + B * 2 ≤ 65536; omega)
  simp only [List.nil_append] at e1 ⊢
  rw [e1]
  have fl := flat_len B (liW 1 70000)
  rw [l2] at fl
  generalize (List.replicate B (liW 1 70000)).flatten = w1 at fl
  rw [asmL_step (one_jal (by simp only [List.length_append]; show 0 + w1.length + 1 ≤ 65536; omega))]
  simp only [asm0, List.nil_append]
  obtain ⟨l2', e2⟩ := asmL_rep tNop _ _ nop1 nop2 N ⟨w1 ++ [encW 44 15 0 0 0], [], [⟨((0 + B + 1 : Nat) : Int), (w1.length : Int), ⟨44, 15, 0, 0, 0⟩, there⟩], ((0 + B + 1 : Nat) : Int)⟩ (0 + B + 1) [tThH] (by simp; omega)
  rw [e2]
  have fn := flat_len N [encW 1 0 0 0 0]
  rw [List.length_singleton, Nat.mul_one] at fn
  generalize (List.replicate N [encW 1 0 0 0 0]).flatten = w2 at fn
  rw [asmL_step (one_thh rfl (by simp only [List.length_append, List.length_cons, List.length_nil]; omega))]
  simp only [asmL, asmF, resGo, resV, findL, if_true]
  have hI : IntKind.wrap .i64 (((w1 ++ [encW 44 15 0 0 0] ++ w2).length : Int) - (w1.length : Int)) = ((N + 1 : Nat) : Int) := by
    rw [IntWalk.i64_in _ (by simp; omega)]
    simp
    omega
  have hc : (Want.ins ⟨((0 + B + 1 : Nat) : Int), (w1.length : Int), ⟨44, 15, 0, 0, 0⟩, there⟩ ((w1 ++ [encW 44 15 0 0 0] ++ w2).length : Int)).chk = 0 := by
    show chkV 44 15 0 0 (IntKind.wrap .i64 (((w1 ++ [encW 44 15 0 0 0] ++ w2).length : Int) - (w1.length : Int))) = 0
    rw [hI]
    exact jal_chk _ (by omega)
  have hw : (Want.ins ⟨((0 + B + 1 : Nat) : Int), (w1.length : Int), ⟨44, 15, 0, 0, 0⟩, there⟩ ((w1 ++ [encW 44 15 0 0 0] ++ w2).length : Int)).word = encV 44 15 0 0 ((N + 1 : Nat) : Int) := by
    show encV 44 15 0 0 (IntKind.wrap .i64 (((w1 ++ [encW 44 15 0 0 0] ++ w2).length : Int) - (w1.length : Int))) = _
    rw [hI]
  rw [if_pos hc, hw]
  refine ⟨_, rfl, ?_, ?_⟩
  · simp; omega
  · rw [Int.toNat_natCast, fl, Nat.mul_comm B 2, List.getElem?_set_self (by simp; omega)]
theorem asm_behind (B N : Nat) (hB : B < 50) (hN : N < 200) : ∃ ws, asmV (bs (txtB B N)) = .ok ws ∧ ws.length = 2 * B + N + 1 ∧ ws[2 * B + N]? = some (encV 44 15 0 0 (-(N : Int))) := by
  have hlen : (txtB B N).length ≤ 1048576 := by
    unfold txtB
    have e1 : tLi.length = 12 := rfl
    have e2 : tNop.length = 3 := rfl
    have e3 : tJal.length = 14 := rfl
    have e4 : tTh.length = 6 := rfl
    simp only [List.length_append, List.length_cons, List.length_nil, repL_len, e1, e2, e3, e4]
    omega
  rw [asmV_L _ hlen]
  unfold txtB
  have e0 : tJal ++ [10] = tJal ++ 10 :: [] := rfl
  rw [lin_rep tLi (by decide), lin_some tTh _ [] (by decide), lin_rep tNop (by decide), e0, lin_some tJal [] [] (by decide)]
  have l2 : (liW 1 70000).length = 2 := rfl
  obtain ⟨l1, e1⟩ := asmL_rep tLi _ _ li1 li2 B asm0 0 ([] ++ tTh :: (List.replicate N tNop ++ ([] ++ tJal) :: lin [] [])) (by rw [l2]; show 0 + B * 2 ≤ 65536; omega)
  simp only [List.nil_append] at e1 ⊢
  rw [e1]
  have fl := flat_len B (liW 1 70000)
  rw [l2] at fl
  generalize (List.replicate B (liW 1 70000)).flatten = w1 at fl
  rw [asmL_step (one_th rfl (by simp only [List.length_append]; show 0 + w1.length ≤ 65536; omega))]
  simp only [asm0, List.nil_append]
  obtain ⟨l2', e2⟩ := asmL_rep tNop _ _ nop1 nop2 N ⟨w1, [(there, (w1.length : Int))], [], ((0 + B + 1 : Nat) : Int)⟩ (0 + B + 1) (tJal :: lin [] []) (by simp; omega)
  rw [e2]
  have fn := flat_len N [encW 1 0 0 0 0]
  rw [List.length_singleton, Nat.mul_one] at fn
  generalize (List.replicate N [encW 1 0 0 0 0]).flatten = w2 at fn
  rw [asmL_step (one_jal (by simp only [List.length_append]; omega))]
  simp only [lin, if_true, asmL, asmF, resGo, resV, findL, List.nil_append]
  have hI : IntKind.wrap .i64 ((w1.length : Int) - ((w1 ++ w2).length : Int)) = -(N : Int) := by
    rw [IntWalk.i64_in _ (by simp; omega)]
    simp
    omega
  have hc : (Want.ins ⟨((0 + B + 1 + N + 1 : Nat) : Int), ((w1 ++ w2).length : Int), ⟨44, 15, 0, 0, 0⟩, there⟩ (w1.length : Int)).chk = 0 := by
    show chkV 44 15 0 0 (IntKind.wrap .i64 ((w1.length : Int) - ((w1 ++ w2).length : Int))) = 0
    rw [hI]
    exact jal_chk _ (by omega)
  have hw : (Want.ins ⟨((0 + B + 1 + N + 1 : Nat) : Int), ((w1 ++ w2).length : Int), ⟨44, 15, 0, 0, 0⟩, there⟩ (w1.length : Int)).word = encV 44 15 0 0 (-(N : Int)) := by
    show encV 44 15 0 0 (IntKind.wrap .i64 ((w1.length : Int) - ((w1 ++ w2).length : Int))) = _
    rw [hI]
  rw [if_pos hc, hw]
  refine ⟨_, rfl, ?_, ?_⟩
  · simp; omega
  · rw [Int.toNat_natCast, List.length_append, fl, fn, Nat.mul_comm B 2, List.getElem?_set_self (by simp; omega)]
end Go.Proofs.YtbaooebafijenaaDoor
