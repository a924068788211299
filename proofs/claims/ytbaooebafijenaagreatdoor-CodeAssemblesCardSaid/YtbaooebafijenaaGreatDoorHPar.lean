/- Small facts on texts of instructions, words of lines. -/
import Derived.Test.YtbaooebafijenaaGreatDoorHInsV
import Derived.Test.YtbaooebafijenaaGreatDoorHvBun
import Derived.Lib.Join
namespace Go.Proofs.YtbaooebafijenaaGreatDoor
open Go Go.Ev
set_option maxRecDepth 100000
set_option linter.unusedSimpArgs false
set_option linter.unusedVariables false
set_option maxHeartbeats 2000000
set_option linter.unusedSectionVars false
variable [Mx]
attribute [local congr] bind_front callK_front jn_front ifB_front ifG_front lp_front
def Ins.get (i : Ins) (c : Nat) : Int := if c = 97 ∨ c = 65 then i.A else if c = 98 ∨ c = 66 then i.B else if c = 99 ∨ c = 67 then i.C else i.I
def opdV (i : Ins) (c : Nat) : ByteArray := if c = 105 then itoaB (i.get c) else if c < 97 then ⟨#[102]⟩ ++ itoaB (i.get c) else ⟨#[114]⟩ ++ itoaB (i.get c)
def opsV (i : Ins) : List ByteArray := (shpB (formV i.op)).data.toList.map fun c => opdV i c.toNat
def joinV (l : List ByteArray) : ByteArray := ⟨(Lib.join (l.map (·.data.toList)) [44, 32]).toArray⟩
def rowV (f : Int) (l : List ByteArray) : List ByteArray := if f = 5 ∨ f = 6 then [l.getD 0 emp, l.getD 1 emp ++ ⟨#[40]⟩ ++ l.getD 2 emp ++ ⟨#[41]⟩] else l
def textV (i : Ins) : ByteArray := if rowV (formV i.op) (opsV i) = [] then nameV i.op else nameV i.op ++ ⟨#[32]⟩ ++ joinV (rowV (formV i.op) (opsV i))
theorem mx_small (f : Int) : mxA f ≤ 15 ∧ mxB f ≤ 15 ∧ mxC f ≤ 15 := by
 by_cases h : 0 ≤ f ∧ f < 16
 · have := of_decide_eq_true (List.all_eq_true.1 (show (List.range 16).all (fun k => decide (mxA (k : Int) ≤ 15 ∧ mxB (k : Int) ≤ 15 ∧ mxC (k : Int) ≤ 15))= true by kernel_rfl) f.toNat (List.mem_range.2 (by omega)))
   rwa [show ((f.toNat : Nat) : Int) = f by omega] at this
 · unfold mxA mxB mxC
   rw [if_neg h, if_neg h, if_neg h]
   decide
theorem lim_small (op : Int) : -32768 ≤ lowV op ∧ highV op ≤ 65535 := by
 by_cases h : 0 ≤ op ∧ op < 72
 · have := of_decide_eq_true (List.all_eq_true.1 (show (List.range 72).all (fun k => decide (-32768 ≤ lowV (k : Int) ∧ highV (k : Int) ≤ 65535))= true by kernel_rfl) op.toNat (List.mem_range.2 (by omega)))
   rwa [show ((op.toNat : Nat) : Int) = op by omega] at this
 · unfold lowV highV
   rw [if_neg h, if_neg h]
   decide
theorem chk_small {i : Ins} (h : chkV i.op i.A i.B i.C i.I = 0) : 1 ≤ formV i.op ∧ formV i.op < 16 ∧ (0 ≤ i.A ∧ i.A ≤ 15) ∧ (0 ≤ i.B ∧ i.B ≤ 15) ∧ (0 ≤ i.C ∧ i.C ≤ 15) ∧ -32768 ≤ i.I ∧ i.I ≤ 65535 := by
 unfold chkV at h
 split at h
 · exact absurd h (by decide)
 · rename_i hf
   split at h
   · rename_i ho
     have hfc : 1 ≤ formV i.op ∧ formV i.op < 16 := by
       rcases form_cases i.op with e | e | e | e | e | e | e | e | e | e | e | e | e | e | e | e <;> (rw [e] at hf ⊢; first | exact absurd rfl hf | decide)
     obtain ⟨h1, h2, h3⟩ := mx_small (formV i.op)
     obtain ⟨h4, h5⟩ := lim_small i.op
     obtain ⟨o1, o2, o3, o4⟩ := ho
     refine ⟨hfc.1, hfc.2, by omega, by omega, by omega, ?_⟩
     cases hh : hasF (formV i.op) with
     | true => rw [hh] at o4; simp only [cond_true] at o4; omega
     | false => rw [hh] at o4; simp only [cond_false] at o4; omega
   · exact absurd h (by decide)
theorem flushT_mem (s : ByteArray) (i : Nat) (hi : i ≤ s.size) (l : List ByteArray) (a : Int) (hl : ∀ w ∈ l, w.size ≤ s.size) : ∀ w ∈ flushT s i l a, w.size ≤ s.size := by
 intro w hw
 unfold flushT at hw
 split at hw
 · rw [List.mem_append] at hw
   rcases hw with hw | hw
   · exact hl w hw
   · simp only [List.mem_cons, List.not_mem_nil, or_false] at hw
     subst hw
     rw [ByteArray.size_extract]
     omega
 · exact hl w hw
theorem tkGo_mem (s : ByteArray) : ∀ (r : List UInt8) (i : Nat) (l : List ByteArray) (a : Int), i + r.length ≤ s.size → (∀ w ∈ l, w.size ≤ s.size) → ∀ w ∈ (tkGo s r i l a).1, w.size ≤ s.size
 | [], i, l, a, hi, hl => hl
 | c :: r, i, l, a, hi, hl => by
   simp only [List.length_cons] at hi
   simp only [tkGo]
   split
   · exact tkGo_mem s r (i + 1) _ _ (by omega) (flushT_mem s i (by omega) l a hl)
   · split
     · refine tkGo_mem s r (i + 1) _ _ (by omega) fun w hw => ?_
       rw [List.mem_append] at hw
       rcases hw with hw | hw
       · exact flushT_mem s i (by omega) l a hl w hw
       · simp only [List.mem_cons, List.not_mem_nil, or_false] at hw
         subst hw
         rw [ByteArray.size_extract]
         omega
     · split
       · exact tkGo_mem s r (i + 1) _ _ (by omega) hl
       · exact tkGo_mem s r (i + 1) _ _ (by omega) hl
theorem tokens_size (s : ByteArray) : ∀ w ∈ tokensV s, w.size ≤ s.size := by
 unfold tokensV
 exact flushT_mem s s.size (Nat.le_refl _) _ _ (tkGo_mem s s.data.toList 0 [] (-1) (by rw [Lib.size_eq]; omega) (fun w hw => by cases hw))
def parP (p : Ins × ByteArray × Bool) (s : ByteArray) : Prop := ((p.2.2 = true ∧ p.2.1 = emp) ∧ chkV p.1.op p.1.A p.1.B p.1.C p.1.I = 0) ∧ textV p.1 = s
instance (p : Ins × ByteArray × Bool) (s : ByteArray) : Decidable (parP p s) := by unfold parP; infer_instance
end Go.Proofs.YtbaooebafijenaaGreatDoor
