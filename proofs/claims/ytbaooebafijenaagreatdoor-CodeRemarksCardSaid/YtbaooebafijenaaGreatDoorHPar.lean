/- Small facts on texts of instructions, words of lines. -/
import Derived.Test.YtbaooebafijenaaGreatDoorHInsV
import Derived.Test.YtbaooebafijenaaGreatDoorHvBun
import Derived.Lib.Join
namespace Go.Proofs.YtbaooebafijenaaGreatDoor
open Go Go.Ev
set_option maxRecDepth 100000
set_option linter.unusedSimpArgs false
set_option linter.unusedVariables false
set_option maxHeartbeats 2000000
set_option linter.unusedSectionVars false
variable [Mx]
attribute [local congr] bind_front callK_front jn_front ifB_front ifG_front lp_front
theorem bin_sadd (q : Nat) (a b : ByteArray) (h : a.size + b.size ≤ 9223372036854775807) : bin q .add (.string a) (.string b) = some (.string (a ++ b)) := by
  show binS .add a b = _
  simp only [binS]
  rw [if_neg]
  show ¬ (((a.size + b.size : Nat) : Int) > 9223372036854775807)
  omega
def Ins.get (i : Ins) (c : Nat) : Int := if c = 97 ∨ c = 65 then i.A else if c = 98 ∨ c = 66 then i.B else if c = 99 ∨ c = 67 then i.C else i.I
/-- an operand's text -/
def opdV (i : Ins) (c : Nat) : ByteArray := if c = 105 then itoaB (i.get c) else if c < 97 then ⟨#[102]⟩ ++ itoaB (i.get c) else ⟨#[114]⟩ ++ itoaB (i.get c)
theorem digF_len : ∀ (f u : Nat), (digF f u).length ≤ f
  | 0, _ => Nat.le_refl _
  | f + 1, u => by
    simp only [digF]
    split
    · simp
    · have := digF_len f (u / 10)
      simp; omega
theorem itoaB_size (z : Int) : (itoaB z).size ≤ 21 := by
  show (itoaF z).toArray.size ≤ 21
  unfold itoaF
  have h1 := digF_len 20 z.natAbs
  have h2 := digF_len 20 z.toNat
  split <;> simp <;> omega
theorem opdV_size (i : Ins) (c : Nat) : (opdV i c).size ≤ 22 := by
  have h := itoaB_size (i.get c)
  unfold opdV
  split
  · omega
  · split
    · rw [ByteArray.size_append]
      have : (⟨#[102]⟩ : ByteArray).size = 1 := rfl
      omega
    · rw [ByteArray.size_append]
      have : (⟨#[114]⟩ : ByteArray).size = 1 := rfl
      omega
/-- the place of an operand among an instruction's fields -/
def offV (c : Nat) : Nat := if c = 97 ∨ c = 65 then 1 else if c = 98 ∨ c = 66 then 2 else if c = 99 ∨ c = 67 then 3 else 4
theorem off_get (i : Ins) (c : Nat) : i.cells[offV c]? = some (.int .i64 (i.get c)) := by
  unfold offV Ins.get
  split
  · rfl
  · split
    · rfl
    · split <;> rfl
def lpar : ByteArray := ⟨#[40]⟩
/-- the operands' texts -/
def opsV (i : Ins) : List ByteArray := (shpB (formV i.op)).data.toList.map fun c => opdV i c.toNat
def joinV (l : List ByteArray) : ByteArray := ⟨(Lib.join (l.map (·.data.toList)) [44, 32]).toArray⟩
def rowV (f : Int) (l : List ByteArray) : List ByteArray := if f = 5 ∨ f = 6 then [l.getD 0 emp, l.getD 1 emp ++ ⟨#[40]⟩ ++ l.getD 2 emp ++ ⟨#[41]⟩] else l
def textV (i : Ins) : ByteArray := if rowV (formV i.op) (opsV i) = [] then nameV i.op else nameV i.op ++ ⟨#[32]⟩ ++ joinV (rowV (formV i.op) (opsV i))
def textR (i : Ins) : Value := if chkV i.op i.A i.B i.C i.I = 0 then .tuple #[.string (textV i), .int .i64 0] else .tuple #[.string emp, .int .i64 (chkV i.op i.A i.B i.C i.I)]
theorem textR_flat (i : Ins) : flat (textR i) = true := by unfold textR; split <;> rfl
theorem mx_small (f : Int) : mxA f ≤ 15 ∧ mxB f ≤ 15 ∧ mxC f ≤ 15 := by
  by_cases h : 0 ≤ f ∧ f < 16
  · have := of_decide_eq_true (List.all_eq_true.1 (show (List.range 16).all (fun k => decide (mxA (k : Int) ≤ 15 ∧ mxB (k : Int) ≤ 15 ∧ mxC (k : Int) ≤ 15))= true by kernel_rfl) f.toNat (List.mem_range.2 (by omega)))
    rwa [show ((f.toNat : Nat) : Int) = f by omega] at this
  · unfold mxA mxB mxC
    rw [if_neg h, if_neg h, if_neg h]
    decide
theorem lim_small (op : Int) : -32768 ≤ lowV op ∧ highV op ≤ 65535 := by
  by_cases h : 0 ≤ op ∧ op < 72
  · have := of_decide_eq_true (List.all_eq_true.1 (show (List.range 72).all (fun k => decide (-32768 ≤ lowV (k : Int) ∧ highV (k : Int) ≤ 65535))= true by kernel_rfl) op.toNat (List.mem_range.2 (by omega)))
    rwa [show ((op.toNat : Nat) : Int) = op by omega] at this
  · unfold lowV highV
    rw [if_neg h, if_neg h]
    decide
/-- what an instruction that is none the wrong can hold -/
theorem chk_small {i : Ins} (h : chkV i.op i.A i.B i.C i.I = 0) : 1 ≤ formV i.op ∧ formV i.op < 16 ∧ (0 ≤ i.A ∧ i.A ≤ 15) ∧ (0 ≤ i.B ∧ i.B ≤ 15) ∧ (0 ≤ i.C ∧ i.C ≤ 15) ∧ -32768 ≤ i.I ∧ i.I ≤ 65535 := by
  unfold chkV at h
  split at h
  · exact absurd h (by decide)
  · rename_i hf
    split at h
    · rename_i ho
      have hfc : 1 ≤ formV i.op ∧ formV i.op < 16 := by
        rcases form_cases i.op with e | e | e | e | e | e | e | e | e | e | e | e | e | e | e | e <;> (rw [e] at hf ⊢; first | exact absurd rfl hf | decide)
      obtain ⟨h1, h2, h3⟩ := mx_small (formV i.op)
      obtain ⟨h4, h5⟩ := lim_small i.op
      obtain ⟨o1, o2, o3, o4⟩ := ho
      refine ⟨hfc.1, hfc.2, by omega, by omega, by omega, ?_⟩
      cases hh : hasF (formV i.op) with
      | true => rw [hh] at o4; simp only [cond_true] at o4; omega
      | false => rw [hh] at o4; simp only [cond_false] at o4; omega
    · exact absurd h (by decide)
theorem get_small {i : Ins} (h : chkV i.op i.A i.B i.C i.I = 0) (c : Nat) : -32768 ≤ i.get c ∧ i.get c ≤ 65535 := by
  obtain ⟨_, _, h1, h2, h3, h4⟩ := chk_small h
  unfold Ins.get
  split
  · omega
  · split
    · omega
    · split <;> omega
theorem joinTail_len (sep : List UInt8) (hs : sep.length = 2) : ∀ l : List (List UInt8), (∀ x ∈ l, x.length ≤ 100) → (Lib.joinTail sep l).length ≤ 102 * l.length
  | [], _ => by simp [Lib.joinTail]
  | x :: l, h => by
    have h1 := joinTail_len sep hs l fun y hy => h y (List.mem_cons_of_mem _ hy)
    have h2 := h x List.mem_cons_self
    have e : Lib.joinTail sep (x :: l) = sep ++ x ++ Lib.joinTail sep l := by simp [Lib.joinTail]
    rw [e]
    simp only [List.length_append, hs, List.length_cons]
    omega
theorem join_len (sep : List UInt8) (hs : sep.length = 2) (l : List (List UInt8)) (h : ∀ x ∈ l, x.length ≤ 100) : (Lib.join l sep).length ≤ 102 * l.length := by
  cases l with
  | nil => simp [Lib.join_nil]
  | cons x l =>
    have h1 := joinTail_len sep hs l fun y hy => h y (List.mem_cons_of_mem _ hy)
    have h2 := h x List.mem_cons_self
    rw [Lib.join_cons]
    simp only [List.length_append, List.length_cons]
    omega
theorem cvB_str (s : ByteArray) (H : Hp) : cvB (.string s) H = some (.slice (some ⟨H.next, 0, none⟩) s.size 1, H.new (.rw (bytesV s))) := rfl
theorem flat_sI (s : ByteArray) (k : IntKind) (a : Int) : flat (.tuple #[.string s, .int k a]) = true := rfl
theorem opsV_len (i : Ins) (hf : 1 ≤ formV i.op ∧ formV i.op < 16) : (opsV i).length ≤ 3 := by
  have := (shp_facts _ hf).1
  rw [Lib.size_eq] at this
  simp [opsV]
  simpa using this
theorem ops56 (i : Ins) (h : formV i.op = 5 ∨ formV i.op = 6) : ∃ a b c, opsV i = [a, b, c] ∧ a.size ≤ 22 ∧ b.size ≤ 22 ∧ c.size ≤ 22 := by
  unfold opsV
  rcases h with h | h
  · rw [h]
    exact ⟨_, _, _, rfl, opdV_size _ _, opdV_size _ _, opdV_size _ _⟩
  · rw [h]
    exact ⟨_, _, _, rfl, opdV_size _ _, opdV_size _ _, opdV_size _ _⟩
theorem nameV_size (op : Int) : (nameV op).size ≤ 10 := by
  by_cases h : 0 ≤ op ∧ op < 72
  · have := of_decide_eq_true (List.all_eq_true.1 (show (List.range 72).all (fun k => decide ((nameV (k : Int)).size ≤ 10))= true by kernel_rfl) op.toNat (List.mem_range.2 (by omega)))
    rwa [show ((op.toNat : Nat) : Int) = op by omega] at this
  · unfold nameV
    rw [if_neg h]
    decide
theorem app1 (a b : ByteArray) : (a ++ b).size = a.size + b.size := ByteArray.size_append
theorem row_small (i : Ins) (hf : 1 ≤ formV i.op ∧ formV i.op < 16) : (rowV (formV i.op) (opsV i)).length ≤ 3 ∧ ∀ x ∈ (rowV (formV i.op) (opsV i)).map (·.data.toList), x.length ≤ 100 := by
  unfold rowV
  split
  · rename_i h
    obtain ⟨a, b, c, e, h1, h2, h3⟩ := ops56 i h
    rw [e]
    refine ⟨by simp, fun x hx => ?_⟩
    simp only [List.map_cons, List.map_nil, List.mem_cons, List.not_mem_nil, or_false] at hx
    have e1 : (⟨#[40]⟩ : ByteArray).size = 1 := rfl
    have e2 : (⟨#[41]⟩ : ByteArray).size = 1 := rfl
    rcases hx with rfl | rfl
    · rw [← Lib.size_eq]
      show a.size ≤ 100
      omega
    · rw [← Lib.size_eq]
      simp only [List.getD_cons_succ, List.getD_cons_zero, app1, e1, e2]
      omega
  · refine ⟨opsV_len i hf, fun x hx => ?_⟩
    simp only [opsV, List.map_map, List.mem_map, Function.comp_def] at hx
    obtain ⟨c, _, rfl⟩ := hx
    rw [← Lib.size_eq]
    have := opdV_size i c.toNat
    omega
theorem flushT_mem (s : ByteArray) (i : Nat) (hi : i ≤ s.size) (l : List ByteArray) (a : Int) (hl : ∀ w ∈ l, w.size ≤ s.size) : ∀ w ∈ flushT s i l a, w.size ≤ s.size := by
  intro w hw
  unfold flushT at hw
  split at hw
  · rw [List.mem_append] at hw
    rcases hw with hw | hw
    · exact hl w hw
    · simp only [List.mem_cons, List.not_mem_nil, or_false] at hw
      subst hw
      rw [ByteArray.size_extract]
      omega
  · exact hl w hw
theorem tkGo_mem (s : ByteArray) : ∀ (r : List UInt8) (i : Nat) (l : List ByteArray) (a : Int), i + r.length ≤ s.size → (∀ w ∈ l, w.size ≤ s.size) → ∀ w ∈ (tkGo s r i l a).1, w.size ≤ s.size
  | [], i, l, a, hi, hl => hl
  | c :: r, i, l, a, hi, hl => by
    simp only [List.length_cons] at hi
    simp only [tkGo]
    split
    · exact tkGo_mem s r (i + 1) _ _ (by omega) (flushT_mem s i (by omega) l a hl)
    · split
      · refine tkGo_mem s r (i + 1) _ _ (by omega) fun w hw => ?_
        rw [List.mem_append] at hw
        rcases hw with hw | hw
        · exact flushT_mem s i (by omega) l a hl w hw
        · simp only [List.mem_cons, List.not_mem_nil, or_false] at hw
          subst hw
          rw [ByteArray.size_extract]
          omega
      · split
        · exact tkGo_mem s r (i + 1) _ _ (by omega) hl
        · exact tkGo_mem s r (i + 1) _ _ (by omega) hl
theorem tokens_size (s : ByteArray) : ∀ w ∈ tokensV s, w.size ≤ s.size := by
  unfold tokensV
  exact flushT_mem s s.size (Nat.le_refl _) _ _ (tkGo_mem s s.data.toList 0 [] (-1) (by rw [Lib.size_eq]; omega) (fun w hw => by cases hw))
/-- the instruction that has just this text -/
def parI (s : ByteArray) : Ins := (insV (tokensV s)).1
def parP (p : Ins × ByteArray × Bool) (s : ByteArray) : Prop := ((p.2.2 = true ∧ p.2.1 = emp) ∧ chkV p.1.op p.1.A p.1.B p.1.C p.1.I = 0) ∧ textV p.1 = s
instance (p : Ins × ByteArray × Bool) (s : ByteArray) : Decidable (parP p s) := by unfold parP; infer_instance
def parF (p : Ins × ByteArray × Bool) (s : ByteArray) : Value := if parP p s then .tuple #[p.1.val, .int .i64 0] else .tuple #[zer.val, .int .i64 3]
def parR (s : ByteArray) : Value := parF (insV (tokensV s)) s
theorem flat_parR (s : ByteArray) : flat (parR s) = true := by unfold parR parF; split <;> rfl
end Go.Proofs.YtbaooebafijenaaGreatDoor
