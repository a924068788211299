/- There and back: words and texts of instructions. -/
import Derived.Test.YtbaooebafijenaaDoorGPar
namespace Go.Proofs.YtbaooebafijenaaDoor
open Go Go.Ev
set_option linter.unusedVariables false
set_option linter.unusedSectionVars false
variable [Mx]
abbrev Bs := List UInt8
def bs (l : Bs) : ByteArray := ⟨l.toArray⟩
theorem bs_list (l : Bs) : (bs l).data.toList = l := rfl
theorem list_bs (s : ByteArray) : bs s.data.toList = s := bytes_inj rfl
theorem bs_inj {a b : Bs} (h : bs a = bs b) : a = b := by have := congrArg (fun s : ByteArray => s.data.toList) h; exact this
theorem app_list (a b : ByteArray) : (a ++ b).data.toList = a.data.toList ++ b.data.toList := by simp [ByteArray.data_append]
theorem emp_list : emp.data.toList = [] := rfl
theorem bs_emp {l : Bs} (h : l ≠ []) : ¬ bs l = emp := fun e => h (bs_inj (b := []) e)
theorem extract_list (s : ByteArray) (i j : Nat) : (s.extract i j).data.toList = (s.data.toList.drop i).take (j - i) := by
  simp [ByteArray.data_extract, Array.toList_extract, List.extract_eq_take_drop]
/-! ### Words -/
def flL (cur : Bs) : List Bs := if cur = [] then [] else [cur]
def tk2 : Bs → Bs → List Bs
  | [], cur => flL cur
  | c :: r, cur => if blB c = true then flL cur ++ tk2 r [] else if mkB c = true then flL cur ++ [c] :: tk2 r [] else tk2 r (cur ++ [c])
/-- where the word under way begins, and what it is -/
def AtR (s : ByteArray) (i : Nat) (a : Int) (cur : Bs) : Prop := (a = -1 ∧ cur = []) ∨ (0 ≤ a ∧ a < i ∧ cur = (s.data.toList.drop a.toNat).take (i - a.toNat))
theorem flush_cur {s : ByteArray} {i : Nat} {a : Int} {cur : Bs} (h : AtR s i a cur) (hi : i ≤ s.size) (l : List ByteArray) : flushT s i l a = l ++ (flL cur).map bs := by
  unfold flushT flL
  rcases h with ⟨rfl, rfl⟩ | ⟨h1, h2, rfl⟩
  · rw [if_neg (by decide), if_pos rfl]
    simp
  · have hne : ¬ (s.data.toList.drop a.toNat).take (i - a.toNat) = [] := by
      intro e
      have := congrArg List.length e
      rw [Lib.size_eq] at hi
      simp only [List.length_take, List.length_drop, List.length_nil] at this
      omega
    rw [if_pos h1, if_neg hne]
    simp only [List.map_cons, List.map_nil]
    congr 2
    exact bytes_inj (extract_list s _ _)
theorem tkGo_eq (s : ByteArray) : ∀ (r : Bs) (i : Nat) (l : List ByteArray) (a : Int) (cur : Bs), r = s.data.toList.drop i → i ≤ s.size → AtR s i a cur →
    flushT s s.size (tkGo s r i l a).1 (tkGo s r i l a).2 = l ++ (tk2 r cur).map bs
  | [], i, l, a, cur, hr, hi, ha => by
    have hs : i = s.size := by
      have := congrArg List.length hr
      rw [Lib.size_eq] at hi ⊢
      simp only [List.length_nil, List.length_drop] at this
      omega
    subst hs
    simp only [tkGo, tk2]
    exact flush_cur ha hi l
  | c :: r, i, l, a, cur, hr, hi, ha => by
    have hlt : i < s.size := by
      have := congrArg List.length hr
      rw [Lib.size_eq]
      simp only [List.length_cons, List.length_drop] at this
      omega
    have hr' : r = s.data.toList.drop (i + 1) := by
      have := congrArg List.tail hr
      simpa [List.tail_drop] using this
    have hc : s.data.toList[i]? = some c := by
      have := congrArg List.head? hr
      simpa [List.head?_drop] using this.symm
    have IH := fun l a cur h => tkGo_eq s r (i + 1) l a cur hr' (by omega) h
    simp only [tkGo, tk2]
    have hflush := flush_cur ha hi l
    by_cases hb : blB c = true
    · rw [if_pos hb, if_pos hb, IH _ _ [] (.inl ⟨rfl, rfl⟩), hflush]
      simp
    · rw [if_neg hb, if_neg hb]
      by_cases hk : mkB c = true
      · rw [if_pos hk, if_pos hk, IH _ _ [] (.inl ⟨rfl, rfl⟩), hflush]
        have e : s.extract i (i + 1) = bs [c] := by
          refine bytes_inj ?_
          rw [extract_list, bs_list, ← hr]
          have : i + 1 - i = 1 := by omega
          rw [this]
          rfl
        rw [e]
        simp
      · rw [if_neg hk, if_neg hk]
        rcases ha with ⟨rfl, rfl⟩ | ⟨h1, h2, rfl⟩
        · rw [if_pos (by decide)]
          refine IH _ _ _ (.inr ⟨by omega, by omega, ?_⟩)
          rw [show ((i : Int)).toNat = i by omega, ← hr]
          have : i + 1 - i = 1 := by omega
          rw [this]
          rfl
        · rw [if_neg (by omega)]
          refine IH _ _ _ (.inr ⟨h1, by omega, ?_⟩)
          have e1 : i + 1 - a.toNat = (i - a.toNat) + 1 := by omega
          rw [e1, List.take_add_one, List.getElem?_drop]
          have e2 : a.toNat + (i - a.toNat) = i := by omega
          rw [e2, hc]
          rfl
theorem tokens_tk2 (s : ByteArray) : tokensV s = (tk2 s.data.toList []).map bs := by
  unfold tokensV
  rw [tkGo_eq s s.data.toList 0 [] (-1) [] rfl (Nat.zero_le _) (.inl ⟨rfl, rfl⟩)]
  simp
/-- letters of a word -/
def plain (l : Bs) : Prop := ∀ c ∈ l, blB c = false ∧ mkB c = false
theorem plain_app {a b : Bs} (ha : plain a) (hb : plain b) : plain (a ++ b) := fun c hc => by
  rw [List.mem_append] at hc
  exact hc.elim (ha c) (hb c)
theorem tk2_plain : ∀ (w r cur : Bs), plain w → tk2 (w ++ r) cur = tk2 r (cur ++ w)
  | [], r, cur, _ => by simp
  | c :: w, r, cur, h => by
    obtain ⟨h1, h2⟩ := h c List.mem_cons_self
    rw [List.cons_append]
    simp only [tk2, h1, h2, Bool.false_eq_true, if_false]
    rw [tk2_plain w r (cur ++ [c]) fun x hx => h x (List.mem_cons_of_mem _ hx)]
    simp
theorem tk2_word (w cur : Bs) (h : plain w) : tk2 w cur = flL (cur ++ w) := by
  have := tk2_plain w [] cur h
  rw [List.append_nil] at this
  rw [this]
  rfl
theorem tk2_bl (r cur : Bs) : tk2 (32 :: r) cur = flL cur ++ tk2 r [] := rfl
theorem tk2_comma (r cur : Bs) : tk2 (44 :: r) cur = flL cur ++ [44] :: tk2 r [] := rfl
theorem tk2_lp (r cur : Bs) : tk2 (40 :: r) cur = flL cur ++ [40] :: tk2 r [] := rfl
theorem tk2_rp (r cur : Bs) : tk2 (41 :: r) cur = flL cur ++ [41] :: tk2 r [] := rfl
theorem flL_ne {w : Bs} (h : w ≠ []) : flL w = [w] := if_neg h
/-! ### Numbers and their texts -/
theorem parse_app : ∀ (l : Bs) (acc : Nat) (d : UInt8), Lib.parseUint10 acc (l ++ [d]) = (match Lib.parseUint10 acc l with | .ok v => Lib.parseUint10 v [d] | e => e)
  | [], acc, d => by simp only [List.nil_append, Lib.parseUint10]
  | c :: l, acc, d => by
    rw [List.cons_append]
    simp only [Lib.parseUint10]
    split
    · split
      · rfl
      · split
        · rfl
        · have := parse_app l (acc * 10 + (c.toNat - 48)) d
          simp only [Lib.parseUint10] at this
          exact this
    · rfl
theorem dig_nat (u : Nat) (h : u < 10) : (UInt8.ofNat (48 + u)).toNat = 48 + u := by
  rw [UInt8.toNat_ofNat']
  omega
theorem parse_digits : ∀ (n u : Nat), u < n → u < 18446744073709551616 → Lib.parseUint10 0 (Lib.decDigits u) = .ok u
  | 0, u, h, _ => absurd h (by omega)
  | n + 1, u, h, hu => by
    rw [Lib.decDigits]
    by_cases h1 : u < 10
    · rw [dif_pos h1]
      simp only [Lib.parseUint10, dig_nat u h1]
      rw [if_pos (by omega), if_neg (by omega), if_neg (by omega)]
      congr 1
      omega
    · rw [dif_neg h1, parse_app, parse_digits n (u / 10) (by omega) (by omega)]
      simp only [Lib.parseUint10, dig_nat (u % 10) (by omega)]
      rw [if_pos (by omega), if_neg (by omega), if_neg (by omega)]
      congr 1
      omega
def isDig (c : UInt8) : Prop := 48 ≤ c.toNat ∧ c.toNat ≤ 57
theorem digits_dig : ∀ (n u : Nat), u < n → (∀ c ∈ Lib.decDigits u, isDig c) ∧ Lib.decDigits u ≠ []
  | 0, u, h => absurd h (by omega)
  | n + 1, u, h => by
    rw [Lib.decDigits]
    by_cases h1 : u < 10
    · rw [dif_pos h1]
      refine ⟨fun c hc => ?_, by simp⟩
      simp only [List.mem_cons, List.not_mem_nil, or_false] at hc
      subst hc
      unfold isDig
      rw [dig_nat u h1]
      omega
    · rw [dif_neg h1]
      refine ⟨fun c hc => ?_, by simp⟩
      rw [List.mem_append] at hc
      rcases hc with hc | hc
      · exact (digits_dig n (u / 10) (by omega)).1 c hc
      · simp only [List.mem_cons, List.not_mem_nil, or_false] at hc
        subst hc
        unfold isDig
        rw [dig_nat (u % 10) (by omega)]
        omega
theorem itoa_list {z : Int} (h : -9223372036854775808 ≤ z ∧ z ≤ 9223372036854775807) : (itoaB z).data.toList = Lib.itoa z := itoaF_eq z h
theorem atoi_itoa (z : Int) (h : -9223372036854775808 ≤ z ∧ z ≤ 9223372036854775807) : Lib.atoiAll (Lib.itoa z) = .ok z := by
  unfold Lib.itoa
  by_cases hz : z < 0
  · rw [if_pos hz, Lib.atoiAll_minus]
    unfold Lib.parseMag
    rw [if_neg (digits_dig _ _ (Nat.lt_succ_self _)).2, parse_digits _ _ (Nat.lt_succ_self _) (by omega)]
    simp only [Lib.signed]
    rw [if_neg (by omega)]
    congr 1
    omega
  · rw [if_neg hz]
    obtain ⟨h1, h2⟩ := digits_dig _ z.toNat (Nat.lt_succ_self _)
    have h3 := parse_digits _ z.toNat (Nat.lt_succ_self _) (by omega)
    generalize Lib.decDigits z.toNat = l at h1 h2 h3
    cases l with
    | nil => exact absurd rfl h2
    | cons c r =>
      have hc := h1 c List.mem_cons_self
      unfold isDig at hc
      rw [Lib.atoiAll_plain c r (by omega) (by omega)]
      unfold Lib.parseMag
      rw [if_neg (by simp), h3]
      simp only [Lib.signless]
      rw [if_neg (by omega)]
      congr 1
      omega
theorem whole_itoa (z : Int) (h : -9223372036854775808 ≤ z ∧ z ≤ 9223372036854775807) : wholeV (itoaB z) = (z, true) := by
  unfold wholeV
  rw [itoa_list h, atoi_itoa z h]
  simp
theorem itoa_ne (z : Int) (h : -9223372036854775808 ≤ z ∧ z ≤ 9223372036854775807) : (itoaB z).data.toList ≠ [] := by
  rw [itoa_list h]
  unfold Lib.itoa
  split
  · simp
  · exact (digits_dig _ _ (Nat.lt_succ_self _)).2
theorem dig_plain {c : UInt8} (h : isDig c) : blB c = false ∧ mkB c = false := by
  unfold isDig at h
  exact ⟨decide_eq_false (by omega), decide_eq_false (by omega)⟩
theorem itoa_plain (z : Int) (h : -9223372036854775808 ≤ z ∧ z ≤ 9223372036854775807) : plain (itoaB z).data.toList := by
  rw [itoa_list h]
  unfold Lib.itoa
  split
  · intro c hc
    rcases List.mem_cons.1 hc with rfl | hc
    · decide
    · exact dig_plain ((digits_dig _ _ (Nat.lt_succ_self _)).1 c hc)
  · intro c hc
    exact dig_plain ((digits_dig _ _ (Nat.lt_succ_self _)).1 c hc)
theorem itoa_label (z : Int) (h : -9223372036854775808 ≤ z ∧ z ≤ 9223372036854775807) : labelV (itoaB z) = false := by
  unfold labelV
  rw [itoa_list h]
  have : labL 0 (Lib.itoa z) = false := by
    have hd : ∀ c r, isDig c → labL 0 (c :: r) = false := fun c r hc => by
      unfold isDig at hc
      simp only [labL, labC, letB]
      rw [decide_eq_false (by omega), decide_eq_false (by omega), decide_eq_false (by omega)]
      rfl
    unfold Lib.itoa
    split
    · rfl
    · obtain ⟨h1, h2⟩ := digits_dig _ z.toNat (Nat.lt_succ_self _)
      generalize Lib.decDigits z.toNat = l at h1 h2
      cases l with
      | nil => exact absurd rfl h2
      | cons c r => exact hd c r (h1 c List.mem_cons_self)
  rw [this]
  rfl
end Go.Proofs.YtbaooebafijenaaDoor
namespace Go.Proofs.YtbaooebafijenaaDoor
open Go Go.Ev
set_option maxRecDepth 100000
set_option linter.unusedSimpArgs false
set_option linter.unusedVariables false
set_option linter.unusedSectionVars false
set_option maxHeartbeats 2000000
variable [Mx]
theorem trim_cons (p : UInt8) (w : Bs) : Lib.trimPrefix (p :: w) [p] = w := by simp [Lib.trimPrefix, Lib.hasPrefix]
theorem has_cons (p : UInt8) (w : Bs) : Lib.hasPrefix (p :: w) [p] = true := by simp [Lib.hasPrefix]
theorem pre_list (p : UInt8) (w : ByteArray) : ((⟨#[p]⟩ : ByteArray) ++ w).data.toList = p :: w.data.toList := by rw [app_list]; rfl
theorem opd_list (i : Ins) (c : Nat) : (opdV i c).data.toList = if c = 105 then (itoaB (i.get c)).data.toList else if c < 97 then 102 :: (itoaB (i.get c)).data.toList else 114 :: (itoaB (i.get c)).data.toList := by
  unfold opdV
  split
  · rfl
  · split
    · exact pre_list _ _
    · exact pre_list _ _
theorem cut_pre (p : UInt8) (w : ByteArray) : cutB ((⟨#[p]⟩ : ByteArray) ++ w) p = (w, true) := by
  unfold cutB
  rw [pre_list, trim_cons, has_cons]
theorem put_opd (i : Ins) (c : Nat) (h : -9223372036854775808 ≤ i.get c ∧ i.get c ≤ 9223372036854775807) : putV c (opdV i c) = (i.get c, true) := by
  unfold putV stripV opdV
  by_cases h1 : c = 105
  · simp only [h1, if_true]
    rw [whole_itoa _ (by rw [← h1]; exact h)]
    rfl
  · simp only [h1, if_false]
    by_cases h2 : c < 97
    · simp only [h2, if_true, cut_pre]
      rw [whole_itoa _ h]
      rfl
    · simp only [h2, if_false, cut_pre]
      rw [whole_itoa _ h]
      rfl
theorem opd_plain (i : Ins) (c : Nat) (h : -9223372036854775808 ≤ i.get c ∧ i.get c ≤ 9223372036854775807) : plain (opdV i c).data.toList ∧ (opdV i c).data.toList ≠ [] := by
  rw [opd_list]
  have h1 := itoa_plain _ h
  split
  · exact ⟨h1, itoa_ne _ h⟩
  · split
    · exact ⟨fun x hx => (List.mem_cons.1 hx).elim (fun e => by subst e; decide) (h1 x), by simp⟩
    · exact ⟨fun x hx => (List.mem_cons.1 hx).elim (fun e => by subst e; decide) (h1 x), by simp⟩
theorem name_facts (op : Int) (h : 1 ≤ op ∧ op < 72) : namedV (nameV op) = op ∧ plain (nameV op).data.toList ∧ (nameV op).data.toList ≠ [] := by
  have := of_decide_eq_true (List.all_eq_true.1 (show (List.range 72).all (fun k => decide (k = 0 ∨ (namedV (nameV (k : Int)) = (k : Int) ∧ (nameV (k : Int)).data.toList.all (fun c => !blB c && !mkB c) = true ∧ (nameV (k : Int)).data.toList ≠ []))) = true by kernel_rfl) op.toNat (List.mem_range.2 (by omega)))
  rw [show ((op.toNat : Nat) : Int) = op by omega] at this
  obtain ⟨h1, h2, h3⟩ := this.resolve_left (by omega)
  refine ⟨h1, fun c hc => ?_, h3⟩
  have := List.all_eq_true.1 h2 c hc
  simpa using this
theorem op_range {op : Int} (h : 1 ≤ formV op) : 1 ≤ op ∧ op < 72 := by
  by_cases h1 : 1 ≤ op ∧ op < 72
  · exact h1
  · have : formV op = 0 := by
      by_cases h2 : op = 0
      · subst h2; rfl
      · unfold formV tabI
        rw [if_neg (by omega)]
    omega
theorem tk_0 {nm : Bs} (h : plain nm) (hn : nm ≠ []) : tk2 nm [] = [nm] := by rw [tk2_word _ _ h, List.nil_append, flL_ne hn]
theorem tk_2 {nm a b : Bs} (h : plain nm) (hn : nm ≠ []) (ha : plain a) (ha2 : a ≠ []) (hb : plain b) (hb2 : b ≠ []) : tk2 (nm ++ 32 :: (a ++ 44 :: 32 :: b)) [] = [nm, a, [44], b] := by
  rw [tk2_plain _ _ _ h, tk2_bl, tk2_plain _ _ _ ha, tk2_comma, tk2_bl, tk2_word _ _ hb]
  simp [flL, hn, ha2, hb2]
theorem tk_3 {nm a b c : Bs} (h : plain nm) (hn : nm ≠ []) (ha : plain a) (ha2 : a ≠ []) (hb : plain b) (hb2 : b ≠ []) (hc : plain c) (hc2 : c ≠ []) : tk2 (nm ++ 32 :: (a ++ 44 :: 32 :: (b ++ 44 :: 32 :: c))) [] = [nm, a, [44], b, [44], c] := by
  rw [tk2_plain _ _ _ h, tk2_bl, tk2_plain _ _ _ ha, tk2_comma, tk2_bl, tk2_plain _ _ _ hb, tk2_comma, tk2_bl, tk2_word _ _ hc]
  simp [flL, hn, ha2, hb2, hc2]
theorem tk_5 {nm a b c : Bs} (h : plain nm) (hn : nm ≠ []) (ha : plain a) (ha2 : a ≠ []) (hb : plain b) (hb2 : b ≠ []) (hc : plain c) (hc2 : c ≠ []) : tk2 (nm ++ 32 :: (a ++ 44 :: 32 :: (b ++ 40 :: (c ++ [41])))) [] = [nm, a, [44], b, [40], c, [41]] := by
  rw [tk2_plain _ _ _ h, tk2_bl, tk2_plain _ _ _ ha, tk2_comma, tk2_bl, tk2_plain _ _ _ hb, tk2_lp, tk2_plain _ _ _ hc, tk2_rp]
  simp [flL, tk2, hn, ha2, hb2, hc2]
theorem text_0 (i : Ins) (h : rowV (formV i.op) (opsV i) = []) : (textV i).data.toList = (nameV i.op).data.toList := by unfold textV; rw [if_pos h]
theorem join_2 (a b : ByteArray) : (joinV [a, b]).data.toList = a.data.toList ++ 44 :: 32 :: b.data.toList := by
  show Lib.join [a.data.toList, b.data.toList] [44, 32] = _
  simp [Lib.join_cons, Lib.joinTail]
theorem join_3 (a b c : ByteArray) : (joinV [a, b, c]).data.toList = a.data.toList ++ 44 :: 32 :: (b.data.toList ++ 44 :: 32 :: c.data.toList) := by
  show Lib.join [a.data.toList, b.data.toList, c.data.toList] [44, 32] = _
  simp [Lib.join_cons, Lib.joinTail]
theorem text_n (i : Ins) {x : ByteArray} {l : List ByteArray} (h : rowV (formV i.op) (opsV i) = x :: l) : (textV i).data.toList = (nameV i.op).data.toList ++ 32 :: (joinV (x :: l)).data.toList := by
  unfold textV
  rw [h, if_neg (by simp), app_list, app_list]
  simp
/-- what an instruction that is none the wrong holds, by its form -/
theorem chk_okP {i : Ins} (h : chkV i.op i.A i.B i.C i.I = 0) : (0 ≤ i.B ∧ i.B ≤ mxB (formV i.op)) ∧ (0 ≤ i.C ∧ i.C ≤ mxC (formV i.op)) ∧ (0 ≤ i.A ∧ i.A ≤ mxA (formV i.op)) ∧ (hasF (formV i.op) = false → i.I = 0) := by
  unfold chkV at h
  split at h
  · exact absurd h (by decide)
  · split at h
    · rename_i ho
      obtain ⟨o1, o2, o3, o4⟩ := ho
      refine ⟨o2, o3, o1, fun hf => ?_⟩
      rw [hf] at o4
      simp only [cond_false] at o4
      omega
    · exact absurd h (by decide)
theorem Ins.ext5 {i j : Ins} (h0 : i.op = j.op) (h1 : i.A = j.A) (h2 : i.B = j.B) (h3 : i.C = j.C) (h4 : i.I = j.I) : i = j := by
  cases i; cases j; simp_all

/-- the words of an instruction's text say that instruction -/
theorem back_text {i : Ins} (hk : chkV i.op i.A i.B i.C i.I = 0) : insV (tokensV (textV i)) = (i, emp, true) := by
  obtain ⟨hf1, hf2, _⟩ := chk_small hk
  obtain ⟨hop1, hop2⟩ := op_range hf1
  obtain ⟨hnm, pn, nn⟩ := name_facts i.op ⟨hop1, hop2⟩
  obtain ⟨zB, zC, zA, zI⟩ := chk_okP hk
  have hg : ∀ c, -9223372036854775808 ≤ i.get c ∧ i.get c ≤ 9223372036854775807 := fun c => by have := get_small hk c; omega
  have hpl := fun c => opd_plain i c (hg c)
  have hput := fun c => put_opd i c (hg c)
  have hlab : labelV (opdV i 105) = false := itoa_label _ (hg 105)
  have hdk : decide (chkV i.op i.A i.B i.C i.I = 0) = true := decide_eq_true hk
  have hneg : ¬ i.op < 0 := by omega
  rw [tokens_tk2]
  have hc : formV i.op = 1 ∨ formV i.op = 2 ∨ formV i.op = 3 ∨ formV i.op = 4 ∨ formV i.op = 5 ∨ formV i.op = 6 ∨ formV i.op = 7 ∨ formV i.op = 8 ∨ formV i.op = 9 ∨ formV i.op = 10 ∨ formV i.op = 11 ∨ formV i.op = 12 ∨ formV i.op = 13 ∨ formV i.op = 14 ∨ formV i.op = 15 := by omega
  have hm : ∀ x : ByteArray, bs x.data.toList = x := list_bs
  rcases hc with hf | hf | hf | hf | hf | hf | hf | hf | hf | hf | hf | hf | hf | hf | hf
  · rw [hf] at zA zB zC zI
    have zA' : i.A = 0 := by have : mxA 1 = 0 := rfl; omega
    have zB' : i.B = 0 := by have : mxB 1 = 0 := rfl; omega
    have zC' : i.C = 0 := by have : mxC 1 = 0 := rfl; omega
    have zI' : i.I = 0 := zI rfl
    have ho : opsV i = [] := by unfold opsV; rw [hf]; rfl
    have hr : rowV (formV i.op) (opsV i) = [] := by rw [ho, hf]; rfl
    rw [text_0 i hr, tk_0 pn nn]
    simp only [List.map_cons, List.map_nil, hm]
    have hs : (shpB 1).data.toList = [] := rfl
    have hz : (shpB 1).size = 0 := rfl
    have hb : betw 1 = [] := rfl
    simp [insV, hnm, hneg, hf, opL, cpar, hs, hz, hb, insGo, bs, comma, lpar]
    try simp [Ins.set, Ins.get, zA', zB', zC', zI']
    have hk2 := hk
    rw [zA', zB', zC', zI'] at hk2
    exact ⟨Ins.ext5 rfl zA'.symm zB'.symm zC'.symm zI'.symm, hk2⟩
  · rw [hf] at zA zB zC zI
    have zI' : i.I = 0 := zI rfl
    have ho : opsV i = [opdV i 97, opdV i 98, opdV i 99] := by unfold opsV; rw [hf]; rfl
    have hr : rowV (formV i.op) (opsV i) = [opdV i 97, opdV i 98, opdV i 99] := by rw [ho, hf]; rfl
    rw [text_n i hr, join_3, tk_3 pn nn (hpl 97).1 (hpl 97).2 (hpl 98).1 (hpl 98).2 (hpl 99).1 (hpl 99).2]
    simp only [List.map_cons, List.map_nil, hm]
    have hs : (shpB 2).data.toList = [97, 98, 99] := rfl
    have hz : (shpB 2).size = 3 := rfl
    have hb : betw 2 = [comma, comma] := rfl
    simp [insV, hnm, hneg, hf, opL, cpar, hs, hz, hb, insGo, bs, comma, lpar, (show (97 : UInt8).toNat = 97 from rfl), (show (98 : UInt8).toNat = 98 from rfl), (show (99 : UInt8).toNat = 99 from rfl), hput 97, hput 98, hput 99]
    try simp [Ins.set, Ins.get, zI']
    have hk2 := hk
    rw [zI'] at hk2
    exact ⟨Ins.ext5 rfl rfl rfl rfl zI'.symm, hk2⟩
  · rw [hf] at zA zB zC zI
    have zC' : i.C = 0 := by have : mxC 3 = 0 := rfl; omega
    have ho : opsV i = [opdV i 97, opdV i 98, opdV i 105] := by unfold opsV; rw [hf]; rfl
    have hr : rowV (formV i.op) (opsV i) = [opdV i 97, opdV i 98, opdV i 105] := by rw [ho, hf]; rfl
    rw [text_n i hr, join_3, tk_3 pn nn (hpl 97).1 (hpl 97).2 (hpl 98).1 (hpl 98).2 (hpl 105).1 (hpl 105).2]
    simp only [List.map_cons, List.map_nil, hm]
    have hs : (shpB 3).data.toList = [97, 98, 105] := rfl
    have hz : (shpB 3).size = 3 := rfl
    have hb : betw 3 = [comma, comma] := rfl
    simp [insV, hnm, hneg, hf, opL, cpar, hs, hz, hb, insGo, bs, comma, lpar, (show (97 : UInt8).toNat = 97 from rfl), (show (98 : UInt8).toNat = 98 from rfl), (show (105 : UInt8).toNat = 105 from rfl), hput 97, hput 98, hput 105, hlab]
    try simp [Ins.set, Ins.get, zC']
    have hk2 := hk
    rw [zC'] at hk2
    exact ⟨Ins.ext5 rfl rfl rfl zC'.symm rfl, hk2⟩
  · rw [hf] at zA zB zC zI
    have zB' : i.B = 0 := by have : mxB 4 = 0 := rfl; omega
    have zC' : i.C = 0 := by have : mxC 4 = 0 := rfl; omega
    have ho : opsV i = [opdV i 97, opdV i 105] := by unfold opsV; rw [hf]; rfl
    have hr : rowV (formV i.op) (opsV i) = [opdV i 97, opdV i 105] := by rw [ho, hf]; rfl
    rw [text_n i hr, join_2, tk_2 pn nn (hpl 97).1 (hpl 97).2 (hpl 105).1 (hpl 105).2]
    simp only [List.map_cons, List.map_nil, hm]
    have hs : (shpB 4).data.toList = [97, 105] := rfl
    have hz : (shpB 4).size = 2 := rfl
    have hb : betw 4 = [comma] := rfl
    simp [insV, hnm, hneg, hf, opL, cpar, hs, hz, hb, insGo, bs, comma, lpar, (show (97 : UInt8).toNat = 97 from rfl), (show (105 : UInt8).toNat = 105 from rfl), hput 97, hput 105, hlab]
    try simp [Ins.set, Ins.get, zB', zC']
    have hk2 := hk
    rw [zB', zC'] at hk2
    exact ⟨Ins.ext5 rfl rfl zB'.symm zC'.symm rfl, hk2⟩
  · rw [hf] at zA zB zC zI
    have zC' : i.C = 0 := by have : mxC 5 = 0 := rfl; omega
    have ho : opsV i = [opdV i 97, opdV i 105, opdV i 98] := by unfold opsV; rw [hf]; rfl
    have hr : rowV (formV i.op) (opsV i) = [opdV i 97, opdV i 105 ++ ⟨#[40]⟩ ++ opdV i 98 ++ ⟨#[41]⟩] := by rw [ho, hf]; rfl
    rw [text_n i hr, join_2, app_list, app_list, app_list, List.append_assoc, List.append_assoc]
    show insV (List.map bs (tk2 ((nameV i.op).data.toList ++ 32 :: ((opdV i 97).data.toList ++ 44 :: 32 :: ((opdV i 105).data.toList ++ 40 :: ((opdV i 98).data.toList ++ [41])))) [])) = _
    rw [tk_5 pn nn (hpl 97).1 (hpl 97).2 (hpl 105).1 (hpl 105).2 (hpl 98).1 (hpl 98).2]
    simp only [List.map_cons, List.map_nil, hm]
    have hs : (shpB 5).data.toList = [97, 105, 98] := rfl
    have hz : (shpB 5).size = 3 := rfl
    have hb : betw 5 = [comma, lpar] := rfl
    simp [insV, hnm, hneg, hf, opL, cpar, hs, hz, hb, insGo, bs, comma, lpar, (show (97 : UInt8).toNat = 97 from rfl), (show (105 : UInt8).toNat = 105 from rfl), (show (98 : UInt8).toNat = 98 from rfl), hput 97, hput 105, hput 98, hlab]
    try simp [Ins.set, Ins.get, zC']
    have hk2 := hk
    rw [zC'] at hk2
    exact ⟨Ins.ext5 rfl rfl rfl zC'.symm rfl, hk2⟩
  · rw [hf] at zA zB zC zI
    have zC' : i.C = 0 := by have : mxC 6 = 0 := rfl; omega
    have ho : opsV i = [opdV i 65, opdV i 105, opdV i 98] := by unfold opsV; rw [hf]; rfl
    have hr : rowV (formV i.op) (opsV i) = [opdV i 65, opdV i 105 ++ ⟨#[40]⟩ ++ opdV i 98 ++ ⟨#[41]⟩] := by rw [ho, hf]; rfl
    rw [text_n i hr, join_2, app_list, app_list, app_list, List.append_assoc, List.append_assoc]
    show insV (List.map bs (tk2 ((nameV i.op).data.toList ++ 32 :: ((opdV i 65).data.toList ++ 44 :: 32 :: ((opdV i 105).data.toList ++ 40 :: ((opdV i 98).data.toList ++ [41])))) [])) = _
    rw [tk_5 pn nn (hpl 65).1 (hpl 65).2 (hpl 105).1 (hpl 105).2 (hpl 98).1 (hpl 98).2]
    simp only [List.map_cons, List.map_nil, hm]
    have hs : (shpB 6).data.toList = [65, 105, 98] := rfl
    have hz : (shpB 6).size = 3 := rfl
    have hb : betw 6 = [comma, lpar] := rfl
    simp [insV, hnm, hneg, hf, opL, cpar, hs, hz, hb, insGo, bs, comma, lpar, (show (65 : UInt8).toNat = 65 from rfl), (show (105 : UInt8).toNat = 105 from rfl), (show (98 : UInt8).toNat = 98 from rfl), hput 65, hput 105, hput 98, hlab]
    try simp [Ins.set, Ins.get, zC']
    have hk2 := hk
    rw [zC'] at hk2
    exact ⟨Ins.ext5 rfl rfl rfl zC'.symm rfl, hk2⟩
  · rw [hf] at zA zB zC zI
    have zC' : i.C = 0 := by have : mxC 7 = 0 := rfl; omega
    have ho : opsV i = [opdV i 97, opdV i 98, opdV i 105] := by unfold opsV; rw [hf]; rfl
    have hr : rowV (formV i.op) (opsV i) = [opdV i 97, opdV i 98, opdV i 105] := by rw [ho, hf]; rfl
    rw [text_n i hr, join_3, tk_3 pn nn (hpl 97).1 (hpl 97).2 (hpl 98).1 (hpl 98).2 (hpl 105).1 (hpl 105).2]
    simp only [List.map_cons, List.map_nil, hm]
    have hs : (shpB 7).data.toList = [97, 98, 105] := rfl
    have hz : (shpB 7).size = 3 := rfl
    have hb : betw 7 = [comma, comma] := rfl
    simp [insV, hnm, hneg, hf, opL, cpar, hs, hz, hb, insGo, bs, comma, lpar, (show (97 : UInt8).toNat = 97 from rfl), (show (98 : UInt8).toNat = 98 from rfl), (show (105 : UInt8).toNat = 105 from rfl), hput 97, hput 98, hput 105, hlab]
    try simp [Ins.set, Ins.get, zC']
    have hk2 := hk
    rw [zC'] at hk2
    exact ⟨Ins.ext5 rfl rfl rfl zC'.symm rfl, hk2⟩
  · rw [hf] at zA zB zC zI
    have zB' : i.B = 0 := by have : mxB 8 = 0 := rfl; omega
    have zC' : i.C = 0 := by have : mxC 8 = 0 := rfl; omega
    have ho : opsV i = [opdV i 97, opdV i 105] := by unfold opsV; rw [hf]; rfl
    have hr : rowV (formV i.op) (opsV i) = [opdV i 97, opdV i 105] := by rw [ho, hf]; rfl
    rw [text_n i hr, join_2, tk_2 pn nn (hpl 97).1 (hpl 97).2 (hpl 105).1 (hpl 105).2]
    simp only [List.map_cons, List.map_nil, hm]
    have hs : (shpB 8).data.toList = [97, 105] := rfl
    have hz : (shpB 8).size = 2 := rfl
    have hb : betw 8 = [comma] := rfl
    simp [insV, hnm, hneg, hf, opL, cpar, hs, hz, hb, insGo, bs, comma, lpar, (show (97 : UInt8).toNat = 97 from rfl), (show (105 : UInt8).toNat = 105 from rfl), hput 97, hput 105, hlab]
    try simp [Ins.set, Ins.get, zB', zC']
    have hk2 := hk
    rw [zB', zC'] at hk2
    exact ⟨Ins.ext5 rfl rfl zB'.symm zC'.symm rfl, hk2⟩
  · rw [hf] at zA zB zC zI
    have zI' : i.I = 0 := zI rfl
    have ho : opsV i = [opdV i 65, opdV i 66, opdV i 67] := by unfold opsV; rw [hf]; rfl
    have hr : rowV (formV i.op) (opsV i) = [opdV i 65, opdV i 66, opdV i 67] := by rw [ho, hf]; rfl
    rw [text_n i hr, join_3, tk_3 pn nn (hpl 65).1 (hpl 65).2 (hpl 66).1 (hpl 66).2 (hpl 67).1 (hpl 67).2]
    simp only [List.map_cons, List.map_nil, hm]
    have hs : (shpB 9).data.toList = [65, 66, 67] := rfl
    have hz : (shpB 9).size = 3 := rfl
    have hb : betw 9 = [comma, comma] := rfl
    simp [insV, hnm, hneg, hf, opL, cpar, hs, hz, hb, insGo, bs, comma, lpar, (show (65 : UInt8).toNat = 65 from rfl), (show (66 : UInt8).toNat = 66 from rfl), (show (67 : UInt8).toNat = 67 from rfl), hput 65, hput 66, hput 67]
    try simp [Ins.set, Ins.get, zI']
    have hk2 := hk
    rw [zI'] at hk2
    exact ⟨Ins.ext5 rfl rfl rfl rfl zI'.symm, hk2⟩
  · rw [hf] at zA zB zC zI
    have zC' : i.C = 0 := by have : mxC 10 = 0 := rfl; omega
    have zI' : i.I = 0 := zI rfl
    have ho : opsV i = [opdV i 65, opdV i 66] := by unfold opsV; rw [hf]; rfl
    have hr : rowV (formV i.op) (opsV i) = [opdV i 65, opdV i 66] := by rw [ho, hf]; rfl
    rw [text_n i hr, join_2, tk_2 pn nn (hpl 65).1 (hpl 65).2 (hpl 66).1 (hpl 66).2]
    simp only [List.map_cons, List.map_nil, hm]
    have hs : (shpB 10).data.toList = [65, 66] := rfl
    have hz : (shpB 10).size = 2 := rfl
    have hb : betw 10 = [comma] := rfl
    simp [insV, hnm, hneg, hf, opL, cpar, hs, hz, hb, insGo, bs, comma, lpar, (show (65 : UInt8).toNat = 65 from rfl), (show (66 : UInt8).toNat = 66 from rfl), hput 65, hput 66]
    try simp [Ins.set, Ins.get, zC', zI']
    have hk2 := hk
    rw [zC', zI'] at hk2
    exact ⟨Ins.ext5 rfl rfl rfl zC'.symm zI'.symm, hk2⟩
  · rw [hf] at zA zB zC zI
    have zI' : i.I = 0 := zI rfl
    have ho : opsV i = [opdV i 97, opdV i 66, opdV i 67] := by unfold opsV; rw [hf]; rfl
    have hr : rowV (formV i.op) (opsV i) = [opdV i 97, opdV i 66, opdV i 67] := by rw [ho, hf]; rfl
    rw [text_n i hr, join_3, tk_3 pn nn (hpl 97).1 (hpl 97).2 (hpl 66).1 (hpl 66).2 (hpl 67).1 (hpl 67).2]
    simp only [List.map_cons, List.map_nil, hm]
    have hs : (shpB 11).data.toList = [97, 66, 67] := rfl
    have hz : (shpB 11).size = 3 := rfl
    have hb : betw 11 = [comma, comma] := rfl
    simp [insV, hnm, hneg, hf, opL, cpar, hs, hz, hb, insGo, bs, comma, lpar, (show (97 : UInt8).toNat = 97 from rfl), (show (66 : UInt8).toNat = 66 from rfl), (show (67 : UInt8).toNat = 67 from rfl), hput 97, hput 66, hput 67]
    try simp [Ins.set, Ins.get, zI']
    have hk2 := hk
    rw [zI'] at hk2
    exact ⟨Ins.ext5 rfl rfl rfl rfl zI'.symm, hk2⟩
  · rw [hf] at zA zB zC zI
    have zC' : i.C = 0 := by have : mxC 12 = 0 := rfl; omega
    have zI' : i.I = 0 := zI rfl
    have ho : opsV i = [opdV i 97, opdV i 66] := by unfold opsV; rw [hf]; rfl
    have hr : rowV (formV i.op) (opsV i) = [opdV i 97, opdV i 66] := by rw [ho, hf]; rfl
    rw [text_n i hr, join_2, tk_2 pn nn (hpl 97).1 (hpl 97).2 (hpl 66).1 (hpl 66).2]
    simp only [List.map_cons, List.map_nil, hm]
    have hs : (shpB 12).data.toList = [97, 66] := rfl
    have hz : (shpB 12).size = 2 := rfl
    have hb : betw 12 = [comma] := rfl
    simp [insV, hnm, hneg, hf, opL, cpar, hs, hz, hb, insGo, bs, comma, lpar, (show (97 : UInt8).toNat = 97 from rfl), (show (66 : UInt8).toNat = 66 from rfl), hput 97, hput 66]
    try simp [Ins.set, Ins.get, zC', zI']
    have hk2 := hk
    rw [zC', zI'] at hk2
    exact ⟨Ins.ext5 rfl rfl rfl zC'.symm zI'.symm, hk2⟩
  · rw [hf] at zA zB zC zI
    have zC' : i.C = 0 := by have : mxC 13 = 0 := rfl; omega
    have zI' : i.I = 0 := zI rfl
    have ho : opsV i = [opdV i 65, opdV i 98] := by unfold opsV; rw [hf]; rfl
    have hr : rowV (formV i.op) (opsV i) = [opdV i 65, opdV i 98] := by rw [ho, hf]; rfl
    rw [text_n i hr, join_2, tk_2 pn nn (hpl 65).1 (hpl 65).2 (hpl 98).1 (hpl 98).2]
    simp only [List.map_cons, List.map_nil, hm]
    have hs : (shpB 13).data.toList = [65, 98] := rfl
    have hz : (shpB 13).size = 2 := rfl
    have hb : betw 13 = [comma] := rfl
    simp [insV, hnm, hneg, hf, opL, cpar, hs, hz, hb, insGo, bs, comma, lpar, (show (65 : UInt8).toNat = 65 from rfl), (show (98 : UInt8).toNat = 98 from rfl), hput 65, hput 98]
    try simp [Ins.set, Ins.get, zC', zI']
    have hk2 := hk
    rw [zC', zI'] at hk2
    exact ⟨Ins.ext5 rfl rfl rfl zC'.symm zI'.symm, hk2⟩
  · rw [hf] at zA zB zC zI
    have zI' : i.I = 0 := zI rfl
    have ho : opsV i = [opdV i 65, opdV i 98, opdV i 99] := by unfold opsV; rw [hf]; rfl
    have hr : rowV (formV i.op) (opsV i) = [opdV i 65, opdV i 98, opdV i 99] := by rw [ho, hf]; rfl
    rw [text_n i hr, join_3, tk_3 pn nn (hpl 65).1 (hpl 65).2 (hpl 98).1 (hpl 98).2 (hpl 99).1 (hpl 99).2]
    simp only [List.map_cons, List.map_nil, hm]
    have hs : (shpB 14).data.toList = [65, 98, 99] := rfl
    have hz : (shpB 14).size = 3 := rfl
    have hb : betw 14 = [comma, comma] := rfl
    simp [insV, hnm, hneg, hf, opL, cpar, hs, hz, hb, insGo, bs, comma, lpar, (show (65 : UInt8).toNat = 65 from rfl), (show (98 : UInt8).toNat = 98 from rfl), (show (99 : UInt8).toNat = 99 from rfl), hput 65, hput 98, hput 99]
    try simp [Ins.set, Ins.get, zI']
    have hk2 := hk
    rw [zI'] at hk2
    exact ⟨Ins.ext5 rfl rfl rfl rfl zI'.symm, hk2⟩
  · rw [hf] at zA zB zC zI
    have zB' : i.B = 0 := by have : mxB 15 = 0 := rfl; omega
    have zC' : i.C = 0 := by have : mxC 15 = 0 := rfl; omega
    have ho : opsV i = [opdV i 97, opdV i 105] := by unfold opsV; rw [hf]; rfl
    have hr : rowV (formV i.op) (opsV i) = [opdV i 97, opdV i 105] := by rw [ho, hf]; rfl
    rw [text_n i hr, join_2, tk_2 pn nn (hpl 97).1 (hpl 97).2 (hpl 105).1 (hpl 105).2]
    simp only [List.map_cons, List.map_nil, hm]
    have hs : (shpB 15).data.toList = [97, 105] := rfl
    have hz : (shpB 15).size = 2 := rfl
    have hb : betw 15 = [comma] := rfl
    simp [insV, hnm, hneg, hf, opL, cpar, hs, hz, hb, insGo, bs, comma, lpar, (show (97 : UInt8).toNat = 97 from rfl), (show (105 : UInt8).toNat = 105 from rfl), hput 97, hput 105, hlab]
    try simp [Ins.set, Ins.get, zB', zC']
    have hk2 := hk
    rw [zB', zC'] at hk2
    exact ⟨Ins.ext5 rfl rfl zB'.symm zC'.symm rfl, hk2⟩
end Go.Proofs.YtbaooebafijenaaDoor
