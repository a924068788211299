/- Words of a text as rows of letters; numbers and their texts. -/
import Derived.Test.YtbaooebafijenaaGreatDoorHPar
namespace Go.Proofs.YtbaooebafijenaaGreatDoor
open Go Go.Ev
set_option linter.unusedVariables false
set_option linter.unusedSectionVars false
variable [Mx]
abbrev Bs := List UInt8
def bs (l : Bs) : ByteArray := ⟨l.toArray⟩
theorem bs_list (l : Bs) : (bs l).data.toList = l := rfl
theorem list_bs (s : ByteArray) : bs s.data.toList = s := bytes_inj rfl
theorem bs_inj {a b : Bs} (h : bs a = bs b) : a = b := by have := congrArg (fun s : ByteArray => s.data.toList) h; exact this
theorem app_list (a b : ByteArray) : (a ++ b).data.toList = a.data.toList ++ b.data.toList := by simp [ByteArray.data_append]
theorem emp_list : emp.data.toList = [] := rfl
theorem bs_emp {l : Bs} (h : l ≠ []) : ¬ bs l = emp := fun e => h (bs_inj (b := []) e)
theorem extract_list (s : ByteArray) (i j : Nat) : (s.extract i j).data.toList = (s.data.toList.drop i).take (j - i) := by
  simp [ByteArray.data_extract, Array.toList_extract, List.extract_eq_take_drop]
/-! ### Words -/
def flL (cur : Bs) : List Bs := if cur = [] then [] else [cur]
def tk2 : Bs → Bs → List Bs
  | [], cur => flL cur
  | c :: r, cur => if blB c = true then flL cur ++ tk2 r [] else if mkB c = true then flL cur ++ [c] :: tk2 r [] else tk2 r (cur ++ [c])
/-- where the word under way begins, and what it is -/
def AtR (s : ByteArray) (i : Nat) (a : Int) (cur : Bs) : Prop := (a = -1 ∧ cur = []) ∨ (0 ≤ a ∧ a < i ∧ cur = (s.data.toList.drop a.toNat).take (i - a.toNat))
theorem flush_cur {s : ByteArray} {i : Nat} {a : Int} {cur : Bs} (h : AtR s i a cur) (hi : i ≤ s.size) (l : List ByteArray) : flushT s i l a = l ++ (flL cur).map bs := by
  unfold flushT flL
  rcases h with ⟨rfl, rfl⟩ | ⟨h1, h2, rfl⟩
  · rw [if_neg (by decide), if_pos rfl]
    simp
  · have hne : ¬ (s.data.toList.drop a.toNat).take (i - a.toNat) = [] := by
      intro e
      have := congrArg List.length e
      rw [Lib.size_eq] at hi
      simp only [List.length_take, List.length_drop, List.length_nil] at this
      omega
    rw [if_pos h1, if_neg hne]
    simp only [List.map_cons, List.map_nil]
    congr 2
    exact bytes_inj (extract_list s _ _)
theorem tkGo_eq (s : ByteArray) : ∀ (r : Bs) (i : Nat) (l : List ByteArray) (a : Int) (cur : Bs), r = s.data.toList.drop i → i ≤ s.size → AtR s i a cur →
    flushT s s.size (tkGo s r i l a).1 (tkGo s r i l a).2 = l ++ (tk2 r cur).map bs
  | [], i, l, a, cur, hr, hi, ha => by
    have hs : i = s.size := by
      have := congrArg List.length hr
      rw [Lib.size_eq] at hi ⊢
      simp only [List.length_nil, List.length_drop] at this
      omega
    subst hs
    simp only [tkGo, tk2]
    exact flush_cur ha hi l
  | c :: r, i, l, a, cur, hr, hi, ha => by
    have hlt : i < s.size := by
      have := congrArg List.length hr
      rw [Lib.size_eq]
      simp only [List.length_cons, List.length_drop] at this
      omega
    have hr' : r = s.data.toList.drop (i + 1) := by
      have := congrArg List.tail hr
      simpa [List.tail_drop] using this
    have hc : s.data.toList[i]? = some c := by
      have := congrArg List.head? hr
      simpa [List.head?_drop] using this.symm
    have IH := fun l a cur h => tkGo_eq s r (i + 1) l a cur hr' (by omega) h
    simp only [tkGo, tk2]
    have hflush := flush_cur ha hi l
    by_cases hb : blB c = true
    · rw [if_pos hb, if_pos hb, IH _ _ [] (.inl ⟨rfl, rfl⟩), hflush]
      simp
    · rw [if_neg hb, if_neg hb]
      by_cases hk : mkB c = true
      · rw [if_pos hk, if_pos hk, IH _ _ [] (.inl ⟨rfl, rfl⟩), hflush]
        have e : s.extract i (i + 1) = bs [c] := by
          refine bytes_inj ?_
          rw [extract_list, bs_list, ← hr]
          have : i + 1 - i = 1 := by omega
          rw [this]
          rfl
        rw [e]
        simp
      · rw [if_neg hk, if_neg hk]
        rcases ha with ⟨rfl, rfl⟩ | ⟨h1, h2, rfl⟩
        · rw [if_pos (by decide)]
          refine IH _ _ _ (.inr ⟨by omega, by omega, ?_⟩)
          rw [show ((i : Int)).toNat = i by omega, ← hr]
          have : i + 1 - i = 1 := by omega
          rw [this]
          rfl
        · rw [if_neg (by omega)]
          refine IH _ _ _ (.inr ⟨h1, by omega, ?_⟩)
          have e1 : i + 1 - a.toNat = (i - a.toNat) + 1 := by omega
          rw [e1, List.take_add_one, List.getElem?_drop]
          have e2 : a.toNat + (i - a.toNat) = i := by omega
          rw [e2, hc]
          rfl
theorem tokens_tk2 (s : ByteArray) : tokensV s = (tk2 s.data.toList []).map bs := by
  unfold tokensV
  rw [tkGo_eq s s.data.toList 0 [] (-1) [] rfl (Nat.zero_le _) (.inl ⟨rfl, rfl⟩)]
  simp
/-- letters of a word -/
def plain (l : Bs) : Prop := ∀ c ∈ l, blB c = false ∧ mkB c = false
theorem plain_app {a b : Bs} (ha : plain a) (hb : plain b) : plain (a ++ b) := fun c hc => by
  rw [List.mem_append] at hc
  exact hc.elim (ha c) (hb c)
theorem tk2_plain : ∀ (w r cur : Bs), plain w → tk2 (w ++ r) cur = tk2 r (cur ++ w)
  | [], r, cur, _ => by simp
  | c :: w, r, cur, h => by
    obtain ⟨h1, h2⟩ := h c List.mem_cons_self
    rw [List.cons_append]
    simp only [tk2, h1, h2, Bool.false_eq_true, if_false]
    rw [tk2_plain w r (cur ++ [c]) fun x hx => h x (List.mem_cons_of_mem _ hx)]
    simp
theorem tk2_word (w cur : Bs) (h : plain w) : tk2 w cur = flL (cur ++ w) := by
  have := tk2_plain w [] cur h
  rw [List.append_nil] at this
  rw [this]
  rfl
theorem tk2_bl (r cur : Bs) : tk2 (32 :: r) cur = flL cur ++ tk2 r [] := rfl
theorem tk2_comma (r cur : Bs) : tk2 (44 :: r) cur = flL cur ++ [44] :: tk2 r [] := rfl
theorem tk2_lp (r cur : Bs) : tk2 (40 :: r) cur = flL cur ++ [40] :: tk2 r [] := rfl
theorem tk2_rp (r cur : Bs) : tk2 (41 :: r) cur = flL cur ++ [41] :: tk2 r [] := rfl
theorem flL_ne {w : Bs} (h : w ≠ []) : flL w = [w] := if_neg h
/-! ### Numbers and their texts -/
theorem parse_app : ∀ (l : Bs) (acc : Nat) (d : UInt8), Lib.parseUint10 acc (l ++ [d]) = (match Lib.parseUint10 acc l with | .ok v => Lib.parseUint10 v [d] | e => e)
  | [], acc, d => by simp only [List.nil_append, Lib.parseUint10]
  | c :: l, acc, d => by
    rw [List.cons_append]
    simp only [Lib.parseUint10]
    split
    · split
      · rfl
      · split
        · rfl
        · have := parse_app l (acc * 10 + (c.toNat - 48)) d
          simp only [Lib.parseUint10] at this
          exact this
    · rfl
theorem dig_nat (u : Nat) (h : u < 10) : (UInt8.ofNat (48 + u)).toNat = 48 + u := by
  rw [UInt8.toNat_ofNat']
  omega
theorem parse_digits : ∀ (n u : Nat), u < n → u < 18446744073709551616 → Lib.parseUint10 0 (Lib.decDigits u) = .ok u
  | 0, u, h, _ => absurd h (by omega)
  | n + 1, u, h, hu => by
    rw [Lib.decDigits]
    by_cases h1 : u < 10
    · rw [dif_pos h1]
      simp only [Lib.parseUint10, dig_nat u h1]
      rw [if_pos (by omega), if_neg (by omega), if_neg (by omega)]
      congr 1
      omega
    · rw [dif_neg h1, parse_app, parse_digits n (u / 10) (by omega) (by omega)]
      simp only [Lib.parseUint10, dig_nat (u % 10) (by omega)]
      rw [if_pos (by omega), if_neg (by omega), if_neg (by omega)]
      congr 1
      omega
def isDig (c : UInt8) : Prop := 48 ≤ c.toNat ∧ c.toNat ≤ 57
theorem digits_dig : ∀ (n u : Nat), u < n → (∀ c ∈ Lib.decDigits u, isDig c) ∧ Lib.decDigits u ≠ []
  | 0, u, h => absurd h (by omega)
  | n + 1, u, h => by
    rw [Lib.decDigits]
    by_cases h1 : u < 10
    · rw [dif_pos h1]
      refine ⟨fun c hc => ?_, by simp⟩
      simp only [List.mem_cons, List.not_mem_nil, or_false] at hc
      subst hc
      unfold isDig
      rw [dig_nat u h1]
      omega
    · rw [dif_neg h1]
      refine ⟨fun c hc => ?_, by simp⟩
      rw [List.mem_append] at hc
      rcases hc with hc | hc
      · exact (digits_dig n (u / 10) (by omega)).1 c hc
      · simp only [List.mem_cons, List.not_mem_nil, or_false] at hc
        subst hc
        unfold isDig
        rw [dig_nat (u % 10) (by omega)]
        omega
theorem itoa_list {z : Int} (h : -9223372036854775808 ≤ z ∧ z ≤ 9223372036854775807) : (itoaB z).data.toList = Lib.itoa z := itoaF_eq z h
theorem atoi_itoa (z : Int) (h : -9223372036854775808 ≤ z ∧ z ≤ 9223372036854775807) : Lib.atoiAll (Lib.itoa z) = .ok z := by
  unfold Lib.itoa
  by_cases hz : z < 0
  · rw [if_pos hz, Lib.atoiAll_minus]
    unfold Lib.parseMag
    rw [if_neg (digits_dig _ _ (Nat.lt_succ_self _)).2, parse_digits _ _ (Nat.lt_succ_self _) (by omega)]
    simp only [Lib.signed]
    rw [if_neg (by omega)]
    congr 1
    omega
  · rw [if_neg hz]
    obtain ⟨h1, h2⟩ := digits_dig _ z.toNat (Nat.lt_succ_self _)
    have h3 := parse_digits _ z.toNat (Nat.lt_succ_self _) (by omega)
    generalize Lib.decDigits z.toNat = l at h1 h2 h3
    cases l with
    | nil => exact absurd rfl h2
    | cons c r =>
      have hc := h1 c List.mem_cons_self
      unfold isDig at hc
      rw [Lib.atoiAll_plain c r (by omega) (by omega)]
      unfold Lib.parseMag
      rw [if_neg (by simp), h3]
      simp only [Lib.signless]
      rw [if_neg (by omega)]
      congr 1
      omega
theorem whole_itoa (z : Int) (h : -9223372036854775808 ≤ z ∧ z ≤ 9223372036854775807) : wholeV (itoaB z) = (z, true) := by
  unfold wholeV
  rw [itoa_list h, atoi_itoa z h]
  simp
theorem itoa_ne (z : Int) (h : -9223372036854775808 ≤ z ∧ z ≤ 9223372036854775807) : (itoaB z).data.toList ≠ [] := by
  rw [itoa_list h]
  unfold Lib.itoa
  split
  · simp
  · exact (digits_dig _ _ (Nat.lt_succ_self _)).2
theorem dig_plain {c : UInt8} (h : isDig c) : blB c = false ∧ mkB c = false := by
  unfold isDig at h
  exact ⟨decide_eq_false (by omega), decide_eq_false (by omega)⟩
theorem itoa_plain (z : Int) (h : -9223372036854775808 ≤ z ∧ z ≤ 9223372036854775807) : plain (itoaB z).data.toList := by
  rw [itoa_list h]
  unfold Lib.itoa
  split
  · intro c hc
    rcases List.mem_cons.1 hc with rfl | hc
    · decide
    · exact dig_plain ((digits_dig _ _ (Nat.lt_succ_self _)).1 c hc)
  · intro c hc
    exact dig_plain ((digits_dig _ _ (Nat.lt_succ_self _)).1 c hc)
theorem itoa_label (z : Int) (h : -9223372036854775808 ≤ z ∧ z ≤ 9223372036854775807) : labelV (itoaB z) = false := by
  unfold labelV
  rw [itoa_list h]
  have : labL 0 (Lib.itoa z) = false := by
    have hd : ∀ c r, isDig c → labL 0 (c :: r) = false := fun c r hc => by
      unfold isDig at hc
      simp only [labL, labC, letB]
      rw [decide_eq_false (by omega), decide_eq_false (by omega), decide_eq_false (by omega)]
      rfl
    unfold Lib.itoa
    split
    · rfl
    · obtain ⟨h1, h2⟩ := digits_dig _ z.toNat (Nat.lt_succ_self _)
      generalize Lib.decDigits z.toNat = l at h1 h2
      cases l with
      | nil => exact absurd rfl h2
      | cons c r => exact hd c r (h1 c List.mem_cons_self)
  rw [this]
  rfl
end Go.Proofs.YtbaooebafijenaaGreatDoor
