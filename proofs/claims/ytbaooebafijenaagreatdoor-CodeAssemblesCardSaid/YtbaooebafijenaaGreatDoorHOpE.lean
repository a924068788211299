/- Operands: what the program reads of words is what the document reads (the loops). -/
import Derived.Test.YtbaooebafijenaaGreatDoorHRO2
import Derived.Test.YtbaooebafijenaaGreatDoorHRN2
import Derived.Lib.AtoiAllCases
namespace Go.Proofs.YtbaooebafijenaaGreatDoor
open Go Go.Ev
set_option maxRecDepth 100000
set_option linter.unusedSimpArgs false
set_option linter.unusedVariables false
set_option maxHeartbeats 1000000
set_option linter.unusedSectionVars false
variable [Mx]
theorem decF_app : ∀ (l : Bs) (a : Nat) (d : UInt8), decF a (l ++ [d]) = (decF a l).bind fun v => decF v [d]
 | [], a, d => rfl
 | c :: l, a, d => by
   rw [List.cons_append]
   unfold decF
   split
   · exact decF_app l _ d
   · rfl
theorem decF_digits : ∀ (n u : Nat), u < n → decF 0 (Lib.decDigits u) = some u
 | 0, u, h => absurd h (by omega)
 | n + 1, u, h => by
   rw [Lib.decDigits]
   by_cases h1 : u < 10
   · rw [dif_pos h1]
     simp only [decF, dig_nat u h1]
     rw [if_pos (by omega)]
     congr 1
     omega
   · rw [dif_neg h1, decF_app, decF_digits n (u / 10) (by omega)]
     simp only [Option.bind_some, decF, dig_nat (u % 10) (by omega)]
     rw [if_pos (by omega)]
     congr 1
     omega
theorem digits_len : ∀ (k u : Nat), u < 10 ^ (k + 1) → (Lib.decDigits u).length ≤ k + 1
 | 0, u, h => by
   rw [Lib.decDigits, dif_pos (by omega)]
   simp
 | k + 1, u, h => by
   rw [Lib.decDigits]
   by_cases h1 : u < 10
   · rw [dif_pos h1]; simp
   · rw [dif_neg h1, List.length_append]
     have hp : 10 ^ (k + 1 + 1) = 10 ^ (k + 1) * 10 := Nat.pow_succ ..
     have := digits_len k (u / 10) (by omega)
     simp only [List.length_cons, List.length_nil]
     omega
theorem digits_head : ∀ (n u : Nat), u < n → 0 < u → (Lib.decDigits u).head? ≠ some 48
 | 0, u, h, _ => absurd h (by omega)
 | n + 1, u, h, hu => by
   rw [Lib.decDigits]
   by_cases h1 : u < 10
   · rw [dif_pos h1]
     intro e
     have e := congrArg UInt8.toNat (Option.some.inj e)
     rw [dig_nat u h1] at e
     have : (48 : UInt8).toNat = 48 := rfl
     omega
   · rw [dif_neg h1]
     have ih := digits_head n (u / 10) (by omega) (by omega)
     have hne := (digits_dig _ (u / 10) (Nat.lt_succ_self _)).2
     cases hl : Lib.decDigits (u / 10) with
     | nil => exact absurd hl hne
     | cons c r => rw [hl] at ih; exact ih
theorem num_itoa (z : Int) (h : -1000000000000 < z ∧ z < 1000000000000) : numV (Lib.itoa z) = (z, true) := by
 unfold Lib.itoa
 by_cases hz : z < 0
 · rw [if_pos hz]
   have hl := digits_len 11 z.natAbs (by omega)
   have hd := digits_dig _ z.natAbs (Nat.lt_succ_self _)
   have hh := digits_head _ z.natAbs (Nat.lt_succ_self _) (by omega)
   have hv := decF_digits _ z.natAbs (Nat.lt_succ_self _)
   have hD : numD (45 :: Lib.decDigits z.natAbs) = Lib.decDigits z.natAbs := rfl
   unfold numV
   rw [hD, if_neg (by rintro (h | h | ⟨h, _⟩); exact hd.2 h; omega; exact hh h), hv]
   simp only [List.length_cons]
   rw [if_pos (by omega)]
   congr 1
   omega
 · rw [if_neg hz]
   have hl := digits_len 11 z.toNat (by omega)
   have hd := digits_dig _ z.toNat (Nat.lt_succ_self _)
   have hv := decF_digits _ z.toNat (Nat.lt_succ_self _)
   have hh := digits_head _ z.toNat (Nat.lt_succ_self _)
   have hD : numD (Lib.decDigits z.toNat) = Lib.decDigits z.toNat := by
     unfold numD
     refine if_neg fun e => ?_
     cases hc : Lib.decDigits z.toNat with
     | nil => exact hd.2 hc
     | cons c r =>
       rw [hc] at e hd
       have := hd.1 c List.mem_cons_self
       cases Option.some.inj e
       exact absurd this.1 (by decide)
   unfold numV
   rw [hD, if_neg (by
     rintro (h | h | ⟨h, h'⟩)
     · exact hd.2 h
     · omega
     · by_cases h0 : 0 < z.toNat
       · exact hh h0 h
       · have e : z.toNat = 0 := by omega
         have hl0 := digits_len 0 z.toNat (by omega)
         omega), hv]
   simp only
   rw [if_neg (by omega)]
   congr 1
   omega
theorem dec_step (u : Nat) (v d : Nat) (h : u = v * 10 + d) (hd : d < 10) (hv : 0 < v) : Lib.decDigits u = Lib.decDigits v ++ [UInt8.ofNat (48 + d)] := by
 have h1 : ¬ u < 10 := by omega
 have e1 : u / 10 = v := by omega
 have e2 : u % 10 = d := by omega
 conv => lhs; rw [Lib.decDigits]
 rw [dif_neg h1, e1, e2]
theorem decF_pos : ∀ (l : Bs) (a n : Nat), decF a l = some n → 0 < a → 0 < n
 | [], a, n, h, ha => by simp only [decF] at h; cases h; exact ha
 | c :: l, a, n, h, ha => by
   simp only [decF] at h
   split at h
   · exact decF_pos l _ n h (by omega)
   · cases h
theorem decF_inv : ∀ (k : Nat) (l : Bs) (n : Nat), l.length = k → decF 0 l = some n → l ≠ [] → (l.head? ≠ some 48 ∨ l.length = 1) → l = Lib.decDigits n
 | 0, l, n, hk, _, hne, _ => absurd (List.eq_nil_of_length_eq_zero hk) hne
 | k + 1, l, n, hk, h, hne, hh => by
   obtain ⟨l', c, rfl⟩ : ∃ l' c, l = l' ++ [c] := ⟨l.dropLast, l.getLast hne, (List.dropLast_concat_getLast hne).symm⟩
   rw [decF_app] at h
   cases hv : decF 0 l' with
   | none => rw [hv] at h; cases h
   | some v =>
     rw [hv] at h
     simp only [Option.bind_some, decF] at h
     split at h
     · rename_i hc
       cases h
       have ec : UInt8.ofNat (48 + (c.toNat - 48)) = c := by
         have : 48 + (c.toNat - 48) = c.toNat := by omega
         rw [this]; exact UInt8.ofNat_toNat
       cases l' with
       | nil =>
         simp only [decF] at hv
         cases hv
         rw [Lib.decDigits, dif_pos (by omega)]
         simp only [List.nil_append]
         have : 48 + (0 * 10 + (c.toNat - 48)) = 48 + (c.toNat - 48) := by omega
         rw [this, ec]
       | cons x l'' =>
         have hx : x ≠ 48 := by
           rcases hh with hh | hh
           · simpa using hh
           · simp at hh
         have hvp : 0 < v := by
           simp only [decF] at hv
           split at hv
           · rename_i hr
             have : x.toNat ≠ 48 := fun e => hx (UInt8.toNat_inj.1 e)
             exact decF_pos l'' _ v hv (by omega)
           · cases hv
         have ih := decF_inv k (x :: l'') v (by simpa using hk) hv (by simp) (.inl (by simpa using hx))
         rw [dec_step _ v (c.toNat - 48) rfl (by omega) hvp, ← ih, ec]
     · cases h
theorem num_inv {s : Bs} (h : (numV s).2 = true) : s = Lib.itoa (numV s).1 ∧ -1000000000000 < (numV s).1 ∧ (numV s).1 < 1000000000000 := by
 unfold numV at h ⊢
 split at h
 · cases h
 · rename_i hg
   rw [if_neg hg]
   simp only [not_or, not_and] at hg
   obtain ⟨g1, g2, g3⟩ := hg
   cases hd : decF 0 (numD s) with
   | none => rw [hd] at h; cases h
   | some n =>
     simp only
     have hlt : n < 1000000000000 := by
       have h1 := decF_lt (numD s) 0 0 n hd (by decide)
       have h2 : 10 ^ (0 + (numD s).length) ≤ 10 ^ 12 := Nat.pow_le_pow_right (by omega) (by omega)
       have h3 : (10 : Nat) ^ 12 = 1000000000000 := by decide
       omega
     by_cases hs : s.head? = some 45
     · have e : numD s = s.tail := if_pos hs
       cases s with
       | nil => cases hs
       | cons c r =>
         have hc : c = 45 := by simpa using hs
         subst hc
         rw [e] at g1 g2 g3 hd ⊢
         simp only [List.tail_cons] at g1 g2 g3 hd ⊢
         have hr := decF_inv r.length r n rfl hd g1 (.inl (fun h0 => by
           have h1 := g3 h0
           have h2 : 0 < r.length := List.length_pos_iff.2 g1
           simp only [List.length_cons] at h1
           omega))
         have hnp : 0 < n := by
           rcases Nat.eq_zero_or_pos n with h0 | h0
           · subst h0
             have h1 : r = [48] := by rw [hr]; rw [Lib.decDigits]; rfl
             subst h1
             exact absurd (g3 rfl) (by simp)
           · exact h0
         have hlen : r.length < (45 :: r : List UInt8).length := by simp
         have hz : (if r.length < (45 :: r : List UInt8).length then -(n : Int) else (n : Int)) = -(n : Int) := if_pos hlen
         show 45 :: r = Lib.itoa (if r.length < (45 :: r : List UInt8).length then -(n : Int) else (n : Int)) ∧ -1000000000000 < (if r.length < (45 :: r : List UInt8).length then -(n : Int) else (n : Int)) ∧ (if r.length < (45 :: r : List UInt8).length then -(n : Int) else (n : Int)) < 1000000000000
         rw [hz]
         refine ⟨?_, by omega, by omega⟩
         unfold Lib.itoa
         rw [if_pos (by omega)]
         have : (-(n : Int)).natAbs = n := by omega
         rw [this, ← hr]
     · have e : numD s = s := if_neg hs
       rw [e] at g1 g2 g3 hd ⊢
       have hr := decF_inv s.length s n rfl hd g1 (by
         by_cases h0 : s.head? = some 48
         · right
           have h1 := g3 h0
           have h2 : 0 < s.length := List.length_pos_iff.2 g1
           omega
         · exact .inl h0)
       have hlen : ¬ s.length < s.length := by omega
       simp only [if_neg hlen]
       refine ⟨?_, by omega, by omega⟩
       unfold Lib.itoa
       rw [if_neg (by omega)]
       have : ((n : Int)).toNat = n := by omega
       rw [this]
       exact hr
theorem whole_inv {s : ByteArray} (h : (wholeV s).2 = true) : s = itoaB (wholeV s).1 ∧ -9223372036854775808 ≤ (wholeV s).1 ∧ (wholeV s).1 ≤ 9223372036854775807 := by
 unfold wholeV at h ⊢
 cases hat : Lib.atoiAll s.data.toList with
 | ok v =>
   rw [hat] at h
   have := Lib.atoiAll_bounds hat
   exact ⟨(of_decide_eq_true h).symm, this⟩
 | range => rw [hat] at h; cases h
 | _ => rw [hat] at h; cases h
theorem num_whole {w : Bs} (h : (numV w).2 = true) : wholeV (bs w) = ((numV w).1, true) := by
 obtain ⟨h1, h2, h3⟩ := num_inv h
 have hr : -9223372036854775808 ≤ (numV w).1 ∧ (numV w).1 ≤ 9223372036854775807 := by omega
 have e : bs w = itoaB (numV w).1 := bytes_inj (by rw [itoa_list hr, ← h1]; rfl)
 rw [e, whole_itoa _ hr]
theorem whole_num {w : Bs} (h : (wholeV (bs w)).2 = true) (hz : -1000000000000 < (wholeV (bs w)).1 ∧ (wholeV (bs w)).1 < 1000000000000) : numV w = ((wholeV (bs w)).1, true) := by
 obtain ⟨h1, h2⟩ := whole_inv h
 have e : w = Lib.itoa (wholeV (bs w)).1 := by
   have := congrArg (fun s : ByteArray => s.data.toList) h1
   simp only [bs_list] at this
   rw [itoa_list h2] at this
   exact this
 conv => lhs; rw [e]
 exact num_itoa _ hz
theorem put_imm (w : Bs) : putV 105 (bs w) = wholeV (bs w) := by
 unfold putV stripV
 simp only [if_true, Bool.true_and]
theorem strip_reg (c : Nat) (d : UInt8) (hc : ¬ c = 105) (hd : d = if c < 97 then 102 else 114) (w : Bs) : stripV c (bs w) = (bs (Lib.trimPrefix w [d]), Lib.hasPrefix w [d]) := by
 unfold stripV
 rw [if_neg hc]
 split at hd
 · rename_i h; rw [if_pos h, hd]; rfl
 · rename_i h; rw [if_neg h, hd]; rfl
theorem reg_put {c : Nat} {d : UInt8} (hc : ¬ c = 105) (hd : d = if c < 97 then 102 else 114) {w : Bs} (h : (regD d w).2 = true) : putV c (bs w) = ((regD d w).1, true) ∧ 0 ≤ (regD d w).1 ∧ (regD d w).1 ≤ 15 := by
 unfold regD at h ⊢
 split at h
 · cases h
 · rename_i hg
   rw [if_neg hg]
   simp only [not_or, Bool.and_eq_true, decide_eq_true_eq] at hg h
   obtain ⟨g1, g2⟩ := hg
   cases w with
   | nil => simp at g1
   | cons x r =>
     have hx : x = d := by simpa using g2
     subst hx
     simp only [List.tail_cons] at h ⊢
     refine ⟨?_, h.1.2, h.2⟩
     unfold putV
     rw [strip_reg c x hc hd, trim_cons, has_cons, num_whole h.1.1]
     rfl
theorem put_reg {c : Nat} {d : UInt8} (hc : ¬ c = 105) (hd : d = if c < 97 then 102 else 114) {w : Bs} (h : (putV c (bs w)).2 = true) (hz : 0 ≤ (putV c (bs w)).1 ∧ (putV c (bs w)).1 ≤ 15) : regD d w = ((putV c (bs w)).1, true) := by
 unfold putV at h hz ⊢
 rw [strip_reg c d hc hd] at h hz ⊢
 simp only [Bool.and_eq_true] at h hz ⊢
 obtain ⟨h1, h2⟩ := h
 cases w with
 | nil => simp [Lib.hasPrefix] at h1
 | cons x r =>
   have hx : x = d := by have h1' : d = x := by simpa [Lib.hasPrefix] using h1
                         exact h1'.symm
   subst hx
   rw [trim_cons] at h2 hz ⊢
   have hn := whole_num h2 (by omega)
   have hne : r ≠ [] := by
     rintro rfl
     exact absurd h2 (by decide)
   unfold regD
   rw [if_neg (by simp only [List.length_cons, List.head?_cons, ne_eq, not_true_eq_false, or_false]; have := List.length_pos_iff.2 hne; omega)]
   simp only [List.tail_cons, hn]
   rw [decide_eq_true hz.1, decide_eq_true hz.2]
   rfl
theorem lab_num {w : Bs} (h : labelV (bs w) = true) : (numV w).2 = false := by
 cases hn : (numV w).2 with
 | false => rfl
 | true =>
   obtain ⟨h1, h2, h3⟩ := num_inv hn
   have hr : -9223372036854775808 ≤ (numV w).1 ∧ (numV w).1 ≤ 9223372036854775807 := by omega
   have e : bs w = itoaB (numV w).1 := bytes_inj (by rw [itoa_list hr, ← h1]; rfl)
   rw [e, itoa_label _ hr] at h
   cases h
end Go.Proofs.YtbaooebafijenaaGreatDoor
namespace Go.Proofs.YtbaooebafijenaaGreatDoor
open Go Go.Ev
set_option maxRecDepth 100000
set_option linter.unusedSimpArgs false
set_option linter.unusedVariables false
set_option maxHeartbeats 1000000
set_option linter.unusedSectionVars false
variable [Mx]
def fldC (c : Nat) : Nat := if c = 97 ∨ c = 65 then 1 else if c = 98 ∨ c = 66 then 2 else if c = 99 ∨ c = 67 then 3 else 4
theorem get_fld (i : Ins) (c : Nat) : i.get c = if fldC c = 1 then i.A else if fldC c = 2 then i.B else if fldC c = 3 then i.C else i.I := by
 unfold Ins.get fldC
 by_cases h1 : c = 97 ∨ c = 65
 · simp only [h1, if_true]
 · by_cases h2 : c = 98 ∨ c = 66
   · simp only [h1, h2, if_true, if_false]; rfl
   · by_cases h3 : c = 99 ∨ c = 67
     · simp only [h1, h2, h3, if_true, if_false]; rfl
     · simp only [h1, h2, h3, if_false]; rfl
theorem set_fld (i : Ins) (c : Nat) (z : Int) : i.set c z = if fldC c = 1 then { i with A := z } else if fldC c = 2 then { i with B := z } else if fldC c = 3 then { i with C := z } else { i with I := z } := by
 unfold Ins.set fldC
 by_cases h1 : c = 97 ∨ c = 65
 · simp only [h1, if_true]
 · by_cases h2 : c = 98 ∨ c = 66
   · simp only [h1, h2, if_true, if_false]; rfl
   · by_cases h3 : c = 99 ∨ c = 67
     · simp only [h1, h2, h3, if_true, if_false]; rfl
     · simp only [h1, h2, h3, if_false]; rfl
theorem fld_rng (c : Nat) : fldC c = 1 ∨ fldC c = 2 ∨ fldC c = 3 ∨ fldC c = 4 := by
 unfold fldC
 split
 · simp
 · split
   · simp
   · split <;> simp
theorem get_set_ne (i : Ins) (c c' : Nat) (z : Int) (h : fldC c ≠ fldC c') : (i.set c z).get c' = i.get c' := by
 rw [get_fld, get_fld, set_fld]
 rcases fld_rng c with h1 | h1 | h1 | h1 <;> rcases fld_rng c' with h2 | h2 | h2 | h2 <;> rw [h1, h2] at h <;> rw [h1, h2] <;> first | (exact absurd rfl h) | rfl
theorem get_set_eq (i : Ins) (c : Nat) (z : Int) : (i.set c z).get c = z := by
 rw [get_fld, set_fld]
 rcases fld_rng c with h1 | h1 | h1 | h1 <;> rw [h1] <;> rfl
structure StepR (f : Int) (bt : List ByteArray) (k : Nat) (c s : UInt8) : Prop where
 im : c.toNat = 105 → cD f k s = 105
 rg : ¬ c.toNat = 105 → ¬ cD f k s = 105 ∧ cD f k s = if c.toNat < 97 then 102 else 114
 st : ¬ c.toNat = 105 → ∀ (i : Ins) (z : Int), i.set c.toNat z = setD f k (cD f k s) i z
 mrk : 0 < k → bs (wantD f k) = bt.getD (k - 1) emp
def RelR (f : Int) (bt : List ByteArray) : List UInt8 → List UInt8 → Nat → Prop
 | [], [], _ => True
 | c :: r, s :: S, k => StepR f bt k c s ∧ RelR f bt r S (k + 1)
 | _, _, _ => False
theorem insGo_keep (f : Int) (bt L : List ByteArray) : ∀ (r : List UInt8) (k : Nat) (i i' : Ins) (tl tl' : ByteArray), insGo f bt L r k i tl = some (i', tl') → ∀ c, (∀ c' ∈ r, fldC c'.toNat ≠ fldC c) → i'.get c = i.get c
 | [], k, i, i', tl, tl', h, c, _ => by simp only [insGo] at h; cases h; rfl
 | x :: r, k, i, i', tl, tl', h, c, hc => by
   simp only [insGo] at h
   have hr : ∀ c' ∈ r, fldC c'.toNat ≠ fldC c := fun c' h' => hc c' (List.mem_cons_of_mem _ h')
   split at h
   · cases h
   · split at h
     · exact insGo_keep f bt L r _ _ _ _ _ h c hr
     · split at h
       · rw [insGo_keep f bt L r _ _ _ _ _ h c hr]
         exact get_set_ne _ _ _ _ (hc x List.mem_cons_self)
       · cases h
theorem get105 (i : Ins) : i.get 105 = i.I := rfl
theorem op_pd (f : Int) (bt L : List ByteArray) (T : List (Bs × Bool)) (n : Nat) (hn : n ≤ 3) (hlen : 2 * n - 1 ≤ T.length) (hL : ∀ j, j < 5 → L.getD j emp = bs (wd T j)) :
   ∀ (r S : List UInt8) (k : Nat) (i i' : Ins) (tl tl' : ByteArray), RelR f bt r S k → k + r.length = n → (r.map fun c => fldC c.toNat).Nodup → (∀ c ∈ r, c.toNat = 105 → i.I = 0) → insGo f bt L r k i tl = some (i', tl') →
     (∀ c ∈ r, ¬ c.toNat = 105 → 0 ≤ i'.get c.toNat ∧ i'.get c.toNat ≤ 15) → (-65536 ≤ i'.I ∧ i'.I ≤ 65535) → opGo f T S k i tl.data.toList = some (i', tl'.data.toList)
 | [], [], k, i, i', tl, tl', _, _, _, _, h, _, _ => by simp only [insGo] at h; cases h; rfl
 | [], s :: S, k, i, i', tl, tl', hR, _, _, _, _, _, _ => absurd hR id
 | c :: r, [], k, i, i', tl, tl', hR, _, _, _, _, _, _ => absurd hR id
 | c :: r, s :: S, k, i, i', tl, tl', hR, hk, hnd, hI, h, hb, hi => by
   obtain ⟨hs, hR⟩ := hR
   simp only [List.length_cons] at hk
   simp only [List.map_cons, List.nodup_cons, List.mem_map, not_exists, not_and] at hnd
   obtain ⟨hn1, hn2⟩ := hnd
   have hfr : ∀ c' ∈ r, fldC c'.toNat ≠ fldC c.toNat := fun c' h' e => hn1 c' h' e
   simp only [insGo] at h
   have hw : L.getD (2 * k) emp = bs (wd T (2 * k)) := hL _ (by omega)
   rw [hw] at h
   split at h
   · cases h
   · rename_i hA
     have g1 : ¬ (0 < k ∧ ¬ (2 * k - 1 < T.length ∧ wd T (2 * k - 1) = wantD f k)) := by
       rintro ⟨k0, hno⟩
       refine hno ⟨by omega, ?_⟩
       have h1 : L.getD (2 * k - 1) emp = bt.getD (k - 1) emp := by
         by_cases e : L.getD (2 * k - 1) emp = bt.getD (k - 1) emp
         · exact e
         · exact absurd ⟨k0, e⟩ hA
       rw [hL _ (by omega), ← hs.mrk k0] at h1
       exact bs_inj h1
     have g2 : ¬ ¬ 2 * k < T.length := by omega
     have hI' : ∀ (j : Ins), j.I = i.I → ∀ c' ∈ r, c'.toNat = 105 → j.I = 0 := fun j hj c' h' e => by rw [hj]; exact hI c' (List.mem_cons_of_mem _ h') e
     have hb' : ∀ c' ∈ r, ¬ c'.toNat = 105 → 0 ≤ i'.get c'.toNat ∧ i'.get c'.toNat ≤ 15 := fun c' h' => hb c' (List.mem_cons_of_mem _ h')
     unfold opGo
     rw [if_neg g1, if_neg g2]
     split at h
     · rename_i hB
       obtain ⟨⟨hc, hf⟩, hl⟩ := hB
       have hst : stpD f k (cD f k s) (wd T (2 * k)) i tl.data.toList = (true, { i with I := 0 }, wd T (2 * k)) := by
         unfold stpD
         rw [if_pos (hs.im hc), if_pos ⟨⟨lab_num hl, hf⟩, hl⟩]
       have hi0 : ({ i with I := 0 } : Ins) = i := by rw [← hI c List.mem_cons_self hc]
       rw [hst]
       simp only [if_true, hi0]
       have := op_pd f bt L T n hn hlen hL r S (k + 1) i i' (bs (wd T (2 * k))) tl' hR (by omega) hn2 (hI' i rfl) h hb' hi
       exact this
     · rename_i hB
       split at h
       · rename_i hp
         have hget : i'.get c.toNat = (putV c.toNat (bs (wd T (2 * k)))).1 := by
           rw [insGo_keep f bt L r _ _ _ _ _ h c.toNat hfr, get_set_eq]
         by_cases hc : c.toNat = 105
         · rw [hc] at h hp hget hB
           rw [put_imm] at h hp hget
           rw [get105] at hget
           have hnum := whole_num hp (by omega)
           have hst : stpD f k (cD f k s) (wd T (2 * k)) i tl.data.toList = (true, { i with I := (wholeV (bs (wd T (2 * k)))).1 }, tl.data.toList) := by
             unfold stpD
             rw [if_pos (hs.im hc), if_neg (by rw [hnum]; simp), hnum]
           rw [hst]
           simp only [if_true]
           refine op_pd f bt L T n hn hlen hL r S (k + 1) _ i' tl tl' hR (by omega) hn2 ?_ h hb' hi
           intro c' h' e
           exact absurd (by rw [e, hc]) (hfr c' h')
         · have hz := hb c List.mem_cons_self hc
           rw [hget] at hz
           have hreg := put_reg (d := cD f k s) hc (hs.rg hc).2 hp hz
           have hst : stpD f k (cD f k s) (wd T (2 * k)) i tl.data.toList = (true, i.set c.toNat (putV c.toNat (bs (wd T (2 * k)))).1, tl.data.toList) := by
             unfold stpD
             rw [if_neg (hs.rg hc).1, hreg, hs.st hc]
           rw [hst]
           simp only [if_true]
           refine op_pd f bt L T n hn hlen hL r S (k + 1) _ i' tl tl' hR (by omega) hn2 ?_ h hb' hi
           intro c' h' e
           have h4 : fldC c'.toNat ≠ fldC c.toNat := hfr c' h'
           have : (i.set c.toNat (putV c.toNat (bs (wd T (2 * k)))).1).get 105 = i.get 105 := get_set_ne _ _ _ _ (by rw [e] at h4; exact h4.symm)
           rw [get105, get105] at this
           rw [this]
           exact hI c' (List.mem_cons_of_mem _ h') e
       · cases h
theorem op_dp (f : Int) (bt L : List ByteArray) (T : List (Bs × Bool)) (n : Nat) (hn : n ≤ 3) (hL : ∀ j, j < 5 → L.getD j emp = bs (wd T j)) :
   ∀ (r S : List UInt8) (k : Nat) (i i' : Ins) (tl tl' : Bs), RelR f bt r S k → k + r.length = n → (r.map fun c => fldC c.toNat).Nodup → (∀ c ∈ r, c.toNat = 105 → i.I = 0) → opGo f T S k i tl = some (i', tl') →
     insGo f bt L r k i (bs tl) = some (i', bs tl')
 | [], [], k, i, i', tl, tl', _, _, _, _, h => by simp only [opGo] at h; cases h; rfl
 | [], s :: S, k, i, i', tl, tl', hR, _, _, _, _ => absurd hR id
 | c :: r, [], k, i, i', tl, tl', hR, _, _, _, _ => absurd hR id
 | c :: r, s :: S, k, i, i', tl, tl', hR, hk, hnd, hI, h => by
   obtain ⟨hs, hR⟩ := hR
   simp only [List.length_cons] at hk
   simp only [List.map_cons, List.nodup_cons, List.mem_map, not_exists, not_and] at hnd
   obtain ⟨hn1, hn2⟩ := hnd
   have hfr : ∀ c' ∈ r, fldC c'.toNat ≠ fldC c.toNat := fun c' h' e => hn1 c' h' e
   simp only [opGo] at h
   have hw : L.getD (2 * k) emp = bs (wd T (2 * k)) := hL _ (by omega)
   split at h
   · cases h
   · rename_i hA
     have hA' : 0 < k → 2 * k - 1 < T.length ∧ wd T (2 * k - 1) = wantD f k := fun k0 => by
       by_cases e : 2 * k - 1 < T.length ∧ wd T (2 * k - 1) = wantD f k
       · exact e
       · exact absurd ⟨k0, e⟩ hA
     have g1 : ¬ (0 < k ∧ ¬ L.getD (2 * k - 1) emp = bt.getD (k - 1) emp) := by
       rintro ⟨k0, hno⟩
       exact hno (by rw [hL _ (by omega), (hA' k0).2, hs.mrk k0])
     split at h
     · cases h
     · unfold insGo
       rw [if_neg g1, hw]
       split at h
       · rename_i hst
         by_cases hc : c.toNat = 105
         · unfold stpD at h hst
           rw [if_pos (hs.im hc)] at h hst
           by_cases hl : ((numV (wd T (2 * k))).2 = false ∧ (f = 7 ∨ f = 8)) ∧ labelV (bs (wd T (2 * k))) = true
           · rw [if_pos hl] at h
             rw [if_pos ⟨⟨hc, hl.1.2⟩, hl.2⟩]
             have hi0 : ({ i with I := 0 } : Ins) = i := by rw [← hI c List.mem_cons_self hc]
             simp only [hi0] at h
             exact op_dp f bt L T n hn hL r S (k + 1) i i' _ tl' hR (by omega) hn2 (fun c' h' e => hI c' (List.mem_cons_of_mem _ h') e) h
           · rw [if_neg hl] at h hst
             simp only at h hst
             have hno : ¬ ((c.toNat = 105 ∧ (f = 7 ∨ f = 8)) ∧ labelV (bs (wd T (2 * k))) = true) := by
               rintro ⟨⟨_, h7⟩, hlb⟩
               have := lab_num hlb
               rw [hst] at this
               cases this
             rw [if_neg hno, hc, put_imm, num_whole hst]
             simp only [if_true]
             refine op_dp f bt L T n hn hL r S (k + 1) _ i' tl tl' hR (by omega) hn2 ?_ h
             intro c' h' e
             exact absurd (by rw [e, hc]) (hfr c' h')
         · unfold stpD at h hst
           rw [if_neg (hs.rg hc).1] at h hst
           simp only at h hst
           obtain ⟨hp, hz⟩ := reg_put (c := c.toNat) hc (hs.rg hc).2 hst
           rw [if_neg (by rintro ⟨⟨e, _⟩, _⟩; exact hc e), hp]
           simp only [if_true]
           rw [← hs.st hc] at h
           refine op_dp f bt L T n hn hL r S (k + 1) _ i' tl tl' hR (by omega) hn2 ?_ h
           intro c' h' e
           have h4 : fldC c'.toNat ≠ fldC c.toNat := hfr c' h'
           have : (i.set c.toNat (regD (cD f k s) (wd T (2 * k))).1).get 105 = i.get 105 := get_set_ne _ _ _ _ (by rw [e] at h4; exact h4.symm)
           rw [get105, get105] at this
           rw [this]
           exact hI c' (List.mem_cons_of_mem _ h') e
       · cases h
theorem rel_form (f : Int) (hf : 1 ≤ f ∧ f < 16) : RelR f (betw f) (shpB f).data.toList (rOps f).data.toList 0 ∧ ((shpB f).data.toList.map fun c => fldC c.toNat).Nodup ∧ (shpB f).data.toList.length = (rOps f).data.toList.length ∧ (shpB f).data.toList.length ≤ 3 ∧ ((f = 5 ∨ f = 6) → (shpB f).data.toList.length = 3) := by
 have : f = 1 ∨ f = 2 ∨ f = 3 ∨ f = 4 ∨ f = 5 ∨ f = 6 ∨ f = 7 ∨ f = 8 ∨ f = 9 ∨ f = 10 ∨ f = 11 ∨ f = 12 ∨ f = 13 ∨ f = 14 ∨ f = 15 := by omega
 rcases this with rfl | rfl | rfl | rfl | rfl | rfl | rfl | rfl | rfl | rfl | rfl | rfl | rfl | rfl | rfl
 all_goals refine ⟨?_, by decide, by decide, by decide, by decide⟩
 · exact trivial
 all_goals first
   | exact ⟨⟨by decide, by decide, fun _ _ _ => rfl, fun h => absurd h (by decide)⟩, ⟨by decide, by decide, fun _ _ _ => rfl, fun _ => rfl⟩, ⟨by decide, by decide, fun _ _ _ => rfl, fun _ => rfl⟩, trivial⟩
   | exact ⟨⟨by decide, by decide, fun _ _ _ => rfl, fun h => absurd h (by decide)⟩, ⟨by decide, by decide, fun _ _ _ => rfl, fun _ => rfl⟩, ⟨by decide, by decide, fun h => absurd h (by decide), fun _ => rfl⟩, trivial⟩
   | exact ⟨⟨by decide, by decide, fun _ _ _ => rfl, fun h => absurd h (by decide)⟩, ⟨by decide, by decide, fun h => absurd h (by decide), fun _ => rfl⟩, ⟨by decide, by decide, fun _ _ _ => rfl, fun _ => rfl⟩, trivial⟩
   | exact ⟨⟨by decide, by decide, fun _ _ _ => rfl, fun h => absurd h (by decide)⟩, ⟨by decide, by decide, fun _ _ _ => rfl, fun _ => rfl⟩, trivial⟩
   | exact ⟨⟨by decide, by decide, fun _ _ _ => rfl, fun h => absurd h (by decide)⟩, ⟨by decide, by decide, fun h => absurd h (by decide), fun _ => rfl⟩, trivial⟩
end Go.Proofs.YtbaooebafijenaaGreatDoor
