/- Rows that grow, texts as rows of letters. -/
import Derived.Test.YtbaooebafijenaaGreatDoorHPar
import Derived.Lib.Join
import Derived.Test.YtbaooebafijenaaGreatDoorHTok
namespace Go.Proofs.YtbaooebafijenaaGreatDoor
open Go Go.Ev
set_option linter.unusedVariables false
set_option linter.unusedSectionVars false
variable [Mx]
abbrev Bs := List UInt8
def bs (l : Bs) : ByteArray := ⟨l.toArray⟩
theorem bs_list (l : Bs) : (bs l).data.toList = l := rfl
theorem list_bs (s : ByteArray) : bs s.data.toList = s := bytes_inj rfl
theorem bs_inj {a b : Bs} (h : bs a = bs b) : a = b := by have := congrArg (fun s : ByteArray => s.data.toList) h; exact this
theorem bs_emp {l : Bs} (h : l ≠ []) : ¬ bs l = emp := fun e => h (bs_inj (b := []) e)
theorem extract_list (s : ByteArray) (i j : Nat) : (s.extract i j).data.toList = (s.data.toList.drop i).take (j - i) := by
 simp [ByteArray.data_extract, Array.toList_extract, List.extract_eq_take_drop]
def flL (cur : Bs) : List Bs := if cur = [] then [] else [cur]
def tk2 : Bs → Bs → List Bs
 | [], cur => flL cur
 | c :: r, cur => if blB c = true then flL cur ++ tk2 r [] else if mkB c = true then flL cur ++ [c] :: tk2 r [] else tk2 r (cur ++ [c])
def AtR (s : ByteArray) (i : Nat) (a : Int) (cur : Bs) : Prop := (a = -1 ∧ cur = []) ∨ (0 ≤ a ∧ a < i ∧ cur = (s.data.toList.drop a.toNat).take (i - a.toNat))
theorem flush_cur {s : ByteArray} {i : Nat} {a : Int} {cur : Bs} (h : AtR s i a cur) (hi : i ≤ s.size) (l : List ByteArray) : flushT s i l a = l ++ (flL cur).map bs := by
 unfold flushT flL
 rcases h with ⟨rfl, rfl⟩ | ⟨h1, h2, rfl⟩
 · rw [if_neg (by decide), if_pos rfl]
   simp
 · have hne : ¬ (s.data.toList.drop a.toNat).take (i - a.toNat) = [] := by
     intro e
     have := congrArg List.length e
     rw [Lib.size_eq] at hi
     simp only [List.length_take, List.length_drop, List.length_nil] at this
     omega
   rw [if_pos h1, if_neg hne]
   simp only [List.map_cons, List.map_nil]
   congr 2
   exact bytes_inj (extract_list s _ _)
theorem tkGo_eq (s : ByteArray) : ∀ (r : Bs) (i : Nat) (l : List ByteArray) (a : Int) (cur : Bs), r = s.data.toList.drop i → i ≤ s.size → AtR s i a cur →
   flushT s s.size (tkGo s r i l a).1 (tkGo s r i l a).2 = l ++ (tk2 r cur).map bs
 | [], i, l, a, cur, hr, hi, ha => by
   have hs : i = s.size := by
     have := congrArg List.length hr
     rw [Lib.size_eq] at hi ⊢
     simp only [List.length_nil, List.length_drop] at this
     omega
   subst hs
   simp only [tkGo, tk2]
   exact flush_cur ha hi l
 | c :: r, i, l, a, cur, hr, hi, ha => by
   have hlt : i < s.size := by
     have := congrArg List.length hr
     rw [Lib.size_eq]
     simp only [List.length_cons, List.length_drop] at this
     omega
   have hr' : r = s.data.toList.drop (i + 1) := by
     have := congrArg List.tail hr
     simpa [List.tail_drop] using this
   have hc : s.data.toList[i]? = some c := by
     have := congrArg List.head? hr
     simpa [List.head?_drop] using this.symm
   have IH := fun l a cur h => tkGo_eq s r (i + 1) l a cur hr' (by omega) h
   simp only [tkGo, tk2]
   have hflush := flush_cur ha hi l
   by_cases hb : blB c = true
   · rw [if_pos hb, if_pos hb, IH _ _ [] (.inl ⟨rfl, rfl⟩), hflush]
     simp
   · rw [if_neg hb, if_neg hb]
     by_cases hk : mkB c = true
     · rw [if_pos hk, if_pos hk, IH _ _ [] (.inl ⟨rfl, rfl⟩), hflush]
       have e : s.extract i (i + 1) = bs [c] := by
         refine bytes_inj ?_
         rw [extract_list, bs_list, ← hr]
         have : i + 1 - i = 1 := by omega
         rw [this]
         rfl
       rw [e]
       simp
     · rw [if_neg hk, if_neg hk]
       rcases ha with ⟨rfl, rfl⟩ | ⟨h1, h2, rfl⟩
       · rw [if_pos (by decide)]
         refine IH _ _ _ (.inr ⟨by omega, by omega, ?_⟩)
         rw [show ((i : Int)).toNat = i by omega, ← hr]
         have : i + 1 - i = 1 := by omega
         rw [this]
         rfl
       · rw [if_neg (by omega)]
         refine IH _ _ _ (.inr ⟨h1, by omega, ?_⟩)
         have e1 : i + 1 - a.toNat = (i - a.toNat) + 1 := by omega
         rw [e1, List.take_add_one, List.getElem?_drop]
         have e2 : a.toNat + (i - a.toNat) = i := by omega
         rw [e2, hc]
         rfl
theorem tokens_tk2 (s : ByteArray) : tokensV s = (tk2 s.data.toList []).map bs := by
 unfold tokensV
 rw [tkGo_eq s s.data.toList 0 [] (-1) [] rfl (Nat.zero_le _) (.inl ⟨rfl, rfl⟩)]
 simp
def plain (l : Bs) : Prop := ∀ c ∈ l, blB c = false ∧ mkB c = false
theorem parse_app : ∀ (l : Bs) (acc : Nat) (d : UInt8), Lib.parseUint10 acc (l ++ [d]) = (match Lib.parseUint10 acc l with | .ok v => Lib.parseUint10 v [d] | e => e)
 | [], acc, d => by simp only [List.nil_append, Lib.parseUint10]
 | c :: l, acc, d => by
   rw [List.cons_append]
   simp only [Lib.parseUint10]
   split
   · split
     · rfl
     · split
       · rfl
       · have := parse_app l (acc * 10 + (c.toNat - 48)) d
         simp only [Lib.parseUint10] at this
         exact this
   · rfl
theorem dig_nat (u : Nat) (h : u < 10) : (UInt8.ofNat (48 + u)).toNat = 48 + u := by
 rw [UInt8.toNat_ofNat']
 omega
theorem parse_digits : ∀ (n u : Nat), u < n → u < 18446744073709551616 → Lib.parseUint10 0 (Lib.decDigits u) = .ok u
 | 0, u, h, _ => absurd h (by omega)
 | n + 1, u, h, hu => by
   rw [Lib.decDigits]
   by_cases h1 : u < 10
   · rw [dif_pos h1]
     simp only [Lib.parseUint10, dig_nat u h1]
     rw [if_pos (by omega), if_neg (by omega), if_neg (by omega)]
     congr 1
     omega
   · rw [dif_neg h1, parse_app, parse_digits n (u / 10) (by omega) (by omega)]
     simp only [Lib.parseUint10, dig_nat (u % 10) (by omega)]
     rw [if_pos (by omega), if_neg (by omega), if_neg (by omega)]
     congr 1
     omega
def isDig (c : UInt8) : Prop := 48 ≤ c.toNat ∧ c.toNat ≤ 57
theorem digits_dig : ∀ (n u : Nat), u < n → (∀ c ∈ Lib.decDigits u, isDig c) ∧ Lib.decDigits u ≠ []
 | 0, u, h => absurd h (by omega)
 | n + 1, u, h => by
   rw [Lib.decDigits]
   by_cases h1 : u < 10
   · rw [dif_pos h1]
     refine ⟨fun c hc => ?_, by simp⟩
     simp only [List.mem_cons, List.not_mem_nil, or_false] at hc
     subst hc
     unfold isDig
     rw [dig_nat u h1]
     omega
   · rw [dif_neg h1]
     refine ⟨fun c hc => ?_, by simp⟩
     rw [List.mem_append] at hc
     rcases hc with hc | hc
     · exact (digits_dig n (u / 10) (by omega)).1 c hc
     · simp only [List.mem_cons, List.not_mem_nil, or_false] at hc
       subst hc
       unfold isDig
       rw [dig_nat (u % 10) (by omega)]
       omega
theorem itoa_list {z : Int} (h : -9223372036854775808 ≤ z ∧ z ≤ 9223372036854775807) : (itoaB z).data.toList = Lib.itoa z := itoaF_eq z h
theorem atoi_itoa (z : Int) (h : -9223372036854775808 ≤ z ∧ z ≤ 9223372036854775807) : Lib.atoiAll (Lib.itoa z) = .ok z := by
 unfold Lib.itoa
 by_cases hz : z < 0
 · rw [if_pos hz, Lib.atoiAll_minus]
   unfold Lib.parseMag
   rw [if_neg (digits_dig _ _ (Nat.lt_succ_self _)).2, parse_digits _ _ (Nat.lt_succ_self _) (by omega)]
   simp only [Lib.signed]
   rw [if_neg (by omega)]
   congr 1
   omega
 · rw [if_neg hz]
   obtain ⟨h1, h2⟩ := digits_dig _ z.toNat (Nat.lt_succ_self _)
   have h3 := parse_digits _ z.toNat (Nat.lt_succ_self _) (by omega)
   generalize Lib.decDigits z.toNat = l at h1 h2 h3
   cases l with
   | nil => exact absurd rfl h2
   | cons c r =>
     have hc := h1 c List.mem_cons_self
     unfold isDig at hc
     rw [Lib.atoiAll_plain c r (by omega) (by omega)]
     unfold Lib.parseMag
     rw [if_neg (by simp), h3]
     simp only [Lib.signless]
     rw [if_neg (by omega)]
     congr 1
     omega
theorem whole_itoa (z : Int) (h : -9223372036854775808 ≤ z ∧ z ≤ 9223372036854775807) : wholeV (itoaB z) = (z, true) := by
 unfold wholeV
 rw [itoa_list h, atoi_itoa z h]
 simp
theorem itoa_label (z : Int) (h : -9223372036854775808 ≤ z ∧ z ≤ 9223372036854775807) : labelV (itoaB z) = false := by
 unfold labelV
 rw [itoa_list h]
 have : labL 0 (Lib.itoa z) = false := by
   have hd : ∀ c r, isDig c → labL 0 (c :: r) = false := fun c r hc => by
     unfold isDig at hc
     simp only [labL, labC, letB]
     rw [decide_eq_false (by omega), decide_eq_false (by omega), decide_eq_false (by omega)]
     rfl
   unfold Lib.itoa
   split
   · rfl
   · obtain ⟨h1, h2⟩ := digits_dig _ z.toNat (Nat.lt_succ_self _)
     generalize Lib.decDigits z.toNat = l at h1 h2
     cases l with
     | nil => exact absurd rfl h2
     | cons c r => exact hd c r (h1 c List.mem_cons_self)
 rw [this]
 rfl
end Go.Proofs.YtbaooebafijenaaGreatDoor
namespace Go.Proofs.YtbaooebafijenaaGreatDoor
open Go Go.Ev
set_option maxRecDepth 100000
set_option linter.unusedSimpArgs false
set_option linter.unusedVariables false
set_option maxHeartbeats 2000000
set_option linter.unusedSectionVars false
variable [Mx]
def RowS (H : Hp) (lb : Option Nat) (lo : Nat) (cs : List Value) : Prop := match lb with | none => cs = [] | some b => H.get b = some (.rw cs) ∧ lo ≤ b ∧ b < H.next ∧ cs ≠ []
theorem rwc_get {H : Hp} {b : Nat} {cs : List Value} (h : H.get b = some (.rw cs)) : H.rwc b = some cs := by unfold Hp.rwc; rw [h]
theorem cells_get {H : Hp} {b : Nat} {cs : List Value} (h : H.get b = some (.rw cs)) : H.cells b = some cs := cells_rwc (rwc_get h)
theorem app_row {sz by_ : Nat} {H : Hp} {n : Nat} {cs : List Value} {lb : Option Nat} {lo : Nat} (hr : n * sz = cs.length) (hR : RowS H lb lo cs) (hlo : H.lim ≤ lo) (hlo2 : lo ≤ H.next) (hgn : Tabs.gn ≤ H.lim) {m : Nat} {xs : List Value} (hm : m = 0 ↔ xs = []) (hsz : 0 < sz) (hroom : roomy (n + m) by_ = true) (hxs : xs.all okC = true) :
   ∃ H2 lb2, appd sz by_ (svOf lb n sz) m xs H = some (svOf lb2 (n + m) sz, H2) ∧ RowS H2 lb2 lo (cs ++ xs) ∧ H.next ≤ H2.next ∧ H2.lim = H.lim ∧ (∀ c, c < H.next → lb ≠ some c → H2.get c = H.get c) ∧ ∀ c, lb2 = some c → H.next ≤ c := by
 cases lb with
 | none =>
   have hcs : cs = [] := hR
   subst hcs
   have hn : n = 0 := by
     rcases Nat.mul_eq_zero.1 (show n * sz = 0 from hr) with h | h
     · exact h
     · omega
   subst hn
   by_cases h0 : m = 0
   · have := hm.1 h0
     subst this
     subst h0
     exact ⟨H, none, rfl, rfl, Nat.le_refl _, rfl, fun _ _ _ => rfl, fun c hc => by cases hc⟩
   · rw [Nat.zero_add] at hroom
     refine ⟨H.new (.rw xs), some H.next, ?_, ⟨by rw [Hp.get_new, if_pos rfl]; rfl, hlo2, by simp, fun h => h0 (hm.2 (by simpa using h))⟩, by simp, rfl, fun c hc _ => by rw [Hp.get_new, if_neg (by omega)], fun c hc => by cases hc; omega⟩
     simp only [appd, svOf]
     rw [if_neg h0, if_pos ⟨hroom, hxs⟩, Nat.zero_add]
 | some l =>
   obtain ⟨h1, h2, h3, h4⟩ := hR
   refine ⟨(H.del l).new (.rw (cs ++ xs)), some H.next, ?_, ⟨by rw [Hp.get_new]; exact if_pos rfl, hlo2, by show H.next < H.next + 1; omega, by simp [h4]⟩, by show H.next ≤ H.next + 1; omega, rfl, fun c hc hl => ?_, fun c hc => by cases hc; omega⟩
   · simp only [appd, svOf]
     rw [if_pos ⟨trivial, by omega, hroom, hxs⟩, h1]
     simp only
     rw [if_pos (by omega), List.drop_zero]
   · rw [Hp.get_new, if_neg (by show ¬ c = H.next; omega), Hp.get_del H (by omega), if_neg (fun e => hl (by rw [e]))]
theorem row_new {H : Hp} {lb : Option Nat} {lo : Nat} {cs : List Value} (h : RowS H lb lo cs) (x : Blk) : RowS (H.new x) lb lo cs := by
 cases lb with
 | none => exact h
 | some l => exact ⟨by rw [Hp.get_new, if_neg (by have := h.2.2.1; omega)]; exact h.1, h.2.1, by have := h.2.2.1; show l < H.next + 1; omega, h.2.2.2⟩
theorem bs_emp_iff (l : Bs) : bs l = emp ↔ l = [] := ⟨fun h => bs_inj (b := []) h, fun h => by rw [h]; rfl⟩
end Go.Proofs.YtbaooebafijenaaGreatDoor
