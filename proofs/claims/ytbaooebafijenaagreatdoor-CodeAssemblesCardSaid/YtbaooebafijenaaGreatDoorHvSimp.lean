/- The evaluator's operations as rewriting rules. -/
import Derived.Test.YtbaooebafijenaaGreatDoorHvUse
namespace Go.Ev
open Go
set_option linter.unusedSectionVars false
set_option linter.unusedSimpArgs false
variable {α β γ : Type}
theorem bind_front {x x' : Option α} {f : α → Option β} (h : x = x') : x.bind f = x'.bind f := by rw [h]
theorem callK_front {r r' : R} {pn : List PanicEntry → Hp → Option α} {k : Value → Hp → Option α} (h : r = r') : callK r pn k = callK r' pn k := by rw [h]
theorem jn_front {r r' : Option JR} {pn : List PanicEntry → Hp → Option α} {kx : Nat → Fr → Hp → Option α} {kr : Fr → Hp → Option α} {g : List Value → Hp → Option α} (h : r = r') : jn r pn kx kr g = jn r' pn kx kr g := by rw [h]
theorem ifB_front {c c' : Value} {x y : Option α} (h : c = c') : ifB c x y = ifB c' x y := by rw [h]
theorem ifG_front {c c' : Value} {b : Bool} {x y : Option α} (h : c = c') : ifG c b x y = ifG c' b x y := by rw [h]
theorem lp_front {B : List Value → Hp → (List Value → Hp → Option α) → (Nat → Fr → Hp → Option α) → (Fr → Hp → Option α) → Option α} {n n' : Nat} {vs vs' : List Value} {H H' : Hp} {kx : Nat → Fr → Hp → Option α} {kr : Fr → Hp → Option α}
   (h1 : n = n') (h2 : vs = vs') (h3 : H = H') : lp B n vs H kx kr = lp B n' vs' H' kx kr := by rw [h1, h2, h3]
section ops
theorem bin_add (q : Nat) (k : IntKind) (a b : Int) : bin q .add (.int k a) (.int k b) = some (.int k (k.wrap (a + b))) := by simp [bin, binI]
theorem bin_sub (q : Nat) (k : IntKind) (a b : Int) : bin q .sub (.int k a) (.int k b) = some (.int k (k.wrap (a - b))) := by simp [bin, binI]
theorem bin_mul (q : Nat) (k : IntKind) (a b : Int) : bin q .mul (.int k a) (.int k b) = some (.int k (k.wrap (a * b))) := by simp [bin, binI]
theorem bin_quo (q : Nat) (k : IntKind) (a b : Int) : bin q .quo (.int k a) (.int k b) = if b = 0 then none else some (.int k (k.wrap (a.tdiv b))) := by
 by_cases h : b = 0 <;> simp [bin, binI, h]
theorem bin_rem (q : Nat) (k : IntKind) (a b : Int) : bin q .rem (.int k a) (.int k b) = if b = 0 then none else some (.int k (a.tmod b)) := by
 by_cases h : b = 0 <;> simp [bin, binI, h]
theorem bin_and (q : Nat) (k : IntKind) (a b : Int) : bin q .and (.int k a) (.int k b) = some (.int k (k.wrap (BitVec.ofInt k.bits a &&& BitVec.ofInt k.bits b).toNat)) := by simp [bin, binI, bits]
theorem bin_or (q : Nat) (k : IntKind) (a b : Int) : bin q .or (.int k a) (.int k b) = some (.int k (k.wrap (BitVec.ofInt k.bits a ||| BitVec.ofInt k.bits b).toNat)) := by simp [bin, binI, bits]
theorem bin_xor (q : Nat) (k : IntKind) (a b : Int) : bin q .xor (.int k a) (.int k b) = some (.int k (k.wrap (BitVec.ofInt k.bits a ^^^ BitVec.ofInt k.bits b).toNat)) := by simp [bin, binI, bits]
theorem bin_andNot (q : Nat) (k : IntKind) (a b : Int) : bin q .andNot (.int k a) (.int k b) = some (.int k (k.wrap (BitVec.ofInt k.bits a &&& ~~~BitVec.ofInt k.bits b).toNat)) := by simp [bin, binI, bits]
theorem bin_eql (q : Nat) (k : IntKind) (a b : Int) : bin q .eql (.int k a) (.int k b) = some (.bool (decide (a = b))) := by simp [bin, binI, BEq.beq]
theorem bin_neq (q : Nat) (k : IntKind) (a b : Int) : bin q .neq (.int k a) (.int k b) = some (.bool (decide (¬ a = b))) := by
 by_cases h : a = b <;> simp [bin, binI, h, bne, BEq.beq]
theorem bin_lss (q : Nat) (k : IntKind) (a b : Int) : bin q .lss (.int k a) (.int k b) = some (.bool (decide (a < b))) := by simp [bin, binI]
theorem bin_leq (q : Nat) (k : IntKind) (a b : Int) : bin q .leq (.int k a) (.int k b) = some (.bool (decide (a ≤ b))) := by simp [bin, binI]
theorem bin_gtr (q : Nat) (k : IntKind) (a b : Int) : bin q .gtr (.int k a) (.int k b) = some (.bool (decide (b < a))) := by simp [bin, binI]
theorem bin_geq (q : Nat) (k : IntKind) (a b : Int) : bin q .geq (.int k a) (.int k b) = some (.bool (decide (b ≤ a))) := by simp [bin, binI]
theorem bin_shl (q : Nat) (k k' : IntKind) (a b : Int) : bin q .shl (.int k a) (.int k' b) = if b < 0 then none else some (.int k (k.wrap (a * 2 ^ (min b.toNat k.bits)))) := by
 by_cases h : b < 0 <;> simp [bin, shift, h]
theorem bin_shr (q : Nat) (k k' : IntKind) (a b : Int) : bin q .shr (.int k a) (.int k' b) = if b < 0 then none else some (.int k (a.fdiv (2 ^ (min b.toNat k.bits)))) := by
 by_cases h : b < 0 <;> simp [bin, shift, h]
theorem bin_beq (a b : Bool) : bin 1 .eql (.bool a) (.bool b) = some (.bool (a == b)) := by simp [bin]
theorem bin_bne (a b : Bool) : bin 1 .neq (.bool a) (.bool b) = some (.bool (!(a == b))) := by simp [bin]
theorem bin_seq (q : Nat) (a b : ByteArray) : bin q .eql (.string a) (.string b) = some (.bool (a.toList == b.toList)) := by simp [bin, binS]
theorem bin_sne (q : Nat) (a b : ByteArray) : bin q .neq (.string a) (.string b) = some (.bool (!(a.toList == b.toList))) := by simp [bin, binS]
theorem un_not (b : Bool) : un .not (.bool b) = some (.bool (!b)) := by simp [un]
theorem un_neg (k : IntKind) (a : Int) : un .neg (.int k a) = some (.int k (k.wrap (0 - a))) := by simp [un]
theorem cvI_int (k k' : IntKind) (a : Int) : cvI k (.int k' a) = some (.int k (k.wrap a)) := rfl
theorem ptr_def (b o : Nat) : Value.pointer (some ⟨b, o, none⟩) = ptr b o := rfl
theorem fa_ptr (off b o : Nat) : fa off (ptr b o) = some (ptr b (o + off)) := rfl
theorem nilc_ptr (b o : Nat) : nilc (ptr b o) = some (ptr b o) := rfl
theorem ia_ptr (len sz b o : Nat) (k : IntKind) (i : Int) : ia len sz (ptr b o) (.int k i) = if 0 ≤ i ∧ i < len then some (ptr b (o + i.toNat * sz)) else none := rfl
theorem sa_ptr (sz b o len cap : Nat) (k : IntKind) (i : Int) : sa sz (.slice (some ⟨b, o, none⟩) len cap) (.int k i) = if 0 ≤ i ∧ i < len then some (ptr b (o + i.toNat * sz)) else none := rfl
theorem fld_agg (n off : Nat) (cs : Array Value) : fld true n off (.agg cs) = if off + n ≤ cs.size then some (.agg (cs.extract off (off + n))) else none := rfl
theorem fld_one (n off : Nat) (cs : Array Value) : fld false n off (.agg cs) = cs[off]? := rfl
theorem ix_one (len sz : Nat) (cs : Array Value) (k : IntKind) (i : Int) : ix false len sz (.agg cs) (.int k i) = if 0 ≤ i ∧ i < len then cs[i.toNat * sz]? else none := rfl
theorem ix_agg (len sz : Nat) (cs : Array Value) (k : IntKind) (i : Int) : ix true len sz (.agg cs) (.int k i) = if 0 ≤ i ∧ i < len then (if i.toNat * sz + sz ≤ cs.size then some (.agg (cs.extract (i.toNat * sz) (i.toNat * sz + sz))) else none) else none := rfl
theorem sx_str (s : ByteArray) (k : IntKind) (i : Int) : sx (.string s) (.int k i) = if 0 ≤ i then (s[i.toNat]?).map fun b => .int .u8 b.toNat else none := rfl
theorem ext1_tuple (vs : Array Value) (i : Nat) : ext1 (.tuple vs) i = vs[i]? := rfl
theorem pick_t (a b : Value) : pick (.bool true) a b = some a := rfl
theorem pick_f (a b : Value) : pick (.bool false) a b = some b := rfl
theorem pick_dec (p : Prop) [Decidable p] (a b : Value) : pick (.bool (decide p)) a b = if p then some a else some b := by by_cases h : p <;> simp [pick, h]
theorem bx_int (k : IntKind) (a : Int) : bx (.int k a) = some [.int k a] := rfl
theorem bx_bool (a : Bool) : bx (.bool a) = some [.bool a] := rfl
theorem bx_str (a : ByteArray) : bx (.string a) = some [.string a] := rfl
theorem bx_agg (cs : Array Value) : bx (.agg cs) = some cs.toList := rfl
theorem ifB_dec (p : Prop) [Decidable p] (x y : Option β) : ifB (.bool (decide p)) x y = if p then x else y := by by_cases h : p <;> simp [ifB, h]
theorem ifB_t (x y : Option β) : ifB (.bool true) x y = x := rfl
theorem ifB_f (x y : Option β) : ifB (.bool false) x y = y := rfl
theorem ifG_tt (x y : Option α) : ifG (.bool true) true x y = x := rfl
theorem ifG_ff (x y : Option α) : ifG (.bool false) false x y = x := rfl
theorem ifG_tf (x y : Option α) : ifG (.bool true) false x y = y := rfl
theorem ifG_ft (x y : Option α) : ifG (.bool false) true x y = y := rfl
theorem ifG_undef (b : Bool) (x y : Option α) : ifG undef b x y = y := rfl
theorem ifG_dt (p : Prop) [Decidable p] (x y : Option α) : ifG (.bool (decide p)) true x y = if p then x else y := by by_cases h : p <;> simp [ifG, h]
theorem ifG_df (p : Prop) [Decidable p] (x y : Option α) : ifG (.bool (decide p)) false x y = if p then y else x := by by_cases h : p <;> simp [ifG, h]
theorem not_dec (p : Prop) [Decidable p] : (!decide p) = decide (¬ p) := by by_cases h : p <;> simp [h]
theorem jn_nrm (vs : List Value) (H : Hp) (pn : List PanicEntry → Hp → Option α) (kx : Nat → Fr → Hp → Option α) (kr : Fr → Hp → Option α) (g : List Value → Hp → Option α) : jn (some (.nrm vs H)) pn kx kr g = g vs H := rfl
theorem jn_ex (j : Nat) (fr : Fr) (H : Hp) (pn : List PanicEntry → Hp → Option α) (kx : Nat → Fr → Hp → Option α) (kr : Fr → Hp → Option α) (g : List Value → Hp → Option α) : jn (some (.ex j fr H)) pn kx kr g = kx j fr H := rfl
theorem jn_rt (fr : Fr) (H : Hp) (pn : List PanicEntry → Hp → Option α) (kx : Nat → Fr → Hp → Option α) (kr : Fr → Hp → Option α) (g : List Value → Hp → Option α) : jn (some (.rt fr H)) pn kx kr g = kr fr H := rfl
theorem jn_ite (p : Prop) [Decidable p] (a b : Option JR) (pn : List PanicEntry → Hp → Option α) (kx : Nat → Fr → Hp → Option α) (kr : Fr → Hp → Option α) (g : List Value → Hp → Option α) :
   jn (if p then a else b) pn kx kr g = if p then jn a pn kx kr g else jn b pn kx kr g := by by_cases h : p <;> simp [h]
theorem lp_succ (B : List Value → Hp → (List Value → Hp → Option α) → (Nat → Fr → Hp → Option α) → (Fr → Hp → Option α) → Option α) (n : Nat) (vs : List Value) (H : Hp) (kx : Nat → Fr → Hp → Option α) (kr : Fr → Hp → Option α) :
   lp B (n + 1) vs H kx kr = B vs H (fun vs H => lp B n vs H kx kr) kx kr := rfl
theorem callK_ret (v : Value) (H : Hp) (pn : List PanicEntry → Hp → Option α) (k : Value → Hp → Option α) : callK (some (.ret v, H)) pn k = k v H := rfl
theorem callK_ite (p : Prop) [Decidable p] (a b : R) (pn : List PanicEntry → Hp → Option α) (k : Value → Hp → Option α) : callK (if p then a else b) pn k = if p then callK a pn k else callK b pn k := by by_cases h : p <;> simp [h]
theorem bind_ite (p : Prop) [Decidable p] (a b : Option α) (f : α → Option β) : (if p then a else b).bind f = if p then a.bind f else b.bind f := by by_cases h : p <;> simp [h]
theorem someB (x : γ) (f : γ → Option β) : (some x).bind f = f x := rfl
theorem len_str [Tabs] (s : ByteArray) (H : Hp) : len 0 (.string s) H = some (goInt s.size) := rfl
theorem len_sl [Tabs] (a : Option Addr) (n c : Nat) (H : Hp) : len 1 (.slice a n c) H = some (goInt n) := rfl
theorem pl_get (l : List (Nat × Nat)) (i : Nat) : pl l i = l[i]? := rfl
theorem plA_get (n i : Nat) : plA n i = some (i * n, n) := rfl
theorem beqA_eql (sh : List Nat) (x y : Array Value) : beqA sh .eql (.agg x) (.agg y) = (seqS sh x.toList y.toList).bind fun c => some (.bool c) := by cases h : seqS sh x.toList y.toList <;> simp [beqA, h]
theorem beqA_neq (sh : List Nat) (x y : Array Value) : beqA sh .neq (.agg x) (.agg y) = (seqS sh x.toList y.toList).bind fun c => some (.bool (!c)) := by cases h : seqS sh x.toList y.toList <;> simp [beqA, h]
theorem seqS_nil : seqS [] [] [] = some true := rfl
theorem seqS_int (ks : List Nat) (k : IntKind) (a b : Int) (xs ys : List Value) : seqS (0 :: ks) (.int k a :: xs) (.int k b :: ys) = (seqS ks xs ys).bind fun c => some (decide (a = b) && c) := by
 cases h : seqS ks xs ys <;> simp [seqS, seq1, h, BEq.beq]
theorem seqS_bool (ks : List Nat) (a b : Bool) (xs ys : List Value) : seqS (1 :: ks) (.bool a :: xs) (.bool b :: ys) = (seqS ks xs ys).bind fun c => some ((a == b) && c) := by
 cases h : seqS ks xs ys <;> simp [seqS, seq1, h]
theorem fillL_nil (p : Nat → Option (Nat × Nat)) (cs : List Value) : fillL p cs [] = some cs := rfl
theorem fillL_cons (p : Nat → Option (Nat × Nat)) (cs : List Value) (i : Nat) (v : Value) (r : List (Nat × Value)) : fillL p cs ((i, v) :: r) =
   (p i).bind fun os => (bx v).bind fun vs => if vs.length = os.2 ∧ os.1 + os.2 ≤ cs.length then fillL p (splice cs os.1 vs) r else none := by
 simp only [fillL]; cases p i <;> rfl
theorem toL_toA (l : List Value) : l.toArray.toList = l := rfl
end ops
section heap
variable [Tabs]
theorem cells_new (H : Hp) (cs : List Value) (b : Nat) : (H.new (.rw cs)).cells b = if b = H.next then some cs else H.cells b := by
 by_cases h : b = H.next <;> simp [Hp.cells, h]
theorem cells_set (H : Hp) (cs : List Value) (b c : Nat) : (H.set c (.rw cs)).cells b = if b = c then some cs else H.cells b := by
 by_cases h : b = c <;> simp [Hp.cells, h]
def Hp.wc (H : Hp) (b : Nat) : Option (List Value) := if H.lim ≤ b then match H.get b with | some (.rw cs) => some cs | _ => none else none
theorem wc_new (H : Hp) (cs : List Value) (b : Nat) : (H.new (.rw cs)).wc b = if b = H.next then (if H.lim ≤ b then some cs else none) else H.wc b := by
 by_cases h : b = H.next <;> by_cases h' : H.lim ≤ b <;> simp_all [Hp.wc]
theorem wc_set (H : Hp) (cs : List Value) (b c : Nat) : (H.set c (.rw cs)).wc b = if b = c then (if H.lim ≤ b then some cs else none) else H.wc b := by
 by_cases h : b = c <;> by_cases h' : H.lim ≤ b <;> simp_all [Hp.wc]
theorem ld_ptr (b o : Nat) (H : Hp) : ld (ptr b o) H = (H.cells b).bind fun cs => cs[o]? := rfl
theorem ldN_ptr (n b o : Nat) (H : Hp) : ldN n (ptr b o) H = (H.cells b).bind fun cs => if o + n ≤ cs.length then some (.agg ((cs.drop o).take n).toArray) else none := rfl
theorem st_ptr (n b o : Nat) (v : Value) (H : Hp) : st n (ptr b o) v H =
   (H.wc b).bind fun cs => (bx v).bind fun vs => if vs.length = n ∧ o + n ≤ cs.length ∧ vs.all okC = true then some (H.set b (.rw (splice cs o vs))) else none := by
 simp only [st, ptr, Hp.wc]
 by_cases h : H.lim ≤ b
 · simp only [h, if_true]
   cases hg : H.get b with
   | none => rfl
   | some c => cases c <;> rfl
 · simp [h]
theorem next_fl : (Hp.fl).next = Tabs.gn := rfl
theorem lim_fl : (Hp.fl).lim = Tabs.gn := rfl
end heap
end Go.Ev
