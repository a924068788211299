/- The evaluator's heap against the machine's memory; what a step of both leaves as it was. -/
import GoSem.Step
import Derived.Calls
import Derived.Tactics
import Derived.Laws.Sem
import Derived.Laws.World
namespace Go.Ev
open Go
inductive Map (α : Type) where
 | lf
 | nd (l : Map α) (v : Option α) (r : Map α)
def Map.get {α : Type} : Map α → Nat → Option α
 | .lf, _ => none
 | .nd l v r, k =>
   match k with
   | 0 => v
   | k + 1 => if k % 2 = 0 then l.get (k / 2) else r.get (k / 2)
def Map.putF {α : Type} : Nat → Map α → Nat → Option α → Map α
 | 0, m, _, _ => m
 | _ + 1, .lf, 0, x => .nd .lf x .lf
 | f + 1, .lf, k + 1, x => if k % 2 = 0 then .nd (putF f .lf (k / 2) x) none .lf else .nd .lf none (putF f .lf (k / 2) x)
 | _ + 1, .nd l _ r, 0, x => .nd l x r
 | f + 1, .nd l v r, k + 1, x => if k % 2 = 0 then .nd (putF f l (k / 2) x) v r else .nd l v (putF f r (k / 2) x)
def Map.put {α : Type} (m : Map α) (k : Nat) (x : Option α) : Map α := putF (k + 1) m k x
def dead : Value := .chan (some 0)
inductive Fr where
 | nil
 | cons (k : Nat) (v : Value) (f : Fr)
def Fr.g : Fr → Nat → Value
 | .nil, _ => dead
 | .cons k v f, t => bif Nat.beq k t then v else f.g t
def Fr.p (f : Fr) (t : Nat) (v : Value) : Fr := .cons t v f
def Fr.init : List Value → Nat → Fr → Fr
 | [], _, f => f
 | v :: vs, i, f => Fr.init vs (i + 1) (f.p i v)
def Fr.args (vs : List Value) : Fr := Fr.init vs 0 .nil
def Fr.ofI : List Nat → Nat → List Value → Fr
 | [], _, _ => .nil
 | k :: ks, i, vs => .cons k (vs.getD i dead) (Fr.ofI ks (i + 1) vs)
def Fr.of (ks : List Nat) (vs : List Value) : Fr := Fr.ofI ks 0 vs
inductive Blk where
 | rw (cs : List Value)
 | ro (cs : List Value)
 | mp (es : List MapEntry) (clock : Nat)
structure Hp where
 next : Nat
 lim : Nat
 m : Map Blk
class Tabs where
 gn : Nat
 base : Map Blk
 tok : Nat → Value
set_option linter.unusedSectionVars false
variable [Tabs]
def Hp.get (H : Hp) (b : Nat) : Option Blk :=
 match H.m.get b with
 | some x => some x
 | none => bif Nat.blt b Tabs.gn then Tabs.base.get b else none
def Hp.del (H : Hp) (b : Nat) : Hp := { H with m := H.m.put b none }
def Hp.new (H : Hp) (x : Blk) : Hp := { H with next := H.next + 1, m := H.m.put H.next (some x) }
def Hp.set (H : Hp) (b : Nat) (x : Blk) : Hp := { H with m := H.m.put b (some x) }
def Hp.fl : Hp := { next := Tabs.gn, lim := Tabs.gn, m := .lf }
def Hp.cells (H : Hp) (b : Nat) : Option (List Value) :=
 match H.get b with
 | some (.rw cs) | some (.ro cs) => some cs
 | _ => none
inductive Out where
 | ret (v : Value)
 | pan (c : List PanicEntry)
abbrev R := Option (Out × Hp)
inductive Ex where
 | normal
 | exit (id : Nat)
 | ret
abbrev K (α : Type) := Ex → Fr → Hp → Option α
def ptr (b o : Nat) : Value := .pointer (some ⟨b, o, none⟩)
def flatN : Nat → Value → Bool
 | _, .bool _ | _, .int .. | _, .float .. | _, .complex .. | _, .string _ | _, .pointer none | _, .slice none 0 0 | _, .map none | _, .chan none | _, .nilFunc | _, .nilIface => true
 | n + 1, .agg cs => cs.toList.all (flatN n)
 | n + 1, .tuple cs => cs.toList.all (flatN n)
 | n + 1, .iface _ v => flatN n v
 | _, _ => false
def flat (v : Value) : Bool := flatN 4 v
def flDN : Nat → Value → Bool
 | _, .bool _ | _, .int .. | _, .float .. | _, .complex .. | _, .string _ | _, .pointer none | _, .slice none 0 0 | _, .map none | _, .chan none | _, .chan (some _) | _, .nilFunc | _, .nilIface => true
 | n + 1, .agg cs => cs.toList.all (flDN n)
 | n + 1, .tuple cs => cs.toList.all (flDN n)
 | n + 1, .iface _ v => flDN n v
 | _, _ => false
def flD (v : Value) : Bool := flDN 4 v
def ld (a : Value) (H : Hp) : Option Value :=
 match a with
 | .pointer (some ⟨b, o, none⟩) => (H.cells b).bind fun cs => cs[o]?
 | _ => none
def ldN (n : Nat) (a : Value) (H : Hp) : Option Value :=
 match a with
 | .pointer (some ⟨b, o, none⟩) => (H.cells b).bind fun cs => if o + n ≤ cs.length then some (.agg ((cs.drop o).take n).toArray) else none
 | _ => none
def splice : List Value → Nat → List Value → List Value
 | cs, _, [] => cs
 | cs, o, v :: vs => splice (cs.set o v) (o + 1) vs
def bx (v : Value) : Option (List Value) :=
 match v with
 | .chan (some _) => none
 | .agg cs => some cs.toList
 | v => some [v]
def okC : Value → Bool
 | .agg _ | .tuple _ | .chan (some _) => false
 | _ => true
def st (n : Nat) (a v : Value) (H : Hp) : Option Hp :=
 match a with
 | .pointer (some ⟨b, o, none⟩) =>
   if H.lim ≤ b then
     match H.get b with
     | some (.rw cs) => (bx v).bind fun vs => if vs.length = n ∧ o + n ≤ cs.length ∧ vs.all okC = true then some (H.set b (.rw (splice cs o vs))) else none
     | _ => none
   else none
 | _ => none
def fa (off : Nat) (a : Value) : Option Value :=
 match a with
 | .pointer (some ⟨b, o, none⟩) => some (ptr b (o + off))
 | _ => none
def ia (len sz : Nat) (a i : Value) : Option Value :=
 match a, i with
 | .pointer (some ⟨b, o, none⟩), .int _ i => if 0 ≤ i ∧ i < len then some (ptr b (o + i.toNat * sz)) else none
 | _, _ => none
def sa (sz : Nat) (s i : Value) : Option Value :=
 match s, i with
 | .slice (some ⟨b, o, none⟩) len _, .int _ i => if 0 ≤ i ∧ i < len then some (ptr b (o + i.toNat * sz)) else none
 | _, _ => none
def part (agg : Bool) (n off : Nat) (cs : Array Value) : Option Value :=
 if agg then (if off + n ≤ cs.size then some (.agg (cs.extract off (off + n))) else none) else cs[off]?
def fld (agg : Bool) (n off : Nat) (x : Value) : Option Value :=
 match x with
 | .agg cs => part agg n off cs
 | _ => none
def ix (agg : Bool) (len sz : Nat) (x i : Value) : Option Value :=
 match x, i with
 | .agg cs, .int _ i => if 0 ≤ i ∧ i < len then part agg sz (i.toNat * sz) cs else none
 | _, _ => none
def sx (x i : Value) : Option Value :=
 match x, i with
 | .string s, .int _ i => if 0 ≤ i then (s[i.toNat]?).map fun b => .int .u8 b.toNat else none
 | _, _ => none
def bits (op : BinOp) (k : IntKind) (x y : Int) : Option Value :=
 match op with
 | .and => some (.int k (k.wrap (BitVec.ofInt k.bits x &&& BitVec.ofInt k.bits y).toNat))
 | .or => some (.int k (k.wrap (BitVec.ofInt k.bits x ||| BitVec.ofInt k.bits y).toNat))
 | .xor => some (.int k (k.wrap (BitVec.ofInt k.bits x ^^^ BitVec.ofInt k.bits y).toNat))
 | .andNot => some (.int k (k.wrap (BitVec.ofInt k.bits x &&& ~~~BitVec.ofInt k.bits y).toNat))
 | _ => none
def binI (op : BinOp) (k : IntKind) (x y : Int) : Option Value :=
 match op with
 | .add => some (.int k (k.wrap (x + y)))
 | .sub => some (.int k (k.wrap (x - y)))
 | .mul => some (.int k (k.wrap (x * y)))
 | .quo => if y = 0 then none else some (.int k (k.wrap (x.tdiv y)))
 | .rem => if y = 0 then none else some (.int k (x.tmod y))
 | .and | .or | .xor | .andNot => bits op k x y
 | .eql => some (.bool (x == y))
 | .neq => some (.bool (x != y))
 | .lss => some (.bool (decide (x < y)))
 | .leq => some (.bool (decide (x ≤ y)))
 | .gtr => some (.bool (decide (x > y)))
 | .geq => some (.bool (decide (x ≥ y)))
 | _ => none
def shift (op : BinOp) (k : IntKind) (x y : Int) : Option Value :=
 if y < 0 then none
 else match op with
   | .shl => some (.int k (k.wrap (x * 2 ^ (min y.toNat k.bits))))
   | .shr => some (.int k (x.fdiv (2 ^ (min y.toNat k.bits))))
   | _ => none
def binS (op : BinOp) (x y : ByteArray) : Option Value :=
 match op with
 | .add => if ((x.size + y.size : Nat) : Int) > IntKind.i64.max then none else some (.string (x ++ y))
 | .eql => some (.bool (x.toList == y.toList))
 | .neq => some (.bool (!(x.toList == y.toList)))
 | .lss => some (.bool (Op.bytesLess x.toList y.toList))
 | .leq => some (.bool (Op.bytesLess x.toList y.toList || x.toList == y.toList))
 | .gtr => some (.bool (!(Op.bytesLess x.toList y.toList || x.toList == y.toList)))
 | .geq => some (.bool (!Op.bytesLess x.toList y.toList))
 | _ => none
def seq1 : Nat → Value → Value → Option Bool
 | 0, .int k a, .int k' b => if k = k' then some (a == b) else none
 | 1, .bool a, .bool b => some (a == b)
 | 2, .string a, .string b => some (a == b)
 | _, _, _ => none
def seqS : List Nat → List Value → List Value → Option Bool
 | [], [], [] => some true
 | k :: ks, x :: xs, y :: ys => (seq1 k x y).bind fun b => (seqS ks xs ys).map fun c => b && c
 | _, _, _ => none
def beqA (sh : List Nat) (op : BinOp) (x y : Value) : Option Value :=
 match x, y with
 | .agg a, .agg b =>
   match op with
   | .eql => (seqS sh a.toList b.toList).map fun c => .bool c
   | .neq => (seqS sh a.toList b.toList).map fun c => .bool (!c)
   | _ => none
 | _, _ => none
def bin (q : Nat) (op : BinOp) (x y : Value) : Option Value :=
 match x, y with
 | .int k a, .int k' b =>
   match op with
   | .shl | .shr => shift op k a b
   | _ => if k = k' then binI op k a b else none
 | .string a, .string b => binS op a b
 | .bool a, .bool b =>
   if q = 1 then
     match op with
     | .eql => some (.bool (a == b))
     | .neq => some (.bool (!(a == b)))
     | _ => none
   else none
 | .pointer none, .pointer b => if q = 3 then match op with | .eql => some (.bool b.isNone) | .neq => some (.bool (!b.isNone)) | _ => none else none
 | .pointer (some _), .pointer none => if q = 3 then match op with | .eql => some (.bool false) | .neq => some (.bool true) | _ => none else none
 | .slice none _ _, .slice b _ _ => if q = 4 then match op with | .eql => some (.bool b.isNone) | .neq => some (.bool (!b.isNone)) | _ => none else none
 | .slice (some _) _ _, .slice none _ _ => if q = 4 then match op with | .eql => some (.bool false) | .neq => some (.bool true) | _ => none else none
 | .nilIface, .nilIface => if q = 5 then match op with | .eql => some (.bool true) | .neq => some (.bool false) | _ => none else none
 | .nilIface, .iface _ _ | .iface _ _, .nilIface => if q = 5 then match op with | .eql => some (.bool false) | .neq => some (.bool true) | _ => none else none
 | .nilFunc, .nilFunc => if q = 6 then match op with | .eql => some (.bool true) | .neq => some (.bool false) | _ => none else none
 | .nilFunc, .func .. | .func .., .nilFunc => if q = 6 then match op with | .eql => some (.bool false) | .neq => some (.bool true) | _ => none else none
 | _, _ => none
def un (op : UnOp) (x : Value) : Option Value :=
 match op, x with
 | .neg, .int k n => some (.int k (k.wrap (0 - n)))
 | .xor, .int k n => bits .xor k (if k.signed then -1 else k.max) n
 | .not, .bool b => some (.bool (!b))
 | _, _ => none
def bytesV (s : ByteArray) : List Value := s.data.toList.map fun b => .int .u8 b.toNat
def cvI (k : IntKind) (x : Value) : Option Value :=
 match x with
 | .int _ n => some (.int k (k.wrap n))
 | _ => none
def cvS (x : Value) : Option Value :=
 match x with
 | .string _ => some x
 | _ => none
def cvB (x : Value) (H : Hp) : Option (Value × Hp) :=
 match x with
 | .string s => some (.slice (some ⟨H.next, 0, none⟩) s.size 1, H.new (.rw (bytesV s)))
 | _ => none
def unbytes : List Value → Option (List UInt8)
 | [] => some []
 | .int .u8 n :: r => (unbytes r).map fun l => UInt8.ofNat n.toNat :: l
 | _ :: _ => none
def cvT (x : Value) (H : Hp) : Option Value :=
 match x with
 | .slice none _ _ => some (.string .empty)
 | .slice (some ⟨b, o, none⟩) len _ => (H.cells b).bind fun cs => if o + len ≤ cs.length then (unbytes ((cs.drop o).take len)).map fun l => .string ⟨l.toArray⟩ else none
 | _ => none
def len (q : Nat) (x : Value) (H : Hp) : Option Value :=
 match q, x with
 | 0, .string s => some (goInt s.size)
 | 1, .slice _ n _ => some (goInt n)
 | 2, .map none => some (goInt 0)
 | 2, .map (some r) => match H.get r with | some (.mp es _) => some (goInt es.length) | _ => none
 | _, _ => none
def ext1 (t : Value) (i : Nat) : Option Value :=
 match t with
 | .tuple vs => vs[i]?
 | _ => none
def nilc (x : Value) : Option Value :=
 match x with
 | .pointer (some _) => some x
 | .func (.func _) _ _ => some x
 | _ => none
def pick (c a b : Value) : Option Value :=
 match c with
 | .bool true => some a
 | .bool false => some b
 | _ => none
def optInt (d : Nat) : Option Value → Option Int
 | none => some d
 | some (.int _ i) => some i
 | some _ => none
def slS (x : Value) (l h : Option Value) : Option Value :=
 match x with
 | .string s => (optInt 0 l).bind fun l => (optInt s.size h).bind fun h => if 0 ≤ l ∧ l ≤ h ∧ h ≤ s.size then some (.string (s.extract l.toNat h.toNat)) else none
 | _ => none
def slV (sz : Nat) (x : Value) (l h : Option Value) : Option Value :=
 match x with
 | .slice (some ⟨b, o, none⟩) n c => (optInt 0 l).bind fun l => (optInt n h).bind fun h =>
   if c = sz ∧ 0 ≤ l ∧ l ≤ h ∧ h ≤ n then some (.slice (some ⟨b, o + l.toNat * sz, none⟩) (h.toNat - l.toNat) sz) else none
 | .slice none _ _ => (optInt 0 l).bind fun l => (optInt 0 h).bind fun h => if l = 0 ∧ h = 0 then some (.slice none 0 0) else none
 | _ => none
def slA (n sz : Nat) (x : Value) (l h : Option Value) (H : Hp) : Option Value :=
 match x with
 | .pointer (some ⟨b, o, none⟩) => (optInt 0 l).bind fun l => (optInt n h).bind fun h =>
   (H.cells b).bind fun cs => if 0 ≤ l ∧ l ≤ h ∧ h ≤ n ∧ o + n * sz ≤ cs.length then some (.slice (some ⟨b, o + l.toNat * sz, none⟩) (h.toNat - l.toNat) sz) else none
 | _ => none
def rep (n : Nat) (z : List Value) : List Value := (List.replicate n z).flatten
def srcC (sz : Nat) (x : Value) (H : Hp) : Option (Nat × List Value) :=
 match x with
 | .slice none _ _ => some (0, [])
 | .slice (some ⟨b, o, none⟩) m _ => if m = 0 then some (0, []) else (H.cells b).bind fun cs => if o + m * sz ≤ cs.length then some (m, (cs.drop o).take (m * sz)) else none
 | .string s => if sz = 1 then some (s.size, bytesV s) else none
 | _ => none
def roomy (n by_ : Nat) : Bool := decide ((2 * n + 192) * by_ ≤ 281474976710656 ∧ n ≤ 9223372036854775807)
def appd (sz by_ : Nat) (s : Value) (m : Nat) (xs : List Value) (H : Hp) : Option (Value × Hp) :=
 match s with
 | .slice none _ _ => if m = 0 then some (.slice none 0 0, H) else if roomy m by_ = true ∧ xs.all okC = true then some (.slice (some ⟨H.next, 0, none⟩) m sz, H.new (.rw xs)) else none
 | .slice (some ⟨b, o, none⟩) n c =>
   if c = sz ∧ H.lim ≤ b ∧ roomy (n + m) by_ = true ∧ xs.all okC = true then
     match H.get b with
     | some (.rw cs) => if o + n * sz = cs.length then some (.slice (some ⟨H.next, 0, none⟩) (n + m) sz, (H.del b).new (.rw (cs.drop o ++ xs))) else none
     | _ => none
   else none
 | _ => none
def mkS (sz by_ : Nat) (z : List Value) (l c : Value) (H : Hp) : Option (Value × Hp) :=
 match l, c with
 | .int _ l, .int _ c => if 0 ≤ l ∧ l ≤ c ∧ c ≤ 1099511627776 ∧ by_ ≤ 256 then some (.slice (some ⟨H.next, 0, none⟩) l.toNat sz, H.new (.rw (rep l.toNat z))) else none
 | _, _ => none
def keyEq : Bool → Value → Value → Option Bool
 | false, .int k a, .int k' b => if k = k' then some (a == b) else none
 | true, .string a, .string b => some (a.data.toList == b.data.toList)
 | _, _, _ => none
def findE (q : Bool) (k : Value) : List MapEntry → Nat → Option (Option (Nat × Value))
 | [], _ => some none
 | e :: es, i =>
   match keyEq q k e.key with
   | some true => some (some (i, e.val))
   | some false => findE q k es (i + 1)
   | none => none
def entries (m : Value) (H : Hp) : Option (List MapEntry) :=
 match m with
 | .map none => some []
 | .map (some r) => match H.get r with | some (.mp es _) => some es | _ => none
 | _ => none
def lkup (q : Bool) (z : Value) (ok : Bool) (m k : Value) (H : Hp) : Option Value :=
 (entries m H).bind fun es => (findE q k es 0).map fun r =>
   match r with
   | some (_, v) => if ok then .tuple #[v, .bool true] else v
   | none => if ok then .tuple #[z, .bool false] else z
def updE (es : List MapEntry) (i : Nat) (k v : Value) : List MapEntry := es.modify i fun e => { e with key := k, val := v }
def mupd (q : Bool) (m k v : Value) (H : Hp) : Option Hp :=
 match m with
 | .map (some r) =>
   if H.lim ≤ r ∧ flat k = true then
     match H.get r with
     | some (.mp es ck) => (findE q k es 0).map fun f =>
       match f with
       | some (i, _) => H.set r (.mp (updE es i k v) ck)
       | none => H.set r (.mp (es ++ [{ key := k, val := v, born := ck }]) (ck + 1))
     | _ => none
   else none
 | _ => none
def tasr (t : TypeId) (ok : Bool) (z : Value) (x : Value) : Option Value :=
 match x with
 | .iface u v => if u = t then some (if ok then .tuple #[v, .bool true] else v) else if ok then some (.tuple #[z, .bool false]) else none
 | .nilIface => if ok then some (.tuple #[z, .bool false]) else none
 | _ => none
def mxI (mx : Bool) : Value → List Value → Option Value
 | .int k a, [] => some (.int k a)
 | .int k a, .int _ b :: r => mxI mx (.int k (if mx then (if b > a then b else a) else (if b < a then b else a))) r
 | _, _ => none
def fillL (place : Nat → Option (Nat × Nat)) (cells : List Value) : List (Nat × Value) → Option (List Value)
 | [] => some cells
 | (i, v) :: rest =>
   match place i with
   | none => none
   | some (off, size) => (bx v).bind fun vs => if vs.length = size ∧ off + size ≤ cells.length then fillL place (splice cells off vs) rest else none
def pl (l : List (Nat × Nat)) : Nat → Option (Nat × Nat) := fun i => l[i]?
def plA (n : Nat) : Nat → Option (Nat × Nat) := fun i => some (i * n, n)
def aggT (P : Program) (t : TypeId) : Option Bool :=
 match P.underlying t with
 | some (.struct _) | some (.array _ _) => some true
 | some _ => some false
 | none => none
def sizeT (P : Program) (t : TypeId) : Option Nat := (P.info? t).map (·.size)
def zeroT (P : Program) (t : TypeId) : Option (List Value) := (P.info? t).bind fun i => i.zero.bind fun z => if z.cells.toList.all (flatN 3) then some z.cells.toList else none
def fieldT (P : Program) (s : TypeId) (f : Nat) : Option (Bool × Nat × Nat) :=
 match P.underlying s with
 | some (.struct fs) =>
   match fs[f]? with
   | some f => (aggT P f.type).bind fun a => (sizeT P f.type).bind fun n => if n = 0 then none else some (a, n, f.offset)
   | none => none
 | _ => none
def elemT (P : Program) (t : TypeId) : Option (Option Nat × Bool × Nat) :=
 match P.underlying t with
 | some (.array n e) => (aggT P e).bind fun a => (sizeT P e).map fun s => (some n, a, s)
 | some (.slice e) => (aggT P e).bind fun a => (sizeT P e).map fun s => (none, a, s)
 | _ => none
def placeT (P : Program) (t : TypeId) : Option (Nat → Option (Nat × Nat)) :=
 match P.underlying t with
 | some (.struct fs) => if fs.toList.all (fun f => (sizeT P f.type).isSome) then some (pl (fs.toList.map fun f => (f.offset, (sizeT P f.type).getD 0))) else none
 | some (.array _ e) => (sizeT P e).map plA
 | _ => none
def shapeF (g : TypeId → Option (List Nat)) : List Field → Nat → Option (List Nat)
 | [], _ => some []
 | f :: fs, o => if f.name = "_" ∨ f.offset ≠ o then none else (g f.type).bind fun l => (shapeF g fs (o + l.length)).map fun m => l ++ m
def sized (P : Program) (t : TypeId) (l : List Nat) : Option (List Nat) := if sizeT P t = some l.length then some l else none
def shapeT (P : Program) : Nat → TypeId → Option (List Nat)
 | 0, _ => none
 | d + 1, t =>
   match P.underlying t with
   | some .bool => sized P t [1]
   | some (.int _) => sized P t [0]
   | some .string => sized P t [2]
   | some (.struct fs) => if P.stoodInHeld t then none else (shapeF (shapeT P d) fs.toList 0).bind (sized P t)
   | some (.array n e) => (shapeT P d e).bind fun l => sized P t (List.replicate n l).flatten
   | _ => none
def eqS (P : Program) (t : TypeId) : Option (List Nat) :=
 match P.underlying t with
 | some (.struct _) | some (.array _ _) => if P.eqGuardType P.depth t then none else shapeT P 8 t
 | _ => none
def isC : Operand → Bool
 | .const _ => true
 | _ => false
def eqK (P : Program) (t : TypeId) (x y : Operand) : Nat :=
 match P.underlying t with
 | some .bool => 1
 | some (.pointer _) => 3
 | some (.slice _) => 4
 | some (.interface _) => if isC x || isC y then 5 else 0
 | some (.func _ _ _) => 6
 | _ => 0
def sliceT (P : Program) (t : TypeId) : Option (TypeId × Nat × Nat) :=
 match P.underlying t with
 | some (.slice e) => (P.info? e).map fun i => (e, i.size, i.bytes)
 | _ => none
def zeroV (P : Program) (t : TypeId) : Option Value := (P.info? t).bind fun i => i.zero.bind fun z => if flat z then some z else none
def isU8 (P : Program) (t : TypeId) : Bool := match P.underlying t with | some (.int .u8) => true | _ => false
structure An where
 L : List Nat
 M : List Nat
 x : Bool
 r : Bool
structure Cfg where
 P : Program
 ext : FuncId → List Value → Option Value
 exh : FuncId → List Value → Hp → Option (Out × Hp) := fun _ _ _ => none
 quiet : FuncId → Bool
 live : FuncId → List (Option An)
def pnK : List PanicEntry → Hp → R := fun c H => some (.pan c, H)
def pnN {α : Type} : List PanicEntry → Hp → Option α := fun _ _ => none
abbrev Cl := FuncId → List Value → Hp → R
def callK {α : Type} (r : R) (pn : List PanicEntry → Hp → Option α) (k : Value → Hp → Option α) : Option α :=
 match r with
 | some (.ret v, H) => k v H
 | some (.pan c, H) => pn c H
 | none => none
def panI {α : Type} (x : Value) (H : Hp) (pn : List PanicEntry → Hp → Option α) : Option α :=
 match x with
 | .iface t v => pn [{ v := .iface t v, recovered := false }] H
 | _ => none
def clV (C : Cl) (f : Value) (args : List Value) (H : Hp) : R :=
 match f with
 | .func (.func g) first cap => C g (first.toList ++ args ++ cap.toList) H
 | _ => none
abbrev sb {α β : Type} (x : Option α) (k : α → Option β) : Option β :=
 match x with
 | some a => k a
 | none => none
def evOp {α : Type} (P : Program) (C : Cl) (o : Oper) (ρ : Operand → Value) (H : Hp) (pn : List PanicEntry → Hp → Option α) (k : Value → Hp → Option α) : Option α :=
 match o.op with
 | .move x | .assign x => k (ρ x) H
 | .pick c a b => (pick (ρ c) (ρ a) (ρ b)).bind fun v => k v H
 | .alloc t => sb (zeroT P t) fun z => k (ptr H.next 0) (H.new (.rw z))
 | .box _ x => (bx (ρ x)).bind fun cs => k (ptr H.next 0) (H.new (.rw cs))
 | .build t parts => sb (zeroT P t) fun z => sb (placeT P t) fun pl => (fillL pl z (parts.toList.map fun (i, x) => (i, ρ x))).bind fun cs => k (.agg cs.toArray) H
 | .load t a => sb (aggT P t) fun g => match g with
   | true => sb (sizeT P t) fun n => (ldN n (ρ a) H).bind fun v => k v H
   | false => (ld (ρ a) H).bind fun v => k v H
 | .store t a x => sb (sizeT P t) fun n => (st n (ρ a) (ρ x) H).bind fun H => k undef H
 | .nilCheck x => (nilc (ρ x)).bind fun v => k v H
 | .buildSlice t len parts => sb (sliceT P t) fun (e, sz, _) => sb (zeroT P e) fun z => if len * sz ≤ 4096 ∧ z.length = sz then (fillL (plA sz) (rep len z) (parts.toList.map fun (i, x) => (i, ρ x))).bind fun cs => k (.slice (some ⟨H.next, 0, none⟩) len sz) (H.new (.rw cs)) else none
 | .makeFunc fn first cap => k (.func fn (first.toList.map ρ).toArray (cap.toList.map ρ).toArray) H
 | .makeInterface t x => sb (P.underlying t) fun u => match u with
   | .interface _ => none
   | _ => k (.iface t (ρ x)) H
 | .typeAssert x _ t ok => sb (P.underlying t) fun u => match u with
   | .interface _ => none
   | _ => sb (zeroV P t) fun z => (tasr t ok z (ρ x)).bind fun v => k v H
 | .makeSlice t l c => sb (sliceT P t) fun (e, sz, by_) => sb (zeroT P e) fun z => if z.length = sz then (mkS sz by_ z (ρ l) (ρ c) H).bind fun (v, H) => k v H else none
 | .makeMap _ r => match r with
   | none => k (.map (some H.next)) (H.new (.mp [] 0))
   | some _ => none
 | .lookup t m x ok => sb (P.underlying t) fun ut => match ut with
   | .map kt e => sb (P.underlying kt) fun uk => match uk with
     | .int _ => sb (zeroV P e) fun z => (lkup false z ok (ρ m) (ρ x) H).bind fun v => k v H
     | .string => sb (zeroV P e) fun z => (lkup true z ok (ρ m) (ρ x) H).bind fun v => k v H
     | _ => none
   | _ => none
 | .mapUpdate t m x v | .insert t m x v => sb (P.underlying t) fun ut => match ut with
   | .map kt _ => sb (P.underlying kt) fun uk => match uk with
     | .int _ => (mupd false (ρ m) (ρ x) (ρ v) H).bind fun H => k undef H
     | .string => (mupd true (ρ m) (ρ x) (ρ v) H).bind fun H => k undef H
     | _ => none
   | _ => none
 | .panic x => panI (ρ x) H pn
 | .binOp op t x y _ => match eqS P t with
   | some sh => (beqA sh op (ρ x) (ρ y)).bind fun v => k v H
   | none => (bin (eqK P t x y) op (ρ x) (ρ y)).bind fun v => k v H
 | .unOp op _ x => (un op (ρ x)).bind fun v => k v H
 | .convert s d x => sb (P.underlying s) fun us => sb (P.underlying d) fun ud =>
   match us, ud with
   | _, .int j => (cvI j (ρ x)).bind fun v => k v H
   | .string, .string => (cvS (ρ x)).bind fun v => k v H
   | .string, .slice e => sb (P.underlying e) fun ue => match ue with
     | .int .u8 => (cvB (ρ x) H).bind fun (v, H) => k v H
     | _ => none
   | .slice e, .string => sb (P.underlying e) fun ue => match ue with
     | .int .u8 => (cvT (ρ x) H).bind fun v => k v H
     | _ => none
   | _, _ => none
 | .fieldAddr s x f => sb (fieldT P s f) fun (_, _, off) => (fa off (ρ x)).bind fun v => k v H
 | .field s x f => sb (fieldT P s f) fun (g, n, off) => (fld g n off (ρ x)).bind fun v => k v H
 | .indexAddr t x i => sb (elemT P t) fun (n, _, sz) => match n with
   | some n => (ia n sz (ρ x) (ρ i)).bind fun v => k v H
   | none => (sa sz (ρ x) (ρ i)).bind fun v => k v H
 | .index t x i => sb (P.underlying t) fun ut => match ut with
   | .string => (sx (ρ x) (ρ i)).bind fun v => k v H
   | _ => sb (elemT P t) fun (n, g, sz) => match n with
     | some n => (ix g n sz (ρ x) (ρ i)).bind fun v => k v H
     | none => none
 | .slice t x l h m => match m with
   | some _ => none
   | none => sb (P.underlying t) fun ut => match ut with
     | .string => (slS (ρ x) (l.map ρ) (h.map ρ)).bind fun v => k v H
     | .slice e => sb (sizeT P e) fun sz => (slV sz (ρ x) (l.map ρ) (h.map ρ)).bind fun v => k v H
     | .array n e => sb (sizeT P e) fun sz => (slA n sz (ρ x) (l.map ρ) (h.map ρ) H).bind fun v => k v H
     | _ => none
 | .extract t i => (ext1 (ρ t) i).bind fun v => k v H
 | .call c =>
   match c.callee with
   | .builtin b => match b with
     | .len => match c.argTypes.toList, c.args.toList with
       | [t], [x] => sb (P.underlying t) fun ut => match ut with
         | .string => (len 0 (ρ x) H).bind fun v => k v H
         | .slice _ => (len 1 (ρ x) H).bind fun v => k v H
         | .map _ _ => (len 2 (ρ x) H).bind fun v => k v H
         | .array n _ => k (goInt n) H
         | _ => none
       | _, _ => none
     | .append => match c.argTypes.toList, c.args.toList with
       | [t, u], [s, x] => sb (sliceT P t) fun (e, sz, by_) => sb (P.underlying u) fun uu => match uu with
         | .slice _ => if t = u then sb (zeroT P e) fun z => if z.length = sz then (srcC sz (ρ x) H).bind fun (m, xs) => (appd sz by_ (ρ s) m xs H).bind fun (v, H) => k v H else none else none
         | .string => if isU8 P e then sb (zeroT P e) fun z => if z.length = sz then (srcC sz (ρ x) H).bind fun (m, xs) => (appd sz by_ (ρ s) m xs H).bind fun (v, H) => k v H else none else none
         | _ => none
       | _, _ => none
     | .max => match c.args.toList with
       | x :: r => (mxI true (ρ x) (r.map ρ)).bind fun v => k v H
       | [] => none
     | .min => match c.args.toList with
       | x :: r => (mxI false (ρ x) (r.map ρ)).bind fun v => k v H
       | [] => none
     | _ => none
   | .value f => callK (clV C (ρ f) (c.args.toList.map ρ) H) pn k
   | _ => none
 | _ => none
def Fr.ev (fr : Fr) (P : Program) : Operand → Value
 | .tmp t => fr.g t
 | .const v => bif flat v then v else dead
 | .global g => bif Nat.blt g P.globals.size then ptr g 0 else dead
 | .func f => .func (.func f) #[] #[]
def Fr.po (nt : Nat) (fr : Fr) (d : Option Tmp) (v : Value) : Option Fr :=
 match d with
 | none => some fr
 | some d => if d < nt then some (fr.p d v) else none
def ifG {α : Type} (v : Value) (want : Bool) (a b : Option α) : Option α :=
 match v with
 | .bool x => if x = want then a else b
 | .tuple _ => b
 | _ => none
def evOne {α : Type} (P : Program) (C : Cl) (nt : Nat) (ops : Array Oper) (o : Oper) (fr : Fr) (H : Hp) (pn : List PanicEntry → Hp → Option α) (k : Fr → Hp → Option α) : Option α :=
 match o.guard with
 | none => evOp P C o (fr.ev P) H pn fun v H => sb (fr.po nt o.dst v) fun fr => k fr H
 | some (j, want) => sb ((ops[j]?).bind (·.dst)) fun d =>
   (ifG (fr.g d) want (evOp P C o (fr.ev P) H pnN fun v H => some (v, H)) (some (undef, H))).bind fun (v, H) => sb (fr.po nt o.dst v) fun fr => k fr H
def evOps {α : Type} (P : Program) (C : Cl) (nt : Nat) (ops : Array Oper) : List Oper → Fr → Hp → (List PanicEntry → Hp → Option α) → (Fr → Hp → Option α) → Option α
 | [], fr, H, _, k => k fr H
 | o :: os, fr, H, pn, k => evOne P C nt ops o fr H pn fun fr H => evOps P C nt ops os fr H pn k
def Hp.cl (H : Hp) : Hp := { H with lim := H.next }
def Hp.opn (H : Hp) (L : Nat) : Hp := { H with lim := L }
def evA {α : Type} (P : Program) (C : Cl) (nt : Nat) (ops : Array Oper) : List Oper → Fr → Hp → (Fr → Hp → Option α) → Option α
 | [], fr, H, k => k fr H
 | o :: os, fr, H, k => evOne P C nt ops o fr H.cl pnN fun fr H => evA P C nt ops os fr H k
def masks : List Oper → List Nat → List Nat
 | [], acc => acc
 | o :: os, acc => masks os (acc ++ [o.after.toList.foldl (fun s e => if Region.binds .any e = true ∧ e.on < acc.length then s ||| (2 ^ e.on ||| acc.getD e.on 0) else s) 0])
def freeOp (ops : Array Oper) (o : Oper) : Bool :=
 o.guard.isNone && o.after.toList.all (fun e => !Region.binds .any e) && o.dst.isSome &&
 match o.op with
 | .move (.tmp s) => ops.toList.all fun p => p.dst != some s
 | .move _ => true
 | _ => false
def tailAt (fr : List Bool) : List Nat → Nat → Nat
 | [], n => n
 | m :: ms, n => if (m :: ms).zipIdx n |>.all (fun (m, i) => (List.range i).all fun k => m.testBit k || (decide (k < n) && fr.getD k false)) then n else tailAt fr ms (n + 1)
def opReads (o : Oper) : List Nat := o.op.operands.toList.filterMap fun | .tmp t => some t | _ => none
def opNames (ops : Array Oper) (o : Oper) : List Nat :=
 o.dst.toList ++ opReads o ++ (match o.guard with | some (j, _) => ((ops[j]?).bind (·.dst)).toList | none => [])
def tmpsOk (ops : Array Oper) (ms : List Nat) : Bool :=
 ops.toList.zipIdx.all fun (o, j) => (opNames ops o).all fun t => ops.toList.zipIdx.all fun (p, i) =>
   p.dst != some t || i == j || (if i < j then (ms.getD j 0).testBit i else (ms.getD i 0).testBit j)
def edgesOk (ops : Array Oper) : Bool := ops.toList.zipIdx.all fun (o, i) => o.after.toList.all fun e => !Region.binds .any e || decide (e.on < i)
def noSel (ops : Array Oper) : Bool := ops.toList.all fun o => match o.op with | .select _ _ => false | _ => true
def drawAt (ops : Array Oper) : Option Nat :=
 if noSel ops && edgesOk ops && tmpsOk ops (masks ops.toList []) then some (tailAt (ops.toList.map (freeOp ops)) (masks ops.toList []) 0) else none
def befB (ops : Array Oper) (i k : Nat) : Bool := ((masks ops.toList []).getD i 0).testBit k
def storeAt (ops : Array Oper) (q : Nat) : Option Nat :=
 (((ops.toList.take q).zipIdx.filter fun (o, _) => match o.op, o.guard with | .store .., none => true | _, _ => false).getLast?).map (·.2)
def rdA (a : Value) : Option Nat :=
 match a with
 | .pointer (some ⟨b, _, none⟩) => some b
 | _ => none
def memN (b : Nat) : List Nat → Bool
 | [] => false
 | c :: cs => bif Nat.beq b c then true else memN b cs
def rdOf (P : Program) (o : Oper) (fr : Fr) : Option (List Nat) :=
 match o.op with
 | .move _ | .assign _ | .extract _ _ | .nilCheck _ | .fieldAddr _ _ _ | .field _ _ _ | .binOp .. | .unOp .. | .pick .. | .index .. | .indexAddr .. | .makeInterface .. => some []
 | .load _ a => match o.guard with
   | none => (rdA (fr.ev P a)).map fun c => [c]
   | some _ => none
 | .call c => match c.callee, c.argTypes.toList with
   | .builtin .len, [t] => match P.underlying t with
     | some .string | some (.slice _) => some []
     | _ => none
   | _, _ => none
 | _ => none
def evB {α : Type} (P : Program) (C : Cl) (nt : Nat) (ops : Array Oper) (s : Nat) : List Oper → Nat → Fr → Hp → List Nat → Fr → (Fr → Hp → List Nat → Fr → Option α) → Option α
 | [], _, fr, H, rd, fs, k => k fr H rd fs
 | o :: os, i, fr, H, rd, fs, k =>
   match i == s with
   | true => sb (fr.po nt o.dst undef) fun fr' => evB P C nt ops s os (i + 1) fr' H.cl rd fr k
   | false => match befB ops s i with
     | true => evOne P C nt ops o fr H.cl pnN fun fr H => evB P C nt ops s os (i + 1) fr H rd fs k
     | false => (rdOf P o fr).bind fun rs => evOne P C nt ops o fr H.cl pnN fun fr H => evB P C nt ops s os (i + 1) fr H (rs ++ rd) fs k
def evW {α : Type} (P : Program) (o : Oper) (fr : Fr) (H : Hp) (rd : List Nat) (k : Hp → Option α) : Option α :=
 match o.guard with
 | some _ => none
 | none => match o.op with
   | .store t a x => sb (sizeT P t) fun n => (rdA (fr.ev P a)).bind fun b => bif memN b rd then none else (st n (fr.ev P a) (fr.ev P x) H).bind k
   | _ => none
def ifB {α : Type} (v : Value) (a b : Option α) : Option α :=
 match v with
 | .bool true => a
 | .bool false => b
 | _ => none
inductive JR where
 | nrm (vs : List Value) (H : Hp)
 | ex (j : Nat) (fr : Fr) (H : Hp)
 | rt (fr : Fr) (H : Hp)
 | pan (c : List PanicEntry) (H : Hp)
def pnJ : List PanicEntry → Hp → Option JR := fun c H => some (.pan c H)
def jn {α : Type} (r : Option JR) (pn : List PanicEntry → Hp → Option α) (kx : Nat → Fr → Hp → Option α) (kr : Fr → Hp → Option α) (g : List Value → Hp → Option α) : Option α :=
 match r with
 | none => none
 | some (.nrm vs H) => g vs H
 | some (.ex j fr H) => kx j fr H
 | some (.rt fr H) => kr fr H
 | some (.pan c H) => pn c H
def noX {α : Type} : Nat → Fr → Hp → Option α := fun _ _ _ => none
def noR {α : Type} : Fr → Hp → Option α := fun _ _ => none
abbrev seqK {α : Type} (c : Fr → Hp → K α → Option α) (k : K α) : K α := fun e fr H =>
 match e with
 | .normal => c fr H k
 | e => k e fr H
abbrev blkK {α : Type} (id : Nat) (k : K α) : K α := fun e fr H =>
 match e with
 | .exit j => if j = id then k .normal fr H else k (.exit j) fr H
 | e => k e fr H
def lp {α : Type} (B : List Value → Hp → (List Value → Hp → Option α) → (Nat → Fr → Hp → Option α) → (Fr → Hp → Option α) → Option α) : Nat → List Value → Hp → (Nat → Fr → Hp → Option α) → (Fr → Hp → Option α) → Option α
 | 0, _, _, _, _ => none
 | n + 1, vs, H, kx, kr => B vs H (fun vs H => lp B n vs H kx kr) kx kr
def nodes : Code → Nat
 | .seq a b => nodes a + nodes b + 1
 | .cond _ a b => nodes a + nodes b
 | .block _ b => nodes b
 | .loop b => nodes b + 1
 | _ => 0
abbrev rndK {α : Type} (t : An) (kn : List Value → Hp → Option α) (kx : Nat → Fr → Hp → Option α) (kr : Fr → Hp → Option α) : K α := fun e fr H =>
 match e with
 | .normal => kn (t.L.map fr.g) H
 | .exit j => kx j (Fr.of t.M (t.M.map fr.g)) H
 | .ret => kr (Fr.of t.M (t.M.map fr.g)) H
abbrev joinK (t : An) : K JR := fun e fr H =>
 match e with
 | .normal => some (.nrm (t.L.map fr.g) H)
 | .exit j => some (.ex j (Fr.of t.M (t.M.map fr.g)) H)
 | .ret => some (.rt (Fr.of t.M (t.M.map fr.g)) H)
abbrev exK {α : Type} (t : An) (k : K α) : Nat → Fr → Hp → Option α := bif t.x then fun j fr H => k (.exit j) fr H else noX
abbrev rtK {α : Type} (t : An) (k : K α) : Fr → Hp → Option α := bif t.r then fun fr H => k .ret fr H else noR
abbrev evD {α : Type} (P : Program) (C : Cl) (nt : Nat) (ops : Array Oper) (q : Nat) (fr : Fr) (H : Hp) (pn : List PanicEntry → Hp → Option α) (k : Fr → Hp → Option α) : Option α :=
 match storeAt ops q with
 | none => evA P C nt ops (ops.toList.take q) fr H fun fr H' => evOps P C nt ops (ops.toList.drop q) fr (H'.opn H.lim) pn k
 | some s => sb ops[s]? fun o => evB P C nt ops s (ops.toList.take q) 0 fr H [] fr fun fr H' rd fs => evW P o fs (H'.opn H.lim) rd fun H' => evOps P C nt ops (ops.toList.drop q) fr H' pn k
def evCode (P : Program) (C : Cl) (nt n : Nat) : Code → {α : Type} → List (Option An) → Fr → Hp → (List PanicEntry → Hp → Option α) → K α → Option α
 | .skip, _, _, fr, H, _, k => k .normal fr H
 | .region _ ops draw, _, _, fr, H, pn, k => match draw with
   | false => evOps P C nt ops ops.toList fr H pn (k .normal)
   | true => sb (drawAt ops) fun q => evD P C nt ops q fr H pn (k .normal)
 | .seq a b, _, lv, fr, H, pn, k =>
   match lv.headD none with
   | none => evCode P C nt n a lv.tail fr H pn (seqK (fun fr H k => evCode P C nt n b (lv.tail.drop (nodes a)) fr H pn k) k)
   | some t => jn (evCode P C nt n a lv.tail fr H pnJ (joinK t)) pn (exK t k) (rtK t k) fun vs H => evCode P C nt n b (lv.tail.drop (nodes a)) (Fr.of t.L vs) H pn k
 | .cond c a b, _, lv, fr, H, pn, k => ifB (fr.ev P c) (evCode P C nt n a lv fr H pn k) (evCode P C nt n b (lv.drop (nodes a)) fr H pn k)
 | .block id b, _, lv, fr, H, pn, k => evCode P C nt n b lv fr H pn (blkK id k)
 | .loop b, _, lv, fr, H, pn, k =>
   match lv.headD none with
   | none => none
   | some t => lp (fun vs H kn kx kr => evCode P C nt n b lv.tail (Fr.of t.L vs) H pn (rndK t kn kx kr)) n (t.L.map fr.g) H (exK t k) (rtK t k)
 | .exit id, _, _, fr, H, _, k => k (.exit id) fr H
 | .ret, _, _, fr, H, _, k => k .ret fr H
 | _, _, _, _, _, _, _ => none
def evRes (P : Program) (fr : Fr) (H : Hp) : List ResultVar → (List Value → R) → R
 | [], k => k []
 | .tmp t :: rs, k => evRes P fr H rs fun vs => k (fr.g t :: vs)
 | .cell a t :: rs, k => sb (aggT P t) fun g => match g with
   | true => sb (sizeT P t) fun n => (ldN n (fr.g a) H).bind fun v => evRes P fr H rs fun vs => k (v :: vs)
   | false => (ld (fr.g a) H).bind fun v => evRes P fr H rs fun vs => k (v :: vs)
abbrev retV (H : Hp) : List Value → R
 | [v] => some (.ret v, H)
 | vs => some (.ret (.tuple vs.toArray), H)
abbrev finR (g : Fr → Hp → R) : K (Out × Hp) := fun e fr H =>
 match e with
 | .normal => g fr H
 | .ret => g fr H
 | .exit _ => none
abbrev finK (P : Program) (rs : List ResultVar) : K (Out × Hp) := finR fun fr H => evRes P fr H rs (retV H)
def cellsOf : List ResultVar → Option (List Nat)
 | [] => some []
 | .cell a _ :: rs => (cellsOf rs).map fun l => a :: l
 | _ => none
def loB (lo : Nat) : Code → Bool
 | .region _ ops _ => ops.toList.all fun o => match o.dst with | some d => decide (lo ≤ d) | none => true
 | .seq a b => loB lo a && loB lo b
 | .cond _ a b => loB lo a && loB lo b
 | .block _ b => loB lo b
 | .loop b => loB lo b
 | _ => true
structure Off where
 a : Code
 id : Nat
 ops : Array Oper
 o1 : Oper
 o2 : Oper
 t : Tmp
 b : Code
def offOf : Code → Option Off
 | .seq a (.seq (.region id ops false) b) =>
   match ops.toList with
   | [mk, df] => match df.guard, df.op, df.dst with
     | none, .defer c, none => match c.callee, c.args.toList with
       | .value (.tmp t), [] => some ⟨a, id, ops, mk, df, t, b⟩
       | _, _ => none
     | _, _, _ => none
   | _ => none
 | _ => none
structure Rec where
 id : Nat
 ops : Array Oper
 o : Oper
 t : Tmp
 b : Code
def recOf : Code → Option Rec
 | .seq (.region id ops false) b =>
   match ops.toList with
   | [o] => match o.guard, o.op, o.dst with
     | none, .call c, some t => match c.callee with
       | .builtin .recover => some ⟨id, ops, o, t, b⟩
       | _ => none
     | _, _, _ => none
   | _ => none
 | _ => none
def offR (r : Option JR) : Option (Value × Hp) :=
 match r with
 | some (.nrm _ H) => some (.nilIface, H)
 | some (.rt _ H) => some (.nilIface, H)
 | some (.pan [x] H) => if x.recovered = false ∧ x.goexit = false then some (x.v, H) else none
 | _ => none
abbrev offK : K JR := fun e _ H => match e with | .normal => some (.nrm [] H) | .ret => some (.nrm [] H) | .exit _ => none
abbrev recK (g : Hp → R) : K (Out × Hp) := fun e _ H => match e with | .normal => g H | .ret => g H | .exit _ => none
abbrev nrmK {α : Type} (g : Fr → Hp → Option α) : K α := fun e fr H => match e with | .normal => g fr H | _ => none
def evOff (P : Program) (C : Cl) (n : Nat) (lv : List (Option An)) (fn : Func) (d : Off) (args : List Value) (H : Hp) : R :=
 sb (cellsOf fn.results.toList) fun L =>
 bif loB (L.foldl (fun m a => max m (a + 1)) 0) d.b then
   evCode P C fn.ntmps n d.a [] (Fr.args args) H pnN (nrmK fun fr H => evOps P C fn.ntmps d.ops [d.o1] fr H pnN fun fr H =>
     match fr.g d.t with
     | .func (.func g) first cap =>
       sb P.funcs[g]? fun gf => bif gf.name == "runtime.NumGoroutine" || !gf.results.isEmpty then none else sb gf.body fun gc => sb (recOf gc) fun rc =>
       if first.toList.length + cap.toList.length ≤ gf.ntmps ∧ rc.t < gf.ntmps then
         (offR (evCode P C fn.ntmps n d.b lv fr H pnJ offK)).bind fun p =>
         evCode P C gf.ntmps n rc.b [] ((Fr.args (first.toList ++ cap.toList)).p rc.t p.1) p.2 pnN (recK fun H => evRes P (Fr.of L (L.map fr.g)) H fn.results.toList (retV H))
       else none
     | _ => none)
 else none
def evFn (P : Program) (C : Cl) (n : Nat) (lv : List (Option An)) (fn : Func) (args : List Value) (H : Hp) : R :=
 match fn.body with
 | some c => if args.length ≤ fn.ntmps then
     match offOf c with
     | none => evCode P C fn.ntmps n c lv (Fr.args args) H pnK (finK P fn.results.toList)
     | some d => evOff P C n lv fn d args H
   else none
 | none => none
def quietR (H : Hp) (r : R) : R :=
 match r with
 | some (.ret v, H') => if flat v then some (.ret v, H) else some (.ret v, { H' with lim := H.lim })
 | some (.pan c, H') => some (.pan c, { H' with lim := H.lim })
 | none => none
abbrev Pk := List (Nat × Nat × List Value)
def pkV (H : Hp) (v : Value) (bl : Pk) : Option (Value × Pk) :=
 if flat v then some (v, bl) else
 match v with
 | .slice (some ⟨b, o, none⟩) n c => (H.cells b).bind fun cs =>
   if o + n * c ≤ cs.length ∧ ((cs.drop o).take (n * c)).all flat = true then some (.slice (some ⟨Tabs.gn + bl.length, 0, none⟩) n c, bl ++ [(b, o, (cs.drop o).take (n * c))]) else none
 | .pointer (some ⟨b, o, none⟩) => (H.cells b).bind fun cs =>
   if o ≤ cs.length ∧ (cs.drop o).all flat = true then some (.pointer (some ⟨Tabs.gn + bl.length, 0, none⟩), bl ++ [(b, o, cs.drop o)]) else none
 | _ => none
def pkA (H : Hp) : List Value → Pk → Option (List Value × Pk)
 | [], bl => some ([], bl)
 | v :: vs, bl => (pkV H v bl).bind fun (v, bl) => (pkA H vs bl).map fun (vs, bl) => (v :: vs, bl)
def Hp.pk (bl : Pk) : Hp := Hp.cl (bl.foldl (fun H x => H.new (.ro x.2.2)) Hp.fl)
def mvL (f : Value → Hp × List Nat → Option (Value × (Hp × List Nat))) : List Value → Hp × List Nat → Option (List Value × (Hp × List Nat))
 | [], s => some ([], s)
 | v :: vs, s => (f v s).bind fun (v, s) => (mvL f vs s).map fun (vs, s) => (v :: vs, s)
def mvA (f : Value → Hp × List Nat → Option (Value × (Hp × List Nat))) (bl : Pk) (Hs : Hp) (b o : Nat) (s : Hp × List Nat) : Option (Addr × (Hp × List Nat)) :=
 if b < Tabs.gn then some (⟨b, o, none⟩, s) else
 match bl[b - Tabs.gn]? with
 | some (b0, o0, _) => some (⟨b0, o0 + o, none⟩, s)
 | none =>
   match Hs.get b with
   | some (.rw cs) => (mvL f cs s).bind fun (cs, s) => if s.2.contains b then none else some (⟨s.1.next, o, none⟩, (s.1.new (.rw cs), b :: s.2))
   | _ => none
def mvV (bl : Pk) (Hs : Hp) : Nat → Value → Hp × List Nat → Option (Value × (Hp × List Nat))
 | 0, v, s => if flat v then some (v, s) else none
 | n + 1, v, s =>
   if flat v then some (v, s) else
   match v with
   | .slice (some ⟨b, o, none⟩) m c => (mvA (mvV bl Hs n) bl Hs b o s).map fun (a, s) => (.slice (some a) m c, s)
   | .pointer (some ⟨b, o, none⟩) => (mvA (mvV bl Hs n) bl Hs b o s).map fun (a, s) => (.pointer (some a), s)
   | .iface t v => (mvV bl Hs n v s).map fun (v, s) => (.iface t v, s)
   | .agg cs => (mvL (mvV bl Hs n) cs.toList s).map fun (cs, s) => (.agg cs.toArray, s)
   | .tuple cs => (mvL (mvV bl Hs n) cs.toList s).map fun (cs, s) => (.tuple cs.toArray, s)
   | .func fn a b => (mvL (mvV bl Hs n) a.toList s).bind fun (a, s) => (mvL (mvV bl Hs n) b.toList s).map fun (b, s) => (.func fn a.toArray b.toArray, s)
   | _ => none
def mvC (f : Value → Hp × List Nat → Option (Value × (Hp × List Nat))) : List PanicEntry → Hp × List Nat → Option (List PanicEntry × (Hp × List Nat))
 | [], s => some ([], s)
 | x :: xs, s => (f x.v s).bind fun (v, s) => (mvC f xs s).map fun (xs, s) => ({ x with v := v } :: xs, s)
def movR (bl : Pk) (H : Hp) (r : R) : R :=
 match r with
 | some (.ret v, Hs) => (mvV bl Hs 6 v (H, [])).map fun (v, s) => (.ret v, s.1)
 | some (.pan c, Hs) => (mvC (mvV bl Hs 6) c (H, [])).map fun (c, s) => (.pan c, s.1)
 | none => none
def evCall (cf : Cfg) : Nat → Cl
 | 0, _, _, _ => none
 | n + 1, f, args, H =>
   match cf.ext f args with
   | some v => some (.ret v, H)
   | none =>
     match cf.exh f args H with
     | some r => some r
     | none =>
       match cf.P.funcs[f]? with
       | none => none
       | some fn =>
         if cf.quiet f then
           match pkA H args [] with
           | some (args, bl) => movR bl H (evFn cf.P (evCall cf n) n (cf.live f) fn args (Hp.pk bl))
           | none => quietR H (evFn cf.P (evCall cf n) n (cf.live f) fn args H.cl)
         else evFn cf.P (evCall cf n) n (cf.live f) fn args H
end Go.Ev
namespace Go.Ev
open Go
set_option linter.unusedSectionVars false
variable [Tabs]
theorem Map.get_putF {α : Type} (x : Option α) : ∀ (f k j : Nat) (m : Map α), k < f → (Map.putF f m k x).get j = if j = k then x else m.get j
 | 0, _, _, _, h => by omega
 | f + 1, 0, j, .lf, _ => by
   cases j with
   | zero => simp [Map.putF, Map.get]
   | succ j => simp [Map.putF, Map.get]
 | f + 1, 0, j, .nd l v r, _ => by
   cases j with
   | zero => simp [Map.putF, Map.get]
   | succ j => simp [Map.putF, Map.get]
 | f + 1, k + 1, j, .lf, h => by
   have ih := fun j => Map.get_putF x f (k / 2) j (.lf : Map α) (by omega)
   cases j with
   | zero => by_cases hk : k % 2 = 0 <;> simp [Map.putF, Map.get, hk]
   | succ j =>
     by_cases hk : k % 2 = 0 <;> by_cases hj : j % 2 = 0 <;> simp [Map.putF, Map.get, hk, hj, ih] <;> (try omega)
     · by_cases e : j = k
       · simp [e]
       · rw [if_neg (by omega), if_neg e]
     · by_cases e : j = k
       · simp [e]
       · rw [if_neg (by omega), if_neg e]
 | f + 1, k + 1, j, .nd l v r, h => by
   have ihl := fun j => Map.get_putF x f (k / 2) j l (by omega)
   have ihr := fun j => Map.get_putF x f (k / 2) j r (by omega)
   cases j with
   | zero => by_cases hk : k % 2 = 0 <;> simp [Map.putF, Map.get, hk]
   | succ j =>
     by_cases hk : k % 2 = 0 <;> by_cases hj : j % 2 = 0 <;> simp [Map.putF, Map.get, hk, hj, ihl, ihr] <;> (try omega)
     · by_cases e : j = k
       · simp [e]
       · rw [if_neg (by omega), if_neg e]
     · by_cases e : j = k
       · simp [e]
       · rw [if_neg (by omega), if_neg e]
theorem Map.get_put {α : Type} (m : Map α) (k j : Nat) (x : Option α) : (m.put k x).get j = if j = k then x else m.get j :=
 Map.get_putF x (k + 1) k j m (by omega)
@[simp] theorem Hp.get_new (H : Hp) (x : Blk) (j : Nat) : (H.new x).get j = if j = H.next then some x else H.get j := by
 by_cases h : j = H.next <;> simp [Hp.new, Hp.get, Map.get_put, h]
@[simp] theorem Hp.get_set (H : Hp) (b : Nat) (x : Blk) (j : Nat) : (H.set b x).get j = if j = b then some x else H.get j := by
 by_cases h : j = b <;> simp [Hp.set, Hp.get, Map.get_put, h]
theorem Hp.get_del (H : Hp) {b : Nat} (hb : Tabs.gn ≤ b) (j : Nat) : (H.del b).get j = if j = b then none else H.get j := by
 have : Nat.blt b Tabs.gn = false := by
   cases h : Nat.blt b Tabs.gn with
   | false => rfl
   | true => exact absurd (Nat.le_of_ble_eq_true h) (by omega)
 by_cases h : j = b
 · subst h; simp [Hp.del, Hp.get, Map.get_put, this]
 · simp [Hp.del, Hp.get, Map.get_put, h]
@[simp] theorem Hp.next_del (H : Hp) (b : Nat) : (H.del b).next = H.next := rfl
@[simp] theorem Hp.lim_del (H : Hp) (b : Nat) : (H.del b).lim = H.lim := rfl
@[simp] theorem Hp.next_new (H : Hp) (x : Blk) : (H.new x).next = H.next + 1 := rfl
@[simp] theorem Hp.next_set (H : Hp) (b : Nat) (x : Blk) : (H.set b x).next = H.next := rfl
@[simp] theorem Hp.lim_new (H : Hp) (x : Blk) : (H.new x).lim = H.lim := rfl
@[simp] theorem Hp.lim_set (H : Hp) (b : Nat) (x : Blk) : (H.set b x).lim = H.lim := rfl
structure Ren where
 f : Nat → Option (Nat × Nat)
 sz : Nat → Nat
instance : CoeFun Ren (fun _ => Nat → Option (Nat × Nat)) := ⟨Ren.f⟩
structure Ren.le (ρ ρ' : Ren) : Prop where
 f : ∀ i p, ρ i = some p → ρ' i = some p
 sz : ∀ i p, ρ i = some p → ρ'.sz p.1 = ρ.sz p.1
instance {ρ ρ' : Ren} : CoeFun (Ren.le ρ ρ') (fun _ => ∀ i p, ρ i = some p → ρ' i = some p) := ⟨Ren.le.f⟩
inductive VR (ρ : Ren) : Value → Value → Prop
 | dead (v : Value) : VR ρ dead v
 | tok (k : Nat) : VR ρ (.chan (some (k + 1))) (Tabs.tok k)
 | bool (b : Bool) : VR ρ (.bool b) (.bool b)
 | int (k : IntKind) (n : Int) : VR ρ (.int k n) (.int k n)
 | float (k : FloatKind) (n : Nat) : VR ρ (.float k n) (.float k n)
 | complex (k : FloatKind) (a b : Nat) : VR ρ (.complex k a b) (.complex k a b)
 | string (s : ByteArray) : VR ρ (.string s) (.string s)
 | pnil : VR ρ (.pointer none) (.pointer none)
 | ptr {b o b' d : Nat} (h : ρ b = some (b', d)) : VR ρ (.pointer (some ⟨b, o, none⟩)) (.pointer (some ⟨b', o + d, none⟩))
 | snil : VR ρ (.slice none 0 0) (.slice none 0 0)
 | slice {b o b' d n c c' : Nat} (h : ρ b = some (b', d)) (hc : n ≤ c') (hr : o + d + c' * c ≤ ρ.sz b') : VR ρ (.slice (some ⟨b, o, none⟩) n c) (.slice (some ⟨b', o + d, none⟩) n c')
 | sl0 {b o b' o' d c : Nat} (h : ρ b = some (b', d)) : VR ρ (.slice (some ⟨b, o, none⟩) 0 c) (.slice (some ⟨b', o', none⟩) 0 0)
 | mnil : VR ρ (.map none) (.map none)
 | map {r r' : Nat} (h : ρ r = some (r', 0)) : VR ρ (.map (some r)) (.map (some r'))
 | cnil : VR ρ (.chan none) (.chan none)
 | fnil : VR ρ .nilFunc .nilFunc
 | inil : VR ρ .nilIface .nilIface
 | func {fn : Fn} {f f' c c' : List Value} (hf : f.length = f'.length) (hf' : ∀ i, i < f.length → VR ρ (f.getD i undef) (f'.getD i undef))
     (hc : c.length = c'.length) (hc' : ∀ i, i < c.length → VR ρ (c.getD i undef) (c'.getD i undef)) : VR ρ (.func fn ⟨f⟩ ⟨c⟩) (.func fn ⟨f'⟩ ⟨c'⟩)
 | iface {t : TypeId} {v v' : Value} (h : VR ρ v v') : VR ρ (.iface t v) (.iface t v')
 | agg {l l' : List Value} (hs : l.length = l'.length) (h : ∀ i, i < l.length → VR ρ (l.getD i undef) (l'.getD i undef)) : VR ρ (.agg ⟨l⟩) (.agg ⟨l'⟩)
 | tuple {l l' : List Value} (hs : l.length = l'.length) (h : ∀ i, i < l.length → VR ρ (l.getD i undef) (l'.getD i undef)) : VR ρ (.tuple ⟨l⟩) (.tuple ⟨l'⟩)
def VL (ρ : Ren) (l l' : List Value) : Prop := l.length = l'.length ∧ ∀ i, i < l.length → VR ρ (l.getD i undef) (l'.getD i undef)
theorem VR.mono {ρ ρ' : Ren} (hρ : ρ.le ρ') {v v' : Value} (h : VR ρ v v') : VR ρ' v v' := by
 induction h with
 | dead v => exact .dead v
 | tok k => exact .tok k
 | bool b => exact .bool b
 | int k n => exact .int k n
 | float k n => exact .float k n
 | complex k a b => exact .complex k a b
 | string s => exact .string s
 | pnil => exact .pnil
 | ptr h => exact .ptr (hρ _ _ h)
 | snil => exact .snil
 | slice h hc hr => exact .slice (hρ _ _ h) hc (by rw [hρ.sz _ _ h]; exact hr)
 | sl0 h => exact .sl0 (hρ _ _ h)
 | mnil => exact .mnil
 | map h => exact .map (hρ _ _ h)
 | cnil => exact .cnil
 | fnil => exact .fnil
 | inil => exact .inil
 | func hf _ hc _ i1 i2 => exact .func hf i1 hc i2
 | iface _ ih => exact .iface ih
 | agg hs _ ih => exact .agg hs ih
 | tuple hs _ ih => exact .tuple hs ih
theorem VL.mono {ρ ρ' : Ren} (hρ : ρ.le ρ') {l l' : List Value} (h : VL ρ l l') : VL ρ' l l' := ⟨h.1, fun i hi => (h.2 i hi).mono hρ⟩
theorem VL.nil {ρ : Ren} : VL ρ [] [] := ⟨rfl, fun i hi => by simp at hi⟩
theorem VL.cons {ρ : Ren} {v v' : Value} {l l' : List Value} (h : VR ρ v v') (hl : VL ρ l l') : VL ρ (v :: l) (v' :: l') := by
 refine ⟨by simp [hl.1], fun i hi => ?_⟩
 cases i with
 | zero => simpa using h
 | succ i => simpa using hl.2 i (by simpa using hi)
theorem VL.head {ρ : Ren} {v v' : Value} {l l' : List Value} (h : VL ρ (v :: l) (v' :: l')) : VR ρ v v' := by simpa using h.2 0 (by simp)
theorem VL.tail {ρ : Ren} {v v' : Value} {l l' : List Value} (h : VL ρ (v :: l) (v' :: l')) : VL ρ l l' :=
 ⟨by simpa using h.1, fun i hi => by simpa using h.2 (i + 1) (by simpa using hi)⟩
theorem VL.inv_cons {ρ : Ren} {v : Value} {l l' : List Value} (h : VL ρ (v :: l) l') : ∃ v' m, l' = v' :: m ∧ VR ρ v v' ∧ VL ρ l m := by
 cases l' with
 | nil => simp [VL] at h
 | cons v' m => exact ⟨v', m, rfl, h.head, h.tail⟩
theorem VL.inv_nil {ρ : Ren} {l' : List Value} (h : VL ρ [] l') : l' = [] := by
 have := h.1
 cases l' with
 | nil => rfl
 | cons => simp at this
theorem VL.append {ρ : Ren} {a a' b b' : List Value} (ha : VL ρ a a') (hb : VL ρ b b') : VL ρ (a ++ b) (a' ++ b') := by
 induction a generalizing a' with
 | nil => rw [ha.inv_nil]; exact hb
 | cons v a ih =>
   obtain ⟨v', m, rfl, h1, h2⟩ := ha.inv_cons
   exact VL.cons h1 (ih h2)
theorem VL.get {ρ : Ren} {l l' : List Value} (h : VL ρ l l') {i : Nat} {v : Value} (hv : l[i]? = some v) : ∃ v', l'[i]? = some v' ∧ VR ρ v v' := by
 obtain ⟨hi, e⟩ := List.getElem?_eq_some_iff.1 hv
 have h2 := h.2 i hi
 have hi' : i < l'.length := h.1 ▸ hi
 refine ⟨l'[i], by simp [hi'], ?_⟩
 simpa [List.getD_eq_getElem?_getD, hi, hi', e] using h2
theorem VL.of_get {ρ : Ren} {l l' : List Value} (hs : l.length = l'.length) (h : ∀ (i : Nat) (v v' : Value), l[i]? = some v → l'[i]? = some v' → VR ρ v v') : VL ρ l l' := by
 refine ⟨hs, fun i hi => ?_⟩
 have hi' : i < l'.length := hs ▸ hi
 have := h i l[i] l'[i] (by simp [hi]) (by simp [hi'])
 simpa [List.getD_eq_getElem?_getD, hi, hi'] using this
theorem VL.set {ρ : Ren} {l l' : List Value} (h : VL ρ l l') {v v' : Value} (hv : VR ρ v v') (i : Nat) : VL ρ (l.set i v) (l'.set i v') := by
 refine VL.of_get (by simp [h.1]) fun j u u' hu hu' => ?_
 rw [List.getElem?_set] at hu hu'
 by_cases e : i = j
 · subst e
   simp only [if_true] at hu hu'
   by_cases hi : i < l.length
   · rw [if_pos hi] at hu; rw [if_pos (h.1 ▸ hi)] at hu'
     cases hu; cases hu'; exact hv
   · rw [if_neg hi] at hu; cases hu
 · simp only [e, if_false] at hu hu'
   obtain ⟨w, hw, hr⟩ := h.get hu
   rw [hu'] at hw; cases hw; exact hr
theorem VL.drop {ρ : Ren} {l l' : List Value} (h : VL ρ l l') (i : Nat) : VL ρ (l.drop i) (l'.drop i) := by
 refine VL.of_get (by simp [h.1]) fun j u u' hu hu' => ?_
 rw [List.getElem?_drop] at hu hu'
 obtain ⟨w, hw, hr⟩ := h.get hu
 rw [hu'] at hw; cases hw; exact hr
theorem VL.take {ρ : Ren} {l l' : List Value} (h : VL ρ l l') (i : Nat) : VL ρ (l.take i) (l'.take i) := by
 refine VL.of_get (by simp [h.1]) fun j u u' hu hu' => ?_
 rw [List.getElem?_take] at hu hu'
 split at hu
 · rename_i hj
   rw [if_pos hj] at hu'
   obtain ⟨w, hw, hr⟩ := h.get hu
   rw [hu'] at hw; cases hw; exact hr
 · cases hu
theorem VR.flatN_eq {ρ : Ren} {v v' : Value} (h : VR ρ v v') : ∀ n, flatN n v = true → v' = v := by
 induction h with
 | dead v => intro n h; cases n <;> simp [Ev.dead, flatN] at h
 | tok k => intro n h; cases n <;> simp [flatN] at h
 | bool b => intro _ _; rfl
 | int k n => intro _ _; rfl
 | float k n => intro _ _; rfl
 | complex k a b => intro _ _; rfl
 | string s => intro _ _; rfl
 | pnil => intro _ _; rfl
 | ptr h => intro n h; cases n <;> simp [flatN] at h
 | snil => intro _ _; rfl
 | slice h hc hr => intro n h; cases n <;> simp [flatN] at h
 | sl0 _ => intro n h; cases n <;> simp [flatN] at h
 | mnil => intro _ _; rfl
 | map h => intro n h; cases n <;> simp [flatN] at h
 | cnil => intro _ _; rfl
 | fnil => intro _ _; rfl
 | inil => intro _ _; rfl
 | func hf _ hc _ i1 i2 => intro n h; cases n <;> simp [flatN] at h
 | iface _ ih =>
   intro n h
   cases n with
   | zero => simp [flatN] at h
   | succ n => simp only [flatN] at h; rw [ih n h]
 | @agg l l' hs _ ih =>
   intro n h
   cases n with
   | zero => simp [flatN] at h
   | succ n =>
     simp only [flatN, List.all_eq_true] at h
     congr 2
     apply List.ext_getElem hs.symm
     intro i h1 h2
     have := ih i h2 n (by
       have := h (l[i]'h2) (List.getElem_mem h2)
       simpa [List.getD_eq_getElem?_getD, h2] using this)
     simpa [List.getD_eq_getElem?_getD, h1, h2] using this
 | @tuple l l' hs _ ih =>
   intro n h
   cases n with
   | zero => simp [flatN] at h
   | succ n =>
     simp only [flatN, List.all_eq_true] at h
     congr 2
     apply List.ext_getElem hs.symm
     intro i h1 h2
     have := ih i h2 n (by
       have := h (l[i]'h2) (List.getElem_mem h2)
       simpa [List.getD_eq_getElem?_getD, h2] using this)
     simpa [List.getD_eq_getElem?_getD, h1, h2] using this
theorem VR.flat_eq {ρ : Ren} {v v' : Value} (h : VR ρ v v') (hf : flat v = true) : v' = v := h.flatN_eq 4 hf
theorem VR.flatN_refl {ρ : Ren} : ∀ (n : Nat) (v : Value), flatN n v = true → VR ρ v v
 | _, .bool _, _ => .bool _
 | _, .int .., _ => .int ..
 | _, .float .., _ => .float ..
 | _, .complex .., _ => .complex ..
 | _, .string _, _ => .string _
 | _, .pointer none, _ => .pnil
 | _, .pointer (some _), h => by rename_i n _; cases n <;> simp [flatN] at h
 | n, .slice none l c, h => by
   have : l = 0 ∧ c = 0 := by
     cases n <;> (cases l <;> cases c <;> simp [flatN] at h ⊢)
   obtain ⟨rfl, rfl⟩ := this
   exact .snil
 | n, .slice (some _) l c, h => by cases n <;> simp [flatN] at h
 | _, .map none, _ => .mnil
 | n, .map (some _), h => by cases n <;> simp [flatN] at h
 | _, .chan none, _ => .cnil
 | n, .chan (some _), h => by cases n <;> simp [flatN] at h
 | _, .nilFunc, _ => .fnil
 | n, .func .., h => by cases n <;> simp [flatN] at h
 | _, .nilIface, _ => .inil
 | 0, .iface .., h => by simp [flatN] at h
 | n + 1, .iface t v, h => .iface (VR.flatN_refl n v (by simpa [flatN] using h))
 | 0, .agg .., h => by simp [flatN] at h
 | n + 1, .agg ⟨l⟩, h => .agg rfl fun i hi => VR.flatN_refl n _ (by
     simp only [flatN, List.all_eq_true] at h
     exact h _ (by simp [List.getD_eq_getElem?_getD, hi]))
 | 0, .tuple .., h => by simp [flatN] at h
 | n + 1, .tuple ⟨l⟩, h => .tuple rfl fun i hi => VR.flatN_refl n _ (by
     simp only [flatN, List.all_eq_true] at h
     exact h _ (by simp [List.getD_eq_getElem?_getD, hi]))
theorem VR.flD_any {ρ : Ren} {v v' : Value} (h : VR ρ v v') (ρ' : Ren) : ∀ n, flDN n v = true → VR ρ' v v' := by
 induction h with
 | dead v => intro _ _; exact .dead v
 | tok k => intro _ _; exact .tok k
 | bool b => intro _ _; exact .bool b
 | int k n => intro _ _; exact .int k n
 | float k n => intro _ _; exact .float k n
 | complex k a b => intro _ _; exact .complex k a b
 | string s => intro _ _; exact .string s
 | pnil => intro _ _; exact .pnil
 | ptr h => intro n h; cases n <;> simp [flDN] at h
 | snil => intro _ _; exact .snil
 | slice h hc hr => intro n h; cases n <;> simp [flDN] at h
 | sl0 _ => intro n h; cases n <;> simp [flDN] at h
 | mnil => intro _ _; exact .mnil
 | map h => intro n h; cases n <;> simp [flDN] at h
 | cnil => intro _ _; exact .cnil
 | fnil => intro _ _; exact .fnil
 | inil => intro _ _; exact .inil
 | func hf _ hc _ i1 i2 => intro n h; cases n <;> simp [flDN] at h
 | iface _ ih =>
   intro n h
   cases n with
   | zero => simp [flDN] at h
   | succ n => exact .iface (ih n (by simpa [flDN] using h))
 | @agg l l' hs _ ih =>
   intro n h
   cases n with
   | zero => simp [flDN] at h
   | succ n =>
     simp only [flDN, List.all_eq_true] at h
     refine .agg hs fun i hi => ih i hi n ?_
     have := h (l[i]'hi) (List.getElem_mem hi)
     simpa [List.getD_eq_getElem?_getD, hi] using this
 | @tuple l l' hs _ ih =>
   intro n h
   cases n with
   | zero => simp [flDN] at h
   | succ n =>
     simp only [flDN, List.all_eq_true] at h
     refine .tuple hs fun i hi => ih i hi n ?_
     have := h (l[i]'hi) (List.getElem_mem hi)
     simpa [List.getD_eq_getElem?_getD, hi] using this
end Go.Ev
namespace Go.Ev
open Go
set_option linter.unusedSectionVars false
variable [Tabs]
def CellsR (ρ : Ren) (cs : List Value) (c : Array Value) (d : Nat) : Prop :=
 d + cs.length ≤ c.size ∧ ∀ (i : Nat) (v : Value), cs[i]? = some v → ∃ v', c[d + i]? = some v' ∧ VR ρ v v'
def unfrozen (c : Array Value) (z : Nat × Nat) : Prop := ∀ o, o < c.size → ¬ (z.1 ≤ o ∧ o < z.2)
def BlkR (ρ : Ren) (w : World) (b' d : Nat) : Blk → Prop
 | .ro cs => ∃ c e z, w.heap[b']? = some (.cells c e z) ∧ CellsR ρ cs c d ∧ c.size = ρ.sz b'
 | .rw cs => ∃ c e z, w.heap[b']? = some (.cells c e z) ∧ CellsR ρ cs c d ∧ unfrozen c z ∧ c.size = ρ.sz b'
 | .mp es ck => d = 0 ∧ ∃ es', w.heap[b']? = some (.map es' ck) ∧ es.length = es'.size ∧
     ∀ (i : Nat) (x : MapEntry), es[i]? = some x → ∃ x', es'[i]? = some x' ∧ flat x.key = true ∧ x'.key = x.key ∧ x'.born = x.born ∧ VR ρ x.val x'.val
def Blk.opn : Blk → Bool
 | .ro _ => false
 | _ => true
def wr (H : Hp) (i : Nat) : Prop := H.lim ≤ i ∧ ∃ x, H.get i = some x ∧ x.opn = true
def GlobR (ρ : Ren) (g : Nat) : Prop := ρ g = some (g, 0) ∧ ∀ cs, Tabs.base.get g = some (.ro cs) → ρ.sz g = cs.length
theorem GlobR.mono {ρ ρ' : Ren} (hle : ρ.le ρ') {g : Nat} (h : GlobR ρ g) : GlobR ρ' g := ⟨hle _ _ h.1, fun cs hc => (hle.sz g (g, 0) h.1).trans (h.2 cs hc)⟩
structure Sim (P : Program) (ρ : Ren) (H : Hp) (w : World) : Prop where
 blk : ∀ i x b' d, H.get i = some x → ρ i = some (b', d) → BlkR ρ w b' d x
 sep : ∀ i j b' d b'' d', wr H i → (∃ y, H.get j = some y) → i ≠ j → ρ i = some (b', d) → ρ j = some (b'', d') → b' ≠ b''
 low : ∀ i b d, ρ i = some (b, d) → i < H.next ∧ b < w.heap.size
 lim : H.lim ≤ H.next
 glob : ∀ g, g < P.globals.size → GlobR ρ g
 gn : Tabs.gn ≤ H.lim
 flr : ∀ i, i < Tabs.gn → H.get i = Tabs.base.get i
 gg : P.globals.size ≤ Tabs.gn
 tab : ∀ i x, i < Tabs.gn → Tabs.base.get i = some x → ∃ cs, x = .ro cs ∧ cs.all flD = true
structure Stp (P : Program) (ρ : Ren) (H : Hp) (w : World) (ρ' : Ren) (H' : Hp) (w' : World) : Prop where
 sim : Sim P ρ' H' w'
 ext : ρ.le ρ'
 keep : ∀ b, b < w.heap.size → (∀ i d, wr H i → ρ i ≠ some (b, d)) → w'.heap[b]? = w.heap[b]?
 size : w.heap.size ≤ w'.heap.size
 own : ∀ i b d, (wr H' i ∨ H.next ≤ i) → ρ' i = some (b, d) → b < w.heap.size → ∃ j d', wr H j ∧ ρ j = some (b, d')
 old : ∀ i p, ρ' i = some p → i < H.next → ρ i = some p
 fix : ∀ i, i < H.lim → H'.get i = H.get i
 lim : H'.lim = H.lim
 next : H.next ≤ H'.next
 tape : w'.tape = w.tape
 os : w'.os = w.os
 out : w'.output = w.output
theorem Ren.le_refl (ρ : Ren) : ρ.le ρ := ⟨fun _ _ h => h, fun _ _ _ => rfl⟩
theorem Ren.le_trans {a b c : Ren} (h : a.le b) (h' : b.le c) : a.le c := ⟨fun i p hp => h' i p (h i p hp), fun i p hp => (h'.sz i p (h i p hp)).trans (h.sz i p hp)⟩
theorem CellsR.mono {ρ ρ' : Ren} (h : ρ.le ρ') {cs : List Value} {c : Array Value} {d : Nat} (hc : CellsR ρ cs c d) : CellsR ρ' cs c d :=
 ⟨hc.1, fun i v hv => let ⟨v', h1, h2⟩ := hc.2 i v hv; ⟨v', h1, h2.mono h⟩⟩
theorem BlkR.mono {ρ ρ' : Ren} (h : ρ.le ρ') {w w' : World} {b d : Nat} {x : Blk} (hw : w'.heap[b]? = w.heap[b]?) (hz : ρ'.sz b = ρ.sz b) (hb : BlkR ρ w b d x) : BlkR ρ' w' b d x := by
 cases x with
 | ro cs => obtain ⟨c, e, z, h1, h2, h3⟩ := hb; exact ⟨c, e, z, hw.trans h1, h2.mono h, h3.trans hz.symm⟩
 | rw cs => obtain ⟨c, e, z, h1, h2, h3, h4⟩ := hb; exact ⟨c, e, z, hw.trans h1, h2.mono h, h3, h4.trans hz.symm⟩
 | mp es ck =>
   obtain ⟨hd, es', h1, h2, h3⟩ := hb
   exact ⟨hd, es', hw.trans h1, h2, fun i x hx => let ⟨x', a, b, c, e, f⟩ := h3 i x hx; ⟨x', a, b, c, e, f.mono h⟩⟩
theorem Sim.own_refl {P : Program} {ρ : Ren} {H : Hp} {w : World} (h : Sim P ρ H w) {i b d : Nat} (hw : wr H i ∨ H.next ≤ i) (hr : ρ i = some (b, d)) : ∃ j d', wr H j ∧ ρ j = some (b, d') := by
 rcases hw with hw | hw
 · exact ⟨i, d, hw, hr⟩
 · have := (h.low i b d hr).1; omega
theorem Stp.refl {P : Program} {ρ : Ren} {H : Hp} {w : World} (h : Sim P ρ H w) : Stp P ρ H w ρ H w :=
 ⟨h, Ren.le_refl ρ, fun _ _ _ => rfl, Nat.le_refl _, fun _ _ _ hw hr _ => h.own_refl hw hr, fun _ _ hp _ => hp, fun _ _ => rfl, rfl, Nat.le_refl _, rfl, rfl, rfl⟩
theorem Stp.trans {P : Program} {ρ ρ1 ρ2 : Ren} {H H1 H2 : Hp} {w w1 w2 : World} (h : Stp P ρ H w ρ1 H1 w1) (h' : Stp P ρ1 H1 w1 ρ2 H2 w2) : Stp P ρ H w ρ2 H2 w2 where
 sim := h'.sim
 ext := Ren.le_trans h.ext h'.ext
 keep := fun b hb hn => by
   rw [h'.keep b (Nat.lt_of_lt_of_le hb h.size) (fun i d hw hr => ?_), h.keep b hb hn]
   obtain ⟨j, d', hj, hj'⟩ := h.own i b d (.inl hw) hr hb
   exact hn j d' hj hj'
 size := Nat.le_trans h.size h'.size
 own := fun i b d hw hr hb => by
   by_cases hi : wr H2 i ∨ H1.next ≤ i
   · obtain ⟨j, d', hj, hj'⟩ := h'.own i b d hi hr (Nat.lt_of_lt_of_le hb h.size)
     exact h.own j b d' (.inl hj) hj' hb
   · have h1 : ¬ wr H2 i := fun x => hi (.inl x)
     have h2 : ¬ H1.next ≤ i := fun x => hi (.inr x)
     rcases hw with hw | hw
     · exact absurd hw h1
     · exact h.own i b d (.inr hw) (h'.old i _ hr (by omega)) hb
 old := fun i p hp hi => h.old i p (h'.old i p hp (Nat.lt_of_lt_of_le hi h.next)) hi
 fix := fun i hi => (h'.fix i (by rw [h.lim]; exact hi)).trans (h.fix i hi)
 lim := h'.lim.trans h.lim
 next := Nat.le_trans h.next h'.next
 tape := h'.tape.trans h.tape
 os := h'.os.trans h.os
 out := h'.out.trans h.out
def Ren.up (ρ : Ren) (i : Nat) (p : Nat × Nat) (n : Nat) : Ren := ⟨fun j => if j = i then some p else ρ j, fun b => if b = p.1 then n else ρ.sz b⟩
def Ren.ad (ρ : Ren) (i : Nat) (p : Nat × Nat) : Ren := ⟨fun j => if j = i then some p else ρ j, ρ.sz⟩
theorem Ren.up_get (ρ : Ren) (i : Nat) (p : Nat × Nat) (n j : Nat) : (ρ.up i p n) j = if j = i then some p else ρ j := rfl
theorem Ren.ad_get (ρ : Ren) (i : Nat) (p : Nat × Nat) (j : Nat) : (ρ.ad i p) j = if j = i then some p else ρ j := rfl
theorem Ren.up_sz (ρ : Ren) (i : Nat) (p : Nat × Nat) (n : Nat) : (ρ.up i p n).sz p.1 = n := by simp [Ren.up]
theorem Sim.none {P : Program} {ρ : Ren} {H : Hp} {w : World} (h : Sim P ρ H w) {i : Nat} (hi : H.next ≤ i) : ρ i = none := by
 cases e : ρ i with
 | none => rfl
 | some p => obtain ⟨b, d⟩ := p; have := (h.low i b d e).1; omega
theorem Sim.le_up {P : Program} {ρ : Ren} {H : Hp} {w : World} (h : Sim P ρ H w) (d n : Nat) : ρ.le (ρ.up H.next (w.heap.size, d) n) := by
 refine ⟨fun i q hq => ?_, fun i q hq => ?_⟩
 · rw [Ren.up_get]
   split
   · rename_i e; subst e; rw [h.none (Nat.le_refl _)] at hq; cases hq
   · exact hq
 · have := (h.low i q.1 q.2 hq).2
   simp only [Ren.up]
   rw [if_neg (by omega)]
theorem Sim.le_ad {P : Program} {ρ : Ren} {H : Hp} {w : World} (h : Sim P ρ H w) (p : Nat × Nat) : ρ.le (ρ.ad H.next p) := by
 refine ⟨fun i q hq => ?_, fun i q hq => rfl⟩
 rw [Ren.ad_get]
 split
 · rename_i e; subst e; rw [h.none (Nat.le_refl _)] at hq; cases hq
 · exact hq
theorem wr_new {H : Hp} {x : Blk} {i : Nat} (h : wr (H.new x) i) (hi : i ≠ H.next) : wr H i := by
 obtain ⟨h1, y, h2, h3⟩ := h
 exact ⟨h1, y, by simpa [hi] using h2, h3⟩
theorem Sim.new {P : Program} {ρ : Ren} {H : Hp} {w : World} (h : Sim P ρ H w) (o : Obj) (x : Blk) (n : Nat)
   (hx : BlkR (ρ.up H.next (w.heap.size, 0) n) (w.alloc o) w.heap.size 0 x) :
   Stp P ρ H w (ρ.up H.next (w.heap.size, 0) n) (H.new x) (w.alloc o) := by
 have hle := h.le_up 0 n
 have hold : ∀ b, b < w.heap.size → (w.alloc o).heap[b]? = w.heap[b]? := fun b hb => by
   show (w.heap.push o)[b]? = _
   rw [Array.getElem?_push, if_neg (Nat.ne_of_lt hb)]
 refine ⟨⟨?_, ?_, ?_, ?_, ?_, h.gn, fun i hi => by
   have h1 : i < Tabs.gn := hi
   have h2 := h.gn
   have h3 := h.lim
   rw [Hp.get_new, if_neg (by omega)]
   exact h.flr i h1, h.gg, h.tab⟩, hle, fun b hb _ => hold b hb, by simp, ?_, ?_, ?_, rfl, by simp, rfl, rfl, rfl⟩
 · intro i y b d hy hr
   rw [Ren.up_get] at hr
   split at hr
   · rename_i e
     subst e
     cases hr
     simp at hy
     subst hy
     exact hx
   · rename_i e
     simp [e] at hy
     exact (h.blk i y b d hy hr).mono hle (hold b (h.low i b d hr).2) (hle.sz i _ hr)
 · intro i j b d b2 d2 hi hj hne hri hrj
   rw [Ren.up_get] at hri hrj
   split at hri <;> split at hrj
   · omega
   · cases hri; have := (h.low j b2 d2 hrj).2; omega
   · cases hrj; have := (h.low i b d hri).2; omega
   · rename_i e1 e2
     obtain ⟨y, hy⟩ := hj
     exact h.sep i j b d b2 d2 (wr_new hi e1) ⟨y, by simpa [e2] using hy⟩ hne hri hrj
 · intro i b d hr
   rw [Ren.up_get] at hr
   split at hr
   · rename_i e; cases hr; subst e; simp
   · have := h.low i b d hr; simp; omega
 · have := h.lim; simp; omega
 · intro g hg; exact (h.glob g hg).mono hle
 · intro i b d hw hr hb
   rw [Ren.up_get] at hr
   split at hr
   · cases hr; omega
   · rename_i e
     rcases hw with hw | hw
     · exact ⟨i, d, wr_new hw e, hr⟩
     · have := (h.low i b d hr).1; omega
 · intro i p hp hi
   rw [Ren.up_get, if_neg (by omega)] at hp
   exact hp
 · intro i hi
   have := h.lim
   simp
   omega
theorem Sim.adopt {P : Program} {ρ : Ren} {H : Hp} {w : World} (h : Sim P ρ H w) {i b d d' : Nat} {x : Blk} (hg : H.get i = some x) (hx : x.opn = true) (hl : H.lim ≤ i) (hr : ρ i = some (b, d))
   {y : Blk} (hy : BlkR ρ w b d' y) : Stp P ρ H w (ρ.ad H.next (b, d')) ((H.del i).new y) w := by
 have hle := h.le_ad (b, d')
 have hwr : wr H i := ⟨hl, x, hg, hx⟩
 have hgn : Tabs.gn ≤ i := Nat.le_trans h.gn hl
 have hlow := h.low i b d hr
 have hget : ∀ j, ((H.del i).new y).get j = if j = H.next then some y else if j = i then Option.none else H.get j := fun j => by
   rw [Hp.get_new, Hp.next_del, Hp.get_del H hgn]
 have hwr' : ∀ j, j ≠ H.next → wr ((H.del i).new y) j → wr H j ∧ j ≠ i := by
   rintro j hj ⟨h1, z, h2, h3⟩
   rw [hget, if_neg hj] at h2
   split at h2
   · cases h2
   · rename_i e; exact ⟨⟨h1, z, h2, h3⟩, e⟩
 refine ⟨⟨?_, ?_, ?_, ?_, ?_, h.gn, fun j hj => ?_, h.gg, h.tab⟩, hle, fun _ _ _ => rfl, Nat.le_refl _, ?_, ?_, ?_, rfl, by simp, rfl, rfl, rfl⟩
 · intro j z b1 d1 hz hr1
   rw [hget] at hz
   rw [Ren.ad_get] at hr1
   split at hr1
   · rename_i e; rw [if_pos e] at hz; cases hz; cases hr1; exact hy.mono hle rfl rfl
   · rename_i e
     rw [if_neg e] at hz
     split at hz
     · cases hz
     · exact (h.blk j z b1 d1 hz hr1).mono hle rfl rfl
 · intro j k b1 d1 b2 d2 hj hk hne h1 h2
   rw [Ren.ad_get] at h1 h2
   split at h1 <;> split at h2
   · omega
   · rename_i e1 e2
     cases h1
     obtain ⟨z, hz⟩ := hk
     rw [hget, if_neg e2] at hz
     split at hz
     · cases hz
     · rename_i e3
       exact h.sep i k b d b2 d2 hwr ⟨z, hz⟩ (Ne.symm e3) hr h2
   · rename_i e1 e2
     cases h2
     obtain ⟨h3, h4⟩ := hwr' j e1 hj
     exact h.sep j i b1 d1 b d h3 ⟨x, hg⟩ h4 h1 hr
   · rename_i e1 e2
     obtain ⟨z, hz⟩ := hk
     rw [hget, if_neg e2] at hz
     split at hz
     · cases hz
     · exact h.sep j k b1 d1 b2 d2 (hwr' j e1 hj).1 ⟨z, hz⟩ hne h1 h2
 · intro j b1 d1 hr1
   rw [Ren.ad_get] at hr1
   split at hr1
   · rename_i e; cases hr1; subst e; simp; exact hlow.2
   · have := h.low j b1 d1 hr1; simp; omega
 · have := h.lim; simp; omega
 · intro g hg; exact (h.glob g hg).mono hle
 · have h1 : j < Tabs.gn := hj
   have h2 := h.gn
   have h3 := h.lim
   rw [hget, if_neg (by omega), if_neg (by omega)]
   exact h.flr j h1
 · intro j b1 d1 hw hr1 _
   rw [Ren.ad_get] at hr1
   split at hr1
   · cases hr1; exact ⟨i, d, hwr, hr⟩
   · rename_i e
     rcases hw with hw | hw
     · exact ⟨j, d1, (hwr' j e hw).1, hr1⟩
     · have := (h.low j b1 d1 hr1).1; omega
 · intro j p hp hj
   rw [Ren.ad_get, if_neg (by omega)] at hp
   exact hp
 · intro j hj
   have := h.lim
   rw [hget, if_neg (by omega), if_neg (by omega)]
def _root_.Go.World.pb (w : World) (b : Nat) (o : Obj) : World := { w with heap := w.heap.setIfInBounds b o }
theorem World.pb_get (w : World) (b c : Nat) (o : Obj) : (w.pb b o).heap[c]? = if b = c then (if b < w.heap.size then some o else none) else w.heap[c]? := by
 simp only [World.pb, Array.getElem?_setIfInBounds]
theorem Sim.put {P : Program} {ρ : Ren} {H : Hp} {w : World} (h : Sim P ρ H w) {i b d : Nat} {x x' : Blk} {o : Obj} (hg : H.get i = some x) (hx : x.opn = true) (hl : H.lim ≤ i)
   (hr : ρ i = some (b, d)) (hB : BlkR ρ (w.pb b o) b d x') : Stp P ρ H w ρ (H.set i x') (w.pb b o) := by
 have hwr : wr H i := ⟨hl, x, hg, hx⟩
 have hwr' : ∀ j, wr (H.set i x') j → wr H j := by
   rintro j ⟨h1, y, h2, h3⟩
   by_cases e : j = i
   · subst e; exact hwr
   · exact ⟨h1, y, by simpa [e] using h2, h3⟩
 have hoth : ∀ c, c ≠ b → (w.pb b o).heap[c]? = w.heap[c]? := fun c hc => by rw [World.pb_get, if_neg (Ne.symm hc)]
 refine ⟨⟨?_, ?_, ?_, h.lim, h.glob, h.gn, fun j hj => by
   have h1 : j < Tabs.gn := hj
   have h2 := h.gn
   rw [Hp.get_set, if_neg (by omega)]
   exact h.flr j h1, h.gg, h.tab⟩, Ren.le_refl ρ, ?_, by simp [World.pb], fun j c e hw hr' _ => h.own_refl (hw.imp (hwr' j) id) hr', fun _ _ hp _ => hp, fun j hj => by rw [Hp.get_set, if_neg (by omega)], rfl, Nat.le_refl _, rfl, rfl, rfl⟩
 · intro j y c e hy hr'
   by_cases hj : j = i
   · subst hj
     simp at hy
     subst hy
     rw [hr] at hr'
     cases hr'
     exact hB
   · simp [hj] at hy
     exact (h.blk j y c e hy hr').mono (Ren.le_refl ρ) (hoth c (h.sep i j b d c e hwr ⟨y, hy⟩ (Ne.symm hj) hr hr').symm) rfl
 · intro j k c e c2 e2 hj hk hne h1 h2
   refine h.sep j k c e c2 e2 (hwr' j hj) ?_ hne h1 h2
   obtain ⟨y, hy⟩ := hk
   by_cases e : k = i
   · subst e; exact ⟨x, hg⟩
   · exact ⟨y, by simpa [e] using hy⟩
 · intro j c e hr'
   have := h.low j c e hr'
   simpa [World.pb] using this
 · intro c hc hn
   by_cases e : c = b
   · subst e; exact absurd hr (hn i d hwr)
   · exact hoth c e
theorem Sim.same {P : Program} {ρ : Ren} {H : Hp} {w w' : World} (h : Sim P ρ H w) (hh : w'.heap = w.heap) : Sim P ρ H w' where
 blk := fun i x b d hg hr => (h.blk i x b d hg hr).mono (Ren.le_refl ρ) (by rw [hh]) rfl
 sep := h.sep
 low := fun i b d hr => by rw [hh]; exact h.low i b d hr
 lim := h.lim
 glob := h.glob
 gn := h.gn
 flr := h.flr
 gg := h.gg
 tab := h.tab
theorem Stp.drew {P : Program} {ρ : Ren} {H : Hp} {w : World} (h : Sim P ρ H w) : Stp P ρ H w ρ H w.drew :=
 ⟨h.same rfl, Ren.le_refl ρ, fun _ _ _ => rfl, Nat.le_refl _, fun _ _ _ hw hr _ => h.own_refl hw hr, fun _ _ hp _ => hp, fun _ _ => rfl, rfl, Nat.le_refl _, rfl, rfl, rfl⟩
def Ren.cut (ρ : Ren) (n : Nat) : Ren := ⟨fun i => if i < n then ρ i else none, ρ.sz⟩
theorem Ren.cut_get (ρ : Ren) (n i : Nat) : (ρ.cut n) i = if i < n then ρ i else none := rfl
theorem Ren.cut_some {ρ : Ren} {n k : Nat} {p : Nat × Nat} (h : ρ.cut n k = some p) : k < n ∧ ρ k = some p := by
 rw [Ren.cut_get] at h
 split at h
 · exact ⟨by assumption, h⟩
 · cases h
theorem Ren.cut_le (ρ : Ren) (n : Nat) : (ρ.cut n).le ρ := ⟨fun i p h => (Ren.cut_some h).2, fun _ _ _ => rfl⟩
theorem Ren.cut_mono {ρ ρ' : Ren} (h : ρ.le ρ') {n m : Nat} (hnm : n ≤ m) : (ρ.cut n).le (ρ'.cut m) := by
 refine ⟨fun i p hp => ?_, fun i p hp => h.sz i p (Ren.cut_some hp).2⟩
 obtain ⟨h1, h2⟩ := Ren.cut_some hp
 rw [Ren.cut_get, if_pos (by omega)]; exact h i p h2
theorem Hp.fl_get {i : Nat} (hi : i < Tabs.gn) : Hp.fl.get i = Tabs.base.get i := by
 have : Nat.blt i Tabs.gn = true := Nat.ble_eq_true_of_le hi
 simp [Hp.fl, Hp.get, Map.get, this]
theorem Sim.floor {P : Program} {ρ : Ren} {H : Hp} {w : World} (h : Sim P ρ H w) : Sim P (ρ.cut Tabs.gn) Hp.fl w := by
 have hget : ∀ i, i < Tabs.gn → Hp.fl.get i = H.get i := fun i hi => (Hp.fl_get hi).trans (h.flr i hi).symm
 refine ⟨fun i x b d hx hr => ?_, fun i j b d b2 d2 hw _ _ hr _ => ?_, fun i b d hr => ?_, Nat.le_refl _, fun g hg => ?_, Nat.le_refl _, fun i hi => ?_, h.gg, h.tab⟩
 · obtain ⟨h1, h2⟩ := Ren.cut_some hr
   have hx' := (hget i h1).symm.trans hx
   obtain ⟨cs, rfl, hf⟩ := h.tab i x h1 ((h.flr i h1).symm.trans hx')
   obtain ⟨c, e, z, h3, ⟨h4, h5⟩, h6⟩ := h.blk i _ b d hx' h2
   refine ⟨c, e, z, h3, ⟨h4, fun j v hv => ?_⟩, h6⟩
   obtain ⟨v', h6, h7⟩ := h5 j v hv
   have hfl : flD v = true := List.all_eq_true.1 hf v (List.mem_of_getElem? hv)
   exact ⟨v', h6, h7.flD_any _ 4 hfl⟩
 · have h1 : Tabs.gn ≤ i := hw.1
   have h2 := (Ren.cut_some hr).1
   omega
 · obtain ⟨h1, h2⟩ := Ren.cut_some hr
   exact ⟨h1, (h.low i b d h2).2⟩
 · have := h.gg
   exact ⟨by rw [Ren.cut_get, if_pos (by omega)]; exact (h.glob g hg).1, (h.glob g hg).2⟩
 · exact (hget i hi).trans (h.flr i hi)
theorem Sim.cellsZ {P : Program} {ρ : Ren} {H : Hp} {w : World} (h : Sim P ρ H w) {b : Nat} {cs : List Value} (hc : H.cells b = some cs) {b' d : Nat} (hr : ρ b = some (b', d)) :
   ∃ c e z, w.heap[b']? = some (.cells c e z) ∧ CellsR ρ cs c d ∧ c.size = ρ.sz b' := by
 unfold Hp.cells at hc
 split at hc
 · rename_i x hx
   cases hc
   obtain ⟨c, e, z, h1, h2, _, h4⟩ := h.blk b _ b' d hx hr
   exact ⟨c, e, z, h1, h2, h4⟩
 · rename_i x hx
   cases hc
   exact h.blk b _ b' d hx hr
 · cases hc
theorem Sim.cells {P : Program} {ρ : Ren} {H : Hp} {w : World} (h : Sim P ρ H w) {b : Nat} {cs : List Value} (hc : H.cells b = some cs) {b' d : Nat} (hr : ρ b = some (b', d)) :
   ∃ c e z, w.heap[b']? = some (.cells c e z) ∧ CellsR ρ cs c d := by
 obtain ⟨c, e, z, h1, h2, _⟩ := h.cellsZ hc hr
 exact ⟨c, e, z, h1, h2⟩
theorem cell?_of {w : World} {b o : Nat} {c : Array Value} {e : TypeId} {z : Nat × Nat} (h : w.heap[b]? = some (.cells c e z)) : w.cell? ⟨b, o, none⟩ = c[o]? := by
 simp [World.cell?, h]
theorem add_none (b o n : Nat) : Addr.add ⟨b, o, none⟩ n = ⟨b, o + n, none⟩ := by
 unfold Addr.add; split <;> simp_all
end Go.Ev
