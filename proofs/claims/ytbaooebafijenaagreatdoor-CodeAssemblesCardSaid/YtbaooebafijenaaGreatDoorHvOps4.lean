/- What the machine does at an operation, held against the evaluator: lengths, slicings, literals, new memory. -/
import Derived.Test.YtbaooebafijenaaGreatDoorHvOps
import Derived.ChangeKeysEq
namespace Go.Ev
open Go
set_option linter.unusedSectionVars false
variable [Tabs]
variable {P : Program} {ρ : Ren} {H : Hp} {w : World}
theorem fa_sound {s : TypeId} {f : Nat} {g : Bool} {n off : Nat} (ht : fieldT P s f = some (g, n, off)) {a a' v : Value} (ha : VR ρ a a') (h : fa off a = some v) (w : World) :
   ∃ v', (Instr.fieldAt s a' f).run P w = .ok v' w ∧ VR ρ v v' := by
 unfold fieldT at ht
 cases hu : P.underlying s with
 | none => simp [hu] at ht
 | some d =>
   cases d <;> simp only [hu] at ht <;> try cases ht
   rename_i fs
   cases hf : fs[f]? with
   | none => simp [hf] at ht
   | some fd =>
     simp only [hf] at ht
     cases hg : aggT P fd.type with
     | none => simp [hg] at ht
     | some g' =>
       cases hn : sizeT P fd.type with
       | none => simp [hg, hn] at ht
       | some n' =>
         simp only [hg, hn, Option.bind_some] at ht
         split at ht
         · cases ht
         · rename_i h0
           cases ht
           cases ha with
           | @ptr b o b' d hr =>
             simp [fa] at h
             subst h
             refine ⟨.pointer (some ⟨b', o + d + fd.offset, none⟩), ?_, ?_⟩
             · simp [Instr.fieldAt, run_underlying hu, hf, Instr.sureAddr, fieldPlace, run_sizeT hn, h0, add_none]
             · have := VR.ptr (ρ := ρ) (o := o + fd.offset) hr
               rwa [show o + fd.offset + d = o + d + fd.offset from by omega] at this
           | _ => simp [fa, Ev.dead] at h
theorem elemT_array {t : TypeId} {n : Nat} {g : Bool} {s : Nat} (h : elemT P t = some (some n, g, s)) : ∃ e, P.underlying t = some (.array n e) ∧ aggT P e = some g ∧ sizeT P e = some s := by
 unfold elemT at h
 cases hu : P.underlying t with
 | none => simp [hu] at h
 | some d =>
   cases d <;> simp only [hu] at h <;> try cases h
   · rename_i e
     cases hg : aggT P e <;> cases hn : sizeT P e <;> simp [hg, hn] at h
   · rename_i m e
     cases hg : aggT P e <;> cases hn : sizeT P e <;> simp [hg, hn] at h
     obtain ⟨rfl, rfl, rfl⟩ := h
     exact ⟨e, rfl, hg, hn⟩
theorem elemT_slice {t : TypeId} {g : Bool} {s : Nat} (h : elemT P t = some (none, g, s)) : ∃ e, P.underlying t = some (.slice e) ∧ aggT P e = some g ∧ sizeT P e = some s := by
 unfold elemT at h
 cases hu : P.underlying t with
 | none => simp [hu] at h
 | some d =>
   cases d <;> simp only [hu] at h <;> try cases h
   · rename_i e
     cases hg : aggT P e <;> cases hn : sizeT P e <;> simp [hg, hn] at h
     obtain ⟨rfl, rfl⟩ := h
     exact ⟨e, rfl, hg, hn⟩
   · rename_i m e
     cases hg : aggT P e <;> cases hn : sizeT P e <;> simp [hg, hn] at h
theorem VR.int_inv {k : IntKind} {n : Int} {v : Value} (h : VR ρ (.int k n) v) : v = .int k n := by cases h; rfl
theorem ia_sound {t : TypeId} {n : Nat} {g : Bool} {s : Nat} (ht : elemT P t = some (some n, g, s)) {a a' i i' v : Value} (ha : VR ρ a a') (hi : VR ρ i i') (h : ia n s a i = some v) (w : World) :
   ∃ v', (Instr.indexAt t a' i').run P w = .ok v' w ∧ VR ρ v v' := by
 obtain ⟨e, hu, hg, hn⟩ := elemT_array ht
 cases ha with
 | @ptr b o b' d hr =>
   cases hi with
   | int k x =>
     simp only [ia] at h
     split at h
     · rename_i hc
       cases h
       refine ⟨.pointer (some ⟨b', o + d + x.toNat * s, none⟩), ?_, ?_⟩
       · simp [Instr.indexAt, asIntOf, run_underlying hu, Instr.sureAddr, hc, run_sizeT hn, add_none]
       · have := VR.ptr (ρ := ρ) (o := o + x.toNat * s) hr
         rwa [show o + x.toNat * s + d = o + d + x.toNat * s from by omega] at this
     · cases h
   | _ => simp [ia, Ev.dead] at h
 | _ => simp [ia, Ev.dead] at h
theorem sa_sound {t : TypeId} {g : Bool} {s : Nat} (ht : elemT P t = some (none, g, s)) {a a' i i' v : Value} (ha : VR ρ a a') (hi : VR ρ i i') (h : sa s a i = some v) (w : World) :
   ∃ v', (Instr.indexAt t a' i').run P w = .ok v' w ∧ VR ρ v v' := by
 obtain ⟨e, hu, hg, hn⟩ := elemT_slice ht
 cases ha with
 | @slice b o b' d m c c' hr hc' =>
   cases hi with
   | int k x =>
     simp only [sa] at h
     split at h
     · rename_i hc
       cases h
       refine ⟨.pointer (some ⟨b', o + d + x.toNat * s, none⟩), ?_, ?_⟩
       · simp [Instr.indexAt, asIntOf, run_underlying hu, hc, run_sizeT hn, add_none]
       · have := VR.ptr (ρ := ρ) (o := o + x.toNat * s) hr
         rwa [show o + x.toNat * s + d = o + d + x.toNat * s from by omega] at this
     · cases h
   | _ => simp [sa, Ev.dead] at h
 | sl0 _ =>
   cases hi with
   | int k x =>
     simp only [sa] at h
     split at h
     · omega
     · cases h
   | _ => simp [sa, Ev.dead] at h
 | _ => simp [sa, Ev.dead] at h
theorem part_sound {e : TypeId} {g : Bool} {n off : Nat} (hg : aggT P e = some g) (hn : sizeT P e = some n) {cs cs' : List Value} {v : Value} (hc : VL ρ cs cs') (h : part g n off ⟨cs⟩ = some v) (w : World) :
   ∃ v', (Go.part e ⟨cs'⟩ off).run P w = .ok v' w ∧ VR ρ v v' := by
 unfold part at h
 cases g with
 | true =>
   simp only [if_true] at h
   split at h
   · rename_i hle
     cases h
     refine ⟨.agg ((⟨cs'⟩ : Array Value).extract off (off + n)), by simp [Go.part, run_aggT hg, run_sizeT hn], ?_⟩
     have h1 : (⟨cs⟩ : Array Value).extract off (off + n) = ⟨(cs.drop off).take n⟩ := by
       apply Array.ext'; simp
     have h2 : (⟨cs'⟩ : Array Value).extract off (off + n) = ⟨(cs'.drop off).take n⟩ := by
       apply Array.ext'; simp
     rw [h1, h2]
     have := (hc.drop off).take n
     exact .agg this.1 this.2
   · cases h
 | false =>
   simp only [Bool.false_eq_true, if_false] at h
   obtain ⟨v', h1, h2⟩ := hc.get (i := off) (by simpa using h)
   exact ⟨v', by simp [Go.part, run_aggT hg, h1], h2⟩
theorem fld_sound {s : TypeId} {f : Nat} {g : Bool} {n off : Nat} (ht : fieldT P s f = some (g, n, off)) {a a' v : Value} (ha : VR ρ a a') (h : fld g n off a = some v) (w : World) :
   ∃ v', (Instr.field s a' f).run P w = .ok v' w ∧ VR ρ v v' := by
 unfold fieldT at ht
 cases hu : P.underlying s with
 | none => simp [hu] at ht
 | some d =>
   cases d <;> simp only [hu] at ht <;> try cases ht
   rename_i fs
   cases hf : fs[f]? with
   | none => simp [hf] at ht
   | some fd =>
     simp only [hf] at ht
     cases hg : aggT P fd.type with
     | none => simp [hg] at ht
     | some g' =>
       cases hn : sizeT P fd.type with
       | none => simp [hg, hn] at ht
       | some n' =>
         simp only [hg, hn, Option.bind_some] at ht
         split at ht
         · cases ht
         · cases ht
           cases ha with
           | @agg l l' hs hl =>
             simp only [fld] at h
             obtain ⟨v', h1, h2⟩ := part_sound hg hn ⟨hs, hl⟩ h w
             exact ⟨v', by simp [Instr.field, run_underlying hu, hf, asAgg, h1], h2⟩
           | _ => simp [fld, Ev.dead] at h
theorem ix_sound {t : TypeId} {n : Nat} {g : Bool} {s : Nat} (ht : elemT P t = some (some n, g, s)) {a a' i i' v : Value} (ha : VR ρ a a') (hi : VR ρ i i') (h : ix g n s a i = some v) (w : World) :
   ∃ v', (Instr.index t a' i').run P w = .ok v' w ∧ VR ρ v v' := by
 obtain ⟨e, hu, hg, hn⟩ := elemT_array ht
 cases ha with
 | @agg l l' hs hl =>
   cases hi with
   | int k x =>
     simp only [ix] at h
     split at h
     · rename_i hc
       obtain ⟨v', h1, h2⟩ := part_sound hg hn ⟨hs, hl⟩ h w
       exact ⟨v', by simp [Instr.index, asIntOf, run_underlying hu, hc, run_sizeT hn, h1], h2⟩
     · cases h
   | _ => simp [ix, Ev.dead] at h
 | _ => simp [ix, Ev.dead] at h
theorem sx_sound {t : TypeId} (hu : P.underlying t = some .string) {a a' i i' v : Value} (ha : VR ρ a a') (hi : VR ρ i i') (h : sx a i = some v) (w : World) :
   ∃ v', (Instr.index t a' i').run P w = .ok v' w ∧ VR ρ v v' := by
 cases ha with
 | string s =>
   cases hi with
   | int k x =>
     simp only [sx] at h
     split at h
     · rename_i hc
       cases hs : s[x.toNat]? with
       | none => simp [hs] at h
       | some b =>
         simp [hs] at h
         subst h
         exact ⟨_, by simp [Instr.index, asIntOf, run_underlying hu, hc, hs], .int _ _⟩
     · cases h
   | _ => simp [sx, Ev.dead] at h
 | _ => simp [sx, Ev.dead] at h
theorem bin_int_sound {t : TypeId} {q : Nat} {op : BinOp} {k k' : IntKind} {a b : Int} {v : Value} (h : bin q op (.int k a) (.int k' b) = some v) (w : World) :
   (binOp op t (.int k a) (.int k' b)).run P w = .ok v w ∧ flat v = true := by
 simp only [bin] at h
 cases op <;> simp only [binI, shift, bits] at h <;>
   (repeat' split at h) <;> first
     | (cases h; done)
     | (cases h; simp_all [binOp, Op.intArith, Op.intDiv, Op.intBits, Op.intCmp, flat, flatN]; done)
     | (cases h; rename_i hb; simp [binOp, Op.shift, hb, flat, flatN]; done)
theorem bin_str_sound {t : TypeId} {q : Nat} {op : BinOp} {a b : ByteArray} {v : Value} (h : bin q op (.string a) (.string b) = some v) (w : World) :
   (binOp op t (.string a) (.string b)).run P w = .ok v w ∧ flat v = true := by
 simp only [bin] at h
 cases op <;> simp only [binS] at h <;> (repeat' split at h) <;> first
     | (cases h; done)
     | (cases h; simp_all [binOp, Op.stringOp, flat, flatN]; done)
theorem bin_bool_sound {t : TypeId} {op : BinOp} {a b : Bool} {v : Value} (hu : P.underlying t = some .bool) (h : bin 1 op (.bool a) (.bool b) = some v) (w : World) :
   (binOp op t (.bool a) (.bool b)).run P w = .ok v w ∧ flat v = true := by
 simp only [bin, if_true] at h
 cases op <;> simp only at h <;> first
     | (cases h; done)
     | (cases h; simp [binOp, Op.equal, Op.maxDepth, run_equalIn_bool _ _ _ _ _ hu, flat, flatN]; done)
theorem un_sound {op : UnOp} {a a' v : Value} (ha : VR ρ a a') (h : un op a = some v) (w : World) : (Op.unary op a').run P w = .ok v w ∧ flat v = true := by
 cases ha <;> cases op <;> simp only [un, Ev.dead] at h <;> first
   | (cases h; done)
   | (cases h; simp [Op.unary, Op.intArith, flat, flatN]; done)
   | (simp only [bits] at h; cases h; simp [Op.unary, Op.intBits, flat, flatN]; done)
theorem seqS_length : ∀ (l : List Nat) (xs ys : List Value) (r : Bool), seqS l xs ys = some r → xs.length = l.length ∧ ys.length = l.length
 | [], [], [], _, _ => ⟨rfl, rfl⟩
 | [], _ :: _, _, _, h => by simp [seqS] at h
 | [], [], _ :: _, _, h => by simp [seqS] at h
 | _ :: _, [], _, _, h => by simp [seqS] at h
 | _ :: _, _ :: _, [], _, h => by simp [seqS] at h
 | k :: l, x :: xs, y :: ys, r, h => by
   simp only [seqS] at h
   cases h1 : seq1 k x y with
   | none => simp [h1] at h
   | some b =>
     cases h2 : seqS l xs ys with
     | none => simp [h1, h2] at h
     | some c => have := seqS_length l xs ys c h2; simp [this.1, this.2]
theorem seqS_split : ∀ (l m : List Nat) (xs ys : List Value) (r : Bool), seqS (l ++ m) xs ys = some r →
   ∃ r1 r2, seqS l (xs.take l.length) (ys.take l.length) = some r1 ∧ seqS m (xs.drop l.length) (ys.drop l.length) = some r2 ∧ r = (r1 && r2)
 | [], m, xs, ys, r, h => ⟨true, r, by simp [seqS], by simpa using h, by simp⟩
 | k :: l, m, xs, ys, r, h => by
   obtain ⟨h1, h2⟩ := seqS_length _ _ _ _ h
   match xs, ys, h1, h2 with
   | x :: xs, y :: ys, _, _ =>
     simp only [List.cons_append, seqS] at h
     cases e1 : seq1 k x y with
     | none => simp [e1] at h
     | some b =>
       cases e2 : seqS (l ++ m) xs ys with
       | none => simp [e1, e2] at h
       | some c =>
         obtain ⟨r1, r2, e3, e4, e5⟩ := seqS_split l m xs ys c e2
         simp [e1, e2] at h
         exact ⟨b && r1, r2, by simp [seqS, e1, e3], by simpa using e4, by rw [← h, e5, Bool.and_assoc]⟩
def valOf (g : Bool) (xs : List Value) : Value := if g then .agg ⟨xs⟩ else xs.getD 0 undef
theorem run_part_valOf {e : TypeId} {g : Bool} {n off : Nat} (hg : aggT P e = some g) (hn : sizeT P e = some n) (h1 : g = false → n = 1) {xs : List Value} (hx : off + n ≤ xs.length) (w : World) :
   (Go.part e ⟨xs⟩ off).run P w = .ok (valOf g ((xs.drop off).take n)) w := by
 cases g with
 | true =>
   have h2 : (⟨xs⟩ : Array Value).extract off (off + n) = ⟨(xs.drop off).take n⟩ := by
     apply Array.ext'; simp
   simp [Go.part, run_aggT hg, run_sizeT hn, valOf]
 | false =>
   have := h1 rfl
   subst this
   have : (⟨xs⟩ : Array Value)[off]? = some (xs[off]'(by omega)) := by simp
   simp only [Go.part, run_aggT hg, Sem.run_bind, Result.andThen_ok, Bool.false_eq_true, if_false, this, Sem.run_pure, valOf]
   congr 1
   rw [List.getD_eq_getElem?_getD, List.getElem?_take, if_pos (by omega), List.getElem?_drop]
   simp
   rw [List.getElem?_eq_getElem (by omega)]
   rfl
theorem sized_some {t : TypeId} {l m : List Nat} (h : sized P t l = some m) : m = l ∧ sizeT P t = some l.length := by
 unfold sized at h
 split at h
 · cases h; exact ⟨rfl, by assumption⟩
 · cases h
theorem shapeT_info {d : Nat} {t : TypeId} {l : List Nat} (h : shapeT P d t = some l) : ∃ g, aggT P t = some g ∧ sizeT P t = some l.length ∧ (g = false → l.length = 1) := by
 cases d with
 | zero => simp [shapeT] at h
 | succ d =>
   simp only [shapeT] at h
   cases hu : P.underlying t with
   | none => simp [hu] at h
   | some dd =>
     cases dd <;> simp only [hu] at h <;> try cases h
     · obtain ⟨rfl, h2⟩ := sized_some h; exact ⟨false, by simp [aggT, hu], h2, fun _ => rfl⟩
     · obtain ⟨rfl, h2⟩ := sized_some h; exact ⟨false, by simp [aggT, hu], h2, fun _ => rfl⟩
     · obtain ⟨rfl, h2⟩ := sized_some h; exact ⟨false, by simp [aggT, hu], h2, fun _ => rfl⟩
     · rename_i n e
       cases hs : shapeT P d e with
       | none => simp [hs] at h
       | some m => simp [hs] at h; obtain ⟨rfl, h2⟩ := sized_some h; exact ⟨true, by simp [aggT, hu], h2, fun h => by cases h⟩
     · rename_i fs
       split at h
       · cases h
       · cases hs : shapeF (shapeT P d) fs.toList 0 with
         | none => simp [hs] at h
         | some m => simp [hs] at h; obtain ⟨rfl, h2⟩ := sized_some h; exact ⟨true, by simp [aggT, hu], h2, fun h => by cases h⟩
theorem run_eqFields_shape {d D : Nat} (ih : ∀ (t : TypeId) (l : List Nat) (g : Bool), shapeT P d t = some l → aggT P t = some g → ∀ (xs ys : List Value) (r : Bool), seqS l xs ys = some r → ∀ w,
     (Op.equalIn D t (valOf g xs) (valOf g ys)).run P w = .ok r w) :
   ∀ (fs : List Field) (o : Nat) (l : List Nat) (xs ys : List Value) (r : Bool), shapeF (shapeT P d) fs o = some l → seqS l (xs.drop o) (ys.drop o) = some r → ∀ w,
     (Op.eqFields D ⟨xs⟩ ⟨ys⟩ fs).run P w = .ok r w
 | [], o, l, xs, ys, r, h, hr, w => by
   simp [shapeF] at h
   subst h
   cases hx : xs.drop o <;> cases hy : ys.drop o <;> simp [hx, hy, seqS] at hr
   subst hr
   simp [Op.eqFields]
 | f :: fs, o, l, xs, ys, r, h, hr, w => by
   simp only [shapeF] at h
   split at h
   · cases h
   · rename_i hc
     obtain ⟨hname, hoff⟩ : f.name ≠ "_" ∧ f.offset = o := by
       constructor
       · exact fun e => hc (.inl e)
       · exact Classical.byContradiction fun e => hc (.inr e)
     cases hs : shapeT P d f.type with
     | none => simp [hs] at h
     | some m =>
       simp only [hs, Option.bind_some] at h
       cases hm : shapeF (shapeT P d) fs (o + m.length) with
       | none => simp [hm] at h
       | some m2 =>
         simp [hm] at h
         subst h
         obtain ⟨r1, r2, h1, h2, rfl⟩ := seqS_split m m2 _ _ r hr
         obtain ⟨g, hg, hn, hg1⟩ := shapeT_info hs
         have hl := seqS_length _ _ _ _ hr
         have hlx : o + m.length ≤ xs.length ∨ m.length = 0 := by have := hl.1; simp at this; omega
         have hly : o + m.length ≤ ys.length ∨ m.length = 0 := by have := hl.2; simp at this; omega
         have px : (Go.part f.type ⟨xs⟩ f.offset).run P w = .ok (valOf g ((xs.drop o).take m.length)) w := by
           rw [hoff]
           rcases hlx with hlx | hlx
           · exact run_part_valOf hg hn hg1 hlx w
           · cases g with
             | false => have := hg1 rfl; omega
             | true => simp [Go.part, run_aggT hg, run_sizeT hn, valOf, hlx]
         have py : (Go.part f.type ⟨ys⟩ f.offset).run P w = .ok (valOf g ((ys.drop o).take m.length)) w := by
           rw [hoff]
           rcases hly with hly | hly
           · exact run_part_valOf hg hn hg1 hly w
           · cases g with
             | false => have := hg1 rfl; omega
             | true => simp [Go.part, run_aggT hg, run_sizeT hn, valOf, hly]
         simp only [Op.eqFields, hname, ne_eq, not_false_eq_true, if_true, Sem.run_bind, px, py, Result.andThen_ok, ih _ _ _ hs hg _ _ _ h1 w]
         cases r1
         · simp
         · simp only [Bool.not_true, Bool.false_eq_true, if_false, Bool.true_and]
           exact run_eqFields_shape ih fs (o + m.length) m2 xs ys r2 hm (by simpa using h2) w
theorem run_eqItems_shape {d D : Nat} {e : TypeId} {l : List Nat} {g : Bool} (hs : shapeT P d e = some l) (hg : aggT P e = some g) (hn : sizeT P e = some l.length) (hg1 : g = false → l.length = 1)
   (ih : ∀ (xs ys : List Value) (r : Bool), seqS l xs ys = some r → ∀ w, (Op.equalIn D e (valOf g xs) (valOf g ys)).run P w = .ok r w) (xs ys : List Value) :
   ∀ (n k : Nat) (r : Bool), seqS (List.replicate n l).flatten (xs.drop (k * l.length)) (ys.drop (k * l.length)) = some r → ∀ w,
     (Op.eqItems D e l.length ⟨xs⟩ ⟨ys⟩ (List.range' k n)).run P w = .ok r w
 | 0, k, r, hr, w => by
   cases hx : xs.drop (k * l.length) <;> cases hy : ys.drop (k * l.length) <;> simp [hx, hy, seqS] at hr
   subst hr
   simp [Op.eqItems]
 | n + 1, k, r, hr, w => by
   simp only [List.replicate_succ, List.flatten_cons] at hr
   obtain ⟨r1, r2, h1, h2, rfl⟩ := seqS_split l _ _ _ r hr
   have hl := seqS_length _ _ _ _ hr
   have px : (Go.part e ⟨xs⟩ (k * l.length)).run P w = .ok (valOf g ((xs.drop (k * l.length)).take l.length)) w := by
     rcases Nat.eq_zero_or_pos l.length with h0 | h0
     · cases g with
       | false => have := hg1 rfl; omega
       | true => simp [Go.part, run_aggT hg, run_sizeT hn, valOf, h0]
     · exact run_part_valOf hg hn hg1 (by have := hl.1; simp at this; omega) w
   have py : (Go.part e ⟨ys⟩ (k * l.length)).run P w = .ok (valOf g ((ys.drop (k * l.length)).take l.length)) w := by
     rcases Nat.eq_zero_or_pos l.length with h0 | h0
     · cases g with
       | false => have := hg1 rfl; omega
       | true => simp [Go.part, run_aggT hg, run_sizeT hn, valOf, h0]
     · exact run_part_valOf hg hn hg1 (by have := hl.2; simp at this; omega) w
   simp only [List.range'_succ, Op.eqItems, Sem.run_bind, px, py, Result.andThen_ok, ih _ _ _ h1 w]
   cases r1
   · simp
   · simp only [Bool.not_true, Bool.false_eq_true, if_false, Bool.true_and]
     refine run_eqItems_shape hs hg hn hg1 ih xs ys n (k + 1) r2 ?_ w
     simpa [Nat.add_mul] using h2
theorem run_equal_shape : ∀ (d D : Nat), d ≤ D → ∀ (t : TypeId) (l : List Nat) (g : Bool), shapeT P d t = some l → aggT P t = some g → ∀ (xs ys : List Value) (r : Bool), seqS l xs ys = some r → ∀ w,
   (Op.equalIn D t (valOf g xs) (valOf g ys)).run P w = .ok r w
 | 0, _, _, _, _, _, h, _, _, _, _, _, _ => by simp [shapeT] at h
 | d + 1, 0, hD, _, _, _, _, _, _, _, _, _, _ => by omega
 | d + 1, D + 1, hD, t, l, g, h, hg, xs, ys, r, hr, w => by
   have ih := run_equal_shape d D (by omega)
   simp only [shapeT] at h
   cases hu : P.underlying t with
   | none => simp [hu] at h
   | some dd =>
     cases dd <;> simp only [hu] at h <;> try cases h
     · obtain ⟨rfl, _⟩ := sized_some h
       simp [aggT, hu] at hg; subst hg
       match xs, ys, seqS_length _ _ _ _ hr with
       | [x], [y], _ =>
         cases x <;> cases y <;> simp [seqS, seq1] at hr
         subst hr
         simpa [valOf] using run_equalIn_bool w D t _ _ hu
     · rename_i k
       obtain ⟨rfl, _⟩ := sized_some h
       simp [aggT, hu] at hg; subst hg
       match xs, ys, seqS_length _ _ _ _ hr with
       | [x], [y], _ =>
         cases x <;> cases y <;> simp [seqS, seq1] at hr
         obtain ⟨hk, hr⟩ := hr
         subst hr; subst hk
         simpa [valOf] using run_equalIn_int w D t _ k _ _ hu
     · obtain ⟨rfl, _⟩ := sized_some h
       simp [aggT, hu] at hg; subst hg
       match xs, ys, seqS_length _ _ _ _ hr with
       | [x], [y], _ =>
         cases x <;> cases y <;> simp [seqS, seq1] at hr
         subst hr
         simpa [valOf, beq_toListBytes] using run_equalIn_string w D t _ _ hu
     · rename_i n e
       simp [aggT, hu] at hg; subst hg
       cases hs : shapeT P d e with
       | none => simp [hs] at h
       | some m =>
         simp [hs] at h
         obtain ⟨rfl, _⟩ := sized_some h
         obtain ⟨ge, hge, hne, hg1⟩ := shapeT_info hs
         have hi : ∃ i, P.info? e = some i := by
           unfold sizeT at hne
           cases hi : P.info? e with
           | none => simp [hi] at hne
           | some i => exact ⟨i, rfl⟩
         obtain ⟨i, hi⟩ := hi
         have hc : P.cellsOf e = m.length := by simpa [Program.cellsOf, sizeT, hi] using hne
         simp only [valOf, if_true]
         rw [run_equalIn_array (w := w) D (i := i) ⟨xs⟩ ⟨ys⟩ hu hi, hc]
         have := run_eqItems_shape hs hge hne hg1 (fun xs ys r hr w => ih e m ge hs hge xs ys r hr w) xs ys n 0 r (by simpa using hr) w
         simpa [List.range_eq_range'] using this
     · rename_i fs
       simp [aggT, hu] at hg; subst hg
       split at h
       · cases h
       · rename_i hst
         cases hs : shapeF (shapeT P d) fs.toList 0 with
         | none => simp [hs] at h
         | some m =>
           simp [hs] at h
           obtain ⟨rfl, _⟩ := sized_some h
           have hf : P.fieldsOf t = fs := by simp [Program.fieldsOf, hu]
           simp only [valOf, if_true]
           rw [run_equalIn_struct w D t ⟨xs⟩ ⟨ys⟩ (by rw [hf, hu]) (by simpa using hst), hf]
           exact run_eqFields_shape (fun t l g hs hg xs ys r hr w => ih t l g hs hg xs ys r hr w) fs.toList 0 l xs ys r hs (by simpa using hr) w
theorem seq1_flat {k : Nat} {x y : Value} {b : Bool} (h : seq1 k x y = some b) : flat x = true ∧ flat y = true := by
 unfold seq1 at h
 split at h
 · exact ⟨rfl, rfl⟩
 · exact ⟨rfl, rfl⟩
 · exact ⟨rfl, rfl⟩
 · cases h
theorem seqS_VL {l : List Nat} : ∀ {xs ys xs' ys' : List Value} {r : Bool}, VL ρ xs xs' → VL ρ ys ys' → seqS l xs ys = some r → xs' = xs ∧ ys' = ys := by
 induction l with
 | nil =>
   intro xs ys xs' ys' r hx hy h
   obtain ⟨h1, h2⟩ := seqS_length _ _ _ _ h
   match xs, ys, h1, h2 with
   | [], [], _, _ => exact ⟨hx.inv_nil, hy.inv_nil⟩
 | cons k l ih =>
   intro xs ys xs' ys' r hx hy h
   obtain ⟨h1, h2⟩ := seqS_length _ _ _ _ h
   match xs, ys, h1, h2 with
   | x :: xs, y :: ys, _, _ =>
     obtain ⟨x', mx, rfl, a1, a2⟩ := hx.inv_cons
     obtain ⟨y', my, rfl, b1, b2⟩ := hy.inv_cons
     simp only [seqS] at h
     cases e1 : seq1 k x y with
     | none => simp [e1] at h
     | some b =>
       cases e2 : seqS l xs ys with
       | none => simp [e1, e2] at h
       | some c =>
         obtain ⟨rfl, rfl⟩ := ih a2 b2 e2
         obtain ⟨f1, f2⟩ := seq1_flat e1
         have hx := a1.flat_eq f1
         have hy := b1.flat_eq f2
         rw [hx, hy]
         exact ⟨rfl, rfl⟩
theorem beqA_sound {t : TypeId} {sh : List Nat} (hs : eqS P t = some sh) {op : BinOp} {x y x' y' v : Value} {xo yo : Operand} (hx : VR ρ x x') (hy : VR ρ y y') (h : beqA sh op x y = some v) (w : World) :
   (do eqGuard op t xo yo x' y'; binOp op t x' y' : Sem Value).run P w = .ok v w ∧ flat v = true := by
 cases hx with
 | @agg a a' ha hal =>
   cases hy with
   | @agg b b' hb hbl =>
     have hT : P.eqGuardType P.depth t = false ∧ shapeT P 8 t = some sh ∧ aggT P t = some true := by
       unfold eqS at hs
       cases hu : P.underlying t with
       | none => simp [hu] at hs
       | some d =>
         cases d <;> simp only [hu] at hs <;> try cases hs
         all_goals
           split at hs
           · cases hs
           · rename_i h1; exact ⟨by simpa using h1, hs, by simp [aggT, hu]⟩
     obtain ⟨h1, h2, h3⟩ := hT
     simp only [beqA] at h
     cases op <;> simp only at h <;> try cases h
     all_goals
       cases e : seqS sh a b with
       | none => simp [e] at h
       | some r =>
         simp [e] at h
         subst h
         obtain ⟨rfl, rfl⟩ := seqS_VL ⟨ha, hal⟩ ⟨hb, hbl⟩ e
         have := run_equal_shape 8 10000 (by omega) t sh true h2 h3 _ _ _ e w
         simp only [valOf, if_true] at this
         simp [run_eqGuard_agg w _ t xo yo _ _ h1, run_eql_struct, run_neq_struct, this, flat, flatN]
   | _ => simp [beqA, Ev.dead] at h
 | _ => simp [beqA, Ev.dead] at h
end Go.Ev
set_option linter.unusedSimpArgs false
namespace Go.Ev
open Go
set_option linter.unusedSectionVars false
variable [Tabs]
variable {P : Program} {ρ : Ren} {H : Hp} {w : World}
theorem run_eqGuard_plain {op : BinOp} {t : TypeId} {xo yo : Operand} {a b : Value} (h : (match a, b with | .nilIface, .nilIface => false | .agg _, .agg _ => false | _, _ => true) = true) (w : World) :
   (eqGuard op t xo yo a b).run P w = .ok () w := by
 cases op <;> simp only [eqGuard] <;> (try rfl) <;> cases a <;> cases b <;> first | rfl | (simp at h; done)
theorem eqK_bool {t : TypeId} {xo yo : Operand} (h : eqK P t xo yo = 1) : P.underlying t = some .bool := by
 unfold eqK at h
 cases hu : P.underlying t with
 | none => simp [hu] at h
 | some d => cases d <;> simp [hu] at h ⊢ <;> (split at h <;> simp at h)
theorem eqK_ptr {t : TypeId} {xo yo : Operand} (h : eqK P t xo yo = 3) : ∃ e, P.underlying t = some (.pointer e) := by
 unfold eqK at h
 cases hu : P.underlying t with
 | none => simp [hu] at h
 | some d => cases d <;> simp [hu] at h ⊢ <;> (split at h <;> simp at h)
theorem eqK_slice {t : TypeId} {xo yo : Operand} (h : eqK P t xo yo = 4) : ∃ e, P.underlying t = some (.slice e) := by
 unfold eqK at h
 cases hu : P.underlying t with
 | none => simp [hu] at h
 | some d => cases d <;> simp [hu] at h ⊢ <;> (split at h <;> simp at h)
theorem eqK_iface {t : TypeId} {xo yo : Operand} (h : eqK P t xo yo = 5) : (∃ m, P.underlying t = some (.interface m)) ∧ (isC xo = true ∨ isC yo = true) := by
 unfold eqK at h
 cases hu : P.underlying t with
 | none => simp [hu] at h
 | some d =>
   cases d <;> simp [hu] at h ⊢
   cases hx : isC xo with
   | true => exact .inl rfl
   | false => exact .inr (h hx)
theorem eqK_func {t : TypeId} {xo yo : Operand} (h : eqK P t xo yo = 6) : ∃ a b c, P.underlying t = some (.func a b c) := by
 unfold eqK at h
 cases hu : P.underlying t with
 | none => simp [hu] at h
 | some d => cases d <;> simp [hu] at h ⊢ <;> (split at h <;> simp at h)
theorem isC_const {x : Operand} (h : isC x = true) : ∃ v, x = .const v := by cases x <;> simp [isC] at h; exact ⟨_, rfl⟩
theorem run_eqGuard_nn {op : BinOp} {t : TypeId} {xo yo : Operand} (h : isC xo = true ∨ isC yo = true) (w : World) : (eqGuard op t xo yo .nilIface .nilIface).run P w = .ok () w := by
 rcases h with h | h
 · obtain ⟨v, rfl⟩ := isC_const h
   cases op <;> simp [eqGuard]
 · obtain ⟨v, rfl⟩ := isC_const h
   cases op <;> simp [eqGuard]
theorem run_equalIn_ii (d : Nat) {t : TypeId} {m : Array (String × TypeId)} (hu : P.underlying t = some (.interface m)) (w : World) : (Op.equalIn (d + 1) t .nilIface .nilIface).run P w = .ok true w := by
 simp [Op.equalIn, run_underlying hu]
theorem run_equalIn_iv (d : Nat) {t : TypeId} {m : Array (String × TypeId)} (hu : P.underlying t = some (.interface m)) (u : TypeId) (v : Value) (w : World) : (Op.equalIn (d + 1) t .nilIface (.iface u v)).run P w = .ok false w := by
 simp [Op.equalIn, run_underlying hu]
theorem run_equalIn_vi (d : Nat) {t : TypeId} {m : Array (String × TypeId)} (hu : P.underlying t = some (.interface m)) (u : TypeId) (v : Value) (w : World) : (Op.equalIn (d + 1) t (.iface u v) .nilIface).run P w = .ok false w := by
 simp [Op.equalIn, run_underlying hu]
theorem run_equalIn_ff (d : Nat) {t : TypeId} {a b : Array TypeId} {c : Bool} (hu : P.underlying t = some (.func a b c)) (w : World) : (Op.equalIn (d + 1) t .nilFunc .nilFunc).run P w = .ok true w := by
 simp [Op.equalIn, run_underlying hu]
theorem run_equalIn_fv (d : Nat) {t : TypeId} {a b : Array TypeId} {c : Bool} (hu : P.underlying t = some (.func a b c)) (f : Fn) (x y : Array Value) (w : World) : (Op.equalIn (d + 1) t .nilFunc (.func f x y)).run P w = .ok false w := by
 simp [Op.equalIn, run_underlying hu]
theorem run_equalIn_vf (d : Nat) {t : TypeId} {a b : Array TypeId} {c : Bool} (hu : P.underlying t = some (.func a b c)) (f : Fn) (x y : Array Value) (w : World) : (Op.equalIn (d + 1) t (.func f x y) .nilFunc).run P w = .ok false w := by
 simp [Op.equalIn, run_underlying hu]
theorem run_equalIn_pn (d : Nat) {t e : TypeId} (hu : P.underlying t = some (.pointer e)) (b : Option Addr) (w : World) : (Op.equalIn (d + 1) t (.pointer none) (.pointer b)).run P w = .ok b.isNone w := by
 simp [Op.equalIn, run_underlying hu]
theorem run_equalIn_np (d : Nat) {t e : TypeId} (hu : P.underlying t = some (.pointer e)) (b : Addr) (w : World) : (Op.equalIn (d + 1) t (.pointer (some b)) (.pointer none)).run P w = .ok false w := by
 simp [Op.equalIn, run_underlying hu]
theorem run_equalIn_sn (d : Nat) {t e : TypeId} (hu : P.underlying t = some (.slice e)) (b : Option Addr) (m n m' n' : Nat) (w : World) : (Op.equalIn (d + 1) t (.slice none m n) (.slice b m' n')).run P w = .ok b.isNone w := by
 simp [Op.equalIn, run_underlying hu]
theorem run_equalIn_ns (d : Nat) {t e : TypeId} (hu : P.underlying t = some (.slice e)) (b : Addr) (m n m' n' : Nat) (w : World) : (Op.equalIn (d + 1) t (.slice (some b) m n) (.slice none m' n')).run P w = .ok false w := by
 simp [Op.equalIn, run_underlying hu]
theorem run_by_equal {op : BinOp} {t : TypeId} {x y : Value} {r : Bool} (hxy : (match x, y with | .pointer _, .pointer _ => true | .slice .., .slice .. => true | .nilIface, .nilIface => true | .nilIface, .iface .. => true | .iface .., .nilIface => true | .nilFunc, .nilFunc => true | .nilFunc, .func .. => true | .func .., .nilFunc => true | _, _ => false) = true)
   (h : ∀ d, (Op.equalIn (d + 1) t x y).run P w = .ok r w) {v : Value} (hv : (match op with | .eql => some (Value.bool r) | .neq => some (.bool (!r)) | _ => none) = some v) :
   (binOp op t x y).run P w = .ok v w := by
 have h' : (Op.equal t x y).run P w = .ok r w := h 9999
 cases op <;> simp only at hv <;> try cases hv
 all_goals
   cases x <;> cases y <;> simp at hxy
   all_goals
     simp only [binOp, Sem.run_bind, h', Result.andThen_ok, Sem.run_pure]
theorem flat_bool (b : Bool) : flat (.bool b) = true := rfl
theorem cmp_flat {op : BinOp} {r : Bool} {v : Value} (hv : (match op with | .eql => some (Value.bool r) | .neq => some (.bool (!r)) | _ => none) = some v) : flat v = true := by
 cases op <;> simp only at hv <;> cases hv <;> rfl
theorem bin_sound {t : TypeId} {op : BinOp} {x y x' y' v : Value} {xo yo : Operand} (hx : VR ρ x x') (hy : VR ρ y y') (h : bin (eqK P t xo yo) op x y = some v) (w : World) :
   (do eqGuard op t xo yo x' y'; binOp op t x' y' : Sem Value).run P w = .ok v w ∧ flat v = true := by
 cases hx with
 | int k a =>
   cases hy with
   | int k' b =>
     obtain ⟨h1, h2⟩ := bin_int_sound (P := P) (t := t) h w
     exact ⟨by rw [Sem.run_bind, run_eqGuard_plain rfl, Result.andThen_ok, h1], h2⟩
   | _ => simp [bin, Ev.dead] at h
 | string a =>
   cases hy with
   | string b =>
     obtain ⟨h1, h2⟩ := bin_str_sound (P := P) (t := t) h w
     exact ⟨by rw [Sem.run_bind, run_eqGuard_plain rfl, Result.andThen_ok, h1], h2⟩
   | _ => simp [bin, Ev.dead] at h
 | bool a =>
   cases hy with
   | bool b =>
     have hq : eqK P t xo yo = 1 := by
       simp only [bin] at h
       split at h
       · assumption
       · cases h
     rw [hq] at h
     obtain ⟨h1, h2⟩ := bin_bool_sound (eqK_bool hq) h w
     exact ⟨by rw [Sem.run_bind, run_eqGuard_plain rfl, Result.andThen_ok, h1], h2⟩
   | _ => simp [bin, Ev.dead] at h
 | pnil =>
   have hq : eqK P t xo yo = 3 := by
     cases y <;> simp only [bin] at h <;> first | (cases h; done) | (split at h; assumption; cases h)
   obtain ⟨e, hu⟩ := eqK_ptr hq
   rw [Sem.run_bind]
   cases hy with
   | pnil =>
     simp only [bin, hq, if_true] at h
     exact ⟨by rw [run_eqGuard_plain rfl, Result.andThen_ok]; exact run_by_equal rfl (fun d => run_equalIn_pn d hu _ w) h, cmp_flat h⟩
   | ptr hr =>
     simp only [bin, hq, if_true] at h
     exact ⟨by rw [run_eqGuard_plain rfl, Result.andThen_ok]; exact run_by_equal rfl (fun d => run_equalIn_pn d hu _ w) h, cmp_flat h⟩
   | _ => simp [bin, Ev.dead] at h
 | ptr hr =>
   cases hy with
   | pnil =>
     have hq : eqK P t xo yo = 3 := by
       simp only [bin] at h; split at h; assumption; cases h
     obtain ⟨e, hu⟩ := eqK_ptr hq
     simp only [bin, hq, if_true] at h
     exact ⟨by rw [Sem.run_bind, run_eqGuard_plain rfl, Result.andThen_ok]; exact run_by_equal rfl (fun d => run_equalIn_np d hu _ w) h, cmp_flat (r := false) h⟩
   | _ => simp [bin, Ev.dead] at h
 | snil =>
   have hq : eqK P t xo yo = 4 := by
     cases y <;> simp only [bin] at h <;> first | (cases h; done) | (split at h; assumption; cases h)
   obtain ⟨e, hu⟩ := eqK_slice hq
   rw [Sem.run_bind]
   cases hy with
   | snil =>
     simp only [bin, hq, if_true] at h
     exact ⟨by rw [run_eqGuard_plain rfl, Result.andThen_ok]; exact run_by_equal rfl (fun d => run_equalIn_sn d hu _ _ _ _ _ w) h, cmp_flat h⟩
   | slice hr hc hz =>
     simp only [bin, hq, if_true] at h
     exact ⟨by rw [run_eqGuard_plain rfl, Result.andThen_ok]; exact run_by_equal rfl (fun d => run_equalIn_sn d hu _ _ _ _ _ w) h, cmp_flat h⟩
   | sl0 _ =>
     simp only [bin, hq, if_true] at h
     exact ⟨by rw [run_eqGuard_plain rfl, Result.andThen_ok]; exact run_by_equal rfl (fun d => run_equalIn_sn d hu _ _ _ _ _ w) h, cmp_flat h⟩
   | _ => simp [bin, Ev.dead] at h
 | slice hr hc hz =>
   cases hy with
   | snil =>
     have hq : eqK P t xo yo = 4 := by
       simp only [bin] at h; split at h; assumption; cases h
     obtain ⟨e, hu⟩ := eqK_slice hq
     simp only [bin, hq, if_true] at h
     exact ⟨by rw [Sem.run_bind, run_eqGuard_plain rfl, Result.andThen_ok]; exact run_by_equal rfl (fun d => run_equalIn_ns d hu _ _ _ _ _ w) h, cmp_flat (r := false) h⟩
   | _ => simp [bin, Ev.dead] at h
 | sl0 _ =>
   cases hy with
   | snil =>
     have hq : eqK P t xo yo = 4 := by
       simp only [bin] at h; split at h; assumption; cases h
     obtain ⟨e, hu⟩ := eqK_slice hq
     simp only [bin, hq, if_true] at h
     exact ⟨by rw [Sem.run_bind, run_eqGuard_plain rfl, Result.andThen_ok]; exact run_by_equal rfl (fun d => run_equalIn_ns d hu _ _ _ _ _ w) h, cmp_flat (r := false) h⟩
   | _ => simp [bin, Ev.dead] at h
 | inil =>
   have hq : eqK P t xo yo = 5 := by
     cases y <;> simp only [bin] at h <;> first | (cases h; done) | (split at h; assumption; cases h)
   obtain ⟨⟨m, hu⟩, hc⟩ := eqK_iface hq
   rw [Sem.run_bind]
   cases hy with
   | inil =>
     simp only [bin, hq, if_true] at h
     refine ⟨?_, cmp_flat (r := true) h⟩
     rw [run_eqGuard_nn hc, Result.andThen_ok]
     exact run_by_equal rfl (fun d => run_equalIn_ii d hu w) h
   | iface hv =>
     simp only [bin, hq, if_true] at h
     exact ⟨by rw [run_eqGuard_plain rfl, Result.andThen_ok]; exact run_by_equal rfl (fun d => run_equalIn_iv d hu _ _ w) h, cmp_flat (r := false) h⟩
   | _ => simp [bin, Ev.dead] at h
 | iface hv =>
   cases hy with
   | inil =>
     have hq : eqK P t xo yo = 5 := by
       simp only [bin] at h; split at h; assumption; cases h
     obtain ⟨⟨m, hu⟩, hc⟩ := eqK_iface hq
     simp only [bin, hq, if_true] at h
     exact ⟨by rw [Sem.run_bind, run_eqGuard_plain rfl, Result.andThen_ok]; exact run_by_equal rfl (fun d => run_equalIn_vi d hu _ _ w) h, cmp_flat (r := false) h⟩
   | _ => simp [bin, Ev.dead] at h
 | fnil =>
   have hq : eqK P t xo yo = 6 := by
     cases y <;> simp only [bin] at h <;> first | (cases h; done) | (split at h; assumption; cases h)
   obtain ⟨a, b, c, hu⟩ := eqK_func hq
   rw [Sem.run_bind]
   cases hy with
   | fnil =>
     simp only [bin, hq, if_true] at h
     exact ⟨by rw [run_eqGuard_plain rfl, Result.andThen_ok]; exact run_by_equal rfl (fun d => run_equalIn_ff d hu w) h, cmp_flat (r := true) h⟩
   | func _ _ _ _ =>
     simp only [bin, hq, if_true] at h
     exact ⟨by rw [run_eqGuard_plain rfl, Result.andThen_ok]; exact run_by_equal rfl (fun d => run_equalIn_fv d hu _ _ _ w) h, cmp_flat (r := false) h⟩
   | _ => simp [bin, Ev.dead] at h
 | func _ _ _ _ =>
   cases hy with
   | fnil =>
     have hq : eqK P t xo yo = 6 := by
       simp only [bin] at h; split at h; assumption; cases h
     obtain ⟨a, b, c, hu⟩ := eqK_func hq
     simp only [bin, hq, if_true] at h
     exact ⟨by rw [Sem.run_bind, run_eqGuard_plain rfl, Result.andThen_ok]; exact run_by_equal rfl (fun d => run_equalIn_vf d hu _ _ _ w) h, cmp_flat (r := false) h⟩
   | _ => simp [bin, Ev.dead] at h
 | _ => simp [bin, Ev.dead] at h
theorem cvI_sound {s d : TypeId} {k : IntKind} (hd : P.underlying d = some (.int k)) (hs : ∃ x, P.underlying s = some x) {a a' v : Value} (ha : VR ρ a a') (h : cvI k a = some v) (w : World) :
   (convert s d a').run P w = .ok v w ∧ flat v = true := by
 obtain ⟨x, hs⟩ := hs
 cases ha with
 | int k' n => simp [cvI] at h; subst h; simp [convert, run_underlying hs, run_underlying hd, Conv.intToInt, flat, flatN]
 | _ => simp [cvI, Ev.dead] at h
theorem cvS_sound {s d : TypeId} (hs : P.underlying s = some .string) (hd : P.underlying d = some .string) {a a' v : Value} (ha : VR ρ a a') (h : cvS a = some v) (w : World) :
   (convert s d a').run P w = .ok v w ∧ flat v = true := by
 cases ha with
 | string b => simp [cvS] at h; subst h; simp [convert, run_underlying hs, run_underlying hd, flat, flatN]
 | _ => simp [cvS, Ev.dead] at h
theorem unbytes_cons {v : Value} {l : List Value} {b : List UInt8} (h : unbytes (v :: l) = some b) : ∃ n b', v = .int .u8 n ∧ unbytes l = some b' ∧ b = UInt8.ofNat n.toNat :: b' := by
 unfold unbytes at h
 split at h
 · rename_i e; cases e
 · rename_i e
   cases e
   cases hr : unbytes l with
   | none => simp [hr] at h
   | some b' => simp [hr] at h; exact ⟨_, b', rfl, rfl, h.symm⟩
 · cases h
theorem unbytes_VL : ∀ {l l' : List Value} {b : List UInt8}, VL ρ l l' → unbytes l = some b → l' = l
 | [], l', _, h, _ => h.inv_nil
 | v :: l, l', b, h, hb => by
   obtain ⟨v', m, rfl, h1, h2⟩ := h.inv_cons
   obtain ⟨n, b', rfl, hr, _⟩ := unbytes_cons hb
   rw [unbytes_VL h2 hr, VR.int_inv h1]
theorem run_unbytes (P : Program) (w : World) (f : Value → ByteArray → Sem (ForInStep ByteArray)) (hf : ∀ n r, f (.int .u8 n) r = pure (ForInStep.yield (r.push (UInt8.ofNat n.toNat)))) : ∀ (l : List Value) (b : List UInt8) (s : ByteArray), unbytes l = some b →
   (forIn l s f : Sem ByteArray).run P w = .ok ⟨s.data ++ b.toArray⟩ w := by
 intro l
 induction l with
 | nil => intro b s h; simp [unbytes] at h; subst h; simp
 | cons v l ih =>
   intro b s h
   obtain ⟨n, b', rfl, hr, rfl⟩ := unbytes_cons h
   simp only [List.forIn_cons, hf, Sem.run_bind, Sem.run_pure, Result.andThen_ok]
   rw [ih b' _ hr]
   congr 2
   apply Array.ext'
   simp [ByteArray.push]
theorem cvT_sound (hS : Sim P ρ H w) {s d e : TypeId} (hs : P.underlying s = some (.slice e)) (he : P.underlying e = some (.int .u8)) (hd : P.underlying d = some .string) {a a' v : Value} (ha : VR ρ a a')
   (h : cvT a H = some v) : (convert s d a').run P w = .ok v w ∧ flat v = true := by
 cases ha with
 | snil => simp [cvT] at h; subst h; simp [convert, run_underlying hs, run_underlying hd, run_underlying he, Conv.bytesToString, flat, flatN]
 | @slice b o b' d' n c c' hr hc =>
   simp only [cvT] at h
   cases hcs : H.cells b with
   | none => simp [hcs] at h
   | some cs =>
     simp only [hcs, Option.bind_some] at h
     split at h
     · rename_i hle
       cases hu : unbytes ((cs.drop o).take n) with
       | none => simp [hu] at h
       | some l =>
         simp [hu] at h
         subst h
         have hL : ldN n (.pointer (some ⟨b, o, none⟩)) H = some (.agg ((cs.drop o).take n).toArray) := by simp [ldN, hcs, hle]
         obtain ⟨ad, cs', h1, h2, h3⟩ := ldN_sound hS (.ptr (o := o) hr) hL
         cases h1
         have hcs' : cs'.toList = (cs.drop o).take n := by
           generalize hq : (cs.drop o).take n = q at h3 hu
           cases h3 with
           | agg hs hh => exact unbytes_VL ⟨hs, hh⟩ hu
         refine ⟨?_, rfl⟩
         simp only [convert, Sem.run_bind, run_underlying hs, run_underlying hd, run_underlying he, Result.andThen_ok, Conv.bytesToString, h2, ← Array.forIn_toList]
         rw [run_unbytes P w _ (fun n r => rfl) cs'.toList l .empty (by rw [hcs']; exact hu)]
         simp [ByteArray.empty, ByteArray.emptyWithCapacity]
         try rfl
     · cases h
 | @sl0 b o b' o' d c _ =>
   have hv : v = .string .empty := by
     simp only [cvT] at h
     cases hcs : H.cells b with
     | none => simp [hcs] at h
     | some cs =>
       simp only [hcs, Option.bind_some] at h
       split at h
       · simp [unbytes] at h; exact h.symm
       · cases h
   subst hv
   simp [convert, run_underlying hs, run_underlying hd, run_underlying he, Conv.bytesToString, loadCells, loadCellsFrom, flat, flatN]
 | _ => simp [cvT, Ev.dead] at h
theorem bytesV_flat (s : ByteArray) : (bytesV s).all (flatN 3) = true := by
 rw [List.all_eq_true]
 intro x hx
 simp only [bytesV, List.mem_map] at hx
 obtain ⟨b, _, rfl⟩ := hx
 rfl
theorem cvB_sound (hS : Sim P ρ H w) {s d e : TypeId} (hs : P.underlying s = some .string) (hd : P.underlying d = some (.slice e)) (he : P.underlying e = some (.int .u8)) {a a' v : Value} {H' : Hp} (ha : VR ρ a a')
   (h : cvB a H = some (v, H')) : ∃ ρ' v' w', (convert s d a').run P w = .ok v' w' ∧ Stp P ρ H w ρ' H' w' ∧ VR ρ' v v' := by
 cases ha with
 | string b =>
   simp only [cvB] at h
   cases h
   generalize hcap : (Question.appendCap b.size 0 e).cut (w.tape w.drawn (.appendCap b.size 0 e)) = cap
   have hle : b.size ≤ cap := by rw [← hcap]; simp only [Question.cut]; omega
   generalize hc : (b.data.map fun x => Value.int .u8 x.toNat) ++ Array.replicate (cap - b.size) (.int .u8 0) = c
   have hsz : c.size = cap := by
     rw [← hc]; simp
     have : b.data.size = b.size := rfl
     omega
   let w1 := w.drew
   have hS1 := hS.same (w' := w1) rfl
   have hnew : ∀ z, BlkR (ρ.up H.next (w1.heap.size, 0) cap) (w1.alloc (.cells c e z)) w1.heap.size 0 (.rw (bytesV b)) ↔ unfrozen c z := by
     intro z
     constructor
     · rintro ⟨c', e', z', h1, _, h3, _⟩
       have : (w1.alloc (.cells c e z)).heap[w1.heap.size]? = some (.cells c e z) := by
         show (w1.heap.push _)[w1.heap.size]? = _
         simp
       rw [this] at h1; cases h1; exact h3
     · intro h3
       refine ⟨c, e, z, ?_, ?_, h3, by rw [hsz]; exact (Ren.up_sz ρ H.next (w1.heap.size, 0) cap).symm⟩
       · show (w1.heap.push _)[w1.heap.size]? = _
         simp
       · have hvl : VL (ρ.up H.next (w1.heap.size, 0) cap) (bytesV b) ((b.data.map fun x => Value.int .u8 x.toNat).toList) := by
           have : (b.data.map fun x => Value.int .u8 x.toNat).toList = bytesV b := by simp [bytesV]
           rw [this]; exact VL.flat_refl (bytesV_flat b)
         refine ⟨?_, fun i v hv => ?_⟩
         · have := hvl.1; simp at this
           have : b.data.size = b.size := rfl
           simp [bytesV]; omega
         · obtain ⟨v', h4, h5⟩ := hvl.get hv
           refine ⟨v', ?_, h5⟩
           have hi := (List.getElem?_eq_some_iff.1 h4).1
           rw [Nat.zero_add, ← hc, Array.getElem?_append_left (by simpa using hi)]
           simpa using h4
   have hz : unfrozen c (cap, cap + 1) := by intro o ho; omega
   have hstep := hS1.new (.cells c e (cap, cap + 1)) (.rw (bytesV b)) cap ((hnew _).2 hz)
   have hd0 : Stp P ρ H w ρ H w1 := Stp.drew hS
   refine ⟨_, .slice (some ⟨w.heap.size, 0, none⟩) b.size cap, w1.alloc (.cells c e (cap, cap + 1)), ?_, hd0.trans hstep, ?_⟩
   · simp only [convert, Sem.run_bind, run_underlying hs, run_underlying hd, run_underlying he, Result.andThen_ok, Conv.stringToBytes, run_choose, Question.forced, Bool.false_eq_true, if_false, hcap, newRow, run_newObj, hc, Sem.run_pure,
       markStringish, run_shape]
     have hsh : (World.shape? { w with drawn := w.drawn + 1, heap := w.heap.push (.cells c e) } w.heap.size) = some (e, c.size) := by
       simp [World.shape?]
     simp only [hsh, Sem.run_bind, run_freeze, Result.andThen_ok, Sem.run_pure]
     congr 1
     simp only [World.freeze, World.alloc, w1, World.drew, Nat.succ_ne_zero, if_false, hsz]
     congr 1
     apply Array.ext_getElem?
     intro i
     rw [Array.getElem?_modify]
     by_cases hi : w.heap.size = i
     · subst hi; simp
     · rw [if_neg hi]
       show (w.heap.push _)[i]? = (w.heap.push _)[i]?
       rw [Array.getElem?_push, Array.getElem?_push, if_neg (Ne.symm hi), if_neg (Ne.symm hi)]
   · have h5 : (ρ.up H.next (w1.heap.size, 0) cap) H.next = some (w.heap.size, 0) := by simp [Ren.up, w1]
     have h6 : (ρ.up H.next (w1.heap.size, 0) cap).sz w.heap.size = cap := Ren.up_sz ρ H.next (w1.heap.size, 0) cap
     have := VR.slice (o := 0) (n := b.size) (c := 1) (c' := cap) h5 hle (by rw [h6]; omega)
     simpa using this
 | _ => simp [cvB, Ev.dead] at h
end Go.Ev
set_option linter.unusedSimpArgs false
namespace Go.Ev
open Go
set_option linter.unusedSectionVars false
variable [Tabs]
variable {P : Program} {ρ : Ren} {H : Hp} {w : World}
theorem len_sound (hS : Sim P ρ H w) {t ty : TypeId} {q : Nat} (ht : (match P.underlying t with | some .string => some 0 | some (.slice _) => some 1 | some (.map _ _) => some 2 | _ => none) = some q) {a a' v : Value} (ha : VR ρ a a')
   (h : len q a H = some v) : (Builtin.len_ #[t] ty #[a']).run P w = .ok v w ∧ flat v = true := by
 cases hu : P.underlying t with
 | none => simp [hu] at ht
 | some d =>
   cases d <;> simp [hu] at ht <;> subst ht
   · cases ha with
     | string s => simp [len] at h; subst h; simp [Builtin.len_, run_underlying hu, flat, flatN, goInt]
     | _ => simp [len, Ev.dead] at h
   · cases ha with
     | snil => simp [len] at h; subst h; simp [Builtin.len_, run_underlying hu, flat, flatN, goInt]
     | slice hr hc hz => simp [len] at h; subst h; simp [Builtin.len_, run_underlying hu, flat, flatN, goInt]
     | sl0 _ => simp [len] at h; subst h; simp [Builtin.len_, run_underlying hu, flat, flatN, goInt]
     | _ => simp [len, Ev.dead] at h
   · cases ha with
     | mnil => simp [len] at h; subst h; simp [Builtin.len_, run_underlying hu, flat, flatN, goInt]
     | @map r r' hr =>
       simp only [len] at h
       cases hg : H.get r with
       | none => simp [hg] at h
       | some x =>
         cases x <;> simp [hg] at h
         rename_i es ck
         subst h
         obtain ⟨_, es', h1, h2, _⟩ := hS.blk r _ r' 0 hg hr
         simp [Builtin.len_, run_underlying hu, flat, flatN, goInt, getObj, Sem.run, h1, h2]
     | _ => simp [len, Ev.dead] at h
theorem ext1_sound {a a' v : Value} {i : Nat} (ha : VR ρ a a') (h : ext1 a i = some v) (w : World) : ∃ v', (Instr.extract a' i).run P w = .ok v' w ∧ VR ρ v v' := by
 cases ha with
 | @tuple l l' hs hl =>
   simp only [ext1] at h
   obtain ⟨v', h1, h2⟩ := VL.get ⟨hs, hl⟩ (i := i) (v := v) (by simpa using h)
   exact ⟨v', by simp [Instr.extract, h1], h2⟩
 | _ => simp [ext1, Ev.dead] at h
theorem optInt_sound {d : Nat} {o : Option Value} {o' : Option Value} (ho : match o, o' with | none, none => True | some v, some v' => VR ρ v v' | _, _ => False) {i : Int} (h : optInt d o = some i) :
   (o = none ∧ o' = none ∧ i = d) ∨ ∃ k, o' = some (.int k i) := by
 cases o with
 | none =>
   cases o' with
   | none => simp [optInt] at h; exact .inl ⟨rfl, rfl, h.symm⟩
   | some v => exact ho.elim
 | some v =>
   cases o' with
   | none => exact ho.elim
   | some v' =>
     cases v <;> simp [optInt] at h
     rename_i k n
     subst h
     exact .inr ⟨k, by rw [VR.int_inv ho]⟩
abbrev OR (ρ : Ren) (o o' : Option Value) : Prop := match o, o' with | none, none => True | some v, some v' => VR ρ v v' | _, _ => False
theorem run_bounds {isS : Bool} {n c : Nat} {lo hi lo' hi' : Option Value} (hl : OR ρ lo lo') (hh : OR ρ hi hi') {l h : Int} (el : optInt 0 lo = some l) (eh : optInt n hi = some h) (h0 : 0 ≤ l) (h1 : l ≤ h) (h2 : h ≤ n) (hc : n ≤ c) (w : World) :
   (Instr.sliceBounds isS n c lo' hi' none).run P w = .ok (l.toNat, h.toNat, c) w := by
 have hhn : 0 ≤ h := by omega
 have hhc : h ≤ (c : Int) := by omega
 have hln : l ≤ (h.toNat : Int) := by omega
 rcases optInt_sound hl el with ⟨_, rfl, rfl⟩ | ⟨k, rfl⟩ <;> rcases optInt_sound hh eh with ⟨_, rfl, rfl⟩ | ⟨k', rfl⟩
 · simp [Instr.sliceBounds]
 · simp [Instr.sliceBounds, Instr.sliceBound, asIntOf, hhn, hhc]
 · have : l ≤ (n : Int) := by omega
   simp [Instr.sliceBounds, Instr.sliceBound, asIntOf, h0, this]
 · simp [Instr.sliceBounds, Instr.sliceBound, asIntOf, hhn, hhc, h0, hln]
   intro hlt
   omega
theorem slS_sound {t : TypeId} (hu : P.underlying t = some .string) {a a' v : Value} {lo hi lo' hi' : Option Value} (ha : VR ρ a a') (hl : OR ρ lo lo') (hh : OR ρ hi hi') (h : slS a lo hi = some v) (w : World) :
   (Instr.sliceAt t a' lo' hi' none).run P w = .ok v w ∧ flat v = true := by
 cases ha with
 | string s =>
   simp only [slS] at h
   cases el : optInt 0 lo with
   | none => simp [el] at h
   | some l =>
     cases eh : optInt s.size hi with
     | none => simp [el, eh] at h
     | some m =>
       simp only [el, eh, Option.bind_some] at h
       split at h
       · rename_i hc
         cases h
         simp [Instr.sliceAt, Instr.slice, run_underlying hu, run_bounds hl hh el eh hc.1 hc.2.1 hc.2.2 (Nat.le_refl _), flat, flatN]
       · cases h
 | _ => simp [slS, Ev.dead] at h
theorem slV_sound {t e : TypeId} {sz : Nat} (hu : P.underlying t = some (.slice e)) (hz : sizeT P e = some sz) {a a' v : Value} {lo hi lo' hi' : Option Value} (ha : VR ρ a a') (hl : OR ρ lo lo') (hh : OR ρ hi hi')
   (h : slV sz a lo hi = some v) (w : World) : ∃ v', (Instr.sliceAt t a' lo' hi' none).run P w = .ok v' w ∧ VR ρ v v' := by
 cases ha with
 | snil =>
   simp only [slV] at h
   cases el : optInt 0 lo with
   | none => simp [el] at h
   | some l =>
     cases eh : optInt 0 hi with
     | none => simp [el, eh] at h
     | some m =>
       simp only [el, eh, Option.bind_some] at h
       split at h
       · rename_i hc
         obtain ⟨rfl, rfl⟩ := hc
         cases h
         refine ⟨.slice none 0 0, ?_, .snil⟩
         simp [Instr.sliceAt, Instr.slice, run_underlying hu, run_bounds (n := 0) (c := 0) hl hh el eh (by omega) (by omega) (by omega) (by omega), run_sizeT hz]
       · cases h
 | @slice b o b' d n c c' hr hc' hz' =>
   simp only [slV] at h
   cases el : optInt 0 lo with
   | none => simp [el] at h
   | some l =>
     cases eh : optInt n hi with
     | none => simp [el, eh] at h
     | some m =>
       simp only [el, eh, Option.bind_some] at h
       split at h
       · rename_i hcc
         obtain ⟨rfl, hc⟩ := hcc
         cases h
         have hb := run_bounds (P := P) (isS := true) hl hh el eh hc.1 hc.2.1 hc.2.2 hc' w
         by_cases e0 : c' = l.toNat
         · refine ⟨.slice (some ⟨b', o + d, none⟩) 0 0, ?_, ?_⟩
           · have e1 : m.toNat - l.toNat = 0 := by omega
             have e2 : c' - l.toNat = 0 := by omega
             simp only [Instr.sliceAt, Instr.slice, run_underlying hu, Sem.run_bind, Result.andThen_ok, hb, run_sizeT hz, if_pos e0, Sem.run_pure, e1, e2]
           · have : m.toNat - l.toNat = 0 := by omega
             rw [this]; exact .sl0 hr
         · refine ⟨.slice (some ⟨b', o + d + l.toNat * c, none⟩) (m.toNat - l.toNat) (c' - l.toNat), ?_, ?_⟩
           · simp [Instr.sliceAt, Instr.slice, run_underlying hu, hb, run_sizeT hz, e0, add_none]
           · have hle : l.toNat * c + (c' - l.toNat) * c = c' * c := by rw [← Nat.add_mul]; congr 1; omega
             have := VR.slice (ρ := ρ) (o := o + l.toNat * c) (n := m.toNat - l.toNat) (c := c) (c' := c' - l.toNat) hr (by omega) (by omega)
             rwa [show o + l.toNat * c + d = o + d + l.toNat * c from by omega] at this
       · cases h
 | @sl0 b o b' o' d c hr =>
   simp only [slV] at h
   cases el : optInt 0 lo with
   | none => simp [el] at h
   | some l =>
     cases eh : optInt 0 hi with
     | none => simp [el, eh] at h
     | some m =>
       simp only [el, eh, Option.bind_some] at h
       split at h
       · rename_i hcc
         obtain ⟨rfl, hc⟩ := hcc
         cases h
         have e1 : l = 0 := by omega
         have e2 : m = 0 := by omega
         subst e1; subst e2
         refine ⟨.slice (some ⟨b', o', none⟩) 0 0, ?_, .sl0 hr⟩
         simp [Instr.sliceAt, Instr.slice, run_underlying hu, run_bounds (n := 0) (c := 0) hl hh el eh (by omega) (by omega) (by omega) (by omega), run_sizeT hz]
       · cases h
 | _ => simp [slV, Ev.dead] at h
theorem slA_sound (hS : Sim P ρ H w) {t e : TypeId} {n sz : Nat} (hu : P.underlying t = some (.array n e)) (hz : sizeT P e = some sz) {a a' v : Value} {lo hi lo' hi' : Option Value} (ha : VR ρ a a') (hl : OR ρ lo lo') (hh : OR ρ hi hi')
   (h : slA n sz a lo hi H = some v) : ∃ v', (Instr.sliceAt t a' lo' hi' none).run P w = .ok v' w ∧ VR ρ v v' := by
 cases ha with
 | @ptr b o b' d hr =>
   simp only [slA] at h
   cases el : optInt 0 lo with
   | none => simp [el] at h
   | some l =>
     cases eh : optInt n hi with
     | none => simp [el, eh] at h
     | some m =>
       simp only [el, eh, Option.bind_some] at h
       cases hcc : H.cells b with
       | none => simp [hcc] at h
       | some cs =>
       simp only [hcc, Option.bind_some] at h
       obtain ⟨c2, e2, z2, _, h7, h8⟩ := hS.cellsZ hcc hr
       have h9 := h7.1
       split at h
       · rename_i hc
         cases h
         have hb := run_bounds (P := P) (isS := false) hl hh el eh hc.1 hc.2.1 hc.2.2.1 (Nat.le_refl n) w
         by_cases e0 : n = l.toNat
         · refine ⟨.slice (some ⟨b', o + d, none⟩) 0 0, ?_, ?_⟩
           · simp [Instr.sliceAt, Instr.sureAddr, run_underlying hu, hb, run_sizeT hz, ← e0]
             omega
           · have : m.toNat - l.toNat = 0 := by omega
             rw [this]; exact .sl0 hr
         · refine ⟨.slice (some ⟨b', o + d + l.toNat * sz, none⟩) (m.toNat - l.toNat) (n - l.toNat), ?_, ?_⟩
           · simp [Instr.sliceAt, Instr.sureAddr, run_underlying hu, hb, run_sizeT hz, e0, add_none]
           · have hle : l.toNat * sz + (n - l.toNat) * sz = n * sz := by rw [← Nat.add_mul]; congr 1; omega
             have := VR.slice (ρ := ρ) (o := o + l.toNat * sz) (n := m.toNat - l.toNat) (c := sz) (c' := n - l.toNat) hr (by omega) (by omega)
             rwa [show o + l.toNat * sz + d = o + d + l.toNat * sz from by omega] at this
       · cases h
 | _ => simp [slA, Ev.dead] at h
theorem new_block (hS : Sim P ρ H w) (t : TypeId) (z : Nat × Nat) {cs : List Value} {c : Array Value} (hc : CellsR ρ cs c 0) (hz : unfrozen c z) :
   Stp P ρ H w (ρ.up H.next (w.heap.size, 0) c.size) (H.new (.rw cs)) (w.alloc (.cells c t z)) := by
 refine hS.new _ _ c.size ⟨c, t, z, ?_, hc.mono (hS.le_up 0 c.size), hz, (Ren.up_sz ρ H.next (w.heap.size, 0) c.size).symm⟩
 show (w.heap.push _)[w.heap.size]? = _
 simp
theorem new_sound (hS : Sim P ρ H w) (t : TypeId) {cs : List Value} {c : Array Value} (hc : VL ρ cs c.toList) :
   Stp P ρ H w (ρ.up H.next (w.heap.size, 0) c.size) (H.new (.rw cs)) (w.alloc (.cells c t)) ∧ VR (ρ.up H.next (w.heap.size, 0) c.size) (ptr H.next 0) (.pointer (some ⟨w.heap.size, 0, none⟩)) := by
 refine ⟨new_block hS t (0, 0) (CellsR.of_VL hc) (fun o _ => by omega), ?_⟩
 have : (ρ.up H.next (w.heap.size, 0) c.size) H.next = some (w.heap.size, 0) := by simp [Ren.up]
 simpa [ptr] using VR.ptr (o := 0) this
theorem new_slice (ρ : Ren) (i b n sz S c : Nat) (h : n ≤ c) (hS : c * sz ≤ S) : VR (ρ.up i (b, 0) S) (.slice (some ⟨i, 0, none⟩) n sz) (.slice (some ⟨b, 0, none⟩) n c) := by
 have h1 : (ρ.up i (b, 0) S) i = some (b, 0) := by simp [Ren.up]
 have h2 : (ρ.up i (b, 0) S).sz b = S := Ren.up_sz ρ i (b, 0) S
 have := VR.slice (o := 0) (n := n) (c := sz) (c' := c) h1 h (by rw [h2]; omega)
 simpa using this
theorem foldl_splice (n : Nat) : ∀ (vs : List Value) (k : Nat) (cells : Array Value), ((vs.zipIdx k).foldl (fun cs (c, j) => cs.setIfInBounds (n + j) c) cells) = spliceA cells (n + k) vs
 | [], _, _ => rfl
 | v :: vs, k, cells => by simp [List.zipIdx_cons, spliceA, foldl_splice n vs, Nat.add_assoc]
theorem VL.splice : ∀ {vs vs' cs cs' : List Value} {o : Nat}, VL ρ cs cs' → VL ρ vs vs' → VL ρ (Ev.splice cs o vs) (spliceA ⟨cs'⟩ o vs').toList
 | [], vs', cs, cs', o, h, hv => by rw [hv.inv_nil]; exact h
 | v :: vs, vs', cs, cs', o, h, hv => by
   obtain ⟨v', m, rfl, h1, h2⟩ := hv.inv_cons
   simp only [Ev.splice, spliceA]
   have : (⟨cs'⟩ : Array Value).setIfInBounds o v' = ⟨cs'.set o v'⟩ := by apply Array.ext'; simp
   rw [this]
   exact VL.splice (h.set h1 o) h2
theorem fillL_sound {pl pl' : Nat → Option (Nat × Nat)} (hp : ∀ i p, pl i = some p → pl' i = some p) : ∀ (parts parts' : List (Nat × Value)) (cs r : List Value) (cs' : Array Value),
   VL ρ cs cs'.toList → parts.length = parts'.length → (∀ (i : Nat) (x x' : Nat × Value), parts[i]? = some x → parts'[i]? = some x' → x.1 = x'.1 ∧ VR ρ x.2 x'.2) → fillL pl cs parts = some r →
   ∃ r', Instr.fill pl' cs' parts' = some r' ∧ VL ρ r r'.toList
 | [], parts', cs, r, cs', hc, hl, _, h => by
   cases parts' with
   | nil => simp [fillL] at h; subst h; exact ⟨cs', by simp [Instr.fill], hc⟩
   | cons => simp at hl
 | (i, v) :: parts, parts', cs, r, cs', hc, hl, hv, h => by
   cases parts' with
   | nil => simp at hl
   | cons x' parts' =>
     obtain ⟨i', v'⟩ := x'
     obtain ⟨e1, h2⟩ := hv 0 (i, v) (i', v') rfl rfl
     simp only at e1 h2
     subst e1
     simp only [fillL] at h
     cases hpl : pl i with
     | none => simp [hpl] at h
     | some p =>
       obtain ⟨off, size⟩ := p
       simp only [hpl] at h
       cases hb : bx v with
       | none => simp [hb] at h
       | some vs =>
         simp only [hb, Option.bind_some] at h
         split at h
         · rename_i hcnd
           have hvl := bx_sound h2 hb
           have hsz : v'.cells.size = size := by rw [← Array.length_toList, ← hvl.1, hcnd.1]
           have hcs : cs.length = cs'.size := by rw [hc.1]; simp
           have := VL.splice (o := off) hc hvl
           have hfold : v'.cells.zipIdx.foldl (fun cs (c, j) => cs.setIfInBounds (off + j) c) cs' = spliceA cs' off v'.cells.toList := by
             rw [← Array.foldl_toList, Array.toList_zipIdx, foldl_splice]; rfl
           obtain ⟨r', h3, h4⟩ := fillL_sound hp parts parts' (Ev.splice cs off vs) r (spliceA cs' off v'.cells.toList) this (by simpa using hl)
             (fun j x x' hx hx' => hv (j + 1) x x' (by simpa using hx) (by simpa using hx')) h
           refine ⟨r', ?_, h4⟩
           simp only [Instr.fill, hp _ _ hpl, hsz, ne_eq, not_true, false_or, decide_false, Bool.false_or, decide_eq_true_eq]
           rw [if_neg (by have := hcnd.2; omega), hfold]
           exact h3
         · cases h
theorem run_mapM_list {α β : Type} (P : Program) (w : World) (f : α → Sem β) (g : α → β) : ∀ (l : List α), (∀ x ∈ l, (f x).run P w = .ok (g x) w) → (l.mapM f).run P w = .ok (l.map g) w
 | [], _ => by simp
 | x :: l, h => by
   rw [List.mapM_cons]
   simp only [Sem.run_bind, h x (by simp), Result.andThen_ok, run_mapM_list P w f g l (fun y hy => h y (by simp [hy])), Sem.run_pure, List.map_cons]
theorem run_mapM_array {α β : Type} (P : Program) (w : World) (f : α → Sem β) (g : α → β) (a : Array α) (h : ∀ x ∈ a.toList, (f x).run P w = .ok (g x) w) : (a.mapM f).run P w = .ok (a.map g) w := by
 rw [Array.mapM_eq_mapM_toList, Sem.run_map, run_mapM_list P w f g a.toList h, Result.andThen_ok]
 congr 1
 apply Array.ext'
 simp
theorem build_sound {t : TypeId} {z : List Value} {pl : Nat → Option (Nat × Nat)} (hz : zeroT P t = some z) (hp : placeT P t = some pl) {parts parts' : List (Nat × Value)} (hl : parts.length = parts'.length)
   (hv : ∀ (i : Nat) (x x' : Nat × Value), parts[i]? = some x → parts'[i]? = some x' → x.1 = x'.1 ∧ VR ρ x.2 x'.2) {r : List Value} (h : fillL pl z parts = some r) (w : World) :
   ∃ v', (Instr.build t parts'.toArray).run P w = .ok v' w ∧ VR ρ (.agg r.toArray) v' := by
 obtain ⟨zv, hzr, hzc, hzf⟩ := run_zeroT hz w
 have hz0 : VL ρ z zv.cells.toList := by rw [hzc]; exact VL.flat_refl hzf
 unfold placeT at hp
 cases hu : P.underlying t with
 | none => simp [hu] at hp
 | some d =>
   cases d <;> simp only [hu] at hp <;> first | (cases hp; done) | skip
   · rename_i n e
     cases hs : sizeT P e with
     | none => simp [hs] at hp
     | some s =>
       simp [hs] at hp
       subst hp
       obtain ⟨r', h1, h2⟩ := fillL_sound (pl' := fun i => some (i * s, s)) (fun i p hp => hp) parts parts' z r zv.cells hz0 hl hv h
       refine ⟨.agg r', by simp [Instr.build, hzr, run_underlying hu, run_sizeT hs, h1], ?_⟩
       have := VR.agg h2.1 h2.2
       simpa using this
   · rename_i fs
     split at hp
     case isFalse => cases hp
     rename_i hsz
     cases hp
     have hall : ∀ f ∈ fs.toList, ∃ n, sizeT P f.type = some n := fun f hf => by
       rw [List.all_eq_true] at hsz
       exact Option.isSome_iff_exists.1 (hsz f hf)
     have hm : (fs.mapM fun f => do pure (f.offset, ← sizeOf f.type) : Sem (Array (Nat × Nat))).run P w = .ok (fs.map fun f => (f.offset, (sizeT P f.type).getD 0)) w := by
       refine run_mapM_array P w _ _ fs fun f hf => ?_
       obtain ⟨n, hn⟩ := hall f hf
       simp [run_sizeT hn, hn]
     obtain ⟨r', h1, h2⟩ := fillL_sound (pl' := ((fs.map fun f => (f.offset, (sizeT P f.type).getD 0))[·]?)) (fun i p hp => by simpa [Ev.pl] using hp) parts parts' z r zv.cells hz0 hl hv h
     refine ⟨.agg r', ?_, ?_⟩
     · simp only [Instr.build, Sem.run_bind, hzr, Result.andThen_ok, run_underlying hu]
       rw [hm]
       simp only [Result.andThen_ok, h1, Sem.run_pure]
     · have := VR.agg h2.1 h2.2
       simpa using this
end Go.Ev
