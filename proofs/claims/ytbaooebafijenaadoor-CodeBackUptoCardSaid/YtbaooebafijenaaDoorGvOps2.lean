/- What the machine does at an operation, held against the evaluator: addresses, parts, numbers, comparisons. -/
import Derived.Test.YtbaooebafijenaaDoorGvOps
import Derived.ChangeKeysEq
namespace Go.Ev
open Go
set_option linter.unusedSectionVars false
variable [Tabs]

variable {P : Program} {ρ : Ren} {H : Hp} {w : World}

theorem fa_sound {s : TypeId} {f : Nat} {g : Bool} {n off : Nat} (ht : fieldT P s f = some (g, n, off)) {a a' v : Value} (ha : VR ρ a a') (h : fa off a = some v) (w : World) :
    ∃ v', (Instr.fieldAt s a' f).run P w = .ok v' w ∧ VR ρ v v' := by
  unfold fieldT at ht
  cases hu : P.underlying s with
  | none => simp [hu] at ht
  | some d =>
    cases d <;> simp only [hu] at ht <;> try cases ht
    rename_i fs
    cases hf : fs[f]? with
    | none => simp [hf] at ht
    | some fd =>
      simp only [hf] at ht
      cases hg : aggT P fd.type with
      | none => simp [hg] at ht
      | some g' =>
        cases hn : sizeT P fd.type with
        | none => simp [hg, hn] at ht
        | some n' =>
          simp only [hg, hn, Option.bind_some] at ht
          split at ht
          · cases ht
          · rename_i h0
            cases ht
            cases ha with
            | @ptr b o b' d hr =>
              simp [fa] at h
              subst h
              refine ⟨.pointer (some ⟨b', o + d + fd.offset, none⟩), ?_, ?_⟩
              · simp [Instr.fieldAt, run_underlying hu, hf, Instr.sureAddr, fieldPlace, run_sizeT hn, h0, add_none]
              · have := VR.ptr (ρ := ρ) (o := o + fd.offset) hr
                rwa [show o + fd.offset + d = o + d + fd.offset from by omega] at this
            | _ => simp [fa, Ev.dead] at h

theorem elemT_array {t : TypeId} {n : Nat} {g : Bool} {s : Nat} (h : elemT P t = some (some n, g, s)) : ∃ e, P.underlying t = some (.array n e) ∧ aggT P e = some g ∧ sizeT P e = some s := by
  unfold elemT at h
  cases hu : P.underlying t with
  | none => simp [hu] at h
  | some d =>
    cases d <;> simp only [hu] at h <;> try cases h
    · rename_i e
      cases hg : aggT P e <;> cases hn : sizeT P e <;> simp [hg, hn] at h
    · rename_i m e
      cases hg : aggT P e <;> cases hn : sizeT P e <;> simp [hg, hn] at h
      obtain ⟨rfl, rfl, rfl⟩ := h
      exact ⟨e, rfl, hg, hn⟩

theorem elemT_slice {t : TypeId} {g : Bool} {s : Nat} (h : elemT P t = some (none, g, s)) : ∃ e, P.underlying t = some (.slice e) ∧ aggT P e = some g ∧ sizeT P e = some s := by
  unfold elemT at h
  cases hu : P.underlying t with
  | none => simp [hu] at h
  | some d =>
    cases d <;> simp only [hu] at h <;> try cases h
    · rename_i e
      cases hg : aggT P e <;> cases hn : sizeT P e <;> simp [hg, hn] at h
      obtain ⟨rfl, rfl⟩ := h
      exact ⟨e, rfl, hg, hn⟩
    · rename_i m e
      cases hg : aggT P e <;> cases hn : sizeT P e <;> simp [hg, hn] at h

theorem VR.int_inv {k : IntKind} {n : Int} {v : Value} (h : VR ρ (.int k n) v) : v = .int k n := by cases h; rfl

theorem ia_sound {t : TypeId} {n : Nat} {g : Bool} {s : Nat} (ht : elemT P t = some (some n, g, s)) {a a' i i' v : Value} (ha : VR ρ a a') (hi : VR ρ i i') (h : ia n s a i = some v) (w : World) :
    ∃ v', (Instr.indexAt t a' i').run P w = .ok v' w ∧ VR ρ v v' := by
  obtain ⟨e, hu, hg, hn⟩ := elemT_array ht
  cases ha with
  | @ptr b o b' d hr =>
    cases hi with
    | int k x =>
      simp only [ia] at h
      split at h
      · rename_i hc
        cases h
        refine ⟨.pointer (some ⟨b', o + d + x.toNat * s, none⟩), ?_, ?_⟩
        · simp [Instr.indexAt, asIntOf, run_underlying hu, Instr.sureAddr, hc, run_sizeT hn, add_none]
        · have := VR.ptr (ρ := ρ) (o := o + x.toNat * s) hr
          rwa [show o + x.toNat * s + d = o + d + x.toNat * s from by omega] at this
      · cases h
    | _ => simp [ia, Ev.dead] at h
  | _ => simp [ia, Ev.dead] at h

theorem sa_sound {t : TypeId} {g : Bool} {s : Nat} (ht : elemT P t = some (none, g, s)) {a a' i i' v : Value} (ha : VR ρ a a') (hi : VR ρ i i') (h : sa s a i = some v) (w : World) :
    ∃ v', (Instr.indexAt t a' i').run P w = .ok v' w ∧ VR ρ v v' := by
  obtain ⟨e, hu, hg, hn⟩ := elemT_slice ht
  cases ha with
  | @slice b o b' d m c c' hr hc' =>
    cases hi with
    | int k x =>
      simp only [sa] at h
      split at h
      · rename_i hc
        cases h
        refine ⟨.pointer (some ⟨b', o + d + x.toNat * s, none⟩), ?_, ?_⟩
        · simp [Instr.indexAt, asIntOf, run_underlying hu, hc, run_sizeT hn, add_none]
        · have := VR.ptr (ρ := ρ) (o := o + x.toNat * s) hr
          rwa [show o + x.toNat * s + d = o + d + x.toNat * s from by omega] at this
      · cases h
    | _ => simp [sa, Ev.dead] at h
  | sl0 _ =>
    cases hi with
    | int k x =>
      simp only [sa] at h
      split at h
      · omega
      · cases h
    | _ => simp [sa, Ev.dead] at h
  | _ => simp [sa, Ev.dead] at h

theorem part_sound {e : TypeId} {g : Bool} {n off : Nat} (hg : aggT P e = some g) (hn : sizeT P e = some n) {cs cs' : List Value} {v : Value} (hc : VL ρ cs cs') (h : part g n off ⟨cs⟩ = some v) (w : World) :
    ∃ v', (Go.part e ⟨cs'⟩ off).run P w = .ok v' w ∧ VR ρ v v' := by
  unfold part at h
  cases g with
  | true =>
    simp only [if_true] at h
    split at h
    · rename_i hle
      cases h
      refine ⟨.agg ((⟨cs'⟩ : Array Value).extract off (off + n)), by simp [Go.part, run_aggT hg, run_sizeT hn], ?_⟩
      have h1 : (⟨cs⟩ : Array Value).extract off (off + n) = ⟨(cs.drop off).take n⟩ := by
        apply Array.ext'; simp
      have h2 : (⟨cs'⟩ : Array Value).extract off (off + n) = ⟨(cs'.drop off).take n⟩ := by
        apply Array.ext'; simp
      rw [h1, h2]
      have := (hc.drop off).take n
      exact .agg this.1 this.2
    · cases h
  | false =>
    simp only [Bool.false_eq_true, if_false] at h
    obtain ⟨v', h1, h2⟩ := hc.get (i := off) (by simpa using h)
    exact ⟨v', by simp [Go.part, run_aggT hg, h1], h2⟩

theorem fld_sound {s : TypeId} {f : Nat} {g : Bool} {n off : Nat} (ht : fieldT P s f = some (g, n, off)) {a a' v : Value} (ha : VR ρ a a') (h : fld g n off a = some v) (w : World) :
    ∃ v', (Instr.field s a' f).run P w = .ok v' w ∧ VR ρ v v' := by
  unfold fieldT at ht
  cases hu : P.underlying s with
  | none => simp [hu] at ht
  | some d =>
    cases d <;> simp only [hu] at ht <;> try cases ht
    rename_i fs
    cases hf : fs[f]? with
    | none => simp [hf] at ht
    | some fd =>
      simp only [hf] at ht
      cases hg : aggT P fd.type with
      | none => simp [hg] at ht
      | some g' =>
        cases hn : sizeT P fd.type with
        | none => simp [hg, hn] at ht
        | some n' =>
          simp only [hg, hn, Option.bind_some] at ht
          split at ht
          · cases ht
          · cases ht
            cases ha with
            | @agg l l' hs hl =>
              simp only [fld] at h
              obtain ⟨v', h1, h2⟩ := part_sound hg hn ⟨hs, hl⟩ h w
              exact ⟨v', by simp [Instr.field, run_underlying hu, hf, asAgg, h1], h2⟩
            | _ => simp [fld, Ev.dead] at h

theorem ix_sound {t : TypeId} {n : Nat} {g : Bool} {s : Nat} (ht : elemT P t = some (some n, g, s)) {a a' i i' v : Value} (ha : VR ρ a a') (hi : VR ρ i i') (h : ix g n s a i = some v) (w : World) :
    ∃ v', (Instr.index t a' i').run P w = .ok v' w ∧ VR ρ v v' := by
  obtain ⟨e, hu, hg, hn⟩ := elemT_array ht
  cases ha with
  | @agg l l' hs hl =>
    cases hi with
    | int k x =>
      simp only [ix] at h
      split at h
      · rename_i hc
        obtain ⟨v', h1, h2⟩ := part_sound hg hn ⟨hs, hl⟩ h w
        exact ⟨v', by simp [Instr.index, asIntOf, run_underlying hu, hc, run_sizeT hn, h1], h2⟩
      · cases h
    | _ => simp [ix, Ev.dead] at h
  | _ => simp [ix, Ev.dead] at h

theorem sx_sound {t : TypeId} (hu : P.underlying t = some .string) {a a' i i' v : Value} (ha : VR ρ a a') (hi : VR ρ i i') (h : sx a i = some v) (w : World) :
    ∃ v', (Instr.index t a' i').run P w = .ok v' w ∧ VR ρ v v' := by
  cases ha with
  | string s =>
    cases hi with
    | int k x =>
      simp only [sx] at h
      split at h
      · rename_i hc
        cases hs : s[x.toNat]? with
        | none => simp [hs] at h
        | some b =>
          simp [hs] at h
          subst h
          exact ⟨_, by simp [Instr.index, asIntOf, run_underlying hu, hc, hs], .int _ _⟩
      · cases h
    | _ => simp [sx, Ev.dead] at h
  | _ => simp [sx, Ev.dead] at h

/-! ### Numbers, texts -/
theorem bin_int_sound {t : TypeId} {q : Nat} {op : BinOp} {k k' : IntKind} {a b : Int} {v : Value} (h : bin q op (.int k a) (.int k' b) = some v) (w : World) :
    (binOp op t (.int k a) (.int k' b)).run P w = .ok v w ∧ flat v = true := by
  simp only [bin] at h
  cases op <;> simp only [binI, shift, bits] at h <;>
    (repeat' split at h) <;> first
      | (cases h; done)
      | (cases h; simp_all [binOp, Op.intArith, Op.intDiv, Op.intBits, Op.intCmp, flat, flatN]; done)
      | (cases h; rename_i hb; simp [binOp, Op.shift, hb, flat, flatN]; done)

theorem bin_str_sound {t : TypeId} {q : Nat} {op : BinOp} {a b : ByteArray} {v : Value} (h : bin q op (.string a) (.string b) = some v) (w : World) :
    (binOp op t (.string a) (.string b)).run P w = .ok v w ∧ flat v = true := by
  simp only [bin] at h
  cases op <;> simp only [binS] at h <;> (repeat' split at h) <;> first
      | (cases h; done)
      | (cases h; simp_all [binOp, Op.stringOp, flat, flatN]; done)

theorem bin_bool_sound {t : TypeId} {op : BinOp} {a b : Bool} {v : Value} (hu : P.underlying t = some .bool) (h : bin 1 op (.bool a) (.bool b) = some v) (w : World) :
    (binOp op t (.bool a) (.bool b)).run P w = .ok v w ∧ flat v = true := by
  simp only [bin, if_true] at h
  cases op <;> simp only at h <;> first
      | (cases h; done)
      | (cases h; simp [binOp, Op.equal, Op.maxDepth, run_equalIn_bool _ _ _ _ _ hu, flat, flatN]; done)

theorem un_sound {op : UnOp} {a a' v : Value} (ha : VR ρ a a') (h : un op a = some v) (w : World) : (Op.unary op a').run P w = .ok v w ∧ flat v = true := by
  cases ha <;> cases op <;> simp only [un, Ev.dead] at h <;> first
    | (cases h; done)
    | (cases h; simp [Op.unary, Op.intArith, flat, flatN]; done)
    | (simp only [bits] at h; cases h; simp [Op.unary, Op.intBits, flat, flatN]; done)

/-! ### Structs and arrays held against each other -/
theorem seqS_length : ∀ (l : List Nat) (xs ys : List Value) (r : Bool), seqS l xs ys = some r → xs.length = l.length ∧ ys.length = l.length
  | [], [], [], _, _ => ⟨rfl, rfl⟩
  | [], _ :: _, _, _, h => by simp [seqS] at h
  | [], [], _ :: _, _, h => by simp [seqS] at h
  | _ :: _, [], _, _, h => by simp [seqS] at h
  | _ :: _, _ :: _, [], _, h => by simp [seqS] at h
  | k :: l, x :: xs, y :: ys, r, h => by
    simp only [seqS] at h
    cases h1 : seq1 k x y with
    | none => simp [h1] at h
    | some b =>
      cases h2 : seqS l xs ys with
      | none => simp [h1, h2] at h
      | some c => have := seqS_length l xs ys c h2; simp [this.1, this.2]

theorem seqS_split : ∀ (l m : List Nat) (xs ys : List Value) (r : Bool), seqS (l ++ m) xs ys = some r →
    ∃ r1 r2, seqS l (xs.take l.length) (ys.take l.length) = some r1 ∧ seqS m (xs.drop l.length) (ys.drop l.length) = some r2 ∧ r = (r1 && r2)
  | [], m, xs, ys, r, h => ⟨true, r, by simp [seqS], by simpa using h, by simp⟩
  | k :: l, m, xs, ys, r, h => by
    obtain ⟨h1, h2⟩ := seqS_length _ _ _ _ h
    match xs, ys, h1, h2 with
    | x :: xs, y :: ys, _, _ =>
      simp only [List.cons_append, seqS] at h
      cases e1 : seq1 k x y with
      | none => simp [e1] at h
      | some b =>
        cases e2 : seqS (l ++ m) xs ys with
        | none => simp [e1, e2] at h
        | some c =>
          obtain ⟨r1, r2, e3, e4, e5⟩ := seqS_split l m xs ys c e2
          simp [e1, e2] at h
          exact ⟨b && r1, r2, by simp [seqS, e1, e3], by simpa using e4, by rw [← h, e5, Bool.and_assoc]⟩

/-- a value of a type, out of its cells -/
def valOf (g : Bool) (xs : List Value) : Value := if g then .agg ⟨xs⟩ else xs.getD 0 undef

theorem run_part_valOf {e : TypeId} {g : Bool} {n off : Nat} (hg : aggT P e = some g) (hn : sizeT P e = some n) (h1 : g = false → n = 1) {xs : List Value} (hx : off + n ≤ xs.length) (w : World) :
    (Go.part e ⟨xs⟩ off).run P w = .ok (valOf g ((xs.drop off).take n)) w := by
  cases g with
  | true =>
    have h2 : (⟨xs⟩ : Array Value).extract off (off + n) = ⟨(xs.drop off).take n⟩ := by
      apply Array.ext'; simp
    simp [Go.part, run_aggT hg, run_sizeT hn, valOf]
  | false =>
    have := h1 rfl
    subst this
    have : (⟨xs⟩ : Array Value)[off]? = some (xs[off]'(by omega)) := by simp
    simp only [Go.part, run_aggT hg, Sem.run_bind, Result.andThen_ok, Bool.false_eq_true, if_false, this, Sem.run_pure, valOf]
    congr 1
    rw [List.getD_eq_getElem?_getD, List.getElem?_take, if_pos (by omega), List.getElem?_drop]
    simp
    rw [List.getElem?_eq_getElem (by omega)]
    rfl

theorem sized_some {t : TypeId} {l m : List Nat} (h : sized P t l = some m) : m = l ∧ sizeT P t = some l.length := by
  unfold sized at h
  split at h
  · cases h; exact ⟨rfl, by assumption⟩
  · cases h

theorem shapeT_info {d : Nat} {t : TypeId} {l : List Nat} (h : shapeT P d t = some l) : ∃ g, aggT P t = some g ∧ sizeT P t = some l.length ∧ (g = false → l.length = 1) := by
  cases d with
  | zero => simp [shapeT] at h
  | succ d =>
    simp only [shapeT] at h
    cases hu : P.underlying t with
    | none => simp [hu] at h
    | some dd =>
      cases dd <;> simp only [hu] at h <;> try cases h
      · obtain ⟨rfl, h2⟩ := sized_some h; exact ⟨false, by simp [aggT, hu], h2, fun _ => rfl⟩
      · obtain ⟨rfl, h2⟩ := sized_some h; exact ⟨false, by simp [aggT, hu], h2, fun _ => rfl⟩
      · obtain ⟨rfl, h2⟩ := sized_some h; exact ⟨false, by simp [aggT, hu], h2, fun _ => rfl⟩
      · rename_i n e
        cases hs : shapeT P d e with
        | none => simp [hs] at h
        | some m => simp [hs] at h; obtain ⟨rfl, h2⟩ := sized_some h; exact ⟨true, by simp [aggT, hu], h2, fun h => by cases h⟩
      · rename_i fs
        split at h
        · cases h
        · cases hs : shapeF (shapeT P d) fs.toList 0 with
          | none => simp [hs] at h
          | some m => simp [hs] at h; obtain ⟨rfl, h2⟩ := sized_some h; exact ⟨true, by simp [aggT, hu], h2, fun h => by cases h⟩

theorem run_eqFields_shape {d D : Nat} (ih : ∀ (t : TypeId) (l : List Nat) (g : Bool), shapeT P d t = some l → aggT P t = some g → ∀ (xs ys : List Value) (r : Bool), seqS l xs ys = some r → ∀ w,
      (Op.equalIn D t (valOf g xs) (valOf g ys)).run P w = .ok r w) :
    ∀ (fs : List Field) (o : Nat) (l : List Nat) (xs ys : List Value) (r : Bool), shapeF (shapeT P d) fs o = some l → seqS l (xs.drop o) (ys.drop o) = some r → ∀ w,
      (Op.eqFields D ⟨xs⟩ ⟨ys⟩ fs).run P w = .ok r w
  | [], o, l, xs, ys, r, h, hr, w => by
    simp [shapeF] at h
    subst h
    cases hx : xs.drop o <;> cases hy : ys.drop o <;> simp [hx, hy, seqS] at hr
    subst hr
    simp [Op.eqFields]
  | f :: fs, o, l, xs, ys, r, h, hr, w => by
    simp only [shapeF] at h
    split at h
    · cases h
    · rename_i hc
      obtain ⟨hname, hoff⟩ : f.name ≠ "_" ∧ f.offset = o := by
        constructor
        · exact fun e => hc (.inl e)
        · exact Classical.byContradiction fun e => hc (.inr e)
      cases hs : shapeT P d f.type with
      | none => simp [hs] at h
      | some m =>
        simp only [hs, Option.bind_some] at h
        cases hm : shapeF (shapeT P d) fs (o + m.length) with
        | none => simp [hm] at h
        | some m2 =>
          simp [hm] at h
          subst h
          obtain ⟨r1, r2, h1, h2, rfl⟩ := seqS_split m m2 _ _ r hr
          obtain ⟨g, hg, hn, hg1⟩ := shapeT_info hs
          have hl := seqS_length _ _ _ _ hr
          have hlx : o + m.length ≤ xs.length ∨ m.length = 0 := by have := hl.1; simp at this; omega
          have hly : o + m.length ≤ ys.length ∨ m.length = 0 := by have := hl.2; simp at this; omega
          have px : (Go.part f.type ⟨xs⟩ f.offset).run P w = .ok (valOf g ((xs.drop o).take m.length)) w := by
            rw [hoff]
            rcases hlx with hlx | hlx
            · exact run_part_valOf hg hn hg1 hlx w
            · cases g with
              | false => have := hg1 rfl; omega
              | true => simp [Go.part, run_aggT hg, run_sizeT hn, valOf, hlx]
          have py : (Go.part f.type ⟨ys⟩ f.offset).run P w = .ok (valOf g ((ys.drop o).take m.length)) w := by
            rw [hoff]
            rcases hly with hly | hly
            · exact run_part_valOf hg hn hg1 hly w
            · cases g with
              | false => have := hg1 rfl; omega
              | true => simp [Go.part, run_aggT hg, run_sizeT hn, valOf, hly]
          simp only [Op.eqFields, hname, ne_eq, not_false_eq_true, if_true, Sem.run_bind, px, py, Result.andThen_ok, ih _ _ _ hs hg _ _ _ h1 w]
          cases r1
          · simp
          · simp only [Bool.not_true, Bool.false_eq_true, if_false, Bool.true_and]
            exact run_eqFields_shape ih fs (o + m.length) m2 xs ys r2 hm (by simpa using h2) w

theorem run_eqItems_shape {d D : Nat} {e : TypeId} {l : List Nat} {g : Bool} (hs : shapeT P d e = some l) (hg : aggT P e = some g) (hn : sizeT P e = some l.length) (hg1 : g = false → l.length = 1)
    (ih : ∀ (xs ys : List Value) (r : Bool), seqS l xs ys = some r → ∀ w, (Op.equalIn D e (valOf g xs) (valOf g ys)).run P w = .ok r w) (xs ys : List Value) :
    ∀ (n k : Nat) (r : Bool), seqS (List.replicate n l).flatten (xs.drop (k * l.length)) (ys.drop (k * l.length)) = some r → ∀ w,
      (Op.eqItems D e l.length ⟨xs⟩ ⟨ys⟩ (List.range' k n)).run P w = .ok r w
  | 0, k, r, hr, w => by
    cases hx : xs.drop (k * l.length) <;> cases hy : ys.drop (k * l.length) <;> simp [hx, hy, seqS] at hr
    subst hr
    simp [Op.eqItems]
  | n + 1, k, r, hr, w => by
    simp only [List.replicate_succ, List.flatten_cons] at hr
    obtain ⟨r1, r2, h1, h2, rfl⟩ := seqS_split l _ _ _ r hr
    have hl := seqS_length _ _ _ _ hr
    have px : (Go.part e ⟨xs⟩ (k * l.length)).run P w = .ok (valOf g ((xs.drop (k * l.length)).take l.length)) w := by
      rcases Nat.eq_zero_or_pos l.length with h0 | h0
      · cases g with
        | false => have := hg1 rfl; omega
        | true => simp [Go.part, run_aggT hg, run_sizeT hn, valOf, h0]
      · exact run_part_valOf hg hn hg1 (by have := hl.1; simp at this; omega) w
    have py : (Go.part e ⟨ys⟩ (k * l.length)).run P w = .ok (valOf g ((ys.drop (k * l.length)).take l.length)) w := by
      rcases Nat.eq_zero_or_pos l.length with h0 | h0
      · cases g with
        | false => have := hg1 rfl; omega
        | true => simp [Go.part, run_aggT hg, run_sizeT hn, valOf, h0]
      · exact run_part_valOf hg hn hg1 (by have := hl.2; simp at this; omega) w
    simp only [List.range'_succ, Op.eqItems, Sem.run_bind, px, py, Result.andThen_ok, ih _ _ _ h1 w]
    cases r1
    · simp
    · simp only [Bool.not_true, Bool.false_eq_true, if_false, Bool.true_and]
      refine run_eqItems_shape hs hg hn hg1 ih xs ys n (k + 1) r2 ?_ w
      simpa [Nat.add_mul] using h2

theorem run_equal_shape : ∀ (d D : Nat), d ≤ D → ∀ (t : TypeId) (l : List Nat) (g : Bool), shapeT P d t = some l → aggT P t = some g → ∀ (xs ys : List Value) (r : Bool), seqS l xs ys = some r → ∀ w,
    (Op.equalIn D t (valOf g xs) (valOf g ys)).run P w = .ok r w
  | 0, _, _, _, _, _, h, _, _, _, _, _, _ => by simp [shapeT] at h
  | d + 1, 0, hD, _, _, _, _, _, _, _, _, _, _ => by omega
  | d + 1, D + 1, hD, t, l, g, h, hg, xs, ys, r, hr, w => by
    have ih := run_equal_shape d D (by omega)
    simp only [shapeT] at h
    cases hu : P.underlying t with
    | none => simp [hu] at h
    | some dd =>
      cases dd <;> simp only [hu] at h <;> try cases h
      · obtain ⟨rfl, _⟩ := sized_some h
        simp [aggT, hu] at hg; subst hg
        match xs, ys, seqS_length _ _ _ _ hr with
        | [x], [y], _ =>
          cases x <;> cases y <;> simp [seqS, seq1] at hr
          subst hr
          simpa [valOf] using run_equalIn_bool w D t _ _ hu
      · rename_i k
        obtain ⟨rfl, _⟩ := sized_some h
        simp [aggT, hu] at hg; subst hg
        match xs, ys, seqS_length _ _ _ _ hr with
        | [x], [y], _ =>
          cases x <;> cases y <;> simp [seqS, seq1] at hr
          obtain ⟨hk, hr⟩ := hr
          subst hr; subst hk
          simpa [valOf] using run_equalIn_int w D t _ k _ _ hu
      · obtain ⟨rfl, _⟩ := sized_some h
        simp [aggT, hu] at hg; subst hg
        match xs, ys, seqS_length _ _ _ _ hr with
        | [x], [y], _ =>
          cases x <;> cases y <;> simp [seqS, seq1] at hr
          subst hr
          simpa [valOf, beq_toListBytes] using run_equalIn_string w D t _ _ hu
      · rename_i n e
        simp [aggT, hu] at hg; subst hg
        cases hs : shapeT P d e with
        | none => simp [hs] at h
        | some m =>
          simp [hs] at h
          obtain ⟨rfl, _⟩ := sized_some h
          obtain ⟨ge, hge, hne, hg1⟩ := shapeT_info hs
          have hi : ∃ i, P.info? e = some i := by
            unfold sizeT at hne
            cases hi : P.info? e with
            | none => simp [hi] at hne
            | some i => exact ⟨i, rfl⟩
          obtain ⟨i, hi⟩ := hi
          have hc : P.cellsOf e = m.length := by simpa [Program.cellsOf, sizeT, hi] using hne
          simp only [valOf, if_true]
          rw [run_equalIn_array (w := w) D (i := i) ⟨xs⟩ ⟨ys⟩ hu hi, hc]
          have := run_eqItems_shape hs hge hne hg1 (fun xs ys r hr w => ih e m ge hs hge xs ys r hr w) xs ys n 0 r (by simpa using hr) w
          simpa [List.range_eq_range'] using this
      · rename_i fs
        simp [aggT, hu] at hg; subst hg
        split at h
        · cases h
        · rename_i hst
          cases hs : shapeF (shapeT P d) fs.toList 0 with
          | none => simp [hs] at h
          | some m =>
            simp [hs] at h
            obtain ⟨rfl, _⟩ := sized_some h
            have hf : P.fieldsOf t = fs := by simp [Program.fieldsOf, hu]
            simp only [valOf, if_true]
            rw [run_equalIn_struct w D t ⟨xs⟩ ⟨ys⟩ (by rw [hf, hu]) (by simpa using hst), hf]
            exact run_eqFields_shape (fun t l g hs hg xs ys r hr w => ih t l g hs hg xs ys r hr w) fs.toList 0 l xs ys r hs (by simpa using hr) w

theorem seq1_flat {k : Nat} {x y : Value} {b : Bool} (h : seq1 k x y = some b) : flat x = true ∧ flat y = true := by
  unfold seq1 at h
  split at h
  · exact ⟨rfl, rfl⟩
  · exact ⟨rfl, rfl⟩
  · exact ⟨rfl, rfl⟩
  · cases h

theorem seqS_VL {l : List Nat} : ∀ {xs ys xs' ys' : List Value} {r : Bool}, VL ρ xs xs' → VL ρ ys ys' → seqS l xs ys = some r → xs' = xs ∧ ys' = ys := by
  induction l with
  | nil =>
    intro xs ys xs' ys' r hx hy h
    obtain ⟨h1, h2⟩ := seqS_length _ _ _ _ h
    match xs, ys, h1, h2 with
    | [], [], _, _ => exact ⟨hx.inv_nil, hy.inv_nil⟩
  | cons k l ih =>
    intro xs ys xs' ys' r hx hy h
    obtain ⟨h1, h2⟩ := seqS_length _ _ _ _ h
    match xs, ys, h1, h2 with
    | x :: xs, y :: ys, _, _ =>
      obtain ⟨x', mx, rfl, a1, a2⟩ := hx.inv_cons
      obtain ⟨y', my, rfl, b1, b2⟩ := hy.inv_cons
      simp only [seqS] at h
      cases e1 : seq1 k x y with
      | none => simp [e1] at h
      | some b =>
        cases e2 : seqS l xs ys with
        | none => simp [e1, e2] at h
        | some c =>
          obtain ⟨rfl, rfl⟩ := ih a2 b2 e2
          obtain ⟨f1, f2⟩ := seq1_flat e1
          have hx := a1.flat_eq f1
          have hy := b1.flat_eq f2
          rw [hx, hy]
          exact ⟨rfl, rfl⟩

theorem beqA_sound {t : TypeId} {sh : List Nat} (hs : eqS P t = some sh) {op : BinOp} {x y x' y' v : Value} {xo yo : Operand} (hx : VR ρ x x') (hy : VR ρ y y') (h : beqA sh op x y = some v) (w : World) :
    (do eqGuard op t xo yo x' y'; binOp op t x' y' : Sem Value).run P w = .ok v w ∧ flat v = true := by
  cases hx with
  | @agg a a' ha hal =>
    cases hy with
    | @agg b b' hb hbl =>
      have hT : P.eqGuardType P.depth t = false ∧ shapeT P 8 t = some sh ∧ aggT P t = some true := by
        unfold eqS at hs
        cases hu : P.underlying t with
        | none => simp [hu] at hs
        | some d =>
          cases d <;> simp only [hu] at hs <;> try cases hs
          all_goals
            split at hs
            · cases hs
            · rename_i h1; exact ⟨by simpa using h1, hs, by simp [aggT, hu]⟩
      obtain ⟨h1, h2, h3⟩ := hT
      simp only [beqA] at h
      cases op <;> simp only at h <;> try cases h
      all_goals
        cases e : seqS sh a b with
        | none => simp [e] at h
        | some r =>
          simp [e] at h
          subst h
          obtain ⟨rfl, rfl⟩ := seqS_VL ⟨ha, hal⟩ ⟨hb, hbl⟩ e
          have := run_equal_shape 8 10000 (by omega) t sh true h2 h3 _ _ _ e w
          simp only [valOf, if_true] at this
          simp [run_eqGuard_agg w _ t xo yo _ _ h1, run_eql_struct, run_neq_struct, this, flat, flatN]
    | _ => simp [beqA, Ev.dead] at h
  | _ => simp [beqA, Ev.dead] at h

end Go.Ev
