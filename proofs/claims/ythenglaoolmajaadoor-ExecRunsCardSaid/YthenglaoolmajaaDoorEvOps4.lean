/- What the machine does at an operation, held against the evaluator: lengths, slicings, literals, new memory. -/
import Derived.Test.YthenglaoolmajaaDoorEvOps2
set_option linter.unusedSimpArgs false
namespace Go.Ev
open Go
set_option linter.unusedSectionVars false
variable [Tabs]

variable {P : Program} {ρ : Ren} {H : Hp} {w : World}

theorem run_eqGuard_plain {op : BinOp} {t : TypeId} {xo yo : Operand} {a b : Value} (h : (match a, b with | .nilIface, .nilIface => false | .agg _, .agg _ => false | _, _ => true) = true) (w : World) :
    (eqGuard op t xo yo a b).run P w = .ok () w := by
  cases op <;> simp only [eqGuard] <;> (try rfl) <;> cases a <;> cases b <;> first | rfl | (simp at h; done)

theorem eqK_bool {t : TypeId} (h : eqK P t = 1) : P.underlying t = some .bool := by
  unfold eqK at h
  cases hu : P.underlying t with
  | none => simp [hu] at h
  | some d => cases d <;> simp [hu] at h ⊢
theorem eqK_ptr {t : TypeId} (h : eqK P t = 3) : ∃ e, P.underlying t = some (.pointer e) := by
  unfold eqK at h
  cases hu : P.underlying t with
  | none => simp [hu] at h
  | some d => cases d <;> simp [hu] at h ⊢
theorem eqK_slice {t : TypeId} (h : eqK P t = 4) : ∃ e, P.underlying t = some (.slice e) := by
  unfold eqK at h
  cases hu : P.underlying t with
  | none => simp [hu] at h
  | some d => cases d <;> simp [hu] at h ⊢

theorem run_equalIn_pn (d : Nat) {t e : TypeId} (hu : P.underlying t = some (.pointer e)) (b : Option Addr) (w : World) : (Op.equalIn (d + 1) t (.pointer none) (.pointer b)).run P w = .ok b.isNone w := by
  simp [Op.equalIn, run_underlying hu]
theorem run_equalIn_np (d : Nat) {t e : TypeId} (hu : P.underlying t = some (.pointer e)) (b : Addr) (w : World) : (Op.equalIn (d + 1) t (.pointer (some b)) (.pointer none)).run P w = .ok false w := by
  simp [Op.equalIn, run_underlying hu]
theorem run_equalIn_sn (d : Nat) {t e : TypeId} (hu : P.underlying t = some (.slice e)) (b : Option Addr) (m n m' n' : Nat) (w : World) : (Op.equalIn (d + 1) t (.slice none m n) (.slice b m' n')).run P w = .ok b.isNone w := by
  simp [Op.equalIn, run_underlying hu]
theorem run_equalIn_ns (d : Nat) {t e : TypeId} (hu : P.underlying t = some (.slice e)) (b : Addr) (m n m' n' : Nat) (w : World) : (Op.equalIn (d + 1) t (.slice (some b) m n) (.slice none m' n')).run P w = .ok false w := by
  simp [Op.equalIn, run_underlying hu]

/-- comparisons by 'equalIn' -/
theorem run_by_equal {op : BinOp} {t : TypeId} {x y : Value} {r : Bool} (hxy : (match x, y with | .pointer _, .pointer _ => true | .slice .., .slice .. => true | _, _ => false) = true)
    (h : ∀ d, (Op.equalIn (d + 1) t x y).run P w = .ok r w) {v : Value} (hv : (match op with | .eql => some (Value.bool r) | .neq => some (.bool (!r)) | _ => none) = some v) :
    (binOp op t x y).run P w = .ok v w := by
  have h' : (Op.equal t x y).run P w = .ok r w := h 9999
  cases op <;> simp only at hv <;> try cases hv
  all_goals
    cases x <;> cases y <;> simp at hxy
    all_goals
      simp only [binOp, Sem.run_bind, h', Result.andThen_ok, Sem.run_pure]

theorem flat_bool (b : Bool) : flat (.bool b) = true := rfl
theorem cmp_flat {op : BinOp} {r : Bool} {v : Value} (hv : (match op with | .eql => some (Value.bool r) | .neq => some (.bool (!r)) | _ => none) = some v) : flat v = true := by
  cases op <;> simp only at hv <;> cases hv <;> rfl

theorem bin_sound {t : TypeId} {op : BinOp} {x y x' y' v : Value} {xo yo : Operand} (hx : VR ρ x x') (hy : VR ρ y y') (h : bin (eqK P t) op x y = some v) (w : World) :
    (do eqGuard op t xo yo x' y'; binOp op t x' y' : Sem Value).run P w = .ok v w ∧ flat v = true := by
  cases hx with
  | int k a =>
    cases hy with
    | int k' b =>
      obtain ⟨h1, h2⟩ := bin_int_sound (P := P) (t := t) h w
      exact ⟨by rw [Sem.run_bind, run_eqGuard_plain rfl, Result.andThen_ok, h1], h2⟩
    | _ => simp [bin, Ev.dead] at h
  | string a =>
    cases hy with
    | string b =>
      obtain ⟨h1, h2⟩ := bin_str_sound (P := P) (t := t) h w
      exact ⟨by rw [Sem.run_bind, run_eqGuard_plain rfl, Result.andThen_ok, h1], h2⟩
    | _ => simp [bin, Ev.dead] at h
  | bool a =>
    cases hy with
    | bool b =>
      have hq : eqK P t = 1 := by
        simp only [bin] at h
        split at h
        · assumption
        · cases h
      rw [hq] at h
      obtain ⟨h1, h2⟩ := bin_bool_sound (eqK_bool hq) h w
      exact ⟨by rw [Sem.run_bind, run_eqGuard_plain rfl, Result.andThen_ok, h1], h2⟩
    | _ => simp [bin, Ev.dead] at h
  | pnil =>
    have hq : eqK P t = 3 := by
      cases y <;> simp only [bin] at h <;> first | (cases h; done) | (split at h; assumption; cases h)
    obtain ⟨e, hu⟩ := eqK_ptr hq
    rw [Sem.run_bind]
    cases hy with
    | pnil =>
      simp only [bin, hq, if_true] at h
      exact ⟨by rw [run_eqGuard_plain rfl, Result.andThen_ok]; exact run_by_equal rfl (fun d => run_equalIn_pn d hu _ w) h, cmp_flat h⟩
    | ptr hr =>
      simp only [bin, hq, if_true] at h
      exact ⟨by rw [run_eqGuard_plain rfl, Result.andThen_ok]; exact run_by_equal rfl (fun d => run_equalIn_pn d hu _ w) h, cmp_flat h⟩
    | _ => simp [bin, Ev.dead] at h
  | ptr hr =>
    cases hy with
    | pnil =>
      have hq : eqK P t = 3 := by
        simp only [bin] at h; split at h; assumption; cases h
      obtain ⟨e, hu⟩ := eqK_ptr hq
      simp only [bin, hq, if_true] at h
      exact ⟨by rw [Sem.run_bind, run_eqGuard_plain rfl, Result.andThen_ok]; exact run_by_equal rfl (fun d => run_equalIn_np d hu _ w) h, cmp_flat (r := false) h⟩
    | _ => simp [bin, Ev.dead] at h
  | snil =>
    have hq : eqK P t = 4 := by
      cases y <;> simp only [bin] at h <;> first | (cases h; done) | (split at h; assumption; cases h)
    obtain ⟨e, hu⟩ := eqK_slice hq
    rw [Sem.run_bind]
    cases hy with
    | snil =>
      simp only [bin, hq, if_true] at h
      exact ⟨by rw [run_eqGuard_plain rfl, Result.andThen_ok]; exact run_by_equal rfl (fun d => run_equalIn_sn d hu _ _ _ _ _ w) h, cmp_flat h⟩
    | slice hr hc =>
      simp only [bin, hq, if_true] at h
      exact ⟨by rw [run_eqGuard_plain rfl, Result.andThen_ok]; exact run_by_equal rfl (fun d => run_equalIn_sn d hu _ _ _ _ _ w) h, cmp_flat h⟩
    | sl0 =>
      simp only [bin, hq, if_true] at h
      exact ⟨by rw [run_eqGuard_plain rfl, Result.andThen_ok]; exact run_by_equal rfl (fun d => run_equalIn_sn d hu _ _ _ _ _ w) h, cmp_flat h⟩
    | _ => simp [bin, Ev.dead] at h
  | slice hr hc =>
    cases hy with
    | snil =>
      have hq : eqK P t = 4 := by
        simp only [bin] at h; split at h; assumption; cases h
      obtain ⟨e, hu⟩ := eqK_slice hq
      simp only [bin, hq, if_true] at h
      exact ⟨by rw [Sem.run_bind, run_eqGuard_plain rfl, Result.andThen_ok]; exact run_by_equal rfl (fun d => run_equalIn_ns d hu _ _ _ _ _ w) h, cmp_flat (r := false) h⟩
    | _ => simp [bin, Ev.dead] at h
  | sl0 =>
    cases hy with
    | snil =>
      have hq : eqK P t = 4 := by
        simp only [bin] at h; split at h; assumption; cases h
      obtain ⟨e, hu⟩ := eqK_slice hq
      simp only [bin, hq, if_true] at h
      exact ⟨by rw [Sem.run_bind, run_eqGuard_plain rfl, Result.andThen_ok]; exact run_by_equal rfl (fun d => run_equalIn_ns d hu _ _ _ _ _ w) h, cmp_flat (r := false) h⟩
    | _ => simp [bin, Ev.dead] at h
  | _ => simp [bin, Ev.dead] at h

/-! ### Conversions -/
theorem cvI_sound {s d : TypeId} {k : IntKind} (hd : P.underlying d = some (.int k)) (hs : ∃ x, P.underlying s = some x) {a a' v : Value} (ha : VR ρ a a') (h : cvI k a = some v) (w : World) :
    (convert s d a').run P w = .ok v w ∧ flat v = true := by
  obtain ⟨x, hs⟩ := hs
  cases ha with
  | int k' n => simp [cvI] at h; subst h; simp [convert, run_underlying hs, run_underlying hd, Conv.intToInt, flat, flatN]
  | _ => simp [cvI, Ev.dead] at h

theorem cvS_sound {s d : TypeId} (hs : P.underlying s = some .string) (hd : P.underlying d = some .string) {a a' v : Value} (ha : VR ρ a a') (h : cvS a = some v) (w : World) :
    (convert s d a').run P w = .ok v w ∧ flat v = true := by
  cases ha with
  | string b => simp [cvS] at h; subst h; simp [convert, run_underlying hs, run_underlying hd, flat, flatN]
  | _ => simp [cvS, Ev.dead] at h

theorem unbytes_cons {v : Value} {l : List Value} {b : List UInt8} (h : unbytes (v :: l) = some b) : ∃ n b', v = .int .u8 n ∧ unbytes l = some b' ∧ b = UInt8.ofNat n.toNat :: b' := by
  unfold unbytes at h
  split at h
  · rename_i e; cases e
  · rename_i e
    cases e
    cases hr : unbytes l with
    | none => simp [hr] at h
    | some b' => simp [hr] at h; exact ⟨_, b', rfl, rfl, h.symm⟩
  · cases h

theorem unbytes_VL : ∀ {l l' : List Value} {b : List UInt8}, VL ρ l l' → unbytes l = some b → l' = l
  | [], l', _, h, _ => h.inv_nil
  | v :: l, l', b, h, hb => by
    obtain ⟨v', m, rfl, h1, h2⟩ := h.inv_cons
    obtain ⟨n, b', rfl, hr, _⟩ := unbytes_cons hb
    rw [unbytes_VL h2 hr, VR.int_inv h1]

theorem run_unbytes (P : Program) (w : World) (f : Value → ByteArray → Sem (ForInStep ByteArray)) (hf : ∀ n r, f (.int .u8 n) r = pure (ForInStep.yield (r.push (UInt8.ofNat n.toNat)))) : ∀ (l : List Value) (b : List UInt8) (s : ByteArray), unbytes l = some b →
    (forIn l s f : Sem ByteArray).run P w = .ok ⟨s.data ++ b.toArray⟩ w := by
  intro l
  induction l with
  | nil => intro b s h; simp [unbytes] at h; subst h; simp
  | cons v l ih =>
    intro b s h
    obtain ⟨n, b', rfl, hr, rfl⟩ := unbytes_cons h
    simp only [List.forIn_cons, hf, Sem.run_bind, Sem.run_pure, Result.andThen_ok]
    rw [ih b' _ hr]
    congr 2
    apply Array.ext'
    simp [ByteArray.push]

theorem cvT_sound (hS : Sim P ρ H w) {s d e : TypeId} (hs : P.underlying s = some (.slice e)) (he : P.underlying e = some (.int .u8)) (hd : P.underlying d = some .string) {a a' v : Value} (ha : VR ρ a a')
    (h : cvT a H = some v) : (convert s d a').run P w = .ok v w ∧ flat v = true := by
  cases ha with
  | snil => simp [cvT] at h; subst h; simp [convert, run_underlying hs, run_underlying hd, run_underlying he, Conv.bytesToString, flat, flatN]
  | @slice b o b' d' n c c' hr hc =>
    simp only [cvT] at h
    cases hcs : H.cells b with
    | none => simp [hcs] at h
    | some cs =>
      simp only [hcs, Option.bind_some] at h
      split at h
      · rename_i hle
        cases hu : unbytes ((cs.drop o).take n) with
        | none => simp [hu] at h
        | some l =>
          simp [hu] at h
          subst h
          have hL : ldN n (.pointer (some ⟨b, o, none⟩)) H = some (.agg ((cs.drop o).take n).toArray) := by simp [ldN, hcs, hle]
          obtain ⟨ad, cs', h1, h2, h3⟩ := ldN_sound hS (.ptr (o := o) hr) hL
          cases h1
          have hcs' : cs'.toList = (cs.drop o).take n := by
            generalize hq : (cs.drop o).take n = q at h3 hu
            cases h3 with
            | agg hs hh => exact unbytes_VL ⟨hs, hh⟩ hu
          refine ⟨?_, rfl⟩
          simp only [convert, Sem.run_bind, run_underlying hs, run_underlying hd, run_underlying he, Result.andThen_ok, Conv.bytesToString, h2, ← Array.forIn_toList]
          rw [run_unbytes P w _ (fun n r => rfl) cs'.toList l .empty (by rw [hcs']; exact hu)]
          simp [ByteArray.empty, ByteArray.emptyWithCapacity]
          try rfl
      · cases h
  | @sl0 a a' c =>
    obtain ⟨b, o, sp⟩ := a
    obtain ⟨b', o', sp'⟩ := a'
    have hv : v = .string .empty := by
      cases sp <;> simp only [cvT] at h
      · cases hcs : H.cells b with
        | none => simp [hcs] at h
        | some cs =>
          simp only [hcs, Option.bind_some] at h
          split at h
          · simp [unbytes] at h; exact h.symm
          · cases h
      · cases h
    subst hv
    simp [convert, run_underlying hs, run_underlying hd, run_underlying he, Conv.bytesToString, loadCells, loadCellsFrom, flat, flatN]
  | _ => simp [cvT, Ev.dead] at h

theorem bytesV_flat (s : ByteArray) : (bytesV s).all (flatN 3) = true := by
  rw [List.all_eq_true]
  intro x hx
  simp only [bytesV, List.mem_map] at hx
  obtain ⟨b, _, rfl⟩ := hx
  rfl

/-- a string becomes bytes: memory is made -/
theorem cvB_sound (hS : Sim P ρ H w) {s d e : TypeId} (hs : P.underlying s = some .string) (hd : P.underlying d = some (.slice e)) (he : P.underlying e = some (.int .u8)) {a a' v : Value} {H' : Hp} (ha : VR ρ a a')
    (h : cvB a H = some (v, H')) : ∃ ρ' v' w', (convert s d a').run P w = .ok v' w' ∧ Stp P ρ H w ρ' H' w' ∧ VR ρ' v v' := by
  cases ha with
  | string b =>
    simp only [cvB] at h
    cases h
    generalize hcap : (Question.appendCap b.size 0 e).cut (w.tape w.drawn (.appendCap b.size 0 e)) = cap
    have hle : b.size ≤ cap := by rw [← hcap]; simp only [Question.cut]; omega
    generalize hc : (b.data.map fun x => Value.int .u8 x.toNat) ++ Array.replicate (cap - b.size) (.int .u8 0) = c
    have hsz : c.size = cap := by
      rw [← hc]; simp
      have : b.data.size = b.size := rfl
      omega
    let w1 := w.drew
    have hS1 := hS.same (w' := w1) rfl
    have hnew : ∀ z, BlkR (ρ.up H.next (w1.heap.size, 0)) (w1.alloc (.cells c e z)) w1.heap.size 0 (.rw (bytesV b)) ↔ unfrozen c z := by
      intro z
      constructor
      · rintro ⟨c', e', z', h1, _, h3⟩
        have : (w1.alloc (.cells c e z)).heap[w1.heap.size]? = some (.cells c e z) := by
          show (w1.heap.push _)[w1.heap.size]? = _
          simp
        rw [this] at h1; cases h1; exact h3
      · intro h3
        refine ⟨c, e, z, ?_, ?_, h3⟩
        · show (w1.heap.push _)[w1.heap.size]? = _
          simp
        · have hvl : VL (ρ.up H.next (w1.heap.size, 0)) (bytesV b) ((b.data.map fun x => Value.int .u8 x.toNat).toList) := by
            have : (b.data.map fun x => Value.int .u8 x.toNat).toList = bytesV b := by simp [bytesV]
            rw [this]; exact VL.flat_refl (bytesV_flat b)
          refine ⟨?_, fun i v hv => ?_⟩
          · have := hvl.1; simp at this
            have : b.data.size = b.size := rfl
            simp [bytesV]; omega
          · obtain ⟨v', h4, h5⟩ := hvl.get hv
            refine ⟨v', ?_, h5⟩
            have hi := (List.getElem?_eq_some_iff.1 h4).1
            rw [Nat.zero_add, ← hc, Array.getElem?_append_left (by simpa using hi)]
            simpa using h4
    have hz : unfrozen c (cap, cap + 1) := by intro o ho; omega
    have hstep := hS1.new (.cells c e (cap, cap + 1)) (.rw (bytesV b)) ((hnew _).2 hz)
    have hd0 : Stp P ρ H w ρ H w1 := Stp.drew hS
    refine ⟨_, .slice (some ⟨w.heap.size, 0, none⟩) b.size cap, w1.alloc (.cells c e (cap, cap + 1)), ?_, hd0.trans hstep, ?_⟩
    · simp only [convert, Sem.run_bind, run_underlying hs, run_underlying hd, run_underlying he, Result.andThen_ok, Conv.stringToBytes, run_choose, Question.forced, Bool.false_eq_true, if_false, hcap, newRow, run_newObj, hc, Sem.run_pure,
        markStringish, run_shape]
      have hsh : (World.shape? { w with drawn := w.drawn + 1, heap := w.heap.push (.cells c e) } w.heap.size) = some (e, c.size) := by
        simp [World.shape?]
      simp only [hsh, Sem.run_bind, run_freeze, Result.andThen_ok, Sem.run_pure]
      congr 1
      simp only [World.freeze, World.alloc, w1, World.drew, Nat.succ_ne_zero, if_false, hsz]
      congr 1
      apply Array.ext_getElem?
      intro i
      rw [Array.getElem?_modify]
      by_cases hi : w.heap.size = i
      · subst hi; simp
      · rw [if_neg hi]
        show (w.heap.push _)[i]? = (w.heap.push _)[i]?
        rw [Array.getElem?_push, Array.getElem?_push, if_neg (Ne.symm hi), if_neg (Ne.symm hi)]
    · have : (ρ.up H.next (w1.heap.size, 0)) H.next = some (w.heap.size, 0) := by simp [Ren.up, w1]
      have := VR.slice (o := 0) (n := b.size) (c := b.size) (c' := cap) this hle
      simpa using this
  | _ => simp [cvB, Ev.dead] at h

end Go.Ev
set_option linter.unusedSimpArgs false
namespace Go.Ev
open Go
set_option linter.unusedSectionVars false
variable [Tabs]

variable {P : Program} {ρ : Ren} {H : Hp} {w : World}

theorem len_sound (hS : Sim P ρ H w) {t ty : TypeId} {q : Nat} (ht : (match P.underlying t with | some .string => some 0 | some (.slice _) => some 1 | some (.map _ _) => some 2 | _ => none) = some q) {a a' v : Value} (ha : VR ρ a a')
    (h : len q a H = some v) : (Builtin.len_ #[t] ty #[a']).run P w = .ok v w ∧ flat v = true := by
  cases hu : P.underlying t with
  | none => simp [hu] at ht
  | some d =>
    cases d <;> simp [hu] at ht <;> subst ht
    · cases ha with
      | string s => simp [len] at h; subst h; simp [Builtin.len_, run_underlying hu, flat, flatN, goInt]
      | _ => simp [len, Ev.dead] at h
    · cases ha with
      | snil => simp [len] at h; subst h; simp [Builtin.len_, run_underlying hu, flat, flatN, goInt]
      | slice hr hc => simp [len] at h; subst h; simp [Builtin.len_, run_underlying hu, flat, flatN, goInt]
      | sl0 => simp [len] at h; subst h; simp [Builtin.len_, run_underlying hu, flat, flatN, goInt]
      | _ => simp [len, Ev.dead] at h
    · cases ha with
      | mnil => simp [len] at h; subst h; simp [Builtin.len_, run_underlying hu, flat, flatN, goInt]
      | @map r r' hr =>
        simp only [len] at h
        cases hg : H.get r with
        | none => simp [hg] at h
        | some x =>
          cases x <;> simp [hg] at h
          rename_i es ck
          subst h
          obtain ⟨_, es', h1, h2, _⟩ := hS.blk r _ r' 0 hg hr
          simp [Builtin.len_, run_underlying hu, flat, flatN, goInt, getObj, Sem.run, h1, h2]
      | _ => simp [len, Ev.dead] at h

theorem ext1_sound {a a' v : Value} {i : Nat} (ha : VR ρ a a') (h : ext1 a i = some v) (w : World) : ∃ v', (Instr.extract a' i).run P w = .ok v' w ∧ VR ρ v v' := by
  cases ha with
  | @tuple l l' hs hl =>
    simp only [ext1] at h
    obtain ⟨v', h1, h2⟩ := VL.get ⟨hs, hl⟩ (i := i) (v := v) (by simpa using h)
    exact ⟨v', by simp [Instr.extract, h1], h2⟩
  | _ => simp [ext1, Ev.dead] at h

theorem optInt_sound {d : Nat} {o : Option Value} {o' : Option Value} (ho : match o, o' with | none, none => True | some v, some v' => VR ρ v v' | _, _ => False) {i : Int} (h : optInt d o = some i) :
    (o = none ∧ o' = none ∧ i = d) ∨ ∃ k, o' = some (.int k i) := by
  cases o with
  | none =>
    cases o' with
    | none => simp [optInt] at h; exact .inl ⟨rfl, rfl, h.symm⟩
    | some v => exact ho.elim
  | some v =>
    cases o' with
    | none => exact ho.elim
    | some v' =>
      cases v <;> simp [optInt] at h
      rename_i k n
      subst h
      exact .inr ⟨k, by rw [VR.int_inv ho]⟩

abbrev OR (ρ : Ren) (o o' : Option Value) : Prop := match o, o' with | none, none => True | some v, some v' => VR ρ v v' | _, _ => False

/-- the bounds of a slicing -/
theorem run_bounds {isS : Bool} {n c : Nat} {lo hi lo' hi' : Option Value} (hl : OR ρ lo lo') (hh : OR ρ hi hi') {l h : Int} (el : optInt 0 lo = some l) (eh : optInt n hi = some h) (h0 : 0 ≤ l) (h1 : l ≤ h) (h2 : h ≤ n) (hc : n ≤ c) (w : World) :
    (Instr.sliceBounds isS n c lo' hi' none).run P w = .ok (l.toNat, h.toNat, c) w := by
  have hhn : 0 ≤ h := by omega
  have hhc : h ≤ (c : Int) := by omega
  have hln : l ≤ (h.toNat : Int) := by omega
  rcases optInt_sound hl el with ⟨_, rfl, rfl⟩ | ⟨k, rfl⟩ <;> rcases optInt_sound hh eh with ⟨_, rfl, rfl⟩ | ⟨k', rfl⟩
  · simp [Instr.sliceBounds]
  · simp [Instr.sliceBounds, Instr.sliceBound, asIntOf, hhn, hhc]
  · have : l ≤ (n : Int) := by omega
    simp [Instr.sliceBounds, Instr.sliceBound, asIntOf, h0, this]
  · simp [Instr.sliceBounds, Instr.sliceBound, asIntOf, hhn, hhc, h0, hln]
    intro hlt
    omega

theorem slS_sound {t : TypeId} (hu : P.underlying t = some .string) {a a' v : Value} {lo hi lo' hi' : Option Value} (ha : VR ρ a a') (hl : OR ρ lo lo') (hh : OR ρ hi hi') (h : slS a lo hi = some v) (w : World) :
    (Instr.sliceAt t a' lo' hi' none).run P w = .ok v w ∧ flat v = true := by
  cases ha with
  | string s =>
    simp only [slS] at h
    cases el : optInt 0 lo with
    | none => simp [el] at h
    | some l =>
      cases eh : optInt s.size hi with
      | none => simp [el, eh] at h
      | some m =>
        simp only [el, eh, Option.bind_some] at h
        split at h
        · rename_i hc
          cases h
          simp [Instr.sliceAt, Instr.slice, run_underlying hu, run_bounds hl hh el eh hc.1 hc.2.1 hc.2.2 (Nat.le_refl _), flat, flatN]
        · cases h
  | _ => simp [slS, Ev.dead] at h

theorem slV_sound {t e : TypeId} {sz : Nat} (hu : P.underlying t = some (.slice e)) (hz : sizeT P e = some sz) {a a' v : Value} {lo hi lo' hi' : Option Value} (ha : VR ρ a a') (hl : OR ρ lo lo') (hh : OR ρ hi hi')
    (h : slV sz a lo hi = some v) (w : World) : ∃ v', (Instr.sliceAt t a' lo' hi' none).run P w = .ok v' w ∧ VR ρ v v' := by
  cases ha with
  | snil =>
    simp only [slV] at h
    cases el : optInt 0 lo with
    | none => simp [el] at h
    | some l =>
      cases eh : optInt 0 hi with
      | none => simp [el, eh] at h
      | some m =>
        simp only [el, eh, Option.bind_some] at h
        split at h
        · rename_i hc
          obtain ⟨rfl, rfl⟩ := hc
          cases h
          refine ⟨.slice none 0 0, ?_, .snil⟩
          simp [Instr.sliceAt, Instr.slice, run_underlying hu, run_bounds (n := 0) (c := 0) hl hh el eh (by omega) (by omega) (by omega) (by omega), run_sizeT hz]
        · cases h
  | @slice b o b' d n c c' hr hc' =>
    simp only [slV] at h
    cases el : optInt 0 lo with
    | none => simp [el] at h
    | some l =>
      cases eh : optInt n hi with
      | none => simp [el, eh] at h
      | some m =>
        simp only [el, eh, Option.bind_some] at h
        split at h
        · rename_i hc
          cases h
          have hb := run_bounds (P := P) (isS := true) hl hh el eh hc.1 hc.2.1 hc.2.2 hc' w
          by_cases e0 : c' = l.toNat
          · refine ⟨.slice (some ⟨b', o + d, none⟩) 0 0, ?_, ?_⟩
            · have e1 : m.toNat - l.toNat = 0 := by omega
              have e2 : c' - l.toNat = 0 := by omega
              simp only [Instr.sliceAt, Instr.slice, run_underlying hu, Sem.run_bind, Result.andThen_ok, hb, run_sizeT hz, if_pos e0, Sem.run_pure, e1, e2]
            · have : m.toNat - l.toNat = 0 := by omega
              rw [this]; exact .sl0
          · refine ⟨.slice (some ⟨b', o + d + l.toNat * sz, none⟩) (m.toNat - l.toNat) (c' - l.toNat), ?_, ?_⟩
            · simp [Instr.sliceAt, Instr.slice, run_underlying hu, hb, run_sizeT hz, e0, add_none]
            · have := VR.slice (ρ := ρ) (o := o + l.toNat * sz) (n := m.toNat - l.toNat) (c := m.toNat - l.toNat) (c' := c' - l.toNat) hr (by omega)
              rwa [show o + l.toNat * sz + d = o + d + l.toNat * sz from by omega] at this
        · cases h
  | @sl0 a a' c =>
    obtain ⟨b, o, sp⟩ := a
    cases sp with
    | some _ => simp [slV] at h
    | none =>
      simp only [slV] at h
      cases el : optInt 0 lo with
      | none => simp [el] at h
      | some l =>
        cases eh : optInt 0 hi with
        | none => simp [el, eh] at h
        | some m =>
          simp only [el, eh, Option.bind_some] at h
          split at h
          · rename_i hc
            cases h
            have e1 : l = 0 := by omega
            have e2 : m = 0 := by omega
            subst e1; subst e2
            refine ⟨.slice (some a') 0 0, ?_, .sl0⟩
            simp [Instr.sliceAt, Instr.slice, run_underlying hu, run_bounds (n := 0) (c := 0) hl hh el eh (by omega) (by omega) (by omega) (by omega), run_sizeT hz]
          · cases h
  | _ => simp [slV, Ev.dead] at h

theorem slA_sound {t e : TypeId} {n sz : Nat} (hu : P.underlying t = some (.array n e)) (hz : sizeT P e = some sz) {a a' v : Value} {lo hi lo' hi' : Option Value} (ha : VR ρ a a') (hl : OR ρ lo lo') (hh : OR ρ hi hi')
    (h : slA n sz a lo hi = some v) (w : World) : ∃ v', (Instr.sliceAt t a' lo' hi' none).run P w = .ok v' w ∧ VR ρ v v' := by
  cases ha with
  | @ptr b o b' d hr =>
    simp only [slA] at h
    cases el : optInt 0 lo with
    | none => simp [el] at h
    | some l =>
      cases eh : optInt n hi with
      | none => simp [el, eh] at h
      | some m =>
        simp only [el, eh, Option.bind_some] at h
        split at h
        · rename_i hc
          cases h
          have hb := run_bounds (P := P) (isS := false) hl hh el eh hc.1 hc.2.1 hc.2.2 (Nat.le_refl n) w
          by_cases e0 : n = l.toNat
          · refine ⟨.slice (some ⟨b', o + d, none⟩) 0 0, ?_, ?_⟩
            · simp [Instr.sliceAt, Instr.sureAddr, run_underlying hu, hb, run_sizeT hz, ← e0]
              omega
            · have : m.toNat - l.toNat = 0 := by omega
              rw [this]; exact .sl0
          · refine ⟨.slice (some ⟨b', o + d + l.toNat * sz, none⟩) (m.toNat - l.toNat) (n - l.toNat), ?_, ?_⟩
            · simp [Instr.sliceAt, Instr.sureAddr, run_underlying hu, hb, run_sizeT hz, e0, add_none]
            · have := VR.slice (ρ := ρ) (o := o + l.toNat * sz) (n := m.toNat - l.toNat) (c := m.toNat - l.toNat) (c' := n - l.toNat) hr (by omega)
              rwa [show o + l.toNat * sz + d = o + d + l.toNat * sz from by omega] at this
        · cases h
  | _ => simp [slA, Ev.dead] at h

/-! ### New memory -/
theorem new_sound (hS : Sim P ρ H w) (t : TypeId) {cs : List Value} {c : Array Value} (hc : VL ρ cs c.toList) :
    Stp P ρ H w (ρ.up H.next (w.heap.size, 0)) (H.new (.rw cs)) (w.alloc (.cells c t)) ∧ VR (ρ.up H.next (w.heap.size, 0)) (ptr H.next 0) (.pointer (some ⟨w.heap.size, 0, none⟩)) := by
  refine ⟨hS.new _ _ ⟨c, t, (0, 0), ?_, (CellsR.of_VL (hc.mono (hS.le_up _))), fun o _ => by omega⟩, ?_⟩
  · show (w.heap.push _)[w.heap.size]? = _
    simp
  · have : (ρ.up H.next (w.heap.size, 0)) H.next = some (w.heap.size, 0) := by simp [Ren.up]
    simpa [ptr] using VR.ptr (o := 0) this

/-! ### Literals -/
theorem foldl_splice (n : Nat) : ∀ (vs : List Value) (k : Nat) (cells : Array Value), ((vs.zipIdx k).foldl (fun cs (c, j) => cs.setIfInBounds (n + j) c) cells) = spliceA cells (n + k) vs
  | [], _, _ => rfl
  | v :: vs, k, cells => by simp [List.zipIdx_cons, spliceA, foldl_splice n vs, Nat.add_assoc]

theorem VL.splice : ∀ {vs vs' cs cs' : List Value} {o : Nat}, VL ρ cs cs' → VL ρ vs vs' → VL ρ (Ev.splice cs o vs) (spliceA ⟨cs'⟩ o vs').toList
  | [], vs', cs, cs', o, h, hv => by rw [hv.inv_nil]; exact h
  | v :: vs, vs', cs, cs', o, h, hv => by
    obtain ⟨v', m, rfl, h1, h2⟩ := hv.inv_cons
    simp only [Ev.splice, spliceA]
    have : (⟨cs'⟩ : Array Value).setIfInBounds o v' = ⟨cs'.set o v'⟩ := by apply Array.ext'; simp
    rw [this]
    exact VL.splice (h.set h1 o) h2

theorem fillL_sound {pl pl' : Nat → Option (Nat × Nat)} (hp : ∀ i p, pl i = some p → pl' i = some p) : ∀ (parts parts' : List (Nat × Value)) (cs r : List Value) (cs' : Array Value),
    VL ρ cs cs'.toList → parts.length = parts'.length → (∀ (i : Nat) (x x' : Nat × Value), parts[i]? = some x → parts'[i]? = some x' → x.1 = x'.1 ∧ VR ρ x.2 x'.2) → fillL pl cs parts = some r →
    ∃ r', Instr.fill pl' cs' parts' = some r' ∧ VL ρ r r'.toList
  | [], parts', cs, r, cs', hc, hl, _, h => by
    cases parts' with
    | nil => simp [fillL] at h; subst h; exact ⟨cs', by simp [Instr.fill], hc⟩
    | cons => simp at hl
  | (i, v) :: parts, parts', cs, r, cs', hc, hl, hv, h => by
    cases parts' with
    | nil => simp at hl
    | cons x' parts' =>
      obtain ⟨i', v'⟩ := x'
      obtain ⟨e1, h2⟩ := hv 0 (i, v) (i', v') rfl rfl
      simp only at e1 h2
      subst e1
      simp only [fillL] at h
      cases hpl : pl i with
      | none => simp [hpl] at h
      | some p =>
        obtain ⟨off, size⟩ := p
        simp only [hpl] at h
        cases hb : bx v with
        | none => simp [hb] at h
        | some vs =>
          simp only [hb, Option.bind_some] at h
          split at h
          · rename_i hcnd
            have hvl := bx_sound h2 hb
            have hsz : v'.cells.size = size := by rw [← Array.length_toList, ← hvl.1, hcnd.1]
            have hcs : cs.length = cs'.size := by rw [hc.1]; simp
            have := VL.splice (o := off) hc hvl
            have hfold : v'.cells.zipIdx.foldl (fun cs (c, j) => cs.setIfInBounds (off + j) c) cs' = spliceA cs' off v'.cells.toList := by
              rw [← Array.foldl_toList, Array.toList_zipIdx, foldl_splice]; rfl
            obtain ⟨r', h3, h4⟩ := fillL_sound hp parts parts' (Ev.splice cs off vs) r (spliceA cs' off v'.cells.toList) this (by simpa using hl)
              (fun j x x' hx hx' => hv (j + 1) x x' (by simpa using hx) (by simpa using hx')) h
            refine ⟨r', ?_, h4⟩
            simp only [Instr.fill, hp _ _ hpl, hsz, ne_eq, not_true, false_or, decide_false, Bool.false_or, decide_eq_true_eq]
            rw [if_neg (by have := hcnd.2; omega), hfold]
            exact h3
          · cases h

theorem run_mapM_list {α β : Type} (P : Program) (w : World) (f : α → Sem β) (g : α → β) : ∀ (l : List α), (∀ x ∈ l, (f x).run P w = .ok (g x) w) → (l.mapM f).run P w = .ok (l.map g) w
  | [], _ => by simp
  | x :: l, h => by
    rw [List.mapM_cons]
    simp only [Sem.run_bind, h x (by simp), Result.andThen_ok, run_mapM_list P w f g l (fun y hy => h y (by simp [hy])), Sem.run_pure, List.map_cons]

theorem run_mapM_array {α β : Type} (P : Program) (w : World) (f : α → Sem β) (g : α → β) (a : Array α) (h : ∀ x ∈ a.toList, (f x).run P w = .ok (g x) w) : (a.mapM f).run P w = .ok (a.map g) w := by
  rw [Array.mapM_eq_mapM_toList, Sem.run_map, run_mapM_list P w f g a.toList h, Result.andThen_ok]
  congr 1
  apply Array.ext'
  simp

theorem build_sound {t : TypeId} {z : List Value} {pl : Nat → Option (Nat × Nat)} (hz : zeroT P t = some z) (hp : placeT P t = some pl) {parts parts' : List (Nat × Value)} (hl : parts.length = parts'.length)
    (hv : ∀ (i : Nat) (x x' : Nat × Value), parts[i]? = some x → parts'[i]? = some x' → x.1 = x'.1 ∧ VR ρ x.2 x'.2) {r : List Value} (h : fillL pl z parts = some r) (w : World) :
    ∃ v', (Instr.build t parts'.toArray).run P w = .ok v' w ∧ VR ρ (.agg r.toArray) v' := by
  obtain ⟨zv, hzr, hzc, hzf⟩ := run_zeroT hz w
  have hz0 : VL ρ z zv.cells.toList := by rw [hzc]; exact VL.flat_refl hzf
  unfold placeT at hp
  cases hu : P.underlying t with
  | none => simp [hu] at hp
  | some d =>
    cases d <;> simp only [hu] at hp <;> first | (cases hp; done) | skip
    · rename_i n e
      cases hs : sizeT P e with
      | none => simp [hs] at hp
      | some s =>
        simp [hs] at hp
        subst hp
        obtain ⟨r', h1, h2⟩ := fillL_sound (pl' := fun i => some (i * s, s)) (fun i p hp => hp) parts parts' z r zv.cells hz0 hl hv h
        refine ⟨.agg r', by simp [Instr.build, hzr, run_underlying hu, run_sizeT hs, h1], ?_⟩
        have := VR.agg h2.1 h2.2
        simpa using this
    · rename_i fs
      split at hp
      case isFalse => cases hp
      rename_i hsz
      cases hp
      have hall : ∀ f ∈ fs.toList, ∃ n, sizeT P f.type = some n := fun f hf => by
        rw [List.all_eq_true] at hsz
        exact Option.isSome_iff_exists.1 (hsz f hf)
      have hm : (fs.mapM fun f => do pure (f.offset, ← sizeOf f.type) : Sem (Array (Nat × Nat))).run P w = .ok (fs.map fun f => (f.offset, (sizeT P f.type).getD 0)) w := by
        refine run_mapM_array P w _ _ fs fun f hf => ?_
        obtain ⟨n, hn⟩ := hall f hf
        simp [run_sizeT hn, hn]
      obtain ⟨r', h1, h2⟩ := fillL_sound (pl' := ((fs.map fun f => (f.offset, (sizeT P f.type).getD 0))[·]?)) (fun i p hp => by simpa [Ev.pl] using hp) parts parts' z r zv.cells hz0 hl hv h
      refine ⟨.agg r', ?_, ?_⟩
      · simp only [Instr.build, Sem.run_bind, hzr, Result.andThen_ok, run_underlying hu]
        rw [hm]
        simp only [Result.andThen_ok, h1, Sem.run_pure]
      · have := VR.agg h2.1 h2.2
        simpa using this

end Go.Ev
