/- What the machine does at an operation, held against the evaluator: the rest of the operations that call nothing. -/
import Derived.Test.YtbaooebafijenaaDoorGvOps2
set_option linter.unusedSimpArgs false
namespace Go.Ev
open Go
set_option linter.unusedSectionVars false
variable [Tabs]

variable {P : Program} {ρ : Ren} {H : Hp} {w : World}

theorem run_eqGuard_plain {op : BinOp} {t : TypeId} {xo yo : Operand} {a b : Value} (h : (match a, b with | .nilIface, .nilIface => false | .agg _, .agg _ => false | _, _ => true) = true) (w : World) :
    (eqGuard op t xo yo a b).run P w = .ok () w := by
  cases op <;> simp only [eqGuard] <;> (try rfl) <;> cases a <;> cases b <;> first | rfl | (simp at h; done)

theorem eqK_bool {t : TypeId} {xo yo : Operand} (h : eqK P t xo yo = 1) : P.underlying t = some .bool := by
  unfold eqK at h
  cases hu : P.underlying t with
  | none => simp [hu] at h
  | some d => cases d <;> simp [hu] at h ⊢ <;> (split at h <;> simp at h)
theorem eqK_ptr {t : TypeId} {xo yo : Operand} (h : eqK P t xo yo = 3) : ∃ e, P.underlying t = some (.pointer e) := by
  unfold eqK at h
  cases hu : P.underlying t with
  | none => simp [hu] at h
  | some d => cases d <;> simp [hu] at h ⊢ <;> (split at h <;> simp at h)
theorem eqK_slice {t : TypeId} {xo yo : Operand} (h : eqK P t xo yo = 4) : ∃ e, P.underlying t = some (.slice e) := by
  unfold eqK at h
  cases hu : P.underlying t with
  | none => simp [hu] at h
  | some d => cases d <;> simp [hu] at h ⊢ <;> (split at h <;> simp at h)
theorem eqK_iface {t : TypeId} {xo yo : Operand} (h : eqK P t xo yo = 5) : (∃ m, P.underlying t = some (.interface m)) ∧ (isC xo = true ∨ isC yo = true) := by
  unfold eqK at h
  cases hu : P.underlying t with
  | none => simp [hu] at h
  | some d =>
    cases d <;> simp [hu] at h ⊢
    cases hx : isC xo with
    | true => exact .inl rfl
    | false => exact .inr (h hx)
theorem eqK_func {t : TypeId} {xo yo : Operand} (h : eqK P t xo yo = 6) : ∃ a b c, P.underlying t = some (.func a b c) := by
  unfold eqK at h
  cases hu : P.underlying t with
  | none => simp [hu] at h
  | some d => cases d <;> simp [hu] at h ⊢ <;> (split at h <;> simp at h)
theorem isC_const {x : Operand} (h : isC x = true) : ∃ v, x = .const v := by cases x <;> simp [isC] at h; exact ⟨_, rfl⟩
theorem run_eqGuard_nn {op : BinOp} {t : TypeId} {xo yo : Operand} (h : isC xo = true ∨ isC yo = true) (w : World) : (eqGuard op t xo yo .nilIface .nilIface).run P w = .ok () w := by
  rcases h with h | h
  · obtain ⟨v, rfl⟩ := isC_const h
    cases op <;> simp [eqGuard]
  · obtain ⟨v, rfl⟩ := isC_const h
    cases op <;> simp [eqGuard]
theorem run_equalIn_ii (d : Nat) {t : TypeId} {m : Array (String × TypeId)} (hu : P.underlying t = some (.interface m)) (w : World) : (Op.equalIn (d + 1) t .nilIface .nilIface).run P w = .ok true w := by
  simp [Op.equalIn, run_underlying hu]
theorem run_equalIn_iv (d : Nat) {t : TypeId} {m : Array (String × TypeId)} (hu : P.underlying t = some (.interface m)) (u : TypeId) (v : Value) (w : World) : (Op.equalIn (d + 1) t .nilIface (.iface u v)).run P w = .ok false w := by
  simp [Op.equalIn, run_underlying hu]
theorem run_equalIn_vi (d : Nat) {t : TypeId} {m : Array (String × TypeId)} (hu : P.underlying t = some (.interface m)) (u : TypeId) (v : Value) (w : World) : (Op.equalIn (d + 1) t (.iface u v) .nilIface).run P w = .ok false w := by
  simp [Op.equalIn, run_underlying hu]
theorem run_equalIn_ff (d : Nat) {t : TypeId} {a b : Array TypeId} {c : Bool} (hu : P.underlying t = some (.func a b c)) (w : World) : (Op.equalIn (d + 1) t .nilFunc .nilFunc).run P w = .ok true w := by
  simp [Op.equalIn, run_underlying hu]
theorem run_equalIn_fv (d : Nat) {t : TypeId} {a b : Array TypeId} {c : Bool} (hu : P.underlying t = some (.func a b c)) (f : Fn) (x y : Array Value) (w : World) : (Op.equalIn (d + 1) t .nilFunc (.func f x y)).run P w = .ok false w := by
  simp [Op.equalIn, run_underlying hu]
theorem run_equalIn_vf (d : Nat) {t : TypeId} {a b : Array TypeId} {c : Bool} (hu : P.underlying t = some (.func a b c)) (f : Fn) (x y : Array Value) (w : World) : (Op.equalIn (d + 1) t (.func f x y) .nilFunc).run P w = .ok false w := by
  simp [Op.equalIn, run_underlying hu]

theorem run_equalIn_pn (d : Nat) {t e : TypeId} (hu : P.underlying t = some (.pointer e)) (b : Option Addr) (w : World) : (Op.equalIn (d + 1) t (.pointer none) (.pointer b)).run P w = .ok b.isNone w := by
  simp [Op.equalIn, run_underlying hu]
theorem run_equalIn_np (d : Nat) {t e : TypeId} (hu : P.underlying t = some (.pointer e)) (b : Addr) (w : World) : (Op.equalIn (d + 1) t (.pointer (some b)) (.pointer none)).run P w = .ok false w := by
  simp [Op.equalIn, run_underlying hu]
theorem run_equalIn_sn (d : Nat) {t e : TypeId} (hu : P.underlying t = some (.slice e)) (b : Option Addr) (m n m' n' : Nat) (w : World) : (Op.equalIn (d + 1) t (.slice none m n) (.slice b m' n')).run P w = .ok b.isNone w := by
  simp [Op.equalIn, run_underlying hu]
theorem run_equalIn_ns (d : Nat) {t e : TypeId} (hu : P.underlying t = some (.slice e)) (b : Addr) (m n m' n' : Nat) (w : World) : (Op.equalIn (d + 1) t (.slice (some b) m n) (.slice none m' n')).run P w = .ok false w := by
  simp [Op.equalIn, run_underlying hu]

/-- comparisons by 'equalIn' -/
theorem run_by_equal {op : BinOp} {t : TypeId} {x y : Value} {r : Bool} (hxy : (match x, y with | .pointer _, .pointer _ => true | .slice .., .slice .. => true | .nilIface, .nilIface => true | .nilIface, .iface .. => true | .iface .., .nilIface => true | .nilFunc, .nilFunc => true | .nilFunc, .func .. => true | .func .., .nilFunc => true | _, _ => false) = true)
    (h : ∀ d, (Op.equalIn (d + 1) t x y).run P w = .ok r w) {v : Value} (hv : (match op with | .eql => some (Value.bool r) | .neq => some (.bool (!r)) | _ => none) = some v) :
    (binOp op t x y).run P w = .ok v w := by
  have h' : (Op.equal t x y).run P w = .ok r w := h 9999
  cases op <;> simp only at hv <;> try cases hv
  all_goals
    cases x <;> cases y <;> simp at hxy
    all_goals
      simp only [binOp, Sem.run_bind, h', Result.andThen_ok, Sem.run_pure]

theorem flat_bool (b : Bool) : flat (.bool b) = true := rfl
theorem cmp_flat {op : BinOp} {r : Bool} {v : Value} (hv : (match op with | .eql => some (Value.bool r) | .neq => some (.bool (!r)) | _ => none) = some v) : flat v = true := by
  cases op <;> simp only at hv <;> cases hv <;> rfl

theorem bin_sound {t : TypeId} {op : BinOp} {x y x' y' v : Value} {xo yo : Operand} (hx : VR ρ x x') (hy : VR ρ y y') (h : bin (eqK P t xo yo) op x y = some v) (w : World) :
    (do eqGuard op t xo yo x' y'; binOp op t x' y' : Sem Value).run P w = .ok v w ∧ flat v = true := by
  cases hx with
  | int k a =>
    cases hy with
    | int k' b =>
      obtain ⟨h1, h2⟩ := bin_int_sound (P := P) (t := t) h w
      exact ⟨by rw [Sem.run_bind, run_eqGuard_plain rfl, Result.andThen_ok, h1], h2⟩
    | _ => simp [bin, Ev.dead] at h
  | string a =>
    cases hy with
    | string b =>
      obtain ⟨h1, h2⟩ := bin_str_sound (P := P) (t := t) h w
      exact ⟨by rw [Sem.run_bind, run_eqGuard_plain rfl, Result.andThen_ok, h1], h2⟩
    | _ => simp [bin, Ev.dead] at h
  | bool a =>
    cases hy with
    | bool b =>
      have hq : eqK P t xo yo = 1 := by
        simp only [bin] at h
        split at h
        · assumption
        · cases h
      rw [hq] at h
      obtain ⟨h1, h2⟩ := bin_bool_sound (eqK_bool hq) h w
      exact ⟨by rw [Sem.run_bind, run_eqGuard_plain rfl, Result.andThen_ok, h1], h2⟩
    | _ => simp [bin, Ev.dead] at h
  | pnil =>
    have hq : eqK P t xo yo = 3 := by
      cases y <;> simp only [bin] at h <;> first | (cases h; done) | (split at h; assumption; cases h)
    obtain ⟨e, hu⟩ := eqK_ptr hq
    rw [Sem.run_bind]
    cases hy with
    | pnil =>
      simp only [bin, hq, if_true] at h
      exact ⟨by rw [run_eqGuard_plain rfl, Result.andThen_ok]; exact run_by_equal rfl (fun d => run_equalIn_pn d hu _ w) h, cmp_flat h⟩
    | ptr hr =>
      simp only [bin, hq, if_true] at h
      exact ⟨by rw [run_eqGuard_plain rfl, Result.andThen_ok]; exact run_by_equal rfl (fun d => run_equalIn_pn d hu _ w) h, cmp_flat h⟩
    | _ => simp [bin, Ev.dead] at h
  | ptr hr =>
    cases hy with
    | pnil =>
      have hq : eqK P t xo yo = 3 := by
        simp only [bin] at h; split at h; assumption; cases h
      obtain ⟨e, hu⟩ := eqK_ptr hq
      simp only [bin, hq, if_true] at h
      exact ⟨by rw [Sem.run_bind, run_eqGuard_plain rfl, Result.andThen_ok]; exact run_by_equal rfl (fun d => run_equalIn_np d hu _ w) h, cmp_flat (r := false) h⟩
    | _ => simp [bin, Ev.dead] at h
  | snil =>
    have hq : eqK P t xo yo = 4 := by
      cases y <;> simp only [bin] at h <;> first | (cases h; done) | (split at h; assumption; cases h)
    obtain ⟨e, hu⟩ := eqK_slice hq
    rw [Sem.run_bind]
    cases hy with
    | snil =>
      simp only [bin, hq, if_true] at h
      exact ⟨by rw [run_eqGuard_plain rfl, Result.andThen_ok]; exact run_by_equal rfl (fun d => run_equalIn_sn d hu _ _ _ _ _ w) h, cmp_flat h⟩
    | slice hr hc hz =>
      simp only [bin, hq, if_true] at h
      exact ⟨by rw [run_eqGuard_plain rfl, Result.andThen_ok]; exact run_by_equal rfl (fun d => run_equalIn_sn d hu _ _ _ _ _ w) h, cmp_flat h⟩
    | sl0 _ =>
      simp only [bin, hq, if_true] at h
      exact ⟨by rw [run_eqGuard_plain rfl, Result.andThen_ok]; exact run_by_equal rfl (fun d => run_equalIn_sn d hu _ _ _ _ _ w) h, cmp_flat h⟩
    | _ => simp [bin, Ev.dead] at h
  | slice hr hc hz =>
    cases hy with
    | snil =>
      have hq : eqK P t xo yo = 4 := by
        simp only [bin] at h; split at h; assumption; cases h
      obtain ⟨e, hu⟩ := eqK_slice hq
      simp only [bin, hq, if_true] at h
      exact ⟨by rw [Sem.run_bind, run_eqGuard_plain rfl, Result.andThen_ok]; exact run_by_equal rfl (fun d => run_equalIn_ns d hu _ _ _ _ _ w) h, cmp_flat (r := false) h⟩
    | _ => simp [bin, Ev.dead] at h
  | sl0 _ =>
    cases hy with
    | snil =>
      have hq : eqK P t xo yo = 4 := by
        simp only [bin] at h; split at h; assumption; cases h
      obtain ⟨e, hu⟩ := eqK_slice hq
      simp only [bin, hq, if_true] at h
      exact ⟨by rw [Sem.run_bind, run_eqGuard_plain rfl, Result.andThen_ok]; exact run_by_equal rfl (fun d => run_equalIn_ns d hu _ _ _ _ _ w) h, cmp_flat (r := false) h⟩
    | _ => simp [bin, Ev.dead] at h
  | inil =>
    have hq : eqK P t xo yo = 5 := by
      cases y <;> simp only [bin] at h <;> first | (cases h; done) | (split at h; assumption; cases h)
    obtain ⟨⟨m, hu⟩, hc⟩ := eqK_iface hq
    rw [Sem.run_bind]
    cases hy with
    | inil =>
      simp only [bin, hq, if_true] at h
      refine ⟨?_, cmp_flat (r := true) h⟩
      rw [run_eqGuard_nn hc, Result.andThen_ok]
      exact run_by_equal rfl (fun d => run_equalIn_ii d hu w) h
    | iface hv =>
      simp only [bin, hq, if_true] at h
      exact ⟨by rw [run_eqGuard_plain rfl, Result.andThen_ok]; exact run_by_equal rfl (fun d => run_equalIn_iv d hu _ _ w) h, cmp_flat (r := false) h⟩
    | _ => simp [bin, Ev.dead] at h
  | iface hv =>
    cases hy with
    | inil =>
      have hq : eqK P t xo yo = 5 := by
        simp only [bin] at h; split at h; assumption; cases h
      obtain ⟨⟨m, hu⟩, hc⟩ := eqK_iface hq
      simp only [bin, hq, if_true] at h
      exact ⟨by rw [Sem.run_bind, run_eqGuard_plain rfl, Result.andThen_ok]; exact run_by_equal rfl (fun d => run_equalIn_vi d hu _ _ w) h, cmp_flat (r := false) h⟩
    | _ => simp [bin, Ev.dead] at h
  | fnil =>
    have hq : eqK P t xo yo = 6 := by
      cases y <;> simp only [bin] at h <;> first | (cases h; done) | (split at h; assumption; cases h)
    obtain ⟨a, b, c, hu⟩ := eqK_func hq
    rw [Sem.run_bind]
    cases hy with
    | fnil =>
      simp only [bin, hq, if_true] at h
      exact ⟨by rw [run_eqGuard_plain rfl, Result.andThen_ok]; exact run_by_equal rfl (fun d => run_equalIn_ff d hu w) h, cmp_flat (r := true) h⟩
    | func _ _ _ _ =>
      simp only [bin, hq, if_true] at h
      exact ⟨by rw [run_eqGuard_plain rfl, Result.andThen_ok]; exact run_by_equal rfl (fun d => run_equalIn_fv d hu _ _ _ w) h, cmp_flat (r := false) h⟩
    | _ => simp [bin, Ev.dead] at h
  | func _ _ _ _ =>
    cases hy with
    | fnil =>
      have hq : eqK P t xo yo = 6 := by
        simp only [bin] at h; split at h; assumption; cases h
      obtain ⟨a, b, c, hu⟩ := eqK_func hq
      simp only [bin, hq, if_true] at h
      exact ⟨by rw [Sem.run_bind, run_eqGuard_plain rfl, Result.andThen_ok]; exact run_by_equal rfl (fun d => run_equalIn_vf d hu _ _ _ w) h, cmp_flat (r := false) h⟩
    | _ => simp [bin, Ev.dead] at h
  | _ => simp [bin, Ev.dead] at h

/-! ### Conversions -/
theorem cvI_sound {s d : TypeId} {k : IntKind} (hd : P.underlying d = some (.int k)) (hs : ∃ x, P.underlying s = some x) {a a' v : Value} (ha : VR ρ a a') (h : cvI k a = some v) (w : World) :
    (convert s d a').run P w = .ok v w ∧ flat v = true := by
  obtain ⟨x, hs⟩ := hs
  cases ha with
  | int k' n => simp [cvI] at h; subst h; simp [convert, run_underlying hs, run_underlying hd, Conv.intToInt, flat, flatN]
  | _ => simp [cvI, Ev.dead] at h

theorem cvS_sound {s d : TypeId} (hs : P.underlying s = some .string) (hd : P.underlying d = some .string) {a a' v : Value} (ha : VR ρ a a') (h : cvS a = some v) (w : World) :
    (convert s d a').run P w = .ok v w ∧ flat v = true := by
  cases ha with
  | string b => simp [cvS] at h; subst h; simp [convert, run_underlying hs, run_underlying hd, flat, flatN]
  | _ => simp [cvS, Ev.dead] at h

theorem unbytes_cons {v : Value} {l : List Value} {b : List UInt8} (h : unbytes (v :: l) = some b) : ∃ n b', v = .int .u8 n ∧ unbytes l = some b' ∧ b = UInt8.ofNat n.toNat :: b' := by
  unfold unbytes at h
  split at h
  · rename_i e; cases e
  · rename_i e
    cases e
    cases hr : unbytes l with
    | none => simp [hr] at h
    | some b' => simp [hr] at h; exact ⟨_, b', rfl, rfl, h.symm⟩
  · cases h

theorem unbytes_VL : ∀ {l l' : List Value} {b : List UInt8}, VL ρ l l' → unbytes l = some b → l' = l
  | [], l', _, h, _ => h.inv_nil
  | v :: l, l', b, h, hb => by
    obtain ⟨v', m, rfl, h1, h2⟩ := h.inv_cons
    obtain ⟨n, b', rfl, hr, _⟩ := unbytes_cons hb
    rw [unbytes_VL h2 hr, VR.int_inv h1]

theorem run_unbytes (P : Program) (w : World) (f : Value → ByteArray → Sem (ForInStep ByteArray)) (hf : ∀ n r, f (.int .u8 n) r = pure (ForInStep.yield (r.push (UInt8.ofNat n.toNat)))) : ∀ (l : List Value) (b : List UInt8) (s : ByteArray), unbytes l = some b →
    (forIn l s f : Sem ByteArray).run P w = .ok ⟨s.data ++ b.toArray⟩ w := by
  intro l
  induction l with
  | nil => intro b s h; simp [unbytes] at h; subst h; simp
  | cons v l ih =>
    intro b s h
    obtain ⟨n, b', rfl, hr, rfl⟩ := unbytes_cons h
    simp only [List.forIn_cons, hf, Sem.run_bind, Sem.run_pure, Result.andThen_ok]
    rw [ih b' _ hr]
    congr 2
    apply Array.ext'
    simp [ByteArray.push]

theorem cvT_sound (hS : Sim P ρ H w) {s d e : TypeId} (hs : P.underlying s = some (.slice e)) (he : P.underlying e = some (.int .u8)) (hd : P.underlying d = some .string) {a a' v : Value} (ha : VR ρ a a')
    (h : cvT a H = some v) : (convert s d a').run P w = .ok v w ∧ flat v = true := by
  cases ha with
  | snil => simp [cvT] at h; subst h; simp [convert, run_underlying hs, run_underlying hd, run_underlying he, Conv.bytesToString, flat, flatN]
  | @slice b o b' d' n c c' hr hc =>
    simp only [cvT] at h
    cases hcs : H.cells b with
    | none => simp [hcs] at h
    | some cs =>
      simp only [hcs, Option.bind_some] at h
      split at h
      · rename_i hle
        cases hu : unbytes ((cs.drop o).take n) with
        | none => simp [hu] at h
        | some l =>
          simp [hu] at h
          subst h
          have hL : ldN n (.pointer (some ⟨b, o, none⟩)) H = some (.agg ((cs.drop o).take n).toArray) := by simp [ldN, hcs, hle]
          obtain ⟨ad, cs', h1, h2, h3⟩ := ldN_sound hS (.ptr (o := o) hr) hL
          cases h1
          have hcs' : cs'.toList = (cs.drop o).take n := by
            generalize hq : (cs.drop o).take n = q at h3 hu
            cases h3 with
            | agg hs hh => exact unbytes_VL ⟨hs, hh⟩ hu
          refine ⟨?_, rfl⟩
          simp only [convert, Sem.run_bind, run_underlying hs, run_underlying hd, run_underlying he, Result.andThen_ok, Conv.bytesToString, h2, ← Array.forIn_toList]
          rw [run_unbytes P w _ (fun n r => rfl) cs'.toList l .empty (by rw [hcs']; exact hu)]
          simp [ByteArray.empty, ByteArray.emptyWithCapacity]
          try rfl
      · cases h
  | @sl0 b o b' o' d c _ =>
    have hv : v = .string .empty := by
      simp only [cvT] at h
      cases hcs : H.cells b with
      | none => simp [hcs] at h
      | some cs =>
        simp only [hcs, Option.bind_some] at h
        split at h
        · simp [unbytes] at h; exact h.symm
        · cases h
    subst hv
    simp [convert, run_underlying hs, run_underlying hd, run_underlying he, Conv.bytesToString, loadCells, loadCellsFrom, flat, flatN]
  | _ => simp [cvT, Ev.dead] at h

theorem bytesV_flat (s : ByteArray) : (bytesV s).all (flatN 3) = true := by
  rw [List.all_eq_true]
  intro x hx
  simp only [bytesV, List.mem_map] at hx
  obtain ⟨b, _, rfl⟩ := hx
  rfl

/-- a string becomes bytes: memory is made -/
theorem cvB_sound (hS : Sim P ρ H w) {s d e : TypeId} (hs : P.underlying s = some .string) (hd : P.underlying d = some (.slice e)) (he : P.underlying e = some (.int .u8)) {a a' v : Value} {H' : Hp} (ha : VR ρ a a')
    (h : cvB a H = some (v, H')) : ∃ ρ' v' w', (convert s d a').run P w = .ok v' w' ∧ Stp P ρ H w ρ' H' w' ∧ VR ρ' v v' := by
  cases ha with
  | string b =>
    simp only [cvB] at h
    cases h
    generalize hcap : (Question.appendCap b.size 0 e).cut (w.tape w.drawn (.appendCap b.size 0 e)) = cap
    have hle : b.size ≤ cap := by rw [← hcap]; simp only [Question.cut]; omega
    generalize hc : (b.data.map fun x => Value.int .u8 x.toNat) ++ Array.replicate (cap - b.size) (.int .u8 0) = c
    have hsz : c.size = cap := by
      rw [← hc]; simp
      have : b.data.size = b.size := rfl
      omega
    let w1 := w.drew
    have hS1 := hS.same (w' := w1) rfl
    have hnew : ∀ z, BlkR (ρ.up H.next (w1.heap.size, 0) cap) (w1.alloc (.cells c e z)) w1.heap.size 0 (.rw (bytesV b)) ↔ unfrozen c z := by
      intro z
      constructor
      · rintro ⟨c', e', z', h1, _, h3, _⟩
        have : (w1.alloc (.cells c e z)).heap[w1.heap.size]? = some (.cells c e z) := by
          show (w1.heap.push _)[w1.heap.size]? = _
          simp
        rw [this] at h1; cases h1; exact h3
      · intro h3
        refine ⟨c, e, z, ?_, ?_, h3, by rw [hsz]; exact (Ren.up_sz ρ H.next (w1.heap.size, 0) cap).symm⟩
        · show (w1.heap.push _)[w1.heap.size]? = _
          simp
        · have hvl : VL (ρ.up H.next (w1.heap.size, 0) cap) (bytesV b) ((b.data.map fun x => Value.int .u8 x.toNat).toList) := by
            have : (b.data.map fun x => Value.int .u8 x.toNat).toList = bytesV b := by simp [bytesV]
            rw [this]; exact VL.flat_refl (bytesV_flat b)
          refine ⟨?_, fun i v hv => ?_⟩
          · have := hvl.1; simp at this
            have : b.data.size = b.size := rfl
            simp [bytesV]; omega
          · obtain ⟨v', h4, h5⟩ := hvl.get hv
            refine ⟨v', ?_, h5⟩
            have hi := (List.getElem?_eq_some_iff.1 h4).1
            rw [Nat.zero_add, ← hc, Array.getElem?_append_left (by simpa using hi)]
            simpa using h4
    have hz : unfrozen c (cap, cap + 1) := by intro o ho; omega
    have hstep := hS1.new (.cells c e (cap, cap + 1)) (.rw (bytesV b)) cap ((hnew _).2 hz)
    have hd0 : Stp P ρ H w ρ H w1 := Stp.drew hS
    refine ⟨_, .slice (some ⟨w.heap.size, 0, none⟩) b.size cap, w1.alloc (.cells c e (cap, cap + 1)), ?_, hd0.trans hstep, ?_⟩
    · simp only [convert, Sem.run_bind, run_underlying hs, run_underlying hd, run_underlying he, Result.andThen_ok, Conv.stringToBytes, run_choose, Question.forced, Bool.false_eq_true, if_false, hcap, newRow, run_newObj, hc, Sem.run_pure,
        markStringish, run_shape]
      have hsh : (World.shape? { w with drawn := w.drawn + 1, heap := w.heap.push (.cells c e) } w.heap.size) = some (e, c.size) := by
        simp [World.shape?]
      simp only [hsh, Sem.run_bind, run_freeze, Result.andThen_ok, Sem.run_pure]
      congr 1
      simp only [World.freeze, World.alloc, w1, World.drew, Nat.succ_ne_zero, if_false, hsz]
      congr 1
      apply Array.ext_getElem?
      intro i
      rw [Array.getElem?_modify]
      by_cases hi : w.heap.size = i
      · subst hi; simp
      · rw [if_neg hi]
        show (w.heap.push _)[i]? = (w.heap.push _)[i]?
        rw [Array.getElem?_push, Array.getElem?_push, if_neg (Ne.symm hi), if_neg (Ne.symm hi)]
    · have h5 : (ρ.up H.next (w1.heap.size, 0) cap) H.next = some (w.heap.size, 0) := by simp [Ren.up, w1]
      have h6 : (ρ.up H.next (w1.heap.size, 0) cap).sz w.heap.size = cap := Ren.up_sz ρ H.next (w1.heap.size, 0) cap
      have := VR.slice (o := 0) (n := b.size) (c := 1) (c' := cap) h5 hle (by rw [h6]; omega)
      simpa using this
  | _ => simp [cvB, Ev.dead] at h

end Go.Ev
