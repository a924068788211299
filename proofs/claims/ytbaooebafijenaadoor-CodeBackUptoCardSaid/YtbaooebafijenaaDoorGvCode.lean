/- Code of the machine against the evaluator: regions, sequences, loops, functions. -/
import Derived.Test.YtbaooebafijenaaDoorGvOp
import Derived.LoopN
set_option linter.unusedSimpArgs false
namespace Go.Ev
open Go
set_option linter.unusedSectionVars false
variable [Tabs]

variable {P : Program}

/-- what a frame bears besides: the calls that are put off to its end, and slots (those below 'lo') that its code does not write -/
class Dfs where
  ds : List Deferred
  lo : Nat
  pin : Nat → Value
abbrev Dfs.no : Dfs := ⟨[], 0, fun _ => undef⟩
variable [Dfs]
def DfR (a : Act) : Prop := a.defers = Dfs.ds ∧ ∀ t, t < Dfs.lo → a.tmps.getD t undef = Dfs.pin t
def DfE (a a' : Act) : Prop := a.defers = a'.defers ∧ ∀ t, t < Dfs.lo → a.tmps.getD t undef = a'.tmps.getD t undef
def LoD (d : Option Tmp) : Prop := ∀ t, d = some t → Dfs.lo ≤ t
def LoA (ops : Array Oper) : Prop := ∀ (i : Nat) (o : Oper), ops[i]? = some o → LoD o.dst
def LoC : Code → Prop
  | .region _ ops _ => LoA ops
  | .seq a b => LoC a ∧ LoC b
  | .cond _ a b => LoC a ∧ LoC b
  | .block _ b => LoC b
  | .loop b => LoC b
  | _ => True
theorem DfE.refl (a : Act) : DfE a a := ⟨rfl, fun _ _ => rfl⟩
theorem DfE.symm {a b : Act} (h : DfE a b) : DfE b a := ⟨h.1.symm, fun t ht => (h.2 t ht).symm⟩
theorem DfE.trans {a b c : Act} (h : DfE a b) (h' : DfE b c) : DfE a c := ⟨h.1.trans h'.1, fun t ht => (h.2 t ht).trans (h'.2 t ht)⟩
theorem DfE.res {a b : Act} (h : DfE a b) (hb : DfR b) : DfR a := ⟨h.1.trans hb.1, fun t ht => (h.2 t ht).trans (hb.2 t ht)⟩
theorem DfE.put {a : Act} {d : Option Tmp} (h : LoD d) (v : Value) : DfE (a.put d v) a := by
  cases d with
  | none => exact .refl a
  | some d =>
    have hd := h d rfl
    refine ⟨rfl, fun t ht => ?_⟩
    have : d ≠ t := fun e => by rw [e] at hd; exact absurd ht (Nat.not_lt.2 hd)
    simp [Act.put, Array.getD_eq_getD_getElem?, Array.getElem?_setIfInBounds_ne this]
theorem DfR.put {a : Act} (ha : DfR a) {d : Option Tmp} (h : LoD d) (v : Value) : DfR (a.put d v) := (DfE.put h v).res ha

structure FrR (ρ : Ren) (nt : Nat) (fr : Fr) (a : Act) : Prop where
  size : a.tmps.size = nt
  df : DfR a
  val : ∀ t, VR ρ (fr.g t) (a.tmps.getD t undef)

theorem FrR.mono {ρ ρ' : Ren} (h : ρ.le ρ') {nt : Nat} {fr : Fr} {a : Act} (hf : FrR ρ nt fr a) : FrR ρ' nt fr a := ⟨hf.size, hf.df, fun t => (hf.val t).mono h⟩

theorem Fr.g_p (fr : Fr) (k t : Nat) (v : Value) : (fr.p k v).g t = if k = t then v else fr.g t := by
  simp only [Fr.p, Fr.g]
  by_cases h : k = t
  · subst h; simp
  · have : Nat.beq k t = false := by
      cases hb : Nat.beq k t with
      | false => rfl
      | true => exact absurd (Nat.eq_of_beq_eq_true hb) h
    simp [h, this]

theorem FrR.ev {ρ : Ren} {H : Hp} {w : World} (hS : Sim P ρ H w) {nt : Nat} {fr : Fr} {a : Act} (hf : FrR ρ nt fr a) (x : Operand) : VR ρ (fr.ev P x) (a.eval x) := by
  cases x with
  | tmp t => exact hf.val t
  | const v =>
    simp only [Fr.ev, Act.eval]
    cases h : flat v with
    | true => simpa using VR.flatN_refl 4 v h
    | false => simpa using VR.dead v
  | global g =>
    simp only [Fr.ev, Act.eval]
    cases h : Nat.blt g P.globals.size with
    | true =>
      have : g < P.globals.size := Nat.le_of_ble_eq_true h
      simpa [ptr] using VR.ptr (o := 0) (hS.glob g this).1
    | false => simpa using VR.dead _
  | func f => exact .func rfl (fun i hi => by simp at hi) rfl (fun i hi => by simp at hi)

theorem FrR.put {ρ : Ren} {nt : Nat} {fr fr' : Fr} {a : Act} (hf : FrR ρ nt fr a) {v v' : Value} (hv : VR ρ v v') {d : Option Tmp} (hL : LoD d) (h : fr.po nt d v = some fr') : FrR ρ nt fr' (a.put d v') := by
  have hdf := hf.df.put hL v'
  cases d with
  | none => simp [Fr.po] at h; subst h; exact hf
  | some d =>
    simp only [Fr.po] at h
    split at h
    · rename_i hd
      cases h
      refine ⟨by simp [Act.put, hf.size], hdf, fun t => ?_⟩
      rw [Fr.g_p]
      simp only [Act.put, Array.getD_eq_getD_getElem?, Array.getElem?_setIfInBounds]
      by_cases e : d = t
      · subst e
        simp [hf.size, hd, hv]
      · have := hf.val t
        simpa [e, Array.getD_eq_getD_getElem?] using this
    · cases h

theorem undef_VR (ρ : Ren) : VR ρ undef undef := .tuple rfl fun i hi => by simp at hi

theorem wanted_true {nt : Nat} {ρ : Ren} {fr : Fr} {a : Act} (hf : FrR ρ nt fr a) {ops : Array Oper} {o : Oper} {j d : Nat} {want b : Bool} (hg : o.guard = some (j, want)) (hd : (ops[j]?).bind (·.dst) = some d) (hv : fr.g d = .bool b) :
    Region.wanted o (yielded ops a.tmps) = (b == want) := by
  have h1 := hf.val d
  rw [hv] at h1
  have h2 : a.tmps[d]? = some (.bool b) := by
    generalize hq : a.tmps.getD d undef = q at h1
    cases h1
    rw [Array.getD_eq_getD_getElem?] at hq
    cases e : a.tmps[d]? with
    | none => simp [e, undef] at hq
    | some x => simp [e] at hq; rw [hq]
  simp [Region.wanted, hg, yielded, hd, h2]
theorem wanted_tuple {nt : Nat} {ρ : Ren} {fr : Fr} {a : Act} (hf : FrR ρ nt fr a) {ops : Array Oper} {o : Oper} {j d : Nat} {want : Bool} {vs : Array Value} (hg : o.guard = some (j, want)) (hd : (ops[j]?).bind (·.dst) = some d) (hv : fr.g d = .tuple vs) :
    Region.wanted o (yielded ops a.tmps) = false := by
  have h1 := hf.val d
  rw [hv] at h1
  have h2 : ∀ b, a.tmps[d]? ≠ some (.bool b) := by
    intro b hb
    have : a.tmps.getD d undef = .bool b := by rw [Array.getD_eq_getD_getElem?, hb]; rfl
    rw [this] at h1
    cases h1
  simp only [Region.wanted, hg, yielded, hd, Option.bind_some]
  cases e : a.tmps[d]? with
  | none => simp
  | some x =>
    cases x <;> simp_all

theorem evOps_cons {α : Type} {C : Cl} {nt : Nat} {ops : Array Oper} {o : Oper} {os : List Oper} {fr : Fr} {H : Hp} {pn : List PanicEntry → Hp → Option α} {k : Fr → Hp → Option α} :
    evOps P C nt ops (o :: os) fr H pn k = evOne P C nt ops o fr H pn fun fr H => evOps P C nt ops os fr H pn k := rfl

theorem evOne_wp {α : Type} {C : Cl} (hC : CallsOK P C) {nt : Nat} {ops : Array Oper} {o : Oper} (hL : LoD o.dst) {fr : Fr} {H : Hp} {pn : List PanicEntry → Hp → Option α} {k : Fr → Hp → Option α} {r : α} (h : evOne P C nt ops o fr H pn k = some r)
    {ρ : Ren} {w : World} (hS : Sim P ρ H w) {a : Act} (hf : FrR ρ nt fr a) {next : Act → World → Prop} {Q : Exit → Act → World → Prop}
    (hk : ∀ fr' H', k fr' H' = some r → ∀ ρ' a' w', Stp P ρ H w ρ' H' w' → FrR ρ' nt fr' a' → next a' w')
    (hp : ∀ c H', pn c H' = some r → ∀ ρ' c' w', Stp P ρ H w ρ' H' w' → ChR ρ' c c' → Q (.panic c') a w') :
    if Region.wanted o (yielded ops a.tmps) then o.wp P a w next Q else next (a.put o.dst undef) w := by
  unfold evOne at h
  cases hg : o.guard with
  | none =>
    simp only [hg] at h
    have : Region.wanted o (yielded ops a.tmps) = true := by simp [Region.wanted, hg]
    rw [if_pos this]
    refine evOp_wp hC hS (fun x => hf.ev hS x) h (fun v H' h' ρ' v' w' hst hv => ?_) hp
    cases hpo : fr.po nt o.dst v with
    | none => simp [hpo] at h'
    | some fr' =>
      simp only [hpo] at h'
      exact hk fr' H' h' ρ' _ w' hst ((hf.mono hst.ext).put hv hL hpo)
  | some q =>
    obtain ⟨j, want⟩ := q
    simp only [hg] at h
    cases hd : (ops[j]?).bind (·.dst) with
    | none => simp [sb, hd] at h
    | some d =>
      simp only [sb, hd] at h
      cases hr : ifG (fr.g d) want (evOp P C o (fr.ev P) H pnN fun v H => some (v, H)) (some (undef, H)) with
      | none => simp [hr] at h
      | some p =>
        obtain ⟨v1, H1⟩ := p
        simp only [hr, Option.bind_some] at h
        cases hpo : fr.po nt o.dst v1 with
        | none => simp [hpo] at h
        | some fr' =>
          simp only [hpo] at h
          have skip : Region.wanted o (yielded ops a.tmps) = false → (some (undef, H) : Option (Value × Hp)) = some (v1, H1) → if Region.wanted o (yielded ops a.tmps) then o.wp P a w next Q else next (a.put o.dst undef) w := by
            intro hw he
            cases he
            rw [hw]
            exact hk fr' H h ρ _ w (Stp.refl hS) (hf.put (undef_VR ρ) hL hpo)
          cases hv : fr.g d <;> simp only [hv, ifG] at hr <;> first | (cases hr; done) | skip
          · rename_i b
            have hw := wanted_true hf hg hd hv
            by_cases e : b = want
            · subst e
              rw [hw]
              simp only [BEq.rfl, if_true] at hr ⊢
              refine evOp_wp hC hS (fun x => hf.ev hS x) hr (fun v H' h' ρ' v' w' hst hvr => ?_) (fun c H' h' => by simp [pnN] at h')
              cases h'
              exact hk fr' H1 h ρ' _ w' hst ((hf.mono hst.ext).put hvr hL hpo)
            · rw [if_neg e] at hr
              exact skip (by rw [hw]; simpa using e) hr
          · exact skip (wanted_tuple hf hg hd hv) hr

theorem evOps_wp {α : Type} {C : Cl} (hC : CallsOK P C) {nt : Nat} {ops : Array Oper} {pn : List PanicEntry → Hp → Option α} {k : Fr → Hp → Option α} {r : α} {Q : Exit → Act → World → Prop} : ∀ (os : List Oper) (fr : Fr) (H : Hp), (∀ o ∈ os, LoD o.dst) → evOps P C nt ops os fr H pn k = some r →
    ∀ (ρ : Ren) (w : World) (a : Act), Sim P ρ H w → FrR ρ nt fr a →
    (∀ fr' H', k fr' H' = some r → ∀ ρ' a' w', Stp P ρ H w ρ' H' w' → FrR ρ' nt fr' a' → Q .normal a' w') →
    (∀ c H', pn c H' = some r → ∀ ρ' c' a' w', Stp P ρ H w ρ' H' w' → ChR ρ' c c' → DfR a' → Q (.panic c') a' w') → wpList P ops Q os a w
  | [], fr, H, _, h, ρ, w, a, hS, hf, hk, _ => hk fr H h ρ a w (Stp.refl hS) hf
  | o :: os, fr, H, hL, h, ρ, w, a, hS, hf, hk, hp => by
    rw [evOps_cons] at h
    have := evOne_wp hC (hL o (by simp)) h hS hf (next := wpList P ops Q os) (Q := Q) (fun fr' H' h' ρ' a' w' hst hf' => evOps_wp hC os fr' H' (fun x hx => hL x (List.mem_cons_of_mem _ hx)) h' ρ' w' a' hst.sim hf'
      (fun fr2 H2 h2 ρ2 a2 w2 hst2 => hk fr2 H2 h2 ρ2 a2 w2 (hst.trans hst2)) (fun c H2 h2 ρ2 c2 a2 w2 hst2 => hp c H2 h2 ρ2 c2 a2 w2 (hst.trans hst2)))
      (fun c H' h' ρ' c' w' hst hc => hp c H' h' ρ' c' a w' hst hc hf.df)
    simp only [wpList]
    split at this
    · rename_i hw; rw [if_pos hw]; exact .inl this
    · rename_i hw; rw [if_neg hw]; exact this

/-- regions that draw their order -/
def DrawOK (P : Program) (C : Cl) : Prop := ∀ (α : Type) (ops : Array Oper) (q : Nat), drawAt ops = some q → LoA ops → ∀ (id nt : Nat) (pn : List PanicEntry → Hp → Option α) (k : Fr → Hp → Option α) (r : α) (fr : Fr) (H : Hp),
    evD P C nt ops q fr H pn k = some r → ∀ (ρ : Ren) (w : World) (a : Act) (Q : Exit → Act → World → Prop), Sim P ρ H w → FrR ρ nt fr a →
    (∀ fr' H', k fr' H' = some r → ∀ ρ' a' w', Stp P ρ H w ρ' H' w' → FrR ρ' nt fr' a' → Q .normal a' w') →
    (∀ c H', pn c H' = some r → ∀ ρ' c' a' w', Stp P ρ H w ρ' H' w' → ChR ρ' c c' → DfR a' → Q (.panic c') a' w') → (Code.region id ops true).wp P Q a w

def DrawAll [Tabs] (P : Program) (C : Cl) : Prop := ∀ D : Dfs, @DrawOK _ D P C
theorem DfR.no {a : Act} (h : a.defers = []) : @DfR .no a := by
  letI : Dfs := .no
  exact ⟨h, fun t ht => absurd ht (Nat.not_lt_zero t)⟩
theorem LoA.no (ops : Array Oper) : @LoA .no ops := fun _ _ _ _ _ => Nat.zero_le _
theorem LoC.no : ∀ c : Code, @LoC .no c
  | .region _ ops _ => LoA.no ops
  | .seq a b => ⟨LoC.no a, LoC.no b⟩
  | .cond _ a b => ⟨LoC.no a, LoC.no b⟩
  | .block _ b => LoC.no b
  | .loop b => LoC.no b
  | .skip | .ret | .exit _ => trivial
  | .label _ | .goto _ | .rangeFunc .. | .scope _ | .refuse _ => trivial

def Ex.up : Ex → Exit
  | .normal => .normal
  | .exit j => .exit j
  | .ret => .ret

theorem Fr.g_ofI : ∀ (L : List Nat) (i : Nat) (vs : List Value) (t : Nat), (∃ j, L[j]? = some t ∧ (Fr.ofI L i vs).g t = vs.getD (i + j) dead) ∨ (Fr.ofI L i vs).g t = dead
  | [], i, vs, t => .inr rfl
  | k :: L, i, vs, t => by
    have e : (Fr.ofI (k :: L) i vs).g t = if k = t then vs.getD i dead else (Fr.ofI L (i + 1) vs).g t := Fr.g_p _ k t _
    by_cases h : k = t
    · exact .inl ⟨0, by simp [h], by rw [e, if_pos h]; rfl⟩
    · rw [if_neg h] at e
      rcases Fr.g_ofI L (i + 1) vs t with ⟨j, h1, h2⟩ | h2
      · exact .inl ⟨j + 1, by simpa using h1, by rw [e, h2]; congr 1; omega⟩
      · exact .inr (e.trans h2)

theorem FrR.of {ρ : Ren} {nt : Nat} {fr : Fr} {a : Act} (hf : FrR ρ nt fr a) (L : List Nat) : FrR ρ nt (Fr.of L (L.map fr.g)) a := by
  refine ⟨hf.size, hf.df, fun t => ?_⟩
  rcases Fr.g_ofI L 0 (L.map fr.g) t with ⟨j, h1, h2⟩ | h2
  · have : (L.map fr.g).getD (0 + j) dead = fr.g t := by simp [List.getD_eq_getElem?_getD, h1]
    unfold Fr.of
    rw [h2, this]
    exact hf.val t
  · unfold Fr.of
    rw [h2]
    exact .dead _

theorem code_wp {C : Cl} (hC : CallsOK P C) (hD : DrawOK P C) {nt n : Nat} : ∀ (c : Code) (_ : LoC c) {α : Type} (lv : List (Option An)) (fr : Fr) (H : Hp) (pn : List PanicEntry → Hp → Option α) (k : K α) (r : α),
    evCode P C nt n c lv fr H pn k = some r → ∀ (ρ : Ren) (w : World) (a : Act) (Q : Exit → Act → World → Prop), Sim P ρ H w → FrR ρ nt fr a →
    (∀ e fr' H', k e fr' H' = some r → ∀ ρ' a' w', Stp P ρ H w ρ' H' w' → FrR ρ' nt fr' a' → Q e.up a' w') →
    (∀ ch H', pn ch H' = some r → ∀ ρ' c' a' w', Stp P ρ H w ρ' H' w' → ChR ρ' ch c' → DfR a' → Q (.panic c') a' w') → c.wp P Q a w := by
  intro c
  induction c with
  | skip => intro hL α lv fr H pn k r h ρ w a Q hS hf hk _; exact wp_skip (hk .normal fr H h ρ a w (Stp.refl hS) hf)
  | ret => intro hL α lv fr H pn k r h ρ w a Q hS hf hk _; exact wp_ret (hk .ret fr H h ρ a w (Stp.refl hS) hf)
  | exit id => intro hL α lv fr H pn k r h ρ w a Q hS hf hk _; exact wp_exit (hk (.exit id) fr H h ρ a w (Stp.refl hS) hf)
  | region id ops draw =>
    intro hL α lv fr H pn k r h ρ w a Q hS hf hk hp
    simp only [evCode] at h
    cases draw with
    | false => exact wp_region_list (evOps_wp hC ops.toList fr H (fun o ho => by
        obtain ⟨i, hi, e⟩ := List.mem_iff_getElem.1 ho
        exact hL i o (by rw [← Array.getElem?_toList, List.getElem?_eq_getElem hi, e])) h ρ w a hS hf (fun fr' H' h' => hk .normal fr' H' h') hp)
    | true =>
      simp only at h
      cases hq : drawAt ops with
      | none => simp [sb, hq] at h
      | some q =>
        simp only [sb, hq] at h
        exact hD α ops q hq hL id nt pn _ r fr H h ρ w a Q hS hf (fun fr' H' h' => hk .normal fr' H' h') hp
  | seq x y ihx ihy =>
    intro hL α lv fr H pn k r h ρ w a Q hS hf hk hp
    simp only [evCode] at h
    refine wp_seq ?_
    split at h
    · refine ihx hL.1 _ fr H pn _ r h ρ w a _ hS hf (fun e fr' H' h' ρ' a' w' hst hf' => ?_) (fun ch H' h' ρ' c' a' w' hst hc hd => hp ch H' h' ρ' c' a' w' hst hc hd)
      cases e with
      | normal => exact ihy hL.2 _ fr' H' pn k r h' ρ' w' a' Q hst.sim hf' (fun e2 fr2 H2 h2 ρ2 a2 w2 hst2 => hk e2 fr2 H2 h2 ρ2 a2 w2 (hst.trans hst2)) (fun ch H2 h2 ρ2 c2 a2 w2 hst2 => hp ch H2 h2 ρ2 c2 a2 w2 (hst.trans hst2))
      | exit j => exact hk (.exit j) fr' H' h' ρ' a' w' hst hf'
      | ret => exact hk .ret fr' H' h' ρ' a' w' hst hf'
    · rename_i t _
      cases hj : evCode P C nt n x lv.tail fr H pnJ (joinK t) with
      | none => simp [hj, jn] at h
      | some jr =>
        rw [hj] at h
        refine ihx hL.1 _ fr H pnJ _ jr hj ρ w a _ hS hf (fun e fr' H' h' ρ' a' w' hst hf' => ?_) (fun ch H' h' ρ' c' a' w' hst hc hd => ?_)
        · cases e with
          | normal =>
            simp only [joinK] at h'
            cases h'
            exact ihy hL.2 _ _ H' pn k r h ρ' w' a' Q hst.sim (hf'.of t.L) (fun e2 fr2 H2 h2 ρ2 a2 w2 hst2 => hk e2 fr2 H2 h2 ρ2 a2 w2 (hst.trans hst2)) (fun ch H2 h2 ρ2 c2 a2 w2 hst2 => hp ch H2 h2 ρ2 c2 a2 w2 (hst.trans hst2))
          | exit j =>
            simp only [joinK] at h'
            cases h'
            simp only [jn, exK] at h
            cases hx : t.x with
            | false => simp [hx, noX] at h
            | true => simp only [hx, cond_true] at h; exact hk (.exit j) _ H' h ρ' a' w' hst (hf'.of t.M)
          | ret =>
            simp only [joinK] at h'
            cases h'
            simp only [jn, rtK] at h
            cases hx : t.r with
            | false => simp [hx, noR] at h
            | true => simp only [hx, cond_true] at h; exact hk .ret _ H' h ρ' a' w' hst (hf'.of t.M)
        · simp only [pnJ] at h'
          cases h'
          exact hp ch H' h ρ' c' a' w' hst hc hd
  | cond c x y ihx ihy =>
    intro hL α lv fr H pn k r h ρ w a Q hS hf hk hp
    simp only [evCode] at h
    have hv := hf.ev hS c
    cases hc : fr.ev P c <;> simp only [hc, ifB] at h <;> first | (cases h; done) | skip
    rename_i b
    have hb : a.eval c = .bool b := by rw [hc] at hv; generalize a.eval c = z at hv; cases hv; rfl
    cases b with
    | true => exact wp_cond_true hb (ihx hL.1 _ fr H pn k r h ρ w a Q hS hf hk hp)
    | false => exact wp_cond_false hb (ihy hL.2 _ fr H pn k r h ρ w a Q hS hf hk hp)
  | block id x ih =>
    intro hL α lv fr H pn k r h ρ w a Q hS hf hk hp
    simp only [evCode] at h
    refine wp_block (ih hL _ fr H pn _ r h ρ w a _ hS hf (fun e fr' H' h' ρ' a' w' hst hf' => ?_) (fun ch H' h' ρ' c' a' w' hst hc hd => hp ch H' h' ρ' c' a' w' hst hc hd))
    cases e with
    | normal => exact hk .normal fr' H' h' ρ' a' w' hst hf'
    | ret => exact hk .ret fr' H' h' ρ' a' w' hst hf'
    | exit j =>
      simp only [blkK] at h'
      simp only [Ex.up, Exit.inBlock]
      split at h'
      · rename_i e; rw [if_pos e]; exact hk .normal fr' H' h' ρ' a' w' hst hf'
      · rename_i e; rw [if_neg e]; exact hk (.exit j) fr' H' h' ρ' a' w' hst hf'
  | loop x ih =>
    intro hL α lv fr H pn k r h ρ w a Q hS hf hk hp
    simp only [evCode] at h
    split at h
    · cases h
    · rename_i t _
      refine wp_loop_rounds n ?_
      have key : ∀ (m : Nat) (vs : List Value) (H1 : Hp), lp (fun vs H kn kx kr => evCode P C nt n x lv.tail (Fr.of t.L vs) H pn (rndK t kn kx kr)) m vs H1 (exK t k) (rtK t k) = some r →
          ∀ (ρ1 : Ren) (w1 : World) (a1 : Act), Stp P ρ H w ρ1 H1 w1 → FrR ρ1 nt (Fr.of t.L vs) a1 → Code.rounds P x Q m a1 w1 := by
        intro m
        induction m with
        | zero => intro vs H1 h1; simp [lp] at h1
        | succ m ihm =>
          intro vs H1 h1 ρ1 w1 a1 hst1 hf1
          simp only [lp] at h1
          rw [rounds_succ]
          refine ih hL _ _ H1 pn _ r h1 ρ1 w1 a1 _ hst1.sim hf1 (fun e fr' H' h' ρ' a' w' hst hf' => ?_) (fun ch H' h' ρ' c' a' w' hst hc hd => hp ch H' h' ρ' c' a' w' (hst1.trans hst) hc hd)
          cases e with
          | normal => exact ihm _ H' h' ρ' w' a' (hst1.trans hst) (hf'.of t.L)
          | exit j =>
            simp only [rndK, exK] at h'
            cases hx : t.x with
            | false => simp [hx, noX] at h'
            | true => simp only [hx, cond_true] at h'; exact hk (.exit j) _ H' h' ρ' a' w' (hst1.trans hst) (hf'.of t.M)
          | ret =>
            simp only [rndK, rtK] at h'
            cases hx : t.r with
            | false => simp [hx, noR] at h'
            | true => simp only [hx, cond_true] at h'; exact hk .ret _ H' h' ρ' a' w' (hst1.trans hst) (hf'.of t.M)
      exact key n _ H h ρ w a (Stp.refl hS) (hf.of t.L)
  | _ => intro hL α lv fr H pn k r h; simp [evCode] at h

end Go.Ev
