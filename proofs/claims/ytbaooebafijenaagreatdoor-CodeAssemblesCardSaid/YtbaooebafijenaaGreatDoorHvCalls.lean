/- Calls of the machine against the evaluator. -/
import Derived.Test.YtbaooebafijenaaGreatDoorHvOp
import Derived.LoopN
import Derived.Defers
import Derived.Recover
set_option linter.unusedSimpArgs false
namespace Go.Ev
open Go
set_option linter.unusedSectionVars false
variable [Tabs]
variable {P : Program}
class Dfs where
 ds : List Deferred
 lo : Nat
 pin : Nat → Value
abbrev Dfs.no : Dfs := ⟨[], 0, fun _ => undef⟩
variable [Dfs]
def DfR (a : Act) : Prop := a.defers = Dfs.ds ∧ ∀ t, t < Dfs.lo → a.tmps.getD t undef = Dfs.pin t
def DfE (a a' : Act) : Prop := a.defers = a'.defers ∧ ∀ t, t < Dfs.lo → a.tmps.getD t undef = a'.tmps.getD t undef
def LoD (d : Option Tmp) : Prop := ∀ t, d = some t → Dfs.lo ≤ t
def LoA (ops : Array Oper) : Prop := ∀ (i : Nat) (o : Oper), ops[i]? = some o → LoD o.dst
def LoC : Code → Prop
 | .region _ ops _ => LoA ops
 | .seq a b => LoC a ∧ LoC b
 | .cond _ a b => LoC a ∧ LoC b
 | .block _ b => LoC b
 | .loop b => LoC b
 | _ => True
theorem DfE.refl (a : Act) : DfE a a := ⟨rfl, fun _ _ => rfl⟩
theorem DfE.symm {a b : Act} (h : DfE a b) : DfE b a := ⟨h.1.symm, fun t ht => (h.2 t ht).symm⟩
theorem DfE.trans {a b c : Act} (h : DfE a b) (h' : DfE b c) : DfE a c := ⟨h.1.trans h'.1, fun t ht => (h.2 t ht).trans (h'.2 t ht)⟩
theorem DfE.res {a b : Act} (h : DfE a b) (hb : DfR b) : DfR a := ⟨h.1.trans hb.1, fun t ht => (h.2 t ht).trans (hb.2 t ht)⟩
theorem DfE.put {a : Act} {d : Option Tmp} (h : LoD d) (v : Value) : DfE (a.put d v) a := by
 cases d with
 | none => exact .refl a
 | some d =>
   have hd := h d rfl
   refine ⟨rfl, fun t ht => ?_⟩
   have : d ≠ t := fun e => by rw [e] at hd; exact absurd ht (Nat.not_lt.2 hd)
   simp [Act.put, Array.getD_eq_getD_getElem?, Array.getElem?_setIfInBounds_ne this]
theorem DfR.put {a : Act} (ha : DfR a) {d : Option Tmp} (h : LoD d) (v : Value) : DfR (a.put d v) := (DfE.put h v).res ha
structure FrR (ρ : Ren) (nt : Nat) (fr : Fr) (a : Act) : Prop where
 size : a.tmps.size = nt
 df : DfR a
 val : ∀ t, VR ρ (fr.g t) (a.tmps.getD t undef)
theorem FrR.mono {ρ ρ' : Ren} (h : ρ.le ρ') {nt : Nat} {fr : Fr} {a : Act} (hf : FrR ρ nt fr a) : FrR ρ' nt fr a := ⟨hf.size, hf.df, fun t => (hf.val t).mono h⟩
theorem Fr.g_p (fr : Fr) (k t : Nat) (v : Value) : (fr.p k v).g t = if k = t then v else fr.g t := by
 simp only [Fr.p, Fr.g]
 by_cases h : k = t
 · subst h; simp
 · have : Nat.beq k t = false := by
     cases hb : Nat.beq k t with
     | false => rfl
     | true => exact absurd (Nat.eq_of_beq_eq_true hb) h
   simp [h, this]
theorem FrR.ev {ρ : Ren} {H : Hp} {w : World} (hS : Sim P ρ H w) {nt : Nat} {fr : Fr} {a : Act} (hf : FrR ρ nt fr a) (x : Operand) : VR ρ (fr.ev P x) (a.eval x) := by
 cases x with
 | tmp t => exact hf.val t
 | const v =>
   simp only [Fr.ev, Act.eval]
   cases h : flat v with
   | true => simpa using VR.flatN_refl 4 v h
   | false => simpa using VR.dead v
 | global g =>
   simp only [Fr.ev, Act.eval]
   cases h : Nat.blt g P.globals.size with
   | true =>
     have : g < P.globals.size := Nat.le_of_ble_eq_true h
     simpa [ptr] using VR.ptr (o := 0) (hS.glob g this).1
   | false => simpa using VR.dead _
 | func f => exact .func rfl (fun i hi => by simp at hi) rfl (fun i hi => by simp at hi)
theorem FrR.put {ρ : Ren} {nt : Nat} {fr fr' : Fr} {a : Act} (hf : FrR ρ nt fr a) {v v' : Value} (hv : VR ρ v v') {d : Option Tmp} (hL : LoD d) (h : fr.po nt d v = some fr') : FrR ρ nt fr' (a.put d v') := by
 have hdf := hf.df.put hL v'
 cases d with
 | none => simp [Fr.po] at h; subst h; exact hf
 | some d =>
   simp only [Fr.po] at h
   split at h
   · rename_i hd
     cases h
     refine ⟨by simp [Act.put, hf.size], hdf, fun t => ?_⟩
     rw [Fr.g_p]
     simp only [Act.put, Array.getD_eq_getD_getElem?, Array.getElem?_setIfInBounds]
     by_cases e : d = t
     · subst e
       simp [hf.size, hd, hv]
     · have := hf.val t
       simpa [e, Array.getD_eq_getD_getElem?] using this
   · cases h
theorem undef_VR (ρ : Ren) : VR ρ undef undef := .tuple rfl fun i hi => by simp at hi
theorem wanted_true {nt : Nat} {ρ : Ren} {fr : Fr} {a : Act} (hf : FrR ρ nt fr a) {ops : Array Oper} {o : Oper} {j d : Nat} {want b : Bool} (hg : o.guard = some (j, want)) (hd : (ops[j]?).bind (·.dst) = some d) (hv : fr.g d = .bool b) :
   Region.wanted o (yielded ops a.tmps) = (b == want) := by
 have h1 := hf.val d
 rw [hv] at h1
 have h2 : a.tmps[d]? = some (.bool b) := by
   generalize hq : a.tmps.getD d undef = q at h1
   cases h1
   rw [Array.getD_eq_getD_getElem?] at hq
   cases e : a.tmps[d]? with
   | none => simp [e, undef] at hq
   | some x => simp [e] at hq; rw [hq]
 simp [Region.wanted, hg, yielded, hd, h2]
theorem wanted_tuple {nt : Nat} {ρ : Ren} {fr : Fr} {a : Act} (hf : FrR ρ nt fr a) {ops : Array Oper} {o : Oper} {j d : Nat} {want : Bool} {vs : Array Value} (hg : o.guard = some (j, want)) (hd : (ops[j]?).bind (·.dst) = some d) (hv : fr.g d = .tuple vs) :
   Region.wanted o (yielded ops a.tmps) = false := by
 have h1 := hf.val d
 rw [hv] at h1
 have h2 : ∀ b, a.tmps[d]? ≠ some (.bool b) := by
   intro b hb
   have : a.tmps.getD d undef = .bool b := by rw [Array.getD_eq_getD_getElem?, hb]; rfl
   rw [this] at h1
   cases h1
 simp only [Region.wanted, hg, yielded, hd, Option.bind_some]
 cases e : a.tmps[d]? with
 | none => simp
 | some x =>
   cases x <;> simp_all
theorem evOps_cons {α : Type} {C : Cl} {nt : Nat} {ops : Array Oper} {o : Oper} {os : List Oper} {fr : Fr} {H : Hp} {pn : List PanicEntry → Hp → Option α} {k : Fr → Hp → Option α} :
   evOps P C nt ops (o :: os) fr H pn k = evOne P C nt ops o fr H pn fun fr H => evOps P C nt ops os fr H pn k := rfl
theorem evOne_wp {α : Type} {C : Cl} (hC : CallsOK P C) {nt : Nat} {ops : Array Oper} {o : Oper} (hL : LoD o.dst) {fr : Fr} {H : Hp} {pn : List PanicEntry → Hp → Option α} {k : Fr → Hp → Option α} {r : α} (h : evOne P C nt ops o fr H pn k = some r)
   {ρ : Ren} {w : World} (hS : Sim P ρ H w) {a : Act} (hf : FrR ρ nt fr a) {next : Act → World → Prop} {Q : Exit → Act → World → Prop}
   (hk : ∀ fr' H', k fr' H' = some r → ∀ ρ' a' w', Stp P ρ H w ρ' H' w' → FrR ρ' nt fr' a' → next a' w')
   (hp : ∀ c H', pn c H' = some r → ∀ ρ' c' w', Stp P ρ H w ρ' H' w' → ChR ρ' c c' → Q (.panic c') a w') :
   if Region.wanted o (yielded ops a.tmps) then o.wp P a w next Q else next (a.put o.dst undef) w := by
 unfold evOne at h
 cases hg : o.guard with
 | none =>
   simp only [hg] at h
   have : Region.wanted o (yielded ops a.tmps) = true := by simp [Region.wanted, hg]
   rw [if_pos this]
   refine evOp_wp hC hS (fun x => hf.ev hS x) h (fun v H' h' ρ' v' w' hst hv => ?_) hp
   cases hpo : fr.po nt o.dst v with
   | none => simp [hpo] at h'
   | some fr' =>
     simp only [hpo] at h'
     exact hk fr' H' h' ρ' _ w' hst ((hf.mono hst.ext).put hv hL hpo)
 | some q =>
   obtain ⟨j, want⟩ := q
   simp only [hg] at h
   cases hd : (ops[j]?).bind (·.dst) with
   | none => simp [sb, hd] at h
   | some d =>
     simp only [sb, hd] at h
     cases hr : ifG (fr.g d) want (evOp P C o (fr.ev P) H pnN fun v H => some (v, H)) (some (undef, H)) with
     | none => simp [hr] at h
     | some p =>
       obtain ⟨v1, H1⟩ := p
       simp only [hr, Option.bind_some] at h
       cases hpo : fr.po nt o.dst v1 with
       | none => simp [hpo] at h
       | some fr' =>
         simp only [hpo] at h
         have skip : Region.wanted o (yielded ops a.tmps) = false → (some (undef, H) : Option (Value × Hp)) = some (v1, H1) → if Region.wanted o (yielded ops a.tmps) then o.wp P a w next Q else next (a.put o.dst undef) w := by
           intro hw he
           cases he
           rw [hw]
           exact hk fr' H h ρ _ w (Stp.refl hS) (hf.put (undef_VR ρ) hL hpo)
         cases hv : fr.g d <;> simp only [hv, ifG] at hr <;> first | (cases hr; done) | skip
         · rename_i b
           have hw := wanted_true hf hg hd hv
           by_cases e : b = want
           · subst e
             rw [hw]
             simp only [BEq.rfl, if_true] at hr ⊢
             refine evOp_wp hC hS (fun x => hf.ev hS x) hr (fun v H' h' ρ' v' w' hst hvr => ?_) (fun c H' h' => by simp [pnN] at h')
             cases h'
             exact hk fr' H1 h ρ' _ w' hst ((hf.mono hst.ext).put hvr hL hpo)
           · rw [if_neg e] at hr
             exact skip (by rw [hw]; simpa using e) hr
         · exact skip (wanted_tuple hf hg hd hv) hr
theorem evOps_wp {α : Type} {C : Cl} (hC : CallsOK P C) {nt : Nat} {ops : Array Oper} {pn : List PanicEntry → Hp → Option α} {k : Fr → Hp → Option α} {r : α} {Q : Exit → Act → World → Prop} : ∀ (os : List Oper) (fr : Fr) (H : Hp), (∀ o ∈ os, LoD o.dst) → evOps P C nt ops os fr H pn k = some r →
   ∀ (ρ : Ren) (w : World) (a : Act), Sim P ρ H w → FrR ρ nt fr a →
   (∀ fr' H', k fr' H' = some r → ∀ ρ' a' w', Stp P ρ H w ρ' H' w' → FrR ρ' nt fr' a' → Q .normal a' w') →
   (∀ c H', pn c H' = some r → ∀ ρ' c' a' w', Stp P ρ H w ρ' H' w' → ChR ρ' c c' → DfR a' → Q (.panic c') a' w') → wpList P ops Q os a w
 | [], fr, H, _, h, ρ, w, a, hS, hf, hk, _ => hk fr H h ρ a w (Stp.refl hS) hf
 | o :: os, fr, H, hL, h, ρ, w, a, hS, hf, hk, hp => by
   rw [evOps_cons] at h
   have := evOne_wp hC (hL o (by simp)) h hS hf (next := wpList P ops Q os) (Q := Q) (fun fr' H' h' ρ' a' w' hst hf' => evOps_wp hC os fr' H' (fun x hx => hL x (List.mem_cons_of_mem _ hx)) h' ρ' w' a' hst.sim hf'
     (fun fr2 H2 h2 ρ2 a2 w2 hst2 => hk fr2 H2 h2 ρ2 a2 w2 (hst.trans hst2)) (fun c H2 h2 ρ2 c2 a2 w2 hst2 => hp c H2 h2 ρ2 c2 a2 w2 (hst.trans hst2)))
     (fun c H' h' ρ' c' w' hst hc => hp c H' h' ρ' c' a w' hst hc hf.df)
   simp only [wpList]
   split at this
   · rename_i hw; rw [if_pos hw]; exact .inl this
   · rename_i hw; rw [if_neg hw]; exact this
def DrawOK (P : Program) (C : Cl) : Prop := ∀ (α : Type) (ops : Array Oper) (q : Nat), drawAt ops = some q → LoA ops → ∀ (id nt : Nat) (pn : List PanicEntry → Hp → Option α) (k : Fr → Hp → Option α) (r : α) (fr : Fr) (H : Hp),
   evD P C nt ops q fr H pn k = some r → ∀ (ρ : Ren) (w : World) (a : Act) (Q : Exit → Act → World → Prop), Sim P ρ H w → FrR ρ nt fr a →
   (∀ fr' H', k fr' H' = some r → ∀ ρ' a' w', Stp P ρ H w ρ' H' w' → FrR ρ' nt fr' a' → Q .normal a' w') →
   (∀ c H', pn c H' = some r → ∀ ρ' c' a' w', Stp P ρ H w ρ' H' w' → ChR ρ' c c' → DfR a' → Q (.panic c') a' w') → (Code.region id ops true).wp P Q a w
def DrawAll [Tabs] (P : Program) (C : Cl) : Prop := ∀ D : Dfs, @DrawOK _ D P C
theorem DfR.no {a : Act} (h : a.defers = []) : @DfR .no a := by
 letI : Dfs := .no
 exact ⟨h, fun t ht => absurd ht (Nat.not_lt_zero t)⟩
theorem LoA.no (ops : Array Oper) : @LoA .no ops := fun _ _ _ _ _ => Nat.zero_le _
theorem LoC.no : ∀ c : Code, @LoC .no c
 | .region _ ops _ => LoA.no ops
 | .seq a b => ⟨LoC.no a, LoC.no b⟩
 | .cond _ a b => ⟨LoC.no a, LoC.no b⟩
 | .block _ b => LoC.no b
 | .loop b => LoC.no b
 | .skip | .ret | .exit _ => trivial
 | .label _ | .goto _ | .rangeFunc .. | .scope _ | .refuse _ => trivial
def Ex.up : Ex → Exit
 | .normal => .normal
 | .exit j => .exit j
 | .ret => .ret
theorem Fr.g_ofI : ∀ (L : List Nat) (i : Nat) (vs : List Value) (t : Nat), (∃ j, L[j]? = some t ∧ (Fr.ofI L i vs).g t = vs.getD (i + j) dead) ∨ (Fr.ofI L i vs).g t = dead
 | [], i, vs, t => .inr rfl
 | k :: L, i, vs, t => by
   have e : (Fr.ofI (k :: L) i vs).g t = if k = t then vs.getD i dead else (Fr.ofI L (i + 1) vs).g t := Fr.g_p _ k t _
   by_cases h : k = t
   · exact .inl ⟨0, by simp [h], by rw [e, if_pos h]; rfl⟩
   · rw [if_neg h] at e
     rcases Fr.g_ofI L (i + 1) vs t with ⟨j, h1, h2⟩ | h2
     · exact .inl ⟨j + 1, by simpa using h1, by rw [e, h2]; congr 1; omega⟩
     · exact .inr (e.trans h2)
theorem FrR.of {ρ : Ren} {nt : Nat} {fr : Fr} {a : Act} (hf : FrR ρ nt fr a) (L : List Nat) : FrR ρ nt (Fr.of L (L.map fr.g)) a := by
 refine ⟨hf.size, hf.df, fun t => ?_⟩
 rcases Fr.g_ofI L 0 (L.map fr.g) t with ⟨j, h1, h2⟩ | h2
 · have : (L.map fr.g).getD (0 + j) dead = fr.g t := by simp [List.getD_eq_getElem?_getD, h1]
   unfold Fr.of
   rw [h2, this]
   exact hf.val t
 · unfold Fr.of
   rw [h2]
   exact .dead _
theorem code_wp {C : Cl} (hC : CallsOK P C) (hD : DrawOK P C) {nt n : Nat} : ∀ (c : Code) (_ : LoC c) {α : Type} (lv : List (Option An)) (fr : Fr) (H : Hp) (pn : List PanicEntry → Hp → Option α) (k : K α) (r : α),
   evCode P C nt n c lv fr H pn k = some r → ∀ (ρ : Ren) (w : World) (a : Act) (Q : Exit → Act → World → Prop), Sim P ρ H w → FrR ρ nt fr a →
   (∀ e fr' H', k e fr' H' = some r → ∀ ρ' a' w', Stp P ρ H w ρ' H' w' → FrR ρ' nt fr' a' → Q e.up a' w') →
   (∀ ch H', pn ch H' = some r → ∀ ρ' c' a' w', Stp P ρ H w ρ' H' w' → ChR ρ' ch c' → DfR a' → Q (.panic c') a' w') → c.wp P Q a w := by
 intro c
 induction c with
 | skip => intro hL α lv fr H pn k r h ρ w a Q hS hf hk _; exact wp_skip (hk .normal fr H h ρ a w (Stp.refl hS) hf)
 | ret => intro hL α lv fr H pn k r h ρ w a Q hS hf hk _; exact wp_ret (hk .ret fr H h ρ a w (Stp.refl hS) hf)
 | exit id => intro hL α lv fr H pn k r h ρ w a Q hS hf hk _; exact wp_exit (hk (.exit id) fr H h ρ a w (Stp.refl hS) hf)
 | region id ops draw =>
   intro hL α lv fr H pn k r h ρ w a Q hS hf hk hp
   simp only [evCode] at h
   cases draw with
   | false => exact wp_region_list (evOps_wp hC ops.toList fr H (fun o ho => by
       obtain ⟨i, hi, e⟩ := List.mem_iff_getElem.1 ho
       exact hL i o (by rw [← Array.getElem?_toList, List.getElem?_eq_getElem hi, e])) h ρ w a hS hf (fun fr' H' h' => hk .normal fr' H' h') hp)
   | true =>
     simp only at h
     cases hq : drawAt ops with
     | none => simp [sb, hq] at h
     | some q =>
       simp only [sb, hq] at h
       exact hD α ops q hq hL id nt pn _ r fr H h ρ w a Q hS hf (fun fr' H' h' => hk .normal fr' H' h') hp
 | seq x y ihx ihy =>
   intro hL α lv fr H pn k r h ρ w a Q hS hf hk hp
   simp only [evCode] at h
   refine wp_seq ?_
   split at h
   · refine ihx hL.1 _ fr H pn _ r h ρ w a _ hS hf (fun e fr' H' h' ρ' a' w' hst hf' => ?_) (fun ch H' h' ρ' c' a' w' hst hc hd => hp ch H' h' ρ' c' a' w' hst hc hd)
     cases e with
     | normal => exact ihy hL.2 _ fr' H' pn k r h' ρ' w' a' Q hst.sim hf' (fun e2 fr2 H2 h2 ρ2 a2 w2 hst2 => hk e2 fr2 H2 h2 ρ2 a2 w2 (hst.trans hst2)) (fun ch H2 h2 ρ2 c2 a2 w2 hst2 => hp ch H2 h2 ρ2 c2 a2 w2 (hst.trans hst2))
     | exit j => exact hk (.exit j) fr' H' h' ρ' a' w' hst hf'
     | ret => exact hk .ret fr' H' h' ρ' a' w' hst hf'
   · rename_i t _
     cases hj : evCode P C nt n x lv.tail fr H pnJ (joinK t) with
     | none => simp [hj, jn] at h
     | some jr =>
       rw [hj] at h
       refine ihx hL.1 _ fr H pnJ _ jr hj ρ w a _ hS hf (fun e fr' H' h' ρ' a' w' hst hf' => ?_) (fun ch H' h' ρ' c' a' w' hst hc hd => ?_)
       · cases e with
         | normal =>
           simp only [joinK] at h'
           cases h'
           exact ihy hL.2 _ _ H' pn k r h ρ' w' a' Q hst.sim (hf'.of t.L) (fun e2 fr2 H2 h2 ρ2 a2 w2 hst2 => hk e2 fr2 H2 h2 ρ2 a2 w2 (hst.trans hst2)) (fun ch H2 h2 ρ2 c2 a2 w2 hst2 => hp ch H2 h2 ρ2 c2 a2 w2 (hst.trans hst2))
         | exit j =>
           simp only [joinK] at h'
           cases h'
           simp only [jn, exK] at h
           cases hx : t.x with
           | false => simp [hx, noX] at h
           | true => simp only [hx, cond_true] at h; exact hk (.exit j) _ H' h ρ' a' w' hst (hf'.of t.M)
         | ret =>
           simp only [joinK] at h'
           cases h'
           simp only [jn, rtK] at h
           cases hx : t.r with
           | false => simp [hx, noR] at h
           | true => simp only [hx, cond_true] at h; exact hk .ret _ H' h ρ' a' w' hst (hf'.of t.M)
       · simp only [pnJ] at h'
         cases h'
         exact hp ch H' h ρ' c' a' w' hst hc hd
 | cond c x y ihx ihy =>
   intro hL α lv fr H pn k r h ρ w a Q hS hf hk hp
   simp only [evCode] at h
   have hv := hf.ev hS c
   cases hc : fr.ev P c <;> simp only [hc, ifB] at h <;> first | (cases h; done) | skip
   rename_i b
   have hb : a.eval c = .bool b := by rw [hc] at hv; generalize a.eval c = z at hv; cases hv; rfl
   cases b with
   | true => exact wp_cond_true hb (ihx hL.1 _ fr H pn k r h ρ w a Q hS hf hk hp)
   | false => exact wp_cond_false hb (ihy hL.2 _ fr H pn k r h ρ w a Q hS hf hk hp)
 | block id x ih =>
   intro hL α lv fr H pn k r h ρ w a Q hS hf hk hp
   simp only [evCode] at h
   refine wp_block (ih hL _ fr H pn _ r h ρ w a _ hS hf (fun e fr' H' h' ρ' a' w' hst hf' => ?_) (fun ch H' h' ρ' c' a' w' hst hc hd => hp ch H' h' ρ' c' a' w' hst hc hd))
   cases e with
   | normal => exact hk .normal fr' H' h' ρ' a' w' hst hf'
   | ret => exact hk .ret fr' H' h' ρ' a' w' hst hf'
   | exit j =>
     simp only [blkK] at h'
     simp only [Ex.up, Exit.inBlock]
     split at h'
     · rename_i e; rw [if_pos e]; exact hk .normal fr' H' h' ρ' a' w' hst hf'
     · rename_i e; rw [if_neg e]; exact hk (.exit j) fr' H' h' ρ' a' w' hst hf'
 | loop x ih =>
   intro hL α lv fr H pn k r h ρ w a Q hS hf hk hp
   simp only [evCode] at h
   split at h
   · cases h
   · rename_i t _
     refine wp_loop_rounds n ?_
     have key : ∀ (m : Nat) (vs : List Value) (H1 : Hp), lp (fun vs H kn kx kr => evCode P C nt n x lv.tail (Fr.of t.L vs) H pn (rndK t kn kx kr)) m vs H1 (exK t k) (rtK t k) = some r →
         ∀ (ρ1 : Ren) (w1 : World) (a1 : Act), Stp P ρ H w ρ1 H1 w1 → FrR ρ1 nt (Fr.of t.L vs) a1 → Code.rounds P x Q m a1 w1 := by
       intro m
       induction m with
       | zero => intro vs H1 h1; simp [lp] at h1
       | succ m ihm =>
         intro vs H1 h1 ρ1 w1 a1 hst1 hf1
         simp only [lp] at h1
         rw [rounds_succ]
         refine ih hL _ _ H1 pn _ r h1 ρ1 w1 a1 _ hst1.sim hf1 (fun e fr' H' h' ρ' a' w' hst hf' => ?_) (fun ch H' h' ρ' c' a' w' hst hc hd => hp ch H' h' ρ' c' a' w' (hst1.trans hst) hc hd)
         cases e with
         | normal => exact ihm _ H' h' ρ' w' a' (hst1.trans hst) (hf'.of t.L)
         | exit j =>
           simp only [rndK, exK] at h'
           cases hx : t.x with
           | false => simp [hx, noX] at h'
           | true => simp only [hx, cond_true] at h'; exact hk (.exit j) _ H' h' ρ' a' w' (hst1.trans hst) (hf'.of t.M)
         | ret =>
           simp only [rndK, rtK] at h'
           cases hx : t.r with
           | false => simp [hx, noR] at h'
           | true => simp only [hx, cond_true] at h'; exact hk .ret _ H' h' ρ' a' w' (hst1.trans hst) (hf'.of t.M)
     exact key n _ H h ρ w a (Stp.refl hS) (hf.of t.L)
 | _ => intro hL α lv fr H pn k r h; simp [evCode] at h
end Go.Ev
set_option linter.unusedSimpArgs false
namespace Go.Ev
open Go
set_option linter.unusedSectionVars false
variable [Tabs]
variable {P : Program}
def resV (tmps : Array Value) : ResultVar → Sem Value
 | .tmp t => pure (tmps.getD t undef)
 | .cell a t => do loadVar t (← asAddr (tmps.getD a undef))
theorem results_eq (fn : Func) (tmps : Array Value) : results fn tmps = (do let vs ← fn.results.mapM (resV tmps); pure (if h : vs.size = 1 then vs[0] else .tuple vs)) := by
 have : (fun (x : ResultVar) => (match x with | .tmp t => pure (tmps.getD t undef) | .cell a t => do loadVar t (← asAddr (tmps.getD a undef)) : Sem Value)) = resV tmps := by
   funext x; cases x <;> rfl
 rw [← this]
 rfl
theorem run_results {P : Program} {w : World} {tmps : Array Value} : ∀ (rs : List ResultVar) (vs' : List Value), rs.length = vs'.length →
   (∀ (i : Nat) (x : ResultVar) (v : Value), rs[i]? = some x → vs'[i]? = some v → (resV tmps x).run P w = .ok v w) →
   (rs.mapM (resV tmps)).run P w = .ok vs' w
 | [], vs', hl, _ => by
   cases vs' with
   | nil => simp
   | cons => simp at hl
 | x :: rs, vs', hl, h => by
   cases vs' with
   | nil => simp at hl
   | cons v vs' =>
     rw [List.mapM_cons, Sem.run_bind, h 0 x v rfl rfl, Result.andThen_ok, Sem.run_bind, run_results rs vs' (by simpa using hl) (fun i y u hy hu => h (i + 1) y u (by simpa using hy) (by simpa using hu))]
     simp
theorem evRes_sound {ρ : Ren} {H : Hp} {w : World} (hS : Sim P ρ H w) {fr : Fr} {a : Act} (hf : ∀ t, VR ρ (fr.g t) (a.tmps.getD t undef)) : ∀ (rs : List ResultVar) (k : List Value → R) (r : Out × Hp), evRes P fr H rs k = some r →
   ∃ vs vs', k vs = some r ∧ VL ρ vs vs' ∧ rs.length = vs'.length ∧
     (∀ (i : Nat) (x : ResultVar) (v : Value), rs[i]? = some x → vs'[i]? = some v → (resV a.tmps x).run P w = .ok v w)
 | [], k, r, h => ⟨[], [], h, VL.nil, rfl, fun i x v hx => by simp at hx⟩
 | .tmp t :: rs, k, r, h => by
   simp only [evRes] at h
   obtain ⟨vs, vs', h1, h2, h3, h4⟩ := evRes_sound hS hf rs _ r h
   refine ⟨fr.g t :: vs, a.tmps.getD t undef :: vs', h1, VL.cons (hf t) h2, by simp [h3], fun i x v hx hv => ?_⟩
   cases i with
   | zero => simp at hx hv; subst hx; subst hv; simp [resV]
   | succ i => exact h4 i x v (by simpa using hx) (by simpa using hv)
 | .cell b t :: rs, k, r, h => by
   simp only [evRes] at h
   cases hg : aggT P t with
   | none => simp [sb, hg] at h
   | some g =>
     have fin : ∀ v v' : Value, VR ρ v v' → (resV a.tmps (.cell b t)).run P w = .ok v' w → (evRes P fr H rs fun vs => k (v :: vs)) = some r →
         ∃ vs vs', k vs = some r ∧ VL ρ vs vs' ∧ (ResultVar.cell b t :: rs).length = vs'.length ∧
           (∀ (i : Nat) (x : ResultVar) (v : Value), (ResultVar.cell b t :: rs)[i]? = some x → vs'[i]? = some v → (resV a.tmps x).run P w = .ok v w) := fun v v' hv hr h => by
       obtain ⟨vs, vs', h1, h2, h3, h4⟩ := evRes_sound hS hf rs _ r h
       exact ⟨v :: vs, v' :: vs', h1, VL.cons hv h2, by simp [h3], fun i x u hx hu => by
         cases i with
         | zero => simp only [List.getElem?_cons_zero, Option.some.injEq] at hx hu; subst hx; subst hu; exact hr
         | succ i => exact h4 i x u (by simpa using hx) (by simpa using hu)⟩
     cases g with
     | true =>
       cases hn : sizeT P t with
       | none => simp [sb, hg, hn] at h
       | some n =>
         simp only [sb, hg, hn] at h
         cases hl : ldN n (fr.g b) H with
         | none => simp [hl] at h
         | some v =>
           simp only [hl, Option.bind_some] at h
           obtain ⟨ad, cs', h1, h2, h3⟩ := ldN_sound hS (hf b) hl
           exact fin v (.agg cs') h3 (by simp [resV, h1, asAddr, loadVar, run_aggT hg, run_sizeT hn, h2]) h
     | false =>
       simp only [sb, hg] at h
       cases hl : ld (fr.g b) H with
       | none => simp [hl] at h
       | some v =>
         simp only [hl, Option.bind_some] at h
         obtain ⟨ad, v', h1, h2, h3⟩ := ld_sound hS (hf b) hl
         exact fin v v' h3 (by simp [resV, h1, asAddr, loadVar, run_aggT hg, h2]) h
theorem retV_sound {ρ : Ren} {H : Hp} {vs vs' : List Value} (h : VL ρ vs vs') {r : Out × Hp} (hr : retV H vs = some r) :
   ∃ v, r = (.ret v, H) ∧ VR ρ v (if h : (⟨vs'⟩ : Array Value).size = 1 then (⟨vs'⟩ : Array Value)[0] else .tuple ⟨vs'⟩) := by
 match vs, vs', h with
 | [], [], h => simp [retV] at hr; subst hr; exact ⟨_, rfl, by simpa using VR.tuple h.1 h.2⟩
 | [v], [v'], h => simp [retV] at hr; subst hr; exact ⟨_, rfl, by simpa using h.head⟩
 | a :: b :: vs, a' :: b' :: vs', h => simp [retV] at hr; subst hr; exact ⟨_, rfl, by simpa using VR.tuple h.1 h.2⟩
 | [], _ :: _, h => simp [VL] at h
 | _ :: _, [], h => simp [VL] at h
 | [_], _ :: _ :: _, h => simp [VL] at h
 | _ :: _ :: _, [_], h => simp [VL] at h
theorem run_results_fn {w : World} {fn : Func} {tmps : Array Value} {vs' : List Value} (hl : fn.results.toList.length = vs'.length)
   (h : ∀ (i : Nat) (x : ResultVar) (v : Value), fn.results.toList[i]? = some x → vs'[i]? = some v → (resV tmps x).run P w = .ok v w) :
   (results fn tmps).run P w = .ok (if h : (⟨vs'⟩ : Array Value).size = 1 then (⟨vs'⟩ : Array Value)[0] else .tuple ⟨vs'⟩) w := by
 rw [results_eq, Sem.run_bind, Array.mapM_eq_mapM_toList, Sem.run_map]
 have := run_results fn.results.toList vs' hl h
 rw [this]
 simp
theorem FrR.start {ρ : Ren} {nt : Nat} {args args' : List Value} (ha : VL ρ args args') (hle : args.length ≤ nt) :
   @FrR _ .no ρ nt (Fr.args args) { tmps := (⟨args'⟩ : Array Value) ++ Array.replicate (nt - (⟨args'⟩ : Array Value).size) undef, defers := [] } := by
 have hlen := ha.1
 letI : Dfs := .no
 refine ⟨by simp; omega, DfR.no rfl, fun t => ?_⟩
 have key : ∀ (l : List Value) (i : Nat) (f : Fr), (Fr.init l i f).g t = if i ≤ t ∧ t < i + l.length then l.getD (t - i) undef else f.g t := by
   intro l
   induction l with
   | nil => intro i f; simp [Fr.init]; omega
   | cons v l ih =>
     intro i f
     simp only [Fr.init, ih, Fr.g_p, List.length_cons]
     by_cases h1 : t = i
     · subst h1
       rw [if_neg (by omega), if_pos rfl, if_pos (by omega)]
       simp
     · by_cases h2 : i + 1 ≤ t ∧ t < i + 1 + l.length
       · rw [if_pos h2, if_pos (by omega)]
         have : t - i = (t - (i + 1)) + 1 := by omega
         rw [this]; simp
       · rw [if_neg h2, if_neg (Ne.symm h1), if_neg (by omega)]
 unfold Fr.args
 rw [key]
 by_cases ht : t < args.length
 · rw [if_pos (by omega)]
   have h2 := ha.2 t ht
   have ht' : t < args'.length := hlen ▸ ht
   simpa [Array.getD_eq_getD_getElem?, Array.getElem?_append, ht', List.getD_eq_getElem?_getD] using h2
 · rw [if_neg (by omega)]
   exact .dead _
theorem loB_spec {lo : Nat} {D : Dfs} (hD : D.lo = lo) : ∀ {c : Code}, loB lo c = true → @LoC D c
 | .region _ ops _, h => fun i o ho d hd => by
   simp only [loB, List.all_eq_true] at h
   have := h o (by obtain ⟨h1, h2⟩ := Array.getElem?_eq_some_iff.1 ho; exact h2 ▸ Array.getElem_mem_toList h1)
   rw [hd] at this
   rw [hD]
   simpa using this
 | .seq a b, h => by
   simp only [loB, Bool.and_eq_true] at h
   exact ⟨loB_spec hD h.1, loB_spec hD h.2⟩
 | .cond _ a b, h => by
   simp only [loB, Bool.and_eq_true] at h
   exact ⟨loB_spec hD h.1, loB_spec hD h.2⟩
 | .block _ b, h => by simp only [loB] at h; exact loB_spec (c := b) hD h
 | .loop b, h => by simp only [loB] at h; exact loB_spec (c := b) hD h
 | .skip, _ | .ret, _ | .exit _, _ | .label _, _ | .goto _, _ | .rangeFunc .., _ | .scope _, _ | .refuse _, _ => trivial
theorem offOf_spec {c : Code} {d : Off} (h : offOf c = some d) : c = .seq d.a (.seq (.region d.id d.ops false) d.b) ∧ d.ops.toList = [d.o1, d.o2] ∧ d.o2.guard = none ∧ d.o2.dst = none ∧ ∃ cl, d.o2.op = .defer cl ∧ cl.callee = .value (.tmp d.t) ∧ cl.args.toList = [] := by
 unfold offOf at h
 split at h
 · rename_i a id ops b
   split at h
   · rename_i mk df ho
     split at h
     · rename_i cl h1 h2 h3
       split at h
       · rename_i t h4 h5
         cases h
         exact ⟨rfl, ho, h1, h3, cl, h2, h4, h5⟩
       · cases h
     · cases h
   · cases h
 · cases h
theorem recOf_spec {c : Code} {d : Rec} (h : recOf c = some d) : c = .seq (.region d.id d.ops false) d.b ∧ d.ops.toList = [d.o] ∧ d.o.guard = none ∧ d.o.dst = some d.t ∧ ∃ cl, d.o.op = .call cl ∧ cl.callee = .builtin .recover := by
 unfold recOf at h
 split at h
 · rename_i id ops b
   split at h
   · rename_i o ho
     split at h
     · rename_i cl t h1 h2 h3
       split at h
       · rename_i h4
         cases h
         exact ⟨rfl, ho, h1, h3, cl, h2, h4⟩
       · cases h
     · cases h
   · cases h
 · cases h
theorem foldl_max_le : ∀ (L : List Nat) (m : Nat), m ≤ L.foldl (fun m a => max m (a + 1)) m ∧ ∀ a ∈ L, a < L.foldl (fun m a => max m (a + 1)) m
 | [], m => ⟨Nat.le_refl _, fun a h => by simp at h⟩
 | b :: L, m => by
   obtain ⟨h1, h2⟩ := foldl_max_le L (max m (b + 1))
   rw [List.foldl_cons]
   refine ⟨by omega, fun a ha => ?_⟩
   rcases List.mem_cons.1 ha with e | ha
   · subst e; omega
   · exact h2 a ha
theorem rec_callsD {C : Cl} (hC : CallsOK P C) (hD : DrawAll P C) {n : Nat} {g : FuncId} {gf : Func} {gc : Code} {rc : Rec} (hgf : P.funcs[g]? = some gf) (hgb : gf.body = some gc) (hrc : recOf gc = some rc) (hres : gf.results.toList = [])
   {args args' : List Value} {rv rv' : Value} {H : Hp} {k : Hp → R} {r : Out × Hp} (hle : args.length ≤ gf.ntmps ∧ rc.t < gf.ntmps)
   (h : evCode P C gf.ntmps n rc.b [] ((Fr.args args).p rc.t rv) H pnN (recK k) = some r) {ρ : Ren} {w : World} (hS : Sim P ρ H w) (ha : VL ρ args args') (hv : VR ρ rv rv')
   {u u' : FrameMode} (hu : ∀ c₀ : Frame, c₀.mode = u → ∀ cs, (recoverD (c₀ :: cs) = some (rv', { c₀ with mode := u' } :: cs)) ∨ (recoverD (c₀ :: cs) = none ∧ rv' = .nilIface ∧ u' = u))
   {R : Ending → FrameMode → World → Prop} (hR : ∀ H' ρ' w', k H' = some r → Stp P ρ H w ρ' H' w' → R (.returned (.tuple #[])) u' w') : CallsD P g ⟨args'⟩ u w R := by
 obtain ⟨hgc, hops, hog, hod, cl, hop, hcl⟩ := recOf_spec hrc
 refine callsD_of_wpS hgf hgb fun c₀ cs hmode => ?_
 rw [hgc]
 refine wpS_seq (wpS_region ?_)
 have hsz : rc.ops.size = 1 := by rw [← Array.length_toList, hops]; rfl
 have h0 : rc.ops[0]? = some rc.o := by rw [← Array.getElem?_toList, hops]; rfl
 have hwant : ∀ q, Region.wanted rc.o q = true := fun q => by simp [Region.wanted, hog]
 have hex : ∀ a : Act, (execOp a.eval rc.o).run P w = .ok .recover w := fun a => by
   simp [execOp, hop, resolve, hcl, invoke, builtin]
 have e1 : List.range rc.ops.size = [0] := by rw [hsz]; rfl
 rw [e1]
 simp only [wpOpsS, h0, hwant, if_true, hex]
 letI : Dfs := .no
 have hf0 : FrR ρ gf.ntmps (Fr.args args) { tmps := (⟨args'⟩ : Array Value) ++ Array.replicate (gf.ntmps - (⟨args'⟩ : Array Value).size) undef, defers := [] } := FrR.start ha hle.1
 have hf1 := hf0.put hv (d := some rc.t) (fr' := (Fr.args args).p rc.t rv) (fun _ _ => Nat.zero_le _) (by simp [Fr.po, hle.2])
 have fin : ∀ cs' : List Frame, cs' = { c₀ with mode := u' } :: cs → rc.b.wpS P (bodyPostS P gf c₀ cs R) (({ tmps := (⟨args'⟩ : Array Value) ++ Array.replicate (gf.ntmps - (⟨args'⟩ : Array Value).size) undef, defers := [] } : Act).put (some rc.t) rv') cs' w := by
   intro cs' hcs'
   refine wpS_of_wp (code_wp hC (hD .no) rc.b (LoC.no _) [] _ H pnN _ r h ρ w _ _ hS hf1 (fun e fr' H' h' ρ' a' w' hst hf' => ?_) (fun ch H' h' => by simp [pnN] at h'))
   have fin2 : k H' = some r → a'.defers = [] ∧ ∃ u'', cs' = { c₀ with mode := u'' } :: cs ∧ ∃ v, (results gf a'.tmps).run P w' = .ok v w' ∧ R (.returned v) u'' w' := fun hk =>
     ⟨hf'.df.1, u', hcs', _, run_results_fn (vs' := []) (by rw [hres]; rfl) (fun i x v hx => by rw [hres] at hx; simp at hx), hR H' ρ' w' hk hst⟩
   cases e with
   | normal => exact fin2 h'
   | ret => exact fin2 h'
   | exit j => simp [recK] at h'
 rcases hu c₀ hmode cs with h1 | ⟨h1, rfl, rfl⟩
 · rw [h1]
   simp only [Exit.thenS, hod]
   exact fin _ rfl
 · rw [h1]
   simp only [Exit.thenS, hod]
   exact fin _ (by rw [← hmode])
theorem evOff_rest {C : Cl} (hC : CallsOK P C) (hD : DrawAll P C) {n : Nat} {lv : List (Option An)} {fn : Func} {b : Code} {L : List Nat} (hL : cellsOf fn.results.toList = some L) (hlo : loB (L.foldl (fun m a => max m (a + 1)) 0) b = true)
   {g : FuncId} {gf : Func} {gc : Code} {rc : Rec} (hgf : P.funcs[g]? = some gf) (hname : gf.name ≠ "runtime.NumGoroutine") (hgb : gf.body = some gc) (hrc : recOf gc = some rc) (hres : gf.results.toList = [])
   {first cap first' cap' : List Value} (hle : (first ++ cap).length ≤ gf.ntmps ∧ rc.t < gf.ntmps) {fr : Fr} {H : Hp} {r : Out × Hp}
   (h : ((offR (evCode P C fn.ntmps n b lv fr H pnJ offK)).bind fun p => evCode P C gf.ntmps n rc.b [] ((Fr.args (first ++ cap)).p rc.t p.1) p.2 pnN (recK fun H => evRes P (Fr.of L (L.map fr.g)) H fn.results.toList (retV H))) = some r)
   {ρ0 : Ren} {H0 : Hp} {w0 : World} {ρ : Ren} {w : World} (hst : Stp P ρ0 H0 w0 ρ H w) {a : Act} (hdf : a.defers = [{ target := .fn (.func g) ⟨cap'⟩, args := ⟨first'⟩ }]) (hsz : a.tmps.size = fn.ntmps) (hval : ∀ t, VR ρ (fr.g t) (a.tmps.getD t undef))
   (ha : VL ρ (first ++ cap) (first' ++ cap')) : b.wp P (bodyPostD P fn (EndR P ρ0 H0 w0 r)) a w := by
 letI D2 : Dfs := ⟨a.defers, L.foldl (fun m a => max m (a + 1)) 0, fun t => a.tmps.getD t undef⟩
 have hf : FrR ρ fn.ntmps fr a := ⟨hsz, ⟨rfl, fun _ _ => rfl⟩, hval⟩
 cases hB : evCode P C fn.ntmps n b lv fr H pnJ offK with
 | none => simp [hB, offR] at h
 | some jr =>
   rw [hB] at h
   have leave : ∀ (u u' : FrameMode) (rv rv' : Value) (H1 : Hp) (ρ1 : Ren) (a1 : Act) (w1 : World), u ≠ .run → settle u' = .returning →
       (∀ c₀ : Frame, c₀.mode = u → ∀ cs, (recoverD (c₀ :: cs) = some (rv', { c₀ with mode := u' } :: cs)) ∨ (recoverD (c₀ :: cs) = none ∧ rv' = .nilIface ∧ u' = u)) →
       VR ρ1 rv rv' → Stp P ρ H w ρ1 H1 w1 → DfR a1 →
       evCode P C gf.ntmps n rc.b [] ((Fr.args (first ++ cap)).p rc.t rv) H1 pnN (recK fun H => evRes P (Fr.of L (L.map fr.g)) H fn.results.toList (retV H)) = some r →
       Leaves P fn a1.tmps (EndR P ρ0 H0 w0 r) a1.defers u w1 := by
     intro u u' rv rv' H1 ρ1 a1 w1 hu hset hrec hv hst1 hdf1 h1
     have hd1 : a1.defers = [{ target := .fn (.func g) ⟨cap'⟩, args := ⟨first'⟩ }] := hdf1.1.trans hdf
     rw [hd1]
     have hinv : (invoke (.fn (.func g) ⟨cap'⟩) ⟨first'⟩).run P w1 = .ok (.enter g ⟨first' ++ cap'⟩) w1 := by
       simp [invoke, callFunc, hgf, hname, hgb]
     refine leaves_cons hu hinv (rec_callsD hC hD hgf hgb hrc hres hle h1 hst1.sim (ha.mono hst1.ext) hv hrec fun H' ρ' w' hk hst2 => ?_)
     show Leaves P fn a1.tmps (EndR P ρ0 H0 w0 r) [] (settle u') w'
     rw [hset]
     have hfr : ∀ t, VR ρ' ((Fr.of L (L.map fr.g)).g t) (a1.tmps.getD t undef) := by
       intro t
       unfold Fr.of
       rcases Fr.g_ofI L 0 (L.map fr.g) t with ⟨j, e1, e2⟩ | e2
       · have e3 : (L.map fr.g).getD (0 + j) dead = fr.g t := by simp [List.getD_eq_getElem?_getD, e1]
         rw [e2, e3]
         have hlt : t < D2.lo := (foldl_max_le L 0).2 t (List.mem_of_getElem? e1)
         have e4 : a1.tmps.getD t undef = a.tmps.getD t undef := hdf1.2 t hlt
         rw [e4]
         exact (hval t).mono (Ren.le_trans hst1.ext hst2.ext)
       · rw [e2]
         exact .dead _
     obtain ⟨vs, vs', h3, h4, h5, h6⟩ := evRes_sound hst2.sim hfr _ _ _ hk
     obtain ⟨v, rfl, hv⟩ := retV_sound h4 h3
     exact ⟨_, run_results_fn h5 h6, ρ', (hst.trans hst1).trans hst2, _, rfl, hv⟩
   refine code_wp hC (hD D2) b (loB_spec rfl hlo) lv fr H pnJ offK jr hB ρ w a _ hst.sim hf (fun e fr' H' h' ρ' a' w' hst1 hf' => ?_) (fun ch H' h' ρ' c' a' w' hst1 hc hd => ?_)
   · cases e with
     | exit j => simp [offK] at h'
     | normal =>
       simp only [offK] at h'
       cases h'
       simp only [offR, Option.bind_some] at h
       exact leave .returning .returning .nilIface .nilIface H' ρ' a' w' (by simp) rfl (fun c₀ hc cs => .inr ⟨by simp [recoverD, hc], rfl, rfl⟩) .inil hst1 hf'.df h
     | ret =>
       simp only [offK] at h'
       cases h'
       simp only [offR, Option.bind_some] at h
       exact leave .returning .returning .nilIface .nilIface H' ρ' a' w' (by simp) rfl (fun c₀ hc cs => .inr ⟨by simp [recoverD, hc], rfl, rfl⟩) .inil hst1 hf'.df h
   · simp only [pnJ] at h'
     cases h'
     match ch, h, hc with
     | [x], h, hc =>
       simp only [offR] at h
       split at h
       · rename_i hx
         simp only [Option.bind_some] at h
         obtain ⟨hl, hcc⟩ := hc
         match c', hl with
         | [x'], _ =>
           obtain ⟨h1, h2⟩ := hcc 0 x x' rfl rfl
           have e1 : x'.recovered = false := by rw [h2]; exact hx.1
           have e2 : x'.goexit = false := by rw [h2]; exact hx.2
           refine leave (.panicking [x']) (.panicking [{ v := x'.v, recovered := true }]) x.v x'.v H' ρ' a' w' (by simp) (by simp [settle]) (fun c₀ hc cs => .inl ?_) h1 hst1 hd h
           obtain ⟨v, rec, ge⟩ := x'
           simp only at e1 e2
           subst e1; subst e2
           simp [recoverD, hc]
       · simp at h
     | [], h, hc => simp [offR] at h
     | _ :: _ :: _, h, hc => simp [offR] at h
theorem evOff_calls {C : Cl} (hC : CallsOK P C) (hD : DrawAll P C) {n : Nat} {lv : List (Option An)} {f : FuncId} {fn : Func} (hfn : P.funcs[f]? = some fn) {c : Code} (hb : fn.body = some c) {d : Off} (hd : offOf c = some d) {args : List Value} (hle : args.length ≤ fn.ntmps) {H : Hp} {r : Out × Hp}
   (h : evOff P C n lv fn d args H = some r) {ρ : Ren} {w : World} (hS : Sim P ρ H w) {args' : List Value} (ha : VL ρ args args') : Calls P f ⟨args'⟩ w (EndR P ρ H w r) := by
 obtain ⟨rfl, hops, hdg, hdd, cl, hdo, hcl, hca⟩ := offOf_spec hd
 letI : Dfs := .no
 unfold evOff at h
 cases hL : cellsOf fn.results.toList with
 | none => simp [sb, hL] at h
 | some L =>
   simp only [sb, hL] at h
   cases hlo : loB (L.foldl (fun m a => max m (a + 1)) 0) d.b with
   | false => simp [hlo] at h
   | true =>
     simp only [hlo, cond_true] at h
     refine calls_of_wp_defers hfn hb (wp_seq ?_)
     have hf0 := FrR.start ha hle
     refine code_wp hC (hD .no) d.a (LoC.no _) [] _ H pnN _ r h ρ w _ _ hS hf0 (fun e fr1 H1 h1 ρ1 a1 w1 hst1 hf1 => ?_) (fun ch H' h' => by simp [pnN] at h')
     cases e with
     | exit j => simp [nrmK] at h1
     | ret => simp [nrmK] at h1
     | normal =>
       simp only [nrmK] at h1
       refine wp_seq (wp_region_list ?_)
       rw [hops]
       rw [evOps_cons] at h1
       have hmk := evOne_wp hC (fun _ _ => Nat.zero_le _) h1 hst1.sim hf1 (next := wpList P d.ops (Exit.then (d.b.wp P (bodyPostD P fn (EndR P ρ H w r))) (bodyPostD P fn (EndR P ρ H w r))) [d.o2]) (Q := Exit.then (d.b.wp P (bodyPostD P fn (EndR P ρ H w r))) (bodyPostD P fn (EndR P ρ H w r)))
         (fun fr2 H2 h2 ρ2 a2 w2 hst2 hf2 => ?_) (fun ch H' h' => by simp [pnN] at h')
       · simp only [wpList]
         split at hmk
         · rename_i hw; rw [if_pos hw]; exact .inl hmk
         · rename_i hw; rw [if_neg hw]; exact hmk
       · simp only [evOps] at h2
         have hvt := hf2.val d.t
         split at h2
         · rename_i g first cap hgt
           rw [hgt] at hvt
           generalize hq : a2.tmps.getD d.t undef = q at hvt
           obtain ⟨first⟩ := first
           obtain ⟨cap⟩ := cap
           cases hvt with
           | @func _ _ f' _ c' b1 b2 b3 b4 =>
             cases hgf : P.funcs[g]? with
             | none => simp [hgf] at h2
             | some gf =>
               simp only [hgf] at h2
               cases hnm : (gf.name == "runtime.NumGoroutine" || !gf.results.isEmpty) with
               | true => simp [hnm] at h2
               | false =>
                 simp only [hnm, cond_false] at h2
                 cases hgb : gf.body with
                 | none => simp [hgb] at h2
                 | some gc =>
                   simp only [hgb] at h2
                   cases hrc : recOf gc with
                   | none => simp [hrc] at h2
                   | some rc =>
                     simp only [hrc] at h2
                     split at h2
                     · rename_i hsz
                       simp only [Bool.or_eq_false_iff, beq_eq_false_iff_ne, Bool.not_eq_false', Array.isEmpty_iff] at hnm
                       have hwant : Region.wanted d.o2 (yielded d.ops a2.tmps) = true := by simp [Region.wanted, hdg]
                       have hex : (execOp a2.eval d.o2).run P w2 = .ok (.defer { target := .fn (.func g) ⟨c'⟩, args := ⟨f'⟩ }) w2 := by
                         have hq' : a2.eval (.tmp d.t) = .func (.func g) ⟨f'⟩ ⟨c'⟩ := hq
                         have hca' : cl.args = #[] := by apply Array.ext'; simpa using hca
                         simp [execOp, hdo, resolve, hcl, hca', hq', Deferred.ofValue]
                       simp only [wpList, hwant, if_true]
                       refine .inl ?_
                       unfold Oper.wp
                       rw [hex]
                       simp only [Oper.upon, hdd]
                       refine evOff_rest hC hD hL hlo hgf hnm.1 hgb hrc (by rw [hnm.2]) (first := first) (cap := cap) (first' := f') (cap' := c') (by simpa using hsz) h2 (hst1.trans hst2) ?_ ?_ ?_ ?_
                       · have := hf2.df.1
                         show _ :: a2.defers = _
                         rw [this]; rfl
                       · exact hf2.size
                       · exact hf2.val
                       · exact VL.append ⟨b1, b2⟩ ⟨b3, b4⟩
                     · cases h2
         · cases h2
theorem evFn_calls {C : Cl} (hC : CallsOK P C) (hD : DrawAll P C) {n : Nat} {lv : List (Option An)} {f : FuncId} {fn : Func} (hfn : P.funcs[f]? = some fn) {args : List Value} {H : Hp} {r : Out × Hp}
   (h : evFn P C n lv fn args H = some r) {ρ : Ren} {w : World} (hS : Sim P ρ H w) {args' : List Value} (ha : VL ρ args args') : Calls P f ⟨args'⟩ w (EndR P ρ H w r) := by
 unfold evFn at h
 cases hb : fn.body with
 | none => simp [hb] at h
 | some c =>
   simp only [hb] at h
   split at h
   · rename_i hle
     split at h
     · refine calls_of_wp hfn hb ?_
       letI : Dfs := .no
       have hf := FrR.start ha hle
       refine code_wp hC (hD .no) c (LoC.no c) lv _ H pnK _ r h ρ w _ _ hS hf (fun e fr' H' h' ρ' a' w' hst hf' => ?_) (fun ch H' h' ρ' c' a' w' hst hc hd => ?_)
       · have fin : evRes P fr' H' fn.results.toList (retV H') = some r → a'.defers = [] ∧ ∃ v, (results fn a'.tmps).run P w' = .ok v w' ∧ EndR P ρ H w r (.returned v) w' := by
           intro h2
           obtain ⟨vs, vs', h3, h4, h5, h6⟩ := evRes_sound hst.sim hf'.val _ _ _ h2
           obtain ⟨v, rfl, hv⟩ := retV_sound h4 h3
           exact ⟨hf'.df.1, _, run_results_fn h5 h6, ρ', hst, _, rfl, hv⟩
         cases e with
         | normal => exact fin h'
         | ret => exact fin h'
         | exit j => simp [finK, finR] at h'
       · simp only [pnK] at h'
         cases h'
         exact ⟨hd.1, ρ', hst, c', rfl, hc⟩
     · rename_i d hd
       exact evOff_calls hC hD hfn hb hd hle h hS ha
   · cases h
theorem Sim.closed {ρ : Ren} {H : Hp} {w : World} (h : Sim P ρ H w) : Sim P ρ H.cl w where
 blk := h.blk
 sep := fun i j b' d b'' d' hw _ _ hr _ => by have := (h.low i b' d hr).1; have := hw.1; simp [Hp.cl] at this; omega
 low := h.low
 lim := Nat.le_refl _
 glob := h.glob
 gn := Nat.le_trans h.gn h.lim
 flr := h.flr
 gg := h.gg
 tab := h.tab
theorem quiet_sound {ρ : Ren} {H : Hp} {w : World} (hS : Sim P ρ H w) {r r' : Out × Hp} (hq : quietR H (some r) = some r') {e : Ending} {w' : World} (h : EndR P ρ H.cl w r e w') : EndR P ρ H w r' e w' := by
 obtain ⟨ρ', hst, hout⟩ := h
 have hnone : ∀ i d b, wr H.cl i → ρ i ≠ some (b, d) := fun i d b hw hr => by
   have := (hS.low i b d hr).1; have := hw.1; simp [Hp.cl] at this; omega
 have hkeep : ∀ b, b < w.heap.size → w'.heap[b]? = w.heap[b]? := fun b hb => hst.keep b hb (fun i d hw => hnone i d b hw)
 have hopen : Stp P ρ H w ρ' { r.2 with lim := H.lim } w' := by
   have hn : H.next ≤ r.2.next := hst.next
   have hfix : ∀ i, i < H.next → r.2.get i = H.get i := fun i hi => hst.fix i hi
   have hwr : ∀ i, wr { r.2 with lim := H.lim } i → i < H.next → wr H i := fun i ⟨h1, x, h2, h3⟩ hi => ⟨h1, x, by rw [← hfix i hi]; exact h2, h3⟩
   have hnew : ∀ i b d, H.next ≤ i → ρ' i = some (b, d) → w.heap.size ≤ b := fun i b d hi hr => by
     rcases Nat.lt_or_ge b w.heap.size with hb | hb
     · obtain ⟨j, d', hj, hj'⟩ := hst.own i b d (.inr hi) hr hb
       exact absurd hj' (hnone j d' b hj)
     · exact hb
   refine ⟨⟨hst.sim.blk, ?_, hst.sim.low, Nat.le_trans hS.lim hn, hst.sim.glob, hS.gn, hst.sim.flr, hst.sim.gg, hst.sim.tab⟩, hst.ext, fun b hb _ => hkeep b hb, hst.size, ?_, hst.old, fun i hi => hfix i (Nat.lt_of_lt_of_le hi hS.lim), rfl, hn, hst.tape, hst.os, hst.out⟩
   · intro i j b d b2 d2 hi hj hne hri hrj
     rcases Nat.lt_or_ge i H.next with hi' | hi' <;> rcases Nat.lt_or_ge j H.next with hj' | hj'
     · obtain ⟨y, hy⟩ := hj
       exact hS.sep i j b d b2 d2 (hwr i hi hi') ⟨y, by rw [← hfix j hj']; exact hy⟩ hne (hst.old i _ hri hi') (hst.old j _ hrj hj')
     · have h1 := (hS.low i b d (hst.old i _ hri hi')).2
       have h2 := hnew j b2 d2 hj' hrj
       omega
     · have h1 := (hS.low j b2 d2 (hst.old j _ hrj hj')).2
       have h2 := hnew i b d hi' hri
       omega
     · refine hst.sim.sep i j b d b2 d2 ⟨?_, hi.2⟩ hj hne hri hrj
       rw [hst.lim]; exact hi'
   · intro i b d hw hr hb
     rcases Nat.lt_or_ge i H.next with hi' | hi'
     · rcases hw with hw | hw
       · exact ⟨i, d, hwr i hw hi', hst.old i _ hr hi'⟩
       · omega
     · have := hnew i b d hi' hr; omega
 obtain ⟨out, H'⟩ := r
 cases out with
 | ret v =>
   obtain ⟨v', rfl, hv⟩ := hout
   simp only [quietR] at hq
   split at hq
   · rename_i hfl
     cases hq
     refine ⟨ρ, ⟨⟨fun i x b d hg hr => (hS.blk i x b d hg hr).mono (Ren.le_refl ρ) (hkeep b (hS.low i b d hr).2) rfl, hS.sep, fun i b d hr => ⟨(hS.low i b d hr).1, Nat.lt_of_lt_of_le (hS.low i b d hr).2 hst.size⟩, hS.lim, hS.glob, hS.gn, hS.flr, hS.gg, hS.tab⟩,
       Ren.le_refl ρ, fun b hb _ => hkeep b hb, hst.size, fun i b d hw hr _ => hS.own_refl hw hr, fun _ _ hp _ => hp, fun _ _ => rfl, rfl, Nat.le_refl _, hst.tape, hst.os, hst.out⟩, v', rfl, ?_⟩
     rw [hv.flat_eq hfl]
     exact VR.flatN_refl 4 v hfl
   · cases hq
     exact ⟨ρ', hopen, v', rfl, hv⟩
 | pan c =>
   obtain ⟨c', rfl, hc⟩ := hout
   simp only [quietR] at hq
   cases hq
   exact ⟨ρ', hopen, c', rfl, hc⟩
theorem VL.flat_eq {ρ : Ren} : ∀ {l l' : List Value}, VL ρ l l' → l.all flat = true → l' = l
 | [], _, h, _ => h.inv_nil
 | v :: l, _, h, hf => by
   obtain ⟨v', m, rfl, h1, h2⟩ := h.inv_cons
   simp only [List.all_cons, Bool.and_eq_true] at hf
   rw [h1.flat_eq hf.1, VL.flat_eq h2 hf.2]
theorem VL.all_flat (ρ : Ren) : ∀ {l : List Value}, l.all flat = true → VL ρ l l
 | [], _ => VL.nil
 | v :: l, hf => by
   simp only [List.all_cons, Bool.and_eq_true] at hf
   exact VL.cons (VR.flatN_refl 4 v hf.1) (VL.all_flat ρ hf.2)
def NoWr (H : Hp) : Prop := ∀ i, ¬ wr H i
theorem Sim.addRo {ρ : Ren} {H : Hp} {w : World} (h : Sim P ρ H w) (hn : NoWr H) {b d : Nat} {xs : List Value} (hb : b < w.heap.size) (hB : BlkR ρ w b d (.ro xs)) :
   Sim P (ρ.ad H.next (b, d)) (H.new (.ro xs)) w ∧ NoWr (H.new (.ro xs)) := by
 have hle := h.le_ad (b, d)
 have hno : NoWr (H.new (.ro xs)) := by
   rintro i ⟨h1, x, h2, h3⟩
   by_cases e : i = H.next
   · subst e; simp at h2; subst h2; cases h3
   · exact hn i ⟨h1, x, by simpa [e] using h2, h3⟩
 refine ⟨⟨?_, fun i j b d b2 d2 hw => absurd hw (hno i), ?_, ?_, fun g hg => (h.glob g hg).mono hle, h.gn, fun i hi => ?_, h.gg, h.tab⟩, hno⟩
 · intro i x c e hx hr
   rw [Ren.ad_get] at hr
   split at hr
   · rename_i e2; subst e2; simp at hx; subst hx; cases hr; exact hB.mono hle rfl rfl
   · rename_i e2; simp [e2] at hx; exact (h.blk i x c e hx hr).mono hle rfl rfl
 · intro i c e hr
   rw [Ren.ad_get] at hr
   split at hr
   · rename_i e2; subst e2; cases hr; simp; exact hb
   · have := h.low i c e hr; simp; omega
 · have := h.lim; simp; omega
 · have h1 := h.gn; have h2 := h.lim
   have h3 : i < Tabs.gn := hi
   rw [Hp.get_new, if_neg (by omega)]
   exact h.flr i h3
structure PkR (P : Program) (ρ : Ren) (H : Hp) (w : World) (bl : Pk) (ρ1 : Ren) (H1 : Hp) : Prop where
 sim : Sim P ρ1 H1 w
 nowr : NoWr H1
 next : H1.next = Tabs.gn + bl.length
 old : ∀ i p, ρ1 i = some p → (i < Tabs.gn ∧ ρ i = some p) ∨ ∃ b o xs d, bl[i - Tabs.gn]? = some (b, o, xs) ∧ Tabs.gn ≤ i ∧ ρ b = some (p.1, d) ∧ p.2 = d + o
 sz : ρ1.sz = ρ.sz
theorem flat_cells {ρ : Ren} {cs : List Value} {c : Array Value} {d : Nat} (h : CellsR ρ cs c d) (hf : cs.all flat = true) (ρ1 : Ren) : CellsR ρ1 cs c d := by
 refine ⟨h.1, fun i v hv => ?_⟩
 obtain ⟨v', h1, h2⟩ := h.2 i v hv
 have hfl : flat v = true := List.all_eq_true.1 hf v (List.mem_of_getElem? hv)
 exact ⟨v', h1, by rw [h2.flat_eq hfl]; exact VR.flatN_refl 4 v hfl⟩
theorem CellsR.sub {ρ : Ren} {cs : List Value} {c : Array Value} {d : Nat} (h : CellsR ρ cs c d) (o n : Nat) (ho : o + n ≤ cs.length) : CellsR ρ ((cs.drop o).take n) c (d + o) := by
 refine ⟨by have := h.1; simp; omega, fun i v hv => ?_⟩
 rw [List.getElem?_take] at hv
 split at hv
 · rw [List.getElem?_drop] at hv
   obtain ⟨v', h1, h2⟩ := h.2 (o + i) v hv
   exact ⟨v', by rw [show d + o + i = d + (o + i) by omega]; exact h1, h2⟩
 · cases hv
theorem PkR.start {ρ : Ren} {H : Hp} {w : World} (h : Sim P ρ H w) : PkR P ρ H w [] (ρ.cut Tabs.gn) Hp.fl where
 sim := h.floor
 nowr := by
   rintro i ⟨h1, x, h2, h3⟩
   have h1 : Tabs.gn ≤ i := h1
   have : Nat.blt i Tabs.gn = false := by
     cases hb : Nat.blt i Tabs.gn with
     | false => rfl
     | true => exact absurd (Nat.le_of_ble_eq_true hb) (by omega)
   simp [Hp.fl, Hp.get, Map.get, this] at h2
 next := rfl
 old := fun i p hp => .inl (Ren.cut_some hp)
 sz := rfl
theorem PkR.add {ρ : Ren} {H : Hp} {w : World} {bl : Pk} {ρ1 : Ren} {H1 : Hp} (h : PkR P ρ H w bl ρ1 H1) {b o b' d : Nat} {xs : List Value} (hb : b' < w.heap.size) (hr : ρ b = some (b', d)) (hB : BlkR ρ1 w b' (d + o) (.ro xs)) :
   PkR P ρ H w (bl ++ [(b, o, xs)]) (ρ1.ad H1.next (b', d + o)) (H1.new (.ro xs)) where
 sim := (h.sim.addRo h.nowr hb hB).1
 nowr := (h.sim.addRo h.nowr hb hB).2
 next := by simp [h.next]; omega
 old := fun i p hp => by
   rw [Ren.ad_get] at hp
   split at hp
   · rename_i e
     cases hp
     subst e
     right
     exact ⟨b, o, xs, d, by rw [h.next]; simp, by rw [h.next]; omega, hr, rfl⟩
   · rename_i e
     rcases h.old i p hp with h1 | ⟨b1, o1, x1, d1, h1, h2, h3⟩
     · exact .inl h1
     · right
       refine ⟨b1, o1, x1, d1, ?_, h2, h3⟩
       have := (List.getElem?_eq_some_iff.1 h1).1
       rw [List.getElem?_append_left this]
       exact h1
 sz := h.sz
theorem pkV_sound {ρ : Ren} {H : Hp} {w : World} (hS : Sim P ρ H w) {v v' v1 : Value} (hv : VR ρ v v') {bl bl1 : Pk} (h : pkV H v bl = some (v1, bl1)) {ρ1 : Ren} {H1 : Hp} (hP : PkR P ρ H w bl ρ1 H1) :
   ∃ ρ2 x, bl1 = bl ++ x ∧ ρ1.le ρ2 ∧ PkR P ρ H w bl1 ρ2 (x.foldl (fun H x => H.new (.ro x.2.2)) H1) ∧ VR ρ2 v1 v' := by
 unfold pkV at h
 split at h
 · rename_i hf
   cases h
   refine ⟨ρ1, [], by simp, Ren.le_refl _, by simpa using hP, ?_⟩
   rw [hv.flat_eq hf]
   exact VR.flatN_refl 4 v hf
 · rename_i hnf
   split at h
   · rename_i b o n c
     cases hcc : H.cells b with
     | none => simp only [hcc, Option.bind_none] at h; cases h
     | some cs =>
       simp only [hcc, Option.bind_some] at h
       split at h
       · rename_i hc
         cases h
         cases hv with
         | @slice _ _ b' d _ _ c' hr hcap hz =>
           obtain ⟨c0, e, z, h1, h2, h3⟩ := hS.cellsZ hcc hr
           have hb : b' < w.heap.size := (Array.getElem?_eq_some_iff.1 h1).1
           have hB : BlkR ρ1 w b' (d + o) (.ro ((cs.drop o).take (n * c))) := ⟨c0, e, z, h1, flat_cells (h2.sub o (n * c) hc.1) hc.2 ρ1, by rw [hP.sz]; exact h3⟩
           refine ⟨_, [(b, o, (cs.drop o).take (n * c))], rfl, hP.sim.le_ad _, hP.add hb hr hB, ?_⟩
           have h4 : (ρ1.ad H1.next (b', d + o)) (Tabs.gn + bl.length) = some (b', d + o) := by rw [← hP.next]; simp [Ren.ad]
           have := VR.slice (ρ := ρ1.ad H1.next (b', d + o)) (o := 0) (n := n) (c := c) (c' := c') h4 hcap (by show 0 + (d + o) + c' * c ≤ ρ1.sz b'; rw [hP.sz]; omega)
           rwa [show 0 + (d + o) = o + d by omega] at this
         | @sl0 _ _ b' o' d _ hr =>
           obtain ⟨c0, e, z, h1, h2, h3⟩ := hS.cellsZ hcc hr
           have hb : b' < w.heap.size := (Array.getElem?_eq_some_iff.1 h1).1
           have hB : BlkR ρ1 w b' (d + o) (.ro ((cs.drop o).take (0 * c))) := ⟨c0, e, z, h1, flat_cells (h2.sub o (0 * c) hc.1) hc.2 ρ1, by rw [hP.sz]; exact h3⟩
           refine ⟨_, [(b, o, (cs.drop o).take (0 * c))], rfl, hP.sim.le_ad _, hP.add hb hr hB, ?_⟩
           have h4 : (ρ1.ad H1.next (b', d + o)) (Tabs.gn + bl.length) = some (b', d + o) := by rw [← hP.next]; simp [Ren.ad]
           exact .sl0 h4
       · cases h
   · rename_i b o
     cases hcc : H.cells b with
     | none => simp only [hcc, Option.bind_none] at h; cases h
     | some cs =>
       simp only [hcc, Option.bind_some] at h
       split at h
       · rename_i hc
         cases h
         cases hv with
         | @ptr _ _ b' d hr =>
           obtain ⟨c0, e, z, h1, h2, h3⟩ := hS.cellsZ hcc hr
           have hb : b' < w.heap.size := (Array.getElem?_eq_some_iff.1 h1).1
           have hsub := h2.sub o (cs.length - o) (by omega)
           rw [List.take_of_length_le (by simp)] at hsub
           have hB : BlkR ρ1 w b' (d + o) (.ro (cs.drop o)) := ⟨c0, e, z, h1, flat_cells hsub hc.2 ρ1, by rw [hP.sz]; exact h3⟩
           refine ⟨_, [(b, o, cs.drop o)], rfl, hP.sim.le_ad _, hP.add hb hr hB, ?_⟩
           have h4 : (ρ1.ad H1.next (b', d + o)) (Tabs.gn + bl.length) = some (b', d + o) := by rw [← hP.next]; simp [Ren.ad]
           have := VR.ptr (ρ := ρ1.ad H1.next (b', d + o)) (o := 0) h4
           rwa [show 0 + (d + o) = o + d by omega] at this
       · cases h
   · cases h
theorem pkA_sound {ρ : Ren} {H : Hp} {w : World} (hS : Sim P ρ H w) : ∀ (vs vs' vs1 : List Value) (bl bl1 : Pk), VL ρ vs vs' → pkA H vs bl = some (vs1, bl1) → ∀ (ρ1 : Ren) (H1 : Hp), PkR P ρ H w bl ρ1 H1 →
   ∃ ρ2 x, bl1 = bl ++ x ∧ ρ1.le ρ2 ∧ PkR P ρ H w bl1 ρ2 (x.foldl (fun H x => H.new (.ro x.2.2)) H1) ∧ VL ρ2 vs1 vs'
 | [], vs', vs1, bl, bl1, hv, h, ρ1, H1, hP => by
   rw [hv.inv_nil]
   simp [pkA] at h
   obtain ⟨rfl, rfl⟩ := h
   exact ⟨ρ1, [], by simp, Ren.le_refl _, by simpa using hP, VL.nil⟩
 | v :: vs, vs', vs1, bl, bl1, hv, h, ρ1, H1, hP => by
   obtain ⟨v', m, rfl, hv1, hv2⟩ := hv.inv_cons
   simp only [pkA] at h
   cases h1 : pkV H v bl with
   | none => simp [h1] at h
   | some p =>
     obtain ⟨w1, bl2⟩ := p
     simp only [h1, Option.bind_some] at h
     cases h2 : pkA H vs bl2 with
     | none => simp [h2] at h
     | some q =>
       obtain ⟨w2, bl3⟩ := q
       simp only [h2, Option.map_some, Option.some.injEq, Prod.mk.injEq] at h
       obtain ⟨rfl, rfl⟩ := h
       obtain ⟨ρ2, x, e1, e2, e3, e4⟩ := pkV_sound hS hv1 h1 hP
       obtain ⟨ρ3, y, f1, f2, f3, f4⟩ := pkA_sound hS vs m w2 bl2 bl3 hv2 h2 ρ2 _ e3
       exact ⟨ρ3, x ++ y, by rw [f1, e1, List.append_assoc], Ren.le_trans e2 f2, by rw [List.foldl_append]; exact f3, VL.cons (e4.mono f2) f4⟩
def Ren.upAt (ρ : Ren) (i : Nat) (p : Nat × Nat) (n : Nat) : Ren := ⟨fun j => if j = i then some p else ρ j, fun b => if b = p.1 then n else ρ.sz b⟩
theorem Ren.upAt_get (ρ : Ren) (i : Nat) (p : Nat × Nat) (n j : Nat) : (ρ.upAt i p n) j = if j = i then some p else ρ j := rfl
structure MvR (P : Program) (ρ : Ren) (H : Hp) (w : World) (ρ1 : Ren) (Hs : Hp) (w' : World) (s : Hp × List Nat) (ρ2 : Ren) : Prop where
 stp : Stp P ρ H w ρ2 s.1 w'
 used : ∀ i b d, ρ2 i = some (b, d) → b < w.heap.size ∨ ∃ m ∈ s.2, ∃ d', ρ1 m = some (b, d') ∧ ∃ y, Hs.get m = some y
section
variable {ρ ρ1 : Ren} {H Hs : Hp} {w w' : World} {bl : Pk}
structure Own (P : Program) (ρ : Ren) (w : World) (bl : Pk) (ρ1 : Ren) (Hs : Hp) (w' : World) : Prop where
 sim : Sim P ρ1 Hs w'
 lim : Hs.lim = Tabs.gn + bl.length
 fl : ∀ i p, i < Tabs.gn → ρ1 i = some p → ρ i = some p
 arg : ∀ i p b o xs, bl[i - Tabs.gn]? = some (b, o, xs) → Tabs.gn ≤ i → ρ1 i = some p → ∃ d, ρ b = some (p.1, d) ∧ p.2 = d + o
 new : ∀ i b d, Tabs.gn + bl.length ≤ i → ρ1 i = some (b, d) → w.heap.size ≤ b
 sz : ∀ i p, i < Tabs.gn + bl.length → ρ1 i = some p → ρ1.sz p.1 = ρ.sz p.1
theorem mvL_sound {f : Value → Hp × List Nat → Option (Value × (Hp × List Nat))}
   (hf : ∀ v v' u s s2 ρ2, VR ρ1 v v' → f v s = some (u, s2) → MvR P ρ H w ρ1 Hs w' s ρ2 → ∃ ρ3, MvR P ρ H w ρ1 Hs w' s2 ρ3 ∧ ρ2.le ρ3 ∧ VR ρ3 u v') :
   ∀ (vs vs' us : List Value) (s s2 : Hp × List Nat) (ρ2 : Ren), VL ρ1 vs vs' → mvL f vs s = some (us, s2) → MvR P ρ H w ρ1 Hs w' s ρ2 → ∃ ρ3, MvR P ρ H w ρ1 Hs w' s2 ρ3 ∧ ρ2.le ρ3 ∧ VL ρ3 us vs'
 | [], vs', us, s, s2, ρ2, hv, h, hM => by
   rw [hv.inv_nil]
   simp [mvL] at h
   obtain ⟨rfl, rfl⟩ := h
   exact ⟨ρ2, hM, Ren.le_refl _, VL.nil⟩
 | v :: vs, vs', us, s, s2, ρ2, hv, h, hM => by
   obtain ⟨v', m, rfl, h1, h2⟩ := hv.inv_cons
   simp only [mvL] at h
   cases e1 : f v s with
   | none => simp [e1] at h
   | some p =>
     obtain ⟨u, s1⟩ := p
     simp only [e1, Option.bind_some] at h
     cases e2 : mvL f vs s1 with
     | none => simp [e2] at h
     | some q =>
       obtain ⟨us1, s3⟩ := q
       simp only [e2, Option.map_some, Option.some.injEq, Prod.mk.injEq] at h
       obtain ⟨rfl, rfl⟩ := h
       obtain ⟨ρ3, a1, a2, a3⟩ := hf v v' u s s1 ρ2 h1 e1 hM
       obtain ⟨ρ4, b1, b2, b3⟩ := mvL_sound hf vs m us1 s1 s3 ρ3 h2 e2 a1
       exact ⟨ρ4, b1, Ren.le_trans a2 b2, VL.cons (a3.mono b2) b3⟩
theorem mvA_sound {f : Value → Hp × List Nat → Option (Value × (Hp × List Nat))} (hO : Own P ρ w bl ρ1 Hs w')
   (hf : ∀ v v' u s s2 ρ2, VR ρ1 v v' → f v s = some (u, s2) → MvR P ρ H w ρ1 Hs w' s ρ2 → ∃ ρ3, MvR P ρ H w ρ1 Hs w' s2 ρ3 ∧ ρ2.le ρ3 ∧ VR ρ3 u v')
   {b o b' d : Nat} (hr : ρ1 b = some (b', d)) {s s2 : Hp × List Nat} {a : Addr} {ρ2 : Ren} (h : mvA f bl Hs b o s = some (a, s2)) (hM : MvR P ρ H w ρ1 Hs w' s ρ2) :
   ∃ ρ3 b2 o2 d2, MvR P ρ H w ρ1 Hs w' s2 ρ3 ∧ ρ2.le ρ3 ∧ a = ⟨b2, o2, none⟩ ∧ ρ3 b2 = some (b', d2) ∧ o2 + d2 = o + d ∧ ρ3.sz b' = ρ1.sz b' := by
 unfold mvA at h
 have hext := hM.stp.ext
 split at h
 · rename_i hlt
   cases h
   have h1 := hO.fl b _ hlt hr
   exact ⟨ρ2, b, o, d, hM, Ren.le_refl _, rfl, hext _ _ h1, rfl, (hext.sz _ _ h1).trans (hO.sz b _ (by omega) hr).symm⟩
 · rename_i hge
   split at h
   · rename_i b0 o0 xs hb
     cases h
     obtain ⟨d0, h1, h2⟩ := hO.arg b _ b0 o0 xs hb (by omega) hr
     simp only at h2
     have hi := (List.getElem?_eq_some_iff.1 hb).1
     exact ⟨ρ2, b0, o0 + o, d0, hM, Ren.le_refl _, rfl, hext _ _ h1, by omega, (hext.sz _ _ h1).trans (hO.sz b _ (by omega) hr).symm⟩
   · rename_i hnone
     have hi : bl.length ≤ b - Tabs.gn := by simpa using hnone
     split at h
     · rename_i cs hg
       cases e1 : mvL f cs s with
       | none => simp [e1] at h
       | some q =>
         obtain ⟨cs2, s1⟩ := q
         simp only [e1, Option.bind_some] at h
         split at h
         · cases h
         · rename_i hnc
           cases h
           obtain ⟨c0, e0, z0, h1, h2, h3, h4⟩ := hO.sim.blk b _ b' d hg hr
           have hb : b' < w'.heap.size := (Array.getElem?_eq_some_iff.1 h1).1
           have hnew : w.heap.size ≤ b' := hO.new b b' d (by omega) hr
           obtain ⟨vs', hvs⟩ : ∃ vs', VL ρ1 cs vs' ∧ ∀ (i : Nat) v, vs'[i]? = some v → c0[d + i]? = some v := by
             refine ⟨(c0.toList.drop d).take cs.length, VL.of_get (by have := h2.1; simp; omega) fun i u u' hu hu' => ?_, fun i v hv => ?_⟩
             · obtain ⟨v', a1, a2⟩ := h2.2 i u hu
               rw [List.getElem?_take] at hu'
               split at hu'
               · rw [List.getElem?_drop, Array.getElem?_toList, a1] at hu'; cases hu'; exact a2
               · cases hu'
             · rw [List.getElem?_take] at hv
               split at hv
               · simpa using hv
               · cases hv
           obtain ⟨ρ3, a1, a2, a3⟩ := mvL_sound (P := P) hf cs vs' cs2 s s1 ρ2 hvs.1 e1 hM
           have hun : ∀ i p, ρ3 i = some p → p.1 ≠ b' := by
             intro i p hp e
             obtain ⟨pb, pd⟩ := p
             simp only at e
             subst e
             rcases a1.used i pb pd hp with h5 | ⟨m, hm, d', h5, hlive⟩
             · omega
             · have hmb : m ≠ b := by
                 rintro rfl
                 exact hnc (by simpa using hm)
               have hwr : wr Hs b := ⟨by rw [hO.lim]; omega, _, hg, rfl⟩
               exact hO.sim.sep b m pb d pb d' hwr hlive (Ne.symm hmb) hr h5 rfl
           have hS3 := a1.stp.sim
           have hle : ρ3.le (ρ3.upAt s1.1.next (b', d) (ρ1.sz b')) := ⟨fun i p hp => by
             rw [Ren.upAt_get]
             split
             · rename_i e; subst e; rw [hS3.none (Nat.le_refl _)] at hp; cases hp
             · exact hp, fun i p hp => by
             simp only [Ren.upAt]
             rw [if_neg (hun i p hp)]⟩
           have hszb : (ρ3.upAt s1.1.next (b', d) (ρ1.sz b')).sz b' = ρ1.sz b' := by simp [Ren.upAt]
           have hB : BlkR (ρ3.upAt s1.1.next (b', d) (ρ1.sz b')) w' b' d (.rw cs2) := by
             refine ⟨c0, e0, z0, h1, ⟨?_, fun i v hv => ?_⟩, h3, by rw [hszb]; exact h4⟩
             · have e3 := a3.1; have e4 := hvs.1.1; have := h2.1; omega
             · obtain ⟨v', e3, e4⟩ := a3.get hv
               exact ⟨v', hvs.2 i v' e3, e4.mono hle⟩
           have hnx : H.next ≤ s1.1.next := a1.stp.next
           have hstp : Stp P ρ H w (ρ3.upAt s1.1.next (b', d) (ρ1.sz b')) (s1.1.new (.rw cs2)) w' := by
             have hwr' : ∀ {i}, i ≠ s1.1.next → wr (s1.1.new (.rw cs2)) i → wr s1.1 i := fun {i} hi hw => wr_new hw hi
             refine ⟨⟨?_, ?_, ?_, ?_, fun g hg => (hS3.glob g hg).mono hle, hS3.gn, fun i hi => ?_, hS3.gg, hS3.tab⟩, Ren.le_trans a1.stp.ext hle, a1.stp.keep, a1.stp.size, ?_, ?_, fun i hi => ?_, a1.stp.lim, by simp; omega, a1.stp.tape, a1.stp.os, a1.stp.out⟩
             · intro i y c e hy hri
               rw [Ren.upAt_get] at hri
               split at hri
               · rename_i e5; subst e5; simp at hy; subst hy; cases hri; exact hB
               · rename_i e5; simp [e5] at hy; exact (hS3.blk i y c e hy hri).mono hle rfl (hle.sz i _ hri)
             · intro i j c e c2 e2 hi hj hne hri hrj
               rw [Ren.upAt_get] at hri hrj
               split at hri <;> split at hrj
               · omega
               · cases hri; exact (hun j _ hrj).symm
               · cases hrj; exact hun i _ hri
               · rename_i e5 e6
                 obtain ⟨y, hy⟩ := hj
                 exact hS3.sep i j c e c2 e2 (hwr' e5 hi) ⟨y, by simpa [e6] using hy⟩ hne hri hrj
             · intro i c e hri
               rw [Ren.upAt_get] at hri
               split at hri
               · rename_i e5; subst e5; cases hri; simp; exact hb
               · have := hS3.low i c e hri; simp; omega
             · have := hS3.lim; simp; omega
             · have e5 : i < Tabs.gn := hi
               have e6 := hS3.gn; have e7 := hS3.lim
               rw [Hp.get_new, if_neg (by omega)]
               exact hS3.flr i e5
             · intro i c e hw hri hlt
               rw [Ren.upAt_get] at hri
               split at hri
               · cases hri; omega
               · rename_i e5
                 exact a1.stp.own i c e (hw.imp (hwr' e5) id) hri hlt
             · intro i p hp hi
               rw [Ren.upAt_get, if_neg (by omega)] at hp
               exact a1.stp.old i p hp hi
             · have e5 := hS3.lim
               have e6 := a1.stp.lim
               rw [Hp.get_new, if_neg (by omega)]
               exact a1.stp.fix i hi
           refine ⟨_, s1.1.next, o, d, ⟨hstp, fun i c e hri => ?_⟩, Ren.le_trans a2 hle, rfl, by rw [Ren.upAt_get, if_pos rfl], rfl, hszb⟩
           rw [Ren.upAt_get] at hri
           split at hri
           · cases hri
             exact .inr ⟨b, by simp, d, hr, _, hg⟩
           · rcases a1.used i c e hri with h5 | ⟨m, hm, h5⟩
             · exact .inl h5
             · exact .inr ⟨m, by simp [hm], h5⟩
     · cases h
theorem mvV_sound (hO : Own P ρ w bl ρ1 Hs w') : ∀ (n : Nat) (v v' u : Value) (s s2 : Hp × List Nat) (ρ2 : Ren), VR ρ1 v v' → mvV bl Hs n v s = some (u, s2) → MvR P ρ H w ρ1 Hs w' s ρ2 → ∃ ρ3, MvR P ρ H w ρ1 Hs w' s2 ρ3 ∧ ρ2.le ρ3 ∧ VR ρ3 u v'
 | 0, v, v', u, s, s2, ρ2, hv, h, hM => by
   simp only [mvV] at h
   split at h
   · rename_i hf
     cases h
     exact ⟨ρ2, hM, Ren.le_refl _, by rw [hv.flat_eq hf]; exact VR.flatN_refl 4 v hf⟩
   · cases h
 | n + 1, v, v', u, s, s2, ρ2, hv, h, hM => by
   have ih := mvV_sound hO n
   have ihL := fun vs vs' us s s2 ρ2 => mvL_sound (P := P) (ρ := ρ) (H := H) (w := w) (Hs := Hs) (w' := w') (ρ1 := ρ1) (f := mvV bl Hs n) ih vs vs' us s s2 ρ2
   simp only [mvV] at h
   split at h
   · rename_i hf
     cases h
     exact ⟨ρ2, hM, Ren.le_refl _, by rw [hv.flat_eq hf]; exact VR.flatN_refl 4 v hf⟩
   · rename_i hnf
     cases hv with
     | @slice b o b' d m c c' hr hcap hz =>
       simp only at h
       cases h1 : mvA (mvV bl Hs n) bl Hs b o s with
       | none => simp [h1] at h
       | some q =>
         obtain ⟨a, s1⟩ := q
         simp only [h1, Option.map_some, Option.some.injEq, Prod.mk.injEq] at h
         obtain ⟨rfl, rfl⟩ := h
         obtain ⟨ρ3, b2, o2, d2, a1, a2, rfl, a4, a5, a6⟩ := mvA_sound hO ih hr h1 hM
         refine ⟨ρ3, a1, a2, ?_⟩
         have := VR.slice (o := o2) (n := m) (c := c) (c' := c') a4 hcap (by rw [a6]; omega)
         rwa [a5] at this
     | @ptr b o b' d hr =>
       simp only at h
       cases h1 : mvA (mvV bl Hs n) bl Hs b o s with
       | none => simp [h1] at h
       | some q =>
         obtain ⟨a, s1⟩ := q
         simp only [h1, Option.map_some, Option.some.injEq, Prod.mk.injEq] at h
         obtain ⟨rfl, rfl⟩ := h
         obtain ⟨ρ3, b2, o2, d2, a1, a2, rfl, a4, a5, a6⟩ := mvA_sound hO ih hr h1 hM
         refine ⟨ρ3, a1, a2, ?_⟩
         have := VR.ptr (o := o2) a4
         rwa [a5] at this
     | @sl0 b o b' o' d c hr =>
       simp only at h
       cases h1 : mvA (mvV bl Hs n) bl Hs b o s with
       | none => simp [h1] at h
       | some q =>
         obtain ⟨a, s1⟩ := q
         simp only [h1, Option.map_some, Option.some.injEq, Prod.mk.injEq] at h
         obtain ⟨rfl, rfl⟩ := h
         obtain ⟨ρ3, b2, o2, d2, a1, a2, rfl, a4, a5, a6⟩ := mvA_sound hO ih hr h1 hM
         exact ⟨ρ3, a1, a2, .sl0 a4⟩
     | @iface t x x' hx =>
       simp only at h
       cases h1 : mvV bl Hs n x s with
       | none => simp [h1] at h
       | some q =>
         obtain ⟨y, s1⟩ := q
         simp only [h1, Option.map_some, Option.some.injEq, Prod.mk.injEq] at h
         obtain ⟨rfl, rfl⟩ := h
         obtain ⟨ρ3, a1, a2, a3⟩ := ih x x' y s s1 ρ2 hx h1 hM
         exact ⟨ρ3, a1, a2, .iface a3⟩
     | @agg l l' hs hl =>
       simp only at h
       cases h1 : mvL (mvV bl Hs n) l s with
       | none => simp [h1] at h
       | some q =>
         obtain ⟨y, s1⟩ := q
         simp only [h1, Option.map_some, Option.some.injEq, Prod.mk.injEq] at h
         obtain ⟨rfl, rfl⟩ := h
         obtain ⟨ρ3, a1, a2, a3⟩ := ihL l l' y s s1 ρ2 ⟨hs, hl⟩ h1 hM
         exact ⟨ρ3, a1, a2, .agg a3.1 a3.2⟩
     | @tuple l l' hs hl =>
       simp only at h
       cases h1 : mvL (mvV bl Hs n) l s with
       | none => simp [h1] at h
       | some q =>
         obtain ⟨y, s1⟩ := q
         simp only [h1, Option.map_some, Option.some.injEq, Prod.mk.injEq] at h
         obtain ⟨rfl, rfl⟩ := h
         obtain ⟨ρ3, a1, a2, a3⟩ := ihL l l' y s s1 ρ2 ⟨hs, hl⟩ h1 hM
         exact ⟨ρ3, a1, a2, .tuple a3.1 a3.2⟩
     | @func fn x x' y y' b1 b2 b3 b4 =>
       simp only at h
       cases h1 : mvL (mvV bl Hs n) x s with
       | none => simp [h1] at h
       | some q =>
         obtain ⟨u1, s1⟩ := q
         simp only [h1, Option.bind_some] at h
         cases h2 : mvL (mvV bl Hs n) y s1 with
         | none => simp [h2] at h
         | some q =>
           obtain ⟨u2, s3⟩ := q
           simp only [h2, Option.map_some, Option.some.injEq, Prod.mk.injEq] at h
           obtain ⟨rfl, rfl⟩ := h
           obtain ⟨ρ3, a1, a2, a3⟩ := ihL x x' u1 s s1 ρ2 ⟨b1, b2⟩ h1 hM
           obtain ⟨ρ4, c1, c2, c3⟩ := ihL y y' u2 s1 s3 ρ3 ⟨b3, b4⟩ h2 a1
           exact ⟨ρ4, c1, Ren.le_trans a2 c2, .func (a3.mono c2).1 (a3.mono c2).2 c3.1 c3.2⟩
     | _ => first | (simp [Ev.dead] at h; done) | (exact absurd rfl hnf)
end
def ExtOK (P : Program) (ext : FuncId → List Value → Option Value) : Prop := ∀ f args v, ext f args = some v →
 args.all flat = true ∧ (∃ fn, P.funcs[f]? = some fn ∧ fn.name ≠ "runtime.NumGoroutine" ∧ fn.body.isSome = true) ∧
 ∀ w, (∃ ρ H, Sim P ρ H w) → Calls P f ⟨args⟩ w fun e w' => (∃ v', e = .returned v' ∧ ∀ ρ, VR ρ v v') ∧ (∀ b, b < w.heap.size → w'.heap[b]? = w.heap[b]?) ∧ w.heap.size ≤ w'.heap.size ∧ w'.tape = w.tape ∧ w'.os = w.os ∧ w'.output = w.output
def ExhOK (P : Program) (exh : FuncId → List Value → Hp → Option (Out × Hp)) : Prop := CallsOK P exh
theorem mov_sound {C : Cl} (hC : CallsOK P C) (hD : DrawAll P C) {f : FuncId} {fn : Func} (hfn : P.funcs[f]? = some fn) {n : Nat} {lv : List (Option An)} {args args1 : List Value} {H : Hp} {bl : Pk} {r1 r : Out × Hp}
   (hp : pkA H args [] = some (args1, bl)) (he : evFn P C n lv fn args1 (Hp.pk bl) = some r1) (hm : movR bl H (some r1) = some r) {ρ : Ren} {w : World} (hS : Sim P ρ H w) {args' : List Value} (ha : VL ρ args args') :
   Calls P f ⟨args'⟩ w (EndR P ρ H w r) := by
 obtain ⟨ρ0, x, e1, e2, hP, hv⟩ := pkA_sound hS args args' args1 [] bl ha hp _ _ (PkR.start hS)
 simp only [List.nil_append] at e1
 subst e1
 have hS0 : Sim P ρ0 (Hp.pk bl) w := hP.sim.closed
 have hnx : (Hp.pk bl).next = Tabs.gn + bl.length := hP.next
 have hlm : (Hp.pk bl).lim = Tabs.gn + bl.length := hP.next
 refine (evFn_calls hC hD hfn he hS0 hv).mono ?_
 rintro e w' ⟨ρ1, hst, hout⟩
 have hnone : ∀ i d b, wr (Hp.pk bl) i → ρ0 i ≠ some (b, d) := fun i d b hw hr => by
   have h1 := (hS0.low i b d hr).1
   have h2 := hw.1
   rw [hnx] at h1
   rw [hlm] at h2
   omega
 have hkeep : ∀ b, b < w.heap.size → w'.heap[b]? = w.heap[b]? := fun b hb => hst.keep b hb (fun i d hw => hnone i d b hw)
 have hO : Own P ρ w bl ρ1 r1.2 w' := by
   have hold : ∀ i p, i < Tabs.gn + bl.length → ρ1 i = some p → ρ0 i = some p := fun i p hi hp => hst.old i p hp (by rw [hnx]; exact hi)
   refine ⟨hst.sim, hst.lim.trans hlm, fun i p hi hp => ?_, fun i p b o xs hb hi hp => ?_, fun i b d hi hr => ?_, fun i p hi hp => ?_⟩
   · rcases hP.old i p (hold i p (by omega) hp) with h1 | ⟨b, o, xs, d, h1, h2, h3⟩
     · exact h1.2
     · omega
   · have hi2 := (List.getElem?_eq_some_iff.1 hb).1
     rcases hP.old i p (hold i p (by omega) hp) with h1 | ⟨b1, o1, xs1, d, h1, h2, h3, h4⟩
     · omega
     · rw [hb] at h1
       cases h1
       exact ⟨d, h3, h4⟩
   · rcases Nat.lt_or_ge b w.heap.size with hb | hb
     · obtain ⟨j, d', hj, hj'⟩ := hst.own i b d (.inr (by rw [hnx]; exact hi)) hr hb
       exact absurd hj' (hnone j d' b hj)
     · exact hb
   · have h1 := hold i p hi hp
     exact (hst.ext.sz i p h1).trans (by rw [hP.sz])
 have hM : MvR P ρ H w ρ1 r1.2 w' (H, []) ρ := by
   refine ⟨⟨⟨fun i x b d hg hr => (hS.blk i x b d hg hr).mono (Ren.le_refl ρ) (hkeep b (hS.low i b d hr).2) rfl, hS.sep, fun i b d hr => ⟨(hS.low i b d hr).1, Nat.lt_of_lt_of_le (hS.low i b d hr).2 hst.size⟩, hS.lim, hS.glob, hS.gn, hS.flr, hS.gg, hS.tab⟩,
       Ren.le_refl ρ, fun b hb _ => hkeep b hb, hst.size, fun i b d hw hr _ => hS.own_refl hw hr, fun _ _ hp _ => hp, fun _ _ => rfl, rfl, Nat.le_refl _, hst.tape, hst.os, hst.out⟩, fun i b d hr => .inl (hS.low i b d hr).2⟩
 obtain ⟨out, Hs⟩ := r1
 cases out with
 | ret v =>
   obtain ⟨v', rfl, hvr⟩ := hout
   simp only [movR] at hm
   cases h1 : mvV bl Hs 6 v (H, []) with
   | none => simp [h1] at hm
   | some q =>
     obtain ⟨u, s⟩ := q
     simp only [h1, Option.map_some, Option.some.injEq] at hm
     subst hm
     obtain ⟨ρ3, a1, a2, a3⟩ := mvV_sound hO 6 v v' u (H, []) s ρ hvr h1 hM
     exact ⟨ρ3, a1.stp, v', rfl, a3⟩
 | pan c =>
   obtain ⟨c', rfl, hcr⟩ := hout
   simp only [movR] at hm
   cases h1 : mvC (mvV bl Hs 6) c (H, []) with
   | none => simp [h1] at hm
   | some q =>
     obtain ⟨u, s⟩ := q
     simp only [h1, Option.map_some, Option.some.injEq] at hm
     subst hm
     have go : ∀ (c c' u : List PanicEntry) (s s2 : Hp × List Nat) (ρ2 : Ren), ChR ρ1 c c' → mvC (mvV bl Hs 6) c s = some (u, s2) → MvR P ρ H w ρ1 Hs w' s ρ2 → ∃ ρ3, MvR P ρ H w ρ1 Hs w' s2 ρ3 ∧ ρ2.le ρ3 ∧ ChR ρ3 u c' := by
       intro c
       induction c with
       | nil =>
         intro c' u s s2 ρ2 hc h hM
         have : c' = [] := List.eq_nil_of_length_eq_zero (by have := hc.1; simpa using this.symm)
         subst this
         simp [mvC] at h
         obtain ⟨rfl, rfl⟩ := h
         exact ⟨ρ2, hM, Ren.le_refl _, rfl, fun i x x' hx => by simp at hx⟩
       | cons y ys ih =>
         intro c' u s s2 ρ2 hc h hM
         cases c' with
         | nil => have := hc.1; simp at this
         | cons y' ys' =>
           obtain ⟨b1, b2⟩ := hc.2 0 y y' rfl rfl
           simp only [mvC] at h
           cases h1 : mvV bl Hs 6 y.v s with
           | none => simp [h1] at h
           | some q =>
             obtain ⟨v1, s1⟩ := q
             simp only [h1, Option.bind_some] at h
             cases h2 : mvC (mvV bl Hs 6) ys s1 with
             | none => simp [h2] at h
             | some q =>
               obtain ⟨u1, s3⟩ := q
               simp only [h2, Option.map_some, Option.some.injEq, Prod.mk.injEq] at h
               obtain ⟨rfl, rfl⟩ := h
               obtain ⟨ρ3, c1, c2, c3⟩ := mvV_sound hO 6 y.v y'.v v1 s s1 ρ2 b1 h1 hM
               obtain ⟨ρ4, d1, d2, d3⟩ := ih ys' u1 s1 s3 ρ3 ⟨by have := hc.1; simpa using this, fun i x x' hx hx' => hc.2 (i + 1) x x' (by simpa using hx) (by simpa using hx')⟩ h2 c1
               refine ⟨ρ4, d1, Ren.le_trans c2 d2, by simp [d3.1], fun i x x' hx hx' => ?_⟩
               cases i with
               | zero =>
                 simp at hx hx'
                 subst hx; subst hx'
                 refine ⟨c3.mono d2, ?_⟩
                 rw [b2]
               | succ i => exact d3.2 i x x' (by simpa using hx) (by simpa using hx')
     obtain ⟨ρ3, a1, a2, a3⟩ := go c c' u (H, []) s ρ hcr h1 hM
     exact ⟨ρ3, a1.stp, c', rfl, a3⟩
theorem evCall_ok {cf : Cfg} (hE : ExtOK cf.P cf.ext) (hX : ExhOK cf.P cf.exh) (hN : ∀ (f : FuncId) (fn : Func), cf.P.funcs[f]? = some fn → fn.name ≠ "runtime.NumGoroutine") (hD : ∀ n, CallsOK cf.P (evCall cf n) → DrawAll cf.P (evCall cf n)) :
   ∀ n, CallsOK cf.P (evCall cf n)
 | 0 => fun f args H r h => by simp [evCall] at h
 | n + 1 => by
   have ih := evCall_ok hE hX hN hD n
   intro f args H r h
   simp only [evCall] at h
   split at h
   · rename_i v hv
     cases h
     obtain ⟨h1, h3, h4⟩ := hE f args v hv
     refine ⟨h3, fun ρ w args' hS ha => ?_⟩
     rw [ha.flat_eq h1]
     refine (h4 w ⟨ρ, H, hS⟩).mono fun e w' ⟨⟨v', he, hvr⟩, hk, hs, ht, ho, hu⟩ => ?_
     exact ⟨ρ, ⟨⟨fun i x b d hg hr => (hS.blk i x b d hg hr).mono (Ren.le_refl ρ) (hk b (hS.low i b d hr).2) rfl, hS.sep, fun i b d hr => ⟨(hS.low i b d hr).1, Nat.lt_of_lt_of_le (hS.low i b d hr).2 hs⟩, hS.lim, hS.glob, hS.gn, hS.flr, hS.gg, hS.tab⟩,
       Ren.le_refl ρ, fun b hb _ => hk b hb, hs, fun i b d hw hr _ => hS.own_refl hw hr, fun _ _ hp _ => hp, fun _ _ => rfl, rfl, Nat.le_refl _, ht, ho, hu⟩, v', he, hvr ρ⟩
   · split at h
     · rename_i r0 hr0
       cases h
       exact hX f args H _ hr0
     · split at h
       · cases h
       · rename_i fn hfn
         have hbody : ∀ {C : Cl} {n : Nat} {lv : List (Option An)} {args : List Value} {H : Hp} {r : Out × Hp}, evFn cf.P C n lv fn args H = some r → fn.body.isSome = true := by
           intro C n lv args H r h
           unfold evFn at h
           cases hb : fn.body with
           | none => simp [hb] at h
           | some c => rfl
         split at h
         · split at h
           · rename_i args1 bl hpk
             cases he : evFn cf.P (evCall cf n) n (cf.live f) fn args1 (Hp.pk bl) with
             | none => simp [he, movR] at h
             | some r1 =>
               rw [he] at h
               exact ⟨⟨fn, hfn, hN f fn hfn, hbody he⟩, fun ρ w args' hS ha => mov_sound ih (hD n ih) hfn hpk he h hS ha⟩
           · cases he : evFn cf.P (evCall cf n) n (cf.live f) fn args H.cl with
             | none => simp [he, quietR] at h
             | some r1 =>
               rw [he] at h
               refine ⟨⟨fn, hfn, hN f fn hfn, hbody he⟩, fun ρ w args' hS ha => ?_⟩
               exact (evFn_calls ih (hD n ih) hfn he hS.closed ha).mono fun e w' hend => quiet_sound hS h hend
         · exact ⟨⟨fn, hfn, hN f fn hfn, hbody h⟩, fun ρ w args' hS ha => evFn_calls ih (hD n ih) hfn h hS ha⟩
end Go.Ev
