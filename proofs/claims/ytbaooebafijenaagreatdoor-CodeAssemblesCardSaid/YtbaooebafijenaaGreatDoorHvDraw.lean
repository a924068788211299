/- Regions that draw their order: one walk in the order of the text serves every order. -/
import Derived.Test.YtbaooebafijenaaGreatDoorHvCalls
import Derived.Orders
set_option linter.unusedSimpArgs false
set_option linter.unusedVariables false
namespace Go.Ev
open Go
set_option linter.unusedSectionVars false
variable [Tabs] [Dfs]
variable {P : Program}
theorem evOp_bind {α : Type} {C : Cl} {o : Oper} {ev : Operand → Value} {H : Hp} {k : Value → Hp → Option α} :
   evOp P C o ev H pnN k = (evOp P C o ev H pnN fun v H => some (v, H)).bind fun (v, H) => k v H := by
 obtain ⟨dst, op, ty, pos, after, guard⟩ := o
 cases op <;> simp only [evOp, sb] <;> (repeat' split) <;> (try simp [Option.bind_assoc, pnN])
 all_goals first
   | (unfold callK; split <;> simp_all [pnN]; done)
   | (unfold panI; split <;> simp_all [pnN]; done)
theorem evOp_congr {α : Type} {C : Cl} {o : Oper} {ev ev' : Operand → Value} {H : Hp} {pn : List PanicEntry → Hp → Option α} {k : Value → Hp → Option α} (h : ∀ x ∈ o.op.operands, ev x = ev' x) :
   evOp P C o ev H pn k = evOp P C o ev' H pn k := by
 obtain ⟨dst, op, ty, pos, after, guard⟩ := o
 cases op <;> simp only [Op.operands] at h <;> simp only [evOp]
 case build t ps =>
   have : (ps.toList.map fun (i, x) => (i, ev x)) = (ps.toList.map fun (i, x) => (i, ev' x)) :=
     List.map_congr_left fun p hm => by
       obtain ⟨i, x⟩ := p
       simp only [h x (by simpa using ⟨i, by simpa using hm⟩)]
   rw [this]
 case buildSlice t len ps =>
   have : (ps.toList.map fun (i, x) => (i, ev x)) = (ps.toList.map fun (i, x) => (i, ev' x)) :=
     List.map_congr_left fun p hm => by
       obtain ⟨i, x⟩ := p
       simp only [h x (by simpa using ⟨i, by simpa using hm⟩)]
   rw [this]
 case makeFunc fn first cap =>
   have h1 : first.toList.map ev = first.toList.map ev' := List.map_congr_left fun x hx => h x (by simp; exact .inl (by simpa using hx))
   have h2 : cap.toList.map ev = cap.toList.map ev' := List.map_congr_left fun x hx => h x (by simp; exact .inr (by simpa using hx))
   rw [h1, h2]
 case call c =>
   obtain ⟨callee, args, argTypes⟩ := c
   have hargs : ∀ x ∈ args.toList, ev x = ev' x := fun x hx => h x (by simp [Call.operands]; exact .inr (by simpa using hx))
   cases callee with
   | builtin b =>
     cases b <;> simp only []
     case len =>
       split
       · rename_i x et e
         have := hargs x (by rw [e]; simp)
         simp only [this]
       · rfl
     case append =>
       split
       · rename_i s x et e
         have h1 := hargs s (by rw [e]; simp)
         have h2 := hargs x (by rw [e]; simp)
         simp only [h1, h2]
       · rfl
     case max =>
       split
       · rename_i x l e
         have h1 := hargs x (by rw [e]; simp)
         have h2 : l.map ev = l.map ev' := List.map_congr_left fun y hy => hargs y (by rw [e]; simp [hy])
         simp only [h1, h2]
       · rfl
     case min =>
       split
       · rename_i x l e
         have h1 := hargs x (by rw [e]; simp)
         have h2 : l.map ev = l.map ev' := List.map_congr_left fun y hy => hargs y (by rw [e]; simp [hy])
         simp only [h1, h2]
       · rfl
   | value f =>
     have hf : ev f = ev' f := h f (by simp [Call.operands])
     simp only [hf, List.map_congr_left hargs]
   | _ => rfl
 case slice t x lo hi mx => cases lo <;> cases hi <;> cases mx <;> simp_all
 all_goals (first | rfl | (simp_all; done) | skip)
def evV (P : Program) (C : Cl) (ops : Array Oper) (o : Oper) (fr : Fr) (H : Hp) : Option (Value × Hp) :=
 match o.guard with
 | none => evOp P C o (fr.ev P) H pnN fun v H => some (v, H)
 | some (j, want) => ((ops[j]?).bind (·.dst)).bind fun d => ifG (fr.g d) want (evOp P C o (fr.ev P) H pnN fun v H => some (v, H)) (some (undef, H))
theorem evOne_val {α : Type} {C : Cl} {nt : Nat} {ops : Array Oper} {o : Oper} {fr : Fr} {H : Hp} {k : Fr → Hp → Option α} {r : α} (h : evOne P C nt ops o fr H pnN k = some r) :
   ∃ v H1 fr1, evV P C ops o fr H = some (v, H1) ∧ fr.po nt o.dst v = some fr1 ∧ k fr1 H1 = some r := by
 unfold evOne at h
 unfold evV
 cases hg : o.guard with
 | none =>
   simp only [hg] at h
   rw [evOp_bind, Option.bind_eq_some_iff] at h
   obtain ⟨⟨v, H1⟩, h1, h2⟩ := h
   cases hpo : fr.po nt o.dst v with
   | none => simp [hpo, sb] at h2
   | some fr1 => exact ⟨v, H1, fr1, h1, hpo, by simpa [hpo, sb] using h2⟩
 | some q =>
   obtain ⟨j, want⟩ := q
   simp only [hg] at h
   cases hd : (ops[j]?).bind (·.dst) with
   | none => simp [sb, hd] at h
   | some d =>
     simp only [sb, hd] at h
     rw [Option.bind_eq_some_iff] at h
     obtain ⟨⟨v, H1⟩, h1, h2⟩ := h
     cases hpo : fr.po nt o.dst v with
     | none => simp [hpo] at h2
     | some fr1 => exact ⟨v, H1, fr1, by simpa [hd] using h1, hpo, by simpa [hpo] using h2⟩
def Sees (ops : Array Oper) (o : Oper) (t : Nat) : Prop := t ∈ opReads o ∨ ∃ j want, o.guard = some (j, want) ∧ (ops[j]?).bind (·.dst) = some t
theorem evV_wp {C : Cl} (hC : CallsOK P C) {nt : Nat} {ops : Array Oper} {o : Oper} {fr : Fr} {H H1 : Hp} {v : Value} (h : evV P C ops o fr H = some (v, H1))
   {ρ : Ren} {w : World} (hS : Sim P ρ H w) {a : Act} (hsz : a.tmps.size = nt) (hd : DfR a) (hv : ∀ t, Sees ops o t → VR ρ (fr.g t) (a.tmps.getD t undef)) {next : Act → World → Prop} {Q : Exit → Act → World → Prop}
   (hk : ∀ ρ' v' w', Stp P ρ H w ρ' H1 w' → VR ρ' v v' → next (a.put o.dst v') w') :
   if Region.wanted o (yielded ops a.tmps) then o.wp P a w next Q else next (a.put o.dst undef) w := by
 classical
 have hev : ∀ x ∈ o.op.operands, VR ρ (fr.ev P x) (a.eval x) := by
   intro x hx
   have hz : FrR ρ nt (.nil) a := ⟨hsz, hd, fun t => .dead _⟩
   cases x with
   | tmp t => exact hv t (.inl (List.mem_filterMap.2 ⟨.tmp t, by simpa using hx, rfl⟩))
   | const c => exact hz.ev hS (.const c)
   | global g => exact hz.ev hS (.global g)
   | func f => exact hz.ev hS (.func f)
 have hop : ∀ {v : Value} {H1 : Hp}, (evOp P C o (fr.ev P) H pnN fun v H => some (v, H)) = some (v, H1) → (∀ ρ' v' w', Stp P ρ H w ρ' H1 w' → VR ρ' v v' → next (a.put o.dst v') w') → o.wp P a w next Q := by
   intro v H1 h hk
   rw [evOp_congr (ev' := fun x => if x ∈ o.op.operands then fr.ev P x else dead) (fun x hx => by simp [hx])] at h
   refine evOp_wp hC hS (a := a) (fun x => ?_) h (fun v' H' h' ρ' v2 w' hst hvr => ?_) (fun c H' h' => by simp [pnN] at h')
   · by_cases hx : x ∈ o.op.operands
     · simpa [hx] using hev x hx
     · simpa [hx] using VR.dead _
   · cases h'; exact hk ρ' v2 w' hst hvr
 unfold evV at h
 cases hg : o.guard with
 | none =>
   simp only [hg] at h
   have : Region.wanted o (yielded ops a.tmps) = true := by simp [Region.wanted, hg]
   rw [if_pos this]
   exact hop h hk
 | some q =>
   obtain ⟨j, want⟩ := q
   simp only [hg] at h
   cases hd' : (ops[j]?).bind (·.dst) with
   | none => simp [hd'] at h
   | some d =>
     simp only [hd', Option.bind_some] at h
     have hf : FrR ρ nt (Fr.nil.p d (fr.g d)) a := ⟨hsz, hd, fun t => by
       rw [Fr.g_p]
       split
       · rename_i e; subst e; exact hv d (.inr ⟨j, want, hg, hd'⟩)
       · exact .dead _⟩
     have hgd : (Fr.nil.p d (fr.g d)).g d = fr.g d := by rw [Fr.g_p, if_pos rfl]
     have skip : Region.wanted o (yielded ops a.tmps) = false → (some (undef, H) : Option (Value × Hp)) = some (v, H1) → if Region.wanted o (yielded ops a.tmps) then o.wp P a w next Q else next (a.put o.dst undef) w := by
       intro hw he
       cases he
       rw [hw]
       exact hk ρ _ w (Stp.refl hS) (undef_VR ρ)
     cases hvd : fr.g d <;> simp only [hvd, ifG] at h <;> first | (cases h; done) | skip
     · rename_i b
       have hw := wanted_true hf hg hd' (hgd.trans hvd)
       by_cases e : b = want
       · subst e
         rw [hw]
         simp only [BEq.rfl, if_true] at h ⊢
         exact hop h hk
       · rw [if_neg e] at h
         exact skip (by rw [hw]; simpa using e) h
     · exact skip (wanted_tuple hf hg hd' (hgd.trans hvd)) h
theorem wp_out {o : Oper} {a : Act} {w : World} {F : Prop} (h : o.wp P a w (fun _ _ => F) (fun _ _ _ => F)) : F := by
 unfold Oper.wp at h
 generalize (execOp a.eval o).run P w = r at h
 cases r with
 | ok n w' =>
   cases n <;> simp only [Oper.upon] at h
   case value v => exact h
   case skip => exact h
   case defer d => exact h
   case enter f args =>
     obtain ⟨e, w', fr, hR, _⟩ := h []
     cases e with
     | returned v => exact hR
     | panicked c => exact hR
     | outgrown => obtain ⟨_, _, hF⟩ := hR; exact hF
   case row row args =>
     obtain ⟨v, w', hR, _⟩ := h (Frame.ofRow P row args .normal) []
     exact hR
 | halt x w' => cases x <;> simp only [Oper.upon] at h; exact h
theorem if_out {b : Bool} {o : Oper} {a : Act} {w : World} {F : Prop} (h : if b = true then o.wp P a w (fun _ _ => F) (fun _ _ _ => F) else F) : F := by
 split at h
 · exact wp_out h
 · exact h
theorem Sim.cl {ρ : Ren} {H : Hp} {w : World} (h : Sim P ρ H w) : Sim P ρ H.cl w where
 blk := h.blk
 sep := fun i j b d b2 d2 hi _ _ hri _ => by
   have h1 := (h.low i b d hri).1
   have h2 : H.next ≤ i := hi.1
   omega
 low := h.low
 lim := Nat.le_refl _
 glob := h.glob
 gn := Nat.le_trans h.gn h.lim
 flr := h.flr
 gg := h.gg
 tab := h.tab
structure Tr (P : Program) (C : Cl) (nt : Nat) (ops : Array Oper) (os : List Oper) (frs : Nat → Fr) (Hs : Nat → Hp) : Prop where
 val : ∀ (i : Nat) (o : Oper), os[i]? = some o → ∃ v, evV P C ops o (frs i) (Hs i).cl = some (v, Hs (i + 1)) ∧ (frs i).po nt o.dst v = some (frs (i + 1))
theorem evA_trace {α : Type} {C : Cl} {nt : Nat} {ops : Array Oper} {k : Fr → Hp → Option α} {r : α} : ∀ (os : List Oper) (fr : Fr) (H : Hp), evA P C nt ops os fr H k = some r →
   ∃ frs Hs, frs 0 = fr ∧ Hs 0 = H ∧ Tr P C nt ops os frs Hs ∧ k (frs os.length) (Hs os.length) = some r
 | [], fr, H, h => ⟨fun _ => fr, fun _ => H, rfl, rfl, ⟨fun i o ho => by simp at ho⟩, h⟩
 | o :: os, fr, H, h => by
   obtain ⟨v, H1, fr1, h1, h2, h3⟩ := evOne_val (k := fun fr H => evA P C nt ops os fr H k) h
   obtain ⟨frs, Hs, e1, e2, ht, hk⟩ := evA_trace os fr1 H1 h3
   refine ⟨fun i => match i with | 0 => fr | i + 1 => frs i, fun i => match i with | 0 => H | i + 1 => Hs i, rfl, rfl, ⟨fun i x hx => ?_⟩, hk⟩
   cases i with
   | zero => simp at hx; subst hx; exact ⟨v, by simpa [e2] using h1, by simpa [e1] using h2⟩
   | succ i => exact ht.val i x (by simpa using hx)
structure Grew (H H' : Hp) : Prop where
 next : H.next ≤ H'.next
 get : ∀ j, j < H.next → H'.get j = H.get j
theorem Grew.trans {H H1 H2 : Hp} (h : Grew H H1) (h' : Grew H1 H2) : Grew H H2 :=
 ⟨Nat.le_trans h.next h'.next, fun j hj => (h'.get j (Nat.lt_of_lt_of_le hj h.next)).trans (h.get j hj)⟩
theorem Tr.run {C : Cl} (hC : CallsOK P C) {nt : Nat} {ops : Array Oper} {os : List Oper} {frs : Nat → Fr} {Hs : Nat → Hp} (ht : Tr P C nt ops os frs Hs) {ρ : Ren} {w : World} {a : Act} (hL : ∀ o ∈ os, LoD o.dst) (hS : Sim P ρ (Hs 0) w) (hf : FrR ρ nt (frs 0) a) :
   ∀ i, i ≤ os.length → (∃ ρ w a, Sim P ρ (Hs i) w ∧ FrR ρ nt (frs i) a) ∧ ∀ j, j < i → Grew (Hs j) (Hs (j + 1)) ∧ (Hs (j + 1)).lim = (Hs j).next := by
 intro i
 induction i with
 | zero => exact fun _ => ⟨⟨ρ, w, a, hS, hf⟩, fun j hj => by omega⟩
 | succ i ih =>
   intro hi
   obtain ⟨⟨ρ1, w1, a1, hS1, hf1⟩, hg⟩ := ih (by omega)
   obtain ⟨v, h1, h2⟩ := ht.val i os[i] (by simp [List.getElem?_eq_getElem (show i < os.length by omega)])
   have key := if_out (F := (∃ ρ w a, Sim P ρ (Hs (i + 1)) w ∧ FrR ρ nt (frs (i + 1)) a) ∧ Grew (Hs i) (Hs (i + 1)) ∧ (Hs (i + 1)).lim = (Hs i).next)
     (evV_wp hC h1 hS1.cl hf1.size hf1.df (fun t _ => hf1.val t) (fun ρ' v' w' hst hv => ⟨⟨ρ', w', _, hst.sim, (hf1.mono hst.ext).put hv (hL _ (List.getElem_mem _)) h2⟩, ⟨hst.next, fun j hj => hst.fix j hj⟩, hst.lim⟩))
   refine ⟨key.1, fun j hj => ?_⟩
   rcases Nat.lt_succ_iff_lt_or_eq.1 hj with hj | rfl
   · exact hg j hj
   · exact key.2
theorem grew_le {Hs : Nat → Hp} {q : Nat} (h : ∀ j, j < q → Grew (Hs j) (Hs (j + 1))) : ∀ i k, i + k ≤ q → Grew (Hs i) (Hs (i + k)) := by
 intro i k
 induction k with
 | zero => exact fun _ => ⟨Nat.le_refl _, fun _ _ => rfl⟩
 | succ k ih => exact fun hk => (ih (by omega)).trans (h (i + k) (by omega))
theorem grew_le' {Hs : Nat → Hp} {q : Nat} (h : ∀ j, j < q → Grew (Hs j) (Hs (j + 1))) {i k : Nat} (hik : i ≤ k) (hk : k ≤ q) : Grew (Hs i) (Hs k) := by
 have := grew_le h i (k - i) (by omega)
 rwa [show i + (k - i) = k by omega] at this
def Wr (ops : Array Oper) (t p : Nat) : Prop := ∃ o, ops[p]? = some o ∧ o.dst = some t
structure J (P : Program) (nt : Nat) (ops : Array Oper) (q : Nat) (frs : Nat → Fr) (Hs : Nat → Hp) (ρ0 : Ren) (w0 : World) (X : Nat → Prop) (S : Nat → Prop) (ρ : Ren) (a : Act) (w : World) : Prop where
 size : a.tmps.size = nt
 df : DfR a
 blk : ∀ i x b d, (Hs q).get i = some x → ρ i = some (b, d) → ∀ l, l ≤ q → i < (Hs l).next → BlkR (ρ.cut (Hs l).next) w b d x
 sep : ∀ i j b d b' d', (Hs 0).next ≤ i → (∃ x, (Hs q).get i = some x ∧ x.opn = true) → (∃ y, (Hs q).get j = some y) → i ≠ j → ρ i = some (b, d) → ρ j = some (b', d') → b ≠ b'
 low : ∀ i b d, ρ i = some (b, d) → i < (Hs q).next ∧ b < w.heap.size
 glob : ∀ g, g < P.globals.size → GlobR ρ g ∧ g < (Hs 0).next
 val : ∀ t i, i ≤ q → (∀ p, p < q → Wr ops t p → (S p ↔ p < i)) → VR (ρ.cut (Hs i).next) ((frs i).g t) (a.tmps.getD t undef)
 ext : ρ0.le ρ
 keep : ∀ b, b < w0.heap.size → ¬ X b → w.heap[b]? = w0.heap[b]?
 hsize : w0.heap.size ≤ w.heap.size
 own : ∀ i b d, (Hs 0).next ≤ i → ρ i = some (b, d) → w0.heap.size ≤ b
 old : ∀ i p, ρ i = some p → i < (Hs 0).next → ρ0 i = some p
 unl : ∀ k, k < q → ¬ S k → ∀ i, (Hs k).next ≤ i → i < (Hs (k + 1)).next → ρ i = none
 tape : w.tape = w0.tape
 os : w.os = w0.os
 out : w.output = w0.output
 gn : Tabs.gn ≤ (Hs 0).next
 flr : ∀ i, i < Tabs.gn → (Hs 0).get i = Tabs.base.get i
 gg : P.globals.size ≤ Tabs.gn
 tab : ∀ i x, i < Tabs.gn → Tabs.base.get i = some x → ∃ cs, x = .ro cs ∧ cs.all flD = true
def TrF (nt : Nat) (ops : Array Oper) (q : Nat) (frs : Nat → Fr) : Prop := ∀ (i : Nat) (o : Oper), i < q → ops[i]? = some o → ∃ v, (frs i).po nt o.dst v = some (frs (i + 1))
theorem Tr.frames {C : Cl} {nt q : Nat} {ops : Array Oper} {frs : Nat → Fr} {Hs : Nat → Hp} (ht : Tr P C nt ops (ops.toList.take q) frs Hs) : TrF nt ops q frs := fun i o hi ho => by
 obtain ⟨v, _, h⟩ := ht.val i o (by rw [List.getElem?_take, if_pos hi]; simpa using ho)
 exact ⟨v, h⟩
theorem TrF.const {nt q : Nat} {ops : Array Oper} {frs : Nat → Fr} (ht : TrF nt ops q frs) (hq : q ≤ ops.size) {t i : Nat} : ∀ k, i + k ≤ q → (∀ p, i ≤ p → p < i + k → ¬ Wr ops t p) → (frs (i + k)).g t = (frs i).g t := by
 intro k
 induction k with
 | zero => exact fun _ _ => rfl
 | succ k ih =>
   intro hk hw
   rw [← ih (by omega) (fun p h1 h2 => hw p h1 (by omega))]
   have ho : ops[i + k]? = some ops[i + k] := Array.getElem?_eq_getElem (by omega)
   obtain ⟨v, h2⟩ := ht (i + k) ops[i + k] (by omega) ho
   have hn : ops[i + k].dst ≠ some t := fun e => hw (i + k) (by omega) (by omega) ⟨_, ho, e⟩
   show (frs (i + k + 1)).g t = _
   cases hd : ops[i + k].dst with
   | none => rw [hd] at h2; simp [Fr.po] at h2; rw [← h2]
   | some d =>
     rw [hd] at h2
     simp only [Fr.po] at h2
     split at h2
     · rw [← Option.some.inj h2, Fr.g_p, if_neg (fun e => hn (by rw [hd, e]))]
     · cases h2
theorem J.at {nt q : Nat} {ops : Array Oper} {frs : Nat → Fr} {Hs : Nat → Hp}
   (hg : ∀ j, j < q → Grew (Hs j) (Hs (j + 1)) ∧ (Hs (j + 1)).lim = (Hs j).next) {ρ0 : Ren} {w0 : World} {X S : Nat → Prop} {ρ : Ren} {a : Act} {w : World} (hJ : J P nt ops q frs Hs ρ0 w0 X S ρ a w)
   {i : Nat} (hi : i < q) : Sim P (ρ.cut (Hs i).next) (Hs i).cl w := by
 have hgr : ∀ {j k}, j ≤ k → k ≤ q → Grew (Hs j) (Hs k) := fun h1 h2 => grew_le' (fun j hj => (hg j hj).1) h1 h2
 have g0i := hgr (Nat.zero_le i) (Nat.le_of_lt hi)
 have giq := hgr (Nat.le_of_lt hi) (Nat.le_refl q)
 have cutlt : ∀ {ρ : Ren} {n k : Nat} {p : Nat × Nat}, ρ.cut n k = some p → k < n ∧ ρ k = some p := by
   intro ρ n k p h
   exact Ren.cut_some h
 refine ⟨?_, ?_, ?_, Nat.le_refl _, ?_, ?_, ?_, ?_, ?_⟩
 · intro k x b d hx hr
   obtain ⟨hlt, hr'⟩ := cutlt hr
   exact hJ.blk k x b d ((giq.get k hlt).trans hx) hr' i (Nat.le_of_lt hi) hlt
 · intro k j b d b2 d2 hw _ _ hr _
   have h2 : (Hs i).next ≤ k := hw.1
   have := (cutlt hr).1
   omega
 · intro k b d hr
   obtain ⟨hlt, hr'⟩ := cutlt hr
   exact ⟨hlt, (hJ.low k b d hr').2⟩
 · intro g hgl
   obtain ⟨⟨h1, h3⟩, h2⟩ := hJ.glob g hgl
   have := g0i.next
   refine ⟨?_, h3⟩
   rw [Ren.cut_get, if_pos (by omega)]
   exact h1
 · exact Nat.le_trans hJ.gn g0i.next
 · intro k hk
   have h2 := hJ.gn
   exact (g0i.get k (by omega)).trans (hJ.flr k hk)
 · exact hJ.gg
 · exact hJ.tab
theorem J.next {nt q : Nat} {ops : Array Oper} (hL : LoA ops) {frs : Nat → Fr} {Hs : Nat → Hp} (ht : TrF nt ops q frs) (hq : q ≤ ops.size)
   (hg : ∀ j, j < q → Grew (Hs j) (Hs (j + 1)) ∧ (Hs (j + 1)).lim = (Hs j).next) {ρ0 : Ren} {w0 : World} {X S : Nat → Prop} {ρ : Ren} {a : Act} {w : World} (hJ : J P nt ops q frs Hs ρ0 w0 X S ρ a w)
   {i : Nat} (hi : i < q) {o : Oper} (ho : ops[i]? = some o) (hSi : ¬ S i)
   (hord : ∀ t, o.dst = some t → ∀ p, p < q → p ≠ i → Wr ops t p → (S p ↔ p < i)) {v v1 : Value} {ρ1 : Ren} {w1 : World} (hpo : (frs i).po nt o.dst v = some (frs (i + 1)))
   (hst : Stp P (ρ.cut (Hs i).next) (Hs i).cl w ρ1 (Hs (i + 1)) w1) (hvr : VR ρ1 v v1) :
   ∃ ρ', J P nt ops q frs Hs ρ0 w0 X (fun p => S p ∨ p = i) ρ' (a.put o.dst v1) w1 ∧ (∀ k, ¬ ((Hs i).next ≤ k ∧ k < (Hs (i + 1)).next) → ρ' k = ρ k) ∧ (∀ b, b < w.heap.size → w1.heap[b]? = w.heap[b]?) ∧ ρ.le ρ' := by
 have hgr : ∀ {j k}, j ≤ k → k ≤ q → Grew (Hs j) (Hs k) := fun h1 h2 => grew_le' (fun j hj => (hg j hj).1) h1 h2
 have g0i := hgr (Nat.zero_le i) (Nat.le_of_lt hi)
 have giq := hgr (Nat.le_of_lt hi) (Nat.le_refl q)
 have gi1 := (hg i hi).1
 have g1q := hgr (show i + 1 ≤ q from hi) (Nat.le_refl q)
 have cutlt : ∀ {ρ : Ren} {n k : Nat} {p : Nat × Nat}, ρ.cut n k = some p → k < n ∧ ρ k = some p := by
   intro ρ n k p h
   exact Ren.cut_some h
 let ρ' : Ren := ⟨fun k => if (Hs i).next ≤ k ∧ k < (Hs (i + 1)).next then ρ1 k else ρ k, fun b => if b < w.heap.size then ρ.sz b else ρ1.sz b⟩
 have hin : ∀ {k}, (Hs i).next ≤ k → k < (Hs (i + 1)).next → ρ' k = ρ1 k := fun h1 h2 => if_pos ⟨h1, h2⟩
 have hout : ∀ {k}, ¬ ((Hs i).next ≤ k ∧ k < (Hs (i + 1)).next) → ρ' k = ρ k := fun h => if_neg h
 have hle : ρ.le ρ' := by
   refine ⟨fun k p hp => ?_, fun k p hp => by
     have := (hJ.low k p.1 p.2 hp).2
     show (if p.1 < w.heap.size then ρ.sz p.1 else ρ1.sz p.1) = _
     rw [if_pos this]⟩
   by_cases h : (Hs i).next ≤ k ∧ k < (Hs (i + 1)).next
   · rw [hJ.unl i hi hSi k h.1 h.2] at hp; cases hp
   · rw [hout h]; exact hp
 have hkeep : ∀ b, b < w.heap.size → w1.heap[b]? = w.heap[b]? := fun b hb => hst.keep b hb fun k d hw hr => by
   have h2 : (Hs i).next ≤ k := hw.1
   have := (cutlt hr).1
   omega
 have hnew : ∀ {k b d}, (Hs i).next ≤ k → ρ1 k = some (b, d) → w.heap.size ≤ b := by
   intro k b d h1 hr
   rcases Nat.lt_or_ge b w.heap.size with hb | hb
   · obtain ⟨j, d', hw, hr'⟩ := hst.own k b d (.inr h1) hr hb
     have h2 : (Hs i).next ≤ j := hw.1
     have := (cutlt hr').1
     omega
   · exact hb
 have h1le : ρ1.le (ρ'.cut (Hs (i + 1)).next) := by
   refine ⟨fun k p hp => ?_, fun k p hp => ?_⟩
   · obtain ⟨b, d⟩ := p
     have hk := (hst.sim.low k b d hp).1
     rw [Ren.cut_get, if_pos hk]
     by_cases h : (Hs i).next ≤ k
     · rw [hin h hk]; exact hp
     · have h1 := hst.old k _ hp (Nat.lt_of_not_le h)
       exact hle k _ (cutlt h1).2
   · obtain ⟨b, d⟩ := p
     show (if b < w.heap.size then ρ.sz b else ρ1.sz b) = ρ1.sz b
     by_cases hb : b < w.heap.size
     · rw [if_pos hb]
       have h : ¬ (Hs i).next ≤ k := fun h => by have := hnew h hp; omega
       exact (hst.ext.sz k _ (hst.old k _ hp (Nat.lt_of_not_le h))).symm
     · rw [if_neg hb]
 have hx1 : ∀ {k x}, k < (Hs (i + 1)).next → (Hs q).get k = some x → (Hs (i + 1)).get k = some x := fun h1 h2 => (g1q.get _ h1).symm.trans h2
 refine ⟨ρ', ⟨?_, ?_, ?_, ?_, ?_, ?_, ?_, ?_, ?_, ?_, ?_, ?_, ?_, ?_, ?_, ?_, hJ.gn, hJ.flr, hJ.gg, hJ.tab⟩, fun k h => hout h, hkeep, hle⟩
 · cases hd : o.dst <;> simp [Act.put, hJ.size]
 · exact hJ.df.put (hL i o ho) v1
 · intro k x b d hx hr l hl hkl
   by_cases h : (Hs i).next ≤ k ∧ k < (Hs (i + 1)).next
   · rw [hin h.1 h.2] at hr
     refine (hst.sim.blk k x b d (hx1 h.2 hx) hr).mono (Ren.le_trans h1le (Ren.cut_mono (Ren.le_refl _) ?_)) rfl (h1le.sz k _ hr)
     rcases Nat.lt_or_ge i l with h3 | h3
     · exact (hgr h3 hl).next
     · have := (hgr h3 (Nat.le_of_lt hi)).next; omega
   · rw [hout h] at hr
     exact (hJ.blk k x b d hx hr l hl hkl).mono (Ren.cut_mono hle (Nat.le_refl _)) (hkeep b (hJ.low k b d hr).2) (hle.sz k _ hr)
 · intro k j b d b' d' h0 hx hy hne hr hr'
   by_cases h : (Hs i).next ≤ k ∧ k < (Hs (i + 1)).next <;> by_cases h' : (Hs i).next ≤ j ∧ j < (Hs (i + 1)).next
   · rw [hin h.1 h.2] at hr
     rw [hin h'.1 h'.2] at hr'
     obtain ⟨x, hx, hxo⟩ := hx
     obtain ⟨y, hy⟩ := hy
     exact hst.sim.sep k j b d b' d' ⟨by rw [(hg i hi).2]; exact h.1, x, hx1 h.2 hx, hxo⟩ ⟨y, hx1 h'.2 hy⟩ hne hr hr'
   · rw [hin h.1 h.2] at hr
     rw [hout h'] at hr'
     have h1 := hnew h.1 hr
     have h2 := (hJ.low j b' d' hr').2
     omega
   · rw [hout h] at hr
     rw [hin h'.1 h'.2] at hr'
     have h1 := hnew h'.1 hr'
     have h2 := (hJ.low k b d hr).2
     omega
   · rw [hout h] at hr
     rw [hout h'] at hr'
     exact hJ.sep k j b d b' d' h0 hx hy hne hr hr'
 · intro k b d hr
   by_cases h : (Hs i).next ≤ k ∧ k < (Hs (i + 1)).next
   · rw [hin h.1 h.2] at hr
     have h1 := hst.sim.low k b d hr
     have h2 := g1q.next
     exact ⟨by omega, h1.2⟩
   · rw [hout h] at hr
     have h1 := hJ.low k b d hr
     have h2 := hst.size
     exact ⟨h1.1, by omega⟩
 · intro g hgl
   exact ⟨(hJ.glob g hgl).1.mono hle, (hJ.glob g hgl).2⟩
 · intro t l hl hc
   by_cases hd : o.dst = some t
   · have hil : i < l := (hc i hi ⟨o, ho, hd⟩).1 (.inr rfl)
     have hfr : (frs (i + 1 + (l - (i + 1)))).g t = (frs (i + 1)).g t := ht.const hq (l - (i + 1)) (by omega) fun p h1 h2 hw => by
       have h3 := hord t hd p (by omega) (by omega) hw
       have h4 := hc p (by omega) hw
       have h5 : S p := (h4.2 (by omega)).resolve_right (by omega)
       have := h3.1 h5
       omega
     rw [show i + 1 + (l - (i + 1)) = l by omega] at hfr
     rw [hfr]
     rw [hd] at hpo
     simp only [Fr.po] at hpo
     split at hpo
     · rename_i hlt
       rw [← Option.some.inj hpo, Fr.g_p, if_pos rfl]
       have e : (a.put o.dst v1).tmps.getD t undef = v1 := by
         rw [hd]
         simp [Act.put, Array.getD_eq_getD_getElem?, hJ.size, hlt]
       rw [e]
       exact hvr.mono (Ren.le_trans h1le (Ren.cut_mono (Ren.le_refl _) (hgr hil hl).next))
     · cases hpo
   · have e : (a.put o.dst v1).tmps.getD t undef = a.tmps.getD t undef := by
       cases hd' : o.dst with
       | none => rfl
       | some d =>
         have : d ≠ t := fun e => hd (by rw [hd', e])
         simp [Act.put, Array.getD_eq_getD_getElem?, Array.getElem?_setIfInBounds_ne this]
     rw [e]
     refine (hJ.val t l hl fun p hp hw => ?_).mono (Ren.cut_mono hle (Nat.le_refl _))
     have hpi : p ≠ i := fun e => by
       subst e
       obtain ⟨o', ho', hd'⟩ := hw
       rw [ho] at ho'
       cases ho'
       exact hd hd'
     exact ⟨fun h => (hc p hp hw).1 (.inl h), fun h => ((hc p hp hw).2 h).resolve_right hpi⟩
 · exact Ren.le_trans hJ.ext hle
 · intro b hb hx
   exact (hkeep b (Nat.lt_of_lt_of_le hb hJ.hsize)).trans (hJ.keep b hb hx)
 · exact Nat.le_trans hJ.hsize hst.size
 · intro k b d h0 hr
   by_cases h : (Hs i).next ≤ k ∧ k < (Hs (i + 1)).next
   · rw [hin h.1 h.2] at hr
     exact Nat.le_trans hJ.hsize (hnew h.1 hr)
   · rw [hout h] at hr
     exact hJ.own k b d h0 hr
 · intro k p hp hk0
   have := g0i.next
   rw [hout (by omega)] at hp
   exact hJ.old k p hp hk0
 · intro k hkq hn j h1 h2
   have hki : k ≠ i := fun e => hn (.inr e)
   have hkS : ¬ S k := fun e => hn (.inl e)
   rw [hout]
   · exact hJ.unl k hkq hkS j h1 h2
   · rintro ⟨h3, h4⟩
     rcases Nat.lt_or_gt_of_ne hki with h | h
     · have := (hgr (show k + 1 ≤ i from h) (Nat.le_of_lt hi)).next; omega
     · have := (hgr (show i + 1 ≤ k from h) (Nat.le_of_lt hkq)).next; omega
 · exact hst.tape.trans hJ.tape
 · exact hst.os.trans hJ.os
 · exact hst.out.trans hJ.out
theorem J.step {C : Cl} (hC : CallsOK P C) {nt q : Nat} {ops : Array Oper} (hL : LoA ops) {frs : Nat → Fr} {Hs : Nat → Hp} (ht : TrF nt ops q frs) (hq : q ≤ ops.size)
   (hg : ∀ j, j < q → Grew (Hs j) (Hs (j + 1)) ∧ (Hs (j + 1)).lim = (Hs j).next) {ρ0 : Ren} {w0 : World} {X S : Nat → Prop} {ρ : Ren} {a : Act} {w : World} (hJ : J P nt ops q frs Hs ρ0 w0 X S ρ a w)
   {i : Nat} (hi : i < q) {o : Oper} (ho : ops[i]? = some o) (hSi : ¬ S i) {v : Value} (hv : evV P C ops o (frs i) (Hs i).cl = some (v, Hs (i + 1))) (hpo : (frs i).po nt o.dst v = some (frs (i + 1)))
   (hord : ∀ t, (Sees ops o t ∨ o.dst = some t) → ∀ p, p < q → p ≠ i → Wr ops t p → (S p ↔ p < i)) {next : Act → World → Prop} {Q : Exit → Act → World → Prop}
   (hk : ∀ ρ' a' w', J P nt ops q frs Hs ρ0 w0 X (fun p => S p ∨ p = i) ρ' a' w' → (∀ k, ¬ ((Hs i).next ≤ k ∧ k < (Hs (i + 1)).next) → ρ' k = ρ k) → (∀ b, b < w.heap.size → w'.heap[b]? = w.heap[b]?) → ρ.le ρ' → next a' w') :
   if Region.wanted o (yielded ops a.tmps) then o.wp P a w next Q else next (a.put o.dst undef) w := by
 refine evV_wp hC hv (hJ.at hg hi) hJ.size hJ.df (fun t hs => hJ.val t i (Nat.le_of_lt hi) fun p hp hw => ?_) (fun ρ1 v1 w1 hst hvr => ?_)
 · by_cases e : p = i
   · subst e; exact ⟨fun h => absurd h hSi, fun h => absurd h (Nat.lt_irrefl _)⟩
   · exact hord t (.inl hs) p hp e hw
 · obtain ⟨ρ', h1, h2, h3, h4⟩ := hJ.next hL ht hq hg hi ho hSi (fun t h => hord t (.inr h)) hpo hst hvr
   exact hk ρ' _ w1 h1 h2 h3 h4
theorem J.all {nt q : Nat} {ops : Array Oper} {frs : Nat → Fr} {Hs : Nat → Hp} (hg : ∀ j, j < q → Grew (Hs j) (Hs (j + 1)) ∧ (Hs (j + 1)).lim = (Hs j).next) {ρ0 : Ren} {w0 : World} (hS0 : Sim P ρ0 (Hs 0) w0)
   {S : Nat → Prop} {ρ : Ren} {a : Act} {w : World} (hJ : J P nt ops q frs Hs ρ0 w0 (fun _ => False) S ρ a w) (hall : ∀ p, p < q → S p) :
   Stp P ρ0 (Hs 0) w0 ρ ((Hs q).opn (Hs 0).lim) w ∧ FrR ρ nt (frs q) a := by
 have g : Grew (Hs 0) (Hs q) := grew_le' (fun j hj => (hg j hj).1) (Nat.zero_le q) (Nat.le_refl q)
 have hl := hS0.lim
 have hwr : ∀ {i}, wr ((Hs q).opn (Hs 0).lim) i → i < (Hs 0).next → wr (Hs 0) i := by
   rintro i ⟨h1, x, h2, h3⟩ h4
   exact ⟨h1, x, (g.get i h4).symm.trans h2, h3⟩
 refine ⟨⟨⟨?_, ?_, hJ.low, Nat.le_trans hl g.next, fun g hg => (hJ.glob g hg).1, hS0.gn, fun i hi => (by
   have h2 := hS0.gn
   exact (g.get i (by omega)).trans (hS0.flr i hi)), hS0.gg, hS0.tab⟩, hJ.ext, fun b hb _ => hJ.keep b hb id, hJ.hsize, ?_, hJ.old, ?_, rfl, g.next, hJ.tape, hJ.os, hJ.out⟩, hJ.size, hJ.df, fun t => ?_⟩
 · intro i x b d hx hr
   exact (hJ.blk i x b d hx hr q (Nat.le_refl q) (hJ.low i b d hr).1).mono (Ren.cut_le _ _) rfl rfl
 · intro i j b d b' d' hw hy hne hr hr'
   rcases Nat.lt_or_ge i (Hs 0).next with h | h <;> rcases Nat.lt_or_ge j (Hs 0).next with h' | h'
   · obtain ⟨y, hy⟩ := hy
     exact hS0.sep i j b d b' d' (hwr hw h) ⟨y, (g.get j h').symm.trans hy⟩ hne (hJ.old i _ hr h) (hJ.old j _ hr' h')
   · have h1 := hJ.own j b' d' h' hr'
     have h2 := (hS0.low i b d (hJ.old i _ hr h)).2
     omega
   · have h1 := hJ.own i b d h hr
     have h2 := (hS0.low j b' d' (hJ.old j _ hr' h')).2
     omega
   · exact hJ.sep i j b d b' d' h hw.2 hy hne hr hr'
 · intro i b d hw hr hb
   have hi : i < (Hs 0).next := by
     rcases Nat.lt_or_ge i (Hs 0).next with h | h
     · exact h
     · have := hJ.own i b d h hr; omega
   rcases hw with hw | hw
   · exact ⟨i, d, hwr hw hi, hJ.old i _ hr hi⟩
   · omega
 · intro i hi
   exact g.get i (by omega)
 · exact (hJ.val t q (Nat.le_refl q) fun p hp _ => ⟨fun _ => hp, fun _ => hall p hp⟩).mono (Ren.cut_le _ _)
theorem J.none {nt q : Nat} {ops : Array Oper} {frs : Nat → Fr} {Hs : Nat → Hp} (hg : ∀ j, j < q → Grew (Hs j) (Hs (j + 1)) ∧ (Hs (j + 1)).lim = (Hs j).next) (ht : TrF nt ops q frs) (hq : q ≤ ops.size)
   {ρ0 : Ren} {w0 : World} (hS0 : Sim P ρ0 (Hs 0) w0) {a : Act} (hf : FrR ρ0 nt (frs 0) a) {w : World} (hh : w.heap = w0.heap) (htp : w.tape = w0.tape) (hos : w.os = w0.os) (hout : w.output = w0.output) {S : Nat → Prop} (hn : ∀ p, p < q → ¬ S p) :
   J P nt ops q frs Hs ρ0 w0 (fun _ => False) S ρ0 a w := by
 have g : ∀ l, l ≤ q → Grew (Hs 0) (Hs l) := fun l hl => grew_le' (fun j hj => (hg j hj).1) (Nat.zero_le l) hl
 have hcut : ∀ l, l ≤ q → ρ0.le (ρ0.cut (Hs l).next) := by
   intro l hl
   refine ⟨fun i p hp => ?_, fun _ _ _ => rfl⟩
   obtain ⟨b, d⟩ := p
   have h1 := (hS0.low i b d hp).1
   have h2 := (g l hl).next
   rw [Ren.cut_get, if_pos (by omega)]
   exact hp
 refine ⟨hf.size, hf.df, ?_, ?_, ?_, ?_, ?_, Ren.le_refl _, fun b _ _ => by rw [hh], by rw [hh]; exact Nat.le_refl _, ?_, fun i p hp _ => hp, ?_, htp, hos, hout, Nat.le_trans hS0.gn hS0.lim, hS0.flr, hS0.gg, hS0.tab⟩
 · intro i x b d hx hr l hl _
   exact (hS0.blk i x b d (((g q (Nat.le_refl q)).get i (hS0.low i b d hr).1).symm.trans hx) hr).mono (hcut l hl) (by rw [hh]) rfl
 · intro i j b d b' d' h0 _ _ _ hr _
   have := (hS0.low i b d hr).1
   omega
 · intro i b d hr
   have h1 := hS0.low i b d hr
   have h2 := (g q (Nat.le_refl q)).next
   rw [hh]
   exact ⟨by omega, h1.2⟩
 · intro g hgl
   exact ⟨hS0.glob g hgl, (hS0.low g g 0 (hS0.glob g hgl).1).1⟩
 · intro t i hi hc
   have hfr : (frs (0 + i)).g t = (frs 0).g t := ht.const hq i (by omega) fun p _ h2 hw => hn p (by omega) ((hc p (by omega) hw).2 (by omega))
   rw [Nat.zero_add] at hfr
   rw [hfr]
   exact (hf.val t).mono (hcut i hi)
 · intro i b d h0 hr
   have := (hS0.low i b d hr).1
   omega
 · intro k hk _ i h1 _
   have := (g k (Nat.le_of_lt hk)).next
   exact hS0.none (by omega)
def Bef (ops : Array Oper) (i k : Nat) : Prop := ((masks ops.toList []).getD i 0).testBit k = true
theorem foldl_bit (acc : List Nat) (k : Nat) : ∀ (l : List Edge) (s : Nat), (l.foldl (fun s e => if Region.binds .any e = true ∧ e.on < acc.length then s ||| (2 ^ e.on ||| acc.getD e.on 0) else s) s).testBit k = true →
   s.testBit k = true ∨ ∃ e ∈ l, Region.binds .any e = true ∧ e.on < acc.length ∧ (k = e.on ∨ (acc.getD e.on 0).testBit k = true)
 | [], s, h => .inl h
 | e :: l, s, h => by
   rw [List.foldl_cons] at h
   rcases foldl_bit acc k l _ h with h | ⟨e', h1, h2⟩
   · split at h
     · rename_i hb
       rw [Nat.testBit_or, Nat.testBit_or, Bool.or_eq_true, Bool.or_eq_true] at h
       rcases h with h | h | h
       · exact .inl h
       · rw [Nat.testBit_two_pow] at h
         exact .inr ⟨e, by simp, hb.1, hb.2, .inl (by simpa using h : e.on = k).symm⟩
       · exact .inr ⟨e, by simp, hb.1, hb.2, .inr h⟩
     · exact .inl h
   · exact .inr ⟨e', List.mem_cons_of_mem _ h1, h2⟩
theorem masks_spec : ∀ (os : List Oper) (acc : List Nat), (∀ i, i < acc.length → (masks os acc).getD i 0 = acc.getD i 0) ∧
   ∀ (i k : Nat) (o : Oper), os[i]? = some o → ((masks os acc).getD (acc.length + i) 0).testBit k = true →
     ∃ e ∈ o.after, Region.binds .any e = true ∧ e.on < acc.length + i ∧ (k = e.on ∨ ((masks os acc).getD e.on 0).testBit k = true)
 | [], acc => ⟨fun i _ => rfl, fun i k o h => by simp at h⟩
 | o :: os, acc => by
   simp only [masks]
   generalize hm : o.after.toList.foldl (fun s e => if Region.binds .any e = true ∧ e.on < acc.length then s ||| (2 ^ e.on ||| acc.getD e.on 0) else s) 0 = m
   obtain ⟨h1, h2⟩ := masks_spec os (acc ++ [m])
   have h1' : ∀ i, i < acc.length → (masks os (acc ++ [m])).getD i 0 = acc.getD i 0 := fun i hi => by
     rw [h1 i (by simp; omega)]
     simp [List.getD_eq_getElem?_getD, List.getElem?_append_left hi]
   refine ⟨h1', fun i k x hx hk => ?_⟩
   cases i with
   | zero =>
     simp at hx
     subst hx
     rw [Nat.add_zero, h1 acc.length (by simp)] at hk
     have : (acc ++ [m]).getD acc.length 0 = m := by simp [List.getD_eq_getElem?_getD]
     rw [this, ← hm] at hk
     rcases foldl_bit acc k _ _ hk with h | ⟨e, he, hb, hlt, h⟩
     · simp at h
     · exact ⟨e, by simpa using he, hb, by omega, h.imp id fun h => by rw [h1' _ hlt]; exact h⟩
   | succ i =>
     have := h2 i k x (by simpa using hx) (by rw [List.length_append, List.length_singleton, Nat.add_assoc, Nat.add_comm 1 i]; exact hk)
     obtain ⟨e, he, hb, hlt, h⟩ := this
     exact ⟨e, he, hb, by simp at hlt; omega, h⟩
theorem bef_spec {ops : Array Oper} {i k : Nat} {o : Oper} (ho : ops[i]? = some o) (h : Bef ops i k) :
   ∃ e ∈ o.after, Region.binds .any e = true ∧ e.on < i ∧ (k = e.on ∨ Bef ops e.on k) := by
 have := (masks_spec ops.toList []).2 i k o (by simpa using ho) (by simpa [Bef] using h)
 simpa [Bef] using this
theorem bef_listed {ops : Array Oper} {L : Nat → Prop} (hcl : ∀ i o, L i → ops[i]? = some o → ∀ e ∈ o.after, Region.binds .any e = true → L e.on) :
   ∀ (i : Nat) (o : Oper), ops[i]? = some o → (∀ e ∈ o.after, Region.binds .any e = true → L e.on) → ∀ k, Bef ops i k → L k := by
 intro i
 induction i using Nat.strongRecOn with
 | ind i ih =>
   intro o ho he k hk
   obtain ⟨e, hm, hb, hlt, h⟩ := bef_spec ho hk
   have hL := he e hm hb
   rcases h with rfl | h
   · exact hL
   · cases ho' : ops[e.on]? with
     | none =>
       have h1 := (Array.getElem?_eq_some_iff.1 ho).1
       have h2 : ops.size ≤ e.on := by simpa using ho'
       omega
     | some o' => exact ih e.on hlt o' ho' (hcl e.on o' hL ho') k h
theorem tailAt_spec (fr : List Bool) : ∀ (ms : List Nat) (n : Nat), n ≤ tailAt fr ms n ∧ tailAt fr ms n ≤ n + ms.length ∧ ∀ i, tailAt fr ms n ≤ n + i → i < ms.length → ∀ k, k < n + i → (ms.getD i 0).testBit k = true ∨ (k < tailAt fr ms n ∧ fr.getD k false = true)
 | [], n => ⟨Nat.le_refl _, Nat.le_refl _, fun i _ h => by simp at h⟩
 | m :: ms, n => by
   rw [tailAt]
   split
   · rename_i h
     refine ⟨Nat.le_refl _, Nat.le_add_right _ _, fun i _ hi k hk => ?_⟩
     rw [List.all_eq_true] at h
     have := h ((m :: ms)[i], n + i) (List.mem_of_getElem? (i := i) (by rw [List.getElem?_zipIdx, List.getElem?_eq_getElem hi]; rfl))
     rw [List.all_eq_true] at this
     have := this k (List.mem_range.2 hk)
     simpa [List.getD_eq_getElem?_getD, List.getElem?_eq_getElem hi] using this
   · obtain ⟨h1, h2, h3⟩ := tailAt_spec fr ms (n + 1)
     refine ⟨by omega, by simp; omega, fun i hi hl k hk => ?_⟩
     cases i with
     | zero => omega
     | succ i =>
       have := h3 i (by omega) (by simpa using hl) k (by omega)
       simpa using this
structure FreeC (ops : Array Oper) (k : Nat) (o : Oper) (d : Tmp) (x : Operand) : Prop where
 at_ : ops[k]? = some o
 guard : o.guard = none
 op : o.op = .move x
 dst : o.dst = some d
 after : ∀ e ∈ o.after, Region.binds .any e = false
 src : ∀ s, x = .tmp s → ∀ (i : Nat) (p : Oper), ops[i]? = some p → p.dst ≠ some s
theorem free_spec {ops : Array Oper} {k : Nat} (h : (ops.toList.map (freeOp ops)).getD k false = true) : ∃ o d x, FreeC ops k o d x := by
 rw [List.getD_eq_getElem?_getD, List.getElem?_map] at h
 cases ho : ops.toList[k]? with
 | none => simp [ho] at h
 | some o =>
   simp only [ho, Option.map_some, Option.getD_some, freeOp, Bool.and_eq_true] at h
   obtain ⟨⟨⟨h1, h2⟩, h3⟩, h4⟩ := h
   have hok : ops[k]? = some o := by simpa using ho
   obtain ⟨d, hd⟩ := Option.isSome_iff_exists.1 h3
   have hg : o.guard = none := by simpa using h1
   have ha : ∀ e ∈ o.after, Region.binds .any e = false := fun e he => by
     rw [List.all_eq_true] at h2
     simpa using h2 e (by simpa using he)
   cases hop : o.op <;> simp only [hop] at h4 <;> try (cases h4; done)
   rename_i x
   cases x with
   | tmp s =>
     refine ⟨o, d, .tmp s, hok, hg, hop, hd, ha, fun s' e i p hp => ?_⟩
     cases e
     rw [List.all_eq_true] at h4
     have := h4 p (List.mem_of_getElem? (i := i) (by simpa using hp))
     simpa using this
   | _ => exact ⟨o, d, _, hok, hg, hop, hd, ha, fun s' e => by cases e⟩
theorem drawAt_spec {ops : Array Oper} {q : Nat} (h : drawAt ops = some q) : q ≤ ops.size ∧ (∀ i k, q ≤ i → i < ops.size → k < i → Bef ops i k ∨ (k < q ∧ ∃ o d x, FreeC ops k o d x)) ∧
   (∀ i o, ops[i]? = some o → ∀ e ∈ o.after, Region.binds .any e = true → e.on < i) ∧
   (∀ (i j t : Nat) (oi oj : Oper), ops[i]? = some oi → ops[j]? = some oj → t ∈ opNames ops oj → oi.dst = some t → i ≠ j → (i < j → Bef ops j i) ∧ (j < i → Bef ops i j)) ∧
   (∀ (i : Nat) (o : Oper), ops[i]? = some o → ∀ cs b, o.op ≠ .select cs b) := by
 unfold drawAt at h
 split at h
 · rename_i hc
   cases h
   rw [Bool.and_eq_true, Bool.and_eq_true] at hc
   obtain ⟨⟨hc0, hc1⟩, hc2⟩ := hc
   have hlen : (masks ops.toList []).length = ops.size := by
     have : ∀ (os : List Oper) (acc : List Nat), (masks os acc).length = acc.length + os.length := by
       intro os
       induction os with
       | nil => intro acc; rfl
       | cons o os ih => intro acc; simp only [masks]; rw [ih]; simp; omega
     rw [this]; simp
   obtain ⟨h1, h2, h3⟩ := tailAt_spec (ops.toList.map (freeOp ops)) (masks ops.toList []) 0
   refine ⟨by omega, fun i k hi hn hk => ?_, fun i o ho e he hb => ?_, fun i j t oi oj hoi hoj hm hd hne => ?_, fun i o ho cs b e => ?_⟩
   · rcases h3 i (by omega) (by omega) k (by omega) with h4 | ⟨h4, h5⟩
     · exact .inl h4
     · exact .inr ⟨h4, free_spec h5⟩
   · have := hc1
     unfold edgesOk at this
     rw [List.all_eq_true] at this
     have := this (o, i) (List.mem_of_getElem? (i := i) (by rw [List.getElem?_zipIdx]; simp [ho]))
     simp only [List.all_eq_true] at this
     have := this e (by simpa using he)
     simpa [hb] using this
   · have := hc2
     unfold tmpsOk at this
     rw [List.all_eq_true] at this
     have := this (oj, j) (List.mem_of_getElem? (i := j) (by rw [List.getElem?_zipIdx]; simp [hoj]))
     simp only [List.all_eq_true] at this
     have := this t hm
     have := this (oi, i) (List.mem_of_getElem? (i := i) (by rw [List.getElem?_zipIdx]; simp [hoi]))
     simp [hd, hne] at this
     refine ⟨fun hlt => ?_, fun hlt => ?_⟩
     · rw [if_pos hlt] at this; simpa [Bef] using this
     · rw [if_neg (by omega)] at this; simpa [Bef] using this
   · unfold noSel at hc0
     rw [List.all_eq_true] at hc0
     have := hc0 o (List.mem_of_getElem? (i := i) (by simpa using ho))
     rw [e] at this
     cases this
 · cases h
theorem countP_lt {l : List Nat} {p p' : Nat → Bool} (h : ∀ x ∈ l, p' x = true → p x = true) {i : Nat} (hi : i ∈ l) (h1 : p i = true) (h2 : p' i = false) : l.countP p' < l.countP p := by
 induction l with
 | nil => cases hi
 | cons x l ih =>
   rw [List.countP_cons, List.countP_cons]
   have hle : l.countP p' ≤ l.countP p := List.countP_mono_left fun y hy => h y (List.mem_cons_of_mem _ hy)
   rcases List.mem_cons.1 hi with e | hi
   · subst e
     simp only [h1, h2]
     simp; omega
   · have := ih (fun y hy => h y (List.mem_cons_of_mem _ hy)) hi
     have hx := h x (by simp)
     cases e : p' x <;> cases e' : p x <;> simp_all <;> omega
theorem tail_any {α : Type} {C : Cl} (hC : CallsOK P C) {nt q : Nat} {ops : Array Oper} (hq : drawAt ops = some q) (hLo : LoA ops) {pn : List PanicEntry → Hp → Option α} {k : Fr → Hp → Option α} {r : α} {Q : Exit → Act → World → Prop} :
   ∀ (fuel j : Nat) (listed : Array Bool) (fr : Fr) (H : Hp) (ρ : Ren) (w : World) (a : Act), q ≤ j → j ≤ ops.size → ops.size ≤ fuel + j → listed.size = ops.size → (∀ i, i < ops.size → (listed.getD i false = true ↔ i < j)) →
   evOps P C nt ops (ops.toList.drop j) fr H pn k = some r → Sim P ρ H w → FrR ρ nt fr a →
   (∀ fr' H', k fr' H' = some r → ∀ ρ' a' w', Stp P ρ H w ρ' H' w' → FrR ρ' nt fr' a' → Q .normal a' w') →
   (∀ c H', pn c H' = some r → ∀ ρ' c' a' w', Stp P ρ H w ρ' H' w' → ChR ρ' c c' → DfR a' → Q (.panic c') a' w') → wpAny P .any ops Q fuel listed a w := by
 obtain ⟨hqn, htail, hedge, _⟩ := drawAt_spec hq
 intro fuel
 induction fuel with
 | zero =>
   intro j listed fr H ρ w a hqj hjn hfu hsz hL h hS hf hk hp
   have hj : j = ops.size := by omega
   subst hj
   refine ⟨?_, ?_⟩
   · rw [List.eq_nil_iff_forall_not_mem]
     intro i hi
     obtain ⟨h0, o, ho, _⟩ := mem_ready.1 hi
     have hlt := (Array.getElem?_eq_some_iff.1 ho).1
     have := (hL i hlt).2 hlt
     simp [hsz, hlt] at h0 this
     rw [h0] at this; cases this
   · rw [List.drop_eq_nil_of_le (by simp)] at h
     exact hk fr H h ρ a w (Stp.refl hS) hf
 | succ fuel ih =>
   intro j listed fr H ρ w a hqj hjn hfu hsz hL h hS hf hk hp
   have tf : ∀ i, i < ops.size → listed.getD i true = listed.getD i false := fun i hi => by simp [hsz, hi]
   have hcl : ∀ i o, (i < ops.size ∧ listed.getD i false = true) → ops[i]? = some o → ∀ e ∈ o.after, Region.binds .any e = true → (e.on < ops.size ∧ listed.getD e.on false = true) := by
     intro i o hi ho e he hb
     have h1 := hedge i o ho e he hb
     have h2 := (hL i hi.1).1 hi.2
     exact ⟨by omega, (hL e.on (by omega)).2 (by omega)⟩
   have hready : ∀ i, i ∈ Region.ready .any ops listed → i = j := by
     intro i hi
     obtain ⟨h0, o, ho, hall⟩ := mem_ready.1 hi
     have hlt := (Array.getElem?_eq_some_iff.1 ho).1
     rw [tf i hlt] at h0
     have hji : j ≤ i := by
       rcases Nat.lt_or_ge i j with h | h
       · rw [(hL i hlt).2 h] at h0; cases h0
       · exact h
     rcases Nat.lt_or_eq_of_le hji with h | h
     · have := bef_listed (L := fun i => i < ops.size ∧ listed.getD i false = true) hcl i o ho (fun e he hb => ⟨by have := hedge i o ho e he hb; omega, hall e he hb⟩) j ((htail i j (by omega) hlt h).resolve_right (fun h => by omega))
       have := (hL j this.1).1 this.2
       omega
     · exact h.symm
   refine ⟨fun hnil => ?_, fun i hi => ?_⟩
   · rcases Nat.lt_or_ge j ops.size with hj | hj
     · have ho : ops[j]? = some ops[j] := Array.getElem?_eq_getElem hj
       have hm : j ∈ Region.ready .any ops listed := mem_ready.2 ⟨by
         rw [tf j hj]
         cases hb : listed.getD j false with
         | false => rfl
         | true => have := (hL j hj).1 hb; omega, _, ho, fun e he hb => by
           have := hedge j _ ho e he hb
           exact (hL e.on (by omega)).2 this⟩
       rw [hnil] at hm
       cases hm
     · rw [List.drop_eq_nil_of_le (by simpa using hj)] at h
       exact hk fr H h ρ a w (Stp.refl hS) hf
   · have := hready i hi
     subst this
     obtain ⟨h0, o, ho, _⟩ := mem_ready.1 hi
     obtain ⟨hlt, hoe⟩ := Array.getElem?_eq_some_iff.1 ho
     have hdr : ops.toList.drop i = o :: ops.toList.drop (i + 1) := by
       rw [List.drop_eq_getElem_cons (by simpa using hlt)]
       simp [hoe]
     rw [hdr, evOps_cons] at h
     have := evOne_wp hC (hLo i o ho) h hS hf (next := wpAny P .any ops Q fuel (listed.setIfInBounds i true)) (Q := Q) (fun fr' H' h' ρ' a' w' hst hf' =>
       ih (i + 1) _ fr' H' ρ' w' a' (by omega) (by omega) (by omega) (by simp [hsz]) (fun m hm => by
         by_cases e : i = m
         · subst e; simp [hsz, hm]
         · rw [getD_set_ne false e, hL m hm]; omega) h' hst.sim hf'
       (fun fr2 H2 h2 ρ2 a2 w2 hst2 => hk fr2 H2 h2 ρ2 a2 w2 (hst.trans hst2)) (fun c H2 h2 ρ2 c2 a2 w2 hst2 => hp c H2 h2 ρ2 c2 a2 w2 (hst.trans hst2)))
       (fun c H' h' ρ' c' w' hst hc => hp c H' h' ρ' c' a w' hst hc hf.df)
     unfold wpOp
     simp only [ho]
     split at this
     · rename_i hw; rw [if_pos hw]; exact .inl this
     · rename_i hw; rw [if_neg hw]; exact this
theorem put_commE (a : Act) {o : Option Tmp} {d : Tmp} (h : o ≠ some d) (u v : Value) : (a.put (some d) v).put o u = (a.put o u).put (some d) v := by
 cases o with
 | none => rfl
 | some c =>
   have : d ≠ c := fun e => h (by rw [e])
   simp only [Act.put]
   congr 1
   exact Array.setIfInBounds_comm _ _ this
theorem put_evalE (a : Act) {o : Option Tmp} {x : Operand} (h : ∀ s, x = .tmp s → o ≠ some s) (u : Value) : (a.put o u).eval x = a.eval x := by
 cases o with
 | none => rfl
 | some c =>
   cases x with
   | tmp s =>
     have : c ≠ s := fun e => h s rfl (by rw [e])
     simp [Act.put, Act.eval, Array.getD_eq_getD_getElem?, Array.getElem?_setIfInBounds_ne this]
   | _ => rfl
theorem upon_float {o : Oper} {a : Act} {d : Tmp} {v : Value} (hd : o.dst ≠ some d) (hdl : Dfs.lo ≤ d) {Q : Exit → Act → World → Prop} (hQ : ∀ c (a a' : Act) w, DfE a a' → Q (.panic c) a w → Q (.panic c) a' w)
   {K K' : Act → World → Prop} (hK : ∀ ds u w, K' ((({ a with defers := ds } : Act).put o.dst u).put (some d) v) w → K (({ a with defers := ds } : Act).put o.dst u) w) (r : Result Next) (h : o.upon P (a.put (some d) v) K' Q r) : o.upon P a K Q r := by
 have hc : ∀ u, (a.put (some d) v).put o.dst u = (a.put o.dst u).put (some d) v := fun u => put_commE a hd u v
 cases r with
 | ok n w =>
   cases n <;> simp only [Oper.upon] at h ⊢
   case value u => rw [hc] at h; exact hK a.defers u w h
   case skip => rw [hc] at h; exact hK a.defers undef w h
   case defer x =>
     have : (({ (a.put (some d) v) with defers := x :: (a.put (some d) v).defers } : Act).put o.dst undef) = ((({ a with defers := x :: a.defers } : Act).put o.dst undef).put (some d) v) := by
       rw [← put_commE _ hd]
       rfl
     rw [this] at h
     exact hK _ undef w h
   case enter f args =>
     refine Calls.mono h fun e w' he => ?_
     cases e with
     | returned u => simp only at he ⊢; rw [hc] at he; exact hK a.defers u w' he
     | panicked c => exact hQ c (a.put (some d) v) a w' (DfE.put (fun t e => by cases e; exact hdl) v) he
     | outgrown => exact he
   case row row args =>
     refine Rows.mono h fun u w' he => ?_
     rw [hc] at he
     exact hK a.defers u w' he
 | halt hl w =>
   cases hl <;> simp only [Oper.upon] at h ⊢
   exact hQ _ (a.put (some d) v) a w (DfE.put (fun t e => by cases e; exact hdl) v) h
theorem float {q : Nat} {ops : Array Oper} (hq : drawAt ops = some q) (hL : LoA ops) {Q : Exit → Act → World → Prop} (hQ : ∀ c (a a' : Act) w, DfE a a' → Q (.panic c) a w → Q (.panic c) a' w)
   {i0 : Nat} {o0 : Oper} {d : Tmp} {x : Operand} (hF : FreeC ops i0 o0 d x) : ∀ (fuel : Nat) (listed : Array Bool) (a : Act) (w : World), listed.size = ops.size → listed.getD i0 false = false →
   (∀ i o, listed.getD i false = true → ops[i]? = some o → ∀ e ∈ o.after, Region.binds .any e = true → listed.getD e.on false = true) →
   wpAny P .any ops Q fuel (listed.setIfInBounds i0 true) (a.put (some d) (a.eval x)) w → wpAny P .any ops Q (fuel + 1) listed a w := by
 obtain ⟨hqn, htail, hedge, htmp, hsel⟩ := drawAt_spec hq
 intro fuel
 induction fuel with
 | zero =>
   intro listed a w hsz hn hcl h
   have hlt0 := (Array.getElem?_eq_some_iff.1 hF.at_).1
   have hm : i0 ∈ Region.ready .any ops listed := mem_ready.2 ⟨by
     have : listed.getD i0 true = listed.getD i0 false := by simp [hsz, hlt0]
     rw [this]; exact hn, o0, hF.at_, fun e he hb => by rw [hF.after e he] at hb; cases hb⟩
   refine ⟨fun hnil => (by rw [hnil] at hm; cases hm), fun i hi => ?_⟩
   obtain ⟨h0, o, ho, hedges⟩ := mem_ready.1 hi
   have hlt := (Array.getElem?_eq_some_iff.1 ho).1
   by_cases e : i = i0
   · subst e
     rw [hF.at_] at ho
     cases ho
     unfold wpOp
     simp only [hF.at_]
     rw [if_pos (by simp [Region.wanted, hF.guard])]
     left
     unfold Oper.wp
     rw [hF.dst.symm] at h
     simpa [execOp, hF.op, Oper.upon] using h
   · have : i ∈ Region.ready .any ops (listed.setIfInBounds i0 true) := mem_ready.2 ⟨by
       have e1 : (listed.setIfInBounds i0 true).getD i true = listed.getD i true := getD_set_ne true (Ne.symm e)
       rw [e1]; exact h0, o, ho, fun ed he hb => getD_set_true (hedges ed he hb)⟩
     rw [h.1] at this
     cases this
 | succ fuel ih =>
   intro listed a w hsz hn hcl h
   have hlt0 := (Array.getElem?_eq_some_iff.1 hF.at_).1
   have hm : i0 ∈ Region.ready .any ops listed := mem_ready.2 ⟨by
     have : listed.getD i0 true = listed.getD i0 false := by simp [hsz, hlt0]
     rw [this]; exact hn, o0, hF.at_, fun e he hb => by rw [hF.after e he] at hb; cases hb⟩
   refine ⟨fun hnil => (by rw [hnil] at hm; cases hm), fun i hi => ?_⟩
   obtain ⟨h0, o, ho, hedges⟩ := mem_ready.1 hi
   have hlt := (Array.getElem?_eq_some_iff.1 ho).1
   by_cases e : i = i0
   · subst e
     rw [hF.at_] at ho
     cases ho
     unfold wpOp
     simp only [hF.at_]
     rw [if_pos (by simp [Region.wanted, hF.guard])]
     left
     unfold Oper.wp
     rw [hF.dst.symm] at h
     simpa [execOp, hF.op, Oper.upon] using h
   · have hr : i ∈ Region.ready .any ops (listed.setIfInBounds i0 true) := mem_ready.2 ⟨by
       have e1 : (listed.setIfInBounds i0 true).getD i true = listed.getD i true := getD_set_ne true (Ne.symm e)
       rw [e1]; exact h0, o, ho, fun ed he hb => getD_set_true (hedges ed he hb)⟩
     have h1 := h.2 i hr
     have hname : d ∉ opNames ops o := by
       intro hmem
       obtain ⟨h2, h3⟩ := htmp i0 i d o0 o hF.at_ ho hmem hF.dst (Ne.symm e)
       rcases Nat.lt_or_gt_of_ne e with h4 | h4
       · obtain ⟨ed, he, hb, _⟩ := bef_spec hF.at_ (h3 h4)
         rw [hF.after ed he] at hb; cases hb
       · have := bef_listed (L := fun i => listed.getD i false = true) hcl i o ho hedges i0 (h2 h4)
         rw [hn] at this
         cases this
     have hdst : o.dst ≠ some d := fun e1 => hname (by unfold opNames; simp [e1])
     have hlook : ∀ d', some d = some d' → d' ∉ o.looksAt ops := fun d' e1 => by
       cases e1
       intro hm2
       apply hname
       unfold Oper.looksAt at hm2
       unfold opNames opReads
       rcases List.mem_append.1 hm2 with h5 | h5
       · exact List.mem_append_left _ (List.mem_append_right _ h5)
       · exact List.mem_append_right _ h5
     have hcomm : (listed.setIfInBounds i0 true).setIfInBounds i true = (listed.setIfInBounds i true).setIfInBounds i0 true := Array.setIfInBounds_comm _ _ (Ne.symm e)
     have hK : ∀ ds u w, wpAny P .any ops Q fuel ((listed.setIfInBounds i0 true).setIfInBounds i true) ((({ a with defers := ds } : Act).put o.dst u).put (some d) (a.eval x)) w →
         wpAny P .any ops Q (fuel + 1) (listed.setIfInBounds i true) (({ a with defers := ds } : Act).put o.dst u) w := by
       intro ds u w h2
       refine ih _ _ w (by simp [hsz]) (by rw [getD_set_ne false e]; exact hn) (fun m om hm hom ed he hb => ?_) ?_
       · apply getD_set_true
         by_cases e' : i = m
         · subst e'
           rw [ho] at hom
           cases hom
           exact hedges ed he hb
         · rw [getD_set_ne false e'] at hm
           exact hcl m om hm hom ed he hb
       rw [hcomm] at h2
       have : (({ a with defers := ds } : Act).put o.dst u).eval x = a.eval x := by
         rw [put_evalE _ (fun s e1 => hF.src s e1 i o ho)]
         rfl
       rw [this]
       exact h2
     unfold wpOp at h1 ⊢
     simp only [ho] at h1 ⊢
     have hwant := wanted_put (ops := ops) o a (some d) (a.eval x) hlook
     rw [hwant] at h1
     split at h1
     · rename_i hw
       rw [if_pos hw]
       have hex := execOp_put (ops := ops) o (hsel i o ho) a (some d) (a.eval x) hlook
       rcases h1 with h1 | ⟨h1, h2⟩
       · left
         unfold Oper.wp at h1 ⊢
         rw [hex] at h1
         exact upon_float hdst (hL _ _ hF.at_ d hF.dst) hQ (fun ds u w h => hK ds u w h) _ h1
       · right
         refine ⟨?_, h2⟩
         unfold Oper.asks at h1 ⊢
         rw [hex] at h1
         exact h1
     · rename_i hw
       rw [if_neg hw]
       have := hK a.defers undef w
       rw [put_commE _ hdst] at h1
       exact this h1
theorem head_gen {q : Nat} {ops : Array Oper} (hq : drawAt ops = some q) (hL : LoA ops) {Q : Exit → Act → World → Prop} (hQ : ∀ c (a a' : Act) w, DfE a a' → Q (.panic c) a w → Q (.panic c) a' w) {Inv : (Nat → Prop) → Act → World → Prop}
   (pick : ∀ (S : Nat → Prop) (a : Act) (w : World) (i : Nat) (o : Oper), i < q → ops[i]? = some o → ¬ S i → (∀ p op, S p → ops[p]? = some op → ∀ k, Bef ops p k → S k) → (∀ k, Bef ops i k → S k) →
     (∀ t, (Sees ops o t ∨ o.dst = some t) → ∀ p, p < q → p ≠ i → Wr ops t p → (S p ↔ p < i)) → Inv S a w → ∀ (next : Act → World → Prop), (∀ a' w', Inv (fun p => S p ∨ p = i) a' w' → next a' w') →
     if Region.wanted o (yielded ops a.tmps) then o.wp P a w next Q else next (a.put o.dst undef) w)
   (fin : ∀ (S : Nat → Prop) (a : Act) (w : World), (∀ i, i < q → S i) → Inv S a w → ∀ (fuel : Nat) (listed : Array Bool), ops.size ≤ fuel + q → listed.size = ops.size → (∀ i, i < ops.size → (listed.getD i false = true ↔ i < q)) → wpAny P .any ops Q fuel listed a w) :
   ∀ (fuel : Nat) (listed : Array Bool) (a : Act) (w : World), (ops.size - q) + (List.range q).countP (fun i => !listed.getD i false) ≤ fuel → listed.size = ops.size →
   (∀ i, q ≤ i → i < ops.size → listed.getD i false = false) →
   (∀ i o, listed.getD i false = true → ops[i]? = some o → ∀ e ∈ o.after, Region.binds .any e = true → listed.getD e.on false = true) →
   Inv (fun i => listed.getD i false = true) a w → wpAny P .any ops Q fuel listed a w := by
 obtain ⟨hqn, htail, hedge, htmp, hsel⟩ := drawAt_spec hq
 intro fuel
 induction fuel with
 | zero =>
   intro listed a w hfu hsz hun hcl hJ
   have hall : ∀ i, i < q → listed.getD i false = true := by
     intro i hi
     have h0 : (List.range q).countP (fun i => !listed.getD i false) = 0 := by omega
     rw [List.countP_eq_zero] at h0
     simpa using h0 i (List.mem_range.2 hi)
   exact fin _ a w hall hJ 0 listed (by omega) hsz (fun i hi => ⟨fun h1 => (by
     rcases Nat.lt_or_ge i q with h2 | h2
     · exact h2
     · rw [hun i h2 hi] at h1; cases h1), hall i⟩)
 | succ fuel ih =>
   intro listed a w hfu hsz hun hcl hJ
   by_cases hall : ∀ i, i < q → listed.getD i false = true
   · have h0 : (List.range q).countP (fun i => !listed.getD i false) = 0 := by
       rw [List.countP_eq_zero]
       intro i hi
       simp only [hall i (List.mem_range.1 hi)]
       simp
     exact fin _ a w hall hJ (fuel + 1) listed (by omega) hsz (fun i hi => ⟨fun h1 => (by
       rcases Nat.lt_or_ge i q with h2 | h2
       · exact h2
       · rw [hun i h2 hi] at h1; cases h1), hall i⟩)
   · by_cases hfr : ∀ i, i < q → listed.getD i false = true ∨ ∃ o d x, FreeC ops i o d x
     · -- copies alone are not listed
       obtain ⟨i0, hi0, hn0⟩ : ∃ i, i < q ∧ listed.getD i false = false := by
         apply Classical.byContradiction
         intro hno
         exact hall fun i hi => by
           cases hb : listed.getD i false with
           | true => rfl
           | false => exact absurd ⟨i, hi, hb⟩ hno
       obtain ⟨o0, d, x, hF⟩ := (hfr i0 hi0).resolve_left (by rw [hn0]; simp)
       have hlt : i0 < ops.size := (Array.getElem?_eq_some_iff.1 hF.at_).1
       have hno : ∀ k, Bef ops i0 k → False := fun k hk => by
         obtain ⟨ed, he, hb, _⟩ := bef_spec hF.at_ hk
         rw [hF.after ed he] at hb; cases hb
       have hbl := bef_listed (L := fun i => listed.getD i false = true) hcl
       have hfun : (fun p => listed.getD p false = true ∨ p = i0) = fun p => (listed.setIfInBounds i0 true).getD p false = true := by
         funext p
         apply propext
         by_cases e : i0 = p
         · subst e; simp [hsz, hlt]
         · rw [getD_set_ne false e]
           exact ⟨fun h => h.resolve_right (Ne.symm e), .inl⟩
       have hI := pick _ a w i0 o0 hi0 hF.at_ (by rw [hn0]; simp) (fun p op hp hop => hbl p op hop (hcl p op hp hop)) (fun k hk => (hno k hk).elim) (fun t hs p hp hne hw => by
         obtain ⟨op, hop, hdp⟩ := hw
         have hname : t ∈ opNames ops o0 := by
           unfold opNames
           rcases hs with (hs | ⟨j, want, hgd, hd⟩) | hs
           · exact List.mem_append_left _ (List.mem_append_right _ hs)
           · exact List.mem_append_right _ (by rw [hgd]; simp [hd])
           · exact List.mem_append_left _ (List.mem_append_left _ (by simp [hs]))
         obtain ⟨h1, h2⟩ := htmp p i0 t op o0 hop hF.at_ hname hdp hne
         refine ⟨fun hL => ?_, fun hpi => ((hno p (h1 hpi))).elim⟩
         rcases Nat.lt_or_gt_of_ne hne with h3 | h3
         · exact h3
         · have := hbl p op hop (hcl p op hL hop) i0 (h2 h3)
           rw [hn0] at this
           cases this) hJ (fun a' w' => Inv (fun p => listed.getD p false = true ∨ p = i0) a' w') (fun a' w' h => h)
       rw [if_pos (by simp [Region.wanted, hF.guard])] at hI
       have hI2 : Inv (fun p => listed.getD p false = true ∨ p = i0) (a.put (some d) (a.eval x)) w := by
         unfold Oper.wp at hI
         rw [← hF.dst]
         simpa [execOp, hF.op, Oper.upon] using hI
       rw [hfun] at hI2
       refine float hq hL hQ hF fuel listed a w hsz hn0 hcl ?_
       refine ih _ _ w ?_ (by simp [hsz]) (fun m h1 h2 => by rw [getD_set_ne false (by omega)]; exact hun m h1 h2) (fun m om hm hom e he hb => ?_) hI2
       · have := countP_lt (l := List.range q) (p := fun i => !listed.getD i false) (p' := fun m => !(listed.setIfInBounds i0 true).getD m false) (fun m _ hm => by
             by_cases e : i0 = m
             · subst e; simp [hn0]
             · rw [getD_set_ne false e] at hm; exact hm) (List.mem_range.2 hi0) (by rw [hn0]; rfl) (by simp [hsz, hlt])
         omega
       · apply getD_set_true
         by_cases e' : i0 = m
         · subst e'
           rw [hF.at_] at hom
           cases hom
           rw [hF.after e he] at hb
           cases hb
         · rw [getD_set_ne false e'] at hm
           exact hcl m om hm hom e he hb
     have tf : ∀ i, i < ops.size → listed.getD i true = listed.getD i false := fun i hi => by simp [hsz, hi]
     have hbl := bef_listed (L := fun i => listed.getD i false = true) hcl
     refine ⟨fun hnil => absurd ?_ hall, fun i hi => ?_⟩
     · intro i
       induction i using Nat.strongRecOn with
       | ind i ihi =>
         intro hi
         cases hb : listed.getD i false with
         | true => rfl
         | false =>
           have hlt : i < ops.size := by omega
           have hm : i ∈ Region.ready .any ops listed := mem_ready.2 ⟨by rw [tf i hlt]; exact hb, _, Array.getElem?_eq_getElem hlt, fun e he hbd => by
             have := hedge i _ (Array.getElem?_eq_getElem hlt) e he hbd
             exact ihi e.on this (by omega)⟩
           rw [hnil] at hm
           cases hm
     · obtain ⟨h0, o, ho, hedges⟩ := mem_ready.1 hi
       have hlt := (Array.getElem?_eq_some_iff.1 ho).1
       rw [tf i hlt] at h0
       have hiq : i < q := by
         rcases Nat.lt_or_ge i q with h1 | h1
         · exact h1
         · exact absurd (fun m hm => (htail i m h1 hlt (by omega)).elim (fun h2 => .inl (hbl i o ho hedges m h2)) (fun h2 => .inr h2.2)) hfr
       have hfun : (fun p => listed.getD p false = true ∨ p = i) = fun p => (listed.setIfInBounds i true).getD p false = true := by
         funext p
         apply propext
         by_cases e : i = p
         · subst e; simp [hsz, hlt]
         · rw [getD_set_ne false e]
           exact ⟨fun h => h.resolve_right (Ne.symm e), .inl⟩
       have := pick _ a w i o hiq ho (by rw [h0]; simp) (fun p op hp hop => hbl p op hop (hcl p op hp hop)) (hbl i o ho hedges) (fun t hs p hp hne hw => ?_) hJ (wpAny P .any ops Q fuel (listed.setIfInBounds i true)) (fun a' w' hJ' => by
         refine ih _ a' w' ?_ (by simp [hsz]) (fun m h1 h2 => by rw [getD_set_ne false (by omega)]; exact hun m h1 h2) (fun m om hm hom e he hb => ?_) (by rw [← hfun]; exact hJ')
         · have := countP_lt (l := List.range q) (p := fun i => !listed.getD i false) (p' := fun m => !(listed.setIfInBounds i true).getD m false) (fun m _ hm => by
             by_cases e : i = m
             · subst e; simp [h0]
             · rw [getD_set_ne false e] at hm; exact hm) (List.mem_range.2 hiq) (by rw [h0]; rfl) (by simp [hsz, hlt])
           omega
         · apply getD_set_true
           by_cases e' : i = m
           · subst e'
             rw [ho] at hom
             cases hom
             exact hedges e he hb
           · rw [getD_set_ne false e'] at hm
             exact hcl m om hm hom e he hb)
       · unfold wpOp
         simp only [ho]
         split at this
         · rename_i hw; rw [if_pos hw]; exact .inl this
         · rename_i hw; rw [if_neg hw]; exact this
       · obtain ⟨op, hop, hdp⟩ := hw
         have hname : t ∈ opNames ops o := by
           unfold opNames
           rcases hs with (hs | ⟨j, want, hgd, hd⟩) | hs
           · exact List.mem_append_left _ (List.mem_append_right _ hs)
           · exact List.mem_append_right _ (by rw [hgd]; simp [hd])
           · exact List.mem_append_left _ (List.mem_append_left _ (by simp [hs]))
         obtain ⟨h1, h2⟩ := htmp p i t op o hop ho hname hdp hne
         refine ⟨fun hL => ?_, fun hpi => hbl i o ho hedges p (h1 hpi)⟩
         rcases Nat.lt_or_gt_of_ne hne with h3 | h3
         · exact h3
         · have := hbl p op hop (hcl p op hL hop) i (h2 h3)
           rw [h0] at this
           cases this
theorem no_listed (n i : Nat) : (Array.replicate n false).getD i false = false := by
 rw [Array.getD_eq_getD_getElem?, Array.getElem?_replicate]
 split <;> rfl
theorem region_start {q : Nat} {ops : Array Oper} (hm : P.follows .mixedOrders = true) (hqn : q ≤ ops.size) {Q : Exit → Act → World → Prop} {Inv : (Nat → Prop) → Act → World → Prop} {a : Act} {w : World} {id : Nat}
   (h : ∀ (fuel : Nat) (listed : Array Bool) (a : Act) (w : World), (ops.size - q) + (List.range q).countP (fun i => !listed.getD i false) ≤ fuel → listed.size = ops.size →
     (∀ i, q ≤ i → i < ops.size → listed.getD i false = false) →
     (∀ i o, listed.getD i false = true → ops[i]? = some o → ∀ e ∈ o.after, Region.binds .any e = true → listed.getD e.on false = true) →
     Inv (fun i => listed.getD i false = true) a w → wpAny P .any ops Q fuel listed a w)
   (hI : ∀ S : Nat → Prop, (∀ p, ¬ S p) → Inv S a { w with drawn := w.drawn + 1 }) : (Code.region id ops true).wp P Q a w := by
 refine wp_region_any hm (h ops.size _ a _ ?_ (by simp) (fun i h1 h2 => by simp [h2]) (fun i o hi => ?_) (hI _ fun p hp => ?_))
 · have : (List.range q).countP (fun i => !(Array.replicate ops.size false).getD i false) ≤ q := by
     have := List.countP_le_length (p := fun i => !(Array.replicate ops.size false).getD i false) (l := List.range q)
     simpa using this
   omega
 · rw [no_listed] at hi; cases hi
 · rw [no_listed] at hp; cases hp
theorem drawA {α : Type} {C : Cl} (hC : CallsOK P C) (hm : P.follows .mixedOrders = true) {ops : Array Oper} {q : Nat} (hq : drawAt ops = some q) (hLo : LoA ops) {id nt : Nat} {pn : List PanicEntry → Hp → Option α} {k : Fr → Hp → Option α} {r : α} {fr : Fr} {H : Hp}
   (h : (evA P C nt ops (ops.toList.take q) fr H fun fr H' => evOps P C nt ops (ops.toList.drop q) fr (H'.opn H.lim) pn k) = some r) {ρ : Ren} {w : World} {a : Act} {Q : Exit → Act → World → Prop} (hS : Sim P ρ H w) (hf : FrR ρ nt fr a)
   (hk : ∀ fr' H', k fr' H' = some r → ∀ ρ' a' w', Stp P ρ H w ρ' H' w' → FrR ρ' nt fr' a' → Q .normal a' w')
   (hp : ∀ c H', pn c H' = some r → ∀ ρ' c' a' w', Stp P ρ H w ρ' H' w' → ChR ρ' c c' → DfR a' → Q (.panic c') a' w') (hQ : ∀ c (a a' : Act) w, DfE a a' → Q (.panic c) a w → Q (.panic c) a' w) : (Code.region id ops true).wp P Q a w := by
 have hqn := (drawAt_spec hq).1
 obtain ⟨frs, Hs, rfl, rfl, ht, hr⟩ := evA_trace (k := fun fr H' => evOps P C nt ops (ops.toList.drop q) fr (H'.opn H.lim) pn k) _ fr H h
 have hlen : (ops.toList.take q).length = q := by simp; omega
 rw [hlen] at hr
 have hg := (ht.run hC (fun o ho => by
   obtain ⟨i, hi, e⟩ := List.mem_iff_getElem.1 (List.mem_of_mem_take ho)
   exact hLo i o (by rw [← Array.getElem?_toList, List.getElem?_eq_getElem hi, e])) hS hf q (by omega)).2
 refine region_start hm hqn (Inv := fun S a' w' => ∃ ρ', J P nt ops q frs Hs ρ w (fun _ => False) S ρ' a' w') (head_gen (Inv := fun S a' w' => ∃ ρ', J P nt ops q frs Hs ρ w (fun _ => False) S ρ' a' w') hq hLo hQ ?_ ?_) (fun S hn => ⟨ρ, J.none (w := { w with drawn := w.drawn + 1 }) hg ht.frames hqn hS hf rfl rfl rfl rfl (fun p _ => hn p)⟩)
 · intro S a w i o hi ho hSi _ _ hord ⟨ρ', hJ⟩ next hnext
   obtain ⟨v, hv, hpo⟩ := ht.val i o (by rw [List.getElem?_take, if_pos hi]; simpa using ho)
   exact hJ.step hC hLo ht.frames hqn hg hi ho hSi hv hpo hord (fun ρ2 a2 w2 h2 _ _ _ => hnext a2 w2 ⟨ρ2, h2⟩)
 · intro S a w hall ⟨ρ', hJ⟩ fuel listed hfu hsz hL
   obtain ⟨hst, hf⟩ := hJ.all hg hS hall
   exact tail_any hC hq hLo fuel q listed _ _ ρ' w a (Nat.le_refl q) hqn hfu hsz hL hr hst.sim hf (fun fr2 H2 h2 ρ2 a2 w2 hst2 => hk fr2 H2 h2 ρ2 a2 w2 (hst.trans hst2)) (fun c H2 h2 ρ2 c2 a2 w2 hst2 => hp c H2 h2 ρ2 c2 a2 w2 (hst.trans hst2))
end Go.Ev
