/- One operation of the machine against the evaluator. -/
import Derived.Test.YtbaooebafijenaaGreatDoorHvOps7
set_option linter.unusedSimpArgs false
namespace Go.Ev
open Go
set_option linter.unusedSectionVars false
variable [Tabs]
variable {P : Program} {ρ : Ren} {H : Hp} {w : World}
def ChR (ρ : Ren) (c c' : List PanicEntry) : Prop := c.length = c'.length ∧ ∀ (i : Nat) (x x' : PanicEntry), c[i]? = some x → c'[i]? = some x' → VR ρ x.v x'.v ∧ x' = { x with v := x'.v }
def EndR (P : Program) (ρ : Ren) (H : Hp) (w : World) (r : Out × Hp) (e : Ending) (w' : World) : Prop :=
 ∃ ρ', Stp P ρ H w ρ' r.2 w' ∧ match r.1 with
   | .ret v => ∃ v', e = .returned v' ∧ VR ρ' v v'
   | .pan c => ∃ c', e = .panicked c' ∧ ChR ρ' c c'
def CallsOK (P : Program) (C : Cl) : Prop := ∀ f args H r, C f args H = some r →
 (∃ fn, P.funcs[f]? = some fn ∧ fn.name ≠ "runtime.NumGoroutine" ∧ fn.body.isSome = true) ∧
 ∀ ρ w args', Sim P ρ H w → VL ρ args args' → Calls P f ⟨args'⟩ w (EndR P ρ H w r)
def OkV (P : Program) (o : Oper) (a : Act) (ρ : Ren) (H : Hp) (w : World) (v : Value) (H' : Hp) : Prop :=
 ∀ (next : Act → World → Prop) (Q : Exit → Act → World → Prop), (∀ ρ' v' w', Stp P ρ H w ρ' H' w' → VR ρ' v v' → next (a.put o.dst v') w') → o.wp P a w next Q
def OkP (P : Program) (o : Oper) (a : Act) (ρ : Ren) (H : Hp) (w : World) (c : List PanicEntry) (H' : Hp) : Prop :=
 ∀ (next : Act → World → Prop) (Q : Exit → Act → World → Prop), (∀ ρ' c' w', Stp P ρ H w ρ' H' w' → ChR ρ' c c' → Q (.panic c') a w') → o.wp P a w next Q
theorem OkV.of_run {o : Oper} {a : Act} {v : Value} {H' : Hp} {ρ' : Ren} {v' : Value} {w' : World} (hr : (execOp a.eval o).run P w = .ok (.value v') w') (hs : Stp P ρ H w ρ' H' w') (hv : VR ρ' v v') : OkV P o a ρ H w v H' := by
 intro next Q h
 unfold Oper.wp
 rw [hr]
 exact h ρ' v' w' hs hv
theorem OkV.of_skip {o : Oper} {a : Act} {H' : Hp} {ρ' : Ren} {w' : World} (hr : (execOp a.eval o).run P w = .ok .skip w') (hs : Stp P ρ H w ρ' H' w') : OkV P o a ρ H w undef H' := by
 intro next Q h
 unfold Oper.wp
 rw [hr]
 exact h ρ' undef w' hs (.tuple rfl fun i hi => by simp at hi)
theorem OR.map {ev ev' : Operand → Value} (hv : ∀ x, VR ρ (ev x) (ev' x)) (l : Option Operand) : OR ρ (l.map ev) (l.map ev') := by
 cases l with
 | none => trivial
 | some x => exact hv x
theorem VL.map {ev ev' : Operand → Value} (hv : ∀ x, VR ρ (ev x) (ev' x)) (l : List Operand) : VL ρ (l.map ev) (l.map ev') := by
 induction l with
 | nil => exact VL.nil
 | cons x l ih => exact VL.cons (hv x) ih
theorem parts_rel {ev ev' : Operand → Value} (hv : ∀ x, VR ρ (ev x) (ev' x)) (parts : Array (Nat × Operand)) : ∀ (i : Nat) (x x' : Nat × Value),
   (parts.toList.map fun (i, x) => (i, ev x))[i]? = some x → (parts.toList.map fun (i, x) => (i, ev' x))[i]? = some x' → x.1 = x'.1 ∧ VR ρ x.2 x'.2 := by
 intro i x x' hx hx'
 simp only [List.getElem?_map] at hx hx'
 cases hq : parts.toList[i]? with
 | none => simp [hq] at hx
 | some q => simp only [hq, Option.map_some, Option.some.injEq] at hx hx'; subst hx; subst hx'; exact ⟨rfl, hv _⟩
theorem parts_arr (ev : Operand → Value) (parts : Array (Nat × Operand)) : (parts.toList.map fun (i, x) => (i, ev x)).toArray = parts.map fun (i, x) => (i, ev x) := by apply Array.ext'; simp
theorem evOp_sound {α : Type} {C : Cl} (hC : CallsOK P C) (hS : Sim P ρ H w) {o : Oper} {ev : Operand → Value} {a : Act} (hv : ∀ x, VR ρ (ev x) (a.eval x)) {pn : List PanicEntry → Hp → Option α} {k : Value → Hp → Option α} {r : α}
   (h : evOp P C o ev H pn k = some r) : (∃ v H', k v H' = some r ∧ OkV P o a ρ H w v H') ∨ (∃ c H', pn c H' = some r ∧ OkP P o a ρ H w c H') := by
 have hR := Stp.refl hS
 obtain ⟨dst, op, ty, pos, after, guard⟩ := o
 cases op <;> simp only [evOp] at h <;> try (cases h; done)
 case move x => exact .inl ⟨_, _, h, .of_run (v' := a.eval x) (by simp [execOp]) hR (hv x)⟩
 case assign x => exact .inl ⟨_, _, h, .of_run (v' := a.eval x) (by simp [execOp]) hR (hv x)⟩
 case pick c x y =>
   cases e : pick (ev c) (ev x) (ev y) with
   | none => simp [e] at h
   | some v =>
     simp only [e, Option.bind_some] at h
     refine .inl ⟨_, _, h, ?_⟩
     have hc := hv c
     cases hcc : ev c <;> simp [hcc, pick] at e
     rename_i b
     rw [hcc] at hc
     have hc' : a.eval c = .bool b := by generalize a.eval c = z at hc; cases hc; rfl
     cases b <;> simp at e <;> subst e
     · exact .of_run (v' := a.eval y) (by simp [execOp, hc', asBool]) hR (hv y)
     · exact .of_run (v' := a.eval x) (by simp [execOp, hc', asBool]) hR (hv x)
 case alloc t =>
   cases hz : zeroT P t with
   | none => simp [sb, hz] at h
   | some z =>
     simp only [sb, hz] at h
     obtain ⟨zv, h1, h2, h3⟩ := run_zeroT hz w
     obtain ⟨hs, hp⟩ := new_sound hS t (cs := z) (c := zv.cells) (by rw [h2]; exact VL.flat_refl h3)
     exact .inl ⟨_, _, h, .of_run (by simp [execOp, Instr.alloc, h1, newVar, newRow]) hs hp⟩
 case box t x =>
   cases hb : bx (ev x) with
   | none => simp [hb] at h
   | some cs =>
     simp only [hb, Option.bind_some] at h
     obtain ⟨hs, hp⟩ := new_sound hS t (bx_sound (hv x) hb)
     exact .inl ⟨_, _, h, .of_run (by simp [execOp, Instr.box, newVar, newRow]) hs hp⟩
 case build t parts =>
   cases hz : zeroT P t with
   | none => simp [sb, hz] at h
   | some z =>
     cases hp : placeT P t with
     | none => simp [sb, hz, hp] at h
     | some pl =>
       simp only [sb, hz, hp] at h
       cases hf : fillL pl z (parts.toList.map fun (i, x) => (i, ev x)) with
       | none => simp [hf] at h
       | some cs =>
         simp only [hf, Option.bind_some] at h
         obtain ⟨v', h1, h2⟩ := build_sound (ρ := ρ) (parts := parts.toList.map fun (i, x) => (i, ev x)) (parts' := parts.toList.map fun (i, x) => (i, a.eval x)) hz hp (by simp) (by
           intro i x x' hx hx'
           simp only [List.getElem?_map] at hx hx'
           cases hq : parts.toList[i]? with
           | none => simp [hq] at hx
           | some q => simp only [hq, Option.map_some, Option.some.injEq] at hx hx'; subst hx; subst hx'; exact ⟨rfl, hv _⟩) hf w
         refine .inl ⟨_, _, h, .of_run (v' := v') ?_ hR h2⟩
         have : (parts.toList.map fun (i, x) => (i, a.eval x)).toArray = parts.map fun (i, x) => (i, a.eval x) := by apply Array.ext'; simp
         rw [this] at h1
         simp [execOp, h1]
 case buildSlice t len parts =>
   cases ht : sliceT P t with
   | none => simp [sb, ht] at h
   | some q =>
     obtain ⟨e, sz, by_⟩ := q
     simp only [sb, ht] at h
     cases hz : zeroT P e with
     | none => simp [hz] at h
     | some z =>
       simp only [hz] at h
       split at h
       · rename_i hc
         cases hf : fillL (plA sz) (rep len z) (parts.toList.map fun (i, x) => (i, ev x)) with
         | none => simp [hf] at h
         | some cs =>
           simp only [hf, Option.bind_some] at h
           obtain ⟨ρ', v', w', h1, h2, h3⟩ := buildSlice_sound hS ht hz hc.1 hc.2 (parts := parts.toList.map fun (i, x) => (i, ev x)) (parts' := parts.toList.map fun (i, x) => (i, a.eval x)) (by simp) (parts_rel hv parts) hf
           rw [parts_arr] at h1
           exact .inl ⟨_, _, h, .of_run (v' := v') (by simp [execOp, h1]) h2 h3⟩
       · cases h
 case makeFunc fn first cap =>
   refine .inl ⟨_, _, h, .of_run (v' := .func fn (first.map a.eval) (cap.map a.eval)) (by simp [execOp, Instr.makeFunc]) hR ?_⟩
   have e1 : first.map a.eval = ⟨first.toList.map a.eval⟩ := by apply Array.ext'; simp
   have e2 : cap.map a.eval = ⟨cap.toList.map a.eval⟩ := by apply Array.ext'; simp
   rw [e1, e2]
   have h1 := VL.map hv first.toList
   have h2 := VL.map hv cap.toList
   exact .func h1.1 h1.2 h2.1 h2.2
 case makeInterface t x =>
   cases hu : P.underlying t with
   | none => simp [sb, hu] at h
   | some d =>
     simp only [sb, hu] at h
     split at h
     · cases h
     · rename_i hni
       refine .inl ⟨_, _, h, .of_run (v' := .iface t (a.eval x)) ?_ hR (.iface (hv x))⟩
       cases d <;> first | exact absurd rfl (hni _) | simp [execOp, Instr.makeInterface, run_underlying hu]
 case typeAssert x xt t ok =>
   cases hu : P.underlying t with
   | none => simp [sb, hu] at h
   | some d =>
     simp only [sb, hu] at h
     split at h
     · cases h
     · rename_i hni
       cases hz : zeroV P t with
       | none => simp [hz] at h
       | some z =>
         simp only [hz] at h
         cases hl : tasr t ok z (ev x) with
         | none => simp [hl] at h
         | some v =>
           simp only [hl, Option.bind_some] at h
           obtain ⟨v', h1, h2⟩ := tasr_sound (xt := xt) ⟨d, hu, fun m e => hni m e⟩ hz (hv x) hl w
           exact .inl ⟨_, _, h, .of_run (v' := v') (by simp [execOp, h1]) hR h2⟩
 case makeSlice t l c =>
   cases ht : sliceT P t with
   | none => simp [sb, ht] at h
   | some q =>
     obtain ⟨e, sz, by_⟩ := q
     simp only [sb, ht] at h
     cases hz : zeroT P e with
     | none => simp [hz] at h
     | some z =>
       simp only [hz] at h
       split at h
       · rename_i hzl
         cases hl : mkS sz by_ z (ev l) (ev c) H with
         | none => simp [hl] at h
         | some p =>
           obtain ⟨v, H'⟩ := p
           simp only [hl, Option.bind_some] at h
           obtain ⟨ρ', v', w', h1, h2, h3⟩ := mkS_sound hS ht hz hzl (hv l) (hv c) hl
           exact .inl ⟨_, _, h, .of_run (v' := v') (by simp [execOp, h1]) h2 h3⟩
       · cases h
 case makeMap t r =>
   split at h
   · have hst := hS.new (.map #[] 0) (.mp [] 0) 0 ⟨rfl, #[], by
       show (w.heap.push _)[w.heap.size]? = _
       simp, rfl, fun i x hx => by simp at hx⟩
     have hm : (ρ.up H.next (w.heap.size, 0) 0) H.next = some (w.heap.size, 0) := by simp [Ren.up]
     exact .inl ⟨_, _, h, .of_run (v' := .map (some w.heap.size)) (by simp [execOp, Instr.makeMap, newObj, Sem.run]) hst (.map hm)⟩
   · cases h
 case lookup t m x ok =>
   cases hu : P.underlying t with
   | none => simp [sb, hu] at h
   | some d =>
     simp only [sb, hu] at h
     split at h
     · rename_i kt e
       cases hk : P.underlying kt with
       | none => simp [hk] at h
       | some dk =>
         simp only [hk] at h
         split at h
         · rename_i kk
           cases hz : zeroV P e with
           | none => simp [hz] at h
           | some z =>
             simp only [hz] at h
             cases hl : lkup false z ok (ev m) (ev x) H with
             | none => simp [hl] at h
             | some v =>
               simp only [hl, Option.bind_some] at h
               obtain ⟨v', h1, h2⟩ := lkup_sound hS hu hk (q := false) ⟨kk, rfl⟩ hz (hv m) (hv x) hl
               exact .inl ⟨_, _, h, .of_run (v' := v') (by simp [execOp, h1]) hR h2⟩
         · cases hz : zeroV P e with
           | none => simp [hz] at h
           | some z =>
             simp only [hz] at h
             cases hl : lkup true z ok (ev m) (ev x) H with
             | none => simp [hl] at h
             | some v =>
               simp only [hl, Option.bind_some] at h
               obtain ⟨v', h1, h2⟩ := lkup_sound hS hu hk (q := true) rfl hz (hv m) (hv x) hl
               exact .inl ⟨_, _, h, .of_run (v' := v') (by simp [execOp, h1]) hR h2⟩
         · cases h
     · cases h
 case insert t m x y =>
   cases hu : P.underlying t with
   | none => simp [sb, hu] at h
   | some d =>
     simp only [sb, hu] at h
     split at h
     · rename_i kt e
       cases hk : P.underlying kt with
       | none => simp [hk] at h
       | some dk =>
         simp only [hk] at h
         split at h
         · rename_i kk
           cases hl : mupd false (ev m) (ev x) (ev y) H with
           | none => simp [hl] at h
           | some H' =>
             simp only [hl, Option.bind_some] at h
             obtain ⟨w', h1, h2⟩ := mupd_sound hS hu hk (q := false) ⟨kk, rfl⟩ (hv m) (hv x) (hv y) hl
             exact .inl ⟨_, _, h, .of_skip (by simp [execOp, h1]) h2⟩
         · cases hl : mupd true (ev m) (ev x) (ev y) H with
           | none => simp [hl] at h
           | some H' =>
             simp only [hl, Option.bind_some] at h
             obtain ⟨w', h1, h2⟩ := mupd_sound hS hu hk (q := true) rfl (hv m) (hv x) (hv y) hl
             exact .inl ⟨_, _, h, .of_skip (by simp [execOp, h1]) h2⟩
         · cases h
     · cases h
 case mapUpdate t m x y =>
   cases hu : P.underlying t with
   | none => simp [sb, hu] at h
   | some d =>
     simp only [sb, hu] at h
     split at h
     · rename_i kt e
       cases hk : P.underlying kt with
       | none => simp [hk] at h
       | some dk =>
         simp only [hk] at h
         split at h
         · rename_i kk
           cases hl : mupd false (ev m) (ev x) (ev y) H with
           | none => simp [hl] at h
           | some H' =>
             simp only [hl, Option.bind_some] at h
             obtain ⟨w', h1, h2⟩ := mupd_sound hS hu hk (q := false) ⟨kk, rfl⟩ (hv m) (hv x) (hv y) hl
             exact .inl ⟨_, _, h, .of_skip (by simp [execOp, h1]) h2⟩
         · cases hl : mupd true (ev m) (ev x) (ev y) H with
           | none => simp [hl] at h
           | some H' =>
             simp only [hl, Option.bind_some] at h
             obtain ⟨w', h1, h2⟩ := mupd_sound hS hu hk (q := true) rfl (hv m) (hv x) (hv y) hl
             exact .inl ⟨_, _, h, .of_skip (by simp [execOp, h1]) h2⟩
         · cases h
     · cases h
 case panic x =>
   cases hx : ev x <;> simp only [hx, panI] at h <;> try (cases h; done)
   rename_i t y
   have hvx := hv x
   rw [hx] at hvx
   generalize hq : a.eval x = q at hvx
   cases hvx with
   | @iface _ _ y' hy =>
     refine .inr ⟨_, _, h, fun next Q hn => ?_⟩
     unfold Oper.wp
     have : (execOp a.eval ⟨dst, .panic x, ty, pos, after, guard⟩).run P w = .halt (.panic (.iface t y')) w := by
       simp [execOp, Instr.panic, hq, goPanic, Sem.run]
     rw [this]
     refine hn ρ [{ v := .iface t y', recovered := false }] w hR ⟨rfl, fun i z z' hz hz' => ?_⟩
     cases i with
     | zero => simp at hz hz'; subst hz; subst hz'; exact ⟨.iface hy, rfl⟩
     | succ i => simp at hz
 case load t x =>
   cases hg : aggT P t with
   | none => simp [sb, hg] at h
   | some g =>
     cases g with
     | true =>
       cases hn : sizeT P t with
       | none => simp [sb, hg, hn] at h
       | some n =>
         simp only [sb, hg, hn] at h
         cases hl : ldN n (ev x) H with
         | none => simp [hl] at h
         | some v =>
           simp only [hl, Option.bind_some] at h
           obtain ⟨ad, cs', h1, h2, h3⟩ := ldN_sound hS (hv x) hl
           exact .inl ⟨_, _, h, .of_run (v' := .agg cs') (by simp [execOp, Instr.loadAt, h1, Instr.sureAddr, loadVar, run_aggT hg, run_sizeT hn, h2]) hR h3⟩
     | false =>
       simp only [sb, hg] at h
       cases hl : ld (ev x) H with
       | none => simp [hl] at h
       | some v =>
         simp only [hl, Option.bind_some] at h
         obtain ⟨ad, v', h1, h2, h3⟩ := ld_sound hS (hv x) hl
         exact .inl ⟨_, _, h, .of_run (v' := v') (by simp [execOp, Instr.loadAt, h1, Instr.sureAddr, loadVar, run_aggT hg, h2]) hR h3⟩
 case store t x y =>
   cases hn : sizeT P t with
   | none => simp [sb, hn] at h
   | some n =>
     simp only [sb, hn] at h
     cases hl : st n (ev x) (ev y) H with
     | none => simp [hl] at h
     | some H' =>
       simp only [hl, Option.bind_some] at h
       obtain ⟨w', h1, h2⟩ := st_sound hS hn (hv x) (hv y) hl
       exact .inl ⟨_, _, h, .of_skip (by simp [execOp, h1]) h2⟩
 case nilCheck x =>
   cases hl : nilc (ev x) with
   | none => simp [hl] at h
   | some v =>
     simp only [hl, Option.bind_some] at h
     refine .inl ⟨_, _, h, ?_⟩
     have hx := hv x
     generalize hq : a.eval x = q at hx
     generalize ev x = p at hx hl
     cases hx with
     | ptr hr => simp [nilc] at hl; subst hl; exact .of_run (by simp [execOp, hq]) hR (.ptr hr)
     | @func fn f f' c c' a1 a2 a3 a4 =>
       cases fn <;> simp [nilc] at hl
       subst hl
       exact .of_run (by simp [execOp, hq]) hR (.func a1 a2 a3 a4)
     | _ => simp [nilc, Ev.dead] at hl
 case binOp op t x y yt =>
   cases hs : eqS P t with
   | some sh =>
     simp only [hs] at h
     cases hl : beqA sh op (ev x) (ev y) with
     | none => simp [hl] at h
     | some v =>
       simp only [hl, Option.bind_some] at h
       obtain ⟨h1, h2⟩ := beqA_sound (xo := x) (yo := y) hs (hv x) (hv y) hl w
       exact .inl ⟨_, _, h, .of_run (v' := v) ((Sem.run_bind P w _ _).trans (by rw [h1]; rfl)) hR (VR.flatN_refl 4 v h2)⟩
   | none =>
     simp only [hs] at h
     cases hl : bin (eqK P t x y) op (ev x) (ev y) with
     | none => simp [hl] at h
     | some v =>
       simp only [hl, Option.bind_some] at h
       obtain ⟨h1, h2⟩ := bin_sound (xo := x) (yo := y) (hv x) (hv y) hl w
       exact .inl ⟨_, _, h, .of_run (v' := v) ((Sem.run_bind P w _ _).trans (by rw [h1]; rfl)) hR (VR.flatN_refl 4 v h2)⟩
 case unOp op t x =>
   cases hl : un op (ev x) with
   | none => simp [hl] at h
   | some v =>
     simp only [hl, Option.bind_some] at h
     obtain ⟨h1, h2⟩ := un_sound (P := P) (hv x) hl w
     exact .inl ⟨_, _, h, .of_run (v' := v) (by simp [execOp, h1]) hR (VR.flatN_refl 4 v h2)⟩
 case convert s d x =>
   cases hs : P.underlying s with
   | none => simp [sb, hs] at h
   | some us =>
     cases hd : P.underlying d with
     | none => simp [sb, hs, hd] at h
     | some ud =>
       simp only [sb, hs, hd] at h
       split at h
       · rename_i j
         cases hl : cvI j (ev x) with
         | none => simp [hl] at h
         | some v =>
           simp only [hl, Option.bind_some] at h
           obtain ⟨h1, h2⟩ := cvI_sound hd ⟨us, hs⟩ (hv x) hl w
           exact .inl ⟨_, _, h, .of_run (v' := v) (by simp [execOp, h1]) hR (VR.flatN_refl 4 v h2)⟩
       · cases hl : cvS (ev x) with
         | none => simp [hl] at h
         | some v =>
           simp only [hl, Option.bind_some] at h
           obtain ⟨h1, h2⟩ := cvS_sound hs hd (hv x) hl w
           exact .inl ⟨_, _, h, .of_run (v' := v) (by simp [execOp, h1]) hR (VR.flatN_refl 4 v h2)⟩
       · rename_i e
         cases he : P.underlying e with
         | none => simp [he] at h
         | some ue =>
           simp only [he] at h
           split at h
           · cases hl : cvB (ev x) H with
             | none => simp [hl] at h
             | some p =>
               obtain ⟨v, H'⟩ := p
               simp only [hl, Option.bind_some] at h
               obtain ⟨ρ', v', w', h1, h2, h3⟩ := cvB_sound hS hs hd he (hv x) hl
               exact .inl ⟨_, _, h, .of_run (v' := v') (by simp [execOp, h1]) h2 h3⟩
           · cases h
       · rename_i e
         cases he : P.underlying e with
         | none => simp [he] at h
         | some ue =>
           simp only [he] at h
           split at h
           · cases hl : cvT (ev x) H with
             | none => simp [hl] at h
             | some v =>
               simp only [hl, Option.bind_some] at h
               obtain ⟨h1, h2⟩ := cvT_sound hS hs he hd (hv x) hl
               exact .inl ⟨_, _, h, .of_run (v' := v) (by simp [execOp, h1]) hR (VR.flatN_refl 4 v h2)⟩
           · cases h
       · cases h
 case fieldAddr s x f =>
   cases ht : fieldT P s f with
   | none => simp [sb, ht] at h
   | some q =>
     obtain ⟨g, n, off⟩ := q
     simp only [sb, ht] at h
     cases hl : fa off (ev x) with
     | none => simp [hl] at h
     | some v =>
       simp only [hl, Option.bind_some] at h
       obtain ⟨v', h1, h2⟩ := fa_sound ht (hv x) hl w
       exact .inl ⟨_, _, h, .of_run (v' := v') (by simp [execOp, h1]) hR h2⟩
 case field s x f =>
   cases ht : fieldT P s f with
   | none => simp [sb, ht] at h
   | some q =>
     obtain ⟨g, n, off⟩ := q
     simp only [sb, ht] at h
     cases hl : fld g n off (ev x) with
     | none => simp [hl] at h
     | some v =>
       simp only [hl, Option.bind_some] at h
       obtain ⟨v', h1, h2⟩ := fld_sound ht (hv x) hl w
       exact .inl ⟨_, _, h, .of_run (v' := v') (by simp [execOp, h1]) hR h2⟩
 case indexAddr t x i =>
   cases ht : elemT P t with
   | none => simp [sb, ht] at h
   | some q =>
     obtain ⟨n, g, sz⟩ := q
     cases n with
     | none =>
       simp only [sb, ht] at h
       cases hl : sa sz (ev x) (ev i) with
       | none => simp [hl] at h
       | some v =>
         simp only [hl, Option.bind_some] at h
         obtain ⟨v', h1, h2⟩ := sa_sound ht (hv x) (hv i) hl w
         exact .inl ⟨_, _, h, .of_run (v' := v') (by simp [execOp, h1]) hR h2⟩
     | some n =>
       simp only [sb, ht] at h
       cases hl : ia n sz (ev x) (ev i) with
       | none => simp [hl] at h
       | some v =>
         simp only [hl, Option.bind_some] at h
         obtain ⟨v', h1, h2⟩ := ia_sound ht (hv x) (hv i) hl w
         exact .inl ⟨_, _, h, .of_run (v' := v') (by simp [execOp, h1]) hR h2⟩
 case index t x i =>
   cases hu : P.underlying t with
   | none => simp [sb, hu] at h
   | some ut =>
     simp only [sb, hu] at h
     split at h
     · cases hl : sx (ev x) (ev i) with
       | none => simp [hl] at h
       | some v =>
         simp only [hl, Option.bind_some] at h
         obtain ⟨v', h1, h2⟩ := sx_sound hu (hv x) (hv i) hl w
         exact .inl ⟨_, _, h, .of_run (v' := v') (by simp [execOp, h1]) hR h2⟩
     · cases ht : elemT P t with
       | none => simp [ht] at h
       | some q =>
         obtain ⟨n, g, sz⟩ := q
         cases n with
         | none => simp [ht] at h
         | some n =>
           simp only [ht] at h
           cases hl : ix g n sz (ev x) (ev i) with
           | none => simp [hl] at h
           | some v =>
             simp only [hl, Option.bind_some] at h
             obtain ⟨v', h1, h2⟩ := ix_sound ht (hv x) (hv i) hl w
             exact .inl ⟨_, _, h, .of_run (v' := v') (by simp [execOp, h1]) hR h2⟩
 case slice t x l hi m =>
   cases m with
   | some _ => simp at h
   | none =>
     cases hu : P.underlying t with
     | none => simp [sb, hu] at h
     | some ut =>
       simp only [sb, hu] at h
       split at h
       · cases hl : slS (ev x) (l.map ev) (hi.map ev) with
         | none => simp [hl] at h
         | some v =>
           simp only [hl, Option.bind_some] at h
           obtain ⟨h1, h2⟩ := slS_sound hu (hv x) (OR.map hv l) (OR.map hv hi) hl w
           exact .inl ⟨_, _, h, .of_run (v' := v) (by simp [execOp, h1]) hR (VR.flatN_refl 4 v h2)⟩
       · rename_i e
         cases hz : sizeT P e with
         | none => simp [hz] at h
         | some sz =>
           simp only [hz] at h
           cases hl : slV sz (ev x) (l.map ev) (hi.map ev) with
           | none => simp [hl] at h
           | some v =>
             simp only [hl, Option.bind_some] at h
             obtain ⟨v', h1, h2⟩ := slV_sound hu hz (hv x) (OR.map hv l) (OR.map hv hi) hl w
             exact .inl ⟨_, _, h, .of_run (v' := v') (by simp [execOp, h1]) hR h2⟩
       · rename_i n e
         cases hz : sizeT P e with
         | none => simp [hz] at h
         | some sz =>
           simp only [hz] at h
           cases hl : slA n sz (ev x) (l.map ev) (hi.map ev) H with
           | none => simp [hl] at h
           | some v =>
             simp only [hl, Option.bind_some] at h
             obtain ⟨v', h1, h2⟩ := slA_sound hS hu hz (hv x) (OR.map hv l) (OR.map hv hi) hl
             exact .inl ⟨_, _, h, .of_run (v' := v') (by simp [execOp, h1]) hR h2⟩
       · cases h
 case extract t i =>
   cases hl : ext1 (ev t) i with
   | none => simp [hl] at h
   | some v =>
     simp only [hl, Option.bind_some] at h
     obtain ⟨v', h1, h2⟩ := ext1_sound (P := P) (hv t) hl w
     exact .inl ⟨_, _, h, .of_run (v' := v') (by simp [execOp, h1]) hR h2⟩
 case call c =>
   obtain ⟨callee, args, argTypes⟩ := c
   cases callee with
   | invoke recv m => simp at h
   | builtin b =>
     simp only at h
     split at h
     · split at h
       · rename_i t x ht hx
         have ht' : argTypes = #[t] := by apply Array.ext'; simpa using ht
         have hx' : args = #[x] := by apply Array.ext'; simpa using hx
         subst ht'; subst hx'
         cases hu : P.underlying t with
         | none => simp [sb, hu] at h
         | some ut =>
           have hex : ∀ v, (Builtin.len_ #[t] ty #[a.eval x]).run P w = .ok v w → ∀ b2, (execOp a.eval ⟨dst, .call ⟨.builtin .len, #[x], #[t]⟩, ty, pos, after, guard⟩).run P w = .ok (.value v) w ∨ b2 = false := by
             intro v h1 b2
             exact .inl (by simp [execOp, resolve, invoke, builtin, h1])
           simp only [sb, hu] at h
           split at h
           · cases hl : len 0 (ev x) H with
             | none => simp [hl] at h
             | some v =>
               simp only [hl, Option.bind_some] at h
               obtain ⟨h1, h2⟩ := len_sound (ty := ty) (t := t) (q := 0) hS (by simp [hu]) (hv x) hl
               exact .inl ⟨_, _, h, .of_run (v' := v) (by simp [execOp, resolve, invoke, builtin, h1]) hR (VR.flatN_refl 4 v h2)⟩
           · cases hl : len 1 (ev x) H with
             | none => simp [hl] at h
             | some v =>
               simp only [hl, Option.bind_some] at h
               obtain ⟨h1, h2⟩ := len_sound (ty := ty) (t := t) (q := 1) hS (by simp [hu]) (hv x) hl
               exact .inl ⟨_, _, h, .of_run (v' := v) (by simp [execOp, resolve, invoke, builtin, h1]) hR (VR.flatN_refl 4 v h2)⟩
           · cases hl : len 2 (ev x) H with
             | none => simp [hl] at h
             | some v =>
               simp only [hl, Option.bind_some] at h
               obtain ⟨h1, h2⟩ := len_sound (ty := ty) (t := t) (q := 2) hS (by simp [hu]) (hv x) hl
               exact .inl ⟨_, _, h, .of_run (v' := v) (by simp [execOp, resolve, invoke, builtin, h1]) hR (VR.flatN_refl 4 v h2)⟩
           · rename_i n _
             have h1 : (Builtin.len_ #[t] ty #[a.eval x]).run P w = .ok (goInt n) w := by simp [Builtin.len_, run_underlying hu]
             exact .inl ⟨_, _, h, .of_run (v' := goInt n) (by simp [execOp, resolve, invoke, builtin, h1]) hR (.int _ _)⟩
           · cases h
       · cases h
     · split at h
       · rename_i t u s x ht hx
         have ht' : argTypes = #[t, u] := by apply Array.ext'; simpa using ht
         have hx' : args = #[s, x] := by apply Array.ext'; simpa using hx
         subst ht'; subst hx'
         cases hst : sliceT P t with
         | none => simp [sb, hst] at h
         | some q =>
           obtain ⟨e, sz, by_⟩ := q
           simp only [sb, hst] at h
           cases hu : P.underlying u with
           | none => simp [hu] at h
           | some du =>
             simp only [hu] at h
             have fin : (∃ d, du = .slice d) ∨ du = .string → ∀ z, zeroT P e = some z → z.length = sz →
                 ((srcC sz (ev x) H).bind fun p => (appd sz by_ (ev s) p.1 p.2 H).bind fun q => k q.1 q.2) = some r →
                 (∃ v H', k v H' = some r ∧ OkV P ⟨dst, .call ⟨.builtin .append, #[s, x], #[t, u]⟩, ty, pos, after, guard⟩ a ρ H w v H') := by
               intro hdu z hz hzl h
               cases hsrc : srcC sz (ev x) H with
               | none => simp [hsrc] at h
               | some p =>
                 obtain ⟨m, xs⟩ := p
                 simp only [hsrc, Option.bind_some] at h
                 cases hap : appd sz by_ (ev s) m xs H with
                 | none => simp [hap] at h
                 | some p =>
                   obtain ⟨v, H'⟩ := p
                   simp only [hap, Option.bind_some] at h
                   obtain ⟨ρ', v', w', h1, h2, h3⟩ := appd_sound (ty := ty) hS hst (by rcases hdu with ⟨d, rfl⟩ | rfl; exact .inr ⟨d, hu⟩; exact .inl hu) hz hzl (hv s) (hv x) hsrc hap
                   exact ⟨_, _, h, .of_run (v' := v') (by simp [execOp, resolve, invoke, builtin, h1]) h2 h3⟩
             split at h
             · rename_i d
               split at h
               · cases hz : zeroT P e with
                 | none => simp [hz] at h
                 | some z =>
                   simp only [hz] at h
                   split at h
                   · rename_i hzl; exact .inl (fin (.inl ⟨d, rfl⟩) z hz hzl h)
                   · cases h
               · cases h
             · split at h
               · cases hz : zeroT P e with
                 | none => simp [hz] at h
                 | some z =>
                   simp only [hz] at h
                   split at h
                   · rename_i hzl; exact .inl (fin (.inr rfl) z hz hzl h)
                   · cases h
               · cases h
             · cases h
       · cases h
     · split at h
       · rename_i x l hx
         have hx' : args = (x :: l).toArray := by apply Array.ext'; simpa using hx
         subst hx'
         cases hl : mxI true (ev x) (l.map ev) with
         | none => simp [hl] at h
         | some v =>
           simp only [hl, Option.bind_some] at h
           obtain ⟨h1, h2⟩ := mxI_sound true (P := P) (ρ := ρ) (l.map ev) (l.map a.eval) (ev x) (a.eval x) v (hv x) (VL.map hv l) hl w
           simp only [if_true] at h1
           exact .inl ⟨_, _, h, .of_run (v' := v) (by simp [execOp, resolve, invoke, builtin, Builtin.max_, h1]) hR (VR.flatN_refl 4 v h2)⟩
       · cases h
     · split at h
       · rename_i x l hx
         have hx' : args = (x :: l).toArray := by apply Array.ext'; simpa using hx
         subst hx'
         cases hl : mxI false (ev x) (l.map ev) with
         | none => simp [hl] at h
         | some v =>
           simp only [hl, Option.bind_some] at h
           obtain ⟨h1, h2⟩ := mxI_sound false (P := P) (ρ := ρ) (l.map ev) (l.map a.eval) (ev x) (a.eval x) v (hv x) (VL.map hv l) hl w
           simp only [Bool.false_eq_true, if_false] at h1
           exact .inl ⟨_, _, h, .of_run (v' := v) (by simp [execOp, resolve, invoke, builtin, Builtin.min_, h1]) hR (VR.flatN_refl 4 v h2)⟩
       · cases h
     · cases h
   | value f =>
     simp only at h
     have hcl : ∃ g first cap, ev f = .func (.func g) first cap := by
       cases hf : ev f <;> simp only [hf, clV] at h <;> try (simp [callK] at h; done)
       rename_i fn a b
       cases fn <;> simp only [] at h <;> first | exact ⟨_, _, _, rfl⟩ | (simp [callK] at h; done)
     obtain ⟨g, first, cap, hf⟩ := hcl
     · have hvf := hv f
       simp only [hf, clV] at h
       rw [hf] at hvf
       generalize hq : a.eval f = q at hvf
       obtain ⟨first⟩ := first
       obtain ⟨cap⟩ := cap
       cases hvf with
       | @func _ _ f' _ c' a1 a2 a3 a4 =>
         have hvl : VL ρ (first ++ args.toList.map ev ++ cap) (f' ++ args.toList.map a.eval ++ c') := VL.append (VL.append ⟨a1, a2⟩ (VL.map hv _)) ⟨a3, a4⟩
         change callK (C g (first ++ args.toList.map ev ++ cap) H) pn k = some r at h
         cases hc : C g (first ++ args.toList.map ev ++ cap) H with
         | none => rw [hc] at h; simp [callK] at h
         | some r =>
           obtain ⟨⟨fn, hfn, hname, hbody⟩, hcall⟩ := hC _ _ _ _ hc
           have hcall := hcall ρ w _ hS hvl
           have hex : (execOp a.eval ⟨dst, .call ⟨.value f, args, argTypes⟩, ty, pos, after, guard⟩).run P w = .ok (.enter g ⟨f' ++ args.toList.map a.eval ++ c'⟩) w := by
             cases hbb : fn.body with
             | none => simp [hbb] at hbody
             | some cc =>
               simp [execOp, resolve, hq, Deferred.ofValue, invoke, callFunc, hfn, hname, hbb]
           obtain ⟨out, H'⟩ := r
           cases out with
           | ret v =>
             simp only [hc, callK] at h
             refine .inl ⟨v, H', h, ?_⟩
             intro next Q hn
             unfold Oper.wp
             rw [hex]
             refine Calls.mono hcall ?_
             rintro e w' ⟨ρ', hst, v', rfl, hvr⟩
             exact hn ρ' v' w' hst hvr
           | pan ch =>
             simp only [hc, callK] at h
             refine .inr ⟨ch, H', h, ?_⟩
             intro next Q hn
             unfold Oper.wp
             rw [hex]
             refine Calls.mono hcall ?_
             rintro e w' ⟨ρ', hst, c', rfl, hcr⟩
             exact hn ρ' c' w' hst hcr
theorem evOp_wp {α : Type} {C : Cl} (hC : CallsOK P C) (hS : Sim P ρ H w) {o : Oper} {ev : Operand → Value} {a : Act} (hv : ∀ x, VR ρ (ev x) (a.eval x)) {pn : List PanicEntry → Hp → Option α} {k : Value → Hp → Option α} {r : α}
   (h : evOp P C o ev H pn k = some r) {next : Act → World → Prop} {Q : Exit → Act → World → Prop}
   (hk : ∀ v H', k v H' = some r → ∀ ρ' v' w', Stp P ρ H w ρ' H' w' → VR ρ' v v' → next (a.put o.dst v') w')
   (hp : ∀ c H', pn c H' = some r → ∀ ρ' c' w', Stp P ρ H w ρ' H' w' → ChR ρ' c c' → Q (.panic c') a w') : o.wp P a w next Q := by
 rcases evOp_sound hC hS hv h with ⟨v, H', h1, h2⟩ | ⟨c, H', h1, h2⟩
 · exact h2 next Q (hk v H' h1)
 · exact h2 next Q (hp c H' h1)
end Go.Ev
