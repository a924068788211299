/- The evaluator's calls, opened one at a time. -/
import Derived.Test.YtbaooebafijenaaGreatDoorHvDrawB
import Derived.ChangeSame
set_option linter.unusedSimpArgs false
set_option linter.unusedVariables false
namespace Go.Ev
open Go
set_option linter.unusedSectionVars false
variable [Tabs]
variable {P : Program}
structure Same (W W' : World) : Prop where
 os : W'.os = W.os
 out : W'.output = W.output
 size : W.heap.size ≤ W'.heap.size
 heap : ∀ b, b < W.heap.size → W'.heap[b]? = W.heap[b]?
theorem Same.kept {W W' : World} (h : Same W W') (may : MemPlace → Prop) : W.keptBut W' may := by
 refine ⟨h.os, h.out, fun i hi => ?_⟩
 rw [h.heap i hi]
 split
 · rename_i e1 e2
   rw [e1] at e2
   cases e2
   exact ⟨rfl, rfl, rfl, fun _ _ => rfl⟩
 · rename_i e1 e2
   rw [e1] at e2
   cases e2
   exact .inr ⟨rfl, rfl⟩
 · rfl
theorem Same.frozen {W W' : World} (h : Same W W') (a : Addr) (ha : a.block < W.heap.size) : W'.frozen? a = W.frozen? a := by
 unfold World.frozen?
 rw [h.heap a.block ha]
theorem Stp.same {ρ ρ' : Ren} {H H' : Hp} {w w' : World} (h : Stp P ρ H w ρ' H' w') (hS : Sim P ρ H w) (hl : H.lim = H.next) : Same w w' where
 os := h.os
 out := h.out
 size := h.size
 heap := fun b hb => h.keep b hb fun i d hw hr => by
   have h1 := (hS.low i b d hr).1
   have h2 := hw.1
   omega
theorem calls_same {C : Cl} (hC : CallsOK P C) {f : FuncId} {args : List Value} {H H' : Hp} {v : Value} (h : C f args H = some (.ret v, H')) (hl : H.lim = H.next) (hv : ∀ ρ v', VR ρ v v' → v' = v)
   {ρ : Ren} {w : World} (hS : Sim P ρ H w) {args' : List Value} (ha : VL ρ args args') : Calls P f ⟨args'⟩ w fun e w' => e = .returned v ∧ Same w w' := by
 refine Calls.mono ((hC f args H _ h).2 ρ w args' hS ha) ?_
 rintro e w' ⟨ρ', hst, v', rfl, hvr⟩
 exact ⟨by rw [hv ρ' v' hvr], hst.same hS hl⟩
theorem VR.bool_eq {b : Bool} (ρ : Ren) (v' : Value) (h : VR ρ (.bool b) v') : v' = .bool b := by cases h; rfl
theorem Sim.start {ρ : Ren} {H : Hp} {w : World} (hl : H.lim = H.next) (hlow : ∀ i b d, ρ i = some (b, d) → i < H.next ∧ b < w.heap.size) (hglob : ∀ g, g < P.globals.size → GlobR ρ g)
   (hgn : Tabs.gn ≤ H.next) (hflr : ∀ i, i < Tabs.gn → H.get i = Tabs.base.get i) (hgg : P.globals.size ≤ Tabs.gn) (htab : ∀ i x, i < Tabs.gn → Tabs.base.get i = some x → ∃ cs, x = .ro cs ∧ cs.all flD = true)
   (hblk : ∀ i x b d, H.get i = some x → ρ i = some (b, d) → BlkR ρ w b d x) : Sim P ρ H w where
 blk := hblk
 sep := fun i j b d b2 d2 hi _ _ hri _ => by
   have h1 := (hlow i b d hri).1
   have h2 : H.lim ≤ i := hi.1
   omega
 low := hlow
 lim := Nat.le_of_eq hl
 glob := hglob
 gn := by rw [hl]; exact hgn
 flr := hflr
 gg := hgg
 tab := htab
section
open Go.ChangeShapes Go.WideShapes
theorem Same.post {T : Type} {enc : TypeId × Value → T} {f : Func} {s : ChangeSpec} {apart fresh handsOn again : Bool} {W W' : World} {args : Array Value} {v : Value} {ds gs : List (DataW T)} {before pa pv : List MemPlace} (hS : Same W W')
   (hW : DataW.Whole enc P f.params.toList s.vars apart W args.toList ds gs before) (hps : before = pa ++ pv)
   (hres : ∀ (b : Nat) (sp : Nat → Bool) (hd : Bool), DataW.TrodAll enc P W' b sp hd f.resultTypes.toList (v.resultList f.resultTypes.size) (s.fn T (ds ++ gs)).results [])
   (hargs : ∀ sp : Nat → Bool, (∀ p ∈ before, sp p.block = true) → DataW.TrodAll enc P W' 0 sp true f.params.toList args.toList (s.fn T (ds ++ gs)).args pa)
   (hvars : ∀ sp : Nat → Bool, (∀ p ∈ before, sp p.block = true) → DataW.TrodVars enc P W' sp s.vars (s.fn T (ds ++ gs)).vars pv)
   (hok : ∀ (j : Nat) (t : TypeId) (r : Value), f.resultTypes[j]? = some t → (v.resultList f.resultTypes.size)[j]? = some r → Value.okWide P W' .any 0 t r) :
   s.post enc P f apart fresh handsOn again W args v W' := by
 have hlt : ∀ p ∈ before, p.block < W.heap.size := fun p hp => hW.lt p hp
 have hkept := hS.kept (· ∈ before)
 have whole : ∀ p ∈ before, p ∈ pa ++ pv := fun p hp => hps ▸ hp
 refine ⟨ds, gs, before, [], pa, pv, hW, hres _ _ _, hargs _ (fun p hp => decide_eq_true (hlt p hp)), hvars _ (fun p hp => decide_eq_true (hlt p hp)), World.keptBut_mono (fun p hp => ⟨hp, .inr (List.mem_append.1 (whole p hp))⟩) hkept, fun _ => ⟨hok, ?_⟩⟩
 obtain ⟨_, _, _, _, _, hz, hn⟩ := hW
 have hback : ∀ p, p ∈ [] ++ pa ++ pv → p ∈ before := fun p hp => by rw [hps]; simpa using hp
 refine ⟨_, _, [] ++ pa ++ pv, ⟨[] ++ pa, pv, trodAll_append (hargs _ (fun _ _ => rfl)) (hres _ _ _), hvars _ (fun _ _ => rfl), rfl, fun b off hp => ?_, fun ha => ?_⟩, fun p hp _ => hback p hp⟩
 · rw [hS.frozen _ (hlt _ (hback _ hp))]
   exact hz b off (hback _ hp)
 · have := hn ha
   rw [hps] at this
   simpa using this
end
end Go.Ev
namespace Go.Ev
open Go
set_option linter.unusedSectionVars false
variable [Tabs]
theorem evCall_ext {cf : Cfg} {f : FuncId} {args : List Value} {v : Value} (hx : cf.ext f args = some v) (n : Nat) (H : Hp) : evCall cf (n + 1) f args H = some (.ret v, H) := by
 simp [evCall, hx]
theorem evCall_exh {cf : Cfg} {f : FuncId} {args : List Value} {r : Out × Hp} (hx : cf.ext f args = none) {H : Hp} (he : cf.exh f args H = some r) (n : Nat) : evCall cf (n + 1) f args H = some r := by
 simp [evCall, hx, he]
theorem evCall_open {cf : Cfg} {f : FuncId} {fn : Func} {args : List Value} (hx : cf.ext f args = none) {H : Hp} (he : cf.exh f args H = none) (hf : cf.P.funcs[f]? = some fn) (hq : cf.quiet f = false) (n : Nat) :
   evCall cf (n + 1) f args H = evFn cf.P (evCall cf n) n (cf.live f) fn args H := by
 simp [evCall, hx, he, hf, hq]
theorem pkA_flat (H : Hp) : ∀ (l : List Value) (bl : Pk), l.all flat = true → pkA H l bl = some (l, bl)
 | [], _, _ => rfl
 | v :: l, bl, h => by
   simp only [List.all_cons, Bool.and_eq_true] at h
   simp [pkA, pkV, h.1, pkA_flat H l bl h.2]
theorem evCall_pk {cf : Cfg} {f : FuncId} {fn : Func} {args args1 : List Value} {bl : Pk} (hx : cf.ext f args = none) {H : Hp} (he : cf.exh f args H = none) (hf : cf.P.funcs[f]? = some fn) (hq : cf.quiet f = true) (ha : pkA H args [] = some (args1, bl)) (n : Nat) :
   evCall cf (n + 1) f args H = movR bl H (evFn cf.P (evCall cf n) n (cf.live f) fn args1 (Hp.pk bl)) := by
 simp [evCall, hx, he, hf, hq, ha]
theorem evCall_quiet {cf : Cfg} {f : FuncId} {fn : Func} {args : List Value} (hx : cf.ext f args = none) {H : Hp} (he : cf.exh f args H = none) (hf : cf.P.funcs[f]? = some fn) (hq : cf.quiet f = true) (ha : args.all flat = true) (n : Nat) :
   evCall cf (n + 1) f args H = movR [] H (evFn cf.P (evCall cf n) n (cf.live f) fn args Hp.fl) := by
 rw [evCall_pk hx he hf hq (pkA_flat H args [] ha)]
 rfl
theorem movR_flat {bl : Pk} {H Hs : Hp} {v : Value} (hv : flat v = true) : movR bl H (some (.ret v, Hs)) = some (.ret v, H) := by
 simp [movR, mvV, hv]
def movN (bl : Pk) (Hs : Hp) (v : Value) (H : Hp) : R := (mvV bl Hs 6 v (H, [])).map fun (v, s) => (.ret v, s.1)
theorem movR_ret (bl : Pk) (H Hs : Hp) (v : Value) : movR bl H (some (.ret v, Hs)) = if flat v = true then some (.ret v, H) else movN bl Hs v H := by
 by_cases h : flat v = true
 · rw [if_pos h, movR_flat h]
 · rw [if_neg h]; rfl
theorem movR_ite (p : Prop) [Decidable p] (bl : Pk) (H : Hp) (a b : R) : movR bl H (if p then a else b) = if p then movR bl H a else movR bl H b := by by_cases h : p <;> simp [h]
theorem tells {P : Program} {C : Cl} (hC : CallsOK P C) {f : FuncId} {args : List Value} {v : Value} {H' : Hp} (ha : args.all flat = true) (hv : flD v = true) (h : C f args Hp.fl = some (.ret v, H')) :
   args.all flat = true ∧ (∃ fn, P.funcs[f]? = some fn ∧ fn.name ≠ "runtime.NumGoroutine" ∧ fn.body.isSome = true) ∧
   ∀ w, (∃ ρ H, Sim P ρ H w) → Calls P f ⟨args⟩ w fun e w' => (∃ v', e = .returned v' ∧ ∀ ρ, VR ρ v v') ∧ (∀ b, b < w.heap.size → w'.heap[b]? = w.heap[b]?) ∧ w.heap.size ≤ w'.heap.size ∧ w'.tape = w.tape ∧ w'.os = w.os ∧ w'.output = w.output := by
 refine ⟨ha, (hC f args _ _ h).1, fun w ⟨ρ, H, hS⟩ => ?_⟩
 refine ((hC f args _ _ h).2 _ w args hS.floor (VL.all_flat _ ha)).mono ?_
 rintro e w' ⟨ρ', hst, v', rfl, hvr⟩
 refine ⟨⟨v', rfl, fun ρ1 => hvr.flD_any ρ1 4 hv⟩, fun b hb => hst.keep b hb fun i d hw hr => ?_, hst.size, hst.tape, hst.os, hst.out⟩
 have h1 : Tabs.gn ≤ i := hw.1
 have h2 := (Ren.cut_some hr).1
 omega
end Go.Ev
