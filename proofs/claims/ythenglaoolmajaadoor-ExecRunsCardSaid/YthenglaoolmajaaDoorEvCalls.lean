/- Calls of the machine against the evaluator. -/
import Derived.Test.YthenglaoolmajaaDoorEvCode
set_option linter.unusedSimpArgs false
namespace Go.Ev
open Go
set_option linter.unusedSectionVars false
variable [Tabs]

variable {P : Program}

/-- a result of a function -/
def resV (tmps : Array Value) : ResultVar → Sem Value
  | .tmp t => pure (tmps.getD t undef)
  | .cell a t => do loadVar t (← asAddr (tmps.getD a undef))
theorem results_eq (fn : Func) (tmps : Array Value) : results fn tmps = (do let vs ← fn.results.mapM (resV tmps); pure (if h : vs.size = 1 then vs[0] else .tuple vs)) := by
  have : (fun (x : ResultVar) => (match x with | .tmp t => pure (tmps.getD t undef) | .cell a t => do loadVar t (← asAddr (tmps.getD a undef)) : Sem Value)) = resV tmps := by
    funext x; cases x <;> rfl
  rw [← this]
  rfl

theorem run_results {P : Program} {w : World} {tmps : Array Value} : ∀ (rs : List ResultVar) (vs' : List Value), rs.length = vs'.length →
    (∀ (i : Nat) (x : ResultVar) (v : Value), rs[i]? = some x → vs'[i]? = some v → (resV tmps x).run P w = .ok v w) →
    (rs.mapM (resV tmps)).run P w = .ok vs' w
  | [], vs', hl, _ => by
    cases vs' with
    | nil => simp
    | cons => simp at hl
  | x :: rs, vs', hl, h => by
    cases vs' with
    | nil => simp at hl
    | cons v vs' =>
      rw [List.mapM_cons, Sem.run_bind, h 0 x v rfl rfl, Result.andThen_ok, Sem.run_bind, run_results rs vs' (by simpa using hl) (fun i y u hy hu => h (i + 1) y u (by simpa using hy) (by simpa using hu))]
      simp

theorem evRes_sound {ρ : Ren} {H : Hp} {w : World} (hS : Sim P ρ H w) {nt : Nat} {fr : Fr} {a : Act} (hf : FrR ρ nt fr a) : ∀ (rs : List ResultVar) (k : List Value → R) (r : Out × Hp), evRes P fr H rs k = some r →
    ∃ vs vs', k vs = some r ∧ VL ρ vs vs' ∧ rs.length = vs'.length ∧
      (∀ (i : Nat) (x : ResultVar) (v : Value), rs[i]? = some x → vs'[i]? = some v → (resV a.tmps x).run P w = .ok v w)
  | [], k, r, h => ⟨[], [], h, VL.nil, rfl, fun i x v hx => by simp at hx⟩
  | .tmp t :: rs, k, r, h => by
    simp only [evRes] at h
    obtain ⟨vs, vs', h1, h2, h3, h4⟩ := evRes_sound hS hf rs _ r h
    refine ⟨fr.g t :: vs, a.tmps.getD t undef :: vs', h1, VL.cons (hf.val t) h2, by simp [h3], fun i x v hx hv => ?_⟩
    cases i with
    | zero => simp at hx hv; subst hx; subst hv; simp [resV]
    | succ i => exact h4 i x v (by simpa using hx) (by simpa using hv)
  | .cell b t :: rs, k, r, h => by
    simp only [evRes] at h
    cases hg : aggT P t with
    | none => simp [sb, hg] at h
    | some g =>
      have fin : ∀ v v' : Value, VR ρ v v' → (resV a.tmps (.cell b t)).run P w = .ok v' w → (evRes P fr H rs fun vs => k (v :: vs)) = some r →
          ∃ vs vs', k vs = some r ∧ VL ρ vs vs' ∧ (ResultVar.cell b t :: rs).length = vs'.length ∧
            (∀ (i : Nat) (x : ResultVar) (v : Value), (ResultVar.cell b t :: rs)[i]? = some x → vs'[i]? = some v → (resV a.tmps x).run P w = .ok v w) := fun v v' hv hr h => by
        obtain ⟨vs, vs', h1, h2, h3, h4⟩ := evRes_sound hS hf rs _ r h
        exact ⟨v :: vs, v' :: vs', h1, VL.cons hv h2, by simp [h3], fun i x u hx hu => by
          cases i with
          | zero => simp only [List.getElem?_cons_zero, Option.some.injEq] at hx hu; subst hx; subst hu; exact hr
          | succ i => exact h4 i x u (by simpa using hx) (by simpa using hu)⟩
      cases g with
      | true =>
        cases hn : sizeT P t with
        | none => simp [sb, hg, hn] at h
        | some n =>
          simp only [sb, hg, hn] at h
          cases hl : ldN n (fr.g b) H with
          | none => simp [hl] at h
          | some v =>
            simp only [hl, Option.bind_some] at h
            obtain ⟨ad, cs', h1, h2, h3⟩ := ldN_sound hS (hf.val b) hl
            exact fin v (.agg cs') h3 (by simp [resV, h1, asAddr, loadVar, run_aggT hg, run_sizeT hn, h2]) h
      | false =>
        simp only [sb, hg] at h
        cases hl : ld (fr.g b) H with
        | none => simp [hl] at h
        | some v =>
          simp only [hl, Option.bind_some] at h
          obtain ⟨ad, v', h1, h2, h3⟩ := ld_sound hS (hf.val b) hl
          exact fin v v' h3 (by simp [resV, h1, asAddr, loadVar, run_aggT hg, h2]) h

theorem retV_sound {ρ : Ren} {H : Hp} {vs vs' : List Value} (h : VL ρ vs vs') {r : Out × Hp} (hr : retV H vs = some r) :
    ∃ v, r = (.ret v, H) ∧ VR ρ v (if h : (⟨vs'⟩ : Array Value).size = 1 then (⟨vs'⟩ : Array Value)[0] else .tuple ⟨vs'⟩) := by
  match vs, vs', h with
  | [], [], h => simp [retV] at hr; subst hr; exact ⟨_, rfl, by simpa using VR.tuple h.1 h.2⟩
  | [v], [v'], h => simp [retV] at hr; subst hr; exact ⟨_, rfl, by simpa using h.head⟩
  | a :: b :: vs, a' :: b' :: vs', h => simp [retV] at hr; subst hr; exact ⟨_, rfl, by simpa using VR.tuple h.1 h.2⟩
  | [], _ :: _, h => simp [VL] at h
  | _ :: _, [], h => simp [VL] at h
  | [_], _ :: _ :: _, h => simp [VL] at h
  | _ :: _ :: _, [_], h => simp [VL] at h

theorem run_results_fn {w : World} {fn : Func} {tmps : Array Value} {vs' : List Value} (hl : fn.results.toList.length = vs'.length)
    (h : ∀ (i : Nat) (x : ResultVar) (v : Value), fn.results.toList[i]? = some x → vs'[i]? = some v → (resV tmps x).run P w = .ok v w) :
    (results fn tmps).run P w = .ok (if h : (⟨vs'⟩ : Array Value).size = 1 then (⟨vs'⟩ : Array Value)[0] else .tuple ⟨vs'⟩) w := by
  rw [results_eq, Sem.run_bind, Array.mapM_eq_mapM_toList, Sem.run_map]
  have := run_results fn.results.toList vs' hl h
  rw [this]
  simp

theorem evFn_calls {C : Cl} (hC : CallsOK P C) (hD : DrawOK P C) {n : Nat} {lv : List (Option An)} {f : FuncId} {fn : Func} (hfn : P.funcs[f]? = some fn) {args : List Value} {H : Hp} {r : Out × Hp}
    (h : evFn P C n lv fn args H = some r) {ρ : Ren} {w : World} (hS : Sim P ρ H w) {args' : List Value} (ha : VL ρ args args') : Calls P f ⟨args'⟩ w (EndR P ρ H w r) := by
  unfold evFn at h
  cases hb : fn.body with
  | none => simp [hb] at h
  | some c =>
    simp only [hb] at h
    split at h
    · rename_i hle
      have hlen := ha.1
      refine calls_of_wp hfn hb ?_
      have hf : FrR ρ fn.ntmps (Fr.args args) { tmps := (⟨args'⟩ : Array Value) ++ Array.replicate (fn.ntmps - (⟨args'⟩ : Array Value).size) undef, defers := [] } := by
        refine ⟨by simp; omega, rfl, fun t => ?_⟩
        have key : ∀ (l : List Value) (i : Nat) (f : Fr), (Fr.init l i f).g t = if i ≤ t ∧ t < i + l.length then l.getD (t - i) undef else f.g t := by
          intro l
          induction l with
          | nil => intro i f; simp [Fr.init]; omega
          | cons v l ih =>
            intro i f
            simp only [Fr.init, ih, Fr.g_p, List.length_cons]
            by_cases h1 : t = i
            · subst h1
              rw [if_neg (by omega), if_pos rfl, if_pos (by omega)]
              simp
            · by_cases h2 : i + 1 ≤ t ∧ t < i + 1 + l.length
              · rw [if_pos h2, if_pos (by omega)]
                have : t - i = (t - (i + 1)) + 1 := by omega
                rw [this]; simp
              · rw [if_neg h2, if_neg (Ne.symm h1), if_neg (by omega)]
        unfold Fr.args
        rw [key]
        by_cases ht : t < args.length
        · rw [if_pos (by omega)]
          have h2 := ha.2 t ht
          have ht' : t < args'.length := hlen ▸ ht
          simpa [Array.getD_eq_getD_getElem?, Array.getElem?_append, ht', List.getD_eq_getElem?_getD] using h2
        · rw [if_neg (by omega)]
          exact .dead _
      refine code_wp hC hD c lv _ H pnK _ r h ρ w _ _ hS hf (fun e fr' H' h' ρ' a' w' hst hf' => ?_) (fun ch H' h' ρ' c' a' w' hst hc hd => ?_)
      · have fin : evRes P fr' H' fn.results.toList (retV H') = some r → a'.defers = [] ∧ ∃ v, (results fn a'.tmps).run P w' = .ok v w' ∧ EndR P ρ H w r (.returned v) w' := by
          intro h2
          obtain ⟨vs, vs', h3, h4, h5, h6⟩ := evRes_sound hst.sim hf' _ _ _ h2
          obtain ⟨v, rfl, hv⟩ := retV_sound h4 h3
          exact ⟨hf'.defers, _, run_results_fn h5 h6, ρ', hst, _, rfl, hv⟩
        cases e with
        | normal => exact fin h'
        | ret => exact fin h'
        | exit j => simp [finK, finR] at h'
      · simp only [pnK] at h'
        cases h'
        exact ⟨hd, ρ', hst, c', rfl, hc⟩
    · cases h

/-- all older memory is closed -/
theorem Sim.closed {ρ : Ren} {H : Hp} {w : World} (h : Sim P ρ H w) : Sim P ρ H.cl w where
  blk := h.blk
  sep := fun i j b' d b'' d' hw _ _ hr _ => by have := (h.low i b' d hr).1; have := hw.1; simp [Hp.cl] at this; omega
  low := h.low
  lim := Nat.le_refl _
  glob := h.glob
  gn := Nat.le_trans h.gn h.lim
  flr := h.flr
  gg := h.gg
  tab := h.tab

theorem quiet_sound {ρ : Ren} {H : Hp} {w : World} (hS : Sim P ρ H w) {r r' : Out × Hp} (hq : quietR H (some r) = some r') {e : Ending} {w' : World} (h : EndR P ρ H.cl w r e w') : EndR P ρ H w r' e w' := by
  obtain ⟨ρ', hst, hout⟩ := h
  have hnone : ∀ i d b, wr H.cl i → ρ i ≠ some (b, d) := fun i d b hw hr => by
    have := (hS.low i b d hr).1; have := hw.1; simp [Hp.cl] at this; omega
  have hkeep : ∀ b, b < w.heap.size → w'.heap[b]? = w.heap[b]? := fun b hb => hst.keep b hb (fun i d hw => hnone i d b hw)
  -- the heap behind the call, open again
  have hopen : Stp P ρ H w ρ' { r.2 with lim := H.lim } w' := by
    have hn : H.next ≤ r.2.next := hst.next
    have hfix : ∀ i, i < H.next → r.2.get i = H.get i := fun i hi => hst.fix i hi
    have hwr : ∀ i, wr { r.2 with lim := H.lim } i → i < H.next → wr H i := fun i ⟨h1, x, h2, h3⟩ hi => ⟨h1, x, by rw [← hfix i hi]; exact h2, h3⟩
    have hnew : ∀ i b d, H.next ≤ i → ρ' i = some (b, d) → w.heap.size ≤ b := fun i b d hi hr => by
      rcases Nat.lt_or_ge b w.heap.size with hb | hb
      · obtain ⟨j, d', hj, hj'⟩ := hst.own i b d (.inr hi) hr hb
        exact absurd hj' (hnone j d' b hj)
      · exact hb
    refine ⟨⟨hst.sim.blk, ?_, hst.sim.low, Nat.le_trans hS.lim hn, hst.sim.glob, hS.gn, hst.sim.flr, hst.sim.gg, hst.sim.tab⟩, hst.ext, fun b hb _ => hkeep b hb, hst.size, ?_, hst.old, fun i hi => hfix i (Nat.lt_of_lt_of_le hi hS.lim), rfl, hn, hst.tape, hst.os, hst.out⟩
    · intro i j b d b2 d2 hi hj hne hri hrj
      rcases Nat.lt_or_ge i H.next with hi' | hi' <;> rcases Nat.lt_or_ge j H.next with hj' | hj'
      · obtain ⟨y, hy⟩ := hj
        exact hS.sep i j b d b2 d2 (hwr i hi hi') ⟨y, by rw [← hfix j hj']; exact hy⟩ hne (hst.old i _ hri hi') (hst.old j _ hrj hj')
      · have h1 := (hS.low i b d (hst.old i _ hri hi')).2
        have h2 := hnew j b2 d2 hj' hrj
        omega
      · have h1 := (hS.low j b2 d2 (hst.old j _ hrj hj')).2
        have h2 := hnew i b d hi' hri
        omega
      · refine hst.sim.sep i j b d b2 d2 ⟨?_, hi.2⟩ hj hne hri hrj
        rw [hst.lim]; exact hi'
    · intro i b d hw hr hb
      rcases Nat.lt_or_ge i H.next with hi' | hi'
      · rcases hw with hw | hw
        · exact ⟨i, d, hwr i hw hi', hst.old i _ hr hi'⟩
        · omega
      · have := hnew i b d hi' hr; omega
  obtain ⟨out, H'⟩ := r
  cases out with
  | ret v =>
    obtain ⟨v', rfl, hv⟩ := hout
    simp only [quietR] at hq
    split at hq
    · rename_i hfl
      cases hq
      refine ⟨ρ, ⟨⟨fun i x b d hg hr => (hS.blk i x b d hg hr).mono (Ren.le_refl ρ) (hkeep b (hS.low i b d hr).2), hS.sep, fun i b d hr => ⟨(hS.low i b d hr).1, Nat.lt_of_lt_of_le (hS.low i b d hr).2 hst.size⟩, hS.lim, hS.glob, hS.gn, hS.flr, hS.gg, hS.tab⟩,
        Ren.le_refl ρ, fun b hb _ => hkeep b hb, hst.size, fun i b d hw hr _ => hS.own_refl hw hr, fun _ _ hp _ => hp, fun _ _ => rfl, rfl, Nat.le_refl _, hst.tape, hst.os, hst.out⟩, v', rfl, ?_⟩
      rw [hv.flat_eq hfl]
      exact VR.flatN_refl 4 v hfl
    · cases hq
      exact ⟨ρ', hopen, v', rfl, hv⟩
  | pan c =>
    obtain ⟨c', rfl, hc⟩ := hout
    simp only [quietR] at hq
    cases hq
    exact ⟨ρ', hopen, c', rfl, hc⟩

theorem VL.flat_eq {ρ : Ren} : ∀ {l l' : List Value}, VL ρ l l' → l.all flat = true → l' = l
  | [], _, h, _ => h.inv_nil
  | v :: l, _, h, hf => by
    obtain ⟨v', m, rfl, h1, h2⟩ := h.inv_cons
    simp only [List.all_cons, Bool.and_eq_true] at hf
    rw [h1.flat_eq hf.1, VL.flat_eq h2 hf.2]
theorem VL.all_flat (ρ : Ren) : ∀ {l : List Value}, l.all flat = true → VL ρ l l
  | [], _ => VL.nil
  | v :: l, hf => by
    simp only [List.all_cons, Bool.and_eq_true] at hf
    exact VL.cons (VR.flatN_refl 4 v hf.1) (VL.all_flat ρ hf.2)

theorem floor_sound {ρ : Ren} {H : Hp} {w : World} (hS : Sim P ρ H w) {r r' : Out × Hp} (hq : floorR H (some r) = some r') {e : Ending} {w' : World} (h : EndR P (ρ.cut Tabs.gn) Hp.fl w r e w') : EndR P ρ H w r' e w' := by
  obtain ⟨ρ', hst, hout⟩ := h
  have hkeep : ∀ b, b < w.heap.size → w'.heap[b]? = w.heap[b]? := fun b hb => hst.keep b hb fun i d hw hr => by
    have h1 : Tabs.gn ≤ i := hw.1
    have h2 := (Ren.cut_some hr).1
    omega
  obtain ⟨out, H'⟩ := r
  cases out with
  | ret v =>
    obtain ⟨v', rfl, hv⟩ := hout
    simp only [floorR] at hq
    split at hq
    · rename_i hfl
      cases hq
      refine ⟨ρ, ⟨⟨fun i x b d hg hr => (hS.blk i x b d hg hr).mono (Ren.le_refl ρ) (hkeep b (hS.low i b d hr).2), hS.sep, fun i b d hr => ⟨(hS.low i b d hr).1, Nat.lt_of_lt_of_le (hS.low i b d hr).2 hst.size⟩, hS.lim, hS.glob, hS.gn, hS.flr, hS.gg, hS.tab⟩,
        Ren.le_refl ρ, fun b hb _ => hkeep b hb, hst.size, fun i b d hw hr _ => hS.own_refl hw hr, fun _ _ hp _ => hp, fun _ _ => rfl, rfl, Nat.le_refl _, hst.tape, hst.os, hst.out⟩, v', rfl, ?_⟩
      rw [hv.flat_eq hfl]
      exact VR.flatN_refl 4 v hfl
    · cases hq
  | pan c => simp [floorR] at hq

/-- what is asked of the functions that are answered by a contract -/
def ExtOK (P : Program) (ext : FuncId → List Value → Option Value) : Prop := ∀ f args v, ext f args = some v →
  (args.all flat = true ∧ flat v = true) ∧ (∃ fn, P.funcs[f]? = some fn ∧ fn.name ≠ "runtime.NumGoroutine" ∧ fn.body.isSome = true) ∧
  ∀ w, (∃ ρ H, Sim P ρ H w) → Calls P f ⟨args⟩ w fun e w' => e = .returned v ∧ (∀ b, b < w.heap.size → w'.heap[b]? = w.heap[b]?) ∧ w.heap.size ≤ w'.heap.size ∧ w'.tape = w.tape ∧ w'.os = w.os ∧ w'.output = w.output

theorem evCall_ok {cf : Cfg} (hE : ExtOK cf.P cf.ext) (hN : ∀ (f : FuncId) (fn : Func), cf.P.funcs[f]? = some fn → fn.name ≠ "runtime.NumGoroutine") (hD : ∀ n, CallsOK cf.P (evCall cf n) → DrawOK cf.P (evCall cf n)) :
    ∀ n, CallsOK cf.P (evCall cf n)
  | 0 => fun f args H r h => by simp [evCall] at h
  | n + 1 => by
    have ih := evCall_ok hE hN hD n
    intro f args H r h
    simp only [evCall] at h
    split at h
    · rename_i v hv
      cases h
      obtain ⟨⟨h1, h2⟩, h3, h4⟩ := hE f args v hv
      refine ⟨h3, fun ρ w args' hS ha => ?_⟩
      rw [ha.flat_eq h1]
      refine (h4 w ⟨ρ, H, hS⟩).mono fun e w' ⟨he, hk, hs, ht, ho, hu⟩ => ?_
      exact ⟨ρ, ⟨⟨fun i x b d hg hr => (hS.blk i x b d hg hr).mono (Ren.le_refl ρ) (hk b (hS.low i b d hr).2), hS.sep, fun i b d hr => ⟨(hS.low i b d hr).1, Nat.lt_of_lt_of_le (hS.low i b d hr).2 hs⟩, hS.lim, hS.glob, hS.gn, hS.flr, hS.gg, hS.tab⟩,
        Ren.le_refl ρ, fun b hb _ => hk b hb, hs, fun i b d hw hr _ => hS.own_refl hw hr, fun _ _ hp _ => hp, fun _ _ => rfl, rfl, Nat.le_refl _, ht, ho, hu⟩, v, he, VR.flatN_refl 4 v h2⟩
    · split at h
      · cases h
      · rename_i fn hfn
        have hbody : ∀ {C : Cl} {n : Nat} {lv : List (Option An)} {args : List Value} {H : Hp} {r : Out × Hp}, evFn cf.P C n lv fn args H = some r → fn.body.isSome = true := by
          intro C n lv args H r h
          unfold evFn at h
          cases hb : fn.body with
          | none => simp [hb] at h
          | some c => rfl
        split at h
        · split at h
          · rename_i hfl
            cases he : evFn cf.P (evCall cf n) n (cf.live f) fn args Hp.fl with
            | none => simp [he, floorR] at h
            | some r1 =>
              rw [he] at h
              refine ⟨⟨fn, hfn, hN f fn hfn, hbody he⟩, fun ρ w args' hS ha => ?_⟩
              rw [ha.flat_eq hfl]
              exact (evFn_calls ih (hD n ih) hfn he hS.floor (VL.all_flat _ hfl)).mono fun e w' hend => floor_sound hS h hend
          · cases he : evFn cf.P (evCall cf n) n (cf.live f) fn args H.cl with
            | none => simp [he, quietR] at h
            | some r1 =>
              rw [he] at h
              refine ⟨⟨fn, hfn, hN f fn hfn, hbody he⟩, fun ρ w args' hS ha => ?_⟩
              exact (evFn_calls ih (hD n ih) hfn he hS.closed ha).mono fun e w' hend => quiet_sound hS h hend
        · exact ⟨⟨fn, hfn, hN f fn hfn, hbody h⟩, fun ρ w args' hS ha => evFn_calls ih (hD n ih) hfn h hS ha⟩

end Go.Ev
