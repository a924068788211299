/- A law over plain values: from the evaluator's answer to the row's condition. -/
import Derived.Test.YtbaooebafijenaaDoorGvArgs
namespace Go.Ev
open Go Go.ChangeShapes Go.WideShapes Go.RowKit
set_option linter.unusedSectionVars false
section
variable {H : Type} {enc : TypeId × Value → H} {P : Program}
theorem trodAll_flat {w : World} {b : Nat} {sp : Nat → Bool} {hd : Bool} : ∀ (ts : List TypeId) (vs : List Value) (ds : List (DataW H)) (ps : List MemPlace), ts.all (fun t => (scT P 8 t).isSome) = true → DataW.TrodAll enc P w b sp hd ts vs ds ps →
    ps = [] ∧ ds.length = ts.length ∧ ∀ (w' : World) (b' : Nat) (sp' : Nat → Bool) (hd' : Bool), DataW.TrodAll enc P w' b' sp' hd' ts vs ds []
  | [], vs, ds, ps, _, h => by
    cases vs <;> cases ds <;> simp only [DataW.TrodAll] at h
    · exact ⟨h, rfl, fun _ _ _ _ => rfl⟩
  | t :: ts, vs, ds, ps, ha, h => by
    simp only [List.all_cons, Bool.and_eq_true] at ha
    cases vs with
    | nil => simp [DataW.TrodAll] at h
    | cons v vs =>
      cases ds with
      | nil => simp [DataW.TrodAll] at h
      | cons d ds =>
        obtain ⟨p, q, ⟨fuel, h1⟩, h2, rfl⟩ := h
        obtain ⟨l, hl⟩ := Option.isSome_iff_exists.1 ha.1
        obtain ⟨rfl, _, hf⟩ := trod_sc fuel 8 t _ l d p hl h1
        obtain ⟨rfl, hlen, h3⟩ := trodAll_flat ts vs ds q ha.2 h2
        exact ⟨rfl, by simp [hlen], fun w' b' sp' hd' => ⟨[], [], ⟨fuel, hf w' b' sp' hd'⟩, h3 w' b' sp' hd', rfl⟩⟩
theorem trodAll_sc {w : World} {b : Nat} {sp : Nat → Bool} {hd : Bool} {t : TypeId} {ts : List TypeId} {vs : List Value} {ds : List (DataW H)} {ps : List MemPlace} {l : List Sc} (hl : scT P 8 t = some l) (h : DataW.TrodAll enc P w b sp hd (t :: ts) vs ds ps) :
    ∃ v r e q, vs = v :: r ∧ ScL l v.cells.toList ∧ DataW.TrodAll enc P w b sp hd ts r e q := by
  cases vs with
  | nil => simp [DataW.TrodAll] at h
  | cons v vs =>
    cases ds with
    | nil => simp [DataW.TrodAll] at h
    | cons d ds =>
      obtain ⟨p, q, ⟨fuel, h1⟩, h2, rfl⟩ := h
      exact ⟨v, vs, ds, q, rfl, (trod_sc fuel 8 t _ l d p hl h1).2.1, h2⟩
theorem law_flat [Tabs] {f : Func} {s : ChangeSpec} {W W' : World} {args : Array Value} {ds gs : List (DataW H)} {before : List MemPlace} {tb : TypeId} (hS : Same W W') (hW : DataW.Whole enc P f.params.toList s.vars false W args.toList ds gs before)
    (hv : s.vars = []) (hp : f.params.toList.all (fun t => (scT P 8 t).isSome) = true) (hr : f.resultTypes = #[tb]) (hb : P.underlying tb = some .bool) (hs : ∀ ds : List (DataW H), ds.length = f.params.toList.length → s.fn H ds = { results := [.lit (.bool true)], args := ds }) :
    s.post enc P f false true false false W args (.bool true) W' := by
  have hW' := hW
  obtain ⟨p, q, hA, hV, rfl, hfz, hnd⟩ := hW
  obtain ⟨rfl, hlen, hfree⟩ := trodAll_flat _ _ _ _ hp hA
  rw [hv] at hV
  obtain ⟨rfl, rfl⟩ := trodVars_none hV
  have hfn := hs ds hlen
  have e : ds ++ ([] : List (DataW H)) = ds := by simp
  refine Same.post (pa := []) (pv := []) hS hW' rfl (fun b sp hd => ?_) (fun sp _ => ?_) (fun sp _ => ?_) (fun j t r ht hr' => ?_)
  · rw [e, hfn, hr]
    exact trodAll_cons_mk (shut_bool hb true) rfl
  · rw [e, hfn]
    exact hfree W' 0 sp true
  · rw [e, hfn, hv]
    rfl
  · rw [hr] at ht hr'
    have : j = 0 := by
      cases j with
      | zero => rfl
      | succ j => simp at ht
    subst this
    have e1 : tb = t := by simpa using ht
    subst e1
    have : r = .bool true := by
      have : ((Value.bool true).resultList 1)[0]? = some r := hr'
      simpa [Value.resultList] using this.symm
    subst this
    exact okWide_bool_mk hb true
end
/-- scalars -/
theorem scalar_int {P : Program} {W : World} {t : TypeId} {k : IntKind} {v : Value} {b : Nat} (ht : P.underlying t = some (.int k)) (hval : Value.okWide P W .any b t v) (h : ScL [.int k] v.cells.toList) : ∃ n, v = .int k n ∧ k.min ≤ n ∧ n ≤ k.max := by
  obtain ⟨n, rfl⟩ := okWide_int ht hval
  cases h with
  | cons h _ =>
    have := h.2
    simp only [Lit.wf, Bool.and_eq_true, decide_eq_true_eq] at this
    exact ⟨n, rfl, this⟩
theorem agg_of {P : Program} {W : World} {t : TypeId} {v : Value} {b : Nat} (ht : aggT P t = some true) (hval : Value.okWide P W .any b t v) : ∃ cs, v = .agg cs := by
  unfold aggT at ht
  unfold Value.okWide at hval
  split at ht
  · rename_i h; rw [h] at hval; exact ⟨_, hval.choose_spec.1⟩
  · rename_i h; rw [h] at hval; exact ⟨_, hval.choose_spec.1⟩
  · cases ht
  · cases ht
theorem sc_cons {k : IntKind} {l : List Sc} {cs : List Value} (h : ScL (.int k :: l) cs) : ∃ n r, cs = .int k n :: r ∧ (k.min ≤ n ∧ n ≤ k.max) ∧ ScL l r := by
  cases h with
  | cons h hl =>
    rename_i v cs
    cases v <;> simp only [scOk] at h
    obtain ⟨rfl, h⟩ := h
    simp only [Lit.wf, Bool.and_eq_true, decide_eq_true_eq] at h
    exact ⟨_, _, rfl, h, hl⟩
theorem sc_nil {cs : List Value} (h : ScL [] cs) : cs = [] := by cases h; rfl
end Go.Ev
