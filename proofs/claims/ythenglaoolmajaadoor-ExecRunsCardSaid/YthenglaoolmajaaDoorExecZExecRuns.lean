/- PROVED HERE: rows of instructions, one behind the other, come to the registers of the document (ExecRuns answers true for every input).
   Conditions: the row's own (the listed table reads as the program's text lays it). -/
import Derived.Test.YthenglaoolmajaaDoorExecRu
import Derived.Test.YthenglaoolmajaaDoorExecY
import Derived.Test.YthenglaoolmajaaDoorFlK
namespace Go.Proofs.YthenglaoolmajaaDoor
open Go Go.Ev Go.ChangeShapes Go.WideShapes Go.ChangeAt Go.RowKit
set_option maxRecDepth 100000
set_option linter.unusedSimpArgs false
set_option linter.unusedVariables false
namespace execRuns
theorem u45 : Tryd.prog.underlying 45 = some (.slice 23) := by kernel_rfl
theorem u46 : Tryd.prog.underlying 46 = some (.slice 35) := by kernel_rfl
def ren5 (o4 o5 : Option (Nat × Nat)) : Ren := fun i => if i < 4 then some (i, 0) else if i = 4 then o4 else if i = 5 then o5 else none
theorem start5 {W : World} (hsh : W.ShapedOpen Tryd.prog) (hs : ∃ u z, W.heap[1]? = some (.cells shapesC.toArray u z)) {o4 o5 : Option (Nat × Nat)} {LC DC : List Value}
    (h4 : ∀ b d, o4 = some (b, d) → b < W.heap.size ∧ ∀ ρ, BlkR ρ W b d (.ro LC)) (h5 : ∀ b d, o5 = some (b, d) → b < W.heap.size ∧ ∀ ρ, BlkR ρ W b d (.ro DC)) : Sim Tryd.prog (ren5 o4 o5) (hp5 LC DC) W := by
  have hg := globals_there hsh
  have hr : ∀ {i b d}, ren5 o4 o5 i = some (b, d) → (i < 4 ∧ b = i ∧ d = 0) ∨ (i = 4 ∧ o4 = some (b, d)) ∨ (i = 5 ∧ o5 = some (b, d)) := by
    intro i b d h
    unfold ren5 at h
    split at h
    · cases h; rename_i h1; exact .inl ⟨h1, rfl, rfl⟩
    · split at h
      · rename_i h1; exact .inr (.inl ⟨h1, h⟩)
      · split at h
        · rename_i h1; exact .inr (.inr ⟨h1, h⟩)
        · cases h
  refine Sim.start rfl (fun i b d h => ?_) (fun g hg => ?_) (by show 4 ≤ 6; omega) (fun i hi => ?_) (by rw [nGlobals]; decide) (fun i x hi h => ?_) (fun i x b d h hri => ?_)
  · rw [hp5_next]
    rcases hr h with ⟨h1, rfl, rfl⟩ | ⟨h1, h2⟩ | ⟨h1, h2⟩
    · exact ⟨by omega, by omega⟩
    · exact ⟨by omega, (h4 b d h2).1⟩
    · exact ⟨by omega, (h5 b d h2).1⟩
  · rw [nGlobals] at hg
    simp [ren5, hg]
  · have hi : i < 4 := hi
    rw [hp5_get, if_neg (by omega), if_neg (by omega)]
  · rw [base_get] at h
    split at h
    · cases h; exact ⟨_, rfl, by kernel_rfl⟩
    · cases h
  · rw [hp5_get] at h
    rcases hr hri with ⟨h1, rfl, rfl⟩ | ⟨rfl, h2⟩ | ⟨rfl, h2⟩
    · rw [if_neg (by omega), if_neg (by omega), base_get] at h
      split at h
      · rename_i e; subst e; cases h; exact blkR_of_cells (by kernel_rfl) hs
      · cases h
    · rw [if_neg (by omega), if_pos rfl] at h
      cases h
      exact (h4 b d h2).2 _
    · rw [if_pos rfl] at h
      cases h
      exact (h5 b d h2).2 _
theorem blk_arg {W : World} {l : List Sc} {v : Value} {b d o n cap : Nat} {LC : List Value} {c : Array Value} {u : TypeId} {z : Nat × Nat} (h : SlArg W l v b d o n cap LC c u z) (hl : 0 < l.length) (ρ : Ren) : BlkR ρ W b d (.ro LC) :=
  ⟨c, u, z, h.heap, h.room, fun i x hx => ⟨x, h.cell i x hx, VR.flatN_refl 4 x (List.all_eq_true.1 (h.flat hl) x (List.mem_of_getElem? hx))⟩⟩
/-- a slice, as the evaluator takes it: what is read of it, where it lies -/
structure Ar5 (W : World) (k : Nat) (l : List Sc) (v x : Value) (o : Option (Nat × Nat)) (LC : List Value) (n : Nat) : Prop where
  blk : ∀ b d, o = some (b, d) → b < W.heap.size ∧ ∀ ρ, BlkR ρ W b d (.ro LC)
  vr : ∀ ρ : Ren, ρ k = o → VR ρ x v
  len : ∀ H, Ev.len 1 x H = some (.int .i64 n)
  sa : ∀ i : Nat, i < n → Ev.sa l.length x (.int .i64 i) = some (ptr k (i * l.length))
  lc : LC.length = n * l.length
  sc : ∀ i, i < n → ScL l ((LC.drop (i * l.length)).take l.length)
theorem ar5 {W : World} (k : Nat) {l : List Sc} (hl : 0 < l.length) {v : Value} (h : v = .slice none 0 0 ∨ ∃ b d o n cap LC c u z, SlArg W l v b d o n cap LC c u z) : ∃ x o LC n, Ar5 W k l v x o LC n := by
  rcases h with rfl | ⟨b, d, o, n, cap, LC, c, u, z, h⟩
  · exact ⟨.slice none 0 0, none, [], 0, ⟨fun b d h => (by cases h), fun ρ _ => .snil, fun H => rfl, fun i hi => by omega, by simp, fun i hi => by omega⟩⟩
  · refine ⟨.slice (some ⟨k, o, none⟩) n cap, some (b, d), LC, n, ⟨fun b' d' e => ?_, fun ρ e => ?_, fun H => rfl, fun i hi => ?_, h.len, h.sc⟩⟩
    · cases e
      exact ⟨(Array.getElem?_eq_some_iff.1 h.heap).1, blk_arg h hl⟩
    · rw [h.val]
      exact .slice e h.cap
    · have := h.off (by omega)
      subst this
      simp only [Ev.sa]
      rw [if_pos (by omega)]
      simp
theorem contract (H : Type) (enc : TypeId × Value → H) (W : World) (base : Nat) (args : Array Value) (ds gs : List (DataW H)) (before : List MemPlace)
    (hval : ∀ (j : Nat) t v, Tryd.f5.params[j]? = some t → args[j]? = some v → Value.okWide Tryd.prog W .any base t v)
    (hW : DataW.Whole enc Tryd.prog Tryd.f5.params.toList Rows.execRunsSpec.vars false W args.toList ds gs before) (hL : laidMetH Tryd.prog Rows.execRunsRow.laid W) (hsh : W.ShapedOpen Tryd.prog) :
    Calls Tryd.prog 5 args W fun e W' => ∃ v, e = .returned v ∧ Rows.execRunsSpec.post enc Tryd.prog Tryd.f5 false true false false W args v W' := by
  have hW' := hW
  obtain ⟨p, q, hA0, hV, rfl, hfz, hnd⟩ := hW
  have hA : DataW.TrodAll enc Tryd.prog W 0 (fun _ => true) true Tryd.f5.params.toList args.toList ds p := hA0
  rw [Tryd.params5] at hA hval
  obtain ⟨x0, r0, d0, q0, ha0, hs0, hA1⟩ := trodAll_sc (l := regsSc) (by kernel_rfl) hA
  cases r0 with
  | nil => simp [DataW.TrodAll] at hA1
  | cons x1 r1 =>
  cases d0 with
  | nil => simp [DataW.TrodAll] at hA1
  | cons d1 d2 =>
  obtain ⟨p1, p2, ⟨fuel1, h1⟩, hA2, _⟩ := hA1
  cases r1 with
  | nil => simp [DataW.TrodAll] at hA2
  | cons x2 r2 =>
  cases d2 with
  | nil => simp [DataW.TrodAll] at hA2
  | cons d3 d4 =>
  obtain ⟨p3, p4, ⟨fuel2, h2⟩, hA3, _⟩ := hA2
  have hr : r2 = [] := by
    cases r2 with
    | nil => rfl
    | cons y ys => simp [DataW.TrodAll] at hA3
  subst hr
  obtain rfl : args = #[x0, x1, x2] := by cases args; simp_all
  obtain ⟨R, F, pc, rfl, hR, hF, hpc⟩ := agg_regs (hval 0 38 x0 rfl rfl) hs0
  obtain ⟨y1, o1, LC, n1, a1⟩ := ar5 4 (by decide) (slice_arg u45 (e := 23) (l := [.int .i64, .int .i64, .int .i64, .int .i64, .int .i64]) (by kernel_rfl) (by kernel_rfl) (by decide) (hval 1 45 x1 rfl rfl) h1)
  obtain ⟨y2, o2, DC, n2, a2⟩ := ar5 5 (by decide) (slice_arg u46 (e := 35) (l := [.int .u64]) (by kernel_rfl) (by kernel_rfl) (by decide) (hval 2 46 x2 rfl rfl) h2)
  have hI : In5 y1 y2 LC DC n1 n2 := by
    refine ⟨a1.len, a2.len, a1.sa, fun i hi => ?_, a1.lc, fun i hi => ?_, fun i hi => ?_⟩
    · have := a2.sa i hi
      simpa using this
    · have h3 := a1.sc i hi
      obtain ⟨op, t1, e1, _, h3⟩ := sc_cons h3
      obtain ⟨A, t2, e2, _, h3⟩ := sc_cons h3
      obtain ⟨B, t3, e3, _, h3⟩ := sc_cons h3
      obtain ⟨C, t4, e4, _, h3⟩ := sc_cons h3
      obtain ⟨I, t5, e5, _, h3⟩ := sc_cons h3
      have e6 := sc_nil h3
      exact ⟨op, A, B, C, I, by rw [show (5 : Nat) = [Sc.int .i64, .int .i64, .int .i64, .int .i64, .int .i64].length from rfl, e1, e2, e3, e4, e5, e6]⟩
    · have h3 := a2.sc i hi
      obtain ⟨v, t1, e1, hv, h3⟩ := sc_cons h3
      have e2 := sc_nil h3
      refine ⟨v, ?_, hv⟩
      have e3 : ((DC.drop (i * 1)).take 1)[0]? = some (.int .u64 v) := by
        rw [show (1 : Nat) = [Sc.int .u64].length from rfl, e1]
        rfl
      simpa using e3
  obtain ⟨H', hv5⟩ := v5 hI R F pc hR hF hpc
  have hS := start5 hsh (tables rfl hL) a1.blk a2.blk
  have call := evFn_calls (okc xtOKF 301) (drawOK (okc xtOKF 301) mixed) Tryd.func5 ((s5_eq _ _ _ _ _ _).trans hv5) hS (VL.cons (VR.flatN_refl 4 _ (regs_flat R F pc)) (VL.cons (a1.vr _ rfl) (VL.cons (a2.vr _ rfl) VL.nil)))
  refine Calls.mono call fun e W' ⟨ρ', hst, v', he, hvr⟩ => ?_
  obtain rfl := VR.bool_eq _ _ hvr
  have hsame := hst.same hS rfl
  refine ⟨_, he, ?_⟩
  refine law_any (tb := 4) hsame hW' rfl (by kernel_rfl) (by kernel_rfl) (by kernel_rfl) u4 (fun ds hl => ?_)
  match ds, hl with
  | [a, b, c], _ => rfl
def args0 : Array Value := #[.agg #[.int .u32 0, .int .u32 0, .int .u32 0, .int .u32 0, .int .u32 0, .int .u32 0, .int .u32 0, .int .u32 0, .int .u32 0, .int .u32 0, .int .u32 0, .int .u32 0, .int .u32 0, .int .u32 0, .int .u32 0, .int .u32 0, .int .u64 0, .int .u64 0, .int .u64 0, .int .u64 0, .int .u64 0, .int .u64 0, .int .u64 0, .int .u64 0, .int .u32 0], .slice none 0 0, .slice none 0 0]
theorem laid_met (os : Os) : laidMet Tryd.prog Rows.execRunsRow.laid ((laidWorld os).forCall (fun _ _ => 0) ⟨#[], args0, []⟩).memory :=
  laidMet_of_run' 8 (by kernel_rfl) (by kernel_rfl)
theorem reads (os : Os) {H : Type} (enc : TypeId × Value → H) : ∃ places, DataW.whole enc Tryd.prog ((laidWorld os).forCall (fun _ _ => 0) ⟨#[], args0, []⟩).memory Tryd.f5.params.toList Rows.execRunsSpec.vars false args0.toList 8 = some ([.agg [.agg [.lit (.int .u32 0), .lit (.int .u32 0), .lit (.int .u32 0), .lit (.int .u32 0), .lit (.int .u32 0), .lit (.int .u32 0), .lit (.int .u32 0), .lit (.int .u32 0), .lit (.int .u32 0), .lit (.int .u32 0), .lit (.int .u32 0), .lit (.int .u32 0), .lit (.int .u32 0), .lit (.int .u32 0), .lit (.int .u32 0), .lit (.int .u32 0)], .agg [.lit (.int .u64 0), .lit (.int .u64 0), .lit (.int .u64 0), .lit (.int .u64 0), .lit (.int .u64 0), .lit (.int .u64 0), .lit (.int .u64 0), .lit (.int .u64 0)], .lit (.int .u32 0)], .nil, .nil], [], places) :=
  ⟨[], by kernel_rfl⟩
theorem lifted (os : Os) (started : os.Started) (H : Type) (enc : TypeId × Value → H) (F : Stop.Interp) :
    ReturnsInHanded {} Tryd.checked os 5 .any ((OpenSpec.ofChange Rows.execRunsSpec).preRow enc Tryd.prog Tryd.f5 Rows.execRunsRow.domain false Rows.execRunsRow.laid) (((OpenSpec.ofChange Rows.execRunsSpec).at F).post enc Tryd.prog Tryd.f5 false true false false) := by
  obtain ⟨places, hx⟩ := reads os enc
  refine returnsInHanded_of_row (C := Tryd.checked) (s := OpenSpec.ofChange Rows.execRunsSpec) own started (by kernel_rfl) Tryd.func5
    (witness_row_at (enc := enc) (C := Tryd.checked) false (laidWorld os) args0 rfl (by kernel_rfl) (by kernel_rfl) (by kernel_rfl)
      (OpenSpec.preRow_of_cond 8 hx (by kernel_rfl) (fun k hk => by cases hk) (by kernel_rfl) (laid_met os))) ?_
  intro W base args ds gs before hval hW _ _ _ hL hsh _
  exact contract H enc W base args ds gs before hval hW hL hsh
theorem said : Rows.ExecRunsSaid :=
  OpenClaim.holds_of_cond 5 Tryd.f5 rfl rfl rfl rfl rfl rfl rfl ⟨rfl, rfl, rfl, rfl, rfl⟩ rfl rfl rfl rfl rfl (by kernel_rfl) Tryd.func5 (by kernel_rfl)
    (of_decide_eq_true (by kernel_rfl)) (by unfold Func.isWrapper; first | (rw [if_pos (by decide +kernel)]; kernel_rfl) | (rw [if_neg (by decide +kernel)]; exact ⟨rfl, rfl⟩))
    (fun os started H enc _ F => by rw [OpenClaim.pre_eq_preRow]; exact lifted os started H enc F)
theorem plain (f : FuncId) (fn : Func) (hf : Tryd.pinned.checked.prog.funcNamed "bulkhead/bulkheadlaw08.ExecRuns" = some f) (hfn : Tryd.pinned.checked.prog.funcs[f]? = some fn) :
    false = Tryd.pinned.checked.prog.looks [] ∧ ∀ (j : Nat) t, fn.params[j]? = some t → Tryd.pinned.checked.prog.wantsStandIn t = false := by
  obtain rfl : f = 5 := Option.some.inj ((show Tryd.prog.funcNamed "bulkhead/bulkheadlaw08.ExecRuns" = some 5 by kernel_rfl).symm.trans hf) |>.symm
  obtain rfl : fn = Tryd.f5 := (Option.some.inj (Tryd.func5.symm.trans hfn)).symm
  refine ⟨by kernel_rfl, fun j t ht => ?_⟩
  rw [Tryd.params5] at ht
  have hm : t ∈ #[38, 45, 46] := Array.mem_of_getElem? ht
  simp only [List.mem_toArray, List.mem_cons, List.not_mem_nil, or_false] at hm
  have hw : [38, 45, 46].all (fun t => Tryd.prog.wantsStandIn t == false) = true := by kernel_rfl
  have := List.all_eq_true.1 hw t (by simpa using hm)
  have : Tryd.prog.wantsStandIn t = false := by simpa using this
  exact this
end execRuns
/-- THE CARD -/
theorem execRuns_card : Rows.ExecRunsCardSaid :=
  Claim7.holds_tied_plain_at .later [] _ _ _ _ execRuns.said (fun _ h => by cases h) (by kernel_rfl) (fun _ h => by cases h) execRuns_row_tie rfl ⟨rfl, rfl⟩ (by kernel_rfl) rfl execRuns.plain (by kernel_rfl)
#print axioms execRuns_card
end Go.Proofs.YthenglaoolmajaaDoor
