/- PROVED HERE: a program that is written as the texts of instructions, a line each, with blanks and remarks between, is assembled to their words (CodeLines answers true for every input).
   Conditions: the row's own (the listed variables read as the program's text lays them). -/
import Derived.Test.YtbaooebafijenaaDoorGLi
import Derived.Test.YtbaooebafijenaaDoorGZ2
import Derived.Test.YtbaooebafijenaaDoorCards
import Derived.Test.YtbaooebafijenaaDoorTie
namespace Go.Proofs.YtbaooebafijenaaDoor
open Go Go.Ev Go.ChangeShapes Go.WideShapes Go.ChangeAt Go.RowKit
set_option maxRecDepth 100000
set_option linter.unusedSimpArgs false
set_option linter.unusedVariables false
theorem u41 : Tryd.prog.underlying 41 = some (.slice 23) := by kernel_rfl
theorem u42 : Tryd.prog.underlying 42 = some (.slice 3) := by kernel_rfl
namespace codeLines
theorem tables {W : World} (h : laidMetH Tryd.prog Rows.codeLinesRow.laid W) (hsh : W.ShapedOpen Tryd.prog) : ∃ m, Tabd W m none := by
  have h : laidMet Tryd.prog Rows.codeLinesRow.laid W := by
    have hn : Rows.codeLinesRow.laid.filter (fun x => x.2.handleName?.isSome) = [] := by kernel_rfl
    unfold laidMetH at h
    rw [hn] at h
    exact h
  have h3 := h.tail.tail
  have e3 : Rows.laid_internal_strconv_uint64pow10 = (Lib.tabData .u64 Lib.pow10Tab : DataW Unit) := by kernel_rfl
  have hp : Lib.TabIs Tryd.prog W "internal/strconv.uint64pow10" .u64 Lib.pow10Tab := by
    have h3' : laidMet Tryd.prog (("internal/strconv.uint64pow10", Lib.tabData .u64 Lib.pow10Tab) :: _) W := e3 ▸ h3
    exact Lib.tabIs_of_head (g := 3) (t := 145) (e := 31) (n := 20) (by kernel_rfl) (by kernel_rfl) (by kernel_rfl) (by kernel_rfl) (by kernel_rfl) (by kernel_rfl) h3'
  have h5 := h3.tail.tail
  obtain ⟨a1, s1, v1, _, _, _⟩ := laid_sentinel (g := 9) h5 (by kernel_rfl) (by kernel_rfl) Tryd.underlying34 row171 Tryd.underlying171 Tryd.underlying173 rfl rfl Tryd.underlying9 (by kernel_rfl) (by kernel_rfl)
  obtain ⟨a2, s2, v2, _, _, _⟩ := laid_sentinel (g := 8) h5.tail (by kernel_rfl) (by kernel_rfl) Tryd.underlying34 row171 Tryd.underlying171 Tryd.underlying173 rfl rfl Tryd.underlying9 (by kernel_rfl) (by kernel_rfl)
  have h7 := h5.tail.tail
  have e7 : Rows.laid_bulkhead_code_shapes = (strData shapesB : DataW Unit) := by kernel_rfl
  obtain ⟨ps, hl, _⟩ := h7
  have hl' : DataW.LaidVars Tryd.prog W (("bulkhead/code.shapes", strData shapesB) :: _) ps := e7 ▸ hl
  obtain ⟨h0, _⟩ := laid_str gShapes tShapes u58 u9 c9 c58 hl'
  rw [shapesB_eq] at h0
  obtain ⟨m, hm⟩ := Go.Proofs.cell_of_shapedOpen_int (g := 2) (zero := #[.int .i64 0]) (t := 3) hsh (of_decide_eq_true (by kernel_rfl)) (by kernel_rfl) rfl (by kernel_rfl) (by kernel_rfl) Tryd.underlying3
  have cellsOf : ∀ (name : String) (g : Nat) (cs : Array Value), Tryd.prog.globalNamed name = some g → W.var? Tryd.prog name = some cs → ∃ u z, W.heap[g]? = some (.cells cs u z) := by
    intro name g cs hg hv
    simp only [World.var?, hg, Option.bind_some] at hv
    split at hv
    · rename_i c u z hh
      cases hv
      exact ⟨u, z, hh⟩
    · cases hv
  obtain ⟨u9', z9, h9⟩ := cellsOf _ 9 _ (by kernel_rfl) v1
  obtain ⟨u8', z8, h8⟩ := cellsOf _ 8 _ (by kernel_rfl) v2
  obtain ⟨u3', z3, hh3⟩ := cellsOf _ 3 _ (by kernel_rfl) hp
  obtain ⟨cs, hh, hsz, _⟩ := hsh.1 2 #[.int .i64 0] 3 (of_decide_eq_true (by kernel_rfl)) (by kernel_rfl)
  have hcs : cs = #[.int .i64 m] := by
    simp only [World.cell?, hh] at hm
    apply Array.ext'
    have h1 : cs.toList.length = 1 := by simpa using hsz
    have h2 : cs.toList[0]? = some (.int .i64 m) := by simpa using hm
    match hl : cs.toList, h1 with
    | [x], _ => rw [hl] at h2; simp at h2; rw [h2]
  subst hcs
  have hs9 := (Array.getElem?_eq_some_iff.1 h9).1
  exact ⟨m, .inl rfl, h0, ⟨_, _, hh⟩, ⟨u3', z3, hh3⟩, ⟨_, _, _, h8⟩, ⟨_, _, _, h9⟩, by omega⟩
theorem contract (H : Type) (enc : TypeId × Value → H) (W : World) (base : Nat) (args : Array Value) (ds gs : List (DataW H)) (before : List MemPlace)
    (hval : ∀ (j : Nat) t v, Tryd.f5.params[j]? = some t → args[j]? = some v → Value.okWide Tryd.prog W .any base t v)
    (hW : DataW.Whole enc Tryd.prog Tryd.f5.params.toList Rows.codeLinesSpec.vars false W args.toList ds gs before) (hcond : ∀ k, (OpenSpec.ofChange Rows.codeLinesSpec).cond = some k → k H (ds ++ gs) = true) (hL : laidMetH Tryd.prog Rows.codeLinesRow.laid W) (hsh : W.ShapedOpen Tryd.prog) :
    Calls Tryd.prog 5 args W fun e W' => ∃ v, e = .returned v ∧ Rows.codeLinesSpec.post enc Tryd.prog Tryd.f5 false true false false W args v W' := by
  have hW' := hW
  obtain ⟨p, q, hA0, hV, rfl, hfz, hnd⟩ := hW
  have hA : DataW.TrodAll enc Tryd.prog W 0 (fun _ => true) true Tryd.f5.params.toList args.toList ds p := hA0
  rw [Tryd.params5] at hA hval
  obtain ⟨x1, r1, d1, e1, p1, q1, f1, ha1, hd1, h1, hA1⟩ := trodAll_one hA
  obtain ⟨x2, r2, d2, e2, p2, q2, f2, rfl, hd2, h2, hA2⟩ := trodAll_one hA1
  have hr : r2 = [] := by
    cases r2 with
    | nil => rfl
    | cons y ys => simp [DataW.TrodAll] at hA2
  subst hr
  obtain rfl : args = #[x1, x2] := by cases args; simp_all
  obtain ⟨m, hT⟩ := tables hL hsh
  letI : Mx := ⟨m, none⟩
  obtain ⟨y1, o1, LC, n1, a1⟩ := ar2 10 (by decide) (slice_arg u41 (e := 23) (l := [.int .i64, .int .i64, .int .i64, .int .i64, .int .i64]) (by kernel_rfl) (by kernel_rfl) (by decide) (hval 0 41 x1 rfl rfl) h1)
  obtain ⟨y2, o2, DC, n2, a2⟩ := ar2 11 (by decide) (slice_arg u42 (e := 3) (l := [.int .i64]) (by kernel_rfl) (by kernel_rfl) (by decide) (hval 1 42 x2 rfl rfl) h2)
  have gi : ∀ i, i < n1 → ∃ j : Ins, (LC.drop (i * 5)).take 5 = j.cells := fun i hi => by
    have h3 := a1.sc i hi
    obtain ⟨op, t1, e1, _, h3⟩ := sc_cons h3
    obtain ⟨A, t2, e2, _, h3⟩ := sc_cons h3
    obtain ⟨B, t3, e3, _, h3⟩ := sc_cons h3
    obtain ⟨C, t4, e4, _, h3⟩ := sc_cons h3
    obtain ⟨I, t5, e5, _, h3⟩ := sc_cons h3
    have e6 := sc_nil h3
    exact ⟨⟨op, A, B, C, I⟩, by rw [show (5 : Nat) = [Sc.int .i64, .int .i64, .int .i64, .int .i64, .int .i64].length from rfl, e1, e2, e3, e4, e5, e6]; rfl⟩
  have gd : ∀ i, i < n2 → ∃ v : Int, DC[i]? = some (.int .i64 v) := fun i hi => by
    have h3 := a2.sc i hi
    obtain ⟨v, t1, e1, _, h3⟩ := sc_cons h3
    have e2 := sc_nil h3
    refine ⟨v, ?_⟩
    have e3 : ((DC.drop (i * 1)).take 1)[0]? = some (.int .i64 v) := by
      rw [show (1 : Nat) = [Sc.int .i64].length from rfl, e1]
      rfl
    simpa using e3
  have hI : InL y1 y2 LC DC n1 n2 (fun i => if h : i < n1 then (gi i h).choose else zer) (fun i => if h : i < n2 then (gd i h).choose else 0) := by
    refine ⟨a1.len, a2.len, a1.sa, fun i hi => ?_, a1.lc, fun i hi => ?_, fun i hi => ?_⟩
    · have := a2.sa i hi
      simpa using this
    · rw [dif_pos hi]; exact (gi i hi).choose_spec
    · rw [dif_pos hi]; exact (gd i hi).choose_spec
  obtain ⟨g10, g11⟩ := pk_two (0, 0, LC) (0, 0, DC)
  obtain ⟨H', hv5⟩ := v5 300001 hI (by omega) (hp2 LC DC) rfl rfl g10 g11
  have hS := start_two hT a1.blk a2.blk
  have call := evFn_calls (okc (300001+301)) (fun D => drawOK (okc (300001+301)) mixed) Tryd.func5 ((s5_eq _ _ _ _ _).trans hv5) hS (VL.cons (a1.vr _ rfl) (VL.cons (a2.vr _ rfl) VL.nil))
  refine Calls.mono call fun e W' ⟨ρ', hst, v', he, hvr⟩ => ?_
  obtain rfl := VR.bool_eq _ _ hvr
  have hsame := hst.same hS rfl
  refine ⟨_, he, ?_⟩
  refine law_any (tb := 4) hsame hW' rfl (by kernel_rfl) (by kernel_rfl) (by kernel_rfl) u4 (fun ds hl => ?_)
  match ds, hl with
  | [a, b], _ => rfl

/-- A WORLD FOR THE WITNESS -/
noncomputable def laidWorld (os : Os) : World :=
  let N := (World.settled Tryd.prog os).heap.size
  let w0 := World.holding Tryd.prog os ⟨#[.cells #[.string ⟨#[118, 97, 108, 117, 101, 32, 111, 117, 116, 32, 111, 102, 32, 114, 97, 110, 103, 101]⟩] 173, .cells #[.string ⟨#[105, 110, 118, 97, 108, 105, 100, 32, 115, 121, 110, 116, 97, 120]⟩] 173], #[], []⟩
  let put (h : Array Obj) (g : Nat) (cs : Array Value) : Array Obj := h.modify g fun
    | .cells _ t frozen => .cells cs t frozen
    | o => o
  let h0 := put (put w0.heap 9 #[.iface 171 (.pointer (some ⟨N, 0, none⟩))]) 8 #[.iface 171 (.pointer (some ⟨N + 1, 0, none⟩))]
  let h1 := put h0 4 (Lib.firstTab.map fun z => Value.int .u8 z).toArray
  let h2 := put h1 5 #[.int .u8 128, .int .u8 191, .int .u8 160, .int .u8 191, .int .u8 128, .int .u8 159, .int .u8 144, .int .u8 191, .int .u8 128, .int .u8 143, .int .u8 0, .int .u8 0, .int .u8 0, .int .u8 0, .int .u8 0, .int .u8 0, .int .u8 0, .int .u8 0, .int .u8 0, .int .u8 0, .int .u8 0, .int .u8 0, .int .u8 0, .int .u8 0, .int .u8 0, .int .u8 0, .int .u8 0, .int .u8 0, .int .u8 0, .int .u8 0, .int .u8 0, .int .u8 0]
  let h3 := put h2 6 #[.int .u8 0, .int .u8 1, .int .u8 28, .int .u8 2, .int .u8 29, .int .u8 14, .int .u8 24, .int .u8 3, .int .u8 30, .int .u8 22, .int .u8 20, .int .u8 15, .int .u8 25, .int .u8 17, .int .u8 4, .int .u8 8, .int .u8 31, .int .u8 27, .int .u8 13, .int .u8 23, .int .u8 21, .int .u8 19, .int .u8 16, .int .u8 7, .int .u8 26, .int .u8 12, .int .u8 18, .int .u8 6, .int .u8 11, .int .u8 5, .int .u8 10, .int .u8 9]
  let h4 := put h3 7 #[.int .u8 0, .int .u8 1, .int .u8 56, .int .u8 2, .int .u8 57, .int .u8 49, .int .u8 28, .int .u8 3, .int .u8 61, .int .u8 58, .int .u8 42, .int .u8 50, .int .u8 38, .int .u8 29, .int .u8 17, .int .u8 4, .int .u8 62, .int .u8 47, .int .u8 59, .int .u8 36, .int .u8 45, .int .u8 43, .int .u8 51, .int .u8 22, .int .u8 53, .int .u8 39, .int .u8 33, .int .u8 30, .int .u8 24, .int .u8 18, .int .u8 12, .int .u8 5, .int .u8 63, .int .u8 55, .int .u8 48, .int .u8 27, .int .u8 60, .int .u8 41, .int .u8 37, .int .u8 16, .int .u8 46, .int .u8 35, .int .u8 44, .int .u8 21, .int .u8 52, .int .u8 32, .int .u8 23, .int .u8 11, .int .u8 54, .int .u8 26, .int .u8 40, .int .u8 15, .int .u8 34, .int .u8 20, .int .u8 31, .int .u8 10, .int .u8 25, .int .u8 14, .int .u8 19, .int .u8 9, .int .u8 13, .int .u8 8, .int .u8 7, .int .u8 6]
  let h5 := put h4 3 powC.toArray
  let h6 := put h5 0 shapesC.toArray
  { w0 with heap := h6 }
def args0 : Array Value := #[.slice none 0 0, .slice none 0 0]
theorem laid_met (os : Os) : laidMet Tryd.prog Rows.codeLinesRow.laid ((laidWorld os).forCall (fun _ _ => 0) ⟨#[], args0, []⟩).memory :=
  laidMet_of_run' 8 (by kernel_rfl) (by kernel_rfl)

theorem reads (os : Os) {H : Type} (enc : TypeId × Value → H) : ∃ places, DataW.whole enc Tryd.prog ((laidWorld os).forCall (fun _ _ => 0) ⟨#[], args0, []⟩).memory Tryd.f5.params.toList Rows.codeLinesSpec.vars false args0.toList 8 = some ([.nil, .nil], [], places) :=
  ⟨[], by kernel_rfl⟩
theorem lifted (os : Os) (started : os.Started) (H : Type) (enc : TypeId × Value → H) (F : Stop.Interp) :
    ReturnsInHanded {} Tryd.checked os 5 .any ((OpenSpec.ofChange Rows.codeLinesSpec).preRow enc Tryd.prog Tryd.f5 Rows.codeLinesRow.domain false Rows.codeLinesRow.laid) (((OpenSpec.ofChange Rows.codeLinesSpec).at F).post enc Tryd.prog Tryd.f5 false true false false) := by
  obtain ⟨places, hx⟩ := reads os enc
  refine returnsInHanded_of_row (C := Tryd.checked) (s := (OpenSpec.ofChange Rows.codeLinesSpec)) own started (by kernel_rfl) Tryd.func5
    (witness_row_at (enc := enc) (C := Tryd.checked) false (laidWorld os) args0 rfl (by kernel_rfl) (by kernel_rfl) (by kernel_rfl)
      (OpenSpec.preRow_of_cond 8 hx (by kernel_rfl) (fun k hk => by cases hk) (by kernel_rfl) (laid_met os))) ?_
  intro W base args ds gs before hval hW _ hcond _ hL hsh _
  exact contract H enc W base args ds gs before hval hW hcond hL hsh
theorem said : Rows.CodeLinesSaid :=
  OpenClaim.holds_of_cond 5 Tryd.f5 rfl rfl rfl rfl rfl rfl rfl ⟨rfl, rfl, rfl, rfl, rfl⟩ rfl rfl rfl rfl rfl (by kernel_rfl) Tryd.func5 (by kernel_rfl)
    (of_decide_eq_true (by kernel_rfl)) (by unfold Func.isWrapper; first | (rw [if_pos (by decide +kernel)]; kernel_rfl) | (rw [if_neg (by decide +kernel)]; exact ⟨rfl, rfl⟩))
    (fun os started H enc _ F => by rw [OpenClaim.pre_eq_preRow]; exact lifted os started H enc F)
theorem plain (f : FuncId) (fn : Func) (hf : Tryd.pinned.checked.prog.funcNamed "bulkhead/bulkheadlaw04.CodeLines" = some f) (hfn : Tryd.pinned.checked.prog.funcs[f]? = some fn) :
    true = Tryd.pinned.checked.prog.looks [] ∧ ∀ (j : Nat) t, fn.params[j]? = some t → Tryd.pinned.checked.prog.wantsStandIn t = false := by
  obtain rfl : f = 5 := Option.some.inj ((show Tryd.prog.funcNamed "bulkhead/bulkheadlaw04.CodeLines" = some 5 by kernel_rfl).symm.trans hf) |>.symm
  obtain rfl : fn = Tryd.f5 := (Option.some.inj (Tryd.func5.symm.trans hfn)).symm
  refine ⟨by kernel_rfl, fun j t ht => ?_⟩
  rw [Tryd.params5] at ht
  have hm : t ∈ #[41, 42] := Array.mem_of_getElem? ht
  simp only [List.mem_toArray, List.mem_cons, List.not_mem_nil, or_false] at hm
  rcases hm with rfl | rfl
  · exact (show Tryd.prog.wantsStandIn 41 = false by kernel_rfl)
  · exact (show Tryd.prog.wantsStandIn 42 = false by kernel_rfl)
end codeLines
/-- THE CARD -/
theorem codeLines_card : Rows.CodeLinesCardSaid :=
  Claim7.holds_tied_plain_at .later [] _ _ _ _ codeLines.said (fun _ h => by cases h) (by kernel_rfl) (fun _ h => by cases h) codeLines_row_tie rfl ⟨rfl, rfl⟩ (by kernel_rfl) rfl codeLines.plain (by kernel_rfl)
#print axioms codeLines_card
end Go.Proofs.YtbaooebafijenaaDoor

