/- PROVED HERE: a jump to a label, over any lines between, ahead or behind, goes just over so many words (CodeLabels answers true for every input).
   Conditions: the row's own (the listed variables read as the program's text lays them). -/
import Derived.Test.YtbaooebafijenaaDoorGLab
import Derived.Test.YtbaooebafijenaaDoorGZ0
import Derived.Test.YtbaooebafijenaaDoorCards
import Derived.Test.YtbaooebafijenaaDoorTie
namespace Go.Proofs.YtbaooebafijenaaDoor
open Go Go.Ev Go.ChangeShapes Go.WideShapes Go.ChangeAt Go.RowKit
set_option maxRecDepth 100000
set_option linter.unusedSimpArgs false
set_option linter.unusedVariables false
namespace codeLabels
theorem tables {W : World} (h : laidMetH Tryd.prog Rows.codeLabelsRow.laid W) (hsh : W.ShapedOpen Tryd.prog) : ∃ m, Tabd W m none := by
  have h : laidMet Tryd.prog Rows.codeLabelsRow.laid W := by
    have hn : Rows.codeLabelsRow.laid.filter (fun x => x.2.handleName?.isSome) = [] := by kernel_rfl
    unfold laidMetH at h
    rw [hn] at h
    exact h
  have h3 := h.tail.tail
  have e3 : Rows.laid_internal_strconv_uint64pow10 = (Lib.tabData .u64 Lib.pow10Tab : DataW Unit) := by kernel_rfl
  have hp : Lib.TabIs Tryd.prog W "internal/strconv.uint64pow10" .u64 Lib.pow10Tab := by
    have h3' : laidMet Tryd.prog (("internal/strconv.uint64pow10", Lib.tabData .u64 Lib.pow10Tab) :: _) W := e3 ▸ h3
    exact Lib.tabIs_of_head (g := 3) (t := 145) (e := 31) (n := 20) (by kernel_rfl) (by kernel_rfl) (by kernel_rfl) (by kernel_rfl) (by kernel_rfl) (by kernel_rfl) h3'
  have h5 := h3.tail.tail
  obtain ⟨a1, s1, v1, _, _, _⟩ := laid_sentinel (g := 9) h5 (by kernel_rfl) (by kernel_rfl) Tryd.underlying34 row171 Tryd.underlying171 Tryd.underlying173 rfl rfl Tryd.underlying9 (by kernel_rfl) (by kernel_rfl)
  obtain ⟨a2, s2, v2, _, _, _⟩ := laid_sentinel (g := 8) h5.tail (by kernel_rfl) (by kernel_rfl) Tryd.underlying34 row171 Tryd.underlying171 Tryd.underlying173 rfl rfl Tryd.underlying9 (by kernel_rfl) (by kernel_rfl)
  have h7 := h5.tail.tail
  have e7 : Rows.laid_bulkhead_code_shapes = (strData shapesB : DataW Unit) := by kernel_rfl
  obtain ⟨ps, hl, _⟩ := h7
  have hl' : DataW.LaidVars Tryd.prog W (("bulkhead/code.shapes", strData shapesB) :: _) ps := e7 ▸ hl
  obtain ⟨h0, _⟩ := laid_str gShapes tShapes u58 u9 c9 c58 hl'
  rw [shapesB_eq] at h0
  obtain ⟨m, hm⟩ := Go.Proofs.cell_of_shapedOpen_int (g := 2) (zero := #[.int .i64 0]) (t := 3) hsh (of_decide_eq_true (by kernel_rfl)) (by kernel_rfl) rfl (by kernel_rfl) (by kernel_rfl) Tryd.underlying3
  have cellsOf : ∀ (name : String) (g : Nat) (cs : Array Value), Tryd.prog.globalNamed name = some g → W.var? Tryd.prog name = some cs → ∃ u z, W.heap[g]? = some (.cells cs u z) := by
    intro name g cs hg hv
    simp only [World.var?, hg, Option.bind_some] at hv
    split at hv
    · rename_i c u z hh
      cases hv
      exact ⟨u, z, hh⟩
    · cases hv
  obtain ⟨u9', z9, h9⟩ := cellsOf _ 9 _ (by kernel_rfl) v1
  obtain ⟨u8', z8, h8⟩ := cellsOf _ 8 _ (by kernel_rfl) v2
  obtain ⟨u3', z3, hh3⟩ := cellsOf _ 3 _ (by kernel_rfl) hp
  obtain ⟨cs, hh, hsz, _⟩ := hsh.1 2 #[.int .i64 0] 3 (of_decide_eq_true (by kernel_rfl)) (by kernel_rfl)
  have hcs : cs = #[.int .i64 m] := by
    simp only [World.cell?, hh] at hm
    apply Array.ext'
    have h1 : cs.toList.length = 1 := by simpa using hsz
    have h2 : cs.toList[0]? = some (.int .i64 m) := by simpa using hm
    match hl : cs.toList, h1 with
    | [x], _ => rw [hl] at h2; simp at h2; rw [h2]
  subst hcs
  have hs9 := (Array.getElem?_eq_some_iff.1 h9).1
  exact ⟨m, .inl rfl, h0, ⟨_, _, hh⟩, ⟨u3', z3, hh3⟩, ⟨_, _, _, h8⟩, ⟨_, _, _, h9⟩, by omega⟩
theorem contract (H : Type) (enc : TypeId × Value → H) (W : World) (base : Nat) (args : Array Value) (ds gs : List (DataW H)) (before : List MemPlace)
    (hval : ∀ (j : Nat) t v, Tryd.f4.params[j]? = some t → args[j]? = some v → Value.okWide Tryd.prog W .any base t v)
    (hW : DataW.Whole enc Tryd.prog Tryd.f4.params.toList Rows.codeLabelsSpec.vars false W args.toList ds gs before) (hcond : ∀ k, (OpenSpec.ofChange Rows.codeLabelsSpec).cond = some k → k H (ds ++ gs) = true) (hL : laidMetH Tryd.prog Rows.codeLabelsRow.laid W) (hsh : W.ShapedOpen Tryd.prog) :
    Calls Tryd.prog 4 args W fun e W' => ∃ v, e = .returned v ∧ Rows.codeLabelsSpec.post enc Tryd.prog Tryd.f4 false true false false W args v W' := by
  have hW' := hW
  obtain ⟨p, q, hA0, hV, rfl, hfz, hnd⟩ := hW
  have hA : DataW.TrodAll enc Tryd.prog W 0 (fun _ => true) true Tryd.f4.params.toList args.toList ds p := hA0
  rw [Tryd.params4] at hA hval
  obtain ⟨x0, r0, d0, q0, ha0, hs0, hA1⟩ := trodAll_sc (l := [.int .i64]) (by kernel_rfl) hA
  obtain ⟨x1, r1, d1, q1, rfl, hs1, hA2⟩ := trodAll_sc (l := [.int .i64]) (by kernel_rfl) hA1
  obtain ⟨x2, r2, d2, q2, rfl, hs2, hA3⟩ := trodAll_sc (l := [.bool]) (by kernel_rfl) hA2
  have hr2 : r2 = [] := by
    cases r2 with
    | nil => rfl
    | cons y ys => simp [DataW.TrodAll] at hA3
  subst hr2
  obtain rfl : args = #[x0, x1, x2] := by cases args; simp_all
  obtain ⟨x, rfl, _, _⟩ := scalar_int u3 (hval 0 3 x0 rfl rfl) hs0
  obtain ⟨y, rfl, _, _⟩ := scalar_int u3 (hval 1 3 x1 rfl rfl) hs1
  obtain ⟨ah, rfl⟩ := okWide_bool u4 (hval 2 4 x2 rfl rfl)
  obtain ⟨m, hT⟩ := tables hL hsh
  have hS := start_sim hT
  letI : Mx := ⟨m, none⟩
  have call := calls_same (okc (100001 + 302)) (v4 100001 Hp.fl x y ah (by omega)) rfl VR.bool_eq hS (VL.all_flat _ rfl)
  refine Calls.mono call fun e W' ⟨he, hsame⟩ => ⟨_, he, ?_⟩
  refine law_flat (tb := 4) hsame hW' rfl (by kernel_rfl) (by kernel_rfl) u4 (fun ds hl => ?_)
  match ds, hl with
  | [a, b, c], _ => rfl

/-- A WORLD FOR THE WITNESS -/
noncomputable def laidWorld (os : Os) : World :=
  let N := (World.settled Tryd.prog os).heap.size
  let w0 := World.holding Tryd.prog os ⟨#[.cells #[.string ⟨#[118, 97, 108, 117, 101, 32, 111, 117, 116, 32, 111, 102, 32, 114, 97, 110, 103, 101]⟩] 173, .cells #[.string ⟨#[105, 110, 118, 97, 108, 105, 100, 32, 115, 121, 110, 116, 97, 120]⟩] 173], #[], []⟩
  let put (h : Array Obj) (g : Nat) (cs : Array Value) : Array Obj := h.modify g fun
    | .cells _ t frozen => .cells cs t frozen
    | o => o
  let h0 := put (put w0.heap 9 #[.iface 171 (.pointer (some ⟨N, 0, none⟩))]) 8 #[.iface 171 (.pointer (some ⟨N + 1, 0, none⟩))]
  let h1 := put h0 4 (Lib.firstTab.map fun z => Value.int .u8 z).toArray
  let h2 := put h1 5 #[.int .u8 128, .int .u8 191, .int .u8 160, .int .u8 191, .int .u8 128, .int .u8 159, .int .u8 144, .int .u8 191, .int .u8 128, .int .u8 143, .int .u8 0, .int .u8 0, .int .u8 0, .int .u8 0, .int .u8 0, .int .u8 0, .int .u8 0, .int .u8 0, .int .u8 0, .int .u8 0, .int .u8 0, .int .u8 0, .int .u8 0, .int .u8 0, .int .u8 0, .int .u8 0, .int .u8 0, .int .u8 0, .int .u8 0, .int .u8 0, .int .u8 0, .int .u8 0]
  let h3 := put h2 6 #[.int .u8 0, .int .u8 1, .int .u8 28, .int .u8 2, .int .u8 29, .int .u8 14, .int .u8 24, .int .u8 3, .int .u8 30, .int .u8 22, .int .u8 20, .int .u8 15, .int .u8 25, .int .u8 17, .int .u8 4, .int .u8 8, .int .u8 31, .int .u8 27, .int .u8 13, .int .u8 23, .int .u8 21, .int .u8 19, .int .u8 16, .int .u8 7, .int .u8 26, .int .u8 12, .int .u8 18, .int .u8 6, .int .u8 11, .int .u8 5, .int .u8 10, .int .u8 9]
  let h4 := put h3 7 #[.int .u8 0, .int .u8 1, .int .u8 56, .int .u8 2, .int .u8 57, .int .u8 49, .int .u8 28, .int .u8 3, .int .u8 61, .int .u8 58, .int .u8 42, .int .u8 50, .int .u8 38, .int .u8 29, .int .u8 17, .int .u8 4, .int .u8 62, .int .u8 47, .int .u8 59, .int .u8 36, .int .u8 45, .int .u8 43, .int .u8 51, .int .u8 22, .int .u8 53, .int .u8 39, .int .u8 33, .int .u8 30, .int .u8 24, .int .u8 18, .int .u8 12, .int .u8 5, .int .u8 63, .int .u8 55, .int .u8 48, .int .u8 27, .int .u8 60, .int .u8 41, .int .u8 37, .int .u8 16, .int .u8 46, .int .u8 35, .int .u8 44, .int .u8 21, .int .u8 52, .int .u8 32, .int .u8 23, .int .u8 11, .int .u8 54, .int .u8 26, .int .u8 40, .int .u8 15, .int .u8 34, .int .u8 20, .int .u8 31, .int .u8 10, .int .u8 25, .int .u8 14, .int .u8 19, .int .u8 9, .int .u8 13, .int .u8 8, .int .u8 7, .int .u8 6]
  let h5 := put h4 3 powC.toArray
  let h6 := put h5 0 shapesC.toArray
  { w0 with heap := h6 }
def args0 : Array Value := #[.int .i64 0, .int .i64 0, .bool false]
theorem laid_met (os : Os) : laidMet Tryd.prog Rows.codeLabelsRow.laid ((laidWorld os).forCall (fun _ _ => 0) ⟨#[], args0, []⟩).memory :=
  laidMet_of_run' 8 (by kernel_rfl) (by kernel_rfl)

theorem reads (os : Os) {H : Type} (enc : TypeId × Value → H) : ∃ places, DataW.whole enc Tryd.prog ((laidWorld os).forCall (fun _ _ => 0) ⟨#[], args0, []⟩).memory Tryd.f4.params.toList Rows.codeLabelsSpec.vars false args0.toList 8 = some ([.lit (.int .i64 0), .lit (.int .i64 0), .lit (.bool false)], [], places) :=
  ⟨[], by kernel_rfl⟩
theorem lifted (os : Os) (started : os.Started) (H : Type) (enc : TypeId × Value → H) (F : Stop.Interp) :
    ReturnsInHanded {} Tryd.checked os 4 .any ((OpenSpec.ofChange Rows.codeLabelsSpec).preRow enc Tryd.prog Tryd.f4 Rows.codeLabelsRow.domain false Rows.codeLabelsRow.laid) (((OpenSpec.ofChange Rows.codeLabelsSpec).at F).post enc Tryd.prog Tryd.f4 false true false false) := by
  obtain ⟨places, hx⟩ := reads os enc
  refine returnsInHanded_of_row (C := Tryd.checked) (s := (OpenSpec.ofChange Rows.codeLabelsSpec)) own started (by kernel_rfl) Tryd.func4
    (witness_row_at (enc := enc) (C := Tryd.checked) false (laidWorld os) args0 rfl (by kernel_rfl) (by kernel_rfl) (by kernel_rfl)
      (OpenSpec.preRow_of_cond 8 hx (by kernel_rfl) (fun k hk => by cases hk) (by kernel_rfl) (laid_met os))) ?_
  intro W base args ds gs before hval hW _ hcond _ hL hsh _
  exact contract H enc W base args ds gs before hval hW hcond hL hsh
theorem said : Rows.CodeLabelsSaid :=
  OpenClaim.holds_of_cond 4 Tryd.f4 rfl rfl rfl rfl rfl rfl rfl ⟨rfl, rfl, rfl, rfl, rfl⟩ rfl rfl rfl rfl rfl (by kernel_rfl) Tryd.func4 (by kernel_rfl)
    (of_decide_eq_true (by kernel_rfl)) (by unfold Func.isWrapper; first | (rw [if_pos (by decide +kernel)]; kernel_rfl) | (rw [if_neg (by decide +kernel)]; exact ⟨rfl, rfl⟩))
    (fun os started H enc _ F => by rw [OpenClaim.pre_eq_preRow]; exact lifted os started H enc F)
theorem plain (f : FuncId) (fn : Func) (hf : Tryd.pinned.checked.prog.funcNamed "bulkhead/bulkheadlaw04.CodeLabels" = some f) (hfn : Tryd.pinned.checked.prog.funcs[f]? = some fn) :
    true = Tryd.pinned.checked.prog.looks [] ∧ ∀ (j : Nat) t, fn.params[j]? = some t → Tryd.pinned.checked.prog.wantsStandIn t = false := by
  obtain rfl : f = 4 := Option.some.inj ((show Tryd.prog.funcNamed "bulkhead/bulkheadlaw04.CodeLabels" = some 4 by kernel_rfl).symm.trans hf) |>.symm
  obtain rfl : fn = Tryd.f4 := (Option.some.inj (Tryd.func4.symm.trans hfn)).symm
  refine ⟨by kernel_rfl, fun j t ht => ?_⟩
  rw [Tryd.params4] at ht
  have hm : t ∈ #[3, 3, 4] := Array.mem_of_getElem? ht
  simp only [List.mem_toArray, List.mem_cons, List.not_mem_nil, or_false] at hm
  rcases hm with rfl | rfl | rfl
  · exact (show Tryd.prog.wantsStandIn 3 = false by kernel_rfl)
  · exact (show Tryd.prog.wantsStandIn 3 = false by kernel_rfl)
  · exact (show Tryd.prog.wantsStandIn 4 = false by kernel_rfl)
end codeLabels
/-- THE CARD -/
theorem codeLabels_card : Rows.CodeLabelsCardSaid :=
  Claim7.holds_tied_plain_at .later [] _ _ _ _ codeLabels.said (fun _ h => by cases h) (by kernel_rfl) (fun _ h => by cases h) codeLabels_row_tie rfl ⟨rfl, rfl⟩ (by kernel_rfl) rfl codeLabels.plain (by kernel_rfl)
#print axioms codeLabels_card
end Go.Proofs.YtbaooebafijenaaDoor

