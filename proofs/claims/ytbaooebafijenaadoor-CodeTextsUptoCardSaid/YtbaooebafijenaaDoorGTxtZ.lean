/- PROVED HERE: the text of each instruction and the instruction of each text are those of the document (CodeTexts answers true for every input of bulk at most 1048576).
   Conditions: the row's own (the listed variables read as the program's text lays them). -/
import Derived.Test.YtbaooebafijenaaDoorGRO4
import Derived.Test.YtbaooebafijenaaDoorGZ0
import Derived.Test.YtbaooebafijenaaDoorCards
import Derived.Test.YtbaooebafijenaaDoorTie
namespace Go.Proofs.YtbaooebafijenaaDoor
open Go Go.Ev Go.ChangeShapes Go.WideShapes Go.ChangeAt Go.RowKit
set_option maxRecDepth 100000
set_option linter.unusedSimpArgs false
set_option linter.unusedVariables false
def namesB : List (List UInt8) := namesC.map fun v => match v with | .string s => s.data.toList | _ => []
theorem namesB_eq : strCells namesB = namesC := by kernel_rfl
theorem gNames : Tryd.prog.globalNamed "bulkhead/bulkheadref04.names" = some 1 := by kernel_rfl
theorem tNames : (Tryd.prog.globals[1]?).map (·.type) = some 66 := by kernel_rfl
theorem u66 : Tryd.prog.underlying 66 = some (.array 72 9) := by kernel_rfl
theorem c66 : Tryd.prog.cellsOf 66 = 72 := by kernel_rfl
namespace codeTexts
theorem tables {W : World} (h : laidMetH Tryd.prog Rows.codeTextsUptoRow.laid W) (hsh : W.ShapedOpen Tryd.prog) : ∃ m, Tabd W m (some (.ro namesC)) := by
  have h : laidMet Tryd.prog Rows.codeTextsUptoRow.laid W := by
    have hn : Rows.codeTextsUptoRow.laid.filter (fun x => x.2.handleName?.isSome) = [] := by kernel_rfl
    unfold laidMetH at h
    rw [hn] at h
    exact h
  have h3 := h.tail.tail
  have e3 : Rows.laid_internal_strconv_uint64pow10 = (Lib.tabData .u64 Lib.pow10Tab : DataW Unit) := by kernel_rfl
  have hp : Lib.TabIs Tryd.prog W "internal/strconv.uint64pow10" .u64 Lib.pow10Tab := by
    have h3' : laidMet Tryd.prog (("internal/strconv.uint64pow10", Lib.tabData .u64 Lib.pow10Tab) :: _) W := e3 ▸ h3
    exact Lib.tabIs_of_head (g := 3) (t := 145) (e := 31) (n := 20) (by kernel_rfl) (by kernel_rfl) (by kernel_rfl) (by kernel_rfl) (by kernel_rfl) (by kernel_rfl) h3'
  have h5 := h3.tail
  obtain ⟨a1, s1, v1, _, _, _⟩ := laid_sentinel (g := 9) h5 (by kernel_rfl) (by kernel_rfl) Tryd.underlying34 row171 Tryd.underlying171 Tryd.underlying173 rfl rfl Tryd.underlying9 (by kernel_rfl) (by kernel_rfl)
  obtain ⟨a2, s2, v2, _, _, _⟩ := laid_sentinel (g := 8) h5.tail (by kernel_rfl) (by kernel_rfl) Tryd.underlying34 row171 Tryd.underlying171 Tryd.underlying173 rfl rfl Tryd.underlying9 (by kernel_rfl) (by kernel_rfl)
  have hN := h5.tail.tail
  have eN : Rows.laid_bulkhead_bulkheadref04_names = (strData namesB : DataW Unit) := by kernel_rfl
  have h7 := hN.tail
  obtain ⟨psN, hlN, _⟩ := hN
  have hlN' : DataW.LaidVars Tryd.prog W (("bulkhead/bulkheadref04.names", strData namesB) :: _) psN := eN ▸ hlN
  obtain ⟨hN0, _⟩ := laid_str gNames tNames u66 u9 c9 c66 hlN'
  rw [namesB_eq] at hN0
  have e7 : Rows.laid_bulkhead_code_shapes = (strData shapesB : DataW Unit) := by kernel_rfl
  obtain ⟨ps, hl, _⟩ := h7
  have hl' : DataW.LaidVars Tryd.prog W (("bulkhead/code.shapes", strData shapesB) :: _) ps := e7 ▸ hl
  obtain ⟨h0, _⟩ := laid_str gShapes tShapes u58 u9 c9 c58 hl'
  rw [shapesB_eq] at h0
  obtain ⟨m, hm⟩ := Go.Proofs.cell_of_shapedOpen_int (g := 2) (zero := #[.int .i64 0]) (t := 3) hsh (of_decide_eq_true (by kernel_rfl)) (by kernel_rfl) rfl (by kernel_rfl) (by kernel_rfl) Tryd.underlying3
  have cellsOf : ∀ (name : String) (g : Nat) (cs : Array Value), Tryd.prog.globalNamed name = some g → W.var? Tryd.prog name = some cs → ∃ u z, W.heap[g]? = some (.cells cs u z) := by
    intro name g cs hg hv
    simp only [World.var?, hg, Option.bind_some] at hv
    split at hv
    · rename_i c u z hh
      cases hv
      exact ⟨u, z, hh⟩
    · cases hv
  obtain ⟨u9', z9, h9⟩ := cellsOf _ 9 _ (by kernel_rfl) v1
  obtain ⟨u8', z8, h8⟩ := cellsOf _ 8 _ (by kernel_rfl) v2
  obtain ⟨u3', z3, hh3⟩ := cellsOf _ 3 _ (by kernel_rfl) hp
  obtain ⟨cs, hh, hsz, _⟩ := hsh.1 2 #[.int .i64 0] 3 (of_decide_eq_true (by kernel_rfl)) (by kernel_rfl)
  have hcs : cs = #[.int .i64 m] := by
    simp only [World.cell?, hh] at hm
    apply Array.ext'
    have h1 : cs.toList.length = 1 := by simpa using hsz
    have h2 : cs.toList[0]? = some (.int .i64 m) := by simpa using hm
    match hl : cs.toList, h1 with
    | [x], _ => rw [hl] at h2; simp at h2; rw [h2]
  subst hcs
  have hs9 := (Array.getElem?_eq_some_iff.1 h9).1
  exact ⟨m, .inr ⟨rfl, hN0⟩, h0, ⟨_, _, hh⟩, ⟨u3', z3, hh3⟩, ⟨_, _, _, h8⟩, ⟨_, _, _, h9⟩, by omega⟩
theorem contract (H : Type) (enc : TypeId × Value → H) (W : World) (base : Nat) (args : Array Value) (ds gs : List (DataW H)) (before : List MemPlace)
    (hval : ∀ (j : Nat) t v, Tryd.f3.params[j]? = some t → args[j]? = some v → Value.okWide Tryd.prog W .any base t v)
    (hW : DataW.Whole enc Tryd.prog Tryd.f3.params.toList Rows.codeTextsSpec.vars false W args.toList ds gs before) (hcond : ∀ k, (Rows.OpenSpec.upto Rows.codeTextsSpec).cond = some k → k H (ds ++ gs) = true) (hL : laidMetH Tryd.prog Rows.codeTextsUptoRow.laid W) (hsh : W.ShapedOpen Tryd.prog) :
    Calls Tryd.prog 3 args W fun e W' => ∃ v, e = .returned v ∧ Rows.codeTextsSpec.post enc Tryd.prog Tryd.f3 false true false false W args v W' := by
  have hW' := hW
  obtain ⟨p, q, hA0, hV, rfl, hfz, hnd⟩ := hW
  have hA : DataW.TrodAll enc Tryd.prog W 0 (fun _ => true) true Tryd.f3.params.toList args.toList ds p := hA0
  rw [Tryd.params3] at hA hval
  obtain ⟨x1, r1, d1, e1', q1, ha0, hds1, hs1, hA2⟩ := trodAll_scd (l := [.int .i64, .int .i64, .int .i64, .int .i64, .int .i64]) (by kernel_rfl) hA
  obtain ⟨x2, r2, d2, e2, p2, q2, fl2, rfl, hds, htr, hA3⟩ := trodAll_one hA2
  obtain ⟨s, hs2, hd2⟩ := trod_str u9 htr
  have hr2 : r2 = [] := by
    cases r2 with
    | nil => rfl
    | cons y ys => simp [DataW.TrodAll] at hA3
  subst hr2
  obtain rfl : args = #[x1, x2] := by cases args; simp_all
  obtain ⟨cs, rfl⟩ := agg_of (t := 23) (by kernel_rfl) (hval 0 23 x1 rfl rfl)
  obtain rfl := scalar_str u9 (hval 1 9 x2 rfl rfl) hs2
  have hs1' : ScL [.int .i64, .int .i64, .int .i64, .int .i64, .int .i64] cs.toList := hs1
  obtain ⟨op, t1, e1, _, hs1'⟩ := sc_cons hs1'
  obtain ⟨A, t2, rfl, _, hs1'⟩ := sc_cons hs1'
  obtain ⟨B, t3, rfl, _, hs1'⟩ := sc_cons hs1'
  obtain ⟨C, t4, rfl, _, hs1'⟩ := sc_cons hs1'
  obtain ⟨I, t5, rfl, _, hs1'⟩ := sc_cons hs1'
  obtain rfl := sc_nil hs1'
  obtain rfl : cs = #[.int .i64 op, .int .i64 A, .int .i64 B, .int .i64 C, .int .i64 I] := by cases cs; simp_all
  have hsz : s.size ≤ 1048576 := by
    have h1 := of_decide_eq_true (hcond _ rfl)
    have hmem : d2 ∈ ds ++ gs := by rw [hds1, hds]; simp
    have h2 := bulk_mem _ _ hmem
    cases hd2
    rw [Rows.uptoBulk] at h2
    rw [Lib.size_eq]
    omega
  obtain ⟨m, hT⟩ := tables hL hsh
  have hS := start_sim hT
  letI : Mx := ⟨m, some (.ro namesC)⟩
  have call := calls_same (okc (s.size + 1 + 202)) (v3 rfl (s.size + 1) ⟨op, A, B, C, I⟩ s (by omega) (by omega) Hp.fl) rfl VR.bool_eq hS (VL.all_flat _ rfl)
  refine Calls.mono call fun e W' ⟨he, hsame⟩ => ⟨_, he, ?_⟩
  refine law_flat (tb := 4) hsame hW' rfl (by kernel_rfl) (by kernel_rfl) u4 (fun ds hl => ?_)
  match ds, hl with
  | [a, b], _ => rfl

/-- A WORLD FOR THE WITNESS -/
noncomputable def laidWorld (os : Os) : World :=
  let N := (World.settled Tryd.prog os).heap.size
  let w0 := World.holding Tryd.prog os ⟨#[.cells #[.string ⟨#[118, 97, 108, 117, 101, 32, 111, 117, 116, 32, 111, 102, 32, 114, 97, 110, 103, 101]⟩] 173, .cells #[.string ⟨#[105, 110, 118, 97, 108, 105, 100, 32, 115, 121, 110, 116, 97, 120]⟩] 173], #[], []⟩
  let put (h : Array Obj) (g : Nat) (cs : Array Value) : Array Obj := h.modify g fun
    | .cells _ t frozen => .cells cs t frozen
    | o => o
  let h0 := put (put w0.heap 9 #[.iface 171 (.pointer (some ⟨N, 0, none⟩))]) 8 #[.iface 171 (.pointer (some ⟨N + 1, 0, none⟩))]
  let h1 := put h0 4 (Lib.firstTab.map fun z => Value.int .u8 z).toArray
  let h2 := put h1 5 #[.int .u8 128, .int .u8 191, .int .u8 160, .int .u8 191, .int .u8 128, .int .u8 159, .int .u8 144, .int .u8 191, .int .u8 128, .int .u8 143, .int .u8 0, .int .u8 0, .int .u8 0, .int .u8 0, .int .u8 0, .int .u8 0, .int .u8 0, .int .u8 0, .int .u8 0, .int .u8 0, .int .u8 0, .int .u8 0, .int .u8 0, .int .u8 0, .int .u8 0, .int .u8 0, .int .u8 0, .int .u8 0, .int .u8 0, .int .u8 0, .int .u8 0, .int .u8 0]
  let h3 := put h2 6 #[.int .u8 0, .int .u8 1, .int .u8 28, .int .u8 2, .int .u8 29, .int .u8 14, .int .u8 24, .int .u8 3, .int .u8 30, .int .u8 22, .int .u8 20, .int .u8 15, .int .u8 25, .int .u8 17, .int .u8 4, .int .u8 8, .int .u8 31, .int .u8 27, .int .u8 13, .int .u8 23, .int .u8 21, .int .u8 19, .int .u8 16, .int .u8 7, .int .u8 26, .int .u8 12, .int .u8 18, .int .u8 6, .int .u8 11, .int .u8 5, .int .u8 10, .int .u8 9]
  let h4 := put h3 7 #[.int .u8 0, .int .u8 1, .int .u8 56, .int .u8 2, .int .u8 57, .int .u8 49, .int .u8 28, .int .u8 3, .int .u8 61, .int .u8 58, .int .u8 42, .int .u8 50, .int .u8 38, .int .u8 29, .int .u8 17, .int .u8 4, .int .u8 62, .int .u8 47, .int .u8 59, .int .u8 36, .int .u8 45, .int .u8 43, .int .u8 51, .int .u8 22, .int .u8 53, .int .u8 39, .int .u8 33, .int .u8 30, .int .u8 24, .int .u8 18, .int .u8 12, .int .u8 5, .int .u8 63, .int .u8 55, .int .u8 48, .int .u8 27, .int .u8 60, .int .u8 41, .int .u8 37, .int .u8 16, .int .u8 46, .int .u8 35, .int .u8 44, .int .u8 21, .int .u8 52, .int .u8 32, .int .u8 23, .int .u8 11, .int .u8 54, .int .u8 26, .int .u8 40, .int .u8 15, .int .u8 34, .int .u8 20, .int .u8 31, .int .u8 10, .int .u8 25, .int .u8 14, .int .u8 19, .int .u8 9, .int .u8 13, .int .u8 8, .int .u8 7, .int .u8 6]
  let h5 := put h4 3 powC.toArray
  let h6 := put h5 0 shapesC.toArray
  let h7 := put h6 1 namesC.toArray
  { w0 with heap := h7 }
def args0 : Array Value := #[.agg #[.int .i64 0, .int .i64 0, .int .i64 0, .int .i64 0, .int .i64 0], .string ⟨#[]⟩]
theorem laid_met (os : Os) : laidMet Tryd.prog Rows.codeTextsUptoRow.laid ((laidWorld os).forCall (fun _ _ => 0) ⟨#[], args0, []⟩).memory :=
  laidMet_of_run' 8 (by kernel_rfl) (by kernel_rfl)

theorem reads (os : Os) {H : Type} (enc : TypeId × Value → H) : ∃ places, DataW.whole enc Tryd.prog ((laidWorld os).forCall (fun _ _ => 0) ⟨#[], args0, []⟩).memory Tryd.f3.params.toList Rows.codeTextsSpec.vars false args0.toList 8 = some ([.agg [.lit (.int .i64 0), .lit (.int .i64 0), .lit (.int .i64 0), .lit (.int .i64 0), .lit (.int .i64 0)], .lit (.string [])], [], places) :=
  ⟨[], by kernel_rfl⟩
theorem lifted (os : Os) (started : os.Started) (H : Type) (enc : TypeId × Value → H) (F : Stop.Interp) :
    ReturnsInHanded {} Tryd.checked os 3 .any ((Rows.OpenSpec.upto Rows.codeTextsSpec).preRow enc Tryd.prog Tryd.f3 Rows.codeTextsUptoRow.domain false Rows.codeTextsUptoRow.laid) (((Rows.OpenSpec.upto Rows.codeTextsSpec).at F).post enc Tryd.prog Tryd.f3 false true false false) := by
  obtain ⟨places, hx⟩ := reads os enc
  refine returnsInHanded_of_row (C := Tryd.checked) (s := (Rows.OpenSpec.upto Rows.codeTextsSpec)) own started (by kernel_rfl) Tryd.func3
    (witness_row_at (enc := enc) (C := Tryd.checked) false (laidWorld os) args0 rfl (by kernel_rfl) (by kernel_rfl) (by kernel_rfl)
      (OpenSpec.preRow_of_cond 8 hx (by kernel_rfl) (fun k hk => by cases hk; first | rfl | kernel_rfl | (simp [Rows.uptoSmall, Rows.uptoBulk, Rows.uptoBulkAll])) (by kernel_rfl) (laid_met os))) ?_
  intro W base args ds gs before hval hW _ hcond _ hL hsh _
  exact contract H enc W base args ds gs before hval hW hcond hL hsh
theorem said : Rows.CodeTextsUptoSaid :=
  OpenClaim.holds_of_cond 3 Tryd.f3 rfl rfl rfl rfl rfl rfl rfl ⟨rfl, rfl, rfl, rfl, rfl⟩ rfl rfl rfl rfl rfl (by kernel_rfl) Tryd.func3 (by kernel_rfl)
    (of_decide_eq_true (by kernel_rfl)) (by unfold Func.isWrapper; first | (rw [if_pos (by decide +kernel)]; kernel_rfl) | (rw [if_neg (by decide +kernel)]; exact ⟨rfl, rfl⟩))
    (fun os started H enc _ F => by rw [OpenClaim.pre_eq_preRow]; exact lifted os started H enc F)
theorem plain (f : FuncId) (fn : Func) (hf : Tryd.pinned.checked.prog.funcNamed "bulkhead/bulkheadlaw04.CodeTexts" = some f) (hfn : Tryd.pinned.checked.prog.funcs[f]? = some fn) :
    true = Tryd.pinned.checked.prog.looks [] ∧ ∀ (j : Nat) t, fn.params[j]? = some t → Tryd.pinned.checked.prog.wantsStandIn t = false := by
  obtain rfl : f = 3 := Option.some.inj ((show Tryd.prog.funcNamed "bulkhead/bulkheadlaw04.CodeTexts" = some 3 by kernel_rfl).symm.trans hf) |>.symm
  obtain rfl : fn = Tryd.f3 := (Option.some.inj (Tryd.func3.symm.trans hfn)).symm
  refine ⟨by kernel_rfl, fun j t ht => ?_⟩
  rw [Tryd.params3] at ht
  have hm : t ∈ #[23, 9] := Array.mem_of_getElem? ht
  simp only [List.mem_toArray, List.mem_cons, List.not_mem_nil, or_false] at hm
  rcases hm with rfl | rfl
  · exact (show Tryd.prog.wantsStandIn 23 = false by kernel_rfl)
  · exact (show Tryd.prog.wantsStandIn 9 = false by kernel_rfl)
end codeTexts
/-- THE CARD -/
theorem codeTextsUpto_card : Rows.CodeTextsUptoCardSaid :=
  Claim7.holds_tied_plain_at .later [] _ _ _ _ codeTexts.said (fun _ h => by cases h) (by kernel_rfl) (fun _ h => by cases h) codeTextsUpto_row_tie rfl ⟨rfl, rfl⟩ (by kernel_rfl) rfl codeTexts.plain (by kernel_rfl)
#print axioms codeTextsUpto_card
end Go.Proofs.YtbaooebafijenaaDoor

