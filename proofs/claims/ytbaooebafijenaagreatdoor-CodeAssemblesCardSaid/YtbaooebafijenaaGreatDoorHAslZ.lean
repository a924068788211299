/- PROVED HERE: every text is assembled to the document's words, or refused with its fault (CodeAssembles answers true for every input).
   Conditions: the row's own (the listed variables read as the program's text lays them). -/
import Derived.Test.YtbaooebafijenaaGreatDoorHAsl
import Derived.Test.YtbaooebafijenaaGreatDoorHZ0
import Derived.Test.YtbaooebafijenaaGreatDoorCards
import Derived.Test.YtbaooebafijenaaGreatDoorTie
namespace Go.Proofs.YtbaooebafijenaaGreatDoor
open Go Go.Ev Go.ChangeShapes Go.WideShapes Go.ChangeAt Go.RowKit
set_option maxRecDepth 100000
set_option linter.unusedSimpArgs false
set_option linter.unusedVariables false
def namesB : List (List UInt8) := namesC.map fun v => match v with | .string s => s.data.toList | _ => []
theorem namesB_eq : strCells namesB = namesC := by kernel_rfl
theorem gNames : Tryz.prog.globalNamed "bulkhead/bulkheadref04.names" = some 3 := by kernel_rfl
theorem tNames : (Tryz.prog.globals[3]?).map (·.type) = some 149 := by kernel_rfl
theorem u149 : Tryz.prog.underlying 149 = some (.array 72 9) := by kernel_rfl
theorem c149 : Tryz.prog.cellsOf 149 = 72 := by kernel_rfl
namespace codeAssembles
theorem tables {W : World} (h : laidMetH Tryz.prog Rows.codeAssemblesRow.laid W) (hsh : W.ShapedOpen Tryz.prog) : ∃ m, Tabd W m (some (.ro namesC)) := by
 have h2 : laidMet Tryz.prog (Rows.codeAssemblesRow.laid.filter fun x => x.2.handleName?.isNone) W ∧ handlesMet Tryz.prog [("errors.errorType", Rows.laid_errors_errorType)] W := h
 have hE := handle_of h2.2
 have h3 := h2.1.tail.tail
 have e3 : Rows.laid_internal_strconv_uint64pow10 = (Lib.tabData .u64 Lib.pow10Tab : DataW Unit) := by kernel_rfl
 have hp : Lib.TabIs Tryz.prog W "internal/strconv.uint64pow10" .u64 Lib.pow10Tab := by
   have h3' : laidMet Tryz.prog (("internal/strconv.uint64pow10", Lib.tabData .u64 Lib.pow10Tab) :: _) W := e3 ▸ h3
   exact Lib.tabIs_of_head (g := 8) (t := 191) (e := 37) (n := 20) (by kernel_rfl) (by kernel_rfl) (by kernel_rfl) (by kernel_rfl) (by kernel_rfl) (by kernel_rfl) h3'
 have h5 := h3.tail.tail
 obtain ⟨a1, s1, v1, _, _, _⟩ := laid_sentinel (g := 7) h5 (by kernel_rfl) (by kernel_rfl) Tryz.underlying24 row187 Tryz.underlying187 Tryz.underlying189 rfl rfl Tryz.underlying9 (by kernel_rfl) (by kernel_rfl)
 obtain ⟨a2, s2, v2, _, _, _⟩ := laid_sentinel (g := 6) h5.tail (by kernel_rfl) (by kernel_rfl) Tryz.underlying24 row187 Tryz.underlying187 Tryz.underlying189 rfl rfl Tryz.underlying9 (by kernel_rfl) (by kernel_rfl)
 have hN := h5.tail.tail
 have eN : Rows.laid_bulkhead_bulkheadref04_names = (strData namesB : DataW Unit) := by kernel_rfl
 have h7 := hN.tail
 obtain ⟨psN, hlN, _⟩ := hN
 have hlN' : DataW.LaidVars Tryz.prog W (("bulkhead/bulkheadref04.names", strData namesB) :: _) psN := eN ▸ hlN
 obtain ⟨hN0, _⟩ := laid_str gNames tNames u149 u9 c9 c149 hlN'
 rw [namesB_eq] at hN0
 have e7 : Rows.laid_bulkhead_code_shapes = (strData shapesB : DataW Unit) := by kernel_rfl
 obtain ⟨ps, hl, _⟩ := h7
 have hl' : DataW.LaidVars Tryz.prog W (("bulkhead/code.shapes", strData shapesB) :: _) ps := e7 ▸ hl
 obtain ⟨h0, _⟩ := laid_str gShapes tShapes u138 u9 c9 c138 hl'
 rw [shapesB_eq] at h0
 obtain ⟨m, hm⟩ := Go.Proofs.cell_of_shapedOpen_int (g := 2) (zero := #[.int .i64 0]) (t := 3) hsh (of_decide_eq_true (by kernel_rfl)) (by kernel_rfl) rfl (by kernel_rfl) (by kernel_rfl) Tryz.underlying3
 have cellsOf : ∀ (name : String) (g : Nat) (cs : Array Value), Tryz.prog.globalNamed name = some g → W.var? Tryz.prog name = some cs → ∃ u z, W.heap[g]? = some (.cells cs u z) := by
   intro name g cs hg hv
   simp only [World.var?, hg, Option.bind_some] at hv
   split at hv
   · rename_i c u z hh
     cases hv
     exact ⟨u, z, hh⟩
   · cases hv
 obtain ⟨u9', z9, h9⟩ := cellsOf _ 7 _ (by kernel_rfl) v1
 obtain ⟨u8', z8, h8⟩ := cellsOf _ 6 _ (by kernel_rfl) v2
 obtain ⟨u3', z3, hh3⟩ := cellsOf _ 8 _ (by kernel_rfl) hp
 obtain ⟨u0', z0, hh0⟩ := cellsOf _ 0 _ etG hE
 obtain ⟨cs, hh, hsz, _⟩ := hsh.1 2 #[.int .i64 0] 3 (of_decide_eq_true (by kernel_rfl)) (by kernel_rfl)
 have hcs : cs = #[.int .i64 m] := by
   simp only [World.cell?, hh] at hm
   apply Array.ext'
   have h1 : cs.toList.length = 1 := by simpa using hsz
   have h2 : cs.toList[0]? = some (.int .i64 m) := by simpa using hm
   match hl : cs.toList, h1 with
   | [x], _ => rw [hl] at h2; simp at h2; rw [h2]
 subst hcs
 obtain ⟨cs10, hh10, _, _⟩ := hsh.1 10 (List.replicate 64 (Value.int .u8 0)).toArray 196 (of_decide_eq_true (by kernel_rfl)) (by kernel_rfl)
 have hs10 := (Array.getElem?_eq_some_iff.1 hh10).1
 exact ⟨m, .inr ⟨rfl, hN0⟩, ⟨_, _, hh0⟩, h0, ⟨_, _, hh⟩, ⟨u3', z3, hh3⟩, ⟨_, _, _, h8⟩, ⟨_, _, _, h9⟩, by omega⟩
theorem contract (H : Type) (enc : TypeId × Value → H) (W : World) (base : Nat) (args : Array Value) (ds gs : List (DataW H)) (before : List MemPlace)
   (hval : ∀ (j : Nat) t v, Tryz.f3.params[j]? = some t → args[j]? = some v → Value.okWide Tryz.prog W .any base t v)
   (hW : DataW.Whole enc Tryz.prog Tryz.f3.params.toList Rows.codeAssemblesSpec.vars false W args.toList ds gs before) (hcond : ∀ k, (OpenSpec.ofChange Rows.codeAssemblesSpec).cond = some k → k H (ds ++ gs) = true) (hL : laidMetH Tryz.prog Rows.codeAssemblesRow.laid W) (hsh : W.ShapedOpen Tryz.prog) :
   Calls Tryz.prog 3 args W fun e W' => ∃ v, e = .returned v ∧ Rows.codeAssemblesSpec.post enc Tryz.prog Tryz.f3 false true false false W args v W' := by
 have hW' := hW
 obtain ⟨p, q, hA0, hV, rfl, hfz, hnd⟩ := hW
 have hA : DataW.TrodAll enc Tryz.prog W 0 (fun _ => true) true Tryz.f3.params.toList args.toList ds p := hA0
 rw [Tryz.params3] at hA hval
 obtain ⟨x0, r0, d0, e0, p0, q0, fl0, ha0, hds0, htr0, hA1⟩ := trodAll_one hA
 obtain ⟨s, hs0, _⟩ := trod_str u9 htr0
 have hr2 : r0 = [] := by
   cases r0 with
   | nil => rfl
   | cons y ys => simp [DataW.TrodAll] at hA1
 subst hr2
 obtain rfl : args = #[x0] := by cases args; simp_all
 obtain rfl := scalar_str u9 (hval 0 9 x0 rfl rfl) hs0
 obtain ⟨m, hT⟩ := tables hL hsh
 have hS := start_sim hT
 letI : Mx := ⟨m, some (.ro namesC)⟩
 have call := calls_same (okc 800001) (v3 rfl 0 Hp.fl s) rfl VR.bool_eq hS (VL.all_flat _ rfl)
 refine Calls.mono call fun e W' ⟨he, hsame⟩ => ⟨_, he, ?_⟩
 refine law_flat (tb := 4) hsame hW' rfl (by kernel_rfl) (by kernel_rfl) u4 (fun ds hl => ?_)
 match ds, hl with
 | [a], _ => rfl
noncomputable def laidWorld (os : Os) : World :=
 let N := (World.settled Tryz.prog os).heap.size
 let w0 := World.holding Tryz.prog os ⟨#[.cells #[.string ⟨#[118, 97, 108, 117, 101, 32, 111, 117, 116, 32, 111, 102, 32, 114, 97, 110, 103, 101]⟩] 189, .cells #[.string ⟨#[105, 110, 118, 97, 108, 105, 100, 32, 115, 121, 110, 116, 97, 120]⟩] 189], #[], []⟩
 let put (h : Array Obj) (g : Nat) (cs : Array Value) : Array Obj := h.modify g fun
   | .cells _ t frozen => .cells cs t frozen
   | o => o
 let h0 := put (put w0.heap 7 #[.iface 187 (.pointer (some ⟨N, 0, none⟩))]) 6 #[.iface 187 (.pointer (some ⟨N + 1, 0, none⟩))]
 let h1 := put h0 4 (Lib.firstTab.map fun z => Value.int .u8 z).toArray
 let h2 := put h1 5 #[.int .u8 128, .int .u8 191, .int .u8 160, .int .u8 191, .int .u8 128, .int .u8 159, .int .u8 144, .int .u8 191, .int .u8 128, .int .u8 143, .int .u8 0, .int .u8 0, .int .u8 0, .int .u8 0, .int .u8 0, .int .u8 0, .int .u8 0, .int .u8 0, .int .u8 0, .int .u8 0, .int .u8 0, .int .u8 0, .int .u8 0, .int .u8 0, .int .u8 0, .int .u8 0, .int .u8 0, .int .u8 0, .int .u8 0, .int .u8 0, .int .u8 0, .int .u8 0]
 let h3 := put h2 9 #[.int .u8 0, .int .u8 1, .int .u8 28, .int .u8 2, .int .u8 29, .int .u8 14, .int .u8 24, .int .u8 3, .int .u8 30, .int .u8 22, .int .u8 20, .int .u8 15, .int .u8 25, .int .u8 17, .int .u8 4, .int .u8 8, .int .u8 31, .int .u8 27, .int .u8 13, .int .u8 23, .int .u8 21, .int .u8 19, .int .u8 16, .int .u8 7, .int .u8 26, .int .u8 12, .int .u8 18, .int .u8 6, .int .u8 11, .int .u8 5, .int .u8 10, .int .u8 9]
 let h4 := put h3 10 #[.int .u8 0, .int .u8 1, .int .u8 56, .int .u8 2, .int .u8 57, .int .u8 49, .int .u8 28, .int .u8 3, .int .u8 61, .int .u8 58, .int .u8 42, .int .u8 50, .int .u8 38, .int .u8 29, .int .u8 17, .int .u8 4, .int .u8 62, .int .u8 47, .int .u8 59, .int .u8 36, .int .u8 45, .int .u8 43, .int .u8 51, .int .u8 22, .int .u8 53, .int .u8 39, .int .u8 33, .int .u8 30, .int .u8 24, .int .u8 18, .int .u8 12, .int .u8 5, .int .u8 63, .int .u8 55, .int .u8 48, .int .u8 27, .int .u8 60, .int .u8 41, .int .u8 37, .int .u8 16, .int .u8 46, .int .u8 35, .int .u8 44, .int .u8 21, .int .u8 52, .int .u8 32, .int .u8 23, .int .u8 11, .int .u8 54, .int .u8 26, .int .u8 40, .int .u8 15, .int .u8 34, .int .u8 20, .int .u8 31, .int .u8 10, .int .u8 25, .int .u8 14, .int .u8 19, .int .u8 9, .int .u8 13, .int .u8 8, .int .u8 7, .int .u8 6]
 let h5 := put h4 8 powC.toArray
 let h6 := put h5 1 shapesC.toArray
 let h7 := put h6 3 namesC.toArray
 let h8 := put h7 0 #[.iface 121 (.agg #[.pointer (some ⟨11, 24, none⟩)])]
 { w0 with heap := h8 }
def args0 : Array Value := #[.string ⟨#[]⟩]
theorem laid_met (os : Os) : laidMetH Tryz.prog Rows.codeAssemblesRow.laid ((laidWorld os).forCall (fun _ _ => 0) ⟨#[], args0, []⟩).memory :=
 laidMetH_of_parts (laidMet_of_run' 8 (by kernel_rfl) (by kernel_rfl)) (by kernel_rfl)
theorem reads (os : Os) {H : Type} (enc : TypeId × Value → H) : ∃ places, DataW.whole enc Tryz.prog ((laidWorld os).forCall (fun _ _ => 0) ⟨#[], args0, []⟩).memory Tryz.f3.params.toList Rows.codeAssemblesSpec.vars false args0.toList 8 = some ([.lit (.string [])], [], places) :=
 ⟨[], by kernel_rfl⟩
theorem lifted (os : Os) (started : os.Started) (H : Type) (enc : TypeId × Value → H) (F : Stop.Interp) :
   ReturnsInHanded {} Tryz.checked os 3 .any ((OpenSpec.ofChange Rows.codeAssemblesSpec).preRow enc Tryz.prog Tryz.f3 Rows.codeAssemblesRow.domain false Rows.codeAssemblesRow.laid) (((OpenSpec.ofChange Rows.codeAssemblesSpec).at F).post enc Tryz.prog Tryz.f3 false true false false) := by
 obtain ⟨places, hx⟩ := reads os enc
 refine returnsInHanded_of_row (C := Tryz.checked) (s := (OpenSpec.ofChange Rows.codeAssemblesSpec)) own started (by kernel_rfl) Tryz.func3
   (witness_row_at (enc := enc) (C := Tryz.checked) false (laidWorld os) args0 rfl (by kernel_rfl) (by kernel_rfl) (by kernel_rfl)
     (OpenSpec.preRow_of_cond 8 hx (by kernel_rfl) (fun k hk => by cases hk) (by kernel_rfl) (laid_met os))) ?_
 intro W base args ds gs before hval hW _ hcond _ hL hsh _
 exact contract H enc W base args ds gs before hval hW hcond hL hsh
theorem said : Rows.CodeAssemblesSaid :=
 OpenClaim.holds_of_cond 3 Tryz.f3 rfl rfl rfl rfl rfl rfl rfl ⟨rfl, rfl, rfl, rfl, rfl⟩ rfl rfl rfl rfl rfl (by kernel_rfl) Tryz.func3 (by kernel_rfl)
   (of_decide_eq_true (by kernel_rfl)) (by unfold Func.isWrapper; first | (rw [if_pos (by decide +kernel)]; kernel_rfl) | (rw [if_neg (by decide +kernel)]; exact ⟨rfl, rfl⟩))
   (fun os started H enc _ F => by rw [OpenClaim.pre_eq_preRow]; exact lifted os started H enc F)
theorem plain (f : FuncId) (fn : Func) (hf : Tryz.pinned.checked.prog.funcNamed "bulkhead/bulkheadlaw04.CodeAssembles" = some f) (hfn : Tryz.pinned.checked.prog.funcs[f]? = some fn) :
   true = Tryz.pinned.checked.prog.looks [] ∧ ∀ (j : Nat) t, fn.params[j]? = some t → Tryz.pinned.checked.prog.wantsStandIn t = false := by
 obtain rfl : f = 3 := Option.some.inj ((show Tryz.prog.funcNamed "bulkhead/bulkheadlaw04.CodeAssembles" = some 3 by kernel_rfl).symm.trans hf) |>.symm
 obtain rfl : fn = Tryz.f3 := (Option.some.inj (Tryz.func3.symm.trans hfn)).symm
 refine ⟨by kernel_rfl, fun j t ht => ?_⟩
 rw [Tryz.params3] at ht
 have hm : t ∈ #[9] := Array.mem_of_getElem? ht
 simp only [List.mem_toArray, List.mem_cons, List.not_mem_nil, or_false] at hm
 rcases hm with rfl
 all_goals first | exact (show Tryz.prog.wantsStandIn 9 = false by kernel_rfl) | exact (show Tryz.prog.wantsStandIn 3 = false by kernel_rfl)
end codeAssembles
theorem codeAssembles_card : Rows.CodeAssemblesCardSaid :=
 Claim7.holds_tied_plain_at .later [] _ _ _ _ codeAssembles.said (fun _ h => by cases h) (by kernel_rfl) (fun _ h => by cases h) codeAssembles_row_tie rfl ⟨rfl, rfl⟩ (by kernel_rfl) rfl codeAssembles.plain (by kernel_rfl)
#print axioms codeAssembles_card
end Go.Proofs.YtbaooebafijenaaGreatDoor
