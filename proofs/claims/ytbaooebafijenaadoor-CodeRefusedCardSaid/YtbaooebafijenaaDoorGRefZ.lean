/- PROVED HERE: an instruction with a register, a number or an operation that it cannot have is refused, by word and by text, and so is a word with a bit where none may be (CodeRefused answers true for every input).
   Conditions: the row's own (the listed variables read as the program's text lays them). -/
import Derived.Test.YtbaooebafijenaaDoorGRef
import Derived.Test.YtbaooebafijenaaDoorGvLaw
import Derived.Test.YtbaooebafijenaaDoorGvArgs
import Derived.Test.YtbaooebafijenaaDoorCards
import Derived.Test.YtbaooebafijenaaDoorTie
import Derived.WalkKit
import Derived.ProofKit
import Derived.OpenShut
import Derived.Deep.DeepHandedRow
import Derived.Lib.LaidTab
import Derived.Stop.LaidErr
import Derived.Lib.LaidU8
namespace Go.Proofs.YtbaooebafijenaaDoor
open Go Go.Ev Go.ChangeShapes Go.WideShapes Go.ChangeAt Go.RowKit
set_option maxRecDepth 100000
set_option linter.unusedSimpArgs false
set_option linter.unusedVariables false
def shapesB : List (List UInt8) := [[], [], [97, 98, 99], [97, 98, 105], [97, 105], [97, 105, 98], [65, 105, 98], [97, 98, 105], [97, 105], [65, 66, 67], [65, 66], [97, 66, 67], [97, 66], [65, 98], [65, 98, 99], [97, 105]]
theorem shapesB_eq : strCells shapesB = shapesC := by kernel_rfl
theorem own : ownKnob Tryd.prog.godebug = none := by kernel_rfl
theorem gShapes : Tryd.prog.globalNamed "bulkhead/code.shapes" = some 0 := by kernel_rfl
theorem tShapes : (Tryd.prog.globals[0]?).map (·.type) = some 58 := by kernel_rfl
theorem u58 : Tryd.prog.underlying 58 = some (.array 16 9) := by kernel_rfl
theorem u9 : Tryd.prog.underlying 9 = some .string := by kernel_rfl
theorem u3 : Tryd.prog.underlying 3 = some (.int .i64) := by kernel_rfl
theorem u4 : Tryd.prog.underlying 4 = some .bool := by kernel_rfl
theorem c58 : Tryd.prog.cellsOf 58 = 16 := by kernel_rfl
theorem c9 : Tryd.prog.cellsOf 9 = 1 := by kernel_rfl
theorem mixed : Tryd.prog.follows .mixedOrders = true := by kernel_rfl
theorem star : "*" ++ "errors.errorString" = "*errors.errorString" := by decide
theorem row171 (u : TypeId) (h : Tryd.prog.typeName? 3 u = some "*errors.errorString") : u = 171 :=
  typeName_ptr_named (nm := "errors.errorString") (by rw [star]; kernel_rfl) (by kernel_rfl) (by decide) u (by rw [star]; exact h)
theorem namesOk : Tryd.prog.funcs.toList.all (fun fn => fn.name != "runtime.NumGoroutine") = true := by kernel_rfl
theorem noNum (f : FuncId) (fn : Func) (h : Tryd.prog.funcs[f]? = some fn) : fn.name ≠ "runtime.NumGoroutine" := by
  have h1 : fn ∈ Tryd.prog.funcs.toList := by
    rw [Array.mem_toList_iff]
    exact Array.mem_of_getElem? h
  have := List.all_eq_true.1 namesOk fn h1
  simpa using this
section
variable [Mx]
theorem ok0 (n : Nat) : CallsOK Tryd.prog (evCall cf0 n) :=
  evCall_ok (cf := cf0) extL_ok exhL_ok noNum (fun n h D => drawOK h mixed) n
theorem extOK : ExtOK Tryd.prog extC := by
  intro f args v h
  unfold extC at h
  split at h
  · unfold ext43 at h
    split at h
    · cases h
      exact tells (ok0 1) rfl rfl forms43
    · cases h
  all_goals first | exact extL_ok _ _ _ h | cases h
theorem exhOK : ExhOK Tryd.prog exhC := by
  intro f args H r h
  unfold exhC at h
  split at h
  all_goals first | exact exhL_ok _ _ _ _ h | cases h
theorem okc (n : Nat) : CallsOK Tryd.prog (evCall cfc n) :=
  evCall_ok (cf := cfc) extOK exhOK noNum (fun n h D => drawOK h mixed) n
end
/-- what is known of a memory that a row may begin with -/
structure Tabd (W : World) (m : Int) : Prop where
  shapes : ∃ u z, W.heap[0]? = some (.cells shapesC.toArray u z)
  mx : ∃ u z, W.heap[2]? = some (.cells #[.int .i64 m] u z)
  pow : ∃ u z, W.heap[3]? = some (.cells powC.toArray u z)
  syn : ∃ p u z, W.heap[8]? = some (.cells #[.iface 171 p] u z)
  rng : ∃ p u z, W.heap[9]? = some (.cells #[.iface 171 p] u z)
  size : 10 ≤ W.heap.size
def f0 : Nat → Option (Nat × Nat) := fun i => if i < 10 then some (i, 0) else none
theorem TAB_get [Mx] (i : Nat) : TAB.get i = if i = 9 then some (.ro [.iface 171 dead]) else if i = 8 then some (.ro [.iface 171 dead]) else if i = 3 then some (.ro powC) else if i = 2 then some (.ro [.int .i64 Mx.m]) else if i = 1 then Mx.nm else if i = 0 then some (.ro shapesC) else none := by
  unfold TAB
  rw [Map.get_put, Map.get_put, Map.get_put, Map.get_put, Map.get_put, Map.get_put]
  rfl
theorem fl_tab [Mx] (i : Nat) (x : Blk) (h : (Hp.fl).get i = some x) : i < 10 ∧ TAB.get i = some x := by
  have e : (Hp.fl).get i = bif Nat.blt i 10 then TAB.get i else none := rfl
  rw [e] at h
  cases hb : Nat.blt i 10 with
  | true => rw [hb] at h; exact ⟨Nat.le_of_ble_eq_true hb, h⟩
  | false => rw [hb] at h; cases h
theorem start_sim {W : World} {m : Int} (h : Tabd W m) : @Sim (@tabs ⟨m, none⟩) Tryd.prog ⟨f0, csz W⟩ (@Hp.fl (@tabs ⟨m, none⟩)) W := by
  letI : Mx := ⟨m, none⟩
  have h10 := h.size
  have hf : ∀ i, i < 10 → f0 i = some (i, 0) := fun i hi => if_pos hi
  refine Sim.start rfl (fun i b d h => ?_) (fun g hg => ?_) (Nat.le_refl _) (fun i hi => Hp.fl_get hi) (by rw [globs]; exact Nat.le_refl 10) (fun i x hi h => ?_) (fun i x b d hx hr => ?_)
  · have h : f0 i = some (b, d) := h
    unfold f0 at h
    split at h
    · cases h; rename_i hi; exact ⟨hi, by omega⟩
    · cases h
  · rw [globs] at hg
    refine ⟨hf g hg, fun cs hc => ?_⟩
    have hc : TAB.get g = some (.ro cs) := hc
    show csz W g = cs.length
    rw [TAB_get] at hc
    by_cases e9 : g = 9
    · rw [if_pos e9] at hc; cases hc; subst e9; obtain ⟨p, u, z, hh⟩ := h.rng; rw [csz_of hh]; rfl
    rw [if_neg e9] at hc
    by_cases e8 : g = 8
    · rw [if_pos e8] at hc; cases hc; subst e8; obtain ⟨p, u, z, hh⟩ := h.syn; rw [csz_of hh]; rfl
    rw [if_neg e8] at hc
    by_cases e3 : g = 3
    · rw [if_pos e3] at hc; cases hc; subst e3; obtain ⟨u, z, hh⟩ := h.pow; rw [csz_of hh]; rfl
    rw [if_neg e3] at hc
    by_cases e2 : g = 2
    · rw [if_pos e2] at hc; cases hc; subst e2; obtain ⟨u, z, hh⟩ := h.mx; rw [csz_of hh]; rfl
    rw [if_neg e2] at hc
    by_cases e1 : g = 1
    · rw [if_pos e1] at hc; cases hc
    rw [if_neg e1] at hc
    by_cases e0 : g = 0
    · rw [if_pos e0] at hc; cases hc; subst e0; obtain ⟨u, z, hh⟩ := h.shapes; rw [csz_of hh]; rfl
    rw [if_neg e0] at hc; cases hc
  · have h : TAB.get i = some x := h
    rw [TAB_get] at h
    split at h
    · cases h; exact ⟨_, rfl, rfl⟩
    split at h
    · cases h; exact ⟨_, rfl, rfl⟩
    split at h
    · cases h; exact ⟨_, rfl, by kernel_rfl⟩
    split at h
    · cases h; exact ⟨_, rfl, rfl⟩
    split at h
    · cases h
    split at h
    · cases h; exact ⟨_, rfl, by kernel_rfl⟩
    · cases h
  · obtain ⟨hi, hx⟩ := fl_tab i x hx
    have hr : f0 i = some (b, d) := hr
    rw [hf i hi] at hr
    cases hr
    rw [TAB_get] at hx
    have er : ∀ p u z g, W.heap[g]? = some (.cells #[.iface 171 p] u z) → BlkR ⟨f0, csz W⟩ W g 0 (.ro [.iface 171 dead]) := fun p u z g hh =>
      ⟨_, _, _, hh, ⟨by simp, fun i v hv => by
        cases i with
        | zero => simp at hv; subst hv; exact ⟨_, rfl, .iface (.dead _)⟩
        | succ i => simp at hv⟩, (csz_of hh).symm⟩
    split at hx
    · rename_i e; subst e; cases hx; obtain ⟨p, u, z, hh⟩ := h.rng; exact er p u z _ hh
    split at hx
    · rename_i e; subst e; cases hx; obtain ⟨p, u, z, hh⟩ := h.syn; exact er p u z _ hh
    split at hx
    · rename_i e; subst e; cases hx; exact blkR_of_cells (by kernel_rfl) h.pow
    split at hx
    · rename_i e; subst e; cases hx; exact blkR_of_cells rfl h.mx
    split at hx
    · cases hx
    split at hx
    · rename_i e; subst e; cases hx; exact blkR_of_cells (by kernel_rfl) h.shapes
    · cases hx

namespace codeRefused
theorem tables {W : World} (h : laidMetH Tryd.prog Rows.codeRefusedRow.laid W) (hsh : W.ShapedOpen Tryd.prog) : ∃ m, Tabd W m := by
  have h : laidMet Tryd.prog Rows.codeRefusedRow.laid W := by
    have hn : Rows.codeRefusedRow.laid.filter (fun x => x.2.handleName?.isSome) = [] := by kernel_rfl
    unfold laidMetH at h
    rw [hn] at h
    exact h
  have h3 := h.tail.tail
  have e3 : Rows.laid_internal_strconv_uint64pow10 = (Lib.tabData .u64 Lib.pow10Tab : DataW Unit) := by kernel_rfl
  have hp : Lib.TabIs Tryd.prog W "internal/strconv.uint64pow10" .u64 Lib.pow10Tab := by
    have h3' : laidMet Tryd.prog (("internal/strconv.uint64pow10", Lib.tabData .u64 Lib.pow10Tab) :: _) W := e3 ▸ h3
    exact Lib.tabIs_of_head (g := 3) (t := 145) (e := 31) (n := 20) (by kernel_rfl) (by kernel_rfl) (by kernel_rfl) (by kernel_rfl) (by kernel_rfl) (by kernel_rfl) h3'
  have h5 := h3.tail.tail
  obtain ⟨a1, s1, v1, _, _, _⟩ := laid_sentinel (g := 9) h5 (by kernel_rfl) (by kernel_rfl) Tryd.underlying34 row171 Tryd.underlying171 Tryd.underlying173 rfl rfl Tryd.underlying9 (by kernel_rfl) (by kernel_rfl)
  obtain ⟨a2, s2, v2, _, _, _⟩ := laid_sentinel (g := 8) h5.tail (by kernel_rfl) (by kernel_rfl) Tryd.underlying34 row171 Tryd.underlying171 Tryd.underlying173 rfl rfl Tryd.underlying9 (by kernel_rfl) (by kernel_rfl)
  have h7 := h5.tail.tail
  have e7 : Rows.laid_bulkhead_code_shapes = (strData shapesB : DataW Unit) := by kernel_rfl
  obtain ⟨ps, hl, _⟩ := h7
  have hl' : DataW.LaidVars Tryd.prog W (("bulkhead/code.shapes", strData shapesB) :: _) ps := e7 ▸ hl
  obtain ⟨h0, _⟩ := laid_str gShapes tShapes u58 u9 c9 c58 hl'
  rw [shapesB_eq] at h0
  obtain ⟨m, hm⟩ := Go.Proofs.cell_of_shapedOpen_int (g := 2) (zero := #[.int .i64 0]) (t := 3) hsh (of_decide_eq_true (by kernel_rfl)) (by kernel_rfl) rfl (by kernel_rfl) (by kernel_rfl) Tryd.underlying3
  have cellsOf : ∀ (name : String) (g : Nat) (cs : Array Value), Tryd.prog.globalNamed name = some g → W.var? Tryd.prog name = some cs → ∃ u z, W.heap[g]? = some (.cells cs u z) := by
    intro name g cs hg hv
    simp only [World.var?, hg, Option.bind_some] at hv
    split at hv
    · rename_i c u z hh
      cases hv
      exact ⟨u, z, hh⟩
    · cases hv
  obtain ⟨u9', z9, h9⟩ := cellsOf _ 9 _ (by kernel_rfl) v1
  obtain ⟨u8', z8, h8⟩ := cellsOf _ 8 _ (by kernel_rfl) v2
  obtain ⟨u3', z3, hh3⟩ := cellsOf _ 3 _ (by kernel_rfl) hp
  obtain ⟨cs, hh, hsz, _⟩ := hsh.1 2 #[.int .i64 0] 3 (of_decide_eq_true (by kernel_rfl)) (by kernel_rfl)
  have hcs : cs = #[.int .i64 m] := by
    simp only [World.cell?, hh] at hm
    apply Array.ext'
    have h1 : cs.toList.length = 1 := by simpa using hsz
    have h2 : cs.toList[0]? = some (.int .i64 m) := by simpa using hm
    match hl : cs.toList, h1 with
    | [x], _ => rw [hl] at h2; simp at h2; rw [h2]
  subst hcs
  have hs9 := (Array.getElem?_eq_some_iff.1 h9).1
  exact ⟨m, h0, ⟨_, _, hh⟩, ⟨u3', z3, hh3⟩, ⟨_, _, _, h8⟩, ⟨_, _, _, h9⟩, by omega⟩
theorem contract (H : Type) (enc : TypeId × Value → H) (W : World) (base : Nat) (args : Array Value) (ds gs : List (DataW H)) (before : List MemPlace)
    (hval : ∀ (j : Nat) t v, Tryd.f6.params[j]? = some t → args[j]? = some v → Value.okWide Tryd.prog W .any base t v)
    (hW : DataW.Whole enc Tryd.prog Tryd.f6.params.toList Rows.codeRefusedSpec.vars false W args.toList ds gs before) (hL : laidMetH Tryd.prog Rows.codeRefusedRow.laid W) (hsh : W.ShapedOpen Tryd.prog) :
    Calls Tryd.prog 6 args W fun e W' => ∃ v, e = .returned v ∧ Rows.codeRefusedSpec.post enc Tryd.prog Tryd.f6 false true false false W args v W' := by
  have hW' := hW
  obtain ⟨p, q, hA0, hV, rfl, hfz, hnd⟩ := hW
  have hA : DataW.TrodAll enc Tryd.prog W 0 (fun _ => true) true Tryd.f6.params.toList args.toList ds p := hA0
  rw [Tryd.params6] at hA hval
  obtain ⟨x1, r1, d1, q1, ha0, hs1, hA2⟩ := trodAll_sc (l := [.int .i64, .int .i64, .int .i64, .int .i64, .int .i64]) (by kernel_rfl) hA
  obtain ⟨x0, r0, d0, q0, rfl, hs0, hA1⟩ := trodAll_sc (l := [.int .i64]) (by kernel_rfl) hA2
  obtain ⟨x2, r2, d2, q2, rfl, hs2, hA3⟩ := trodAll_sc (l := [.int .i64]) (by kernel_rfl) hA1
  have hr2 : r2 = [] := by
    cases r2 with
    | nil => rfl
    | cons y ys => simp [DataW.TrodAll] at hA3
  subst hr2
  obtain rfl : args = #[x1, x0, x2] := by cases args; simp_all
  obtain ⟨reg, rfl, _, _⟩ := scalar_int u3 (hval 1 3 x0 rfl rfl) hs0
  obtain ⟨cs, rfl⟩ := agg_of (t := 23) (by kernel_rfl) (hval 0 23 x1 rfl rfl)
  obtain ⟨imm, rfl, _, _⟩ := scalar_int u3 (hval 2 3 x2 rfl rfl) hs2
  have hs1' : ScL [.int .i64, .int .i64, .int .i64, .int .i64, .int .i64] cs.toList := hs1
  obtain ⟨op, t1, e1, _, hs1'⟩ := sc_cons hs1'
  obtain ⟨A, t2, rfl, _, hs1'⟩ := sc_cons hs1'
  obtain ⟨B, t3, rfl, _, hs1'⟩ := sc_cons hs1'
  obtain ⟨C, t4, rfl, _, hs1'⟩ := sc_cons hs1'
  obtain ⟨I, t5, rfl, _, hs1'⟩ := sc_cons hs1'
  obtain rfl := sc_nil hs1'
  obtain rfl : cs = #[.int .i64 op, .int .i64 A, .int .i64 B, .int .i64 C, .int .i64 I] := by cases cs; simp_all
  obtain ⟨m, hT⟩ := tables hL hsh
  have hS := start_sim hT
  letI : Mx := ⟨m, none⟩
  have call := calls_same (okc 302) (v6 0 Hp.fl op A B C I reg imm) rfl VR.bool_eq hS (VL.all_flat _ rfl)
  refine Calls.mono call fun e W' ⟨he, hsame⟩ => ⟨_, he, ?_⟩
  refine law_flat (tb := 4) hsame hW' rfl (by kernel_rfl) (by kernel_rfl) u4 (fun ds hl => ?_)
  match ds, hl with
  | [a, b, c], _ => rfl

/-- A WORLD FOR THE WITNESS -/
noncomputable def laidWorld (os : Os) : World :=
  let N := (World.settled Tryd.prog os).heap.size
  let w0 := World.holding Tryd.prog os ⟨#[.cells #[.string ⟨#[118, 97, 108, 117, 101, 32, 111, 117, 116, 32, 111, 102, 32, 114, 97, 110, 103, 101]⟩] 173, .cells #[.string ⟨#[105, 110, 118, 97, 108, 105, 100, 32, 115, 121, 110, 116, 97, 120]⟩] 173], #[], []⟩
  let put (h : Array Obj) (g : Nat) (cs : Array Value) : Array Obj := h.modify g fun
    | .cells _ t frozen => .cells cs t frozen
    | o => o
  let h0 := put (put w0.heap 9 #[.iface 171 (.pointer (some ⟨N, 0, none⟩))]) 8 #[.iface 171 (.pointer (some ⟨N + 1, 0, none⟩))]
  let h1 := put h0 4 (Lib.firstTab.map fun z => Value.int .u8 z).toArray
  let h2 := put h1 5 #[.int .u8 128, .int .u8 191, .int .u8 160, .int .u8 191, .int .u8 128, .int .u8 159, .int .u8 144, .int .u8 191, .int .u8 128, .int .u8 143, .int .u8 0, .int .u8 0, .int .u8 0, .int .u8 0, .int .u8 0, .int .u8 0, .int .u8 0, .int .u8 0, .int .u8 0, .int .u8 0, .int .u8 0, .int .u8 0, .int .u8 0, .int .u8 0, .int .u8 0, .int .u8 0, .int .u8 0, .int .u8 0, .int .u8 0, .int .u8 0, .int .u8 0, .int .u8 0]
  let h3 := put h2 6 #[.int .u8 0, .int .u8 1, .int .u8 28, .int .u8 2, .int .u8 29, .int .u8 14, .int .u8 24, .int .u8 3, .int .u8 30, .int .u8 22, .int .u8 20, .int .u8 15, .int .u8 25, .int .u8 17, .int .u8 4, .int .u8 8, .int .u8 31, .int .u8 27, .int .u8 13, .int .u8 23, .int .u8 21, .int .u8 19, .int .u8 16, .int .u8 7, .int .u8 26, .int .u8 12, .int .u8 18, .int .u8 6, .int .u8 11, .int .u8 5, .int .u8 10, .int .u8 9]
  let h4 := put h3 7 #[.int .u8 0, .int .u8 1, .int .u8 56, .int .u8 2, .int .u8 57, .int .u8 49, .int .u8 28, .int .u8 3, .int .u8 61, .int .u8 58, .int .u8 42, .int .u8 50, .int .u8 38, .int .u8 29, .int .u8 17, .int .u8 4, .int .u8 62, .int .u8 47, .int .u8 59, .int .u8 36, .int .u8 45, .int .u8 43, .int .u8 51, .int .u8 22, .int .u8 53, .int .u8 39, .int .u8 33, .int .u8 30, .int .u8 24, .int .u8 18, .int .u8 12, .int .u8 5, .int .u8 63, .int .u8 55, .int .u8 48, .int .u8 27, .int .u8 60, .int .u8 41, .int .u8 37, .int .u8 16, .int .u8 46, .int .u8 35, .int .u8 44, .int .u8 21, .int .u8 52, .int .u8 32, .int .u8 23, .int .u8 11, .int .u8 54, .int .u8 26, .int .u8 40, .int .u8 15, .int .u8 34, .int .u8 20, .int .u8 31, .int .u8 10, .int .u8 25, .int .u8 14, .int .u8 19, .int .u8 9, .int .u8 13, .int .u8 8, .int .u8 7, .int .u8 6]
  let h5 := put h4 3 powC.toArray
  let h6 := put h5 0 shapesC.toArray
  { w0 with heap := h6 }
def args0 : Array Value := #[.agg #[.int .i64 0, .int .i64 0, .int .i64 0, .int .i64 0, .int .i64 0], .int .i64 0, .int .i64 0]
theorem laid_met (os : Os) : laidMet Tryd.prog Rows.codeRefusedRow.laid ((laidWorld os).forCall (fun _ _ => 0) ⟨#[], args0, []⟩).memory :=
  laidMet_of_run' 8 (by kernel_rfl) (by kernel_rfl)

theorem reads (os : Os) {H : Type} (enc : TypeId × Value → H) : ∃ places, DataW.whole enc Tryd.prog ((laidWorld os).forCall (fun _ _ => 0) ⟨#[], args0, []⟩).memory Tryd.f6.params.toList Rows.codeRefusedSpec.vars false args0.toList 8 = some ([.agg [.lit (.int .i64 0), .lit (.int .i64 0), .lit (.int .i64 0), .lit (.int .i64 0), .lit (.int .i64 0)], .lit (.int .i64 0), .lit (.int .i64 0)], [], places) :=
  ⟨[], by kernel_rfl⟩
theorem lifted (os : Os) (started : os.Started) (H : Type) (enc : TypeId × Value → H) (F : Stop.Interp) :
    ReturnsInHanded {} Tryd.checked os 6 .any ((OpenSpec.ofChange Rows.codeRefusedSpec).preRow enc Tryd.prog Tryd.f6 Rows.codeRefusedRow.domain false Rows.codeRefusedRow.laid) (((OpenSpec.ofChange Rows.codeRefusedSpec).at F).post enc Tryd.prog Tryd.f6 false true false false) := by
  obtain ⟨places, hx⟩ := reads os enc
  refine returnsInHanded_of_row (C := Tryd.checked) (s := OpenSpec.ofChange Rows.codeRefusedSpec) own started (by kernel_rfl) Tryd.func6
    (witness_row_at (enc := enc) (C := Tryd.checked) false (laidWorld os) args0 rfl (by kernel_rfl) (by kernel_rfl) (by kernel_rfl)
      (OpenSpec.preRow_of_cond 8 hx (by kernel_rfl) (fun k hk => by cases hk) (by kernel_rfl) (laid_met os))) ?_
  intro W base args ds gs before hval hW _ _ _ hL hsh _
  exact contract H enc W base args ds gs before hval hW hL hsh
theorem said : Rows.CodeRefusedSaid :=
  OpenClaim.holds_of_cond 6 Tryd.f6 rfl rfl rfl rfl rfl rfl rfl ⟨rfl, rfl, rfl, rfl, rfl⟩ rfl rfl rfl rfl rfl (by kernel_rfl) Tryd.func6 (by kernel_rfl)
    (of_decide_eq_true (by kernel_rfl)) (by unfold Func.isWrapper; first | (rw [if_pos (by decide +kernel)]; kernel_rfl) | (rw [if_neg (by decide +kernel)]; exact ⟨rfl, rfl⟩))
    (fun os started H enc _ F => by rw [OpenClaim.pre_eq_preRow]; exact lifted os started H enc F)
theorem plain (f : FuncId) (fn : Func) (hf : Tryd.pinned.checked.prog.funcNamed "bulkhead/bulkheadlaw04.CodeRefused" = some f) (hfn : Tryd.pinned.checked.prog.funcs[f]? = some fn) :
    true = Tryd.pinned.checked.prog.looks [] ∧ ∀ (j : Nat) t, fn.params[j]? = some t → Tryd.pinned.checked.prog.wantsStandIn t = false := by
  obtain rfl : f = 6 := Option.some.inj ((show Tryd.prog.funcNamed "bulkhead/bulkheadlaw04.CodeRefused" = some 6 by kernel_rfl).symm.trans hf) |>.symm
  obtain rfl : fn = Tryd.f6 := (Option.some.inj (Tryd.func6.symm.trans hfn)).symm
  refine ⟨by kernel_rfl, fun j t ht => ?_⟩
  rw [Tryd.params6] at ht
  have hm : t ∈ #[23, 3, 3] := Array.mem_of_getElem? ht
  simp only [List.mem_toArray, List.mem_cons, List.not_mem_nil, or_false] at hm
  rcases hm with rfl | rfl | rfl
  · exact (show Tryd.prog.wantsStandIn 23 = false by kernel_rfl)
  · exact (show Tryd.prog.wantsStandIn 3 = false by kernel_rfl)
  · exact (show Tryd.prog.wantsStandIn 3 = false by kernel_rfl)
end codeRefused
/-- THE CARD -/
theorem codeRefused_card : Rows.CodeRefusedCardSaid :=
  Claim7.holds_tied_plain_at .later [] _ _ _ _ codeRefused.said (fun _ h => by cases h) (by kernel_rfl) (fun _ h => by cases h) codeRefused_row_tie rfl ⟨rfl, rfl⟩ (by kernel_rfl) rfl codeRefused.plain (by kernel_rfl)
#print axioms codeRefused_card
end Go.Proofs.YtbaooebafijenaaDoor

