/- What the cards of this seat share: the memory that a row begins with, the evaluator's calls. -/
import Derived.Test.YtbaooebafijenaaGreatDoorHCodeA
import Derived.Test.YtbaooebafijenaaGreatDoorHvLaw
import Derived.Test.YtbaooebafijenaaGreatDoorRows
import Derived.WalkKit
import Derived.ProofKit
import Derived.OpenShut
import Derived.Deep.DeepHandedRow
import Derived.Lib.LaidTab
import Derived.Stop.LaidErr
import Derived.LaidHandle
import Derived.Test.YtbaooebafijenaaGreatDoorHlib2
import Derived.Lib.LaidU8
namespace Go.Proofs.YtbaooebafijenaaGreatDoor
open Go Go.Ev Go.ChangeShapes Go.WideShapes Go.ChangeAt Go.RowKit
set_option maxRecDepth 100000
set_option linter.unusedSimpArgs false
set_option linter.unusedVariables false
def shapesB : List (List UInt8) := [[], [], [97, 98, 99], [97, 98, 105], [97, 105], [97, 105, 98], [65, 105, 98], [97, 98, 105], [97, 105], [65, 66, 67], [65, 66], [97, 66, 67], [97, 66], [65, 98], [65, 98, 99], [97, 105]]
theorem shapesB_eq : strCells shapesB = shapesC := by kernel_rfl
theorem own : ownKnob Tryz.prog.godebug = none := by kernel_rfl
theorem gShapes : Tryz.prog.globalNamed "bulkhead/code.shapes" = some 1 := by kernel_rfl
theorem tShapes : (Tryz.prog.globals[1]?).map (·.type) = some 138 := by kernel_rfl
theorem u138 : Tryz.prog.underlying 138 = some (.array 16 9) := by kernel_rfl
theorem u9 : Tryz.prog.underlying 9 = some .string := by kernel_rfl
theorem u4 : Tryz.prog.underlying 4 = some .bool := by kernel_rfl
theorem c138 : Tryz.prog.cellsOf 138 = 16 := by kernel_rfl
theorem c9 : Tryz.prog.cellsOf 9 = 1 := by kernel_rfl
theorem etG : Tryz.prog.globalNamed "errors.errorType" = some 0 := by kernel_rfl
theorem etT : (Tryz.prog.cutTypes.find? (·.1 == "internal/reflectlite.rtype")).map (·.2) = some 121 := by kernel_rfl
theorem etOne : ((List.range 225).filter fun t => Tryz.prog.rowNamed t [101, 114, 114, 111, 114]) = [24] := by kernel_rfl
theorem etSize : Tryz.prog.types.size = 225 := by kernel_rfl
theorem handle_of {W : World} {l : List (String × DataW Unit)} (h : handlesMet Tryz.prog (("errors.errorType", .iface "internal/reflectlite.rtype" (.agg [.ptr (.lit (.string [101, 114, 114, 111, 114]))])) :: l) W) : W.var? Tryz.prog "errors.errorType" = some #[.iface 121 (.agg #[.pointer (some ⟨11, 24, none⟩)])] := by
 obtain ⟨name, u, ty, e1, e2, e3, e4, e5⟩ := h _ (List.mem_cons_self)
 have en : name = [101, 114, 114, 111, 114] := (Option.some.inj e1).symm
 subst en
 obtain rfl := Option.some.inj (etT.symm.trans e2)
 have hm : ty ∈ (List.range 225).filter fun t => Tryz.prog.rowNamed t [101, 114, 114, 111, 114] := List.mem_filter.2 ⟨List.mem_range.2 (by rw [← etSize]; exact e3), e4⟩
 rw [etOne] at hm
 obtain rfl := List.mem_singleton.1 hm
 have hh : typeHandle Tryz.prog 24 = .pointer (some ⟨11, 24, none⟩) := by kernel_rfl
 rw [hh] at e5
 exact e5
theorem mixed : Tryz.prog.follows .mixedOrders = true := by kernel_rfl
theorem star : "*" ++ "errors.errorString" = "*errors.errorString" := by decide
theorem row187 (u : TypeId) (h : Tryz.prog.typeName? 3 u = some "*errors.errorString") : u = 187 :=
 typeName_ptr_named (nm := "errors.errorString") (by rw [star]; kernel_rfl) (by kernel_rfl) (by decide) u (by rw [star]; exact h)
theorem namesOk : Tryz.prog.funcs.toList.all (fun fn => fn.name != "runtime.NumGoroutine") = true := by kernel_rfl
theorem noNum (f : FuncId) (fn : Func) (h : Tryz.prog.funcs[f]? = some fn) : fn.name ≠ "runtime.NumGoroutine" := by
 have h1 : fn ∈ Tryz.prog.funcs.toList := by
   rw [Array.mem_toList_iff]
   exact Array.mem_of_getElem? h
 have := List.all_eq_true.1 namesOk fn h1
 simpa using this
section
variable [Mx]
theorem ok0 (n : Nat) : CallsOK Tryz.prog (evCall cf0 n) :=
 evCall_ok (cf := cf0) extL_ok exhL_ok noNum (fun n h D => drawOK h mixed) n
theorem extOK : ExtOK Tryz.prog extC := by
 intro f args v h
 unfold extC at h
 split at h
 · unfold ext43 at h
   split at h
   · cases h
     exact tells (ok0 1) rfl rfl forms43
   · cases h
 all_goals first | exact extL_ok _ _ _ h | cases h
theorem exhOK : ExhOK Tryz.prog exhC := by
 intro f args H r h
 unfold exhC at h
 split at h
 all_goals first | exact exhL_ok _ _ _ _ h | cases h
theorem okc (n : Nat) : CallsOK Tryz.prog (evCall cfc n) :=
 evCall_ok (cf := cfc) extOK exhOK noNum (fun n h D => drawOK h mixed) n
end
structure Tabd (W : World) (m : Int) (nm : Option Blk) : Prop where
 nms : nm = none ∨ (nm = some (.ro namesC) ∧ ∃ u z, W.heap[3]? = some (.cells namesC.toArray u z))
 et : ∃ u z, W.heap[0]? = some (.cells #[.iface 121 (.agg #[.pointer (some ⟨11, 24, none⟩)])] u z)
 shapes : ∃ u z, W.heap[1]? = some (.cells shapesC.toArray u z)
 mx : ∃ u z, W.heap[2]? = some (.cells #[.int .i64 m] u z)
 pow : ∃ u z, W.heap[8]? = some (.cells powC.toArray u z)
 syn : ∃ p u z, W.heap[6]? = some (.cells #[.iface 187 p] u z)
 rng : ∃ p u z, W.heap[7]? = some (.cells #[.iface 187 p] u z)
 size : 11 ≤ W.heap.size
def f0 : Nat → Option (Nat × Nat) := fun i => if i < 11 then some (i, 0) else none
theorem TAB_get [Mx] (i : Nat) : TAB.get i = if i = 8 then some (.ro powC) else if i = 7 then some (.ro [.iface 187 dead]) else if i = 6 then some (.ro [.iface 187 dead]) else if i = 3 then Mx.nm else if i = 2 then some (.ro [.int .i64 Mx.m]) else if i = 1 then some (.ro shapesC) else if i = 0 then some (.ro [.iface 121 (.agg #[.chan (some 1)])]) else none := by
 unfold TAB
 rw [Map.get_put, Map.get_put, Map.get_put, Map.get_put, Map.get_put, Map.get_put, Map.get_put]
 rfl
theorem fl_tab [Mx] (i : Nat) (x : Blk) (h : (Hp.fl).get i = some x) : i < 11 ∧ TAB.get i = some x := by
 have e : (Hp.fl).get i = bif Nat.blt i 11 then TAB.get i else none := rfl
 rw [e] at h
 cases hb : Nat.blt i 11 with
 | true => rw [hb] at h; exact ⟨Nat.le_of_ble_eq_true hb, h⟩
 | false => rw [hb] at h; cases h
theorem start_sim {W : World} {m : Int} {nm : Option Blk} (h : Tabd W m nm) : @Sim (@tabs ⟨m, nm⟩) Tryz.prog ⟨f0, csz W⟩ (@Hp.fl (@tabs ⟨m, nm⟩)) W := by
 letI : Mx := ⟨m, nm⟩
 have enm : (Mx.nm : Option Blk) = nm := rfl
 have h10 := h.size
 have hnm := h.nms
 have hf : ∀ i, i < 11 → f0 i = some (i, 0) := fun i hi => if_pos hi
 refine Sim.start rfl (fun i b d h => ?_) (fun g hg => ?_) (Nat.le_refl _) (fun i hi => Hp.fl_get hi) (by rw [globs]; exact Nat.le_refl 11) (fun i x hi h => ?_) (fun i x b d hx hr => ?_)
 · have h : f0 i = some (b, d) := h
   unfold f0 at h
   split at h
   · cases h; rename_i hi; exact ⟨hi, by omega⟩
   · cases h
 · rw [globs] at hg
   refine ⟨hf g hg, fun cs hc => ?_⟩
   have hc : TAB.get g = some (.ro cs) := hc
   show csz W g = cs.length
   rw [TAB_get] at hc
   by_cases e8 : g = 8
   · rw [if_pos e8] at hc; cases hc; subst e8; obtain ⟨u, z, hh⟩ := h.pow; rw [csz_of hh]; rfl
   rw [if_neg e8] at hc
   by_cases e7 : g = 7
   · rw [if_pos e7] at hc; cases hc; subst e7; obtain ⟨p, u, z, hh⟩ := h.rng; rw [csz_of hh]; rfl
   rw [if_neg e7] at hc
   by_cases e6 : g = 6
   · rw [if_pos e6] at hc; cases hc; subst e6; obtain ⟨p, u, z, hh⟩ := h.syn; rw [csz_of hh]; rfl
   rw [if_neg e6] at hc
   by_cases e3 : g = 3
   · rw [if_pos e3, enm] at hc
     rcases h.nms with e | ⟨e, u, z, hh⟩
     · rw [e] at hc; cases hc
     · rw [e] at hc; cases hc; subst e3; rw [csz_of hh]; rfl
   rw [if_neg e3] at hc
   by_cases e2 : g = 2
   · rw [if_pos e2] at hc; cases hc; subst e2; obtain ⟨u, z, hh⟩ := h.mx; rw [csz_of hh]; rfl
   rw [if_neg e2] at hc
   by_cases e1 : g = 1
   · rw [if_pos e1] at hc; cases hc; subst e1; obtain ⟨u, z, hh⟩ := h.shapes; rw [csz_of hh]; rfl
   rw [if_neg e1] at hc
   by_cases e0 : g = 0
   · rw [if_pos e0] at hc; cases hc; subst e0; obtain ⟨u, z, hh⟩ := h.et; rw [csz_of hh]; rfl
   rw [if_neg e0] at hc; cases hc
 · have h : TAB.get i = some x := h
   rw [TAB_get] at h
   split at h
   · cases h; exact ⟨_, rfl, by kernel_rfl⟩
   split at h
   · cases h; exact ⟨_, rfl, rfl⟩
   split at h
   · cases h; exact ⟨_, rfl, rfl⟩
   split at h
   · rw [enm] at h
     rcases hnm with e | ⟨e, u, z, hh⟩
     · rw [e] at h; cases h
     · rw [e] at h; cases h; exact ⟨_, rfl, by kernel_rfl⟩
   split at h
   · cases h; exact ⟨_, rfl, rfl⟩
   split at h
   · cases h; exact ⟨_, rfl, by kernel_rfl⟩
   split at h
   · cases h; exact ⟨_, rfl, by kernel_rfl⟩
   · cases h
 · obtain ⟨hi, hx⟩ := fl_tab i x hx
   have hr : f0 i = some (b, d) := hr
   rw [hf i hi] at hr
   cases hr
   rw [TAB_get] at hx
   have er : ∀ p u z g, W.heap[g]? = some (.cells #[.iface 187 p] u z) → BlkR ⟨f0, csz W⟩ W g 0 (.ro [.iface 187 dead]) := fun p u z g hh =>
     ⟨_, _, _, hh, ⟨by simp, fun i v hv => by
       cases i with
       | zero => simp at hv; subst hv; exact ⟨_, rfl, .iface (.dead _)⟩
       | succ i => simp at hv⟩, (csz_of hh).symm⟩
   split at hx
   · rename_i e; subst e; cases hx; exact blkR_of_cells (by kernel_rfl) h.pow
   split at hx
   · rename_i e; subst e; cases hx; obtain ⟨p, u, z, hh⟩ := h.rng; exact er p u z _ hh
   split at hx
   · rename_i e; subst e; cases hx; obtain ⟨p, u, z, hh⟩ := h.syn; exact er p u z _ hh
   split at hx
   · rename_i e
     rw [enm] at hx
     rcases h.nms with e1 | ⟨e1, hh⟩
     · rw [e1] at hx; cases hx
     · rw [e1] at hx; obtain rfl := Option.some.inj hx; subst e; exact blkR_of_cells (by kernel_rfl) hh
   split at hx
   · rename_i e; subst e; cases hx; exact blkR_of_cells rfl h.mx
   split at hx
   · rename_i e; subst e; cases hx; exact blkR_of_cells (by kernel_rfl) h.shapes
   split at hx
   · rename_i e; subst e; cases hx
     obtain ⟨u, z, hh⟩ := h.et
     refine ⟨_, _, _, hh, ⟨by simp, fun i v hv => ?_⟩, (csz_of hh).symm⟩
     cases i with
     | zero =>
       simp at hv; subst hv
       exact ⟨_, rfl, .iface (.agg rfl fun j hj => by
         cases j with
         | zero => exact VR.tok 0
         | succ j => simp at hj)⟩
     | succ i => simp at hv
   · cases hx
theorem trodAll_one {H : Type} {enc : TypeId × Value → H} {P : Program} {w : World} {b : Nat} {sp : Nat → Bool} {hd : Bool} {t : TypeId} {ts : List TypeId} {vs : List Value} {ds : List (DataW H)} {ps : List MemPlace} (h : DataW.TrodAll enc P w b sp hd (t :: ts) vs ds ps) :
   ∃ v r d e p q fuel, vs = v :: r ∧ ds = d :: e ∧ DataW.trod enc P w b sp hd fuel t v.cells.toList = some (d, p) ∧ DataW.TrodAll enc P w b sp hd ts r e q := by
 cases vs with
 | nil => simp [DataW.TrodAll] at h
 | cons v vs =>
   cases ds with
   | nil => simp [DataW.TrodAll] at h
   | cons d ds =>
     obtain ⟨p, q, ⟨fuel, h1⟩, h2, rfl⟩ := h
     exact ⟨v, vs, d, ds, p, q, fuel, rfl, rfl, h1, h2⟩
theorem scalar_str {P : Program} {W : World} {t : TypeId} {v : Value} {b : Nat} {s : ByteArray} (ht : P.underlying t = some .string) (hval : Value.okWide P W .any b t v) (h : v.cells.toList = [.string s]) : v = .string s := by
 cases v with
 | agg cs =>
   unfold Value.okWide at hval
   rw [ht] at hval
   simp only [Cell.okWide, Cell.ok, ht] at hval
 | string z => have h : [Value.string z] = [.string s] := h; simpa using h
 | _ => cases h
end Go.Proofs.YtbaooebafijenaaGreatDoor
