/- A law over plain values: from the evaluator's answer to the row's condition. -/
import Derived.Test.YtbaooebafijenaaGreatDoorHvUse
import Derived.RowKit
import Derived.OpenShut
import Derived.Lib.LaidTab
namespace Go.Ev
open Go Go.ChangeShapes Go.WideShapes Go.RowKit
set_option linter.unusedSectionVars false
inductive Sc where
 | int (k : IntKind)
 | bool
 | str
deriving DecidableEq
def scF (g : TypeId → Option (List Sc)) (P : Program) : List Field → Nat → Option (List Sc)
 | [], _ => some []
 | f :: fs, o => if f.offset = o then (g f.type).bind fun l => if l.length = P.cellsOf f.type then (scF g P fs (o + l.length)).map (l ++ ·) else none else none
def scT (P : Program) : Nat → TypeId → Option (List Sc)
 | 0, _ => none
 | d + 1, t =>
   match P.underlying t with
   | some .bool => some [.bool]
   | some (.int k) => some [.int k]
   | some .string => some [.str]
   | some (.struct fs) => (scF (scT P d) P fs.toList 0).bind fun l => if l.length = P.cellsOf t then some l else none
   | some (.array n e) => (scT P d e).bind fun l => if l.length = P.cellsOf e ∧ n * l.length = P.cellsOf t then some (List.replicate n l).flatten else none
   | _ => none
def scOk : Sc → Value → Prop
 | .int k, .int k' n => k' = k ∧ (Lit.int k n).wf = true
 | .bool, .bool _ => True
 | .str, .string s => s.size ≤ Go.maxLen
 | _, _ => False
inductive ScL : List Sc → List Value → Prop where
 | nil : ScL [] []
 | cons {s : Sc} {v : Value} {l : List Sc} {cs : List Value} (h : scOk s v) (hl : ScL l cs) : ScL (s :: l) (v :: cs)
theorem ScL.append {l m : List Sc} {cs ds : List Value} (h : ScL l cs) (h' : ScL m ds) : ScL (l ++ m) (cs ++ ds) := by
 induction h with
 | nil => exact h'
 | cons a _ ih => exact .cons a ih
theorem ScL.length {l : List Sc} {cs : List Value} (h : ScL l cs) : cs.length = l.length := by
 induction h with
 | nil => rfl
 | cons _ _ ih => simp [ih]
theorem scOk.flat {s : Sc} {v : Value} (h : scOk s v) (n : Nat) : flatN n v = true := by
 cases s <;> cases v <;> simp [scOk] at h <;> cases n <;> rfl
theorem ScL.flat {l : List Sc} {cs : List Value} (h : ScL l cs) (n : Nat) : cs.all (flatN n) = true := by
 induction h with
 | nil => rfl
 | cons a _ ih => simp [ih, a.flat n]
section
variable {H : Type} {enc : TypeId × Value → H} {P : Program}
def Free (P : Program) (enc : TypeId × Value → H) (fuel : Nat) (t : TypeId) (cs : List Value) (d : DataW H) : Prop :=
 ∀ (w : World) (b : Nat) (sp : Nat → Bool) (hd : Bool), DataW.trod enc P w b sp hd fuel t cs = some (d, [])
theorem mapM_cons_some {α β : Type} {f : α → Option β} {x : α} {l : List α} {r : List β} (h : (x :: l).mapM f = some r) : ∃ y ys, f x = some y ∧ l.mapM f = some ys ∧ r = y :: ys := by
 rw [List.mapM_cons] at h
 cases hf : f x with
 | none => rw [hf] at h; cases h
 | some y =>
   cases hl : l.mapM f with
   | none => rw [hf, hl] at h; cases h
   | some ys => rw [hf, hl] at h; cases h; exact ⟨y, ys, rfl, rfl, rfl⟩
theorem mapM_cons_mk {α β : Type} {f : α → Option β} {x : α} {l : List α} {y : β} {ys : List β} (h : f x = some y) (h' : l.mapM f = some ys) : (x :: l).mapM f = some (y :: ys) := by
 rw [List.mapM_cons, h, h']; rfl
theorem mapM_nil_some {α β : Type} {f : α → Option β} {r : List β} (h : ([] : List α).mapM f = some r) : r = [] := by
 cases h; rfl
theorem trod_sc {w : World} {base : Nat} {spare : Nat → Bool} {held : Bool} : ∀ (fuel d : Nat) (t : TypeId) (cs : List Value) (l : List Sc) (x : DataW H) (ps : List MemPlace), scT P d t = some l → DataW.trod enc P w base spare held fuel t cs = some (x, ps) →
   ps = [] ∧ ScL l cs ∧ Free P enc fuel t cs x := by
 intro fuel
 induction fuel with
 | zero => intro d t cs l x ps _ h; simp [DataW.trod] at h
 | succ fuel ih =>
   intro d t cs l x ps hl h
   cases d with
   | zero => simp [scT] at hl
   | succ d =>
     have fields : ∀ (cs : List Value) (fs : List Field) (o : Nat) (l : List Sc) (xs : List (DataW H × List MemPlace)), scF (scT P d) P fs o = some l → o + l.length ≤ cs.length →
         fs.mapM (fun f => DataW.trod enc P w base spare held fuel f.type ((cs.drop f.offset).take (P.cellsOf f.type))) = some xs →
         xs.flatMap (·.2) = [] ∧ ScL l ((cs.drop o).take l.length) ∧ ∀ (w' : World) (b : Nat) (sp : Nat → Bool) (hd : Bool), fs.mapM (fun f => DataW.trod enc P w' b sp hd fuel f.type ((cs.drop f.offset).take (P.cellsOf f.type))) = some (xs.map fun x => (x.1, [])) := by
       intro cs fs
       induction fs with
       | nil =>
         intro o l xs hl ho hm
         cases hl; cases mapM_nil_some hm
         exact ⟨rfl, by simpa using ScL.nil, fun _ _ _ _ => rfl⟩
       | cons f fs ihf =>
         intro o l xs hl ho hm
         simp only [scF] at hl
         split at hl
         · rename_i hoff
           obtain ⟨a, ha, hl⟩ := Option.bind_eq_some_iff.1 hl
           split at hl
           · rename_i hlen
             obtain ⟨m, hm', rfl⟩ := Option.map_eq_some_iff.1 hl
             obtain ⟨y, ys, hy, hys, rfl⟩ := mapM_cons_some hm
             obtain ⟨y1, y2⟩ := y
             simp only [List.length_append] at ho
             obtain ⟨rfl, hs, hfree⟩ := ih d f.type _ a y1 y2 ha hy
             obtain ⟨h1, h2, h3⟩ := ihf (o + a.length) m ys hm' (by omega) hys
             refine ⟨by simpa using h1, ?_, fun w' b sp hd => mapM_cons_mk (hfree w' b sp hd) (h3 w' b sp hd)⟩
             rw [hoff, ← hlen] at hs
             have : (cs.drop o).take (a ++ m).length = (cs.drop o).take a.length ++ (cs.drop (o + a.length)).take m.length := by
               rw [List.length_append, List.take_add, List.drop_drop]
             rw [this]
             exact hs.append h2
           · cases hl
         · cases hl
     have elems : ∀ (cs : List Value) (e : TypeId) (a : List Sc), scT P d e = some a → a.length = P.cellsOf e → ∀ (is : List Nat) (s : Nat) (xs : List (DataW H × List MemPlace)), is = List.range' s is.length → (s + is.length) * a.length ≤ cs.length →
         is.mapM (fun i => DataW.trod enc P w base spare held fuel e ((cs.drop (i * P.cellsOf e)).take (P.cellsOf e))) = some xs →
         xs.flatMap (·.2) = [] ∧ ScL (List.replicate is.length a).flatten ((cs.drop (s * a.length)).take (is.length * a.length)) ∧ ∀ (w' : World) (b : Nat) (sp : Nat → Bool) (hd : Bool), is.mapM (fun i => DataW.trod enc P w' b sp hd fuel e ((cs.drop (i * P.cellsOf e)).take (P.cellsOf e))) = some (xs.map fun x => (x.1, [])) := by
       intro cs e a ha hae is
       induction is with
       | nil =>
         intro s xs _ _ hm
         cases mapM_nil_some hm
         exact ⟨rfl, by simpa using ScL.nil, fun _ _ _ _ => rfl⟩
       | cons i is ihi =>
         intro s xs his hlen hm
         simp only [List.length_cons, List.range'_succ, List.cons.injEq] at his
         obtain ⟨rfl, his⟩ := his
         obtain ⟨y, ys, hy, hys, rfl⟩ := mapM_cons_some hm
         obtain ⟨y1, y2⟩ := y
         simp only [List.length_cons] at hlen
         obtain ⟨rfl, hs, hfree⟩ := ih d e _ a y1 y2 ha hy
         have e1 : i + 1 + is.length = i + (is.length + 1) := by omega
         obtain ⟨h1, h2, h3⟩ := ihi (i + 1) ys his (by rw [e1]; exact hlen) hys
         refine ⟨by simpa using h1, ?_, fun w' b sp hd => mapM_cons_mk (hfree w' b sp hd) (h3 w' b sp hd)⟩
         rw [← hae] at hs
         have : (cs.drop (i * a.length)).take ((is.length + 1) * a.length) = (cs.drop (i * a.length)).take a.length ++ (cs.drop ((i + 1) * a.length)).take (is.length * a.length) := by
           have : (is.length + 1) * a.length = a.length + is.length * a.length := by rw [Nat.add_mul, Nat.one_mul, Nat.add_comm]
           rw [this, List.take_add, List.drop_drop, Nat.add_mul, Nat.one_mul]
         simp only [List.length_cons, List.replicate_succ, List.flatten_cons]
         rw [this]
         exact hs.append h2
     unfold DataW.trod at h
     simp only [scT] at hl
     split at h
     all_goals (try (cases h; done))
     all_goals (rename_i hu; try simp only [hu] at hl)
     all_goals (try (cases hl; done))
     · cases hl; cases h
       exact ⟨rfl, .cons trivial .nil, fun w' b sp hd => by simp [DataW.trod, hu]⟩
     · cases hl
       split at h
       · rename_i hk; obtain ⟨rfl, hwf⟩ := hk
         cases h
         exact ⟨rfl, .cons ⟨rfl, hwf⟩ .nil, fun w' b sp hd => by simp [DataW.trod, hu, hwf]⟩
       · cases h
     · cases hl
       split at h
       · rename_i hk
         cases h
         exact ⟨rfl, .cons hk .nil, fun w' b sp hd => by simp [DataW.trod, hu, hk]⟩
       · cases h
     · rename_i cs _ _ fs
       obtain ⟨m, hm, hl⟩ := Option.bind_eq_some_iff.1 hl
       split at hl
       · rename_i hlen; cases hl
         split at h
         · rename_i hcs
           obtain ⟨xs, hxs, hx⟩ := Option.map_eq_some_iff.1 h
           simp only [Prod.mk.injEq] at hx
           obtain ⟨h1, h2, h3⟩ := fields _ _ 0 _ xs hm (by omega) hxs
           refine ⟨hx.2.symm.trans h1, ?_, fun w' b sp hd => ?_⟩
           · have : List.take l.length (List.drop 0 cs) = cs := by rw [List.drop_zero, List.take_of_length_le (by omega)]
             rwa [this] at h2
           · simp only [DataW.trod, hu, hcs, if_true, h3 w' b sp hd, Option.map_some]
             rw [← hx.1]
             simp [List.map_map, List.flatMap_map]
         · cases h
       · cases hl
     · rename_i cs _ _ n e
       obtain ⟨m, hm, hl⟩ := Option.bind_eq_some_iff.1 hl
       split at hl
       · rename_i hlen; cases hl
         split at h
         · rename_i hcs
           obtain ⟨xs, hxs, hx⟩ := Option.map_eq_some_iff.1 h
           simp only [Prod.mk.injEq] at hx
           obtain ⟨h1, h2, h3⟩ := elems _ _ m hm hlen.1 (List.range n) 0 xs (by simp [List.range_eq_range']) (by simp; omega) hxs
           refine ⟨hx.2.symm.trans h1, ?_, fun w' b sp hd => ?_⟩
           · have : List.take ((List.range n).length * m.length) (List.drop (0 * m.length) cs) = cs := by
               rw [Nat.zero_mul, List.drop_zero, List.take_of_length_le (by simp; omega)]
             rw [this] at h2
             simpa using h2
           · simp only [DataW.trod, hu, hcs, if_true, h3 w' b sp hd, Option.map_some]
             rw [← hx.1]
             simp [List.map_map, List.flatMap_map]
         · cases h
       · cases hl
end
section
variable {H : Type} {enc : TypeId × Value → H} {P : Program}
def strData (zs : List (List UInt8)) : DataW H := .agg (zs.map fun z => .lit (.string z))
def strCells (zs : List (List UInt8)) : List Value := zs.map fun z => .string ⟨z.toArray⟩
theorem trod_str {w : World} {base : Nat} {sp : Nat → Bool} {held : Bool} {fuel : Nat} {e : TypeId} {cs : List Value} {x : DataW H × List MemPlace} (he : P.underlying e = some .string) (h : DataW.trod enc P w base sp held fuel e cs = some x) :
   ∃ s, cs = [.string s] ∧ x = (.lit (.string s.data.toList), []) := by
 cases fuel with
 | zero => simp [DataW.trod] at h
 | succ fuel =>
   unfold DataW.trod at h
   split at h
   all_goals (try (cases h; done))
   all_goals (rename_i hu; try (rw [he] at hu; cases hu; done))
   split at h
   · cases h; exact ⟨_, rfl, rfl⟩
   · cases h
theorem cells_of_str {w : World} {base : Nat} {sp : Nat → Bool} {held : Bool} {fuel : Nat} {t e : TypeId} {n : Nat} {cs : List Value} {zs : List (List UInt8)} {p : List MemPlace}
   (ht : P.underlying t = some (.array n e)) (he : P.underlying e = some .string) (hce : P.cellsOf e = 1) (hct : P.cellsOf t = n)
   (h : DataW.trod enc P w base sp held fuel t cs = some (strData zs, p)) : cs = strCells zs := by
 cases fuel with
 | zero => simp [DataW.trod] at h
 | succ fuel =>
   simp only [DataW.trod, ht, hce, hct, Nat.mul_one] at h
   split at h
   · rename_i hl
     obtain ⟨xs, hm, hx⟩ := Option.map_eq_some_iff.1 h
     have hxs : xs.map (·.1) = zs.map fun z => (DataW.lit (.string z) : DataW H) := by
       have := congrArg Prod.fst hx
       simpa [strData] using this
     have hxl : xs.length = n := by simpa using Go.Lib.mapM_length hm
     have hzl : zs.length = n := by
       have := congrArg List.length hxs
       simp at this
       omega
     apply List.ext_getElem?
     intro i
     by_cases hi : i < n
     · obtain ⟨b, hb, hf⟩ := Go.Lib.mapM_at hm i i (by simp [hi])
       obtain ⟨z, hc, rfl⟩ := trod_str he hf
       have h1 : cs[i]? = some (.string z) := by
         have := congrArg (·[0]?) hc
         simpa [List.getElem?_take, List.getElem?_drop] using this
       have h2 : (xs.map (·.1))[i]? = some (DataW.lit (.string z.data.toList) : DataW H) := by simp [hb]
       rw [hxs] at h2
       simp only [List.getElem?_map, Option.map_eq_some_iff, DataW.lit.injEq, Lit.string.injEq] at h2
       obtain ⟨z', hz', h3⟩ := h2
       subst h3
       simp [strCells, h1, hz']
     · rw [List.getElem?_eq_none (by omega), List.getElem?_eq_none (by simp [strCells]; omega)]
   · cases h
theorem laid_str {W : World} {name : String} {zs : List (List UInt8)} {r : List (String × DataW Unit)} {ps : List MemPlace} {g : Nat} {t e : TypeId} {n : Nat}
   (hg : P.globalNamed name = some g) (hty : (P.globals[g]?).map (·.type) = some t) (ht : P.underlying t = some (.array n e)) (he : P.underlying e = some .string) (hce : P.cellsOf e = 1) (hct : P.cellsOf t = n)
   (h : DataW.LaidVars P W ((name, strData zs) :: r) ps) : (∃ u z, W.heap[g]? = some (.cells (strCells zs).toArray u z)) ∧ ∃ qs, DataW.LaidVars P W r qs := by
 obtain ⟨g', t', cs, fuel, p, q, hg', ht', hvar, hd, hr, _⟩ := h
 obtain rfl := Option.some.inj (hg.symm.trans hg')
 obtain rfl := Option.some.inj (hty.symm.trans ht')
 have hcs := cells_of_str ht he hce hct hd
 refine ⟨?_, q, hr⟩
 simp only [World.var?, hg, Option.bind_some] at hvar
 split at hvar
 · rename_i c u z hh
   cases hvar
   refine ⟨u, z, ?_⟩
   rw [hh, ← hcs]
 · cases hvar
def csz (W : World) (b : Nat) : Nat :=
 match W.heap[b]? with
 | some (.cells c _ _) => c.size
 | _ => 0
theorem csz_of {W : World} {b : Nat} {c : Array Value} {e : TypeId} {z : Nat × Nat} (h : W.heap[b]? = some (.cells c e z)) : csz W b = c.size := by
 unfold csz
 rw [h]
theorem blkR_of_cells [Tabs] {f : Nat → Option (Nat × Nat)} {W : World} {b : Nat} {cs : List Value} (hf : cs.all flat = true) (h : ∃ u z, W.heap[b]? = some (.cells cs.toArray u z)) : BlkR ⟨f, csz W⟩ W b 0 (.ro cs) := by
 obtain ⟨u, z, h⟩ := h
 refine ⟨_, _, _, h, ⟨by simp, fun i v hv => ?_⟩, (csz_of h).symm⟩
 exact ⟨v, by simpa using hv, VR.flatN_refl 4 v (List.all_eq_true.1 hf v (List.mem_of_getElem? hv))⟩
end
end Go.Ev
namespace Go.Ev
open Go Go.ChangeShapes Go.WideShapes Go.RowKit
set_option linter.unusedSectionVars false
section
variable {H : Type} {enc : TypeId × Value → H} {P : Program}
theorem trodAll_flat {w : World} {b : Nat} {sp : Nat → Bool} {hd : Bool} : ∀ (ts : List TypeId) (vs : List Value) (ds : List (DataW H)) (ps : List MemPlace), ts.all (fun t => (scT P 8 t).isSome) = true → DataW.TrodAll enc P w b sp hd ts vs ds ps →
   ps = [] ∧ ds.length = ts.length ∧ ∀ (w' : World) (b' : Nat) (sp' : Nat → Bool) (hd' : Bool), DataW.TrodAll enc P w' b' sp' hd' ts vs ds []
 | [], vs, ds, ps, _, h => by
   cases vs <;> cases ds <;> simp only [DataW.TrodAll] at h
   · exact ⟨h, rfl, fun _ _ _ _ => rfl⟩
 | t :: ts, vs, ds, ps, ha, h => by
   simp only [List.all_cons, Bool.and_eq_true] at ha
   cases vs with
   | nil => simp [DataW.TrodAll] at h
   | cons v vs =>
     cases ds with
     | nil => simp [DataW.TrodAll] at h
     | cons d ds =>
       obtain ⟨p, q, ⟨fuel, h1⟩, h2, rfl⟩ := h
       obtain ⟨l, hl⟩ := Option.isSome_iff_exists.1 ha.1
       obtain ⟨rfl, _, hf⟩ := trod_sc fuel 8 t _ l d p hl h1
       obtain ⟨rfl, hlen, h3⟩ := trodAll_flat ts vs ds q ha.2 h2
       exact ⟨rfl, by simp [hlen], fun w' b' sp' hd' => ⟨[], [], ⟨fuel, hf w' b' sp' hd'⟩, h3 w' b' sp' hd', rfl⟩⟩
theorem law_flat [Tabs] {f : Func} {s : ChangeSpec} {W W' : World} {args : Array Value} {ds gs : List (DataW H)} {before : List MemPlace} {tb : TypeId} (hS : Same W W') (hW : DataW.Whole enc P f.params.toList s.vars false W args.toList ds gs before)
   (hv : s.vars = []) (hp : f.params.toList.all (fun t => (scT P 8 t).isSome) = true) (hr : f.resultTypes = #[tb]) (hb : P.underlying tb = some .bool) (hs : ∀ ds : List (DataW H), ds.length = f.params.toList.length → s.fn H ds = { results := [.lit (.bool true)], args := ds }) :
   s.post enc P f false true false false W args (.bool true) W' := by
 have hW' := hW
 obtain ⟨p, q, hA, hV, rfl, hfz, hnd⟩ := hW
 obtain ⟨rfl, hlen, hfree⟩ := trodAll_flat _ _ _ _ hp hA
 rw [hv] at hV
 obtain ⟨rfl, rfl⟩ := trodVars_none hV
 have hfn := hs ds hlen
 have e : ds ++ ([] : List (DataW H)) = ds := by simp
 refine Same.post (pa := []) (pv := []) hS hW' rfl (fun b sp hd => ?_) (fun sp _ => ?_) (fun sp _ => ?_) (fun j t r ht hr' => ?_)
 · rw [e, hfn, hr]
   exact trodAll_cons_mk (shut_bool hb true) rfl
 · rw [e, hfn]
   exact hfree W' 0 sp true
 · rw [e, hfn, hv]
   rfl
 · rw [hr] at ht hr'
   have : j = 0 := by
     cases j with
     | zero => rfl
     | succ j => simp at ht
   subst this
   have e1 : tb = t := by simpa using ht
   subst e1
   have : r = .bool true := by
     have : ((Value.bool true).resultList 1)[0]? = some r := hr'
     simpa [Value.resultList] using this.symm
   subst this
   exact okWide_bool_mk hb true
end
end Go.Ev
