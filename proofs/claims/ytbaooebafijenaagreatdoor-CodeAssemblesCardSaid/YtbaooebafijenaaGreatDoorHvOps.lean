/- What the machine does at an operation, held against the evaluator: reads, writes, numbers. -/
import Derived.Test.YtbaooebafijenaaGreatDoorHvSim
import Derived.Laws.Cells
import Derived.Laws.Entries
import Derived.Laws.StructEq
import Derived.Laws.Pointers
namespace Go.Ev
open Go
set_option linter.unusedSectionVars false
variable [Tabs]
variable {P : Program} {ρ : Ren} {H : Hp} {w : World}
theorem run_info {t : TypeId} {i : TypeInfo} (h : P.info? t = some i) (w : World) : (typeInfo t).run P w = .ok i w := by simp [typeInfo, h]
theorem run_sizeT {t : TypeId} {n : Nat} (h : sizeT P t = some n) (w : World) : (sizeOf t).run P w = .ok n w := by
 unfold sizeT at h
 cases hi : P.info? t with
 | none => simp [hi] at h
 | some i => simp [hi] at h; simp [sizeOf, run_info hi, h]
theorem run_aggT {t : TypeId} {g : Bool} (h : aggT P t = some g) (w : World) : (isAgg t).run P w = .ok g w := by
 unfold aggT at h
 cases hi : P.underlying t with
 | none => simp [hi] at h
 | some d => cases d <;> simp [hi] at h <;> subst h <;> simp [isAgg, run_underlying hi]
theorem run_zeroT {t : TypeId} {z : List Value} (h : zeroT P t = some z) (w : World) : ∃ v, (zeroValue t).run P w = .ok v w ∧ v.cells.toList = z ∧ z.all (flatN 3) = true := by
 unfold zeroT at h
 cases hi : P.info? t with
 | none => simp [hi] at h
 | some i =>
   simp [hi] at h
   cases hz : i.zero with
   | none => simp [hz] at h
   | some v =>
     simp only [hz, Option.bind_some] at h
     split at h
     · rename_i hc; cases h; exact ⟨v, by simp [zeroValue, run_info hi, hz], rfl, by simpa using hc⟩
     · cases h
theorem VL.flat_refl {ρ : Ren} {l : List Value} {n : Nat} (h : l.all (flatN n) = true) : VL ρ l l :=
 ⟨rfl, fun i hi => VR.flatN_refl n _ (by
   rw [List.all_eq_true] at h
   exact h _ (by simp [List.getD_eq_getElem?_getD, hi]))⟩
theorem bx_sound {v v' : Value} {cs : List Value} (h : VR ρ v v') (hb : bx v = some cs) : VL ρ cs v'.cells.toList := by
 cases h with
 | dead v => simp [Ev.dead, bx] at hb
 | tok k => simp [bx] at hb
 | @agg l l' hs hl => simp [bx] at hb; subst hb; exact ⟨hs, hl⟩
 | _ => simp [bx] at hb; subst hb; exact VL.cons (by constructor <;> assumption) VL.nil
theorem CellsR.of_VL {cs : List Value} {c : Array Value} (h : VL ρ cs c.toList) : CellsR ρ cs c 0 := by
 refine ⟨by have := h.1; simp at this; omega, fun i v hv => ?_⟩
 obtain ⟨v', h1, h2⟩ := h.get hv
 exact ⟨v', by simpa using h1, h2⟩
theorem ld_sound (hS : Sim P ρ H w) {a a' v : Value} (ha : VR ρ a a') (h : ld a H = some v) : ∃ ad v', a' = .pointer (some ad) ∧ w.cell? ad = some v' ∧ VR ρ v v' := by
 cases ha with
 | @ptr b o b' d hr =>
   simp only [ld] at h
   cases hc : H.cells b with
   | none => simp [hc] at h
   | some cs =>
     simp [hc] at h
     obtain ⟨c, e, z, h1, _, h3⟩ := hS.cells hc hr
     obtain ⟨v', h4, h5⟩ := h3 o v h
     exact ⟨_, v', rfl, by rw [cell?_of h1, Nat.add_comm]; exact h4, h5⟩
 | _ => simp [ld, Ev.dead] at h
theorem ldN_sound (hS : Sim P ρ H w) {n : Nat} {a a' v : Value} (ha : VR ρ a a') (h : ldN n a H = some v) :
   ∃ ad cs', a' = .pointer (some ad) ∧ (loadCells ad n).run P w = .ok cs' w ∧ VR ρ v (.agg cs') := by
 cases ha with
 | @ptr b o b' d hr =>
   simp only [ldN] at h
   cases hc : H.cells b with
   | none => simp [hc] at h
   | some cs =>
     simp only [hc, Option.bind_some] at h
     split at h
     · rename_i hle
       cases h
       obtain ⟨c, e, z, h1, h2, h3⟩ := hS.cells hc hr
       have hlen : ((c.toList.drop (o + d)).take n).length = n := by simp; omega
       refine ⟨_, ((c.toList.drop (o + d)).take n).toArray, rfl, ?_, ?_⟩
       · have := run_loadCells_list (P := P) w ⟨b', o + d, none⟩ ((c.toList.drop (o + d)).take n) (fun j v hj => by
           rw [add_none, cell?_of h1]
           rw [List.getElem?_take] at hj
           split at hj
           · simpa using hj
           · cases hj)
         rw [hlen] at this
         exact this
       · refine .agg (by simp; omega) fun i hi => ?_
         simp at hi
         have hv : cs[o + i]? = some (cs[o + i]'(by omega)) := by simp
         obtain ⟨v', h4, h5⟩ := h3 (o + i) _ hv
         have e1 : ((cs.drop o).take n).getD i undef = cs[o + i]'(by omega) := by
           rw [List.getD_eq_getElem?_getD, List.getElem?_take, if_pos (by omega), List.getElem?_drop, hv]; rfl
         have e2 : ((c.toList.drop (o + d)).take n).getD i undef = v' := by
           rw [List.getD_eq_getElem?_getD, List.getElem?_take, if_pos (by omega), List.getElem?_drop, Array.getElem?_toList, show o + d + i = d + (o + i) from by omega, h4]; rfl
         rw [e1, e2]; exact h5
     · cases h
 | _ => simp [ldN, Ev.dead] at h
def spliceA : Array Value → Nat → List Value → Array Value
 | c, _, [] => c
 | c, o, v :: vs => spliceA (c.setIfInBounds o v) (o + 1) vs
theorem spliceA_size : ∀ (vs : List Value) (c : Array Value) (o : Nat), (spliceA c o vs).size = c.size
 | [], _, _ => rfl
 | v :: vs, c, o => by simp [spliceA, spliceA_size vs]
theorem splice_length : ∀ (vs : List Value) (c : List Value) (o : Nat), (splice c o vs).length = c.length
 | [], _, _ => rfl
 | v :: vs, c, o => by simp [splice, splice_length vs]
theorem CellsR.set {cs : List Value} {c : Array Value} {d o : Nat} {v v' : Value} (h : CellsR ρ cs c d) (hv : VR ρ v v') (ho : o < cs.length) :
   CellsR ρ (cs.set o v) (c.setIfInBounds (d + o) v') d := by
 refine ⟨by simpa using h.1, fun i u hu => ?_⟩
 rw [List.getElem?_set] at hu
 rw [Array.getElem?_setIfInBounds]
 by_cases e : o = i
 · subst e
   simp [ho] at hu
   subst hu
   refine ⟨v', ?_, hv⟩
   rw [if_pos rfl, if_pos (by have := h.1; omega)]
 · rw [if_neg e] at hu
   obtain ⟨u', h1, h2⟩ := h.2 i u hu
   exact ⟨u', by rw [if_neg (by omega)]; exact h1, h2⟩
theorem CellsR.splice : ∀ (vs vs' : List Value) (cs : List Value) (c : Array Value) (d o : Nat), CellsR ρ cs c d → VL ρ vs vs' → o + vs.length ≤ cs.length →
   CellsR ρ (Ev.splice cs o vs) (spliceA c (d + o) vs') d
 | [], vs', cs, c, d, o, h, hv, _ => by rw [hv.inv_nil]; exact h
 | v :: vs, vs', cs, c, d, o, h, hv, ho => by
   obtain ⟨v', m, rfl, h1, h2⟩ := hv.inv_cons
   simp only [List.length_cons] at ho
   have := CellsR.splice vs m (cs.set o v) (c.setIfInBounds (d + o) v') d (o + 1) (h.set h1 (by omega)) h2 (by simp; omega)
   simpa [Ev.splice, spliceA, Nat.add_assoc] using this
theorem okC_one {v v' : Value} (h : VR ρ v v') (hv : okC v = true) : v'.oneCell' = true := by
 cases h <;> simp_all [okC, Ev.dead, Value.oneCell']
theorem World.setCell_pb {w : World} {b o : Nat} {c : Array Value} {e : TypeId} {z : Nat × Nat} (h : w.heap[b]? = some (.cells c e z)) (v : Value) :
   w.setCell ⟨b, o, none⟩ v = w.pb b (.cells (c.setIfInBounds o v) e z) := by
 unfold World.setCell World.pb
 congr 1
 apply Array.ext_getElem?
 intro i
 obtain ⟨hb, e1⟩ := Array.getElem?_eq_some_iff.1 h
 rw [Array.getElem?_modify, Array.getElem?_setIfInBounds]
 by_cases hi : b = i
 · subst hi; simp [hb, e1]
 · simp [hi]
theorem run_storeCells_pb (b o : Nat) (e : TypeId) (z : Nat × Nat) : ∀ (vs : List Value) (i : Nat) (c : Array Value) (w : World), w.heap[b]? = some (.cells c e z) →
   o + i + vs.length ≤ c.size → unfrozen c z → (∀ v ∈ vs, v.oneCell' = true) →
   (storeCells ⟨b, o, none⟩ vs i).run P w = .ok () (w.pb b (.cells (spliceA c (o + i) vs) e z))
 | [], i, c, w, h, _, _, _ => by
   have : w.pb b (.cells c e z) = w := by
     unfold World.pb
     obtain ⟨hb, e1⟩ := Array.getElem?_eq_some_iff.1 h
     have : w.heap.setIfInBounds b (.cells c e z) = w.heap := by
       apply Array.ext_getElem?
       intro j
       rw [Array.getElem?_setIfInBounds]
       by_cases hj : b = j
       · subst hj; simp [hb, e1]
       · simp [hj]
     rw [this]
   simp [storeCells, spliceA, this]
 | v :: vs, i, c, w, h, hle, hz, h1 => by
   simp only [List.length_cons] at hle
   have hlt : o + i < c.size := by omega
   have hcell : w.cell? ⟨b, o + i, none⟩ = some c[o + i] := by rw [cell?_of h]; simp [hlt]
   have hfr : w.frozen? ⟨b, o + i, none⟩ = false := by
     have := hz (o + i) hlt
     simp only [World.frozen?, h, Bool.and_eq_false_iff, decide_eq_false_iff_not]
     omega
   have hb : b < w.heap.size := (Array.getElem?_eq_some_iff.1 h).1
   simp only [storeCells, Sem.run_bind, add_none, run_store P w _ v .plain (h1 v (by simp)), hcell, hfr, Bool.false_eq_true, if_false, Result.andThen_ok, World.setCell_pb h]
   have hnew : (w.pb b (.cells (c.setIfInBounds (o + i) v) e z)).heap[b]? = some (.cells (c.setIfInBounds (o + i) v) e z) := by rw [World.pb_get]; simp [hb]
   have ih := run_storeCells_pb b o e z vs (i + 1) (c.setIfInBounds (o + i) v) _ hnew (by simp; omega) (fun j hj => hz j (by simpa using hj)) (fun u hu => h1 u (by simp [hu]))
   rw [ih]
   simp [World.pb, spliceA, Nat.add_assoc]
theorem st_sound (hS : Sim P ρ H w) {t : TypeId} {n : Nat} (ht : sizeT P t = some n) {a a' v v' : Value} {H' : Hp} (ha : VR ρ a a') (hv : VR ρ v v') (h : st n a v H = some H') :
   ∃ w', (Instr.storeAt t a' v').run P w = .ok () w' ∧ Stp P ρ H w ρ H' w' := by
 cases ha with
 | @ptr b o b' d hr =>
   simp only [st] at h
   split at h
   · rename_i hl
     split at h
     · rename_i cs hg
       cases hb : bx v with
       | none => simp [hb] at h
       | some vs =>
         simp only [hb, Option.bind_some] at h
         split at h
         · rename_i hc
           obtain ⟨hn, hle, hok⟩ := hc
           cases h
           have hvl := bx_sound hv hb
           obtain ⟨c, e, z, h1, h2, h3, h5⟩ := hS.blk b _ b' d hg hr
           have hone : ∀ u ∈ v'.cells.toList, u.oneCell' = true := by
             intro u hu
             obtain ⟨i, hi⟩ := List.mem_iff_getElem?.1 hu
             have hi' : i < vs.length := by
               have := (List.getElem?_eq_some_iff.1 hi).1
               rw [hvl.1]; exact this
             obtain ⟨u', hu', hr'⟩ := hvl.get (i := i) (v := vs[i]) (by simp [hi'])
             rw [hi] at hu'
             cases hu'
             rw [List.all_eq_true] at hok
             exact okC_one hr' (hok _ (List.getElem_mem hi'))
           have hsz : v'.cells.size = n := by rw [← Array.length_toList, ← hvl.1, hn]
           have hrun := run_storeCells_pb (P := P) b' (o + d) e z v'.cells.toList 0 c w h1 (by have := h2.1; have := hvl.1; simp at this ⊢; omega) h3 hone
           refine ⟨_, ?_, hS.put (o := .cells (spliceA c (d + o) v'.cells.toList) e z) hg rfl hl hr ?_⟩
           · simp only [Instr.storeAt, Instr.sureAddr, Sem.run_bind, Sem.run_pure, Result.andThen_ok, storeVar, run_sizeT ht, hsz, ne_eq, not_true, if_false, Sem.run_ite, run_stuck]
             rw [hrun]
             simp [Nat.add_comm]
           · refine ⟨_, e, z, ?_, CellsR.splice vs _ cs c d o h2 hvl (by omega), fun i hi => h3 i (by rwa [spliceA_size] at hi), by rw [spliceA_size]; exact h5⟩
             rw [World.pb_get]
             simp [(Array.getElem?_eq_some_iff.1 h1).1]
         · cases h
     · cases h
   · cases h
 | _ => simp [st, Ev.dead] at h
end Go.Ev
