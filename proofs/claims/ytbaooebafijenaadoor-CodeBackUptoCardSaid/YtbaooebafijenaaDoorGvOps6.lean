/- What the machine does at an append, held against the evaluator. -/
import Derived.Test.YtbaooebafijenaaDoorGvOps5
import Derived.Laws.AppendOwn
set_option linter.unusedSimpArgs false
namespace Go.Ev
open Go
set_option linter.unusedSectionVars false
variable [Tabs]

variable {P : Program} {ρ : Ren} {H : Hp} {w : World}

theorem roomy_fits {n c by_ : Nat} (h : roomy n by_ = true) (hc : c < n) : Builtin.nextslicecap n c * by_ ≤ 281474976710656 ∧ n ≤ 9223372036854775807 := by
  simp only [roomy, decide_eq_true_eq] at h
  refine ⟨Nat.le_trans (Nat.mul_le_mul_right _ ?_) h.1, h.2⟩
  unfold Builtin.nextslicecap
  split
  · omega
  · split
    · omega
    · have grow : ∀ (r c : Nat), c < n + n → Builtin.growBy n r c ≤ 2 * n + 192 := by
        intro r
        induction r with
        | zero => intro c hc; simp [Builtin.growBy]; omega
        | succ r ih =>
          intro c hc
          simp only [Builtin.growBy]
          split
          · omega
          · rename_i hlt
            by_cases h2 : c + (c + 768) / 4 < n + n
            · exact ih _ h2
            · have : ∀ r, Builtin.growBy n r (c + (c + 768) / 4) = c + (c + 768) / 4 := by
                intro r
                cases r with
                | zero => rfl
                | succ r => simp only [Builtin.growBy]; rw [if_pos (by omega)]
              rw [this]
              omega
      exact grow 4 c (by omega)

/-- what an append reads -/
theorem srcC_sound (hS : Sim P ρ H w) {sz : Nat} {x x' : Value} (hx : VR ρ x x') {m : Nat} {xs : List Value} (h : srcC sz x H = some (m, xs)) :
    (∀ w', (Builtin.lenOf x').run P w' = .ok m w') ∧ ∃ xs' : Array Value, xs'.size = m * sz ∧ VL ρ xs xs'.toList ∧ ∀ w' : World, (∀ b, b < w.heap.size → w'.heap[b]? = w.heap[b]?) → (Builtin.firstCells sz m x').run P w' = .ok xs' w' := by
  cases hx with
  | snil =>
    simp [srcC] at h
    obtain ⟨rfl, rfl⟩ := h
    exact ⟨fun w' => by simp [Builtin.lenOf], #[], by simp, VL.nil, fun w' _ => by simp [Builtin.firstCells]⟩
  | @slice b o b' d n c c' hr hc hz =>
    simp only [srcC] at h
    split at h
    · rename_i h0
      simp only [Option.some.injEq, Prod.mk.injEq] at h
      obtain ⟨rfl, rfl⟩ := h
      exact ⟨fun w' => by simp [Builtin.lenOf, h0], #[], by simp, VL.nil, fun w' _ => by simp [Builtin.firstCells, loadCells, loadCellsFrom]⟩
    · cases hcc : H.cells b with
      | none => simp [hcc] at h
      | some cs =>
        simp only [hcc, Option.bind_some] at h
        split at h
        · rename_i hle
          simp only [Option.some.injEq, Prod.mk.injEq] at h
          obtain ⟨rfl, rfl⟩ := h
          refine ⟨fun w' => by simp [Builtin.lenOf], ?_⟩
          obtain ⟨c0, e, z, h1, h2, h3⟩ := hS.cells hcc hr
          have hlen : ((c0.toList.drop (o + d)).take (n * sz)).length = n * sz := by simp; omega
          refine ⟨((c0.toList.drop (o + d)).take (n * sz)).toArray, by simpa using hlen, VL.of_get (by simp; omega) fun i u u' hu hu' => ?_, fun w' hw' => ?_⟩
          · rw [List.getElem?_take] at hu
            split at hu
            · rename_i hi
              rw [List.getElem?_drop] at hu
              obtain ⟨v', h4, h5⟩ := h3 (o + i) u hu
              simp only [List.getElem?_toArray, Array.getElem?_toList] at hu'
              rw [List.getElem?_take, if_pos hi, List.getElem?_drop, Array.getElem?_toList, show o + d + i = d + (o + i) by omega, h4] at hu'
              cases hu'
              exact h5
            · cases hu
          · have hb : b' < w.heap.size := (Array.getElem?_eq_some_iff.1 h1).1
            have h1' : w'.heap[b']? = some (.cells c0 e z) := (hw' b' hb).trans h1
            have := run_loadCells_list (P := P) w' ⟨b', o + d, none⟩ ((c0.toList.drop (o + d)).take (n * sz)) (fun j v hj => by
              rw [add_none, cell?_of h1']
              rw [List.getElem?_take] at hj
              split at hj
              · simpa using hj
              · cases hj)
            rw [hlen] at this
            exact this
        · cases h
  | sl0 _ =>
    simp [srcC] at h
    obtain ⟨rfl, rfl⟩ := h
    exact ⟨fun w' => by simp [Builtin.lenOf], #[], by simp, VL.nil, fun w' _ => by simp [Builtin.firstCells, loadCells, loadCellsFrom]⟩
  | string s =>
    simp only [srcC] at h
    split at h
    · rename_i h1
      subst h1
      cases h
      refine ⟨fun w' => by simp [Builtin.lenOf], (bytesV s).toArray, by simp [bytesV], VL.flat_refl (bytesV_flat s), fun w' _ => ?_⟩
      simp only [Builtin.firstCells, Sem.run_pure]
      congr 1
      apply Array.ext'
      simp [bytesV]
    · cases h
  | _ => simp [srcC, Ev.dead] at h

theorem VL.okC_one {xs : List Value} {xs' : Array Value} (h : VL ρ xs xs'.toList) (hok : xs.all okC = true) : ∀ u ∈ xs'.toList, u.oneCell' = true := by
  intro u hu
  obtain ⟨i, hi⟩ := List.mem_iff_getElem?.1 hu
  have hi' : i < xs.length := by
    rw [h.1]; exact (List.getElem?_eq_some_iff.1 hi).1
  obtain ⟨u', hu', hr'⟩ := h.get (i := i) (v := xs[i]) (by simp [hi'])
  rw [hi] at hu'
  cases hu'
  rw [List.all_eq_true] at hok
  exact Ev.okC_one hr' (hok _ (List.getElem_mem hi'))

/-- the row behind an append that found no room -/
theorem grown_block (hS : Sim P ρ H w) (e : TypeId) {ys : List Value} {ys' : Array Value} (hys : VL ρ ys ys'.toList) {n sz cap : Nat} {zc : Array Value} (hz : zc.size = sz) (hl : ys'.size = n * sz) (hc : n ≤ cap) :
    ∃ ρ', Stp P ρ H w ρ' (H.new (.rw ys)) (w.drew.alloc (.cells (ys' ++ Builtin.zeroCells zc (cap - n)) e)) ∧ VR ρ' (.slice (some ⟨H.next, 0, none⟩) n sz) (.slice (some ⟨w.heap.size, 0, none⟩) n cap) := by
  have hS1 : Sim P ρ H w.drew := hS.same rfl
  have hsz : (ys' ++ Builtin.zeroCells zc (cap - n)).size = cap * sz := by
    rw [Array.size_append, size_zeroCells, hl, hz, ← Nat.add_mul]
    congr 1
    omega
  have hC : CellsR ρ ys (ys' ++ Builtin.zeroCells zc (cap - n)) 0 := by
    refine ⟨?_, fun i v hv => ?_⟩
    · have := hys.1
      simp at this
      rw [Array.size_append]
      omega
    · obtain ⟨v', h1, h2⟩ := hys.get hv
      refine ⟨v', ?_, h2⟩
      have hi := (List.getElem?_eq_some_iff.1 h1).1
      rw [Nat.zero_add, Array.getElem?_append_left (by simpa using hi)]
      simpa using h1
  have hst := new_block hS1 e (0, 0) hC (fun o _ => by omega)
  exact ⟨_, (Stp.drew hS).trans hst, new_slice ρ H.next w.heap.size n sz _ cap hc (by rw [hsz]; exact Nat.le_refl _)⟩

set_option maxHeartbeats 1000000 in
theorem appd_sound (hS : Sim P ρ H w) {t u e : TypeId} {ty : TypeId} {sz by_ : Nat} {z : List Value} (ht : sliceT P t = some (e, sz, by_)) (hu : P.underlying u = some .string ∨ ∃ d, P.underlying u = some (.slice d)) (hz : zeroT P e = some z) (hzl : z.length = sz)
    {s x s' x' : Value} (hs : VR ρ s s') (hx : VR ρ x x') {m : Nat} {xs : List Value} (hsrc : srcC sz x H = some (m, xs)) {v : Value} {H' : Hp} (h : appd sz by_ s m xs H = some (v, H')) :
    ∃ ρ' v' w', (Builtin.append_ #[t, u] ty #[s', x']).run P w = .ok v' w' ∧ Stp P ρ H w ρ' H' w' ∧ VR ρ' v v' := by
  obtain ⟨hut, i, hi, hsz, hby⟩ := sliceT_some ht
  obtain ⟨zv, hzr, hzc, hzf⟩ := run_zeroT hz w.drew
  have hzs : zv.cells.size = sz := by rw [← Array.length_toList, hzc, hzl]
  have hsT : sizeT P e = some sz := by rw [size_of_info hi, hsz]
  obtain ⟨hlen, xs', hxl, hxv, hfc⟩ := srcC_sound hS hx hsrc
  have hfc0 := hfc w (fun _ _ => rfl)
  have hfcd := hfc w.drew (fun _ _ => rfl)
  have hzr' : ∀ w', ∃ zv', (zeroValue e).run P w' = .ok zv' w' := fun w' => let ⟨v, h1, _⟩ := run_zeroT hz w'; ⟨v, h1⟩
  -- the run, where there is no room
  have grow : ∀ (base : Option Addr) (n cap : Nat) (old : Array Value), cap < n + m → roomy (n + m) by_ = true → (Builtin.firstCells sz n (.slice base n cap)).run P w.drew = .ok old w.drew →
      (Builtin.append_ #[t, u] ty #[.slice base n cap, x']).run P w = .ok (.slice (some ⟨w.heap.size, 0, none⟩) (n + m) (grownCap w (n + m) cap e))
        (w.drew.alloc (.cells (old ++ xs' ++ Builtin.zeroCells zv.cells (grownCap w (n + m) cap e - (n + m))) e)) := by
    intro base n cap old hlt hroom hold
    obtain ⟨r1, r2⟩ := roomy_fits hroom hlt
    have h1 : ¬ (n + m ≤ cap) := by omega
    have h2 : ¬ (9223372036854775807 < ((n : Int) + (m : Int))) := by omega
    have h3 : ¬ (281474976710656 < Builtin.nextslicecap (n + m) cap * by_) := by omega
    rcases hu with hu | ⟨d, hu⟩ <;> (simp [Builtin.append_, run_underlying hut, run_underlying hu, run_sizeT hsT, typeInfo, hi, hby, hlen, h1, h2, h3, Question.forced, run_askRoom, hold, hfcd, hzr, newRow, grownCap])
  cases hs with
  | snil =>
    simp only [appd] at h
    split at h
    · rename_i h0
      subst h0
      cases h
      refine ⟨ρ, .slice none 0 0, w, ?_, Stp.refl hS, .snil⟩
      rcases hu with hu | ⟨d, hu⟩ <;> (simp [Builtin.append_, run_underlying hut, run_underlying hu, run_sizeT hsT, hlen, hfc0])
    · rename_i h0
      split at h
      · rename_i hc
        cases h
        have hr := grow none 0 0 #[] (by omega) (by rw [Nat.zero_add]; exact hc.1) (by simp [Builtin.firstCells])
        simp only [Nat.zero_add, Array.empty_append] at hr
        obtain ⟨ρ', h1, h2⟩ := grown_block hS e (ys := xs) (ys' := xs') hxv (n := m) hzs hxl (grownCap_ge w m 0 e)
        exact ⟨ρ', _, _, hr, h1, h2⟩
      · cases h
  | @slice b o b' d n c c' hr hc hz2 =>
    simp only [appd] at h
    split at h
    · rename_i hcnd
      obtain ⟨rfl, hl, hroom, hok⟩ := hcnd
      split at h
      · rename_i cs hg
        split at h
        · rename_i hend
          cases h
          obtain ⟨c0, e0, z0, h1, h2, h3, h4⟩ := hS.blk b _ b' d hg hr
          have hgn : Tabs.gn ≤ b := Nat.le_trans hS.gn hl
          have hxlen : xs.length = xs'.size := by rw [hxv.1, Array.length_toList]
          by_cases hfit : n + m ≤ c'
          · -- there is room
            have hbnd : o + d + (n + m) * c ≤ c0.size := by
              have : (n + m) * c ≤ c' * c := Nat.mul_le_mul_right _ hfit
              omega
            rw [Nat.add_mul] at hbnd
            have hone := VL.okC_one hxv hok
            have hrun := run_storeCells_pb (P := P) b' (o + d + n * c) e0 z0 xs'.toList 0 c0 w h1 (by simp; omega) h3 hone
            rw [Nat.add_zero] at hrun
            -- the machine's row, and the evaluator's
            have hcells : CellsR ρ (cs ++ xs) (spliceA c0 (o + d + n * c) xs'.toList) d := by
              refine ⟨by rw [spliceA_size, List.length_append]; omega, fun i v hv => ?_⟩
              have hpad : ∀ (vs : List Value) (a : Array Value) (p : Nat) (j : Nat), p + vs.length ≤ a.size → (spliceA a p vs)[j]? = if p ≤ j ∧ j < p + vs.length then vs[j - p]? else a[j]? := by
                intro vs
                induction vs with
                | nil => intro a p j _; simp [spliceA]; omega
                | cons y vs ih =>
                  intro a p j hp
                  simp only [List.length_cons] at hp
                  simp only [spliceA]
                  rw [ih _ _ _ (by simp; omega)]
                  by_cases hj : p + 1 ≤ j ∧ j < p + 1 + vs.length
                  · rw [if_pos hj, if_pos (by simp; omega)]
                    rw [show j - p = (j - (p + 1)) + 1 by omega, List.getElem?_cons_succ]
                  · rw [if_neg hj, Array.getElem?_setIfInBounds]
                    by_cases hjp : p = j
                    · subst hjp
                      rw [if_pos rfl, if_pos (by omega), if_pos (by simp), Nat.sub_self, List.getElem?_cons_zero]
                    · rw [if_neg hjp, if_neg (by simp; omega)]
              rw [hpad _ _ _ _ (by simp; omega)]
              by_cases hi : i < cs.length
              · rw [List.getElem?_append_left hi] at hv
                rw [if_neg (by omega)]
                exact h2.2 i v hv
              · rw [List.getElem?_append_right (by omega)] at hv
                have hi2 := (List.getElem?_eq_some_iff.1 hv).1
                rw [if_pos (by simp; omega)]
                obtain ⟨v', h5, h6⟩ := hxv.get hv
                refine ⟨v', ?_, h6⟩
                rw [show d + i - (o + d + n * c) = i - cs.length by omega]
                exact h5
            have hb : b' < w.heap.size := (Array.getElem?_eq_some_iff.1 h1).1
            have hnew : (w.pb b' (.cells (spliceA c0 (o + d + n * c) xs'.toList) e0 z0)).heap[b']? = some (.cells (spliceA c0 (o + d + n * c) xs'.toList) e0 z0) := by rw [World.pb_get]; simp [hb]
            have hput : Stp P ρ H w ρ (H.set b (.rw (cs ++ xs))) (w.pb b' (.cells (spliceA c0 (o + d + n * c) xs'.toList) e0 z0)) :=
              hS.put (x' := .rw (cs ++ xs)) hg rfl hl hr ⟨_, e0, z0, hnew, hcells, fun i hi => h3 i (by rwa [spliceA_size] at hi), by rw [spliceA_size]; exact h4⟩
            have had := hput.sim.adopt (i := b) (x := .rw (cs ++ xs)) (d' := d + o) (y := .rw (cs.drop o ++ xs)) (by simp) rfl hl hr
              ⟨_, e0, z0, hnew, by
                refine ⟨by have := hcells.1; rw [List.length_append] at this ⊢; rw [List.length_drop]; omega, fun i v hv => ?_⟩
                have hv' : (cs ++ xs)[o + i]? = some v := by
                  rw [← List.getElem?_drop, List.drop_append_of_le_length (by omega)]
                  exact hv
                obtain ⟨v', h5, h6⟩ := hcells.2 (o + i) v hv'
                exact ⟨v', by rw [show d + o + i = d + (o + i) by omega]; exact h5, h6⟩, fun i hi => h3 i (by rwa [spliceA_size] at hi), by rw [spliceA_size]; exact h4⟩
            have hall := (hput.trans had).congr (H2 := (H.del b).new (.rw (cs.drop o ++ xs))) (fun i => by
              simp only [Hp.get_new, Hp.next_del, Hp.next_set, Hp.get_del _ hgn, Hp.get_set]
              by_cases e1 : i = H.next
              · simp [e1]
              · by_cases e2 : i = b <;> simp [e1, e2]) rfl rfl
            refine ⟨_, .slice (some ⟨b', o + d, none⟩) (n + m) c', _, ?_, hall, ?_⟩
            · rcases hu with hu | ⟨d, hu⟩ <;> (simp [Builtin.append_, run_underlying hut, run_underlying hu, run_sizeT hsT, hlen, hfit, hfc0, add_none, hrun])
            · have h5 : (ρ.ad H.next (b', d + o)) H.next = some (b', d + o) := by simp [Ren.ad]
              have := VR.slice (ρ := ρ.ad H.next (b', d + o)) (o := 0) (n := n + m) (c := c) (c' := c') h5 hfit (by show 0 + (d + o) + c' * c ≤ ρ.sz b'; omega)
              rwa [show 0 + (d + o) = o + d by omega] at this
          · -- there is none
            have hold : (Builtin.firstCells c n (.slice (some ⟨b', o + d, none⟩) n c')).run P w.drew = .ok ((c0.toList.drop (o + d)).take (n * c)).toArray w.drew := by
              have hlen2 : ((c0.toList.drop (o + d)).take (n * c)).length = n * c := by have := h2.1; simp; omega
              have := run_loadCells_list (P := P) w.drew ⟨b', o + d, none⟩ ((c0.toList.drop (o + d)).take (n * c)) (fun j v hj => by
                rw [add_none, cell?_of (w := w.drew) h1]
                rw [List.getElem?_take] at hj
                split at hj
                · simpa using hj
                · cases hj)
              rw [hlen2] at this
              exact this
            have hrn := grow (some ⟨b', o + d, none⟩) n c' _ (by omega) hroom hold
            have hdel := hS.del hl
            have hys : VL ρ (cs.drop o ++ xs) (((c0.toList.drop (o + d)).take (n * c)).toArray ++ xs').toList := by
              rw [Array.toList_append]
              refine VL.append (VL.of_get (by have := h2.1; simp; omega) fun i u u' hu hu' => ?_) hxv
              rw [List.getElem?_drop] at hu
              obtain ⟨v', h5, h6⟩ := h2.2 (o + i) u hu
              have hi := (List.getElem?_eq_some_iff.1 hu).1
              rw [List.getElem?_take, if_pos (by omega), List.getElem?_drop, Array.getElem?_toList, show o + d + i = d + (o + i) by omega, h5] at hu'
              cases hu'
              exact h6
            obtain ⟨ρ', h5, h6⟩ := grown_block hdel.sim e (ys := cs.drop o ++ xs) hys (n := n + m) (cap := grownCap w (n + m) c' e) hzs (by have := h2.1; simp [Nat.add_mul]; omega) (grownCap_ge w (n + m) c' e)
            exact ⟨ρ', _, _, hrn, hdel.trans h5, h6⟩
        · cases h
      · cases h
    · cases h
  | @sl0 b o b' o' d c hr =>
    simp only [appd] at h
    split at h
    · rename_i hcnd
      obtain ⟨rfl, hl, hroom, hok⟩ := hcnd
      split at h
      · rename_i cs hg
        split at h
        · rename_i hend
          cases h
          have hdel := hS.del hl
          have e0 : cs.drop o = [] := by rw [List.drop_eq_nil_iff]; omega
          by_cases h0 : m = 0
          · subst h0
            have e1 : xs = [] := by
              have := hxv.1
              simp at this
              exact List.eq_nil_of_length_eq_zero (by omega)
            obtain ⟨c0, e1', z0, h1, h2, h3, h4⟩ := hS.blk b _ b' d hg hr
            have had := hS.adopt (d' := d) (y := .rw (cs.drop o ++ xs)) hg rfl hl hr ⟨c0, e1', z0, h1, ⟨by rw [e0, e1]; have := h2.1; simp; omega, fun i v hv => by rw [e0, e1] at hv; simp at hv⟩, h3, h4⟩
            refine ⟨_, .slice (some ⟨b', o', none⟩) 0 0, w, ?_, had, ?_⟩
            · have e2 : xs'.size = 0 := by omega
              have e2 : xs' = #[] := by simpa using e2
              rcases hu with hu | ⟨d, hu⟩ <;> (simp [Builtin.append_, run_underlying hut, run_underlying hu, run_sizeT hsT, hlen, hfc0, e2, storeCells])
            · have h5 : (ρ.ad H.next (b', d)) H.next = some (b', d) := by simp [Ren.ad]
              exact .sl0 h5
          · have hrn := grow (some ⟨b', o', none⟩) 0 0 #[] (by omega) hroom (by simp [Builtin.firstCells, loadCells, loadCellsFrom])
            simp only [Nat.zero_add, Array.empty_append] at hrn
            obtain ⟨ρ', h5, h6⟩ := grown_block hdel.sim e (ys := cs.drop o ++ xs) (ys' := xs') (by rw [e0]; exact hxv) (n := m) hzs hxl (grownCap_ge w m 0 e)
            exact ⟨ρ', _, _, hrn, hdel.trans h5, by simpa using h6⟩
        · cases h
      · cases h
    · cases h
  | _ => simp [appd, Ev.dead] at h
end Go.Ev
