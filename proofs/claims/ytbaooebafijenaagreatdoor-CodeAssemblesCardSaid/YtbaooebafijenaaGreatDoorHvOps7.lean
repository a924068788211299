/- What the machine does at an operation, held against the evaluator: maps, values behind interfaces, the greater and the smaller. -/
import Derived.Test.YtbaooebafijenaaGreatDoorHvOps4
import Derived.Laws.AppendOwn
set_option linter.unusedSimpArgs false
namespace Go.Ev
open Go
set_option linter.unusedSectionVars false
variable [Tabs]
variable {P : Program} {ρ : Ren} {H : Hp} {w : World}
theorem Sim.congr {H' : Hp} (h : Sim P ρ H w) (hg : ∀ i, H'.get i = H.get i) (hn : H'.next = H.next) (hl : H'.lim = H.lim) : Sim P ρ H' w where
 blk := fun i x b d hx hr => h.blk i x b d (by rw [← hg]; exact hx) hr
 sep := fun i j b d b2 d2 ⟨h1, x, h2, h3⟩ ⟨y, hy⟩ => h.sep i j b d b2 d2 ⟨hl ▸ h1, x, by rw [← hg]; exact h2, h3⟩ ⟨y, by rw [← hg]; exact hy⟩
 low := fun i b d hr => by rw [hn]; exact h.low i b d hr
 lim := by rw [hn, hl]; exact h.lim
 glob := h.glob
 gn := by rw [hl]; exact h.gn
 flr := fun i hi => by rw [hg]; exact h.flr i hi
 gg := h.gg
 tab := h.tab
theorem Stp.congr {ρ' : Ren} {H' H2 : Hp} {w' : World} (h : Stp P ρ H w ρ' H' w') (hg : ∀ i, H2.get i = H'.get i) (hn : H2.next = H'.next) (hl : H2.lim = H'.lim) : Stp P ρ H w ρ' H2 w' where
 sim := h.sim.congr hg hn hl
 ext := h.ext
 keep := h.keep
 size := h.size
 own := fun i b d hw => h.own i b d (hw.imp (fun ⟨h1, x, h2, h3⟩ => ⟨hl ▸ h1, x, by rw [← hg]; exact h2, h3⟩) id)
 old := h.old
 fix := fun i hi => (hg i).trans (h.fix i hi)
 lim := hl.trans h.lim
 next := by rw [hn]; exact h.next
 tape := h.tape
 os := h.os
 out := h.out
theorem Sim.del (h : Sim P ρ H w) {b : Nat} (hb : H.lim ≤ b) : Stp P ρ H w ρ (H.del b) w := by
 have hgn : Tabs.gn ≤ b := Nat.le_trans h.gn hb
 have hsome : ∀ {i x}, (H.del b).get i = some x → H.get i = some x := fun {i x} hx => by
   rw [Hp.get_del H hgn] at hx
   split at hx
   · cases hx
   · exact hx
 have hwr : ∀ {i}, wr (H.del b) i → wr H i := fun {i} ⟨h1, x, h2, h3⟩ => ⟨h1, x, hsome h2, h3⟩
 refine ⟨⟨fun i x c d hx hr => h.blk i x c d (hsome hx) hr, fun i j c d c2 d2 hi ⟨y, hy⟩ => h.sep i j c d c2 d2 (hwr hi) ⟨y, hsome hy⟩, h.low, h.lim, h.glob, h.gn, fun i hi => ?_, h.gg, h.tab⟩, Ren.le_refl ρ, fun _ _ _ => rfl, Nat.le_refl _,
   fun i c d hw hr _ => h.own_refl (hw.imp hwr id) hr, fun _ _ hp _ => hp, fun i hi => ?_, rfl, Nat.le_refl _, rfl, rfl, rfl⟩
 · have := h.gn
   rw [Hp.get_del H hgn, if_neg (by omega)]
   exact h.flr i hi
 · rw [Hp.get_del H hgn, if_neg (by omega)]
theorem rep_length (n : Nat) (z : List Value) : (rep n z).length = n * z.length := by simp [rep]
theorem rep_get (z : List Value) : ∀ (n i : Nat), i < n * z.length → (rep n z)[i]? = z[i % z.length]?
 | 0, i, h => by simp at h
 | n + 1, i, h => by
   have e : rep (n + 1) z = z ++ rep n z := by simp [rep, List.replicate_succ]
   rw [e]
   by_cases hi : i < z.length
   · rw [List.getElem?_append_left hi, Nat.mod_eq_of_lt hi]
   · have hi' : z.length ≤ i := by omega
     rw [List.getElem?_append_right hi', rep_get z n (i - z.length) (by rw [Nat.add_mul] at h; omega)]
     congr 1
     conv => rhs; rw [← Nat.sub_add_cancel hi', Nat.add_mod_right]
theorem zeros_get {z : Array Value} {n i : Nat} (h0 : 0 < z.size) (hi : i < n) : ((Array.range n).map (z[· % z.size]!))[i]? = z[i % z.size]? := by
 have hm : i % z.size < z.size := Nat.mod_lt _ h0
 simp [hi, hm]
theorem zeros_CellsR {zv : Array Value} {z : List Value} (hz : zv.toList = z) (hf : z.all (flatN 3) = true) {sz l c : Nat} (hs : z.length = sz) (hlc : l ≤ c) (n : Nat) (hn : n = c * sz) (x : Array Value) (hx : n ≠ 0 → x = zv) :
   CellsR ρ (rep l z) ((Array.range n).map (x[· % x.size]!)) 0 := by
 have hle : l * sz ≤ c * sz := Nat.mul_le_mul_right _ hlc
 refine ⟨by simp [rep_length, hs]; omega, fun i v hv => ?_⟩
 have hi : i < l * z.length := by
   have := (List.getElem?_eq_some_iff.1 hv).1
   rwa [rep_length] at this
 rw [hs] at hi
 have hn0 : n ≠ 0 := by omega
 rw [hx hn0]
 have hsz : zv.size = sz := by rw [← Array.length_toList, hz, hs]
 have h0 : 0 < zv.size := by
   rcases Nat.eq_zero_or_pos zv.size with h | h
   · rw [hsz] at h; subst h; omega
   · exact h
 rw [rep_get z l i (by rw [hs]; exact hi)] at hv
 refine ⟨v, ?_, VR.flatN_refl 3 v (List.all_eq_true.1 hf v (List.mem_of_getElem? hv))⟩
 rw [Nat.zero_add, zeros_get h0 (by omega), hsz, ← hs]
 rw [← Array.getElem?_toList, hz]
 exact hv
theorem sliceT_some {t e : TypeId} {sz by_ : Nat} (h : sliceT P t = some (e, sz, by_)) : P.underlying t = some (.slice e) ∧ ∃ i, P.info? e = some i ∧ i.size = sz ∧ i.bytes = by_ := by
 unfold sliceT at h
 cases hu : P.underlying t with
 | none => simp [hu] at h
 | some d =>
   cases d <;> simp only [hu] at h <;> try cases h
   rename_i e'
   cases hi : P.info? e' with
   | none => simp [hi] at h
   | some i => simp [hi] at h; obtain ⟨rfl, rfl, rfl⟩ := h; exact ⟨rfl, i, hi, rfl, rfl⟩
theorem size_of_info {e : TypeId} {i : TypeInfo} (h : P.info? e = some i) : sizeT P e = some i.size := by simp [sizeT, h]
theorem run_askRoom (n : Nat) (w : World) : (askRoom n).run P w = .ok () w := by
 unfold askRoom
 split <;> simp [mark, Sem.run]
theorem buildSlice_sound (hS : Sim P ρ H w) {t e : TypeId} {sz by_ len : Nat} {z : List Value} (ht : sliceT P t = some (e, sz, by_)) (hz : zeroT P e = some z) (hl : len * sz ≤ 4096) (hzl : z.length = sz)
   {parts parts' : List (Nat × Value)} (hpl : parts.length = parts'.length) (hv : ∀ (i : Nat) (x x' : Nat × Value), parts[i]? = some x → parts'[i]? = some x' → x.1 = x'.1 ∧ VR ρ x.2 x'.2) {cs : List Value}
   (h : fillL (plA sz) (rep len z) parts = some cs) :
   ∃ ρ' v' w', (Instr.buildSlice t len parts'.toArray).run P w = .ok v' w' ∧ Stp P ρ H w ρ' (H.new (.rw cs)) w' ∧ VR ρ' (.slice (some ⟨H.next, 0, none⟩) len sz) v' := by
 obtain ⟨hu, i, hi, hsz, hby⟩ := sliceT_some ht
 obtain ⟨zv, hzr, hzc, hzf⟩ := run_zeroT hz w
 have hsT : sizeT P e = some sz := by rw [size_of_info hi, hsz]
 have hbig : ¬ (len * sz > 2 ^ 24) := by omega
 have key : ∀ x : Array Value, (len * sz ≠ 0 → x = zv.cells) → ∃ r', Instr.fill (fun i => some (i * sz, sz)) ((Array.range (len * sz)).map (x[· % x.size]!)) parts' = some r' ∧ VL ρ cs r'.toList := by
   intro x hx
   have hC : CellsR ρ (rep len z) ((Array.range (len * sz)).map (x[· % x.size]!)) 0 := zeros_CellsR hzc hzf hzl (Nat.le_refl len) _ rfl x hx
   have hlen : (rep len z).length = len * sz := by rw [rep_length, hzl]
   have hVL : VL ρ (rep len z) ((Array.range (len * sz)).map (x[· % x.size]!)).toList := by
     refine VL.of_get (by simp [hlen]) fun j u u' hu1 hu2 => ?_
     obtain ⟨u2, h1, h2⟩ := hC.2 j u hu1
     rw [Nat.zero_add, ← Array.getElem?_toList, hu2] at h1
     cases h1; exact h2
   exact fillL_sound (pl' := fun i => some (i * sz, sz)) (fun i p hp => hp) parts parts' (rep len z) cs _ hVL hpl hv h
 have fin : ∀ (r' : Array Value), VL ρ cs r'.toList → ∃ ρ', Stp P ρ H w ρ' (H.new (.rw cs)) (w.alloc (.cells r' e)) ∧ VR ρ' (.slice (some ⟨H.next, 0, none⟩) len sz) (.slice (some ⟨w.heap.size, 0, none⟩) len len) := by
   intro r' hr
   have hst := new_block hS e (0, 0) (CellsR.of_VL hr) (fun o _ => by omega)
   refine ⟨_, hst, new_slice ρ H.next w.heap.size len sz r'.size len (Nat.le_refl _) ?_⟩
   have h1 := hr.1
   have h2 : cs.length = len * sz := by
     have : ∀ (parts : List (Nat × Value)) (c r : List Value), fillL (plA sz) c parts = some r → r.length = c.length := by
       intro parts
       induction parts with
       | nil => intro c r h; simp [fillL] at h; rw [h]
       | cons p ps ih =>
         obtain ⟨i, v⟩ := p
         intro c r h
         simp only [fillL, plA] at h
         cases hb : bx v with
         | none => simp [hb] at h
         | some vs =>
           simp only [hb, Option.bind_some] at h
           split at h
           · rw [ih _ _ h, splice_length]
           · cases h
     rw [this _ _ _ h, rep_length, hzl]
   have h3 : r'.toList.length = r'.size := Array.length_toList
   omega
 by_cases h0 : len * sz = 0
 · obtain ⟨r', h1, h2⟩ := key #[] (fun hn => absurd h0 hn)
   obtain ⟨ρ', h3, h4⟩ := fin r' h2
   refine ⟨ρ', _, _, ?_, h3, h4⟩
   have h00 : ¬ (0 > 2 ^ 24) := by decide
   simp only [Instr.buildSlice, Sem.run_bind, run_underlying hu, Result.andThen_ok, run_sizeT hsT, h0, h00, if_false, if_true, Sem.run_pure]
   rw [h0] at h1
   rw [h1]
   simp [newRow]
 · obtain ⟨r', h1, h2⟩ := key zv.cells (fun _ => rfl)
   obtain ⟨ρ', h3, h4⟩ := fin r' h2
   refine ⟨ρ', _, _, ?_, h3, h4⟩
   simp only [Instr.buildSlice, Sem.run_bind, run_underlying hu, Result.andThen_ok, run_sizeT hsT, hbig, if_false, h0, Sem.run_pure, hzr]
   rw [h1]
   simp [newRow]
theorem mkS_sound (hS : Sim P ρ H w) {t e : TypeId} {sz by_ : Nat} {z : List Value} (ht : sliceT P t = some (e, sz, by_)) (hz : zeroT P e = some z) (hzl : z.length = sz) {l c l' c' v : Value} {H' : Hp} (hl : VR ρ l l') (hc : VR ρ c c')
   (h : mkS sz by_ z l c H = some (v, H')) : ∃ ρ' v' w', (Instr.makeSlice t l' c').run P w = .ok v' w' ∧ Stp P ρ H w ρ' H' w' ∧ VR ρ' v v' := by
 obtain ⟨hu, i, hi, hsz, hby⟩ := sliceT_some ht
 obtain ⟨zv, hzr, hzc, hzf⟩ := run_zeroT hz w
 have hsT : sizeT P e = some sz := by rw [size_of_info hi, hsz]
 cases hl with
 | int k1 l =>
   cases hc with
   | int k2 c =>
     simp only [mkS] at h
     split at h
     · rename_i hcnd
       obtain ⟨h0, h1, h2, h3⟩ := hcnd
       cases h
       have el : IntKind.i64.wrap l = l := by simp [IntKind.wrap, IntKind.bits, IntKind.signed]; omega
       have ec : IntKind.i64.wrap c = c := by simp [IntKind.wrap, IntKind.bits, IntKind.signed]; omega
       have hb : (by_ : Int) * c ≤ 281474976710656 := by
         have h4 : (by_ : Int) * c ≤ 256 * c := Int.mul_le_mul_of_nonneg_right (by omega) (by omega)
         omega
       have hcl : l.toNat ≤ c.toNat := by omega
       have mach : ∀ x : Array Value, (c.toNat * sz ≠ 0 → x = zv.cells) → Stp P ρ H w (ρ.up H.next (w.heap.size, 0) ((Array.range (c.toNat * sz)).map (x[· % x.size]!)).size) (H.new (.rw (rep l.toNat z))) (w.alloc (.cells ((Array.range (c.toNat * sz)).map (x[· % x.size]!)) e)) ∧
           VR (ρ.up H.next (w.heap.size, 0) ((Array.range (c.toNat * sz)).map (x[· % x.size]!)).size) (.slice (some ⟨H.next, 0, none⟩) l.toNat sz) (.slice (some ⟨w.heap.size, 0, none⟩) l.toNat c.toNat) := by
         intro x hx
         refine ⟨new_block hS e (0, 0) (zeros_CellsR hzc hzf hzl hcl _ rfl x hx) (fun o _ => by omega), new_slice ρ H.next w.heap.size _ sz _ _ hcl (by simp)⟩
       have c1 : ¬ (c < 0) := by omega
       have c2 : ¬ (281474976710656 < (by_ : Int) * c) := by omega
       have c3 : ¬ (l < 0) := by omega
       have c4 : ¬ (c < l) := by omega
       by_cases hn : c.toNat * sz = 0
       · obtain ⟨h5, h6⟩ := mach #[] (fun h => absurd hn h)
         refine ⟨_, _, _, ?_, h5, h6⟩
         simp [Instr.makeSlice, run_underlying hu, asInt, asIntOf, typeInfo, hi, hby, el, ec, c1, c2, c3, c4, run_askRoom, run_sizeT hsT, hn, newRow]
       · obtain ⟨h5, h6⟩ := mach zv.cells (fun _ => rfl)
         refine ⟨_, _, _, ?_, h5, h6⟩
         simp [Instr.makeSlice, run_underlying hu, asInt, asIntOf, typeInfo, hi, hby, el, ec, c1, c2, c3, c4, run_askRoom, run_sizeT hsT, hn, newRow, hzr]
     · cases h
   | _ => simp [mkS, Ev.dead] at h
 | _ => simp [mkS, Ev.dead] at h
end Go.Ev
set_option linter.unusedSimpArgs false
namespace Go.Ev
open Go
set_option linter.unusedSectionVars false
variable [Tabs]
variable {P : Program} {ρ : Ren} {H : Hp} {w : World}
theorem roomy_fits {n c by_ : Nat} (h : roomy n by_ = true) (hc : c < n) : Builtin.nextslicecap n c * by_ ≤ 281474976710656 ∧ n ≤ 9223372036854775807 := by
 simp only [roomy, decide_eq_true_eq] at h
 refine ⟨Nat.le_trans (Nat.mul_le_mul_right _ ?_) h.1, h.2⟩
 unfold Builtin.nextslicecap
 split
 · omega
 · split
   · omega
   · have grow : ∀ (r c : Nat), c < n + n → Builtin.growBy n r c ≤ 2 * n + 192 := by
       intro r
       induction r with
       | zero => intro c hc; simp [Builtin.growBy]; omega
       | succ r ih =>
         intro c hc
         simp only [Builtin.growBy]
         split
         · omega
         · rename_i hlt
           by_cases h2 : c + (c + 768) / 4 < n + n
           · exact ih _ h2
           · have : ∀ r, Builtin.growBy n r (c + (c + 768) / 4) = c + (c + 768) / 4 := by
               intro r
               cases r with
               | zero => rfl
               | succ r => simp only [Builtin.growBy]; rw [if_pos (by omega)]
             rw [this]
             omega
     exact grow 4 c (by omega)
theorem srcC_sound (hS : Sim P ρ H w) {sz : Nat} {x x' : Value} (hx : VR ρ x x') {m : Nat} {xs : List Value} (h : srcC sz x H = some (m, xs)) :
   (∀ w', (Builtin.lenOf x').run P w' = .ok m w') ∧ ∃ xs' : Array Value, xs'.size = m * sz ∧ VL ρ xs xs'.toList ∧ ∀ w' : World, (∀ b, b < w.heap.size → w'.heap[b]? = w.heap[b]?) → (Builtin.firstCells sz m x').run P w' = .ok xs' w' := by
 cases hx with
 | snil =>
   simp [srcC] at h
   obtain ⟨rfl, rfl⟩ := h
   exact ⟨fun w' => by simp [Builtin.lenOf], #[], by simp, VL.nil, fun w' _ => by simp [Builtin.firstCells]⟩
 | @slice b o b' d n c c' hr hc hz =>
   simp only [srcC] at h
   split at h
   · rename_i h0
     simp only [Option.some.injEq, Prod.mk.injEq] at h
     obtain ⟨rfl, rfl⟩ := h
     exact ⟨fun w' => by simp [Builtin.lenOf, h0], #[], by simp, VL.nil, fun w' _ => by simp [Builtin.firstCells, loadCells, loadCellsFrom]⟩
   · cases hcc : H.cells b with
     | none => simp [hcc] at h
     | some cs =>
       simp only [hcc, Option.bind_some] at h
       split at h
       · rename_i hle
         simp only [Option.some.injEq, Prod.mk.injEq] at h
         obtain ⟨rfl, rfl⟩ := h
         refine ⟨fun w' => by simp [Builtin.lenOf], ?_⟩
         obtain ⟨c0, e, z, h1, h2, h3⟩ := hS.cells hcc hr
         have hlen : ((c0.toList.drop (o + d)).take (n * sz)).length = n * sz := by simp; omega
         refine ⟨((c0.toList.drop (o + d)).take (n * sz)).toArray, by simpa using hlen, VL.of_get (by simp; omega) fun i u u' hu hu' => ?_, fun w' hw' => ?_⟩
         · rw [List.getElem?_take] at hu
           split at hu
           · rename_i hi
             rw [List.getElem?_drop] at hu
             obtain ⟨v', h4, h5⟩ := h3 (o + i) u hu
             simp only [List.getElem?_toArray, Array.getElem?_toList] at hu'
             rw [List.getElem?_take, if_pos hi, List.getElem?_drop, Array.getElem?_toList, show o + d + i = d + (o + i) by omega, h4] at hu'
             cases hu'
             exact h5
           · cases hu
         · have hb : b' < w.heap.size := (Array.getElem?_eq_some_iff.1 h1).1
           have h1' : w'.heap[b']? = some (.cells c0 e z) := (hw' b' hb).trans h1
           have := run_loadCells_list (P := P) w' ⟨b', o + d, none⟩ ((c0.toList.drop (o + d)).take (n * sz)) (fun j v hj => by
             rw [add_none, cell?_of h1']
             rw [List.getElem?_take] at hj
             split at hj
             · simpa using hj
             · cases hj)
           rw [hlen] at this
           exact this
       · cases h
 | sl0 _ =>
   simp [srcC] at h
   obtain ⟨rfl, rfl⟩ := h
   exact ⟨fun w' => by simp [Builtin.lenOf], #[], by simp, VL.nil, fun w' _ => by simp [Builtin.firstCells, loadCells, loadCellsFrom]⟩
 | string s =>
   simp only [srcC] at h
   split at h
   · rename_i h1
     subst h1
     cases h
     refine ⟨fun w' => by simp [Builtin.lenOf], (bytesV s).toArray, by simp [bytesV], VL.flat_refl (bytesV_flat s), fun w' _ => ?_⟩
     simp only [Builtin.firstCells, Sem.run_pure]
     congr 1
     apply Array.ext'
     simp [bytesV]
   · cases h
 | _ => simp [srcC, Ev.dead] at h
theorem VL.okC_one {xs : List Value} {xs' : Array Value} (h : VL ρ xs xs'.toList) (hok : xs.all okC = true) : ∀ u ∈ xs'.toList, u.oneCell' = true := by
 intro u hu
 obtain ⟨i, hi⟩ := List.mem_iff_getElem?.1 hu
 have hi' : i < xs.length := by
   rw [h.1]; exact (List.getElem?_eq_some_iff.1 hi).1
 obtain ⟨u', hu', hr'⟩ := h.get (i := i) (v := xs[i]) (by simp [hi'])
 rw [hi] at hu'
 cases hu'
 rw [List.all_eq_true] at hok
 exact Ev.okC_one hr' (hok _ (List.getElem_mem hi'))
theorem grown_block (hS : Sim P ρ H w) (e : TypeId) {ys : List Value} {ys' : Array Value} (hys : VL ρ ys ys'.toList) {n sz cap : Nat} {zc : Array Value} (hz : zc.size = sz) (hl : ys'.size = n * sz) (hc : n ≤ cap) :
   ∃ ρ', Stp P ρ H w ρ' (H.new (.rw ys)) (w.drew.alloc (.cells (ys' ++ Builtin.zeroCells zc (cap - n)) e)) ∧ VR ρ' (.slice (some ⟨H.next, 0, none⟩) n sz) (.slice (some ⟨w.heap.size, 0, none⟩) n cap) := by
 have hS1 : Sim P ρ H w.drew := hS.same rfl
 have hsz : (ys' ++ Builtin.zeroCells zc (cap - n)).size = cap * sz := by
   rw [Array.size_append, size_zeroCells, hl, hz, ← Nat.add_mul]
   congr 1
   omega
 have hC : CellsR ρ ys (ys' ++ Builtin.zeroCells zc (cap - n)) 0 := by
   refine ⟨?_, fun i v hv => ?_⟩
   · have := hys.1
     simp at this
     rw [Array.size_append]
     omega
   · obtain ⟨v', h1, h2⟩ := hys.get hv
     refine ⟨v', ?_, h2⟩
     have hi := (List.getElem?_eq_some_iff.1 h1).1
     rw [Nat.zero_add, Array.getElem?_append_left (by simpa using hi)]
     simpa using h1
 have hst := new_block hS1 e (0, 0) hC (fun o _ => by omega)
 exact ⟨_, (Stp.drew hS).trans hst, new_slice ρ H.next w.heap.size n sz _ cap hc (by rw [hsz]; exact Nat.le_refl _)⟩
set_option maxHeartbeats 1000000 in
theorem appd_sound (hS : Sim P ρ H w) {t u e : TypeId} {ty : TypeId} {sz by_ : Nat} {z : List Value} (ht : sliceT P t = some (e, sz, by_)) (hu : P.underlying u = some .string ∨ ∃ d, P.underlying u = some (.slice d)) (hz : zeroT P e = some z) (hzl : z.length = sz)
   {s x s' x' : Value} (hs : VR ρ s s') (hx : VR ρ x x') {m : Nat} {xs : List Value} (hsrc : srcC sz x H = some (m, xs)) {v : Value} {H' : Hp} (h : appd sz by_ s m xs H = some (v, H')) :
   ∃ ρ' v' w', (Builtin.append_ #[t, u] ty #[s', x']).run P w = .ok v' w' ∧ Stp P ρ H w ρ' H' w' ∧ VR ρ' v v' := by
 obtain ⟨hut, i, hi, hsz, hby⟩ := sliceT_some ht
 obtain ⟨zv, hzr, hzc, hzf⟩ := run_zeroT hz w.drew
 have hzs : zv.cells.size = sz := by rw [← Array.length_toList, hzc, hzl]
 have hsT : sizeT P e = some sz := by rw [size_of_info hi, hsz]
 obtain ⟨hlen, xs', hxl, hxv, hfc⟩ := srcC_sound hS hx hsrc
 have hfc0 := hfc w (fun _ _ => rfl)
 have hfcd := hfc w.drew (fun _ _ => rfl)
 have hzr' : ∀ w', ∃ zv', (zeroValue e).run P w' = .ok zv' w' := fun w' => let ⟨v, h1, _⟩ := run_zeroT hz w'; ⟨v, h1⟩
 have grow : ∀ (base : Option Addr) (n cap : Nat) (old : Array Value), cap < n + m → roomy (n + m) by_ = true → (Builtin.firstCells sz n (.slice base n cap)).run P w.drew = .ok old w.drew →
     (Builtin.append_ #[t, u] ty #[.slice base n cap, x']).run P w = .ok (.slice (some ⟨w.heap.size, 0, none⟩) (n + m) (grownCap w (n + m) cap e))
       (w.drew.alloc (.cells (old ++ xs' ++ Builtin.zeroCells zv.cells (grownCap w (n + m) cap e - (n + m))) e)) := by
   intro base n cap old hlt hroom hold
   obtain ⟨r1, r2⟩ := roomy_fits hroom hlt
   have h1 : ¬ (n + m ≤ cap) := by omega
   have h2 : ¬ (9223372036854775807 < ((n : Int) + (m : Int))) := by omega
   have h3 : ¬ (281474976710656 < Builtin.nextslicecap (n + m) cap * by_) := by omega
   rcases hu with hu | ⟨d, hu⟩ <;> (simp [Builtin.append_, run_underlying hut, run_underlying hu, run_sizeT hsT, typeInfo, hi, hby, hlen, h1, h2, h3, Question.forced, run_askRoom, hold, hfcd, hzr, newRow, grownCap])
 cases hs with
 | snil =>
   simp only [appd] at h
   split at h
   · rename_i h0
     subst h0
     cases h
     refine ⟨ρ, .slice none 0 0, w, ?_, Stp.refl hS, .snil⟩
     rcases hu with hu | ⟨d, hu⟩ <;> (simp [Builtin.append_, run_underlying hut, run_underlying hu, run_sizeT hsT, hlen, hfc0])
   · rename_i h0
     split at h
     · rename_i hc
       cases h
       have hr := grow none 0 0 #[] (by omega) (by rw [Nat.zero_add]; exact hc.1) (by simp [Builtin.firstCells])
       simp only [Nat.zero_add, Array.empty_append] at hr
       obtain ⟨ρ', h1, h2⟩ := grown_block hS e (ys := xs) (ys' := xs') hxv (n := m) hzs hxl (grownCap_ge w m 0 e)
       exact ⟨ρ', _, _, hr, h1, h2⟩
     · cases h
 | @slice b o b' d n c c' hr hc hz2 =>
   simp only [appd] at h
   split at h
   · rename_i hcnd
     obtain ⟨rfl, hl, hroom, hok⟩ := hcnd
     split at h
     · rename_i cs hg
       split at h
       · rename_i hend
         cases h
         obtain ⟨c0, e0, z0, h1, h2, h3, h4⟩ := hS.blk b _ b' d hg hr
         have hgn : Tabs.gn ≤ b := Nat.le_trans hS.gn hl
         have hxlen : xs.length = xs'.size := by rw [hxv.1, Array.length_toList]
         by_cases hfit : n + m ≤ c'
         · -- there is room
           have hbnd : o + d + (n + m) * c ≤ c0.size := by
             have : (n + m) * c ≤ c' * c := Nat.mul_le_mul_right _ hfit
             omega
           rw [Nat.add_mul] at hbnd
           have hone := VL.okC_one hxv hok
           have hrun := run_storeCells_pb (P := P) b' (o + d + n * c) e0 z0 xs'.toList 0 c0 w h1 (by simp; omega) h3 hone
           rw [Nat.add_zero] at hrun
           have hcells : CellsR ρ (cs ++ xs) (spliceA c0 (o + d + n * c) xs'.toList) d := by
             refine ⟨by rw [spliceA_size, List.length_append]; omega, fun i v hv => ?_⟩
             have hpad : ∀ (vs : List Value) (a : Array Value) (p : Nat) (j : Nat), p + vs.length ≤ a.size → (spliceA a p vs)[j]? = if p ≤ j ∧ j < p + vs.length then vs[j - p]? else a[j]? := by
               intro vs
               induction vs with
               | nil => intro a p j _; simp [spliceA]; omega
               | cons y vs ih =>
                 intro a p j hp
                 simp only [List.length_cons] at hp
                 simp only [spliceA]
                 rw [ih _ _ _ (by simp; omega)]
                 by_cases hj : p + 1 ≤ j ∧ j < p + 1 + vs.length
                 · rw [if_pos hj, if_pos (by simp; omega)]
                   rw [show j - p = (j - (p + 1)) + 1 by omega, List.getElem?_cons_succ]
                 · rw [if_neg hj, Array.getElem?_setIfInBounds]
                   by_cases hjp : p = j
                   · subst hjp
                     rw [if_pos rfl, if_pos (by omega), if_pos (by simp), Nat.sub_self, List.getElem?_cons_zero]
                   · rw [if_neg hjp, if_neg (by simp; omega)]
             rw [hpad _ _ _ _ (by simp; omega)]
             by_cases hi : i < cs.length
             · rw [List.getElem?_append_left hi] at hv
               rw [if_neg (by omega)]
               exact h2.2 i v hv
             · rw [List.getElem?_append_right (by omega)] at hv
               have hi2 := (List.getElem?_eq_some_iff.1 hv).1
               rw [if_pos (by simp; omega)]
               obtain ⟨v', h5, h6⟩ := hxv.get hv
               refine ⟨v', ?_, h6⟩
               rw [show d + i - (o + d + n * c) = i - cs.length by omega]
               exact h5
           have hb : b' < w.heap.size := (Array.getElem?_eq_some_iff.1 h1).1
           have hnew : (w.pb b' (.cells (spliceA c0 (o + d + n * c) xs'.toList) e0 z0)).heap[b']? = some (.cells (spliceA c0 (o + d + n * c) xs'.toList) e0 z0) := by rw [World.pb_get]; simp [hb]
           have hput : Stp P ρ H w ρ (H.set b (.rw (cs ++ xs))) (w.pb b' (.cells (spliceA c0 (o + d + n * c) xs'.toList) e0 z0)) :=
             hS.put (x' := .rw (cs ++ xs)) hg rfl hl hr ⟨_, e0, z0, hnew, hcells, fun i hi => h3 i (by rwa [spliceA_size] at hi), by rw [spliceA_size]; exact h4⟩
           have had := hput.sim.adopt (i := b) (x := .rw (cs ++ xs)) (d' := d + o) (y := .rw (cs.drop o ++ xs)) (by simp) rfl hl hr
             ⟨_, e0, z0, hnew, by
               refine ⟨by have := hcells.1; rw [List.length_append] at this ⊢; rw [List.length_drop]; omega, fun i v hv => ?_⟩
               have hv' : (cs ++ xs)[o + i]? = some v := by
                 rw [← List.getElem?_drop, List.drop_append_of_le_length (by omega)]
                 exact hv
               obtain ⟨v', h5, h6⟩ := hcells.2 (o + i) v hv'
               exact ⟨v', by rw [show d + o + i = d + (o + i) by omega]; exact h5, h6⟩, fun i hi => h3 i (by rwa [spliceA_size] at hi), by rw [spliceA_size]; exact h4⟩
           have hall := (hput.trans had).congr (H2 := (H.del b).new (.rw (cs.drop o ++ xs))) (fun i => by
             simp only [Hp.get_new, Hp.next_del, Hp.next_set, Hp.get_del _ hgn, Hp.get_set]
             by_cases e1 : i = H.next
             · simp [e1]
             · by_cases e2 : i = b <;> simp [e1, e2]) rfl rfl
           refine ⟨_, .slice (some ⟨b', o + d, none⟩) (n + m) c', _, ?_, hall, ?_⟩
           · rcases hu with hu | ⟨d, hu⟩ <;> (simp [Builtin.append_, run_underlying hut, run_underlying hu, run_sizeT hsT, hlen, hfit, hfc0, add_none, hrun])
           · have h5 : (ρ.ad H.next (b', d + o)) H.next = some (b', d + o) := by simp [Ren.ad]
             have := VR.slice (ρ := ρ.ad H.next (b', d + o)) (o := 0) (n := n + m) (c := c) (c' := c') h5 hfit (by show 0 + (d + o) + c' * c ≤ ρ.sz b'; omega)
             rwa [show 0 + (d + o) = o + d by omega] at this
         · -- there is none
           have hold : (Builtin.firstCells c n (.slice (some ⟨b', o + d, none⟩) n c')).run P w.drew = .ok ((c0.toList.drop (o + d)).take (n * c)).toArray w.drew := by
             have hlen2 : ((c0.toList.drop (o + d)).take (n * c)).length = n * c := by have := h2.1; simp; omega
             have := run_loadCells_list (P := P) w.drew ⟨b', o + d, none⟩ ((c0.toList.drop (o + d)).take (n * c)) (fun j v hj => by
               rw [add_none, cell?_of (w := w.drew) h1]
               rw [List.getElem?_take] at hj
               split at hj
               · simpa using hj
               · cases hj)
             rw [hlen2] at this
             exact this
           have hrn := grow (some ⟨b', o + d, none⟩) n c' _ (by omega) hroom hold
           have hdel := hS.del hl
           have hys : VL ρ (cs.drop o ++ xs) (((c0.toList.drop (o + d)).take (n * c)).toArray ++ xs').toList := by
             rw [Array.toList_append]
             refine VL.append (VL.of_get (by have := h2.1; simp; omega) fun i u u' hu hu' => ?_) hxv
             rw [List.getElem?_drop] at hu
             obtain ⟨v', h5, h6⟩ := h2.2 (o + i) u hu
             have hi := (List.getElem?_eq_some_iff.1 hu).1
             rw [List.getElem?_take, if_pos (by omega), List.getElem?_drop, Array.getElem?_toList, show o + d + i = d + (o + i) by omega, h5] at hu'
             cases hu'
             exact h6
           obtain ⟨ρ', h5, h6⟩ := grown_block hdel.sim e (ys := cs.drop o ++ xs) hys (n := n + m) (cap := grownCap w (n + m) c' e) hzs (by have := h2.1; simp [Nat.add_mul]; omega) (grownCap_ge w (n + m) c' e)
           exact ⟨ρ', _, _, hrn, hdel.trans h5, h6⟩
       · cases h
     · cases h
   · cases h
 | @sl0 b o b' o' d c hr =>
   simp only [appd] at h
   split at h
   · rename_i hcnd
     obtain ⟨rfl, hl, hroom, hok⟩ := hcnd
     split at h
     · rename_i cs hg
       split at h
       · rename_i hend
         cases h
         have hdel := hS.del hl
         have e0 : cs.drop o = [] := by rw [List.drop_eq_nil_iff]; omega
         by_cases h0 : m = 0
         · subst h0
           have e1 : xs = [] := by
             have := hxv.1
             simp at this
             exact List.eq_nil_of_length_eq_zero (by omega)
           obtain ⟨c0, e1', z0, h1, h2, h3, h4⟩ := hS.blk b _ b' d hg hr
           have had := hS.adopt (d' := d) (y := .rw (cs.drop o ++ xs)) hg rfl hl hr ⟨c0, e1', z0, h1, ⟨by rw [e0, e1]; have := h2.1; simp; omega, fun i v hv => by rw [e0, e1] at hv; simp at hv⟩, h3, h4⟩
           refine ⟨_, .slice (some ⟨b', o', none⟩) 0 0, w, ?_, had, ?_⟩
           · have e2 : xs'.size = 0 := by omega
             have e2 : xs' = #[] := by simpa using e2
             rcases hu with hu | ⟨d, hu⟩ <;> (simp [Builtin.append_, run_underlying hut, run_underlying hu, run_sizeT hsT, hlen, hfc0, e2, storeCells])
           · have h5 : (ρ.ad H.next (b', d)) H.next = some (b', d) := by simp [Ren.ad]
             exact .sl0 h5
         · have hrn := grow (some ⟨b', o', none⟩) 0 0 #[] (by omega) hroom (by simp [Builtin.firstCells, loadCells, loadCellsFrom])
           simp only [Nat.zero_add, Array.empty_append] at hrn
           obtain ⟨ρ', h5, h6⟩ := grown_block hdel.sim e (ys := cs.drop o ++ xs) (ys' := xs') (by rw [e0]; exact hxv) (n := m) hzs hxl (grownCap_ge w m 0 e)
           exact ⟨ρ', _, _, hrn, hdel.trans h5, by simpa using h6⟩
       · cases h
     · cases h
   · cases h
 | _ => simp [appd, Ev.dead] at h
end Go.Ev
set_option linter.unusedSimpArgs false
namespace Go.Ev
open Go
set_option linter.unusedSectionVars false
variable [Tabs]
variable {P : Program} {ρ : Ren} {H : Hp} {w : World}
theorem zeroV_some {t : TypeId} {z : Value} (h : zeroV P t = some z) (w : World) : (zeroValue t).run P w = .ok z w ∧ flat z = true := by
 unfold zeroV at h
 cases hi : P.info? t with
 | none => simp [hi] at h
 | some i =>
   simp only [hi, Option.bind_some] at h
   cases hz : i.zero with
   | none => simp [hz] at h
   | some v =>
     simp only [hz, Option.bind_some] at h
     split at h
     · rename_i hf; cases h; exact ⟨by simp [zeroValue, run_info hi, hz], hf⟩
     · cases h
theorem tasr_sound {t xt : TypeId} {ok : Bool} {z : Value} (ht : ∃ d, P.underlying t = some d ∧ ∀ m, d ≠ .interface m) (hz : zeroV P t = some z) {x x' v : Value} (hx : VR ρ x x') (h : tasr t ok z x = some v) (w : World) :
   ∃ v', (Instr.typeAssert x' xt t ok).run P w = .ok v' w ∧ VR ρ v v' := by
 obtain ⟨d, hd, hni⟩ := ht
 obtain ⟨hz1, hz2⟩ := zeroV_some hz w
 have zr : VR ρ z z := VR.flatN_refl 4 z hz2
 have tup : ∀ {a a' : Value} {b : Bool}, VR ρ a a' → VR ρ (.tuple #[a, .bool b]) (.tuple #[a', .bool b]) := fun {a a' b} h => by
   have : VL ρ [a, .bool b] [a', .bool b] := VL.cons h (VL.cons (.bool b) VL.nil)
   exact .tuple this.1 this.2
 cases hx with
 | @iface u y y' hy =>
   simp only [tasr] at h
   split at h
   · rename_i e
     subst e
     cases h
     refine ⟨if ok then .tuple #[y', .bool true] else y', ?_, ?_⟩
     · cases d <;> first | exact absurd rfl (hni _) | simp [Instr.typeAssert, run_underlying hd]
     · cases ok with
       | true => exact tup hy
       | false => exact hy
   · rename_i e
     split at h
     · rename_i hok
       cases h
       refine ⟨_, ?_, tup zr⟩
       cases d <;> first | exact absurd rfl (hni _) | simp [Instr.typeAssert, run_underlying hd, e, hok, hz1]
     · cases h
 | inil =>
   simp only [tasr] at h
   split at h
   · rename_i hok
     cases h
     refine ⟨_, ?_, tup zr⟩
     cases d <;> first | exact absurd rfl (hni _) | simp [Instr.typeAssert, run_underlying hd, hok, hz1]
   · cases h
 | _ => simp [tasr, Ev.dead] at h
theorem mxI_sound (mx : Bool) : ∀ (l l' : List Value) (x x' v : Value), VR ρ x x' → VL ρ l l' → mxI mx x l = some v → ∀ w, (l'.foldlM (if mx then Builtin.max2 else Builtin.min2) x').run P w = .ok v w ∧ flat v = true
 | [], l', x, x', v, hx, hl, h, w => by
   rw [hl.inv_nil]
   cases hx <;> simp [mxI, Ev.dead] at h
   subst h
   exact ⟨by simp, rfl⟩
 | y :: l, l', x, x', v, hx, hl, h, w => by
   obtain ⟨y', m, rfl, hy, hm⟩ := hl.inv_cons
   cases hx with
   | int k a =>
     cases hy with
     | int k2 b =>
       simp only [mxI] at h
       have := mxI_sound mx l m _ _ v (.int k _) hm h w
       cases mx
       · simpa [Builtin.min2] using this
       · simpa [Builtin.max2] using this
     | _ => simp [mxI, Ev.dead] at h
   | _ => simp [mxI, Ev.dead] at h
def kd : Bool → TypeDesc → Prop
 | false, d => ∃ k, d = .int k
 | true, d => d = .string
theorem bytes_beq (a b : ByteArray) : (a == b) = (a.data == b.data) := by cases a; cases b; rfl
theorem sameNow_eq {q : Bool} {d : TypeDesc} (hd : kd q d) {a b : Value} {r : Bool} (h : keyEq q a b = some r) : Instr.sameNow d a b = some r := by
 cases q with
 | false =>
   obtain ⟨k, rfl⟩ := hd
   cases a <;> cases b <;> simp [keyEq] at h
   rename_i k1 a k2 b
   obtain ⟨rfl, rfl⟩ := h
   simp [Instr.sameNow]
 | true =>
   cases hd
   cases a <;> cases b <;> simp [keyEq] at h
   rename_i a b
   subst h
   exact congrArg some (bytes_beq a b)
structure EntR (ρ : Ren) (es : List MapEntry) (es' : List MapEntry) : Prop where
 len : es.length = es'.length
 get : ∀ (i : Nat) (x : MapEntry), es[i]? = some x → ∃ x', es'[i]? = some x' ∧ flat x.key = true ∧ x'.key = x.key ∧ x'.born = x.born ∧ VR ρ x.val x'.val
theorem EntR.tail {x x' : MapEntry} {es es' : List MapEntry} (h : EntR ρ (x :: es) (x' :: es')) : EntR ρ es es' :=
 ⟨by simpa using h.len, fun i y hy => by simpa using h.get (i + 1) y (by simpa using hy)⟩
theorem findE_sound {q : Bool} {d : TypeDesc} (hd : kd q d) {k : Value} : ∀ (es es' : List MapEntry) (i : Nat) (r : Option (Nat × Value)), EntR ρ es es' → findE q k es i = some r →
   ∃ r', Instr.findNow d k es' i = some r' ∧ (match r, r' with | some (j, v), some (j', v') => j = j' ∧ VR ρ v v' ∧ i ≤ j ∧ j < i + es.length ∧ ∀ x, es[j - i]? = some x → keyEq q k x.key = some true | none, none => True | _, _ => False)
 | [], es', i, r, hE, h => by
   have : es' = [] := by have := hE.len; simp at this; exact List.eq_nil_of_length_eq_zero this.symm
   subst this
   simp [findE] at h
   subst h
   exact ⟨none, by simp [Instr.findNow], trivial⟩
 | x :: es, es', i, r, hE, h => by
   cases es' with
   | nil => have := hE.len; simp at this
   | cons x' es' =>
     obtain ⟨x2, h1, h2, h3, h4, h5⟩ := hE.get 0 x rfl
     simp only [List.getElem?_cons_zero, Option.some.injEq] at h1
     subst h1
     simp only [findE] at h
     cases hk : keyEq q k x.key with
     | none => simp [hk] at h
     | some b =>
       have hs := sameNow_eq hd hk
       rw [← h3] at hs
       cases b with
       | true =>
         simp only [hk, Option.some.injEq] at h
         subst h
         exact ⟨some (i, x'.val), by simp [Instr.findNow, hs], rfl, h5, Nat.le_refl _, by simp, fun y hy => by simp at hy; subst hy; exact hk⟩
       | false =>
         simp only [hk] at h
         obtain ⟨r', h6, h7⟩ := findE_sound hd es es' (i + 1) r hE.tail h
         refine ⟨r', by simp [Instr.findNow, hs, h6], ?_⟩
         cases r with
         | none => cases r' with
           | none => trivial
           | some _ => exact h7
         | some p =>
           obtain ⟨j, v⟩ := p
           cases r' with
           | none => exact h7
           | some p' =>
             obtain ⟨j', v'⟩ := p'
             obtain ⟨e1, e2, e3, e4, e5⟩ := h7
             refine ⟨e1, e2, by omega, by simp; omega, fun y hy => e5 y ?_⟩
             rw [show j - i = (j - (i + 1)) + 1 by omega, List.getElem?_cons_succ] at hy
             exact hy
theorem checkKey_succ {q : Bool} {kt : TypeId} {d : TypeDesc} (hu : P.underlying kt = some d) (hd : kd q d) (e : Bool) (n : Nat) (k : Value) (w : World) : (Instr.checkKey e (n + 1) kt k).run P w = .ok () w := by
 cases q with
 | false => obtain ⟨k', rfl⟩ := hd; simp [Instr.checkKey, run_underlying hu]
 | true => cases hd; simp [Instr.checkKey, run_underlying hu]
theorem checkKey_plain {q : Bool} {kt : TypeId} {d : TypeDesc} (hu : P.underlying kt = some d) (hd : kd q d) (e : Bool) (k : Value) (w : World) : (Instr.checkKey e 10000 kt k).run P w = .ok () w := checkKey_succ hu hd e 9999 k w
theorem entries_sound (hS : Sim P ρ H w) {m m' : Value} (hm : VR ρ m m') {es : List MapEntry} (h : entries m H = some es) :
   (m' = .map none ∧ es = []) ∨ ∃ r es' ck, m' = .map (some r) ∧ w.heap[r]? = some (.map es' ck) ∧ EntR ρ es es'.toList := by
 cases hm with
 | mnil => simp [entries] at h; exact .inl ⟨rfl, h⟩
 | @map r r' hr =>
   simp only [entries] at h
   cases hg : H.get r with
   | none => simp [hg] at h
   | some x =>
     cases x <;> simp [hg] at h
     rename_i es0 ck
     subst h
     obtain ⟨_, es', h1, h2, h3⟩ := hS.blk r _ r' 0 hg hr
     exact .inr ⟨r', es', ck, rfl, h1, by simpa using h2, fun i x hx => by
       obtain ⟨x', a, b, c, d, e⟩ := h3 i x hx
       exact ⟨x', by simpa using a, b, c, d, e⟩⟩
 | _ => simp [entries, Ev.dead] at h
theorem run_getMap {r : Nat} {es : Array MapEntry} {ck : Nat} (h : w.heap[r]? = some (.map es ck)) : (getObj r).run P w = .ok (.map es ck) w := by
 simp [getObj, Sem.run, h]
theorem lkup_sound (hS : Sim P ρ H w) {q : Bool} {mt kt e : TypeId} {d : TypeDesc} (hu : P.underlying mt = some (.map kt e)) (hk : P.underlying kt = some d) (hd : kd q d) {z : Value} (hz : zeroV P e = some z) {ok : Bool} {m k m' k' v : Value}
   (hm : VR ρ m m') (hkv : VR ρ k k') (h : lkup q z ok m k H = some v) : ∃ v', (Instr.lookup mt m' k' ok).run P w = .ok v' w ∧ VR ρ v v' := by
 obtain ⟨hz1, hz2⟩ := zeroV_some hz w
 have zr : VR ρ z z := VR.flatN_refl 4 z hz2
 have tup : ∀ {a a' : Value} {b : Bool}, VR ρ a a' → VR ρ (.tuple #[a, .bool b]) (.tuple #[a', .bool b]) := fun {a a' b} h => by
   have : VL ρ [a, .bool b] [a', .bool b] := VL.cons h (VL.cons (.bool b) VL.nil)
   exact .tuple this.1 this.2
 simp only [lkup] at h
 cases he : entries m H with
 | none => simp [he] at h
 | some es =>
   simp only [he, Option.bind_some] at h
   cases hf : findE q k es 0 with
   | none => simp [hf] at h
   | some r =>
     simp only [hf, Option.map_some, Option.some.injEq] at h
     rcases entries_sound hS hm he with ⟨rfl, rfl⟩ | ⟨rb, es', ck, rfl, hheap, hE⟩
     · simp [findE] at hf
       subst hf
       refine ⟨if ok then .tuple #[z, .bool false] else z, ?_, ?_⟩
       · simp [Instr.lookup, run_underlying hu, checkKey_plain hk hd, Instr.findKey, run_underlying hk, Instr.findNow, hz1]
       · subst h; cases ok with
         | true => exact tup zr
         | false => exact zr
     · have hkf : k' = k ∨ r = none := by
         cases hkv with
         | int => exact .inl rfl
         | string => exact .inl rfl
         | _ =>
           right
           cases es with
           | nil => simp [findE] at hf; exact hf.symm
           | cons x es => cases q <;> simp [findE, keyEq, Ev.dead] at hf
       have hfk : ∃ r', Instr.findNow d k' es'.toList 0 = some r' ∧ (match r, r' with | some (j, v), some (j', v') => VR ρ v v' | none, none => True | _, _ => False) := by
         rcases hkf with hkk | rfl
         · obtain ⟨r', h1, h2⟩ := findE_sound hd es es'.toList 0 r hE hf
           refine ⟨r', by rw [hkk]; exact h1, ?_⟩
           cases r with
           | none => cases r' <;> exact h2
           | some p => cases r' with
             | none => exact h2
             | some p' => exact h2.2.1
         · cases es with
           | nil =>
             have : es'.toList = [] := by have := hE.len; simp at this; simp [this.symm]; exact Array.size_eq_zero_iff.1 this.symm
             rw [this]
             exact ⟨none, by simp [Instr.findNow], trivial⟩
           | cons x es =>
             obtain ⟨r', h1, h2⟩ := findE_sound hd (x :: es) es'.toList 0 none hE hf
             have hkk : k' = k := by
               cases hkv with
               | int => rfl
               | string => rfl
               | _ => cases q <;> simp [findE, keyEq, Ev.dead] at hf
             exact ⟨r', by rw [hkk]; exact h1, by cases r' <;> exact h2⟩
       obtain ⟨r', h1, h2⟩ := hfk
       cases r with
       | none =>
         cases r' with
         | some _ => exact absurd h2 (by simp)
         | none =>
           refine ⟨if ok then .tuple #[z, .bool false] else z, ?_, ?_⟩
           · simp [Instr.lookup, run_underlying hu, run_getMap hheap, checkKey_plain hk hd, Instr.findKey, run_underlying hk, h1, hz1]
           · subst h; cases ok with
             | true => exact tup zr
             | false => exact zr
       | some p =>
         obtain ⟨j, v1⟩ := p
         cases r' with
         | none => exact absurd h2 (by simp)
         | some p' =>
           obtain ⟨j', v1'⟩ := p'
           refine ⟨if ok then .tuple #[v1', .bool true] else v1', ?_, ?_⟩
           · simp [Instr.lookup, run_underlying hu, run_getMap hheap, checkKey_plain hk hd, Instr.findKey, run_underlying hk, h1]
           · subst h; cases ok with
             | true => exact tup h2
             | false => exact h2
theorem sameBits_key {q : Bool} {a b : Value} (h : keyEq q a b = some true) : Instr.sameBits 10000 b a = true := by
 cases q <;> cases a <;> cases b <;> simp [keyEq] at h
 · obtain ⟨rfl, rfl⟩ := h; simp [Instr.sameBits]
 · rename_i a b
   cases a; cases b
   subst h
   simp only [Instr.sameBits, bytes_beq, beq_self_eq_true]
theorem mupd_sound (hS : Sim P ρ H w) {q : Bool} {mt kt e : TypeId} {d : TypeDesc} (hu : P.underlying mt = some (.map kt e)) (hk : P.underlying kt = some d) (hd : kd q d) {m k v m' k' v' : Value}
   (hm : VR ρ m m') (hkv : VR ρ k k') (hv : VR ρ v v') {H' : Hp} (h : mupd q m k v H = some H') : ∃ w', (Instr.mapUpdate mt m' k' v').run P w = .ok () w' ∧ Stp P ρ H w ρ H' w' := by
 cases hm with
 | @map r r' hr =>
   simp only [mupd] at h
   split at h
   · rename_i hc
     obtain ⟨hl, hfl⟩ := hc
     have hkk : k' = k := hkv.flat_eq hfl
     subst hkk
     cases hg : H.get r with
     | none => simp [hg] at h
     | some x =>
       cases x <;> simp [hg] at h
       rename_i es ck
       obtain ⟨f, hf, rfl⟩ := h
       obtain ⟨_, es', h1, h2, h3⟩ := hS.blk r _ r' 0 hg hr
       have hE : EntR ρ es es'.toList := ⟨by simpa using h2, fun i x hx => by
         obtain ⟨x', a, b, c, d, e⟩ := h3 i x hx
         exact ⟨x', by simpa using a, b, c, d, e⟩⟩
       obtain ⟨f', h4, h5⟩ := findE_sound hd es es'.toList 0 f hE hf
       have hb : r' < w.heap.size := (Array.getElem?_eq_some_iff.1 h1).1
       have hset : ∀ o : Obj, ({ w with heap := w.heap.setIfInBounds r' o } : World) = w.pb r' o := fun _ => rfl
       cases f with
       | none =>
         cases f' with
         | some _ => exact absurd h5 (by simp)
         | none =>
           refine ⟨w.pb r' (.map (es'.push { key := k', val := v', born := ck }) (ck + 1)), ?_, hS.put (o := .map (es'.push { key := k', val := v', born := ck }) (ck + 1)) hg rfl hl hr ⟨rfl, es'.push { key := k', val := v', born := ck }, by rw [World.pb_get]; simp [hb], by simp [h2], ?_⟩⟩
           · simp [Instr.mapUpdate, run_underlying hu, run_getMap h1, checkKey_plain hk hd, Instr.findKey, run_underlying hk, h4, setObj, Sem.run, h1, World.pb]
           · intro i x hx
             by_cases hi : i < es.length
             · rw [List.getElem?_append_left hi] at hx
               obtain ⟨x', a, b, c, d2, e2⟩ := h3 i x hx
               exact ⟨x', by rw [Array.getElem?_push, if_neg (by omega)]; exact a, b, c, d2, e2⟩
             · rw [List.getElem?_append_right (by omega)] at hx
               have hi2 : i - es.length = 0 := by
                 have := (List.getElem?_eq_some_iff.1 hx).1
                 simp at this
                 omega
               rw [hi2] at hx
               simp at hx
               subst hx
               exact ⟨{ key := k', val := v', born := ck }, by rw [Array.getElem?_push, if_pos (by omega)], hfl, rfl, rfl, hv⟩
       | some p =>
         obtain ⟨j, v1⟩ := p
         cases f' with
         | none => exact absurd h5 (by simp)
         | some p' =>
           obtain ⟨j', v1'⟩ := p'
           obtain ⟨rfl, e2, e3, e4, e5⟩ := h5
           have hj : j < es.length := by omega
           obtain ⟨xj, hxj⟩ : ∃ x, es[j]? = some x := ⟨es[j], by simp [hj]⟩
           have hkj := e5 xj (by simpa using hxj)
           obtain ⟨xj', a1, a2, a3, a4, a5⟩ := h3 j xj hxj
           have hsame : Instr.sameBits 10000 xj'.key k' = true := by rw [a3]; exact sameBits_key hkj
           refine ⟨w.pb r' (.map (es'.modify j fun e => { e with key := k', val := v' }) ck), ?_, hS.put (o := .map (es'.modify j fun e => { e with key := k', val := v' }) ck) hg rfl hl hr ⟨rfl, es'.modify j fun e => { e with key := k', val := v' }, by rw [World.pb_get]; simp [hb], by simp [h2, updE], ?_⟩⟩
           · simp [Instr.mapUpdate, run_underlying hu, run_getMap h1, checkKey_plain hk hd, Instr.findKey, run_underlying hk, h4, Instr.keyThatStays, a1, hsame, setObj, Sem.run, h1, World.pb]
           · intro i x hx
             simp only [updE] at hx
             rw [List.getElem?_modify] at hx
             obtain ⟨y, hy, rfl⟩ := Option.map_eq_some_iff.1 hx
             obtain ⟨y', b1, b2, b3, b4, b5⟩ := h3 i y hy
             by_cases hij : j = i
             · subst hij
               exact ⟨{ y' with key := k', val := v' }, by rw [Array.getElem?_modify, if_pos rfl, b1]; rfl, by simpa using hfl, by simp, by simpa using b4, by simpa using hv⟩
             · exact ⟨y', by rw [Array.getElem?_modify, if_neg hij, b1], by simpa [hij] using b2, by simpa [hij] using b3, by simpa [hij] using b4, by simpa [hij] using b5⟩
   · cases h
 | _ => simp [mupd, Ev.dead] at h
end Go.Ev
