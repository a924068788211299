/- What the machine does at an operation, held against the evaluator: rows that grow, maps, values behind interfaces. -/
import Derived.Test.YtbaooebafijenaaDoorGvOps4
set_option linter.unusedSimpArgs false
namespace Go.Ev
open Go
set_option linter.unusedSectionVars false
variable [Tabs]

variable {P : Program} {ρ : Ren} {H : Hp} {w : World}

/-! ### Heaps that read alike -/
theorem Sim.congr {H' : Hp} (h : Sim P ρ H w) (hg : ∀ i, H'.get i = H.get i) (hn : H'.next = H.next) (hl : H'.lim = H.lim) : Sim P ρ H' w where
  blk := fun i x b d hx hr => h.blk i x b d (by rw [← hg]; exact hx) hr
  sep := fun i j b d b2 d2 ⟨h1, x, h2, h3⟩ ⟨y, hy⟩ => h.sep i j b d b2 d2 ⟨hl ▸ h1, x, by rw [← hg]; exact h2, h3⟩ ⟨y, by rw [← hg]; exact hy⟩
  low := fun i b d hr => by rw [hn]; exact h.low i b d hr
  lim := by rw [hn, hl]; exact h.lim
  glob := h.glob
  gn := by rw [hl]; exact h.gn
  flr := fun i hi => by rw [hg]; exact h.flr i hi
  gg := h.gg
  tab := h.tab
theorem Stp.congr {ρ' : Ren} {H' H2 : Hp} {w' : World} (h : Stp P ρ H w ρ' H' w') (hg : ∀ i, H2.get i = H'.get i) (hn : H2.next = H'.next) (hl : H2.lim = H'.lim) : Stp P ρ H w ρ' H2 w' where
  sim := h.sim.congr hg hn hl
  ext := h.ext
  keep := h.keep
  size := h.size
  own := fun i b d hw => h.own i b d (hw.imp (fun ⟨h1, x, h2, h3⟩ => ⟨hl ▸ h1, x, by rw [← hg]; exact h2, h3⟩) id)
  old := h.old
  fix := fun i hi => (hg i).trans (h.fix i hi)
  lim := hl.trans h.lim
  next := by rw [hn]; exact h.next
  tape := h.tape
  os := h.os
  out := h.out
theorem Sim.del (h : Sim P ρ H w) {b : Nat} (hb : H.lim ≤ b) : Stp P ρ H w ρ (H.del b) w := by
  have hgn : Tabs.gn ≤ b := Nat.le_trans h.gn hb
  have hsome : ∀ {i x}, (H.del b).get i = some x → H.get i = some x := fun {i x} hx => by
    rw [Hp.get_del H hgn] at hx
    split at hx
    · cases hx
    · exact hx
  have hwr : ∀ {i}, wr (H.del b) i → wr H i := fun {i} ⟨h1, x, h2, h3⟩ => ⟨h1, x, hsome h2, h3⟩
  refine ⟨⟨fun i x c d hx hr => h.blk i x c d (hsome hx) hr, fun i j c d c2 d2 hi ⟨y, hy⟩ => h.sep i j c d c2 d2 (hwr hi) ⟨y, hsome hy⟩, h.low, h.lim, h.glob, h.gn, fun i hi => ?_, h.gg, h.tab⟩, Ren.le_refl ρ, fun _ _ _ => rfl, Nat.le_refl _,
    fun i c d hw hr _ => h.own_refl (hw.imp hwr id) hr, fun _ _ hp _ => hp, fun i hi => ?_, rfl, Nat.le_refl _, rfl, rfl, rfl⟩
  · have := h.gn
    rw [Hp.get_del H hgn, if_neg (by omega)]
    exact h.flr i hi
  · rw [Hp.get_del H hgn, if_neg (by omega)]

/-! ### Rows of zero values -/
theorem rep_length (n : Nat) (z : List Value) : (rep n z).length = n * z.length := by simp [rep]
theorem rep_get (z : List Value) : ∀ (n i : Nat), i < n * z.length → (rep n z)[i]? = z[i % z.length]?
  | 0, i, h => by simp at h
  | n + 1, i, h => by
    have e : rep (n + 1) z = z ++ rep n z := by simp [rep, List.replicate_succ]
    rw [e]
    by_cases hi : i < z.length
    · rw [List.getElem?_append_left hi, Nat.mod_eq_of_lt hi]
    · have hi' : z.length ≤ i := by omega
      rw [List.getElem?_append_right hi', rep_get z n (i - z.length) (by rw [Nat.add_mul] at h; omega)]
      congr 1
      conv => rhs; rw [← Nat.sub_add_cancel hi', Nat.add_mod_right]
theorem zeros_get {z : Array Value} {n i : Nat} (h0 : 0 < z.size) (hi : i < n) : ((Array.range n).map (z[· % z.size]!))[i]? = z[i % z.size]? := by
  have hm : i % z.size < z.size := Nat.mod_lt _ h0
  simp [hi, hm]
theorem zeros_CellsR {zv : Array Value} {z : List Value} (hz : zv.toList = z) (hf : z.all (flatN 3) = true) {sz l c : Nat} (hs : z.length = sz) (hlc : l ≤ c) (n : Nat) (hn : n = c * sz) (x : Array Value) (hx : n ≠ 0 → x = zv) :
    CellsR ρ (rep l z) ((Array.range n).map (x[· % x.size]!)) 0 := by
  have hle : l * sz ≤ c * sz := Nat.mul_le_mul_right _ hlc
  refine ⟨by simp [rep_length, hs]; omega, fun i v hv => ?_⟩
  have hi : i < l * z.length := by
    have := (List.getElem?_eq_some_iff.1 hv).1
    rwa [rep_length] at this
  rw [hs] at hi
  have hn0 : n ≠ 0 := by omega
  rw [hx hn0]
  have hsz : zv.size = sz := by rw [← Array.length_toList, hz, hs]
  have h0 : 0 < zv.size := by
    rcases Nat.eq_zero_or_pos zv.size with h | h
    · rw [hsz] at h; subst h; omega
    · exact h
  rw [rep_get z l i (by rw [hs]; exact hi)] at hv
  refine ⟨v, ?_, VR.flatN_refl 3 v (List.all_eq_true.1 hf v (List.mem_of_getElem? hv))⟩
  rw [Nat.zero_add, zeros_get h0 (by omega), hsz, ← hs]
  rw [← Array.getElem?_toList, hz]
  exact hv

theorem sliceT_some {t e : TypeId} {sz by_ : Nat} (h : sliceT P t = some (e, sz, by_)) : P.underlying t = some (.slice e) ∧ ∃ i, P.info? e = some i ∧ i.size = sz ∧ i.bytes = by_ := by
  unfold sliceT at h
  cases hu : P.underlying t with
  | none => simp [hu] at h
  | some d =>
    cases d <;> simp only [hu] at h <;> try cases h
    rename_i e'
    cases hi : P.info? e' with
    | none => simp [hi] at h
    | some i => simp [hi] at h; obtain ⟨rfl, rfl, rfl⟩ := h; exact ⟨rfl, i, hi, rfl, rfl⟩
theorem size_of_info {e : TypeId} {i : TypeInfo} (h : P.info? e = some i) : sizeT P e = some i.size := by simp [sizeT, h]

theorem run_askRoom (n : Nat) (w : World) : (askRoom n).run P w = .ok () w := by
  unfold askRoom
  split <;> simp [mark, Sem.run]

/-! ### Slices made -/
theorem buildSlice_sound (hS : Sim P ρ H w) {t e : TypeId} {sz by_ len : Nat} {z : List Value} (ht : sliceT P t = some (e, sz, by_)) (hz : zeroT P e = some z) (hl : len * sz ≤ 4096) (hzl : z.length = sz)
    {parts parts' : List (Nat × Value)} (hpl : parts.length = parts'.length) (hv : ∀ (i : Nat) (x x' : Nat × Value), parts[i]? = some x → parts'[i]? = some x' → x.1 = x'.1 ∧ VR ρ x.2 x'.2) {cs : List Value}
    (h : fillL (plA sz) (rep len z) parts = some cs) :
    ∃ ρ' v' w', (Instr.buildSlice t len parts'.toArray).run P w = .ok v' w' ∧ Stp P ρ H w ρ' (H.new (.rw cs)) w' ∧ VR ρ' (.slice (some ⟨H.next, 0, none⟩) len sz) v' := by
  obtain ⟨hu, i, hi, hsz, hby⟩ := sliceT_some ht
  obtain ⟨zv, hzr, hzc, hzf⟩ := run_zeroT hz w
  have hsT : sizeT P e = some sz := by rw [size_of_info hi, hsz]
  have hbig : ¬ (len * sz > 2 ^ 24) := by omega
  -- the machine's zero cells
  have key : ∀ x : Array Value, (len * sz ≠ 0 → x = zv.cells) → ∃ r', Instr.fill (fun i => some (i * sz, sz)) ((Array.range (len * sz)).map (x[· % x.size]!)) parts' = some r' ∧ VL ρ cs r'.toList := by
    intro x hx
    have hC : CellsR ρ (rep len z) ((Array.range (len * sz)).map (x[· % x.size]!)) 0 := zeros_CellsR hzc hzf hzl (Nat.le_refl len) _ rfl x hx
    have hlen : (rep len z).length = len * sz := by rw [rep_length, hzl]
    have hVL : VL ρ (rep len z) ((Array.range (len * sz)).map (x[· % x.size]!)).toList := by
      refine VL.of_get (by simp [hlen]) fun j u u' hu1 hu2 => ?_
      obtain ⟨u2, h1, h2⟩ := hC.2 j u hu1
      rw [Nat.zero_add, ← Array.getElem?_toList, hu2] at h1
      cases h1; exact h2
    exact fillL_sound (pl' := fun i => some (i * sz, sz)) (fun i p hp => hp) parts parts' (rep len z) cs _ hVL hpl hv h
  have fin : ∀ (r' : Array Value), VL ρ cs r'.toList → ∃ ρ', Stp P ρ H w ρ' (H.new (.rw cs)) (w.alloc (.cells r' e)) ∧ VR ρ' (.slice (some ⟨H.next, 0, none⟩) len sz) (.slice (some ⟨w.heap.size, 0, none⟩) len len) := by
    intro r' hr
    have hst := new_block hS e (0, 0) (CellsR.of_VL hr) (fun o _ => by omega)
    refine ⟨_, hst, new_slice ρ H.next w.heap.size len sz r'.size len (Nat.le_refl _) ?_⟩
    have h1 := hr.1
    have h2 : cs.length = len * sz := by
      have : ∀ (parts : List (Nat × Value)) (c r : List Value), fillL (plA sz) c parts = some r → r.length = c.length := by
        intro parts
        induction parts with
        | nil => intro c r h; simp [fillL] at h; rw [h]
        | cons p ps ih =>
          obtain ⟨i, v⟩ := p
          intro c r h
          simp only [fillL, plA] at h
          cases hb : bx v with
          | none => simp [hb] at h
          | some vs =>
            simp only [hb, Option.bind_some] at h
            split at h
            · rw [ih _ _ h, splice_length]
            · cases h
      rw [this _ _ _ h, rep_length, hzl]
    have h3 : r'.toList.length = r'.size := Array.length_toList
    omega
  by_cases h0 : len * sz = 0
  · obtain ⟨r', h1, h2⟩ := key #[] (fun hn => absurd h0 hn)
    obtain ⟨ρ', h3, h4⟩ := fin r' h2
    refine ⟨ρ', _, _, ?_, h3, h4⟩
    have h00 : ¬ (0 > 2 ^ 24) := by decide
    simp only [Instr.buildSlice, Sem.run_bind, run_underlying hu, Result.andThen_ok, run_sizeT hsT, h0, h00, if_false, if_true, Sem.run_pure]
    rw [h0] at h1
    rw [h1]
    simp [newRow]
  · obtain ⟨r', h1, h2⟩ := key zv.cells (fun _ => rfl)
    obtain ⟨ρ', h3, h4⟩ := fin r' h2
    refine ⟨ρ', _, _, ?_, h3, h4⟩
    simp only [Instr.buildSlice, Sem.run_bind, run_underlying hu, Result.andThen_ok, run_sizeT hsT, hbig, if_false, h0, Sem.run_pure, hzr]
    rw [h1]
    simp [newRow]

theorem mkS_sound (hS : Sim P ρ H w) {t e : TypeId} {sz by_ : Nat} {z : List Value} (ht : sliceT P t = some (e, sz, by_)) (hz : zeroT P e = some z) (hzl : z.length = sz) {l c l' c' v : Value} {H' : Hp} (hl : VR ρ l l') (hc : VR ρ c c')
    (h : mkS sz by_ z l c H = some (v, H')) : ∃ ρ' v' w', (Instr.makeSlice t l' c').run P w = .ok v' w' ∧ Stp P ρ H w ρ' H' w' ∧ VR ρ' v v' := by
  obtain ⟨hu, i, hi, hsz, hby⟩ := sliceT_some ht
  obtain ⟨zv, hzr, hzc, hzf⟩ := run_zeroT hz w
  have hsT : sizeT P e = some sz := by rw [size_of_info hi, hsz]
  cases hl with
  | int k1 l =>
    cases hc with
    | int k2 c =>
      simp only [mkS] at h
      split at h
      · rename_i hcnd
        obtain ⟨h0, h1, h2, h3⟩ := hcnd
        cases h
        have el : IntKind.i64.wrap l = l := by simp [IntKind.wrap, IntKind.bits, IntKind.signed]; omega
        have ec : IntKind.i64.wrap c = c := by simp [IntKind.wrap, IntKind.bits, IntKind.signed]; omega
        have hb : (by_ : Int) * c ≤ 281474976710656 := by
          have h4 : (by_ : Int) * c ≤ 256 * c := Int.mul_le_mul_of_nonneg_right (by omega) (by omega)
          omega
        have hcl : l.toNat ≤ c.toNat := by omega
        have mach : ∀ x : Array Value, (c.toNat * sz ≠ 0 → x = zv.cells) → Stp P ρ H w (ρ.up H.next (w.heap.size, 0) ((Array.range (c.toNat * sz)).map (x[· % x.size]!)).size) (H.new (.rw (rep l.toNat z))) (w.alloc (.cells ((Array.range (c.toNat * sz)).map (x[· % x.size]!)) e)) ∧
            VR (ρ.up H.next (w.heap.size, 0) ((Array.range (c.toNat * sz)).map (x[· % x.size]!)).size) (.slice (some ⟨H.next, 0, none⟩) l.toNat sz) (.slice (some ⟨w.heap.size, 0, none⟩) l.toNat c.toNat) := by
          intro x hx
          refine ⟨new_block hS e (0, 0) (zeros_CellsR hzc hzf hzl hcl _ rfl x hx) (fun o _ => by omega), new_slice ρ H.next w.heap.size _ sz _ _ hcl (by simp)⟩
        have c1 : ¬ (c < 0) := by omega
        have c2 : ¬ (281474976710656 < (by_ : Int) * c) := by omega
        have c3 : ¬ (l < 0) := by omega
        have c4 : ¬ (c < l) := by omega
        by_cases hn : c.toNat * sz = 0
        · obtain ⟨h5, h6⟩ := mach #[] (fun h => absurd hn h)
          refine ⟨_, _, _, ?_, h5, h6⟩
          simp [Instr.makeSlice, run_underlying hu, asInt, asIntOf, typeInfo, hi, hby, el, ec, c1, c2, c3, c4, run_askRoom, run_sizeT hsT, hn, newRow]
        · obtain ⟨h5, h6⟩ := mach zv.cells (fun _ => rfl)
          refine ⟨_, _, _, ?_, h5, h6⟩
          simp [Instr.makeSlice, run_underlying hu, asInt, asIntOf, typeInfo, hi, hby, el, ec, c1, c2, c3, c4, run_askRoom, run_sizeT hsT, hn, newRow, hzr]
      · cases h
    | _ => simp [mkS, Ev.dead] at h
  | _ => simp [mkS, Ev.dead] at h
end Go.Ev
