/- What the machine does at an operation, held against the evaluator: lengths, slicings, literals, new memory. -/
import Derived.Test.YtbaooebafijenaaDoorGvOps3
set_option linter.unusedSimpArgs false
namespace Go.Ev
open Go
set_option linter.unusedSectionVars false
variable [Tabs]

variable {P : Program} {ρ : Ren} {H : Hp} {w : World}

theorem len_sound (hS : Sim P ρ H w) {t ty : TypeId} {q : Nat} (ht : (match P.underlying t with | some .string => some 0 | some (.slice _) => some 1 | some (.map _ _) => some 2 | _ => none) = some q) {a a' v : Value} (ha : VR ρ a a')
    (h : len q a H = some v) : (Builtin.len_ #[t] ty #[a']).run P w = .ok v w ∧ flat v = true := by
  cases hu : P.underlying t with
  | none => simp [hu] at ht
  | some d =>
    cases d <;> simp [hu] at ht <;> subst ht
    · cases ha with
      | string s => simp [len] at h; subst h; simp [Builtin.len_, run_underlying hu, flat, flatN, goInt]
      | _ => simp [len, Ev.dead] at h
    · cases ha with
      | snil => simp [len] at h; subst h; simp [Builtin.len_, run_underlying hu, flat, flatN, goInt]
      | slice hr hc hz => simp [len] at h; subst h; simp [Builtin.len_, run_underlying hu, flat, flatN, goInt]
      | sl0 _ => simp [len] at h; subst h; simp [Builtin.len_, run_underlying hu, flat, flatN, goInt]
      | _ => simp [len, Ev.dead] at h
    · cases ha with
      | mnil => simp [len] at h; subst h; simp [Builtin.len_, run_underlying hu, flat, flatN, goInt]
      | @map r r' hr =>
        simp only [len] at h
        cases hg : H.get r with
        | none => simp [hg] at h
        | some x =>
          cases x <;> simp [hg] at h
          rename_i es ck
          subst h
          obtain ⟨_, es', h1, h2, _⟩ := hS.blk r _ r' 0 hg hr
          simp [Builtin.len_, run_underlying hu, flat, flatN, goInt, getObj, Sem.run, h1, h2]
      | _ => simp [len, Ev.dead] at h

theorem ext1_sound {a a' v : Value} {i : Nat} (ha : VR ρ a a') (h : ext1 a i = some v) (w : World) : ∃ v', (Instr.extract a' i).run P w = .ok v' w ∧ VR ρ v v' := by
  cases ha with
  | @tuple l l' hs hl =>
    simp only [ext1] at h
    obtain ⟨v', h1, h2⟩ := VL.get ⟨hs, hl⟩ (i := i) (v := v) (by simpa using h)
    exact ⟨v', by simp [Instr.extract, h1], h2⟩
  | _ => simp [ext1, Ev.dead] at h

theorem optInt_sound {d : Nat} {o : Option Value} {o' : Option Value} (ho : match o, o' with | none, none => True | some v, some v' => VR ρ v v' | _, _ => False) {i : Int} (h : optInt d o = some i) :
    (o = none ∧ o' = none ∧ i = d) ∨ ∃ k, o' = some (.int k i) := by
  cases o with
  | none =>
    cases o' with
    | none => simp [optInt] at h; exact .inl ⟨rfl, rfl, h.symm⟩
    | some v => exact ho.elim
  | some v =>
    cases o' with
    | none => exact ho.elim
    | some v' =>
      cases v <;> simp [optInt] at h
      rename_i k n
      subst h
      exact .inr ⟨k, by rw [VR.int_inv ho]⟩

abbrev OR (ρ : Ren) (o o' : Option Value) : Prop := match o, o' with | none, none => True | some v, some v' => VR ρ v v' | _, _ => False

/-- the bounds of a slicing -/
theorem run_bounds {isS : Bool} {n c : Nat} {lo hi lo' hi' : Option Value} (hl : OR ρ lo lo') (hh : OR ρ hi hi') {l h : Int} (el : optInt 0 lo = some l) (eh : optInt n hi = some h) (h0 : 0 ≤ l) (h1 : l ≤ h) (h2 : h ≤ n) (hc : n ≤ c) (w : World) :
    (Instr.sliceBounds isS n c lo' hi' none).run P w = .ok (l.toNat, h.toNat, c) w := by
  have hhn : 0 ≤ h := by omega
  have hhc : h ≤ (c : Int) := by omega
  have hln : l ≤ (h.toNat : Int) := by omega
  rcases optInt_sound hl el with ⟨_, rfl, rfl⟩ | ⟨k, rfl⟩ <;> rcases optInt_sound hh eh with ⟨_, rfl, rfl⟩ | ⟨k', rfl⟩
  · simp [Instr.sliceBounds]
  · simp [Instr.sliceBounds, Instr.sliceBound, asIntOf, hhn, hhc]
  · have : l ≤ (n : Int) := by omega
    simp [Instr.sliceBounds, Instr.sliceBound, asIntOf, h0, this]
  · simp [Instr.sliceBounds, Instr.sliceBound, asIntOf, hhn, hhc, h0, hln]
    intro hlt
    omega

theorem slS_sound {t : TypeId} (hu : P.underlying t = some .string) {a a' v : Value} {lo hi lo' hi' : Option Value} (ha : VR ρ a a') (hl : OR ρ lo lo') (hh : OR ρ hi hi') (h : slS a lo hi = some v) (w : World) :
    (Instr.sliceAt t a' lo' hi' none).run P w = .ok v w ∧ flat v = true := by
  cases ha with
  | string s =>
    simp only [slS] at h
    cases el : optInt 0 lo with
    | none => simp [el] at h
    | some l =>
      cases eh : optInt s.size hi with
      | none => simp [el, eh] at h
      | some m =>
        simp only [el, eh, Option.bind_some] at h
        split at h
        · rename_i hc
          cases h
          simp [Instr.sliceAt, Instr.slice, run_underlying hu, run_bounds hl hh el eh hc.1 hc.2.1 hc.2.2 (Nat.le_refl _), flat, flatN]
        · cases h
  | _ => simp [slS, Ev.dead] at h

theorem slV_sound {t e : TypeId} {sz : Nat} (hu : P.underlying t = some (.slice e)) (hz : sizeT P e = some sz) {a a' v : Value} {lo hi lo' hi' : Option Value} (ha : VR ρ a a') (hl : OR ρ lo lo') (hh : OR ρ hi hi')
    (h : slV sz a lo hi = some v) (w : World) : ∃ v', (Instr.sliceAt t a' lo' hi' none).run P w = .ok v' w ∧ VR ρ v v' := by
  cases ha with
  | snil =>
    simp only [slV] at h
    cases el : optInt 0 lo with
    | none => simp [el] at h
    | some l =>
      cases eh : optInt 0 hi with
      | none => simp [el, eh] at h
      | some m =>
        simp only [el, eh, Option.bind_some] at h
        split at h
        · rename_i hc
          obtain ⟨rfl, rfl⟩ := hc
          cases h
          refine ⟨.slice none 0 0, ?_, .snil⟩
          simp [Instr.sliceAt, Instr.slice, run_underlying hu, run_bounds (n := 0) (c := 0) hl hh el eh (by omega) (by omega) (by omega) (by omega), run_sizeT hz]
        · cases h
  | @slice b o b' d n c c' hr hc' hz' =>
    simp only [slV] at h
    cases el : optInt 0 lo with
    | none => simp [el] at h
    | some l =>
      cases eh : optInt n hi with
      | none => simp [el, eh] at h
      | some m =>
        simp only [el, eh, Option.bind_some] at h
        split at h
        · rename_i hcc
          obtain ⟨rfl, hc⟩ := hcc
          cases h
          have hb := run_bounds (P := P) (isS := true) hl hh el eh hc.1 hc.2.1 hc.2.2 hc' w
          by_cases e0 : c' = l.toNat
          · refine ⟨.slice (some ⟨b', o + d, none⟩) 0 0, ?_, ?_⟩
            · have e1 : m.toNat - l.toNat = 0 := by omega
              have e2 : c' - l.toNat = 0 := by omega
              simp only [Instr.sliceAt, Instr.slice, run_underlying hu, Sem.run_bind, Result.andThen_ok, hb, run_sizeT hz, if_pos e0, Sem.run_pure, e1, e2]
            · have : m.toNat - l.toNat = 0 := by omega
              rw [this]; exact .sl0 hr
          · refine ⟨.slice (some ⟨b', o + d + l.toNat * c, none⟩) (m.toNat - l.toNat) (c' - l.toNat), ?_, ?_⟩
            · simp [Instr.sliceAt, Instr.slice, run_underlying hu, hb, run_sizeT hz, e0, add_none]
            · have hle : l.toNat * c + (c' - l.toNat) * c = c' * c := by rw [← Nat.add_mul]; congr 1; omega
              have := VR.slice (ρ := ρ) (o := o + l.toNat * c) (n := m.toNat - l.toNat) (c := c) (c' := c' - l.toNat) hr (by omega) (by omega)
              rwa [show o + l.toNat * c + d = o + d + l.toNat * c from by omega] at this
        · cases h
  | @sl0 b o b' o' d c hr =>
    simp only [slV] at h
    cases el : optInt 0 lo with
    | none => simp [el] at h
    | some l =>
      cases eh : optInt 0 hi with
      | none => simp [el, eh] at h
      | some m =>
        simp only [el, eh, Option.bind_some] at h
        split at h
        · rename_i hcc
          obtain ⟨rfl, hc⟩ := hcc
          cases h
          have e1 : l = 0 := by omega
          have e2 : m = 0 := by omega
          subst e1; subst e2
          refine ⟨.slice (some ⟨b', o', none⟩) 0 0, ?_, .sl0 hr⟩
          simp [Instr.sliceAt, Instr.slice, run_underlying hu, run_bounds (n := 0) (c := 0) hl hh el eh (by omega) (by omega) (by omega) (by omega), run_sizeT hz]
        · cases h
  | _ => simp [slV, Ev.dead] at h

theorem slA_sound (hS : Sim P ρ H w) {t e : TypeId} {n sz : Nat} (hu : P.underlying t = some (.array n e)) (hz : sizeT P e = some sz) {a a' v : Value} {lo hi lo' hi' : Option Value} (ha : VR ρ a a') (hl : OR ρ lo lo') (hh : OR ρ hi hi')
    (h : slA n sz a lo hi H = some v) : ∃ v', (Instr.sliceAt t a' lo' hi' none).run P w = .ok v' w ∧ VR ρ v v' := by
  cases ha with
  | @ptr b o b' d hr =>
    simp only [slA] at h
    cases el : optInt 0 lo with
    | none => simp [el] at h
    | some l =>
      cases eh : optInt n hi with
      | none => simp [el, eh] at h
      | some m =>
        simp only [el, eh, Option.bind_some] at h
        cases hcc : H.cells b with
        | none => simp [hcc] at h
        | some cs =>
        simp only [hcc, Option.bind_some] at h
        obtain ⟨c2, e2, z2, _, h7, h8⟩ := hS.cellsZ hcc hr
        have h9 := h7.1
        split at h
        · rename_i hc
          cases h
          have hb := run_bounds (P := P) (isS := false) hl hh el eh hc.1 hc.2.1 hc.2.2.1 (Nat.le_refl n) w
          by_cases e0 : n = l.toNat
          · refine ⟨.slice (some ⟨b', o + d, none⟩) 0 0, ?_, ?_⟩
            · simp [Instr.sliceAt, Instr.sureAddr, run_underlying hu, hb, run_sizeT hz, ← e0]
              omega
            · have : m.toNat - l.toNat = 0 := by omega
              rw [this]; exact .sl0 hr
          · refine ⟨.slice (some ⟨b', o + d + l.toNat * sz, none⟩) (m.toNat - l.toNat) (n - l.toNat), ?_, ?_⟩
            · simp [Instr.sliceAt, Instr.sureAddr, run_underlying hu, hb, run_sizeT hz, e0, add_none]
            · have hle : l.toNat * sz + (n - l.toNat) * sz = n * sz := by rw [← Nat.add_mul]; congr 1; omega
              have := VR.slice (ρ := ρ) (o := o + l.toNat * sz) (n := m.toNat - l.toNat) (c := sz) (c' := n - l.toNat) hr (by omega) (by omega)
              rwa [show o + l.toNat * sz + d = o + d + l.toNat * sz from by omega] at this
        · cases h
  | _ => simp [slA, Ev.dead] at h

/-! ### New memory -/
theorem new_block (hS : Sim P ρ H w) (t : TypeId) (z : Nat × Nat) {cs : List Value} {c : Array Value} (hc : CellsR ρ cs c 0) (hz : unfrozen c z) :
    Stp P ρ H w (ρ.up H.next (w.heap.size, 0) c.size) (H.new (.rw cs)) (w.alloc (.cells c t z)) := by
  refine hS.new _ _ c.size ⟨c, t, z, ?_, hc.mono (hS.le_up 0 c.size), hz, (Ren.up_sz ρ H.next (w.heap.size, 0) c.size).symm⟩
  show (w.heap.push _)[w.heap.size]? = _
  simp
theorem new_sound (hS : Sim P ρ H w) (t : TypeId) {cs : List Value} {c : Array Value} (hc : VL ρ cs c.toList) :
    Stp P ρ H w (ρ.up H.next (w.heap.size, 0) c.size) (H.new (.rw cs)) (w.alloc (.cells c t)) ∧ VR (ρ.up H.next (w.heap.size, 0) c.size) (ptr H.next 0) (.pointer (some ⟨w.heap.size, 0, none⟩)) := by
  refine ⟨new_block hS t (0, 0) (CellsR.of_VL hc) (fun o _ => by omega), ?_⟩
  have : (ρ.up H.next (w.heap.size, 0) c.size) H.next = some (w.heap.size, 0) := by simp [Ren.up]
  simpa [ptr] using VR.ptr (o := 0) this
/-- a slice of new memory -/
theorem new_slice (ρ : Ren) (i b n sz S c : Nat) (h : n ≤ c) (hS : c * sz ≤ S) : VR (ρ.up i (b, 0) S) (.slice (some ⟨i, 0, none⟩) n sz) (.slice (some ⟨b, 0, none⟩) n c) := by
  have h1 : (ρ.up i (b, 0) S) i = some (b, 0) := by simp [Ren.up]
  have h2 : (ρ.up i (b, 0) S).sz b = S := Ren.up_sz ρ i (b, 0) S
  have := VR.slice (o := 0) (n := n) (c := sz) (c' := c) h1 h (by rw [h2]; omega)
  simpa using this

/-! ### Literals -/
theorem foldl_splice (n : Nat) : ∀ (vs : List Value) (k : Nat) (cells : Array Value), ((vs.zipIdx k).foldl (fun cs (c, j) => cs.setIfInBounds (n + j) c) cells) = spliceA cells (n + k) vs
  | [], _, _ => rfl
  | v :: vs, k, cells => by simp [List.zipIdx_cons, spliceA, foldl_splice n vs, Nat.add_assoc]

theorem VL.splice : ∀ {vs vs' cs cs' : List Value} {o : Nat}, VL ρ cs cs' → VL ρ vs vs' → VL ρ (Ev.splice cs o vs) (spliceA ⟨cs'⟩ o vs').toList
  | [], vs', cs, cs', o, h, hv => by rw [hv.inv_nil]; exact h
  | v :: vs, vs', cs, cs', o, h, hv => by
    obtain ⟨v', m, rfl, h1, h2⟩ := hv.inv_cons
    simp only [Ev.splice, spliceA]
    have : (⟨cs'⟩ : Array Value).setIfInBounds o v' = ⟨cs'.set o v'⟩ := by apply Array.ext'; simp
    rw [this]
    exact VL.splice (h.set h1 o) h2

theorem fillL_sound {pl pl' : Nat → Option (Nat × Nat)} (hp : ∀ i p, pl i = some p → pl' i = some p) : ∀ (parts parts' : List (Nat × Value)) (cs r : List Value) (cs' : Array Value),
    VL ρ cs cs'.toList → parts.length = parts'.length → (∀ (i : Nat) (x x' : Nat × Value), parts[i]? = some x → parts'[i]? = some x' → x.1 = x'.1 ∧ VR ρ x.2 x'.2) → fillL pl cs parts = some r →
    ∃ r', Instr.fill pl' cs' parts' = some r' ∧ VL ρ r r'.toList
  | [], parts', cs, r, cs', hc, hl, _, h => by
    cases parts' with
    | nil => simp [fillL] at h; subst h; exact ⟨cs', by simp [Instr.fill], hc⟩
    | cons => simp at hl
  | (i, v) :: parts, parts', cs, r, cs', hc, hl, hv, h => by
    cases parts' with
    | nil => simp at hl
    | cons x' parts' =>
      obtain ⟨i', v'⟩ := x'
      obtain ⟨e1, h2⟩ := hv 0 (i, v) (i', v') rfl rfl
      simp only at e1 h2
      subst e1
      simp only [fillL] at h
      cases hpl : pl i with
      | none => simp [hpl] at h
      | some p =>
        obtain ⟨off, size⟩ := p
        simp only [hpl] at h
        cases hb : bx v with
        | none => simp [hb] at h
        | some vs =>
          simp only [hb, Option.bind_some] at h
          split at h
          · rename_i hcnd
            have hvl := bx_sound h2 hb
            have hsz : v'.cells.size = size := by rw [← Array.length_toList, ← hvl.1, hcnd.1]
            have hcs : cs.length = cs'.size := by rw [hc.1]; simp
            have := VL.splice (o := off) hc hvl
            have hfold : v'.cells.zipIdx.foldl (fun cs (c, j) => cs.setIfInBounds (off + j) c) cs' = spliceA cs' off v'.cells.toList := by
              rw [← Array.foldl_toList, Array.toList_zipIdx, foldl_splice]; rfl
            obtain ⟨r', h3, h4⟩ := fillL_sound hp parts parts' (Ev.splice cs off vs) r (spliceA cs' off v'.cells.toList) this (by simpa using hl)
              (fun j x x' hx hx' => hv (j + 1) x x' (by simpa using hx) (by simpa using hx')) h
            refine ⟨r', ?_, h4⟩
            simp only [Instr.fill, hp _ _ hpl, hsz, ne_eq, not_true, false_or, decide_false, Bool.false_or, decide_eq_true_eq]
            rw [if_neg (by have := hcnd.2; omega), hfold]
            exact h3
          · cases h

theorem run_mapM_list {α β : Type} (P : Program) (w : World) (f : α → Sem β) (g : α → β) : ∀ (l : List α), (∀ x ∈ l, (f x).run P w = .ok (g x) w) → (l.mapM f).run P w = .ok (l.map g) w
  | [], _ => by simp
  | x :: l, h => by
    rw [List.mapM_cons]
    simp only [Sem.run_bind, h x (by simp), Result.andThen_ok, run_mapM_list P w f g l (fun y hy => h y (by simp [hy])), Sem.run_pure, List.map_cons]

theorem run_mapM_array {α β : Type} (P : Program) (w : World) (f : α → Sem β) (g : α → β) (a : Array α) (h : ∀ x ∈ a.toList, (f x).run P w = .ok (g x) w) : (a.mapM f).run P w = .ok (a.map g) w := by
  rw [Array.mapM_eq_mapM_toList, Sem.run_map, run_mapM_list P w f g a.toList h, Result.andThen_ok]
  congr 1
  apply Array.ext'
  simp

theorem build_sound {t : TypeId} {z : List Value} {pl : Nat → Option (Nat × Nat)} (hz : zeroT P t = some z) (hp : placeT P t = some pl) {parts parts' : List (Nat × Value)} (hl : parts.length = parts'.length)
    (hv : ∀ (i : Nat) (x x' : Nat × Value), parts[i]? = some x → parts'[i]? = some x' → x.1 = x'.1 ∧ VR ρ x.2 x'.2) {r : List Value} (h : fillL pl z parts = some r) (w : World) :
    ∃ v', (Instr.build t parts'.toArray).run P w = .ok v' w ∧ VR ρ (.agg r.toArray) v' := by
  obtain ⟨zv, hzr, hzc, hzf⟩ := run_zeroT hz w
  have hz0 : VL ρ z zv.cells.toList := by rw [hzc]; exact VL.flat_refl hzf
  unfold placeT at hp
  cases hu : P.underlying t with
  | none => simp [hu] at hp
  | some d =>
    cases d <;> simp only [hu] at hp <;> first | (cases hp; done) | skip
    · rename_i n e
      cases hs : sizeT P e with
      | none => simp [hs] at hp
      | some s =>
        simp [hs] at hp
        subst hp
        obtain ⟨r', h1, h2⟩ := fillL_sound (pl' := fun i => some (i * s, s)) (fun i p hp => hp) parts parts' z r zv.cells hz0 hl hv h
        refine ⟨.agg r', by simp [Instr.build, hzr, run_underlying hu, run_sizeT hs, h1], ?_⟩
        have := VR.agg h2.1 h2.2
        simpa using this
    · rename_i fs
      split at hp
      case isFalse => cases hp
      rename_i hsz
      cases hp
      have hall : ∀ f ∈ fs.toList, ∃ n, sizeT P f.type = some n := fun f hf => by
        rw [List.all_eq_true] at hsz
        exact Option.isSome_iff_exists.1 (hsz f hf)
      have hm : (fs.mapM fun f => do pure (f.offset, ← sizeOf f.type) : Sem (Array (Nat × Nat))).run P w = .ok (fs.map fun f => (f.offset, (sizeT P f.type).getD 0)) w := by
        refine run_mapM_array P w _ _ fs fun f hf => ?_
        obtain ⟨n, hn⟩ := hall f hf
        simp [run_sizeT hn, hn]
      obtain ⟨r', h1, h2⟩ := fillL_sound (pl' := ((fs.map fun f => (f.offset, (sizeT P f.type).getD 0))[·]?)) (fun i p hp => by simpa [Ev.pl] using hp) parts parts' z r zv.cells hz0 hl hv h
      refine ⟨.agg r', ?_, ?_⟩
      · simp only [Instr.build, Sem.run_bind, hzr, Result.andThen_ok, run_underlying hu]
        rw [hm]
        simp only [Result.andThen_ok, h1, Sem.run_pure]
      · have := VR.agg h2.1 h2.2
        simpa using this

end Go.Ev
