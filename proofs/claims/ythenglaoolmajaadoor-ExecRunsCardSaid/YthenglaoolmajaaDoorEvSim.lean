/- The evaluator's heap against the machine's memory; what a step of both leaves as it was. -/
import Derived.Test.YthenglaoolmajaaDoorEvRel
namespace Go.Ev
open Go
set_option linter.unusedSectionVars false
variable [Tabs]

def CellsR (ρ : Ren) (cs : List Value) (c : Array Value) (d : Nat) : Prop :=
  d + cs.length ≤ c.size ∧ ∀ (i : Nat) (v : Value), cs[i]? = some v → ∃ v', c[d + i]? = some v' ∧ VR ρ v v'

def unfrozen (c : Array Value) (z : Nat × Nat) : Prop := ∀ o, o < c.size → ¬ (z.1 ≤ o ∧ o < z.2)

def BlkR (ρ : Ren) (w : World) (b' d : Nat) : Blk → Prop
  | .ro cs => ∃ c e z, w.heap[b']? = some (.cells c e z) ∧ CellsR ρ cs c d
  | .rw cs => ∃ c e z, w.heap[b']? = some (.cells c e z) ∧ CellsR ρ cs c d ∧ unfrozen c z
  | .mp es ck => d = 0 ∧ ∃ es', w.heap[b']? = some (.map es' ck) ∧ es.length = es'.size ∧
      ∀ (i : Nat) (x : MapEntry), es[i]? = some x → ∃ x', es'[i]? = some x' ∧ flat x.key = true ∧ x'.key = x.key ∧ x'.born = x.born ∧ VR ρ x.val x'.val

def Blk.opn : Blk → Bool
  | .ro _ => false
  | _ => true
def wr (H : Hp) (i : Nat) : Prop := H.lim ≤ i ∧ ∃ x, H.get i = some x ∧ x.opn = true

structure Sim (P : Program) (ρ : Ren) (H : Hp) (w : World) : Prop where
  blk : ∀ i x b' d, H.get i = some x → ρ i = some (b', d) → BlkR ρ w b' d x
  sep : ∀ i j b' d b'' d', wr H i → (∃ y, H.get j = some y) → i ≠ j → ρ i = some (b', d) → ρ j = some (b'', d') → b' ≠ b''
  low : ∀ i b d, ρ i = some (b, d) → i < H.next ∧ b < w.heap.size
  lim : H.lim ≤ H.next
  glob : ∀ g, g < P.globals.size → ρ g = some (g, 0)
  gn : Tabs.gn ≤ H.lim
  flr : ∀ i, i < Tabs.gn → H.get i = Tabs.base.get i
  gg : P.globals.size ≤ Tabs.gn
  tab : ∀ i x, i < Tabs.gn → Tabs.base.get i = some x → ∃ cs, x = .ro cs ∧ cs.all flat = true

structure Stp (P : Program) (ρ : Ren) (H : Hp) (w : World) (ρ' : Ren) (H' : Hp) (w' : World) : Prop where
  sim : Sim P ρ' H' w'
  ext : ρ.le ρ'
  keep : ∀ b, b < w.heap.size → (∀ i d, wr H i → ρ i ≠ some (b, d)) → w'.heap[b]? = w.heap[b]?
  size : w.heap.size ≤ w'.heap.size
  own : ∀ i b d, (wr H' i ∨ H.next ≤ i) → ρ' i = some (b, d) → b < w.heap.size → ∃ j d', wr H j ∧ ρ j = some (b, d')
  old : ∀ i p, ρ' i = some p → i < H.next → ρ i = some p
  fix : ∀ i, i < H.lim → H'.get i = H.get i
  lim : H'.lim = H.lim
  next : H.next ≤ H'.next
  tape : w'.tape = w.tape
  os : w'.os = w.os
  out : w'.output = w.output

theorem Ren.le_refl (ρ : Ren) : ρ.le ρ := fun _ _ h => h
theorem Ren.le_trans {a b c : Ren} (h : a.le b) (h' : b.le c) : a.le c := fun i p hp => h' i p (h i p hp)

theorem CellsR.mono {ρ ρ' : Ren} (h : ρ.le ρ') {cs : List Value} {c : Array Value} {d : Nat} (hc : CellsR ρ cs c d) : CellsR ρ' cs c d :=
  ⟨hc.1, fun i v hv => let ⟨v', h1, h2⟩ := hc.2 i v hv; ⟨v', h1, h2.mono h⟩⟩

theorem BlkR.mono {ρ ρ' : Ren} (h : ρ.le ρ') {w w' : World} {b d : Nat} {x : Blk} (hw : w'.heap[b]? = w.heap[b]?) (hb : BlkR ρ w b d x) : BlkR ρ' w' b d x := by
  cases x with
  | ro cs => obtain ⟨c, e, z, h1, h2⟩ := hb; exact ⟨c, e, z, hw.trans h1, h2.mono h⟩
  | rw cs => obtain ⟨c, e, z, h1, h2, h3⟩ := hb; exact ⟨c, e, z, hw.trans h1, h2.mono h, h3⟩
  | mp es ck =>
    obtain ⟨hd, es', h1, h2, h3⟩ := hb
    exact ⟨hd, es', hw.trans h1, h2, fun i x hx => let ⟨x', a, b, c, e, f⟩ := h3 i x hx; ⟨x', a, b, c, e, f.mono h⟩⟩

theorem Sim.own_refl {P : Program} {ρ : Ren} {H : Hp} {w : World} (h : Sim P ρ H w) {i b d : Nat} (hw : wr H i ∨ H.next ≤ i) (hr : ρ i = some (b, d)) : ∃ j d', wr H j ∧ ρ j = some (b, d') := by
  rcases hw with hw | hw
  · exact ⟨i, d, hw, hr⟩
  · have := (h.low i b d hr).1; omega

theorem Stp.refl {P : Program} {ρ : Ren} {H : Hp} {w : World} (h : Sim P ρ H w) : Stp P ρ H w ρ H w :=
  ⟨h, Ren.le_refl ρ, fun _ _ _ => rfl, Nat.le_refl _, fun _ _ _ hw hr _ => h.own_refl hw hr, fun _ _ hp _ => hp, fun _ _ => rfl, rfl, Nat.le_refl _, rfl, rfl, rfl⟩

theorem Stp.trans {P : Program} {ρ ρ1 ρ2 : Ren} {H H1 H2 : Hp} {w w1 w2 : World} (h : Stp P ρ H w ρ1 H1 w1) (h' : Stp P ρ1 H1 w1 ρ2 H2 w2) : Stp P ρ H w ρ2 H2 w2 where
  sim := h'.sim
  ext := Ren.le_trans h.ext h'.ext
  keep := fun b hb hn => by
    rw [h'.keep b (Nat.lt_of_lt_of_le hb h.size) (fun i d hw hr => ?_), h.keep b hb hn]
    obtain ⟨j, d', hj, hj'⟩ := h.own i b d (.inl hw) hr hb
    exact hn j d' hj hj'
  size := Nat.le_trans h.size h'.size
  own := fun i b d hw hr hb => by
    by_cases hi : wr H2 i ∨ H1.next ≤ i
    · obtain ⟨j, d', hj, hj'⟩ := h'.own i b d hi hr (Nat.lt_of_lt_of_le hb h.size)
      exact h.own j b d' (.inl hj) hj' hb
    · have h1 : ¬ wr H2 i := fun x => hi (.inl x)
      have h2 : ¬ H1.next ≤ i := fun x => hi (.inr x)
      rcases hw with hw | hw
      · exact absurd hw h1
      · exact h.own i b d (.inr hw) (h'.old i _ hr (by omega)) hb
  old := fun i p hp hi => h.old i p (h'.old i p hp (Nat.lt_of_lt_of_le hi h.next)) hi
  fix := fun i hi => (h'.fix i (by rw [h.lim]; exact hi)).trans (h.fix i hi)
  lim := h'.lim.trans h.lim
  next := Nat.le_trans h.next h'.next
  tape := h'.tape.trans h.tape
  os := h'.os.trans h.os
  out := h'.out.trans h.out

def Ren.up (ρ : Ren) (i : Nat) (p : Nat × Nat) : Ren := fun j => if j = i then some p else ρ j

theorem Sim.none {P : Program} {ρ : Ren} {H : Hp} {w : World} (h : Sim P ρ H w) {i : Nat} (hi : H.next ≤ i) : ρ i = none := by
  cases e : ρ i with
  | none => rfl
  | some p => obtain ⟨b, d⟩ := p; have := (h.low i b d e).1; omega

theorem Sim.le_up {P : Program} {ρ : Ren} {H : Hp} {w : World} (h : Sim P ρ H w) (p : Nat × Nat) : ρ.le (ρ.up H.next p) := by
  intro i q hq
  unfold Ren.up
  split
  · rename_i e; subst e; rw [h.none (Nat.le_refl _)] at hq; cases hq
  · exact hq

theorem wr_new {H : Hp} {x : Blk} {i : Nat} (h : wr (H.new x) i) (hi : i ≠ H.next) : wr H i := by
  obtain ⟨h1, y, h2, h3⟩ := h
  exact ⟨h1, y, by simpa [hi] using h2, h3⟩

/-- memory is made -/
theorem Sim.new {P : Program} {ρ : Ren} {H : Hp} {w : World} (h : Sim P ρ H w) (o : Obj) (x : Blk)
    (hx : BlkR (ρ.up H.next (w.heap.size, 0)) (w.alloc o) w.heap.size 0 x) :
    Stp P ρ H w (ρ.up H.next (w.heap.size, 0)) (H.new x) (w.alloc o) := by
  have hle := h.le_up (w.heap.size, 0)
  have hold : ∀ b, b < w.heap.size → (w.alloc o).heap[b]? = w.heap[b]? := fun b hb => by
    show (w.heap.push o)[b]? = _
    rw [Array.getElem?_push, if_neg (Nat.ne_of_lt hb)]
  refine ⟨⟨?_, ?_, ?_, ?_, ?_, h.gn, fun i hi => by
    have h1 : i < Tabs.gn := hi
    have h2 := h.gn
    have h3 := h.lim
    rw [Hp.get_new, if_neg (by omega)]
    exact h.flr i h1, h.gg, h.tab⟩, hle, fun b hb _ => hold b hb, by simp, ?_, ?_, ?_, rfl, by simp, rfl, rfl, rfl⟩
  · intro i y b d hy hr
    unfold Ren.up at hr
    split at hr
    · rename_i e
      subst e
      cases hr
      simp at hy
      subst hy
      exact hx
    · rename_i e
      simp [e] at hy
      exact (h.blk i y b d hy hr).mono hle (hold b (h.low i b d hr).2)
  · intro i j b d b2 d2 hi hj hne hri hrj
    unfold Ren.up at hri hrj
    split at hri <;> split at hrj
    · omega
    · cases hri; have := (h.low j b2 d2 hrj).2; omega
    · cases hrj; have := (h.low i b d hri).2; omega
    · rename_i e1 e2
      obtain ⟨y, hy⟩ := hj
      exact h.sep i j b d b2 d2 (wr_new hi e1) ⟨y, by simpa [e2] using hy⟩ hne hri hrj
  · intro i b d hr
    unfold Ren.up at hr
    split at hr
    · rename_i e; cases hr; subst e; simp
    · have := h.low i b d hr; simp; omega
  · have := h.lim; simp; omega
  · intro g hg; exact hle _ _ (h.glob g hg)
  · intro i b d hw hr hb
    unfold Ren.up at hr
    split at hr
    · cases hr; omega
    · rename_i e
      rcases hw with hw | hw
      · exact ⟨i, d, wr_new hw e, hr⟩
      · have := (h.low i b d hr).1; omega
  · intro i p hp hi
    unfold Ren.up at hp
    rw [if_neg (by omega)] at hp
    exact hp
  · intro i hi
    have := h.lim
    simp
    omega

/-- a block of the machine is written anew -/
def _root_.Go.World.pb (w : World) (b : Nat) (o : Obj) : World := { w with heap := w.heap.setIfInBounds b o }

theorem World.pb_get (w : World) (b c : Nat) (o : Obj) : (w.pb b o).heap[c]? = if b = c then (if b < w.heap.size then some o else none) else w.heap[c]? := by
  simp only [World.pb, Array.getElem?_setIfInBounds]
  
/-- memory is written -/
theorem Sim.put {P : Program} {ρ : Ren} {H : Hp} {w : World} (h : Sim P ρ H w) {i b d : Nat} {x x' : Blk} {o : Obj} (hg : H.get i = some x) (hx : x.opn = true) (hl : H.lim ≤ i)
    (hr : ρ i = some (b, d)) (hB : BlkR ρ (w.pb b o) b d x') : Stp P ρ H w ρ (H.set i x') (w.pb b o) := by
  have hwr : wr H i := ⟨hl, x, hg, hx⟩
  have hwr' : ∀ j, wr (H.set i x') j → wr H j := by
    rintro j ⟨h1, y, h2, h3⟩
    by_cases e : j = i
    · subst e; exact hwr
    · exact ⟨h1, y, by simpa [e] using h2, h3⟩
  have hoth : ∀ c, c ≠ b → (w.pb b o).heap[c]? = w.heap[c]? := fun c hc => by rw [World.pb_get, if_neg (Ne.symm hc)]
  refine ⟨⟨?_, ?_, ?_, h.lim, h.glob, h.gn, fun j hj => by
    have h1 : j < Tabs.gn := hj
    have h2 := h.gn
    rw [Hp.get_set, if_neg (by omega)]
    exact h.flr j h1, h.gg, h.tab⟩, Ren.le_refl ρ, ?_, by simp [World.pb], fun j c e hw hr' _ => h.own_refl (hw.imp (hwr' j) id) hr', fun _ _ hp _ => hp, fun j hj => by rw [Hp.get_set, if_neg (by omega)], rfl, Nat.le_refl _, rfl, rfl, rfl⟩
  · intro j y c e hy hr'
    by_cases hj : j = i
    · subst hj
      simp at hy
      subst hy
      rw [hr] at hr'
      cases hr'
      exact hB
    · simp [hj] at hy
      exact (h.blk j y c e hy hr').mono (Ren.le_refl ρ) (hoth c (h.sep i j b d c e hwr ⟨y, hy⟩ (Ne.symm hj) hr hr').symm)
  · intro j k c e c2 e2 hj hk hne h1 h2
    refine h.sep j k c e c2 e2 (hwr' j hj) ?_ hne h1 h2
    obtain ⟨y, hy⟩ := hk
    by_cases e : k = i
    · subst e; exact ⟨x, hg⟩
    · exact ⟨y, by simpa [e] using hy⟩
  · intro j c e hr'
    have := h.low j c e hr'
    simpa [World.pb] using this
  · intro c hc hn
    by_cases e : c = b
    · subst e; exact absurd hr (hn i d hwr)
    · exact hoth c e

/-- the world has only drawn -/
theorem Sim.same {P : Program} {ρ : Ren} {H : Hp} {w w' : World} (h : Sim P ρ H w) (hh : w'.heap = w.heap) : Sim P ρ H w' where
  blk := fun i x b d hg hr => (h.blk i x b d hg hr).mono (Ren.le_refl ρ) (by rw [hh])
  sep := h.sep
  low := fun i b d hr => by rw [hh]; exact h.low i b d hr
  lim := h.lim
  glob := h.glob
  gn := h.gn
  flr := h.flr
  gg := h.gg
  tab := h.tab
theorem Stp.drew {P : Program} {ρ : Ren} {H : Hp} {w : World} (h : Sim P ρ H w) : Stp P ρ H w ρ H w.drew :=
  ⟨h.same rfl, Ren.le_refl ρ, fun _ _ _ => rfl, Nat.le_refl _, fun _ _ _ hw hr _ => h.own_refl hw hr, fun _ _ hp _ => hp, fun _ _ => rfl, rfl, Nat.le_refl _, rfl, rfl, rfl⟩

def Ren.cut (ρ : Ren) (n : Nat) : Ren := fun i => if i < n then ρ i else none
theorem Ren.cut_le (ρ : Ren) (n : Nat) : (ρ.cut n).le ρ := by
  intro i p h
  unfold Ren.cut at h
  split at h
  · exact h
  · cases h
theorem Ren.cut_mono {ρ ρ' : Ren} (h : ρ.le ρ') {n m : Nat} (hnm : n ≤ m) : (ρ.cut n).le (ρ'.cut m) := by
  intro i p hp
  unfold Ren.cut at *
  split at hp
  · rw [if_pos (by omega)]; exact h i p hp
  · cases hp
theorem Ren.cut_some {ρ : Ren} {n k : Nat} {p : Nat × Nat} (h : ρ.cut n k = some p) : k < n ∧ ρ k = some p := by
  unfold Ren.cut at h
  split at h
  · exact ⟨by assumption, h⟩
  · cases h

/-- what was there at the start, alone -/
theorem Sim.floor {P : Program} {ρ : Ren} {H : Hp} {w : World} (h : Sim P ρ H w) : Sim P (ρ.cut Tabs.gn) Hp.fl w := by
  have hget : ∀ i, i < Tabs.gn → Hp.fl.get i = H.get i := fun i hi => (h.flr i hi).symm
  refine ⟨fun i x b d hx hr => ?_, fun i j b d b2 d2 hw _ _ hr _ => ?_, fun i b d hr => ?_, Nat.le_refl _, fun g hg => ?_, Nat.le_refl _, fun i hi => ?_, h.gg, h.tab⟩
  · obtain ⟨h1, h2⟩ := Ren.cut_some hr
    have hx' := (hget i h1).symm.trans hx
    obtain ⟨cs, rfl, hf⟩ := h.tab i x h1 ((h.flr i h1).symm.trans hx')
    obtain ⟨c, e, z, h3, h4, h5⟩ := h.blk i _ b d hx' h2
    refine ⟨c, e, z, h3, h4, fun j v hv => ?_⟩
    obtain ⟨v', h6, h7⟩ := h5 j v hv
    have hfl : flat v = true := List.all_eq_true.1 hf v (List.mem_of_getElem? hv)
    exact ⟨v', h6, by rw [h7.flat_eq hfl]; exact VR.flatN_refl 4 v hfl⟩
  · have h1 : Tabs.gn ≤ i := hw.1
    have h2 := (Ren.cut_some hr).1
    omega
  · obtain ⟨h1, h2⟩ := Ren.cut_some hr
    exact ⟨h1, (h.low i b d h2).2⟩
  · have := h.gg
    simp only [Ren.cut]
    rw [if_pos (by omega)]
    exact h.glob g hg
  · exact (hget i hi).trans (h.flr i hi)

/-! ### Reads -/
theorem Sim.cells {P : Program} {ρ : Ren} {H : Hp} {w : World} (h : Sim P ρ H w) {b : Nat} {cs : List Value} (hc : H.cells b = some cs) {b' d : Nat} (hr : ρ b = some (b', d)) :
    ∃ c e z, w.heap[b']? = some (.cells c e z) ∧ CellsR ρ cs c d := by
  unfold Hp.cells at hc
  split at hc
  · rename_i x hx
    cases hc
    obtain ⟨c, e, z, h1, h2, _⟩ := h.blk b _ b' d hx hr
    exact ⟨c, e, z, h1, h2⟩
  · rename_i x hx
    cases hc
    exact h.blk b _ b' d hx hr
  · cases hc

theorem cell?_of {w : World} {b o : Nat} {c : Array Value} {e : TypeId} {z : Nat × Nat} (h : w.heap[b]? = some (.cells c e z)) : w.cell? ⟨b, o, none⟩ = c[o]? := by
  simp [World.cell?, h]

theorem add_none (b o n : Nat) : Addr.add ⟨b, o, none⟩ n = ⟨b, o + n, none⟩ := by
  unfold Addr.add; split <;> simp_all

end Go.Ev
