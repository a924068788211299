/- The evaluator's heap against the machine's memory; what a step of both leaves as it was. -/
import Derived.Test.YtbaooebafijenaaDoorGvRel
namespace Go.Ev
open Go
set_option linter.unusedSectionVars false
variable [Tabs]

def CellsR (ρ : Ren) (cs : List Value) (c : Array Value) (d : Nat) : Prop :=
  d + cs.length ≤ c.size ∧ ∀ (i : Nat) (v : Value), cs[i]? = some v → ∃ v', c[d + i]? = some v' ∧ VR ρ v v'

def unfrozen (c : Array Value) (z : Nat × Nat) : Prop := ∀ o, o < c.size → ¬ (z.1 ≤ o ∧ o < z.2)

def BlkR (ρ : Ren) (w : World) (b' d : Nat) : Blk → Prop
  | .ro cs => ∃ c e z, w.heap[b']? = some (.cells c e z) ∧ CellsR ρ cs c d ∧ c.size = ρ.sz b'
  | .rw cs => ∃ c e z, w.heap[b']? = some (.cells c e z) ∧ CellsR ρ cs c d ∧ unfrozen c z ∧ c.size = ρ.sz b'
  | .mp es ck => d = 0 ∧ ∃ es', w.heap[b']? = some (.map es' ck) ∧ es.length = es'.size ∧
      ∀ (i : Nat) (x : MapEntry), es[i]? = some x → ∃ x', es'[i]? = some x' ∧ flat x.key = true ∧ x'.key = x.key ∧ x'.born = x.born ∧ VR ρ x.val x'.val

def Blk.opn : Blk → Bool
  | .ro _ => false
  | _ => true
def wr (H : Hp) (i : Nat) : Prop := H.lim ≤ i ∧ ∃ x, H.get i = some x ∧ x.opn = true

/-- a package variable lies where it lay at the start; what is known of it is all of it -/
def GlobR (ρ : Ren) (g : Nat) : Prop := ρ g = some (g, 0) ∧ ∀ cs, Tabs.base.get g = some (.ro cs) → ρ.sz g = cs.length
theorem GlobR.mono {ρ ρ' : Ren} (hle : ρ.le ρ') {g : Nat} (h : GlobR ρ g) : GlobR ρ' g := ⟨hle _ _ h.1, fun cs hc => (hle.sz g (g, 0) h.1).trans (h.2 cs hc)⟩

structure Sim (P : Program) (ρ : Ren) (H : Hp) (w : World) : Prop where
  blk : ∀ i x b' d, H.get i = some x → ρ i = some (b', d) → BlkR ρ w b' d x
  sep : ∀ i j b' d b'' d', wr H i → (∃ y, H.get j = some y) → i ≠ j → ρ i = some (b', d) → ρ j = some (b'', d') → b' ≠ b''
  low : ∀ i b d, ρ i = some (b, d) → i < H.next ∧ b < w.heap.size
  lim : H.lim ≤ H.next
  glob : ∀ g, g < P.globals.size → GlobR ρ g
  gn : Tabs.gn ≤ H.lim
  flr : ∀ i, i < Tabs.gn → H.get i = Tabs.base.get i
  gg : P.globals.size ≤ Tabs.gn
  tab : ∀ i x, i < Tabs.gn → Tabs.base.get i = some x → ∃ cs, x = .ro cs ∧ cs.all flD = true

structure Stp (P : Program) (ρ : Ren) (H : Hp) (w : World) (ρ' : Ren) (H' : Hp) (w' : World) : Prop where
  sim : Sim P ρ' H' w'
  ext : ρ.le ρ'
  keep : ∀ b, b < w.heap.size → (∀ i d, wr H i → ρ i ≠ some (b, d)) → w'.heap[b]? = w.heap[b]?
  size : w.heap.size ≤ w'.heap.size
  own : ∀ i b d, (wr H' i ∨ H.next ≤ i) → ρ' i = some (b, d) → b < w.heap.size → ∃ j d', wr H j ∧ ρ j = some (b, d')
  old : ∀ i p, ρ' i = some p → i < H.next → ρ i = some p
  fix : ∀ i, i < H.lim → H'.get i = H.get i
  lim : H'.lim = H.lim
  next : H.next ≤ H'.next
  tape : w'.tape = w.tape
  os : w'.os = w.os
  out : w'.output = w.output

theorem Ren.le_refl (ρ : Ren) : ρ.le ρ := ⟨fun _ _ h => h, fun _ _ _ => rfl⟩
theorem Ren.le_trans {a b c : Ren} (h : a.le b) (h' : b.le c) : a.le c := ⟨fun i p hp => h' i p (h i p hp), fun i p hp => (h'.sz i p (h i p hp)).trans (h.sz i p hp)⟩

theorem CellsR.mono {ρ ρ' : Ren} (h : ρ.le ρ') {cs : List Value} {c : Array Value} {d : Nat} (hc : CellsR ρ cs c d) : CellsR ρ' cs c d :=
  ⟨hc.1, fun i v hv => let ⟨v', h1, h2⟩ := hc.2 i v hv; ⟨v', h1, h2.mono h⟩⟩

theorem BlkR.mono {ρ ρ' : Ren} (h : ρ.le ρ') {w w' : World} {b d : Nat} {x : Blk} (hw : w'.heap[b]? = w.heap[b]?) (hz : ρ'.sz b = ρ.sz b) (hb : BlkR ρ w b d x) : BlkR ρ' w' b d x := by
  cases x with
  | ro cs => obtain ⟨c, e, z, h1, h2, h3⟩ := hb; exact ⟨c, e, z, hw.trans h1, h2.mono h, h3.trans hz.symm⟩
  | rw cs => obtain ⟨c, e, z, h1, h2, h3, h4⟩ := hb; exact ⟨c, e, z, hw.trans h1, h2.mono h, h3, h4.trans hz.symm⟩
  | mp es ck =>
    obtain ⟨hd, es', h1, h2, h3⟩ := hb
    exact ⟨hd, es', hw.trans h1, h2, fun i x hx => let ⟨x', a, b, c, e, f⟩ := h3 i x hx; ⟨x', a, b, c, e, f.mono h⟩⟩

theorem Sim.own_refl {P : Program} {ρ : Ren} {H : Hp} {w : World} (h : Sim P ρ H w) {i b d : Nat} (hw : wr H i ∨ H.next ≤ i) (hr : ρ i = some (b, d)) : ∃ j d', wr H j ∧ ρ j = some (b, d') := by
  rcases hw with hw | hw
  · exact ⟨i, d, hw, hr⟩
  · have := (h.low i b d hr).1; omega

theorem Stp.refl {P : Program} {ρ : Ren} {H : Hp} {w : World} (h : Sim P ρ H w) : Stp P ρ H w ρ H w :=
  ⟨h, Ren.le_refl ρ, fun _ _ _ => rfl, Nat.le_refl _, fun _ _ _ hw hr _ => h.own_refl hw hr, fun _ _ hp _ => hp, fun _ _ => rfl, rfl, Nat.le_refl _, rfl, rfl, rfl⟩

theorem Stp.trans {P : Program} {ρ ρ1 ρ2 : Ren} {H H1 H2 : Hp} {w w1 w2 : World} (h : Stp P ρ H w ρ1 H1 w1) (h' : Stp P ρ1 H1 w1 ρ2 H2 w2) : Stp P ρ H w ρ2 H2 w2 where
  sim := h'.sim
  ext := Ren.le_trans h.ext h'.ext
  keep := fun b hb hn => by
    rw [h'.keep b (Nat.lt_of_lt_of_le hb h.size) (fun i d hw hr => ?_), h.keep b hb hn]
    obtain ⟨j, d', hj, hj'⟩ := h.own i b d (.inl hw) hr hb
    exact hn j d' hj hj'
  size := Nat.le_trans h.size h'.size
  own := fun i b d hw hr hb => by
    by_cases hi : wr H2 i ∨ H1.next ≤ i
    · obtain ⟨j, d', hj, hj'⟩ := h'.own i b d hi hr (Nat.lt_of_lt_of_le hb h.size)
      exact h.own j b d' (.inl hj) hj' hb
    · have h1 : ¬ wr H2 i := fun x => hi (.inl x)
      have h2 : ¬ H1.next ≤ i := fun x => hi (.inr x)
      rcases hw with hw | hw
      · exact absurd hw h1
      · exact h.own i b d (.inr hw) (h'.old i _ hr (by omega)) hb
  old := fun i p hp hi => h.old i p (h'.old i p hp (Nat.lt_of_lt_of_le hi h.next)) hi
  fix := fun i hi => (h'.fix i (by rw [h.lim]; exact hi)).trans (h.fix i hi)
  lim := h'.lim.trans h.lim
  next := Nat.le_trans h.next h'.next
  tape := h'.tape.trans h.tape
  os := h'.os.trans h.os
  out := h'.out.trans h.out

def Ren.up (ρ : Ren) (i : Nat) (p : Nat × Nat) (n : Nat) : Ren := ⟨fun j => if j = i then some p else ρ j, fun b => if b = p.1 then n else ρ.sz b⟩
/-- one more block of the evaluator, of a block of the machine that is there -/
def Ren.ad (ρ : Ren) (i : Nat) (p : Nat × Nat) : Ren := ⟨fun j => if j = i then some p else ρ j, ρ.sz⟩
theorem Ren.up_get (ρ : Ren) (i : Nat) (p : Nat × Nat) (n j : Nat) : (ρ.up i p n) j = if j = i then some p else ρ j := rfl
theorem Ren.ad_get (ρ : Ren) (i : Nat) (p : Nat × Nat) (j : Nat) : (ρ.ad i p) j = if j = i then some p else ρ j := rfl
theorem Ren.up_sz (ρ : Ren) (i : Nat) (p : Nat × Nat) (n : Nat) : (ρ.up i p n).sz p.1 = n := by simp [Ren.up]

theorem Sim.none {P : Program} {ρ : Ren} {H : Hp} {w : World} (h : Sim P ρ H w) {i : Nat} (hi : H.next ≤ i) : ρ i = none := by
  cases e : ρ i with
  | none => rfl
  | some p => obtain ⟨b, d⟩ := p; have := (h.low i b d e).1; omega

theorem Sim.le_up {P : Program} {ρ : Ren} {H : Hp} {w : World} (h : Sim P ρ H w) (d n : Nat) : ρ.le (ρ.up H.next (w.heap.size, d) n) := by
  refine ⟨fun i q hq => ?_, fun i q hq => ?_⟩
  · rw [Ren.up_get]
    split
    · rename_i e; subst e; rw [h.none (Nat.le_refl _)] at hq; cases hq
    · exact hq
  · have := (h.low i q.1 q.2 hq).2
    simp only [Ren.up]
    rw [if_neg (by omega)]
theorem Sim.le_ad {P : Program} {ρ : Ren} {H : Hp} {w : World} (h : Sim P ρ H w) (p : Nat × Nat) : ρ.le (ρ.ad H.next p) := by
  refine ⟨fun i q hq => ?_, fun i q hq => rfl⟩
  rw [Ren.ad_get]
  split
  · rename_i e; subst e; rw [h.none (Nat.le_refl _)] at hq; cases hq
  · exact hq

theorem wr_new {H : Hp} {x : Blk} {i : Nat} (h : wr (H.new x) i) (hi : i ≠ H.next) : wr H i := by
  obtain ⟨h1, y, h2, h3⟩ := h
  exact ⟨h1, y, by simpa [hi] using h2, h3⟩

/-- memory is made -/
theorem Sim.new {P : Program} {ρ : Ren} {H : Hp} {w : World} (h : Sim P ρ H w) (o : Obj) (x : Blk) (n : Nat)
    (hx : BlkR (ρ.up H.next (w.heap.size, 0) n) (w.alloc o) w.heap.size 0 x) :
    Stp P ρ H w (ρ.up H.next (w.heap.size, 0) n) (H.new x) (w.alloc o) := by
  have hle := h.le_up 0 n
  have hold : ∀ b, b < w.heap.size → (w.alloc o).heap[b]? = w.heap[b]? := fun b hb => by
    show (w.heap.push o)[b]? = _
    rw [Array.getElem?_push, if_neg (Nat.ne_of_lt hb)]
  refine ⟨⟨?_, ?_, ?_, ?_, ?_, h.gn, fun i hi => by
    have h1 : i < Tabs.gn := hi
    have h2 := h.gn
    have h3 := h.lim
    rw [Hp.get_new, if_neg (by omega)]
    exact h.flr i h1, h.gg, h.tab⟩, hle, fun b hb _ => hold b hb, by simp, ?_, ?_, ?_, rfl, by simp, rfl, rfl, rfl⟩
  · intro i y b d hy hr
    rw [Ren.up_get] at hr
    split at hr
    · rename_i e
      subst e
      cases hr
      simp at hy
      subst hy
      exact hx
    · rename_i e
      simp [e] at hy
      exact (h.blk i y b d hy hr).mono hle (hold b (h.low i b d hr).2) (hle.sz i _ hr)
  · intro i j b d b2 d2 hi hj hne hri hrj
    rw [Ren.up_get] at hri hrj
    split at hri <;> split at hrj
    · omega
    · cases hri; have := (h.low j b2 d2 hrj).2; omega
    · cases hrj; have := (h.low i b d hri).2; omega
    · rename_i e1 e2
      obtain ⟨y, hy⟩ := hj
      exact h.sep i j b d b2 d2 (wr_new hi e1) ⟨y, by simpa [e2] using hy⟩ hne hri hrj
  · intro i b d hr
    rw [Ren.up_get] at hr
    split at hr
    · rename_i e; cases hr; subst e; simp
    · have := h.low i b d hr; simp; omega
  · have := h.lim; simp; omega
  · intro g hg; exact (h.glob g hg).mono hle
  · intro i b d hw hr hb
    rw [Ren.up_get] at hr
    split at hr
    · cases hr; omega
    · rename_i e
      rcases hw with hw | hw
      · exact ⟨i, d, wr_new hw e, hr⟩
      · have := (h.low i b d hr).1; omega
  · intro i p hp hi
    rw [Ren.up_get, if_neg (by omega)] at hp
    exact hp
  · intro i hi
    have := h.lim
    simp
    omega

/-- a block is given up, and another one has its place in the machine -/
theorem Sim.adopt {P : Program} {ρ : Ren} {H : Hp} {w : World} (h : Sim P ρ H w) {i b d d' : Nat} {x : Blk} (hg : H.get i = some x) (hx : x.opn = true) (hl : H.lim ≤ i) (hr : ρ i = some (b, d))
    {y : Blk} (hy : BlkR ρ w b d' y) : Stp P ρ H w (ρ.ad H.next (b, d')) ((H.del i).new y) w := by
  have hle := h.le_ad (b, d')
  have hwr : wr H i := ⟨hl, x, hg, hx⟩
  have hgn : Tabs.gn ≤ i := Nat.le_trans h.gn hl
  have hlow := h.low i b d hr
  have hget : ∀ j, ((H.del i).new y).get j = if j = H.next then some y else if j = i then Option.none else H.get j := fun j => by
    rw [Hp.get_new, Hp.next_del, Hp.get_del H hgn]
  have hwr' : ∀ j, j ≠ H.next → wr ((H.del i).new y) j → wr H j ∧ j ≠ i := by
    rintro j hj ⟨h1, z, h2, h3⟩
    rw [hget, if_neg hj] at h2
    split at h2
    · cases h2
    · rename_i e; exact ⟨⟨h1, z, h2, h3⟩, e⟩
  refine ⟨⟨?_, ?_, ?_, ?_, ?_, h.gn, fun j hj => ?_, h.gg, h.tab⟩, hle, fun _ _ _ => rfl, Nat.le_refl _, ?_, ?_, ?_, rfl, by simp, rfl, rfl, rfl⟩
  · intro j z b1 d1 hz hr1
    rw [hget] at hz
    rw [Ren.ad_get] at hr1
    split at hr1
    · rename_i e; rw [if_pos e] at hz; cases hz; cases hr1; exact hy.mono hle rfl rfl
    · rename_i e
      rw [if_neg e] at hz
      split at hz
      · cases hz
      · exact (h.blk j z b1 d1 hz hr1).mono hle rfl rfl
  · intro j k b1 d1 b2 d2 hj hk hne h1 h2
    rw [Ren.ad_get] at h1 h2
    split at h1 <;> split at h2
    · omega
    · rename_i e1 e2
      cases h1
      obtain ⟨z, hz⟩ := hk
      rw [hget, if_neg e2] at hz
      split at hz
      · cases hz
      · rename_i e3
        exact h.sep i k b d b2 d2 hwr ⟨z, hz⟩ (Ne.symm e3) hr h2
    · rename_i e1 e2
      cases h2
      obtain ⟨h3, h4⟩ := hwr' j e1 hj
      exact h.sep j i b1 d1 b d h3 ⟨x, hg⟩ h4 h1 hr
    · rename_i e1 e2
      obtain ⟨z, hz⟩ := hk
      rw [hget, if_neg e2] at hz
      split at hz
      · cases hz
      · exact h.sep j k b1 d1 b2 d2 (hwr' j e1 hj).1 ⟨z, hz⟩ hne h1 h2
  · intro j b1 d1 hr1
    rw [Ren.ad_get] at hr1
    split at hr1
    · rename_i e; cases hr1; subst e; simp; exact hlow.2
    · have := h.low j b1 d1 hr1; simp; omega
  · have := h.lim; simp; omega
  · intro g hg; exact (h.glob g hg).mono hle
  · have h1 : j < Tabs.gn := hj
    have h2 := h.gn
    have h3 := h.lim
    rw [hget, if_neg (by omega), if_neg (by omega)]
    exact h.flr j h1
  · intro j b1 d1 hw hr1 _
    rw [Ren.ad_get] at hr1
    split at hr1
    · cases hr1; exact ⟨i, d, hwr, hr⟩
    · rename_i e
      rcases hw with hw | hw
      · exact ⟨j, d1, (hwr' j e hw).1, hr1⟩
      · have := (h.low j b1 d1 hr1).1; omega
  · intro j p hp hj
    rw [Ren.ad_get, if_neg (by omega)] at hp
    exact hp
  · intro j hj
    have := h.lim
    rw [hget, if_neg (by omega), if_neg (by omega)]

/-- a block of the evaluator that stands for nothing -/
theorem Sim.ghost {P : Program} {ρ : Ren} {H : Hp} {w : World} (h : Sim P ρ H w) (x : Blk) : Stp P ρ H w ρ (H.new x) w := by
  have hno : ρ H.next = Option.none := h.none (Nat.le_refl _)
  have hne : ∀ {j p}, ρ j = some p → j ≠ H.next := fun {j p} hp e => by subst e; rw [hno] at hp; cases hp
  have hwr' : ∀ j, j ≠ H.next → wr (H.new x) j → wr H j := fun j hj hw => wr_new hw hj
  refine ⟨⟨?_, ?_, ?_, ?_, h.glob, h.gn, fun j hj => ?_, h.gg, h.tab⟩, Ren.le_refl ρ, fun _ _ _ => rfl, Nat.le_refl _, ?_, fun _ _ hp _ => hp, ?_, rfl, by simp, rfl, rfl, rfl⟩
  · intro j z b1 d1 hz hr1
    rw [Hp.get_new, if_neg (hne hr1)] at hz
    exact h.blk j z b1 d1 hz hr1
  · intro j k b1 d1 b2 d2 hj hk hn h1 h2
    obtain ⟨z, hz⟩ := hk
    rw [Hp.get_new, if_neg (hne h2)] at hz
    exact h.sep j k b1 d1 b2 d2 (hwr' j (hne h1) hj) ⟨z, hz⟩ hn h1 h2
  · intro j b1 d1 hr1
    have := h.low j b1 d1 hr1; simp; omega
  · have := h.lim; simp; omega
  · have h1 : j < Tabs.gn := hj
    have h2 := h.gn
    have h3 := h.lim
    rw [Hp.get_new, if_neg (by omega)]
    exact h.flr j h1
  · intro j b1 d1 hw hr1 _
    rcases hw with hw | hw
    · exact ⟨j, d1, hwr' j (hne hr1) hw, hr1⟩
    · have := (h.low j b1 d1 hr1).1; omega
  · intro j hj
    have := h.lim
    rw [Hp.get_new, if_neg (by omega)]

/-- a block of the machine is written anew -/
def _root_.Go.World.pb (w : World) (b : Nat) (o : Obj) : World := { w with heap := w.heap.setIfInBounds b o }

theorem World.pb_get (w : World) (b c : Nat) (o : Obj) : (w.pb b o).heap[c]? = if b = c then (if b < w.heap.size then some o else none) else w.heap[c]? := by
  simp only [World.pb, Array.getElem?_setIfInBounds]
  
/-- memory is written -/
theorem Sim.put {P : Program} {ρ : Ren} {H : Hp} {w : World} (h : Sim P ρ H w) {i b d : Nat} {x x' : Blk} {o : Obj} (hg : H.get i = some x) (hx : x.opn = true) (hl : H.lim ≤ i)
    (hr : ρ i = some (b, d)) (hB : BlkR ρ (w.pb b o) b d x') : Stp P ρ H w ρ (H.set i x') (w.pb b o) := by
  have hwr : wr H i := ⟨hl, x, hg, hx⟩
  have hwr' : ∀ j, wr (H.set i x') j → wr H j := by
    rintro j ⟨h1, y, h2, h3⟩
    by_cases e : j = i
    · subst e; exact hwr
    · exact ⟨h1, y, by simpa [e] using h2, h3⟩
  have hoth : ∀ c, c ≠ b → (w.pb b o).heap[c]? = w.heap[c]? := fun c hc => by rw [World.pb_get, if_neg (Ne.symm hc)]
  refine ⟨⟨?_, ?_, ?_, h.lim, h.glob, h.gn, fun j hj => by
    have h1 : j < Tabs.gn := hj
    have h2 := h.gn
    rw [Hp.get_set, if_neg (by omega)]
    exact h.flr j h1, h.gg, h.tab⟩, Ren.le_refl ρ, ?_, by simp [World.pb], fun j c e hw hr' _ => h.own_refl (hw.imp (hwr' j) id) hr', fun _ _ hp _ => hp, fun j hj => by rw [Hp.get_set, if_neg (by omega)], rfl, Nat.le_refl _, rfl, rfl, rfl⟩
  · intro j y c e hy hr'
    by_cases hj : j = i
    · subst hj
      simp at hy
      subst hy
      rw [hr] at hr'
      cases hr'
      exact hB
    · simp [hj] at hy
      exact (h.blk j y c e hy hr').mono (Ren.le_refl ρ) (hoth c (h.sep i j b d c e hwr ⟨y, hy⟩ (Ne.symm hj) hr hr').symm) rfl
  · intro j k c e c2 e2 hj hk hne h1 h2
    refine h.sep j k c e c2 e2 (hwr' j hj) ?_ hne h1 h2
    obtain ⟨y, hy⟩ := hk
    by_cases e : k = i
    · subst e; exact ⟨x, hg⟩
    · exact ⟨y, by simpa [e] using hy⟩
  · intro j c e hr'
    have := h.low j c e hr'
    simpa [World.pb] using this
  · intro c hc hn
    by_cases e : c = b
    · subst e; exact absurd hr (hn i d hwr)
    · exact hoth c e

/-- the world has only drawn -/
theorem Sim.same {P : Program} {ρ : Ren} {H : Hp} {w w' : World} (h : Sim P ρ H w) (hh : w'.heap = w.heap) : Sim P ρ H w' where
  blk := fun i x b d hg hr => (h.blk i x b d hg hr).mono (Ren.le_refl ρ) (by rw [hh]) rfl
  sep := h.sep
  low := fun i b d hr => by rw [hh]; exact h.low i b d hr
  lim := h.lim
  glob := h.glob
  gn := h.gn
  flr := h.flr
  gg := h.gg
  tab := h.tab
theorem Stp.drew {P : Program} {ρ : Ren} {H : Hp} {w : World} (h : Sim P ρ H w) : Stp P ρ H w ρ H w.drew :=
  ⟨h.same rfl, Ren.le_refl ρ, fun _ _ _ => rfl, Nat.le_refl _, fun _ _ _ hw hr _ => h.own_refl hw hr, fun _ _ hp _ => hp, fun _ _ => rfl, rfl, Nat.le_refl _, rfl, rfl, rfl⟩

def Ren.cut (ρ : Ren) (n : Nat) : Ren := ⟨fun i => if i < n then ρ i else none, ρ.sz⟩
theorem Ren.cut_get (ρ : Ren) (n i : Nat) : (ρ.cut n) i = if i < n then ρ i else none := rfl
theorem Ren.cut_some {ρ : Ren} {n k : Nat} {p : Nat × Nat} (h : ρ.cut n k = some p) : k < n ∧ ρ k = some p := by
  rw [Ren.cut_get] at h
  split at h
  · exact ⟨by assumption, h⟩
  · cases h
theorem Ren.cut_le (ρ : Ren) (n : Nat) : (ρ.cut n).le ρ := ⟨fun i p h => (Ren.cut_some h).2, fun _ _ _ => rfl⟩
theorem Ren.cut_mono {ρ ρ' : Ren} (h : ρ.le ρ') {n m : Nat} (hnm : n ≤ m) : (ρ.cut n).le (ρ'.cut m) := by
  refine ⟨fun i p hp => ?_, fun i p hp => h.sz i p (Ren.cut_some hp).2⟩
  obtain ⟨h1, h2⟩ := Ren.cut_some hp
  rw [Ren.cut_get, if_pos (by omega)]; exact h i p h2

theorem Hp.fl_get {i : Nat} (hi : i < Tabs.gn) : Hp.fl.get i = Tabs.base.get i := by
  have : Nat.blt i Tabs.gn = true := Nat.ble_eq_true_of_le hi
  simp [Hp.fl, Hp.get, Map.get, this]
/-- what was there at the start, alone -/
theorem Sim.floor {P : Program} {ρ : Ren} {H : Hp} {w : World} (h : Sim P ρ H w) : Sim P (ρ.cut Tabs.gn) Hp.fl w := by
  have hget : ∀ i, i < Tabs.gn → Hp.fl.get i = H.get i := fun i hi => (Hp.fl_get hi).trans (h.flr i hi).symm
  refine ⟨fun i x b d hx hr => ?_, fun i j b d b2 d2 hw _ _ hr _ => ?_, fun i b d hr => ?_, Nat.le_refl _, fun g hg => ?_, Nat.le_refl _, fun i hi => ?_, h.gg, h.tab⟩
  · obtain ⟨h1, h2⟩ := Ren.cut_some hr
    have hx' := (hget i h1).symm.trans hx
    obtain ⟨cs, rfl, hf⟩ := h.tab i x h1 ((h.flr i h1).symm.trans hx')
    obtain ⟨c, e, z, h3, ⟨h4, h5⟩, h6⟩ := h.blk i _ b d hx' h2
    refine ⟨c, e, z, h3, ⟨h4, fun j v hv => ?_⟩, h6⟩
    obtain ⟨v', h6, h7⟩ := h5 j v hv
    have hfl : flD v = true := List.all_eq_true.1 hf v (List.mem_of_getElem? hv)
    exact ⟨v', h6, h7.flD_any _ 4 hfl⟩
  · have h1 : Tabs.gn ≤ i := hw.1
    have h2 := (Ren.cut_some hr).1
    omega
  · obtain ⟨h1, h2⟩ := Ren.cut_some hr
    exact ⟨h1, (h.low i b d h2).2⟩
  · have := h.gg
    exact ⟨by rw [Ren.cut_get, if_pos (by omega)]; exact (h.glob g hg).1, (h.glob g hg).2⟩
  · exact (hget i hi).trans (h.flr i hi)

/-! ### Reads -/
theorem Sim.cellsZ {P : Program} {ρ : Ren} {H : Hp} {w : World} (h : Sim P ρ H w) {b : Nat} {cs : List Value} (hc : H.cells b = some cs) {b' d : Nat} (hr : ρ b = some (b', d)) :
    ∃ c e z, w.heap[b']? = some (.cells c e z) ∧ CellsR ρ cs c d ∧ c.size = ρ.sz b' := by
  unfold Hp.cells at hc
  split at hc
  · rename_i x hx
    cases hc
    obtain ⟨c, e, z, h1, h2, _, h4⟩ := h.blk b _ b' d hx hr
    exact ⟨c, e, z, h1, h2, h4⟩
  · rename_i x hx
    cases hc
    exact h.blk b _ b' d hx hr
  · cases hc
theorem Sim.cells {P : Program} {ρ : Ren} {H : Hp} {w : World} (h : Sim P ρ H w) {b : Nat} {cs : List Value} (hc : H.cells b = some cs) {b' d : Nat} (hr : ρ b = some (b', d)) :
    ∃ c e z, w.heap[b']? = some (.cells c e z) ∧ CellsR ρ cs c d := by
  obtain ⟨c, e, z, h1, h2, _⟩ := h.cellsZ hc hr
  exact ⟨c, e, z, h1, h2⟩

theorem cell?_of {w : World} {b o : Nat} {c : Array Value} {e : TypeId} {z : Nat × Nat} (h : w.heap[b]? = some (.cells c e z)) : w.cell? ⟨b, o, none⟩ = c[o]? := by
  simp [World.cell?, h]

theorem add_none (b o n : Nat) : Addr.add ⟨b, o, none⟩ n = ⟨b, o + n, none⟩ := by
  unfold Addr.add; split <;> simp_all

end Go.Ev
