/- The relation between the evaluator's heap and the machine's memory: addresses renamed. -/
import Derived.Test.YtbaooebafijenaaDoorGvDef
import Derived.Tactics
import Derived.Laws.Sem
import Derived.Laws.World
namespace Go.Ev
open Go
set_option linter.unusedSectionVars false
variable [Tabs]

/-! ### Maps -/
theorem Map.get_putF {α : Type} (x : Option α) : ∀ (f k j : Nat) (m : Map α), k < f → (Map.putF f m k x).get j = if j = k then x else m.get j
  | 0, _, _, _, h => by omega
  | f + 1, 0, j, .lf, _ => by
    cases j with
    | zero => simp [Map.putF, Map.get]
    | succ j => simp [Map.putF, Map.get]
  | f + 1, 0, j, .nd l v r, _ => by
    cases j with
    | zero => simp [Map.putF, Map.get]
    | succ j => simp [Map.putF, Map.get]
  | f + 1, k + 1, j, .lf, h => by
    have ih := fun j => Map.get_putF x f (k / 2) j (.lf : Map α) (by omega)
    cases j with
    | zero => by_cases hk : k % 2 = 0 <;> simp [Map.putF, Map.get, hk]
    | succ j =>
      by_cases hk : k % 2 = 0 <;> by_cases hj : j % 2 = 0 <;> simp [Map.putF, Map.get, hk, hj, ih] <;> (try omega)
      · by_cases e : j = k
        · simp [e]
        · rw [if_neg (by omega), if_neg e]
      · by_cases e : j = k
        · simp [e]
        · rw [if_neg (by omega), if_neg e]
  | f + 1, k + 1, j, .nd l v r, h => by
    have ihl := fun j => Map.get_putF x f (k / 2) j l (by omega)
    have ihr := fun j => Map.get_putF x f (k / 2) j r (by omega)
    cases j with
    | zero => by_cases hk : k % 2 = 0 <;> simp [Map.putF, Map.get, hk]
    | succ j =>
      by_cases hk : k % 2 = 0 <;> by_cases hj : j % 2 = 0 <;> simp [Map.putF, Map.get, hk, hj, ihl, ihr] <;> (try omega)
      · by_cases e : j = k
        · simp [e]
        · rw [if_neg (by omega), if_neg e]
      · by_cases e : j = k
        · simp [e]
        · rw [if_neg (by omega), if_neg e]

theorem Map.get_put {α : Type} (m : Map α) (k j : Nat) (x : Option α) : (m.put k x).get j = if j = k then x else m.get j :=
  Map.get_putF x (k + 1) k j m (by omega)

@[simp] theorem Hp.get_new (H : Hp) (x : Blk) (j : Nat) : (H.new x).get j = if j = H.next then some x else H.get j := by
  by_cases h : j = H.next <;> simp [Hp.new, Hp.get, Map.get_put, h]
@[simp] theorem Hp.get_set (H : Hp) (b : Nat) (x : Blk) (j : Nat) : (H.set b x).get j = if j = b then some x else H.get j := by
  by_cases h : j = b <;> simp [Hp.set, Hp.get, Map.get_put, h]
theorem Hp.get_del (H : Hp) {b : Nat} (hb : Tabs.gn ≤ b) (j : Nat) : (H.del b).get j = if j = b then none else H.get j := by
  have : Nat.blt b Tabs.gn = false := by
    cases h : Nat.blt b Tabs.gn with
    | false => rfl
    | true => exact absurd (Nat.le_of_ble_eq_true h) (by omega)
  by_cases h : j = b
  · subst h; simp [Hp.del, Hp.get, Map.get_put, this]
  · simp [Hp.del, Hp.get, Map.get_put, h]
@[simp] theorem Hp.next_del (H : Hp) (b : Nat) : (H.del b).next = H.next := rfl
@[simp] theorem Hp.lim_del (H : Hp) (b : Nat) : (H.del b).lim = H.lim := rfl
@[simp] theorem Hp.next_new (H : Hp) (x : Blk) : (H.new x).next = H.next + 1 := rfl
@[simp] theorem Hp.next_set (H : Hp) (b : Nat) (x : Blk) : (H.set b x).next = H.next := rfl
@[simp] theorem Hp.lim_new (H : Hp) (x : Blk) : (H.new x).lim = H.lim := rfl
@[simp] theorem Hp.lim_set (H : Hp) (b : Nat) (x : Blk) : (H.set b x).lim = H.lim := rfl

/-! ### Values -/
/-- where a block of the evaluator lies in the machine; how many cells a block of the machine has -/
structure Ren where
  f : Nat → Option (Nat × Nat)
  sz : Nat → Nat
instance : CoeFun Ren (fun _ => Nat → Option (Nat × Nat)) := ⟨Ren.f⟩
structure Ren.le (ρ ρ' : Ren) : Prop where
  f : ∀ i p, ρ i = some p → ρ' i = some p
  sz : ∀ i p, ρ i = some p → ρ'.sz p.1 = ρ.sz p.1
instance {ρ ρ' : Ren} : CoeFun (Ren.le ρ ρ') (fun _ => ∀ i p, ρ i = some p → ρ' i = some p) := ⟨Ren.le.f⟩

inductive VR (ρ : Ren) : Value → Value → Prop
  | dead (v : Value) : VR ρ dead v
  | bool (b : Bool) : VR ρ (.bool b) (.bool b)
  | int (k : IntKind) (n : Int) : VR ρ (.int k n) (.int k n)
  | float (k : FloatKind) (n : Nat) : VR ρ (.float k n) (.float k n)
  | complex (k : FloatKind) (a b : Nat) : VR ρ (.complex k a b) (.complex k a b)
  | string (s : ByteArray) : VR ρ (.string s) (.string s)
  | pnil : VR ρ (.pointer none) (.pointer none)
  | ptr {b o b' d : Nat} (h : ρ b = some (b', d)) : VR ρ (.pointer (some ⟨b, o, none⟩)) (.pointer (some ⟨b', o + d, none⟩))
  | snil : VR ρ (.slice none 0 0) (.slice none 0 0)
  | slice {b o b' d n c c' : Nat} (h : ρ b = some (b', d)) (hc : n ≤ c') (hr : o + d + c' * c ≤ ρ.sz b') : VR ρ (.slice (some ⟨b, o, none⟩) n c) (.slice (some ⟨b', o + d, none⟩) n c')
  | sl0 {b o b' o' d c : Nat} (h : ρ b = some (b', d)) : VR ρ (.slice (some ⟨b, o, none⟩) 0 c) (.slice (some ⟨b', o', none⟩) 0 0)
  | mnil : VR ρ (.map none) (.map none)
  | map {r r' : Nat} (h : ρ r = some (r', 0)) : VR ρ (.map (some r)) (.map (some r'))
  | cnil : VR ρ (.chan none) (.chan none)
  | fnil : VR ρ .nilFunc .nilFunc
  | inil : VR ρ .nilIface .nilIface
  | func {fn : Fn} {f f' c c' : List Value} (hf : f.length = f'.length) (hf' : ∀ i, i < f.length → VR ρ (f.getD i undef) (f'.getD i undef))
      (hc : c.length = c'.length) (hc' : ∀ i, i < c.length → VR ρ (c.getD i undef) (c'.getD i undef)) : VR ρ (.func fn ⟨f⟩ ⟨c⟩) (.func fn ⟨f'⟩ ⟨c'⟩)
  | iface {t : TypeId} {v v' : Value} (h : VR ρ v v') : VR ρ (.iface t v) (.iface t v')
  | agg {l l' : List Value} (hs : l.length = l'.length) (h : ∀ i, i < l.length → VR ρ (l.getD i undef) (l'.getD i undef)) : VR ρ (.agg ⟨l⟩) (.agg ⟨l'⟩)
  | tuple {l l' : List Value} (hs : l.length = l'.length) (h : ∀ i, i < l.length → VR ρ (l.getD i undef) (l'.getD i undef)) : VR ρ (.tuple ⟨l⟩) (.tuple ⟨l'⟩)

/-- rows of values -/
def VL (ρ : Ren) (l l' : List Value) : Prop := l.length = l'.length ∧ ∀ i, i < l.length → VR ρ (l.getD i undef) (l'.getD i undef)

theorem VR.mono {ρ ρ' : Ren} (hρ : ρ.le ρ') {v v' : Value} (h : VR ρ v v') : VR ρ' v v' := by
  induction h with
  | dead v => exact .dead v
  | bool b => exact .bool b
  | int k n => exact .int k n
  | float k n => exact .float k n
  | complex k a b => exact .complex k a b
  | string s => exact .string s
  | pnil => exact .pnil
  | ptr h => exact .ptr (hρ _ _ h)
  | snil => exact .snil
  | slice h hc hr => exact .slice (hρ _ _ h) hc (by rw [hρ.sz _ _ h]; exact hr)
  | sl0 h => exact .sl0 (hρ _ _ h)
  | mnil => exact .mnil
  | map h => exact .map (hρ _ _ h)
  | cnil => exact .cnil
  | fnil => exact .fnil
  | inil => exact .inil
  | func hf _ hc _ i1 i2 => exact .func hf i1 hc i2
  | iface _ ih => exact .iface ih
  | agg hs _ ih => exact .agg hs ih
  | tuple hs _ ih => exact .tuple hs ih

theorem VL.mono {ρ ρ' : Ren} (hρ : ρ.le ρ') {l l' : List Value} (h : VL ρ l l') : VL ρ' l l' := ⟨h.1, fun i hi => (h.2 i hi).mono hρ⟩
theorem VL.nil {ρ : Ren} : VL ρ [] [] := ⟨rfl, fun i hi => by simp at hi⟩
theorem VL.cons {ρ : Ren} {v v' : Value} {l l' : List Value} (h : VR ρ v v') (hl : VL ρ l l') : VL ρ (v :: l) (v' :: l') := by
  refine ⟨by simp [hl.1], fun i hi => ?_⟩
  cases i with
  | zero => simpa using h
  | succ i => simpa using hl.2 i (by simpa using hi)
theorem VL.head {ρ : Ren} {v v' : Value} {l l' : List Value} (h : VL ρ (v :: l) (v' :: l')) : VR ρ v v' := by simpa using h.2 0 (by simp)
theorem VL.tail {ρ : Ren} {v v' : Value} {l l' : List Value} (h : VL ρ (v :: l) (v' :: l')) : VL ρ l l' :=
  ⟨by simpa using h.1, fun i hi => by simpa using h.2 (i + 1) (by simpa using hi)⟩
theorem VL.inv_cons {ρ : Ren} {v : Value} {l l' : List Value} (h : VL ρ (v :: l) l') : ∃ v' m, l' = v' :: m ∧ VR ρ v v' ∧ VL ρ l m := by
  cases l' with
  | nil => simp [VL] at h
  | cons v' m => exact ⟨v', m, rfl, h.head, h.tail⟩
theorem VL.inv_nil {ρ : Ren} {l' : List Value} (h : VL ρ [] l') : l' = [] := by
  have := h.1
  cases l' with
  | nil => rfl
  | cons => simp at this
theorem VL.append {ρ : Ren} {a a' b b' : List Value} (ha : VL ρ a a') (hb : VL ρ b b') : VL ρ (a ++ b) (a' ++ b') := by
  induction a generalizing a' with
  | nil => rw [ha.inv_nil]; exact hb
  | cons v a ih =>
    obtain ⟨v', m, rfl, h1, h2⟩ := ha.inv_cons
    exact VL.cons h1 (ih h2)
theorem VL.get {ρ : Ren} {l l' : List Value} (h : VL ρ l l') {i : Nat} {v : Value} (hv : l[i]? = some v) : ∃ v', l'[i]? = some v' ∧ VR ρ v v' := by
  obtain ⟨hi, e⟩ := List.getElem?_eq_some_iff.1 hv
  have h2 := h.2 i hi
  have hi' : i < l'.length := h.1 ▸ hi
  refine ⟨l'[i], by simp [hi'], ?_⟩
  simpa [List.getD_eq_getElem?_getD, hi, hi', e] using h2
theorem VL.of_get {ρ : Ren} {l l' : List Value} (hs : l.length = l'.length) (h : ∀ (i : Nat) (v v' : Value), l[i]? = some v → l'[i]? = some v' → VR ρ v v') : VL ρ l l' := by
  refine ⟨hs, fun i hi => ?_⟩
  have hi' : i < l'.length := hs ▸ hi
  have := h i l[i] l'[i] (by simp [hi]) (by simp [hi'])
  simpa [List.getD_eq_getElem?_getD, hi, hi'] using this
theorem VL.set {ρ : Ren} {l l' : List Value} (h : VL ρ l l') {v v' : Value} (hv : VR ρ v v') (i : Nat) : VL ρ (l.set i v) (l'.set i v') := by
  refine VL.of_get (by simp [h.1]) fun j u u' hu hu' => ?_
  rw [List.getElem?_set] at hu hu'
  by_cases e : i = j
  · subst e
    simp only [if_true] at hu hu'
    by_cases hi : i < l.length
    · rw [if_pos hi] at hu; rw [if_pos (h.1 ▸ hi)] at hu'
      cases hu; cases hu'; exact hv
    · rw [if_neg hi] at hu; cases hu
  · simp only [e, if_false] at hu hu'
    obtain ⟨w, hw, hr⟩ := h.get hu
    rw [hu'] at hw; cases hw; exact hr
theorem VL.drop {ρ : Ren} {l l' : List Value} (h : VL ρ l l') (i : Nat) : VL ρ (l.drop i) (l'.drop i) := by
  refine VL.of_get (by simp [h.1]) fun j u u' hu hu' => ?_
  rw [List.getElem?_drop] at hu hu'
  obtain ⟨w, hw, hr⟩ := h.get hu
  rw [hu'] at hw; cases hw; exact hr
theorem VL.take {ρ : Ren} {l l' : List Value} (h : VL ρ l l') (i : Nat) : VL ρ (l.take i) (l'.take i) := by
  refine VL.of_get (by simp [h.1]) fun j u u' hu hu' => ?_
  rw [List.getElem?_take] at hu hu'
  split at hu
  · rename_i hj
    rw [if_pos hj] at hu'
    obtain ⟨w, hw, hr⟩ := h.get hu
    rw [hu'] at hw; cases hw; exact hr
  · cases hu

/-- a value without addresses stands for itself -/
theorem VR.flatN_eq {ρ : Ren} {v v' : Value} (h : VR ρ v v') : ∀ n, flatN n v = true → v' = v := by
  induction h with
  | dead v => intro n h; cases n <;> simp [Ev.dead, flatN] at h
  | bool b => intro _ _; rfl
  | int k n => intro _ _; rfl
  | float k n => intro _ _; rfl
  | complex k a b => intro _ _; rfl
  | string s => intro _ _; rfl
  | pnil => intro _ _; rfl
  | ptr h => intro n h; cases n <;> simp [flatN] at h
  | snil => intro _ _; rfl
  | slice h hc hr => intro n h; cases n <;> simp [flatN] at h
  | sl0 _ => intro n h; cases n <;> simp [flatN] at h
  | mnil => intro _ _; rfl
  | map h => intro n h; cases n <;> simp [flatN] at h
  | cnil => intro _ _; rfl
  | fnil => intro _ _; rfl
  | inil => intro _ _; rfl
  | func hf _ hc _ i1 i2 => intro n h; cases n <;> simp [flatN] at h
  | iface _ ih =>
    intro n h
    cases n with
    | zero => simp [flatN] at h
    | succ n => simp only [flatN] at h; rw [ih n h]
  | @agg l l' hs _ ih =>
    intro n h
    cases n with
    | zero => simp [flatN] at h
    | succ n =>
      simp only [flatN, List.all_eq_true] at h
      congr 2
      apply List.ext_getElem hs.symm
      intro i h1 h2
      have := ih i h2 n (by
        have := h (l[i]'h2) (List.getElem_mem h2)
        simpa [List.getD_eq_getElem?_getD, h2] using this)
      simpa [List.getD_eq_getElem?_getD, h1, h2] using this
  | @tuple l l' hs _ ih =>
    intro n h
    cases n with
    | zero => simp [flatN] at h
    | succ n =>
      simp only [flatN, List.all_eq_true] at h
      congr 2
      apply List.ext_getElem hs.symm
      intro i h1 h2
      have := ih i h2 n (by
        have := h (l[i]'h2) (List.getElem_mem h2)
        simpa [List.getD_eq_getElem?_getD, h2] using this)
      simpa [List.getD_eq_getElem?_getD, h1, h2] using this
theorem VR.flat_eq {ρ : Ren} {v v' : Value} (h : VR ρ v v') (hf : flat v = true) : v' = v := h.flatN_eq 4 hf

theorem VR.flatN_refl {ρ : Ren} : ∀ (n : Nat) (v : Value), flatN n v = true → VR ρ v v
  | _, .bool _, _ => .bool _
  | _, .int .., _ => .int ..
  | _, .float .., _ => .float ..
  | _, .complex .., _ => .complex ..
  | _, .string _, _ => .string _
  | _, .pointer none, _ => .pnil
  | _, .pointer (some _), h => by rename_i n _; cases n <;> simp [flatN] at h
  | n, .slice none l c, h => by
    have : l = 0 ∧ c = 0 := by
      cases n <;> (cases l <;> cases c <;> simp [flatN] at h ⊢)
    obtain ⟨rfl, rfl⟩ := this
    exact .snil
  | n, .slice (some _) l c, h => by cases n <;> simp [flatN] at h
  | _, .map none, _ => .mnil
  | n, .map (some _), h => by cases n <;> simp [flatN] at h
  | _, .chan none, _ => .cnil
  | n, .chan (some _), h => by cases n <;> simp [flatN] at h
  | _, .nilFunc, _ => .fnil
  | n, .func .., h => by cases n <;> simp [flatN] at h
  | _, .nilIface, _ => .inil
  | 0, .iface .., h => by simp [flatN] at h
  | n + 1, .iface t v, h => .iface (VR.flatN_refl n v (by simpa [flatN] using h))
  | 0, .agg .., h => by simp [flatN] at h
  | n + 1, .agg ⟨l⟩, h => .agg rfl fun i hi => VR.flatN_refl n _ (by
      simp only [flatN, List.all_eq_true] at h
      exact h _ (by simp [List.getD_eq_getElem?_getD, hi]))
  | 0, .tuple .., h => by simp [flatN] at h
  | n + 1, .tuple ⟨l⟩, h => .tuple rfl fun i hi => VR.flatN_refl n _ (by
      simp only [flatN, List.all_eq_true] at h
      exact h _ (by simp [List.getD_eq_getElem?_getD, hi]))

/-- a value in which no address is named stands for the same whatever the renaming -/
theorem VR.flD_any {ρ : Ren} {v v' : Value} (h : VR ρ v v') (ρ' : Ren) : ∀ n, flDN n v = true → VR ρ' v v' := by
  induction h with
  | dead v => intro _ _; exact .dead v
  | bool b => intro _ _; exact .bool b
  | int k n => intro _ _; exact .int k n
  | float k n => intro _ _; exact .float k n
  | complex k a b => intro _ _; exact .complex k a b
  | string s => intro _ _; exact .string s
  | pnil => intro _ _; exact .pnil
  | ptr h => intro n h; cases n <;> simp [flDN] at h
  | snil => intro _ _; exact .snil
  | slice h hc hr => intro n h; cases n <;> simp [flDN] at h
  | sl0 _ => intro n h; cases n <;> simp [flDN] at h
  | mnil => intro _ _; exact .mnil
  | map h => intro n h; cases n <;> simp [flDN] at h
  | cnil => intro _ _; exact .cnil
  | fnil => intro _ _; exact .fnil
  | inil => intro _ _; exact .inil
  | func hf _ hc _ i1 i2 => intro n h; cases n <;> simp [flDN] at h
  | iface _ ih =>
    intro n h
    cases n with
    | zero => simp [flDN] at h
    | succ n => exact .iface (ih n (by simpa [flDN] using h))
  | @agg l l' hs _ ih =>
    intro n h
    cases n with
    | zero => simp [flDN] at h
    | succ n =>
      simp only [flDN, List.all_eq_true] at h
      refine .agg hs fun i hi => ih i hi n ?_
      have := h (l[i]'hi) (List.getElem_mem hi)
      simpa [List.getD_eq_getElem?_getD, hi] using this
  | @tuple l l' hs _ ih =>
    intro n h
    cases n with
    | zero => simp [flDN] at h
    | succ n =>
      simp only [flDN, List.all_eq_true] at h
      refine .tuple hs fun i hi => ih i hi n ?_
      have := h (l[i]'hi) (List.getElem_mem hi)
      simpa [List.getD_eq_getElem?_getD, hi] using this
theorem flDN_of_flatN : ∀ (n : Nat) (v : Value), flatN n v = true → flDN n v = true
  | _, .bool _, _ => by simp [flDN]
  | _, .int .., _ => by simp [flDN]
  | _, .float .., _ => by simp [flDN]
  | _, .complex .., _ => by simp [flDN]
  | _, .string _, _ => by simp [flDN]
  | _, .pointer none, _ => by simp [flDN]
  | n, .pointer (some _), h => by cases n <;> simp [flatN] at h
  | n, .slice none l c, h => by
    have : l = 0 ∧ c = 0 := by
      cases n <;> (cases l <;> cases c <;> simp [flatN] at h ⊢)
    obtain ⟨rfl, rfl⟩ := this
    simp [flDN]
  | n, .slice (some _) l c, h => by cases n <;> simp [flatN] at h
  | _, .map none, _ => by simp [flDN]
  | n, .map (some _), h => by cases n <;> simp [flatN] at h
  | _, .chan none, _ => by simp [flDN]
  | n, .chan (some _), h => by cases n <;> simp [flatN] at h
  | _, .nilFunc, _ => by simp [flDN]
  | n, .func .., h => by cases n <;> simp [flatN] at h
  | _, .nilIface, _ => by simp [flDN]
  | 0, .iface .., h => by simp [flatN] at h
  | n + 1, .iface t v, h => by simpa [flDN] using flDN_of_flatN n v (by simpa [flatN] using h)
  | 0, .agg .., h => by simp [flatN] at h
  | n + 1, .agg ⟨l⟩, h => by
    simp only [flDN, flatN, List.all_eq_true] at h ⊢
    exact fun x hx => flDN_of_flatN n x (h x hx)
  | 0, .tuple .., h => by simp [flatN] at h
  | n + 1, .tuple ⟨l⟩, h => by
    simp only [flDN, flatN, List.all_eq_true] at h ⊢
    exact fun x hx => flDN_of_flatN n x (h x hx)
theorem flD_of_flat {v : Value} (h : flat v = true) : flD v = true := flDN_of_flatN 4 v h
theorem all_flD_of_flat {l : List Value} (h : l.all flat = true) : l.all flD = true :=
  List.all_eq_true.2 fun x hx => flD_of_flat (List.all_eq_true.1 h x hx)
end Go.Ev
