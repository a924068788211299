/- What the machine does at an operation, held against the evaluator: maps, values behind interfaces, the greater and the smaller. -/
import Derived.Test.YtbaooebafijenaaDoorGvOps6
set_option linter.unusedSimpArgs false
namespace Go.Ev
open Go
set_option linter.unusedSectionVars false
variable [Tabs]

variable {P : Program} {ρ : Ren} {H : Hp} {w : World}

theorem zeroV_some {t : TypeId} {z : Value} (h : zeroV P t = some z) (w : World) : (zeroValue t).run P w = .ok z w ∧ flat z = true := by
  unfold zeroV at h
  cases hi : P.info? t with
  | none => simp [hi] at h
  | some i =>
    simp only [hi, Option.bind_some] at h
    cases hz : i.zero with
    | none => simp [hz] at h
    | some v =>
      simp only [hz, Option.bind_some] at h
      split at h
      · rename_i hf; cases h; exact ⟨by simp [zeroValue, run_info hi, hz], hf⟩
      · cases h

/-! ### Interfaces -/
theorem tasr_sound {t xt : TypeId} {ok : Bool} {z : Value} (ht : ∃ d, P.underlying t = some d ∧ ∀ m, d ≠ .interface m) (hz : zeroV P t = some z) {x x' v : Value} (hx : VR ρ x x') (h : tasr t ok z x = some v) (w : World) :
    ∃ v', (Instr.typeAssert x' xt t ok).run P w = .ok v' w ∧ VR ρ v v' := by
  obtain ⟨d, hd, hni⟩ := ht
  obtain ⟨hz1, hz2⟩ := zeroV_some hz w
  have zr : VR ρ z z := VR.flatN_refl 4 z hz2
  have tup : ∀ {a a' : Value} {b : Bool}, VR ρ a a' → VR ρ (.tuple #[a, .bool b]) (.tuple #[a', .bool b]) := fun {a a' b} h => by
    have : VL ρ [a, .bool b] [a', .bool b] := VL.cons h (VL.cons (.bool b) VL.nil)
    exact .tuple this.1 this.2
  cases hx with
  | @iface u y y' hy =>
    simp only [tasr] at h
    split at h
    · rename_i e
      subst e
      cases h
      refine ⟨if ok then .tuple #[y', .bool true] else y', ?_, ?_⟩
      · cases d <;> first | exact absurd rfl (hni _) | simp [Instr.typeAssert, run_underlying hd]
      · cases ok with
        | true => exact tup hy
        | false => exact hy
    · rename_i e
      split at h
      · rename_i hok
        cases h
        refine ⟨_, ?_, tup zr⟩
        cases d <;> first | exact absurd rfl (hni _) | simp [Instr.typeAssert, run_underlying hd, e, hok, hz1]
      · cases h
  | inil =>
    simp only [tasr] at h
    split at h
    · rename_i hok
      cases h
      refine ⟨_, ?_, tup zr⟩
      cases d <;> first | exact absurd rfl (hni _) | simp [Instr.typeAssert, run_underlying hd, hok, hz1]
    · cases h
  | _ => simp [tasr, Ev.dead] at h

/-! ### The greater and the smaller -/
theorem mxI_sound (mx : Bool) : ∀ (l l' : List Value) (x x' v : Value), VR ρ x x' → VL ρ l l' → mxI mx x l = some v → ∀ w, (l'.foldlM (if mx then Builtin.max2 else Builtin.min2) x').run P w = .ok v w ∧ flat v = true
  | [], l', x, x', v, hx, hl, h, w => by
    rw [hl.inv_nil]
    cases hx <;> simp [mxI, Ev.dead] at h
    subst h
    exact ⟨by simp, rfl⟩
  | y :: l, l', x, x', v, hx, hl, h, w => by
    obtain ⟨y', m, rfl, hy, hm⟩ := hl.inv_cons
    cases hx with
    | int k a =>
      cases hy with
      | int k2 b =>
        simp only [mxI] at h
        have := mxI_sound mx l m _ _ v (.int k _) hm h w
        cases mx
        · simpa [Builtin.min2] using this
        · simpa [Builtin.max2] using this
      | _ => simp [mxI, Ev.dead] at h
    | _ => simp [mxI, Ev.dead] at h

/-! ### Maps -/
def kd : Bool → TypeDesc → Prop
  | false, d => ∃ k, d = .int k
  | true, d => d = .string
theorem bytes_beq (a b : ByteArray) : (a == b) = (a.data == b.data) := by cases a; cases b; rfl
theorem sameNow_eq {q : Bool} {d : TypeDesc} (hd : kd q d) {a b : Value} {r : Bool} (h : keyEq q a b = some r) : Instr.sameNow d a b = some r := by
  cases q with
  | false =>
    obtain ⟨k, rfl⟩ := hd
    cases a <;> cases b <;> simp [keyEq] at h
    rename_i k1 a k2 b
    obtain ⟨rfl, rfl⟩ := h
    simp [Instr.sameNow]
  | true =>
    cases hd
    cases a <;> cases b <;> simp [keyEq] at h
    rename_i a b
    subst h
    exact congrArg some (bytes_beq a b)

structure EntR (ρ : Ren) (es : List MapEntry) (es' : List MapEntry) : Prop where
  len : es.length = es'.length
  get : ∀ (i : Nat) (x : MapEntry), es[i]? = some x → ∃ x', es'[i]? = some x' ∧ flat x.key = true ∧ x'.key = x.key ∧ x'.born = x.born ∧ VR ρ x.val x'.val
theorem EntR.tail {x x' : MapEntry} {es es' : List MapEntry} (h : EntR ρ (x :: es) (x' :: es')) : EntR ρ es es' :=
  ⟨by simpa using h.len, fun i y hy => by simpa using h.get (i + 1) y (by simpa using hy)⟩

theorem findE_sound {q : Bool} {d : TypeDesc} (hd : kd q d) {k : Value} : ∀ (es es' : List MapEntry) (i : Nat) (r : Option (Nat × Value)), EntR ρ es es' → findE q k es i = some r →
    ∃ r', Instr.findNow d k es' i = some r' ∧ (match r, r' with | some (j, v), some (j', v') => j = j' ∧ VR ρ v v' ∧ i ≤ j ∧ j < i + es.length ∧ ∀ x, es[j - i]? = some x → keyEq q k x.key = some true | none, none => True | _, _ => False)
  | [], es', i, r, hE, h => by
    have : es' = [] := by have := hE.len; simp at this; exact List.eq_nil_of_length_eq_zero this.symm
    subst this
    simp [findE] at h
    subst h
    exact ⟨none, by simp [Instr.findNow], trivial⟩
  | x :: es, es', i, r, hE, h => by
    cases es' with
    | nil => have := hE.len; simp at this
    | cons x' es' =>
      obtain ⟨x2, h1, h2, h3, h4, h5⟩ := hE.get 0 x rfl
      simp only [List.getElem?_cons_zero, Option.some.injEq] at h1
      subst h1
      simp only [findE] at h
      cases hk : keyEq q k x.key with
      | none => simp [hk] at h
      | some b =>
        have hs := sameNow_eq hd hk
        rw [← h3] at hs
        cases b with
        | true =>
          simp only [hk, Option.some.injEq] at h
          subst h
          exact ⟨some (i, x'.val), by simp [Instr.findNow, hs], rfl, h5, Nat.le_refl _, by simp, fun y hy => by simp at hy; subst hy; exact hk⟩
        | false =>
          simp only [hk] at h
          obtain ⟨r', h6, h7⟩ := findE_sound hd es es' (i + 1) r hE.tail h
          refine ⟨r', by simp [Instr.findNow, hs, h6], ?_⟩
          cases r with
          | none => cases r' with
            | none => trivial
            | some _ => exact h7
          | some p =>
            obtain ⟨j, v⟩ := p
            cases r' with
            | none => exact h7
            | some p' =>
              obtain ⟨j', v'⟩ := p'
              obtain ⟨e1, e2, e3, e4, e5⟩ := h7
              refine ⟨e1, e2, by omega, by simp; omega, fun y hy => e5 y ?_⟩
              rw [show j - i = (j - (i + 1)) + 1 by omega, List.getElem?_cons_succ] at hy
              exact hy

theorem checkKey_succ {q : Bool} {kt : TypeId} {d : TypeDesc} (hu : P.underlying kt = some d) (hd : kd q d) (e : Bool) (n : Nat) (k : Value) (w : World) : (Instr.checkKey e (n + 1) kt k).run P w = .ok () w := by
  cases q with
  | false => obtain ⟨k', rfl⟩ := hd; simp [Instr.checkKey, run_underlying hu]
  | true => cases hd; simp [Instr.checkKey, run_underlying hu]
theorem checkKey_plain {q : Bool} {kt : TypeId} {d : TypeDesc} (hu : P.underlying kt = some d) (hd : kd q d) (e : Bool) (k : Value) (w : World) : (Instr.checkKey e 10000 kt k).run P w = .ok () w := checkKey_succ hu hd e 9999 k w

theorem entries_sound (hS : Sim P ρ H w) {m m' : Value} (hm : VR ρ m m') {es : List MapEntry} (h : entries m H = some es) :
    (m' = .map none ∧ es = []) ∨ ∃ r es' ck, m' = .map (some r) ∧ w.heap[r]? = some (.map es' ck) ∧ EntR ρ es es'.toList := by
  cases hm with
  | mnil => simp [entries] at h; exact .inl ⟨rfl, h⟩
  | @map r r' hr =>
    simp only [entries] at h
    cases hg : H.get r with
    | none => simp [hg] at h
    | some x =>
      cases x <;> simp [hg] at h
      rename_i es0 ck
      subst h
      obtain ⟨_, es', h1, h2, h3⟩ := hS.blk r _ r' 0 hg hr
      exact .inr ⟨r', es', ck, rfl, h1, by simpa using h2, fun i x hx => by
        obtain ⟨x', a, b, c, d, e⟩ := h3 i x hx
        exact ⟨x', by simpa using a, b, c, d, e⟩⟩
  | _ => simp [entries, Ev.dead] at h

theorem run_getMap {r : Nat} {es : Array MapEntry} {ck : Nat} (h : w.heap[r]? = some (.map es ck)) : (getObj r).run P w = .ok (.map es ck) w := by
  simp [getObj, Sem.run, h]

theorem lkup_sound (hS : Sim P ρ H w) {q : Bool} {mt kt e : TypeId} {d : TypeDesc} (hu : P.underlying mt = some (.map kt e)) (hk : P.underlying kt = some d) (hd : kd q d) {z : Value} (hz : zeroV P e = some z) {ok : Bool} {m k m' k' v : Value}
    (hm : VR ρ m m') (hkv : VR ρ k k') (h : lkup q z ok m k H = some v) : ∃ v', (Instr.lookup mt m' k' ok).run P w = .ok v' w ∧ VR ρ v v' := by
  obtain ⟨hz1, hz2⟩ := zeroV_some hz w
  have zr : VR ρ z z := VR.flatN_refl 4 z hz2
  have tup : ∀ {a a' : Value} {b : Bool}, VR ρ a a' → VR ρ (.tuple #[a, .bool b]) (.tuple #[a', .bool b]) := fun {a a' b} h => by
    have : VL ρ [a, .bool b] [a', .bool b] := VL.cons h (VL.cons (.bool b) VL.nil)
    exact .tuple this.1 this.2
  simp only [lkup] at h
  cases he : entries m H with
  | none => simp [he] at h
  | some es =>
    simp only [he, Option.bind_some] at h
    cases hf : findE q k es 0 with
    | none => simp [hf] at h
    | some r =>
      simp only [hf, Option.map_some, Option.some.injEq] at h
      rcases entries_sound hS hm he with ⟨rfl, rfl⟩ | ⟨rb, es', ck, rfl, hheap, hE⟩
      · simp [findE] at hf
        subst hf
        refine ⟨if ok then .tuple #[z, .bool false] else z, ?_, ?_⟩
        · simp [Instr.lookup, run_underlying hu, checkKey_plain hk hd, Instr.findKey, run_underlying hk, Instr.findNow, hz1]
        · subst h; cases ok with
          | true => exact tup zr
          | false => exact zr
      · have hkf : k' = k ∨ r = none := by
          cases hkv with
          | int => exact .inl rfl
          | string => exact .inl rfl
          | _ =>
            right
            cases es with
            | nil => simp [findE] at hf; exact hf.symm
            | cons x es => cases q <;> simp [findE, keyEq, Ev.dead] at hf
        have hfk : ∃ r', Instr.findNow d k' es'.toList 0 = some r' ∧ (match r, r' with | some (j, v), some (j', v') => VR ρ v v' | none, none => True | _, _ => False) := by
          rcases hkf with hkk | rfl
          · obtain ⟨r', h1, h2⟩ := findE_sound hd es es'.toList 0 r hE hf
            refine ⟨r', by rw [hkk]; exact h1, ?_⟩
            cases r with
            | none => cases r' <;> exact h2
            | some p => cases r' with
              | none => exact h2
              | some p' => exact h2.2.1
          · cases es with
            | nil =>
              have : es'.toList = [] := by have := hE.len; simp at this; simp [this.symm]; exact Array.size_eq_zero_iff.1 this.symm
              rw [this]
              exact ⟨none, by simp [Instr.findNow], trivial⟩
            | cons x es =>
              obtain ⟨r', h1, h2⟩ := findE_sound hd (x :: es) es'.toList 0 none hE hf
              have hkk : k' = k := by
                cases hkv with
                | int => rfl
                | string => rfl
                | _ => cases q <;> simp [findE, keyEq, Ev.dead] at hf
              exact ⟨r', by rw [hkk]; exact h1, by cases r' <;> exact h2⟩
        obtain ⟨r', h1, h2⟩ := hfk
        cases r with
        | none =>
          cases r' with
          | some _ => exact absurd h2 (by simp)
          | none =>
            refine ⟨if ok then .tuple #[z, .bool false] else z, ?_, ?_⟩
            · simp [Instr.lookup, run_underlying hu, run_getMap hheap, checkKey_plain hk hd, Instr.findKey, run_underlying hk, h1, hz1]
            · subst h; cases ok with
              | true => exact tup zr
              | false => exact zr
        | some p =>
          obtain ⟨j, v1⟩ := p
          cases r' with
          | none => exact absurd h2 (by simp)
          | some p' =>
            obtain ⟨j', v1'⟩ := p'
            refine ⟨if ok then .tuple #[v1', .bool true] else v1', ?_, ?_⟩
            · simp [Instr.lookup, run_underlying hu, run_getMap hheap, checkKey_plain hk hd, Instr.findKey, run_underlying hk, h1]
            · subst h; cases ok with
              | true => exact tup h2
              | false => exact h2

theorem sameBits_key {q : Bool} {a b : Value} (h : keyEq q a b = some true) : Instr.sameBits 10000 b a = true := by
  cases q <;> cases a <;> cases b <;> simp [keyEq] at h
  · obtain ⟨rfl, rfl⟩ := h; simp [Instr.sameBits]
  · rename_i a b
    cases a; cases b
    subst h
    simp only [Instr.sameBits, bytes_beq, beq_self_eq_true]

theorem mupd_sound (hS : Sim P ρ H w) {q : Bool} {mt kt e : TypeId} {d : TypeDesc} (hu : P.underlying mt = some (.map kt e)) (hk : P.underlying kt = some d) (hd : kd q d) {m k v m' k' v' : Value}
    (hm : VR ρ m m') (hkv : VR ρ k k') (hv : VR ρ v v') {H' : Hp} (h : mupd q m k v H = some H') : ∃ w', (Instr.mapUpdate mt m' k' v').run P w = .ok () w' ∧ Stp P ρ H w ρ H' w' := by
  cases hm with
  | @map r r' hr =>
    simp only [mupd] at h
    split at h
    · rename_i hc
      obtain ⟨hl, hfl⟩ := hc
      have hkk : k' = k := hkv.flat_eq hfl
      subst hkk
      cases hg : H.get r with
      | none => simp [hg] at h
      | some x =>
        cases x <;> simp [hg] at h
        rename_i es ck
        obtain ⟨f, hf, rfl⟩ := h
        obtain ⟨_, es', h1, h2, h3⟩ := hS.blk r _ r' 0 hg hr
        have hE : EntR ρ es es'.toList := ⟨by simpa using h2, fun i x hx => by
          obtain ⟨x', a, b, c, d, e⟩ := h3 i x hx
          exact ⟨x', by simpa using a, b, c, d, e⟩⟩
        obtain ⟨f', h4, h5⟩ := findE_sound hd es es'.toList 0 f hE hf
        have hb : r' < w.heap.size := (Array.getElem?_eq_some_iff.1 h1).1
        have hset : ∀ o : Obj, ({ w with heap := w.heap.setIfInBounds r' o } : World) = w.pb r' o := fun _ => rfl
        cases f with
        | none =>
          cases f' with
          | some _ => exact absurd h5 (by simp)
          | none =>
            refine ⟨w.pb r' (.map (es'.push { key := k', val := v', born := ck }) (ck + 1)), ?_, hS.put (o := .map (es'.push { key := k', val := v', born := ck }) (ck + 1)) hg rfl hl hr ⟨rfl, es'.push { key := k', val := v', born := ck }, by rw [World.pb_get]; simp [hb], by simp [h2], ?_⟩⟩
            · simp [Instr.mapUpdate, run_underlying hu, run_getMap h1, checkKey_plain hk hd, Instr.findKey, run_underlying hk, h4, setObj, Sem.run, h1, World.pb]
            · intro i x hx
              by_cases hi : i < es.length
              · rw [List.getElem?_append_left hi] at hx
                obtain ⟨x', a, b, c, d2, e2⟩ := h3 i x hx
                exact ⟨x', by rw [Array.getElem?_push, if_neg (by omega)]; exact a, b, c, d2, e2⟩
              · rw [List.getElem?_append_right (by omega)] at hx
                have hi2 : i - es.length = 0 := by
                  have := (List.getElem?_eq_some_iff.1 hx).1
                  simp at this
                  omega
                rw [hi2] at hx
                simp at hx
                subst hx
                exact ⟨{ key := k', val := v', born := ck }, by rw [Array.getElem?_push, if_pos (by omega)], hfl, rfl, rfl, hv⟩
        | some p =>
          obtain ⟨j, v1⟩ := p
          cases f' with
          | none => exact absurd h5 (by simp)
          | some p' =>
            obtain ⟨j', v1'⟩ := p'
            obtain ⟨rfl, e2, e3, e4, e5⟩ := h5
            have hj : j < es.length := by omega
            obtain ⟨xj, hxj⟩ : ∃ x, es[j]? = some x := ⟨es[j], by simp [hj]⟩
            have hkj := e5 xj (by simpa using hxj)
            obtain ⟨xj', a1, a2, a3, a4, a5⟩ := h3 j xj hxj
            have hsame : Instr.sameBits 10000 xj'.key k' = true := by rw [a3]; exact sameBits_key hkj
            refine ⟨w.pb r' (.map (es'.modify j fun e => { e with key := k', val := v' }) ck), ?_, hS.put (o := .map (es'.modify j fun e => { e with key := k', val := v' }) ck) hg rfl hl hr ⟨rfl, es'.modify j fun e => { e with key := k', val := v' }, by rw [World.pb_get]; simp [hb], by simp [h2, updE], ?_⟩⟩
            · simp [Instr.mapUpdate, run_underlying hu, run_getMap h1, checkKey_plain hk hd, Instr.findKey, run_underlying hk, h4, Instr.keyThatStays, a1, hsame, setObj, Sem.run, h1, World.pb]
            · intro i x hx
              simp only [updE] at hx
              rw [List.getElem?_modify] at hx
              obtain ⟨y, hy, rfl⟩ := Option.map_eq_some_iff.1 hx
              obtain ⟨y', b1, b2, b3, b4, b5⟩ := h3 i y hy
              by_cases hij : j = i
              · subst hij
                exact ⟨{ y' with key := k', val := v' }, by rw [Array.getElem?_modify, if_pos rfl, b1]; rfl, by simpa using hfl, by simp, by simpa using b4, by simpa using hv⟩
              · exact ⟨y', by rw [Array.getElem?_modify, if_neg hij, b1], by simpa [hij] using b2, by simpa [hij] using b3, by simpa [hij] using b4, by simpa [hij] using b5⟩
    · cases h
  | _ => simp [mupd, Ev.dead] at h
end Go.Ev
