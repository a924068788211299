/- Slices of plain values, as a row hands them to a call. -/
import Derived.Test.YtbaooebafijenaaDoorGvLaw
import Derived.ChangeArms
import Derived.ChangeCalls
import Derived.Carry
namespace Go.Ev
open Go Go.ChangeShapes Go.WideShapes Go.RowKit
set_option linter.unusedSectionVars false
theorem rowAt_off {P : Program} {fits : TypeId → Bool} : ∀ {d : Nat} {e : TypeId} {count off n : Nat}, rowAt P fits d e count off n = true → off ≤ count * P.cellsOf e
  | 0, e, count, off, n, h => by simp [rowAt] at h
  | d + 1, e, count, off, n, h => by
    unfold rowAt at h
    simp only at h
    split at h
    · cases h
    · rename_i hs
      have h0 := Nat.div_add_mod off (P.cellsOf e)
      have h1 := Nat.mod_lt off (Nat.pos_of_ne_zero hs)
      have hi : off / P.cellsOf e < count ∨ (off % P.cellsOf e = 0 ∧ off / P.cellsOf e ≤ count) := by
        rcases (Bool.or_eq_true _ _).mp h with h | h
        · simp only [Bool.and_eq_true, beq_iff_eq, decide_eq_true_eq] at h
          exact .inr ⟨h.1.1, by omega⟩
        · have := (Bool.and_eq_true _ _).mp h
          exact .inl (of_decide_eq_true this.1)
      rcases hi with hi | ⟨hr, hi⟩
      · have := Nat.mul_le_mul_left (P.cellsOf e) (Nat.succ_le_of_lt hi)
        rw [Nat.mul_succ, Nat.mul_comm (P.cellsOf e) count] at this
        omega
      · have := Nat.mul_le_mul_left (P.cellsOf e) hi
        rw [Nat.mul_comm (P.cellsOf e) count] at this
        omega
theorem liesAt_off {P : Program} : ∀ {d : Nat} {e : TypeId} {count off : Nat} {u : TypeId} {n : Nat}, liesAt P d e count off u n = true → off ≤ count * P.cellsOf e
  | 0, e, count, off, u, n, h => by simp [liesAt] at h
  | d + 1, e, count, off, u, n, h => by
    unfold liesAt at h
    rcases (Bool.or_eq_true _ _).mp h with h | h
    · exact rowAt_off h
    · split at h
      · exact liesAt_off h
      · cases h
/-- where a slice's elements lie, and what they are -/
structure SlArg (W : World) (l : List Sc) (v : Value) (b d o n cap : Nat) (LC : List Value) (c : Array Value) (u : TypeId) (z : Nat × Nat) : Prop where
  val : v = .slice (some ⟨b, o + d, none⟩) n cap
  cap : n ≤ cap
  heap : W.heap[b]? = some (.cells c u z)
  room : d + LC.length ≤ c.size
  cell : ∀ (i : Nat) (x : Value), LC[i]? = some x → c[d + i]? = some x
  len : LC.length = n * l.length
  off : 0 < n → o = 0
  fit : o + d ≤ c.size
  sc : ∀ i, i < n → ScL l ((LC.drop (i * l.length)).take l.length)
theorem SlArg.flat {W : World} {l : List Sc} {v : Value} {b d o n cap : Nat} {LC : List Value} {c : Array Value} {u : TypeId} {z : Nat × Nat} (h : SlArg W l v b d o n cap LC c u z) (hl : 0 < l.length) : LC.all flat = true := by
  rw [List.all_eq_true]
  intro x hx
  obtain ⟨i, hi⟩ := List.mem_iff_getElem?.1 hx
  have hlt := (List.getElem?_eq_some_iff.1 hi).1
  rw [h.len] at hlt
  have hq : i / l.length < n := Nat.div_lt_of_lt_mul (by rw [Nat.mul_comm]; exact hlt)
  have hs := (h.sc _ hq).flat 4
  rw [List.all_eq_true] at hs
  refine hs x (List.mem_of_getElem? (i := i % l.length) ?_)
  rw [List.getElem?_take, if_pos (Nat.mod_lt _ hl), List.getElem?_drop]
  have := Nat.div_add_mod i l.length
  rw [show i / l.length * l.length + i % l.length = i by rw [Nat.mul_comm]; exact this]
  exact hi
section
variable {H : Type} {enc : TypeId × Value → H} {P : Program}
theorem mapM_list_get {α β : Type} {f : α → Option β} : ∀ {l : List α} {r : List β}, l.mapM f = some r → r.length = l.length ∧ ∀ (i : Nat) (x : α), l[i]? = some x → ∃ y, r[i]? = some y ∧ f x = some y
  | [], r, h => by cases mapM_nil_some h; exact ⟨rfl, fun i x hx => by simp at hx⟩
  | a :: l, r, h => by
    obtain ⟨y, ys, h1, h2, rfl⟩ := mapM_cons_some h
    obtain ⟨h3, h4⟩ := mapM_list_get h2
    refine ⟨by simp [h3], fun i x hx => ?_⟩
    cases i with
    | zero => simp at hx; subst hx; exact ⟨y, rfl, h1⟩
    | succ i => exact h4 i x (by simpa using hx)
theorem add_off (b o n : Nat) : Addr.add ⟨b, o, none⟩ n = ⟨b, o + n, none⟩ := by unfold Addr.add; split <;> simp_all
theorem slice_arg {W : World} {base : Nat} {spare : Nat → Bool} {held : Bool} {fuel : Nat} {t e : TypeId} {v : Value} {l : List Sc} {x : DataW H × List MemPlace} {b0 : Nat}
    (ht : P.underlying t = some (.slice e)) (hl : scT P 8 e = some l) (hc : P.cellsOf e = l.length) (h0 : 0 < l.length) (hval : Value.okWide P W .any b0 t v) (h : DataW.trod enc P W base spare held fuel t v.cells.toList = some x) :
    v = .slice none 0 0 ∨ ∃ b d o n cap LC c u z, SlArg W l v b d o n cap LC c u z := by
  have hv : v.cells.toList = [v] := by
    cases v with
    | agg cs =>
      rcases DataW.trod_slice ht h with ⟨hcs, _⟩ | ⟨a, len, cap, elems, rest, m, _, hcs, _⟩
      all_goals
        unfold Value.okWide at hval
        rw [ht] at hval
        simp only [Cell.okWide, Cell.ok, ht] at hval
    | _ => rfl
  rw [hv] at h
  rcases DataW.trod_slice ht h with ⟨hcs, _⟩ | ⟨a, len, cap, elems, rest, m, _, hcs, _, hb, hlc, _, hel, hread, _, _⟩
  · left; simpa using hcs
  · right
    have hv2 : v = .slice (some a) len cap := by simpa using hcs
    subst hv2
    have hok : W.has P .any b0 a e cap := by
      unfold Value.okWide at hval
      rw [ht] at hval
      simp only [Cell.okWide, Cell.ok, ht] at hval
      exact hval.2.2
    obtain ⟨_, hsp, row, cells, hsh, hlies⟩ := hok
    obtain ⟨b, o, sp⟩ := a
    simp only at hsp
    subst hsp
    obtain ⟨c, u, z, hheap, hoff⟩ : ∃ c u z, W.heap[b]? = some (.cells c u z) ∧ o ≤ c.size := by
      unfold World.shape? at hsh
      split at hsh
      · rename_i c u z he
        have hc : c.size = cells := by simpa using congrArg (fun x => (x.map Prod.snd).getD 0) hsh
        refine ⟨c, u, z, he, ?_⟩
        rw [hc]
        exact Nat.le_trans (liesAt_off hlies) (Nat.div_mul_le_self _ _)
      · cases hsh
    by_cases hn : len = 0
    · subst hn
      exact ⟨b, 0, o, 0, cap, [], c, u, z, rfl, by omega, hheap, by simp, fun i x hx => by simp at hx, by simp, fun h => absurd h (by omega), by omega, fun i hi => absurd hi (by omega)⟩
    · have hcell : ∀ i j, i < len → j < l.length → ∃ y, c[o + i * l.length + j]? = some y := by
        intro i j hi hj
        have h1 := hread i hi
        rw [hc] at h1
        have h2 : elems[i]? = some elems[i] := by simp [hel, hi]
        rw [h2] at h1
        obtain ⟨vs, h3, h4⟩ := Option.bind_eq_some_iff.1 h1
        unfold World.cells? at h3
        split at h3
        · obtain ⟨h5, h6⟩ := mapM_list_get h3
          obtain ⟨y, h7, h8⟩ := h6 j j (by simp [hj])
          rw [add_off, add_off] at h8
          simp only [World.cell?, hheap] at h8
          exact ⟨y, by simpa using h8⟩
        · cases h3
      have hroom : o + len * l.length ≤ c.size := by
        obtain ⟨y, hy⟩ := hcell (len - 1) (l.length - 1) (by omega) (by omega)
        have := (Array.getElem?_eq_some_iff.1 hy).1
        have e1 : (len - 1) * l.length + l.length = len * l.length := by
          have : len - 1 + 1 = len := by omega
          rw [← Nat.succ_mul, Nat.succ_eq_add_one, this]
        omega
      refine ⟨b, o, 0, len, cap, (c.toList.drop o).take (len * l.length), c, u, z, by simp, hlc, hheap, by simp; omega, fun i x hx => ?_, by simp; omega, fun _ => rfl, by omega, fun i hi => ?_⟩
      · rw [List.getElem?_take] at hx
        split at hx
        · simpa using hx
        · cases hx
      · have h1 := hread i hi
        rw [hc] at h1
        have h2 : elems[i]? = some elems[i] := by simp [hel, hi]
        rw [h2] at h1
        obtain ⟨vs, h3, h4⟩ := Option.bind_eq_some_iff.1 h1
        have hs := (trod_sc m 8 e vs l elems[i].1 elems[i].2 hl (by simpa using h4)).2.1
        have : ((c.toList.drop o).take (len * l.length) |>.drop (i * l.length)).take l.length = vs := by
          unfold World.cells? at h3
          split at h3
          · obtain ⟨h5, h6⟩ := mapM_list_get h3
            have hle : i * l.length + l.length ≤ len * l.length := by rw [← Nat.succ_mul]; exact Nat.mul_le_mul_right _ hi
            apply List.ext_getElem?
            intro j
            by_cases hj : j < l.length
            · obtain ⟨y, h7, h8⟩ := h6 j j (by simp [hj])
              rw [add_off, add_off] at h8
              simp only [World.cell?, hheap] at h8
              rw [h7, List.getElem?_take, if_pos hj, List.getElem?_drop, List.getElem?_take, if_pos (by omega), List.getElem?_drop, Array.getElem?_toList, ← Nat.add_assoc]
              simpa using h8
            · rw [List.getElem?_eq_none (by simp; omega), List.getElem?_eq_none (by rw [h5]; simp; omega)]
          · cases h3
        rw [this]
        exact hs

/-! ### What a row asks, where nothing that was there has changed -/
theorem Same.at {W W' : World} (h : Same W W') {p : MemPlace} (hp : p.block < W.heap.size) : W.sameAt W' p := by
  cases p with
  | cell b o => exact World.cell?_of_block (w := W) (h.heap b hp)
  | map b => exact h.heap b hp
theorem trodAll_same {W W' : World} (hb : Same W W') (hlo : laidOutB P = true) {sp : Nat → Bool} : ∀ (ts : List TypeId) (vs : List Value) (ds : List (DataW H)) (ps : List MemPlace), ts.all (fun t => P.readableRec t && decide (t < P.types.size)) = true →
    (∀ p ∈ ps, p.block < W.heap.size) → (∀ p ∈ ps, sp p.block = true) → DataW.TrodAll enc P W 0 (fun _ => true) true ts vs ds ps → DataW.TrodAll enc P W' 0 sp true ts vs ds ps
  | [], vs, ds, ps, _, _, _, h => by
    cases vs <;> cases ds <;> simp only [DataW.TrodAll] at h ⊢
    exact h
  | t :: ts, vs, ds, ps, hr, hp, hs, h => by
    simp only [List.all_cons, Bool.and_eq_true, decide_eq_true_eq] at hr
    cases vs with
    | nil => simp [DataW.TrodAll] at h
    | cons v vs =>
      cases ds with
      | nil => simp [DataW.TrodAll] at h
      | cons d ds =>
        obtain ⟨p, q, h1, h2, rfl⟩ := h
        exact ⟨p, q, WideElems.Trod_stays hlo hr.1.1 hr.1.2 h1 (fun x hx => hb.at (hp x (by simp [hx]))) (fun x hx => hs x (by simp [hx])),
          trodAll_same hb hlo ts vs ds q hr.2 (fun x hx => hp x (by simp [hx])) (fun x hx => hs x (by simp [hx])) h2, rfl⟩
/-- a law over whatever arguments, where nothing has changed -/
theorem law_any [Tabs] {f : Func} {s : ChangeSpec} {W W' : World} {args : Array Value} {ds gs : List (DataW H)} {before : List MemPlace} {tb : TypeId} (hS : Same W W') (hW : DataW.Whole enc P f.params.toList s.vars false W args.toList ds gs before)
    (hv : s.vars = []) (hlo : laidOutB P = true) (hp : f.params.toList.all (fun t => P.readableRec t && decide (t < P.types.size)) = true) (hr : f.resultTypes = #[tb]) (hb : P.underlying tb = some .bool) (hs : ∀ ds : List (DataW H), ds.length = f.params.toList.length → s.fn H ds = { results := [.lit (.bool true)], args := ds }) :
    s.post enc P f false true false false W args (.bool true) W' := by
  have hW' := hW
  obtain ⟨p, q, hA, hV, rfl, hfz, hnd⟩ := hW
  have hlen : ds.length = f.params.toList.length := (trodAll_length hA).2
  rw [hv] at hV
  obtain ⟨rfl, rfl⟩ := trodVars_none hV
  have hfn := hs ds hlen
  have e : ds ++ ([] : List (DataW H)) = ds := by simp
  refine Same.post (pa := p) (pv := []) hS hW' rfl (fun b sp hd => ?_) (fun sp hsp => ?_) (fun sp _ => ?_) (fun j t r ht hr' => ?_)
  · rw [e, hfn, hr]
    exact trodAll_cons_mk (shut_bool hb true) rfl
  · rw [e, hfn]
    exact trodAll_same hS hlo _ _ _ _ hp (fun x hx => hW'.lt x (by simpa using hx)) (fun x hx => hsp x (by simpa using hx)) hA
  · rw [e, hfn, hv]
    rfl
  · rw [hr] at ht hr'
    have : j = 0 := by
      cases j with
      | zero => rfl
      | succ j => simp at ht
    subst this
    have e1 : tb = t := by simpa using ht
    subst e1
    have : r = .bool true := by
      have : ((Value.bool true).resultList 1)[0]? = some r := hr'
      simpa [Value.resultList] using this.symm
    subst this
    exact okWide_bool_mk hb true
end
end Go.Ev
