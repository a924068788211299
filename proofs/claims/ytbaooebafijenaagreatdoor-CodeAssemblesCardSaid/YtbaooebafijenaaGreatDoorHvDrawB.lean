/- Regions that draw their order, with one write among the operations ahead of the tail. -/
import Derived.Test.YtbaooebafijenaaGreatDoorHvDraw
set_option linter.unusedSimpArgs false
set_option linter.unusedVariables false
namespace Go.Ev
open Go
set_option linter.unusedSectionVars false
variable [Tabs] [Dfs]
variable {P : Program}
theorem storeAt_spec {ops : Array Oper} {q s : Nat} (h : storeAt ops q = some s) : s < q := by
 unfold storeAt at h
 obtain ⟨⟨o, i⟩, h1, h2⟩ := Option.map_eq_some_iff.1 h
 obtain rfl : i = s := h2
 have h3 := List.mem_of_getLast? h1
 have h4 := (List.mem_filter.1 h3).1
 have h5 := List.snd_lt_of_mem_zipIdx h4
 simp at h5
 omega
def StepB (P : Program) (C : Cl) (nt : Nat) (ops : Array Oper) (s i : Nat) (o : Oper) (fr : Fr) (H : Hp) (fr' : Fr) (H' : Hp) (rd : List Nat) : Prop :=
 (i = s → fr.po nt o.dst undef = some fr' ∧ H' = H.cl) ∧
 (i ≠ s → ∃ v, evV P C ops o fr H.cl = some (v, H') ∧ fr.po nt o.dst v = some fr' ∧ (befB ops s i = true ∨ ∃ rs, rdOf P o fr = some rs ∧ ∀ c ∈ rs, c ∈ rd))
theorem evB_trace {α : Type} {C : Cl} {nt s : Nat} {ops : Array Oper} {k : Fr → Hp → List Nat → Fr → Option α} {r : α} : ∀ (os : List Oper) (i0 : Nat) (fr : Fr) (H : Hp) (rd : List Nat) (fs : Fr), evB P C nt ops s os i0 fr H rd fs k = some r →
   ∃ (frs : Nat → Fr) (Hs : Nat → Hp) (rd' : List Nat) (fs' : Fr), frs 0 = fr ∧ Hs 0 = H ∧ (∀ c ∈ rd, c ∈ rd') ∧ (∀ (j : Nat) (o : Oper), os[j]? = some o → StepB P C nt ops s (i0 + j) o (frs j) (Hs j) (frs (j + 1)) (Hs (j + 1)) rd') ∧
     fs' = (if i0 ≤ s ∧ s < i0 + os.length then frs (s - i0) else fs) ∧ k (frs os.length) (Hs os.length) rd' fs' = some r
 | [], i0, fr, H, rd, fs, h => ⟨fun _ => fr, fun _ => H, rd, fs, rfl, rfl, fun _ h => h, fun j o ho => by simp at ho, by rw [if_neg (by simp only [List.length_nil]; omega)], h⟩
 | o :: os, i0, fr, H, rd, fs, h => by
   have glue : ∀ (fr1 : Fr) (H1 : Hp) (rd1 : List Nat) (fs1 : Fr), (∀ c ∈ rd, c ∈ rd1) → (∀ rd', (∀ c ∈ rd1, c ∈ rd') → StepB P C nt ops s i0 o fr H fr1 H1 rd') → (fs1 = if i0 = s then fr else fs) → evB P C nt ops s os (i0 + 1) fr1 H1 rd1 fs1 k = some r →
       ∃ (frs : Nat → Fr) (Hs : Nat → Hp) (rd' : List Nat) (fs' : Fr), frs 0 = fr ∧ Hs 0 = H ∧ (∀ c ∈ rd, c ∈ rd') ∧ (∀ (j : Nat) (o' : Oper), (o :: os)[j]? = some o' → StepB P C nt ops s (i0 + j) o' (frs j) (Hs j) (frs (j + 1)) (Hs (j + 1)) rd') ∧
         fs' = (if i0 ≤ s ∧ s < i0 + (o :: os).length then frs (s - i0) else fs) ∧ k (frs (o :: os).length) (Hs (o :: os).length) rd' fs' = some r := by
     intro fr1 H1 rd1 fs1 hrd hstep hfs h1
     obtain ⟨frs, Hs, rd', fs', e1, e2, e3, e4, e5, e6⟩ := evB_trace os (i0 + 1) fr1 H1 rd1 fs1 h1
     refine ⟨fun i => match i with | 0 => fr | i + 1 => frs i, fun i => match i with | 0 => H | i + 1 => Hs i, rd', fs', rfl, rfl, fun c hc => e3 c (hrd c hc), fun j o' hj => ?_, ?_, e6⟩
     · cases j with
       | zero =>
         simp only [List.getElem?_cons_zero, Option.some.injEq] at hj
         subst hj
         show StepB P C nt ops s i0 o fr H (frs 0) (Hs 0) rd'
         rw [e1, e2]
         exact hstep rd' e3
       | succ j =>
         have := e4 j o' (by simpa using hj)
         rw [show i0 + 1 + j = i0 + (j + 1) by omega] at this
         exact this
     · rw [e5, hfs]
       by_cases h1 : i0 = s
       · subst h1
         rw [if_neg (by omega), if_pos rfl, if_pos (by simp)]
         simp
       · by_cases h2 : i0 + 1 ≤ s ∧ s < i0 + 1 + os.length
         · rw [if_pos h2, if_pos (by simp; omega)]
           obtain ⟨m, rfl⟩ : ∃ m, s = i0 + 1 + m := ⟨s - (i0 + 1), by omega⟩
           rw [show i0 + 1 + m - (i0 + 1) = m by omega, show i0 + 1 + m - i0 = m + 1 by omega]
         · rw [if_neg h2, if_neg h1, if_neg (by simp; omega)]
   simp only [evB] at h
   by_cases hs : i0 = s
   · have hb : (i0 == s) = true := by simpa using hs
     simp only [hb] at h
     cases hpo : fr.po nt o.dst undef with
     | none => simp [hpo, sb] at h
     | some fr1 =>
       simp only [hpo, sb] at h
       exact glue fr1 H.cl rd fr (fun _ h => h) (fun rd' _ => ⟨fun _ => ⟨hpo, rfl⟩, fun hn => absurd hs hn⟩) (by rw [if_pos hs]) h
   · have hb : (i0 == s) = false := by simpa using hs
     simp only [hb] at h
     cases hbf : befB ops s i0 with
     | true =>
       simp only [hbf] at h
       obtain ⟨v, H1, fr1, h1, h2, h3⟩ := evOne_val (k := fun fr H => evB P C nt ops s os (i0 + 1) fr H rd fs k) h
       exact glue fr1 H1 rd fs (fun _ h => h) (fun rd' _ => ⟨fun e => absurd e hs, fun _ => ⟨v, h1, h2, .inl hbf⟩⟩) (by rw [if_neg hs]) h3
     | false =>
       simp only [hbf] at h
       obtain ⟨rs, hrs, h⟩ := Option.bind_eq_some_iff.1 h
       obtain ⟨v, H1, fr1, h1, h2, h3⟩ := evOne_val (k := fun fr H => evB P C nt ops s os (i0 + 1) fr H (rs ++ rd) fs k) h
       exact glue fr1 H1 (rs ++ rd) fs (fun c hc => List.mem_append_right _ hc) (fun rd' hrd' => ⟨fun e => absurd e hs, fun _ => ⟨v, h1, h2, .inr ⟨rs, hrs, fun c hc => hrd' c (List.mem_append_left _ hc)⟩⟩⟩) (by rw [if_neg hs]) h3
theorem evOp_pure {C : Cl} {o : Oper} {fr : Fr} {rs : List Nat} (hr : rdOf P o fr = some rs) (hl : ∀ t a, o.op ≠ .load t a) : ∃ x : Option Value, ∀ H, (evOp P C o (fr.ev P) H pnN fun v H => some (v, H)) = x.map fun v => (v, H) := by
 unfold rdOf at hr
 obtain ⟨dst, op, ty, pos, after, guard⟩ := o
 have bm : ∀ (x : Option Value) (H : Hp), (x.bind fun v => some (v, H)) = x.map fun v => (v, H) := fun x H => by cases x <;> rfl
 cases op <;> simp only [] at hr <;> (try (cases hr; done)) <;> simp only [evOp]
 case move x => exact ⟨some (fr.ev P x), fun H => rfl⟩
 case assign x => exact ⟨some (fr.ev P x), fun H => rfl⟩
 case load t a => exact absurd rfl (hl t a)
 case extract t i => exact ⟨_, fun H => bm _ H⟩
 case nilCheck x => exact ⟨_, fun H => bm _ H⟩
 case pick c x y => exact ⟨_, fun H => bm _ H⟩
 case unOp op t x => exact ⟨_, fun H => bm _ H⟩
 case fieldAddr s x f => cases fieldT P s f <;> first | exact ⟨none, fun H => rfl⟩ | exact ⟨_, fun H => bm _ H⟩
 case field s x f => cases fieldT P s f <;> first | exact ⟨none, fun H => rfl⟩ | exact ⟨_, fun H => bm _ H⟩
 case binOp op t x y yt => cases eqS P t <;> exact ⟨_, fun H => bm _ H⟩
 case makeInterface t x =>
   cases P.underlying t with
   | none => exact ⟨none, fun H => rfl⟩
   | some d => cases d <;> first | exact ⟨none, fun H => rfl⟩ | exact ⟨some (.iface t (fr.ev P x)), fun H => rfl⟩
 case indexAddr t x i =>
   cases elemT P t with
   | none => exact ⟨none, fun H => rfl⟩
   | some q =>
     obtain ⟨n, g, sz⟩ := q
     cases n <;> exact ⟨_, fun H => bm _ H⟩
 case index t x i =>
   cases hu : P.underlying t with
   | none => exact ⟨none, fun H => rfl⟩
   | some ut =>
     simp only [sb]
     cases elemT P t with
     | none => cases ut <;> first | exact ⟨none, fun H => rfl⟩ | exact ⟨_, fun H => bm _ H⟩
     | some q =>
       obtain ⟨n, g, sz⟩ := q
       cases n <;> cases ut <;> first | exact ⟨none, fun H => rfl⟩ | exact ⟨_, fun H => bm _ H⟩
 case call c =>
   obtain ⟨callee, args, argTypes⟩ := c
   cases callee with
   | builtin b =>
     cases b <;> simp only [] at hr <;> try (cases hr; done)
     split at hr
     · rename_i t e1 e2
       simp only [e2]
       cases hu : P.underlying t with
       | none => rw [hu] at hr; cases hr
       | some ut =>
         simp only [sb]
         cases ha : args.toList with
         | nil => exact ⟨none, fun H => rfl⟩
         | cons x l =>
           cases l with
           | cons y l => exact ⟨none, fun H => rfl⟩
           | nil =>
             rw [hu] at hr
             cases ut <;> simp only [] at hr <;> try (cases hr; done)
             all_goals
               simp only [hu]
               cases hx : fr.ev P x <;> simp only [len] <;> first | exact ⟨none, fun H => rfl⟩ | exact ⟨some _, fun H => rfl⟩
     · cases hr
   | value f => simp at hr
   | invoke r m => simp at hr
theorem rd_evV {C : Cl} {ops : Array Oper} {o : Oper} {fr : Fr} {H H1 : Hp} {v : Value} {rs : List Nat} (hr : rdOf P o fr = some rs) (h : evV P C ops o fr H = some (v, H1)) :
   H1 = H ∧ ∀ k x, k ∉ rs → evV P C ops o fr (H.set k x) = some (v, H.set k x) := by
 by_cases hl : ∀ t a, o.op ≠ .load t a
 · obtain ⟨x, hx⟩ := evOp_pure (C := C) hr hl
   unfold evV at h ⊢
   cases hg : o.guard with
   | none =>
     simp only [hg, hx] at h ⊢
     cases x with
     | none => cases h
     | some u => cases h; exact ⟨rfl, fun _ _ _ => rfl⟩
   | some q =>
     obtain ⟨j, want⟩ := q
     simp only [hg, hx] at h ⊢
     cases hd : (ops[j]?).bind (·.dst) with
     | none => simp [hd] at h
     | some d =>
       simp only [hd, Option.bind_some] at h ⊢
       cases hv : fr.g d <;> simp only [hv, ifG] at h ⊢ <;> try (cases h; done)
       · rename_i b
         by_cases e : b = want
         · rw [if_pos e] at h
           cases x with
           | none => cases h
           | some u => cases h; exact ⟨rfl, fun _ _ _ => by rw [if_pos e]; rfl⟩
         · rw [if_neg e] at h
           cases h
           exact ⟨rfl, fun _ _ _ => by rw [if_neg e]⟩
       · cases h
         exact ⟨rfl, fun _ _ _ => rfl⟩
 · obtain ⟨t, a, hop⟩ : ∃ t a, o.op = .load t a := by
     apply Classical.byContradiction
     intro hn
     exact hl fun t a e => hn ⟨t, a, e⟩
   unfold rdOf at hr
   unfold evV at h ⊢
   obtain ⟨dst, op, ty, pos, after, guard⟩ := o
   simp only at hop
   subst hop
   cases guard with
   | some g => simp at hr
   | none =>
     simp only at hr h ⊢
     simp only [evOp] at h ⊢
     obtain ⟨c, hc, hrs⟩ := Option.map_eq_some_iff.1 hr
     have hcells : ∀ (k : Nat) (x : Blk), k ∉ rs → (H.set k x).cells c = H.cells c := by
       intro k x hk
       have : ¬ c = k := fun e => hk (by rw [← hrs, e]; simp)
       simp [Hp.cells, this]
     have hp : ∃ o', fr.ev P a = .pointer (some ⟨c, o', none⟩) := by
       unfold rdA at hc
       split at hc
       · rename_i b o' e
         cases hc
         exact ⟨o', e⟩
       · cases hc
     obtain ⟨o', hp⟩ := hp
     cases hagg : aggT P t with
     | none => simp [sb, hagg] at h
     | some g =>
       simp only [sb, hagg] at h ⊢
       cases g with
       | true =>
         cases hn : sizeT P t with
         | none => simp [hn] at h
         | some n =>
           simp only [hn, hp, ldN] at h ⊢
           obtain ⟨u, hu, h⟩ := Option.bind_eq_some_iff.1 h
           cases h
           exact ⟨rfl, fun k x hk => by rw [hcells k x hk, hu]; rfl⟩
       | false =>
         simp only [hp, ld] at h ⊢
         obtain ⟨u, hu, h⟩ := Option.bind_eq_some_iff.1 h
         cases h
         exact ⟨rfl, fun k x hk => by rw [hcells k x hk, hu]; rfl⟩
theorem st_run {ρ : Ren} {w : World} {t : TypeId} {n o b d : Nat} {v v' : Value} {vs cs : List Value} (ht : sizeT P t = some n) (hB : BlkR ρ w b d (.rw cs)) (hv : VR ρ v v') (hb : bx v = some vs) (hn : vs.length = n) (hle : o + n ≤ cs.length) (hok : vs.all okC = true) :
   ∃ c e z, (Instr.storeAt t (.pointer (some ⟨b, o + d, none⟩)) v').run P w = .ok () (w.pb b (.cells c e z)) ∧ BlkR ρ (w.pb b (.cells c e z)) b d (.rw (splice cs o vs)) := by
 have hvl := bx_sound hv hb
 obtain ⟨c, e, z, h1, h2, h3, h5⟩ := hB
 have hone : ∀ u ∈ v'.cells.toList, u.oneCell' = true := by
   intro u hu
   obtain ⟨i, hi⟩ := List.mem_iff_getElem?.1 hu
   have hi' : i < vs.length := by
     have := (List.getElem?_eq_some_iff.1 hi).1
     rw [hvl.1]; exact this
   obtain ⟨u', hu', hr'⟩ := hvl.get (i := i) (v := vs[i]) (by simp [hi'])
   rw [hi] at hu'
   cases hu'
   rw [List.all_eq_true] at hok
   exact okC_one hr' (hok _ (List.getElem_mem hi'))
 have hsz : v'.cells.size = n := by rw [← Array.length_toList, ← hvl.1, hn]
 have hrun := run_storeCells_pb (P := P) b (o + d) e z v'.cells.toList 0 c w h1 (by have := h2.1; have := hvl.1; simp at this ⊢; omega) h3 hone
 refine ⟨spliceA c (d + o) v'.cells.toList, e, z, ?_, ⟨_, e, z, ?_, CellsR.splice vs _ cs c d o h2 hvl (by omega), fun i hi => h3 i (by rwa [spliceA_size] at hi), by rw [spliceA_size]; exact h5⟩⟩
 · simp only [Instr.storeAt, Instr.sureAddr, Sem.run_bind, Sem.run_pure, Result.andThen_ok, storeVar, run_sizeT ht, hsz, ne_eq, not_true, if_false, Sem.run_ite, run_stuck]
   rw [hrun]
   simp [Nat.add_comm]
 · rw [World.pb_get]
   simp [(Array.getElem?_eq_some_iff.1 h1).1]
def hide (Hs : Nat → Hp) (k : Nat) : Nat → Hp := fun i => (Hs i).set k (.ro [])
theorem hide_grew {Hs : Nat → Hp} {q k : Nat} (hg : ∀ j, j < q → Grew (Hs j) (Hs (j + 1)) ∧ (Hs (j + 1)).lim = (Hs j).next) : ∀ j, j < q → Grew (hide Hs k j) (hide Hs k (j + 1)) ∧ (hide Hs k (j + 1)).lim = (hide Hs k j).next := by
 intro j hj
 obtain ⟨⟨h1, h2⟩, h3⟩ := hg j hj
 refine ⟨⟨h1, fun i hi => ?_⟩, h3⟩
 simp only [hide, Hp.get_set]
 split
 · rfl
 · exact h2 i hi
theorem J.hide {nt q k b d : Nat} {ops : Array Oper} {frs : Nat → Fr} {Hs : Nat → Hp} {ρ0 : Ren} {w0 : World} {X S : Nat → Prop} {ρ : Ren} {a : Act} {w : World} (hJ : J P nt ops q frs Hs ρ0 w0 X S ρ a w) (hgn : Tabs.gn ≤ k)
   {cs cs' : List Value} (hk : (Hs q).get k = some (.rw cs)) (hr : ρ k = some (b, d)) (hD : ∀ j b' d', (∃ y, (Hs q).get j = some y) → j ≠ k → ρ j = some (b', d') → b' ≠ b) {o : Obj} (hB : BlkR ρ (w.pb b o) b d (.rw cs')) :
   J P nt ops q frs (hide Hs k) ρ0 w0 (fun c => X c ∨ c = b) S ρ a (w.pb b o) := by
 have hoth : ∀ c, c ≠ b → (w.pb b o).heap[c]? = w.heap[c]? := fun c hc => by rw [World.pb_get, if_neg (Ne.symm hc)]
 have hsz : (w.pb b o).heap.size = w.heap.size := by simp [World.pb]
 have hex : ∀ j, (∃ y, (Ev.hide Hs k q).get j = some y) → ∃ y, (Hs q).get j = some y := by
   rintro j ⟨y, hy⟩
   by_cases e : j = k
   · subst e; exact ⟨_, hk⟩
   · exact ⟨y, by simpa [Ev.hide, e] using hy⟩
 refine ⟨hJ.size, hJ.df, ?_, ?_, fun i c e h => by rw [hsz]; exact hJ.low i c e h, hJ.glob, hJ.val, hJ.ext, fun c hc hx => ?_, by rw [hsz]; exact hJ.hsize, hJ.own, hJ.old, hJ.unl, hJ.tape, hJ.os, hJ.out, hJ.gn, fun i hi => ?_, hJ.gg, hJ.tab⟩
 · intro i x c e hx hr' l hl hlt
   by_cases hi : i = k
   · subst hi
     simp [Ev.hide] at hx
     subst hx
     rw [hr] at hr'
     cases hr'
     obtain ⟨c', e', z, h1, h2, _, h6⟩ := hB
     exact ⟨c', e', z, h1, ⟨by have := h2.1; simp; omega, fun m v hm => by simp at hm⟩, h6⟩
   · have hx' : (Hs q).get i = some x := by simpa [Ev.hide, hi] using hx
     exact (hJ.blk i x c e hx' hr' l hl hlt).mono (Ren.le_refl _) (hoth c (hD i c e ⟨x, hx'⟩ hi hr')) rfl
 · intro i j c e c' e' h0 hx hy hne h1 h2
   obtain ⟨x, hx, hxo⟩ := hx
   have hi : i ≠ k := by
     rintro rfl
     simp [Ev.hide] at hx
     subst hx
     cases hxo
   exact hJ.sep i j c e c' e' h0 ⟨x, by simpa [Ev.hide, hi] using hx, hxo⟩ (hex j hy) hne h1 h2
 · have h1 : c ≠ b := fun e => hx (.inr e)
   rw [hoth c h1]
   exact hJ.keep c hc fun h => hx (.inl h)
 · simp only [Ev.hide, Hp.get_set]
   rw [if_neg (by omega)]
   exact hJ.flr i hi
theorem memN_false {b : Nat} : ∀ {l : List Nat}, memN b l = false → b ∉ l
 | [], _ => by simp
 | c :: cs, h => by
   simp only [memN] at h
   cases hb : Nat.beq b c with
   | true => simp [hb] at h
   | false =>
     simp only [hb, cond_false] at h
     have : b ≠ c := fun e => by rw [e, Nat.beq_refl] at hb; cases hb
     simp [this, memN_false h]
theorem drawB {α : Type} {C : Cl} (hC : CallsOK P C) (hm : P.follows .mixedOrders = true) {ops : Array Oper} {q s : Nat} (hq : drawAt ops = some q) (hLo : LoA ops) (hsq : s < q) {os : Oper} (hos : ops[s]? = some os) {id nt : Nat} {pn : List PanicEntry → Hp → Option α} {k : Fr → Hp → Option α} {r : α} {fr : Fr} {H : Hp}
   (h : (evB P C nt ops s (ops.toList.take q) 0 fr H [] fr fun fr H' rd fs => evW P os fs (H'.opn H.lim) rd fun H' => evOps P C nt ops (ops.toList.drop q) fr H' pn k) = some r) {ρ0 : Ren} {w0 : World} {a0 : Act} {Q : Exit → Act → World → Prop} (hS : Sim P ρ0 H w0) (hf : FrR ρ0 nt fr a0)
   (hk : ∀ fr' H', k fr' H' = some r → ∀ ρ' a' w', Stp P ρ0 H w0 ρ' H' w' → FrR ρ' nt fr' a' → Q .normal a' w')
   (hp : ∀ c H', pn c H' = some r → ∀ ρ' c' a' w', Stp P ρ0 H w0 ρ' H' w' → ChR ρ' c c' → DfR a' → Q (.panic c') a' w') (hQ : ∀ c (a a' : Act) w, DfE a a' → Q (.panic c) a w → Q (.panic c) a' w) : (Code.region id ops true).wp P Q a0 w0 := by
 have hqn := (drawAt_spec hq).1
 obtain ⟨frs, Hs, rd, fs, e0, e0', _, ht, hfs, hr⟩ := evB_trace _ 0 fr H [] fr h
 subst e0; subst e0'
 have hlen : (ops.toList.take q).length = q := by simp; omega
 rw [hlen] at hr hfs
 have efs : fs = frs s := by rw [hfs, if_pos (by omega)]; rfl
 subst efs
 have hstep : ∀ (i : Nat) (o : Oper), i < q → ops[i]? = some o → StepB P C nt ops s i o (frs i) (Hs i) (frs (i + 1)) (Hs (i + 1)) rd := fun i o hi ho => by
   have := ht i o (by rw [List.getElem?_take, if_pos hi]; simpa using ho)
   rwa [Nat.zero_add] at this
 have htf : TrF nt ops q frs := fun i o hi ho => by
   obtain ⟨h1, h2⟩ := hstep i o hi ho
   by_cases e : i = s
   · exact ⟨_, (h1 e).1⟩
   · obtain ⟨v, _, h3, _⟩ := h2 e; exact ⟨v, h3⟩
 have hrun : ∀ i, i ≤ q → (∃ ρ w a, Sim P ρ (Hs i) w ∧ FrR ρ nt (frs i) a) ∧ ∀ j, j < i → Grew (Hs j) (Hs (j + 1)) ∧ (Hs (j + 1)).lim = (Hs j).next := by
   intro i
   induction i with
   | zero => exact fun _ => ⟨⟨ρ0, w0, a0, hS, hf⟩, fun j hj => by omega⟩
   | succ i ih =>
     intro hi
     obtain ⟨⟨ρ1, w1, a1, hS1, hf1⟩, hg⟩ := ih (by omega)
     have ho : ops[i]? = some ops[i] := Array.getElem?_eq_getElem (by omega)
     obtain ⟨h1, h2⟩ := hstep i _ (by omega) ho
     have key : (∃ ρ w a, Sim P ρ (Hs (i + 1)) w ∧ FrR ρ nt (frs (i + 1)) a) ∧ Grew (Hs i) (Hs (i + 1)) ∧ (Hs (i + 1)).lim = (Hs i).next := by
       by_cases e : i = s
       · obtain ⟨h3, h4⟩ := h1 e
         rw [h4]
         exact ⟨⟨ρ1, w1, _, hS1.cl, hf1.put (undef_VR ρ1) (hLo _ _ ho) h3⟩, ⟨Nat.le_refl _, fun _ _ => rfl⟩, rfl⟩
       · obtain ⟨v, h3, h4, _⟩ := h2 e
         exact if_out (F := (∃ ρ w a, Sim P ρ (Hs (i + 1)) w ∧ FrR ρ nt (frs (i + 1)) a) ∧ Grew (Hs i) (Hs (i + 1)) ∧ (Hs (i + 1)).lim = (Hs i).next)
           (evV_wp hC h3 hS1.cl hf1.size hf1.df (fun t _ => hf1.val t) (fun ρ' v' w' hst hv => ⟨⟨ρ', w', _, hst.sim, (hf1.mono hst.ext).put hv (hLo _ _ ho) h4⟩, ⟨hst.next, fun j hj => hst.fix j hj⟩, hst.lim⟩))
     refine ⟨key.1, fun j hj => ?_⟩
     rcases Nat.lt_succ_iff_lt_or_eq.1 hj with hj | rfl
     · exact hg j hj
     · exact key.2
 have hg := (hrun q (Nat.le_refl q)).2
 unfold evW at hr
 cases hgd : os.guard with
 | some g => simp [hgd] at hr
 | none =>
 simp only [hgd] at hr
 split at hr
 case h_2 => cases hr
 rename_i t ax xx hop
 cases hsz : sizeT P t with
 | none => simp [sb, hsz] at hr
 | some n =>
 simp only [sb, hsz] at hr
 obtain ⟨kb, hkb, hr⟩ := Option.bind_eq_some_iff.1 hr
 cases hmem : memN kb rd with
 | true => simp [hmem] at hr
 | false =>
 simp only [hmem, cond_false] at hr
 obtain ⟨Hf, hst, hr⟩ := Option.bind_eq_some_iff.1 hr
 have hnotin := memN_false hmem
 have hpa : ∃ o', (frs s).ev P ax = .pointer (some ⟨kb, o', none⟩) := by
   unfold rdA at hkb
   split at hkb
   · rename_i b o' e; cases hkb; exact ⟨o', e⟩
   · cases hkb
 obtain ⟨oo, hpa⟩ := hpa
 rw [hpa] at hst
 simp only [st] at hst
 split at hst
 case isFalse => cases hst
 rename_i hlim
 have hlim' : (Hs 0).lim ≤ kb := hlim
 split at hst
 case h_2 => cases hst
 rename_i cs hcs
 have hcs' : (Hs q).get kb = some (.rw cs) := hcs
 cases hbx : bx ((frs s).ev P xx) with
 | none => simp [hbx] at hst
 | some vs =>
 simp only [hbx, Option.bind_some] at hst
 split at hst
 case isFalse => cases hst
 rename_i hcond
 obtain ⟨hn, hle, hok⟩ := hcond
 cases hst
 have hgnk : Tabs.gn ≤ kb := Nat.le_trans hS.gn hlim'
 have hapart : ∀ (S : Nat → Prop) (ρ : Ren) (a : Act) (w : World), J P nt ops q frs Hs ρ0 w0 (fun _ => False) S ρ a w → ∀ b d, ρ kb = some (b, d) → ∀ j b' d', (∃ y, (Hs q).get j = some y) → j ≠ kb → ρ j = some (b', d') → b' ≠ b := by
   intro S ρ a w hJ b d hr1 j b' d' hy hne hr2
   have g : Grew (Hs 0) (Hs q) := grew_le' (fun j hj => (hg j hj).1) (Nat.zero_le q) (Nat.le_refl q)
   rcases Nat.lt_or_ge kb (Hs 0).next with h1 | h1 <;> rcases Nat.lt_or_ge j (Hs 0).next with h2 | h2
   · obtain ⟨y, hy⟩ := hy
     exact (hS.sep kb j b d b' d' ⟨hlim', _, (g.get kb h1).symm.trans hcs', rfl⟩ ⟨y, (g.get j h2).symm.trans hy⟩ (Ne.symm hne) (hJ.old kb _ hr1 h1) (hJ.old j _ hr2 h2)).symm
   · have h3 := hJ.own j b' d' h2 hr2
     have h4 := (hS.low kb b d (hJ.old kb _ hr1 h1)).2
     omega
   · have h3 := hJ.own kb b d h1 hr1
     have h4 := (hS.low j b' d' (hJ.old j _ hr2 h2)).2
     omega
   · exact (hJ.sep kb j b d b' d' h1 ⟨_, hcs', rfl⟩ hy (Ne.symm hne) hr1 hr2).symm
 refine region_start hm hqn
   (Inv := fun S a w => (¬ S s ∧ ∃ ρ, J P nt ops q frs Hs ρ0 w0 (fun _ => False) S ρ a w) ∨
     (S s ∧ ∃ ρ b d, ρ kb = some (b, d) ∧ J P nt ops q frs (hide Hs kb) ρ0 w0 (fun c => False ∨ c = b) S ρ a w ∧ BlkR ρ w b d (.rw (splice cs oo vs)) ∧ ∀ j b' d', (∃ y, (Hs q).get j = some y) → j ≠ kb → ρ j = some (b', d') → b' ≠ b))
   (head_gen (Inv := fun S a w => (¬ S s ∧ ∃ ρ, J P nt ops q frs Hs ρ0 w0 (fun _ => False) S ρ a w) ∨
     (S s ∧ ∃ ρ b d, ρ kb = some (b, d) ∧ J P nt ops q frs (hide Hs kb) ρ0 w0 (fun c => False ∨ c = b) S ρ a w ∧ BlkR ρ w b d (.rw (splice cs oo vs)) ∧ ∀ j b' d', (∃ y, (Hs q).get j = some y) → j ≠ kb → ρ j = some (b', d') → b' ≠ b)) hq hLo hQ ?_ ?_)
   (fun S hn' => .inl ⟨hn' s, ρ0, J.none (w := { w0 with drawn := w0.drawn + 1 }) hg htf hqn hS hf rfl rfl rfl rfl (fun p _ => hn' p)⟩)
 · intro S a w i o hi ho hSi hdown hbef hord hInv next hnext
   obtain ⟨hsi, hni⟩ := hstep i o hi ho
   rcases hInv with ⟨hns, ρ, hJ⟩ | ⟨hss, ρ, b, d, hrk, hJ, hB, hD⟩
   · by_cases e : i = s
     · -- the write itself
       subst e
       obtain rfl : os = o := Option.some.inj (hos.symm.trans ho)
       obtain ⟨hpo, hH⟩ := hsi rfl
       have hSim := hJ.at hg hi
       have hvals : ∀ t', Sees ops os t' → VR (ρ.cut (Hs i).next) ((frs i).g t') (a.tmps.getD t' undef) := fun t' hs => hJ.val t' i (Nat.le_of_lt hi) fun p hp hw => by
         by_cases e : p = i
         · subst e; exact ⟨fun h => absurd h hSi, fun h => absurd h (Nat.lt_irrefl _)⟩
         · exact hord t' (.inl hs) p hp e hw
       have hz : FrR (ρ.cut (Hs i).next) nt (.nil) a := ⟨hJ.size, hJ.df, fun t => .dead _⟩
       have hevx : ∀ x ∈ os.op.operands, VR (ρ.cut (Hs i).next) ((frs i).ev P x) (a.eval x) := by
         intro x hx
         cases x with
         | tmp t => exact hvals t (.inl (List.mem_filterMap.2 ⟨.tmp t, by simpa using hx, rfl⟩))
         | const c => exact hz.ev hSim (.const c)
         | global g => exact hz.ev hSim (.global g)
         | func f => exact hz.ev hSim (.func f)
       have h1 := hevx ax (by rw [hop]; simp [Op.operands])
       have h2 := hevx xx (by rw [hop]; simp [Op.operands])
       rw [hpa] at h1
       generalize hav : a.eval ax = av at h1
       cases h1 with
       | @ptr _ _ b d hrc =>
       have hrk : ρ kb = some (b, d) ∧ kb < (Hs i).next := by
         exact ⟨(Ren.cut_some hrc).2, (Ren.cut_some hrc).1⟩
       have hblk := hJ.blk kb _ b d hcs' hrk.1 i (Nat.le_of_lt hi) hrk.2
       obtain ⟨c, ee, z, hrun', hB'⟩ := st_run (P := P) hsz hblk h2 hbx hn hle hok
       have hw : Region.wanted os (yielded ops a.tmps) = true := by simp [Region.wanted, hgd]
       rw [if_pos hw]
       obtain ⟨ρ', hJ', hρ', _, hle'⟩ := hJ.next hLo htf hqn hg hi hos hSi (fun t h => hord t (.inr h)) (v1 := undef) hpo (by rw [hH]; exact Stp.refl hSim) (undef_VR _)
       have hrk' : ρ' kb = some (b, d) := hle' _ _ hrk.1
       have hD := hapart _ _ _ _ hJ' b d hrk'
       have hB2 : BlkR ρ' (w.pb b (.cells c ee z)) b d (.rw (splice cs oo vs)) := hB'.mono (Ren.le_trans (Ren.cut_le _ _) hle') rfl (hle'.sz _ _ hrk.1)
       have hfin := hnext _ _ (.inr ⟨.inr rfl, ρ', b, d, hrk', hJ'.hide hgnk hcs' hrk' hD hB2, hB2, hD⟩)
       unfold Oper.wp
       have hexec : (execOp a.eval os).run P w = .ok .skip (w.pb b (.cells c ee z)) := by
         obtain ⟨dst, op, ty, pos, after, guard⟩ := os
         simp only at hop
         subst hop
         simp only [execOp, hav]
         simp [hrun']
       rw [hexec]
       exact hfin
     · obtain ⟨v, hv, hpo, _⟩ := hni e
       exact hJ.step hC hLo htf hqn hg hi ho hSi hv hpo hord (fun ρ2 a2 w2 h2 _ _ _ => hnext a2 w2 (.inl ⟨fun h => h.elim hns (fun h => e h.symm), ρ2, h2⟩))
   · -- behind the write
     have e : i ≠ s := fun e => hSi (e ▸ hss)
     obtain ⟨v, hv, hpo, hrd⟩ := hni e
     have hnb : ¬ Bef ops s i := fun hb => hSi (hdown s os hss hos i hb)
     have hbf : befB ops s i ≠ true := hnb
     obtain ⟨rs, hrs, hsub⟩ := hrd.resolve_left hbf
     obtain ⟨hH, hset⟩ := rd_evV hrs hv
     have hv' : evV P C ops o (frs i) (hide Hs kb i).cl = some (v, hide Hs kb (i + 1)) := by
       have := hset kb (.ro []) (fun h => hnotin (hsub kb h))
       have e1 : hide Hs kb (i + 1) = ((Hs i).cl).set kb (.ro []) := by unfold hide; rw [hH]
       rw [e1]
       exact this
     refine hJ.step hC hLo htf hqn (hide_grew hg) hi ho hSi hv' hpo hord (fun ρ2 a2 w2 h2 hρ2 hkeep hle2 => ?_)
     have hρe : ∀ m, ρ2 m = ρ m := by
       intro m
       refine hρ2 m ?_
       have : (hide Hs kb (i + 1)).next = (hide Hs kb i).next := by
         show (Hs (i + 1)).next = (Hs i).next
         rw [hH]; rfl
       omega
     have hlt : b < w.heap.size := (hJ.low kb b d hrk).2
     exact hnext a2 w2 (.inr ⟨.inl hss, ρ2, b, d, hle2 _ _ hrk, h2, hB.mono hle2 (hkeep b hlt) (hle2.sz _ _ hrk), fun j c e hj hn hr2 => hD j c e hj hn (by rw [← hρe]; exact hr2)⟩)
 · intro S a w hall hInv fuel listed hfu hszl hL
   rcases hInv with ⟨hns, _⟩ | ⟨hss, ρ, b, d, hrk, hJ, hB, hD⟩
   · exact absurd (hall s hsq) hns
   have g : Grew (Hs 0) (Hs q) := grew_le' (fun j hj => (hg j hj).1) (Nat.zero_le q) (Nat.le_refl q)
   have hl := hS.lim
   have hgetf : ∀ i, (((Hs q).opn (Hs 0).lim).set kb (.rw (splice cs oo vs))).get i = if i = kb then some (.rw (splice cs oo vs)) else (Hs q).get i := fun i => by
     rw [Hp.get_set]; rfl
   have hexf : ∀ j, (∃ y, (((Hs q).opn (Hs 0).lim).set kb (.rw (splice cs oo vs))).get j = some y) → ∃ y, (Hs q).get j = some y := by
     rintro j ⟨y, hy⟩
     rw [hgetf] at hy
     split at hy
     · rename_i e; subst e; exact ⟨_, hcs'⟩
     · exact ⟨y, hy⟩
   have hexh : ∀ j, (∃ y, (Hs q).get j = some y) → ∃ y, (hide Hs kb q).get j = some y := by
     rintro j ⟨y, hy⟩
     by_cases e : j = kb
     · subst e; exact ⟨.ro [], by simp [hide]⟩
     · exact ⟨y, by simpa [hide, e] using hy⟩
   have hwr : ∀ {i}, wr (((Hs q).opn (Hs 0).lim).set kb (.rw (splice cs oo vs))) i → i < (Hs 0).next → wr (Hs 0) i := by
     rintro i ⟨h1, x, h2, h3⟩ h4
     rw [hgetf] at h2
     split at h2
     · rename_i e; subst e; exact ⟨h1, _, (g.get _ h4).symm.trans hcs', rfl⟩
     · exact ⟨h1, x, (g.get i h4).symm.trans h2, h3⟩
   have hSf : Stp P ρ0 (Hs 0) w0 ρ (((Hs q).opn (Hs 0).lim).set kb (.rw (splice cs oo vs))) w := by
     refine ⟨⟨?_, ?_, hJ.low, Nat.le_trans hl g.next, fun g hg => (hJ.glob g hg).1, hS.gn, fun i hi => ?_, hS.gg, hS.tab⟩, hJ.ext, fun c hc hno => ?_, hJ.hsize, ?_, hJ.old, fun i hi => ?_, rfl, g.next, hJ.tape, hJ.os, hJ.out⟩
     · intro i x c e hx hr1
       rw [hgetf] at hx
       split at hx
       · rename_i e'; subst e'
         cases hx
         rw [hrk] at hr1
         cases hr1
         exact hB
       · rename_i e'
         exact (hJ.blk i x c e (by simpa [hide, e'] using hx) hr1 q (Nat.le_refl q) (hJ.low i c e hr1).1).mono (Ren.cut_le _ _) rfl rfl
     · intro i j c e c' e' hwi hyj hne h1 h2
       by_cases hi : i = kb
       · subst hi
         rw [hrk] at h1
         cases h1
         exact (hD j c' e' (hexf j hyj) (Ne.symm hne) h2).symm
       · by_cases hj : j = kb
         · subst hj
           rw [hrk] at h2
           cases h2
           obtain ⟨_, x, hx, _⟩ := hwi
           exact hD i c e (hexf i ⟨x, hx⟩) hi h1
         · rcases Nat.lt_or_ge i (Hs 0).next with h3 | h3 <;> rcases Nat.lt_or_ge j (Hs 0).next with h4 | h4
           · obtain ⟨y, hy⟩ := hexf j hyj
             exact hS.sep i j c e c' e' (hwr hwi h3) ⟨y, (g.get j h4).symm.trans hy⟩ hne (hJ.old i _ h1 h3) (hJ.old j _ h2 h4)
           · have h5 := hJ.own j c' e' h4 h2
             have h6 := (hS.low i c e (hJ.old i _ h1 h3)).2
             omega
           · have h5 := hJ.own i c e h3 h1
             have h6 := (hS.low j c' e' (hJ.old j _ h2 h4)).2
             omega
           · obtain ⟨_, x, hx, hxo⟩ := hwi
             rw [hgetf, if_neg hi] at hx
             exact hJ.sep i j c e c' e' h3 ⟨x, by simpa [hide, hi] using hx, hxo⟩ (hexh j (hexf j hyj)) hne h1 h2
     · have h2 := hS.gn
       have hi' : i < Tabs.gn := hi
       rw [hgetf, if_neg (by omega)]
       exact (g.get i (by omega)).trans (hS.flr i hi)
     · by_cases e : c = b
       · subst e
         exfalso
         have hlt : kb < (Hs 0).next := by
           rcases Nat.lt_or_ge kb (Hs 0).next with h | h
           · exact h
           · have := hJ.own kb _ d h hrk; omega
         exact hno kb d ⟨hlim', _, (g.get kb hlt).symm.trans hcs', rfl⟩ (hJ.old kb _ hrk hlt)
       · exact hJ.keep c hc fun h => h.elim False.elim e
     · intro i c e hw hr1 hb
       have hi : i < (Hs 0).next := by
         rcases Nat.lt_or_ge i (Hs 0).next with h | h
         · exact h
         · have := hJ.own i c e h hr1; omega
       rcases hw with hw | hw
       · exact ⟨i, e, hwr hw hi, hJ.old i _ hr1 hi⟩
       · omega
     · have : i ≠ kb := by omega
       rw [hgetf, if_neg this]
       exact g.get i (by omega)
   have hFf : FrR ρ nt (frs q) a := ⟨hJ.size, hJ.df, fun t => (hJ.val t q (Nat.le_refl q) fun p hp _ => ⟨fun _ => hp, fun _ => hall p hp⟩).mono (Ren.cut_le _ _)⟩
   exact tail_any hC hq hLo fuel q listed _ _ ρ w a (Nat.le_refl q) hqn hfu hszl hL hr hSf.sim hFf (fun fr2 H2 h2 ρ2 a2 w2 hst2 => hk fr2 H2 h2 ρ2 a2 w2 (hSf.trans hst2)) (fun c H2 h2 ρ2 c2 a2 w2 hst2 => hp c H2 h2 ρ2 c2 a2 w2 (hSf.trans hst2))
theorem drawOK {C : Cl} (hC : CallsOK P C) (hm : P.follows .mixedOrders = true) : DrawOK P C := by
 intro α ops q hq hLo id nt pn k r fr H h ρ w a Q hS hf hk hp
 let Q2 : Exit → Act → World → Prop := fun e a w => match e with
   | .panic c => ∀ a' : Act, DfE a' a → Q (.panic c) a' w
   | e => Q e a w
 have hQ2 : ∀ c (a a' : Act) w, DfE a a' → Q2 (.panic c) a w → Q2 (.panic c) a' w := fun c a a' w e h b hb => h b (hb.trans e.symm)
 have hp2 : ∀ c H', pn c H' = some r → ∀ ρ' c' a' w', Stp P ρ H w ρ' H' w' → ChR ρ' c c' → DfR a' → Q2 (.panic c') a' w' := fun c H' h ρ' c' a' w' hst hc hd b hb => hp c H' h ρ' c' b w' hst hc (hb.res hd)
 refine Code.wp_mono (Q := Q2) (fun e a w h => ?_) ?_
 · cases e with
   | panic c => exact h a (DfE.refl a)
   | _ => exact h
 · unfold evD at h
   cases hs : storeAt ops q with
   | none => simp only [hs] at h; exact drawA hC hm hq hLo h hS hf hk hp2 hQ2
   | some s =>
     simp only [hs] at h
     cases ho : ops[s]? with
     | none => simp [sb, ho] at h
     | some o =>
       simp only [sb, ho] at h
       exact drawB hC hm hq hLo (storeAt_spec hs) ho h hS hf hk hp2 hQ2
end Go.Ev
