/- There and back: words and texts of instructions. -/
import Derived.Test.YtbaooebafijenaaDoorGTk
namespace Go.Proofs.YtbaooebafijenaaDoor
open Go Go.Ev
set_option maxRecDepth 100000
set_option linter.unusedSimpArgs false
set_option linter.unusedVariables false
set_option linter.unusedSectionVars false
set_option maxHeartbeats 2000000
variable [Mx]
theorem trim_cons (p : UInt8) (w : Bs) : Lib.trimPrefix (p :: w) [p] = w := by simp [Lib.trimPrefix, Lib.hasPrefix]
theorem has_cons (p : UInt8) (w : Bs) : Lib.hasPrefix (p :: w) [p] = true := by simp [Lib.hasPrefix]
theorem pre_list (p : UInt8) (w : ByteArray) : ((⟨#[p]⟩ : ByteArray) ++ w).data.toList = p :: w.data.toList := by rw [app_list]; rfl
theorem opd_list (i : Ins) (c : Nat) : (opdV i c).data.toList = if c = 105 then (itoaB (i.get c)).data.toList else if c < 97 then 102 :: (itoaB (i.get c)).data.toList else 114 :: (itoaB (i.get c)).data.toList := by
  unfold opdV
  split
  · rfl
  · split
    · exact pre_list _ _
    · exact pre_list _ _
theorem cut_pre (p : UInt8) (w : ByteArray) : cutB ((⟨#[p]⟩ : ByteArray) ++ w) p = (w, true) := by
  unfold cutB
  rw [pre_list, trim_cons, has_cons]
theorem put_opd (i : Ins) (c : Nat) (h : -9223372036854775808 ≤ i.get c ∧ i.get c ≤ 9223372036854775807) : putV c (opdV i c) = (i.get c, true) := by
  unfold putV stripV opdV
  by_cases h1 : c = 105
  · simp only [h1, if_true]
    rw [whole_itoa _ (by rw [← h1]; exact h)]
    rfl
  · simp only [h1, if_false]
    by_cases h2 : c < 97
    · simp only [h2, if_true, cut_pre]
      rw [whole_itoa _ h]
      rfl
    · simp only [h2, if_false, cut_pre]
      rw [whole_itoa _ h]
      rfl
theorem opd_plain (i : Ins) (c : Nat) (h : -9223372036854775808 ≤ i.get c ∧ i.get c ≤ 9223372036854775807) : plain (opdV i c).data.toList ∧ (opdV i c).data.toList ≠ [] := by
  rw [opd_list]
  have h1 := itoa_plain _ h
  split
  · exact ⟨h1, itoa_ne _ h⟩
  · split
    · exact ⟨fun x hx => (List.mem_cons.1 hx).elim (fun e => by subst e; decide) (h1 x), by simp⟩
    · exact ⟨fun x hx => (List.mem_cons.1 hx).elim (fun e => by subst e; decide) (h1 x), by simp⟩
theorem name_facts (op : Int) (h : 1 ≤ op ∧ op < 72) : namedV (nameV op) = op ∧ plain (nameV op).data.toList ∧ (nameV op).data.toList ≠ [] := by
  have := of_decide_eq_true (List.all_eq_true.1 (show (List.range 72).all (fun k => decide (k = 0 ∨ (namedV (nameV (k : Int)) = (k : Int) ∧ (nameV (k : Int)).data.toList.all (fun c => !blB c && !mkB c) = true ∧ (nameV (k : Int)).data.toList ≠ []))) = true by kernel_rfl) op.toNat (List.mem_range.2 (by omega)))
  rw [show ((op.toNat : Nat) : Int) = op by omega] at this
  obtain ⟨h1, h2, h3⟩ := this.resolve_left (by omega)
  refine ⟨h1, fun c hc => ?_, h3⟩
  have := List.all_eq_true.1 h2 c hc
  simpa using this
theorem op_range {op : Int} (h : 1 ≤ formV op) : 1 ≤ op ∧ op < 72 := by
  by_cases h1 : 1 ≤ op ∧ op < 72
  · exact h1
  · have : formV op = 0 := by
      by_cases h2 : op = 0
      · subst h2; rfl
      · unfold formV tabI
        rw [if_neg (by omega)]
    omega
theorem tk_0 {nm : Bs} (h : plain nm) (hn : nm ≠ []) : tk2 nm [] = [nm] := by rw [tk2_word _ _ h, List.nil_append, flL_ne hn]
theorem tk_2 {nm a b : Bs} (h : plain nm) (hn : nm ≠ []) (ha : plain a) (ha2 : a ≠ []) (hb : plain b) (hb2 : b ≠ []) : tk2 (nm ++ 32 :: (a ++ 44 :: 32 :: b)) [] = [nm, a, [44], b] := by
  rw [tk2_plain _ _ _ h, tk2_bl, tk2_plain _ _ _ ha, tk2_comma, tk2_bl, tk2_word _ _ hb]
  simp [flL, hn, ha2, hb2]
theorem tk_3 {nm a b c : Bs} (h : plain nm) (hn : nm ≠ []) (ha : plain a) (ha2 : a ≠ []) (hb : plain b) (hb2 : b ≠ []) (hc : plain c) (hc2 : c ≠ []) : tk2 (nm ++ 32 :: (a ++ 44 :: 32 :: (b ++ 44 :: 32 :: c))) [] = [nm, a, [44], b, [44], c] := by
  rw [tk2_plain _ _ _ h, tk2_bl, tk2_plain _ _ _ ha, tk2_comma, tk2_bl, tk2_plain _ _ _ hb, tk2_comma, tk2_bl, tk2_word _ _ hc]
  simp [flL, hn, ha2, hb2, hc2]
theorem tk_5 {nm a b c : Bs} (h : plain nm) (hn : nm ≠ []) (ha : plain a) (ha2 : a ≠ []) (hb : plain b) (hb2 : b ≠ []) (hc : plain c) (hc2 : c ≠ []) : tk2 (nm ++ 32 :: (a ++ 44 :: 32 :: (b ++ 40 :: (c ++ [41])))) [] = [nm, a, [44], b, [40], c, [41]] := by
  rw [tk2_plain _ _ _ h, tk2_bl, tk2_plain _ _ _ ha, tk2_comma, tk2_bl, tk2_plain _ _ _ hb, tk2_lp, tk2_plain _ _ _ hc, tk2_rp]
  simp [flL, tk2, hn, ha2, hb2, hc2]
theorem text_0 (i : Ins) (h : rowV (formV i.op) (opsV i) = []) : (textV i).data.toList = (nameV i.op).data.toList := by unfold textV; rw [if_pos h]
theorem join_2 (a b : ByteArray) : (joinV [a, b]).data.toList = a.data.toList ++ 44 :: 32 :: b.data.toList := by
  show Lib.join [a.data.toList, b.data.toList] [44, 32] = _
  simp [Lib.join_cons, Lib.joinTail]
theorem join_3 (a b c : ByteArray) : (joinV [a, b, c]).data.toList = a.data.toList ++ 44 :: 32 :: (b.data.toList ++ 44 :: 32 :: c.data.toList) := by
  show Lib.join [a.data.toList, b.data.toList, c.data.toList] [44, 32] = _
  simp [Lib.join_cons, Lib.joinTail]
theorem text_n (i : Ins) {x : ByteArray} {l : List ByteArray} (h : rowV (formV i.op) (opsV i) = x :: l) : (textV i).data.toList = (nameV i.op).data.toList ++ 32 :: (joinV (x :: l)).data.toList := by
  unfold textV
  rw [h, if_neg (by simp), app_list, app_list]
  simp
/-- what an instruction that is none the wrong holds, by its form -/
theorem chk_okP {i : Ins} (h : chkV i.op i.A i.B i.C i.I = 0) : (0 ≤ i.B ∧ i.B ≤ mxB (formV i.op)) ∧ (0 ≤ i.C ∧ i.C ≤ mxC (formV i.op)) ∧ (0 ≤ i.A ∧ i.A ≤ mxA (formV i.op)) ∧ (hasF (formV i.op) = false → i.I = 0) := by
  unfold chkV at h
  split at h
  · exact absurd h (by decide)
  · split at h
    · rename_i ho
      obtain ⟨o1, o2, o3, o4⟩ := ho
      refine ⟨o2, o3, o1, fun hf => ?_⟩
      rw [hf] at o4
      simp only [cond_false] at o4
      omega
    · exact absurd h (by decide)
theorem Ins.ext5 {i j : Ins} (h0 : i.op = j.op) (h1 : i.A = j.A) (h2 : i.B = j.B) (h3 : i.C = j.C) (h4 : i.I = j.I) : i = j := by
  cases i; cases j; simp_all

/-- the words of an instruction's text say that instruction -/
theorem back_text {i : Ins} (hk : chkV i.op i.A i.B i.C i.I = 0) : insV (tokensV (textV i)) = (i, emp, true) := by
  obtain ⟨hf1, hf2, _⟩ := chk_small hk
  obtain ⟨hop1, hop2⟩ := op_range hf1
  obtain ⟨hnm, pn, nn⟩ := name_facts i.op ⟨hop1, hop2⟩
  obtain ⟨zB, zC, zA, zI⟩ := chk_okP hk
  have hg : ∀ c, -9223372036854775808 ≤ i.get c ∧ i.get c ≤ 9223372036854775807 := fun c => by have := get_small hk c; omega
  have hpl := fun c => opd_plain i c (hg c)
  have hput := fun c => put_opd i c (hg c)
  have hlab : labelV (opdV i 105) = false := itoa_label _ (hg 105)
  have hdk : decide (chkV i.op i.A i.B i.C i.I = 0) = true := decide_eq_true hk
  have hneg : ¬ i.op < 0 := by omega
  rw [tokens_tk2]
  have hc : formV i.op = 1 ∨ formV i.op = 2 ∨ formV i.op = 3 ∨ formV i.op = 4 ∨ formV i.op = 5 ∨ formV i.op = 6 ∨ formV i.op = 7 ∨ formV i.op = 8 ∨ formV i.op = 9 ∨ formV i.op = 10 ∨ formV i.op = 11 ∨ formV i.op = 12 ∨ formV i.op = 13 ∨ formV i.op = 14 ∨ formV i.op = 15 := by omega
  have hm : ∀ x : ByteArray, bs x.data.toList = x := list_bs
  rcases hc with hf | hf | hf | hf | hf | hf | hf | hf | hf | hf | hf | hf | hf | hf | hf
  · rw [hf] at zA zB zC zI
    have zA' : i.A = 0 := by have : mxA 1 = 0 := rfl; omega
    have zB' : i.B = 0 := by have : mxB 1 = 0 := rfl; omega
    have zC' : i.C = 0 := by have : mxC 1 = 0 := rfl; omega
    have zI' : i.I = 0 := zI rfl
    have ho : opsV i = [] := by unfold opsV; rw [hf]; rfl
    have hr : rowV (formV i.op) (opsV i) = [] := by rw [ho, hf]; rfl
    rw [text_0 i hr, tk_0 pn nn]
    simp only [List.map_cons, List.map_nil, hm]
    have hs : (shpB 1).data.toList = [] := rfl
    have hz : (shpB 1).size = 0 := rfl
    have hb : betw 1 = [] := rfl
    simp [insV, hnm, hneg, hf, opL, cpar, hs, hz, hb, insGo, bs, comma, lpar]
    try simp [Ins.set, Ins.get, zA', zB', zC', zI']
    have hk2 := hk
    rw [zA', zB', zC', zI'] at hk2
    exact ⟨Ins.ext5 rfl zA'.symm zB'.symm zC'.symm zI'.symm, hk2⟩
  · rw [hf] at zA zB zC zI
    have zI' : i.I = 0 := zI rfl
    have ho : opsV i = [opdV i 97, opdV i 98, opdV i 99] := by unfold opsV; rw [hf]; rfl
    have hr : rowV (formV i.op) (opsV i) = [opdV i 97, opdV i 98, opdV i 99] := by rw [ho, hf]; rfl
    rw [text_n i hr, join_3, tk_3 pn nn (hpl 97).1 (hpl 97).2 (hpl 98).1 (hpl 98).2 (hpl 99).1 (hpl 99).2]
    simp only [List.map_cons, List.map_nil, hm]
    have hs : (shpB 2).data.toList = [97, 98, 99] := rfl
    have hz : (shpB 2).size = 3 := rfl
    have hb : betw 2 = [comma, comma] := rfl
    simp [insV, hnm, hneg, hf, opL, cpar, hs, hz, hb, insGo, bs, comma, lpar, (show (97 : UInt8).toNat = 97 from rfl), (show (98 : UInt8).toNat = 98 from rfl), (show (99 : UInt8).toNat = 99 from rfl), hput 97, hput 98, hput 99]
    try simp [Ins.set, Ins.get, zI']
    have hk2 := hk
    rw [zI'] at hk2
    exact ⟨Ins.ext5 rfl rfl rfl rfl zI'.symm, hk2⟩
  · rw [hf] at zA zB zC zI
    have zC' : i.C = 0 := by have : mxC 3 = 0 := rfl; omega
    have ho : opsV i = [opdV i 97, opdV i 98, opdV i 105] := by unfold opsV; rw [hf]; rfl
    have hr : rowV (formV i.op) (opsV i) = [opdV i 97, opdV i 98, opdV i 105] := by rw [ho, hf]; rfl
    rw [text_n i hr, join_3, tk_3 pn nn (hpl 97).1 (hpl 97).2 (hpl 98).1 (hpl 98).2 (hpl 105).1 (hpl 105).2]
    simp only [List.map_cons, List.map_nil, hm]
    have hs : (shpB 3).data.toList = [97, 98, 105] := rfl
    have hz : (shpB 3).size = 3 := rfl
    have hb : betw 3 = [comma, comma] := rfl
    simp [insV, hnm, hneg, hf, opL, cpar, hs, hz, hb, insGo, bs, comma, lpar, (show (97 : UInt8).toNat = 97 from rfl), (show (98 : UInt8).toNat = 98 from rfl), (show (105 : UInt8).toNat = 105 from rfl), hput 97, hput 98, hput 105, hlab]
    try simp [Ins.set, Ins.get, zC']
    have hk2 := hk
    rw [zC'] at hk2
    exact ⟨Ins.ext5 rfl rfl rfl zC'.symm rfl, hk2⟩
  · rw [hf] at zA zB zC zI
    have zB' : i.B = 0 := by have : mxB 4 = 0 := rfl; omega
    have zC' : i.C = 0 := by have : mxC 4 = 0 := rfl; omega
    have ho : opsV i = [opdV i 97, opdV i 105] := by unfold opsV; rw [hf]; rfl
    have hr : rowV (formV i.op) (opsV i) = [opdV i 97, opdV i 105] := by rw [ho, hf]; rfl
    rw [text_n i hr, join_2, tk_2 pn nn (hpl 97).1 (hpl 97).2 (hpl 105).1 (hpl 105).2]
    simp only [List.map_cons, List.map_nil, hm]
    have hs : (shpB 4).data.toList = [97, 105] := rfl
    have hz : (shpB 4).size = 2 := rfl
    have hb : betw 4 = [comma] := rfl
    simp [insV, hnm, hneg, hf, opL, cpar, hs, hz, hb, insGo, bs, comma, lpar, (show (97 : UInt8).toNat = 97 from rfl), (show (105 : UInt8).toNat = 105 from rfl), hput 97, hput 105, hlab]
    try simp [Ins.set, Ins.get, zB', zC']
    have hk2 := hk
    rw [zB', zC'] at hk2
    exact ⟨Ins.ext5 rfl rfl zB'.symm zC'.symm rfl, hk2⟩
  · rw [hf] at zA zB zC zI
    have zC' : i.C = 0 := by have : mxC 5 = 0 := rfl; omega
    have ho : opsV i = [opdV i 97, opdV i 105, opdV i 98] := by unfold opsV; rw [hf]; rfl
    have hr : rowV (formV i.op) (opsV i) = [opdV i 97, opdV i 105 ++ ⟨#[40]⟩ ++ opdV i 98 ++ ⟨#[41]⟩] := by rw [ho, hf]; rfl
    rw [text_n i hr, join_2, app_list, app_list, app_list, List.append_assoc, List.append_assoc]
    show insV (List.map bs (tk2 ((nameV i.op).data.toList ++ 32 :: ((opdV i 97).data.toList ++ 44 :: 32 :: ((opdV i 105).data.toList ++ 40 :: ((opdV i 98).data.toList ++ [41])))) [])) = _
    rw [tk_5 pn nn (hpl 97).1 (hpl 97).2 (hpl 105).1 (hpl 105).2 (hpl 98).1 (hpl 98).2]
    simp only [List.map_cons, List.map_nil, hm]
    have hs : (shpB 5).data.toList = [97, 105, 98] := rfl
    have hz : (shpB 5).size = 3 := rfl
    have hb : betw 5 = [comma, lpar] := rfl
    simp [insV, hnm, hneg, hf, opL, cpar, hs, hz, hb, insGo, bs, comma, lpar, (show (97 : UInt8).toNat = 97 from rfl), (show (105 : UInt8).toNat = 105 from rfl), (show (98 : UInt8).toNat = 98 from rfl), hput 97, hput 105, hput 98, hlab]
    try simp [Ins.set, Ins.get, zC']
    have hk2 := hk
    rw [zC'] at hk2
    exact ⟨Ins.ext5 rfl rfl rfl zC'.symm rfl, hk2⟩
  · rw [hf] at zA zB zC zI
    have zC' : i.C = 0 := by have : mxC 6 = 0 := rfl; omega
    have ho : opsV i = [opdV i 65, opdV i 105, opdV i 98] := by unfold opsV; rw [hf]; rfl
    have hr : rowV (formV i.op) (opsV i) = [opdV i 65, opdV i 105 ++ ⟨#[40]⟩ ++ opdV i 98 ++ ⟨#[41]⟩] := by rw [ho, hf]; rfl
    rw [text_n i hr, join_2, app_list, app_list, app_list, List.append_assoc, List.append_assoc]
    show insV (List.map bs (tk2 ((nameV i.op).data.toList ++ 32 :: ((opdV i 65).data.toList ++ 44 :: 32 :: ((opdV i 105).data.toList ++ 40 :: ((opdV i 98).data.toList ++ [41])))) [])) = _
    rw [tk_5 pn nn (hpl 65).1 (hpl 65).2 (hpl 105).1 (hpl 105).2 (hpl 98).1 (hpl 98).2]
    simp only [List.map_cons, List.map_nil, hm]
    have hs : (shpB 6).data.toList = [65, 105, 98] := rfl
    have hz : (shpB 6).size = 3 := rfl
    have hb : betw 6 = [comma, lpar] := rfl
    simp [insV, hnm, hneg, hf, opL, cpar, hs, hz, hb, insGo, bs, comma, lpar, (show (65 : UInt8).toNat = 65 from rfl), (show (105 : UInt8).toNat = 105 from rfl), (show (98 : UInt8).toNat = 98 from rfl), hput 65, hput 105, hput 98, hlab]
    try simp [Ins.set, Ins.get, zC']
    have hk2 := hk
    rw [zC'] at hk2
    exact ⟨Ins.ext5 rfl rfl rfl zC'.symm rfl, hk2⟩
  · rw [hf] at zA zB zC zI
    have zC' : i.C = 0 := by have : mxC 7 = 0 := rfl; omega
    have ho : opsV i = [opdV i 97, opdV i 98, opdV i 105] := by unfold opsV; rw [hf]; rfl
    have hr : rowV (formV i.op) (opsV i) = [opdV i 97, opdV i 98, opdV i 105] := by rw [ho, hf]; rfl
    rw [text_n i hr, join_3, tk_3 pn nn (hpl 97).1 (hpl 97).2 (hpl 98).1 (hpl 98).2 (hpl 105).1 (hpl 105).2]
    simp only [List.map_cons, List.map_nil, hm]
    have hs : (shpB 7).data.toList = [97, 98, 105] := rfl
    have hz : (shpB 7).size = 3 := rfl
    have hb : betw 7 = [comma, comma] := rfl
    simp [insV, hnm, hneg, hf, opL, cpar, hs, hz, hb, insGo, bs, comma, lpar, (show (97 : UInt8).toNat = 97 from rfl), (show (98 : UInt8).toNat = 98 from rfl), (show (105 : UInt8).toNat = 105 from rfl), hput 97, hput 98, hput 105, hlab]
    try simp [Ins.set, Ins.get, zC']
    have hk2 := hk
    rw [zC'] at hk2
    exact ⟨Ins.ext5 rfl rfl rfl zC'.symm rfl, hk2⟩
  · rw [hf] at zA zB zC zI
    have zB' : i.B = 0 := by have : mxB 8 = 0 := rfl; omega
    have zC' : i.C = 0 := by have : mxC 8 = 0 := rfl; omega
    have ho : opsV i = [opdV i 97, opdV i 105] := by unfold opsV; rw [hf]; rfl
    have hr : rowV (formV i.op) (opsV i) = [opdV i 97, opdV i 105] := by rw [ho, hf]; rfl
    rw [text_n i hr, join_2, tk_2 pn nn (hpl 97).1 (hpl 97).2 (hpl 105).1 (hpl 105).2]
    simp only [List.map_cons, List.map_nil, hm]
    have hs : (shpB 8).data.toList = [97, 105] := rfl
    have hz : (shpB 8).size = 2 := rfl
    have hb : betw 8 = [comma] := rfl
    simp [insV, hnm, hneg, hf, opL, cpar, hs, hz, hb, insGo, bs, comma, lpar, (show (97 : UInt8).toNat = 97 from rfl), (show (105 : UInt8).toNat = 105 from rfl), hput 97, hput 105, hlab]
    try simp [Ins.set, Ins.get, zB', zC']
    have hk2 := hk
    rw [zB', zC'] at hk2
    exact ⟨Ins.ext5 rfl rfl zB'.symm zC'.symm rfl, hk2⟩
  · rw [hf] at zA zB zC zI
    have zI' : i.I = 0 := zI rfl
    have ho : opsV i = [opdV i 65, opdV i 66, opdV i 67] := by unfold opsV; rw [hf]; rfl
    have hr : rowV (formV i.op) (opsV i) = [opdV i 65, opdV i 66, opdV i 67] := by rw [ho, hf]; rfl
    rw [text_n i hr, join_3, tk_3 pn nn (hpl 65).1 (hpl 65).2 (hpl 66).1 (hpl 66).2 (hpl 67).1 (hpl 67).2]
    simp only [List.map_cons, List.map_nil, hm]
    have hs : (shpB 9).data.toList = [65, 66, 67] := rfl
    have hz : (shpB 9).size = 3 := rfl
    have hb : betw 9 = [comma, comma] := rfl
    simp [insV, hnm, hneg, hf, opL, cpar, hs, hz, hb, insGo, bs, comma, lpar, (show (65 : UInt8).toNat = 65 from rfl), (show (66 : UInt8).toNat = 66 from rfl), (show (67 : UInt8).toNat = 67 from rfl), hput 65, hput 66, hput 67]
    try simp [Ins.set, Ins.get, zI']
    have hk2 := hk
    rw [zI'] at hk2
    exact ⟨Ins.ext5 rfl rfl rfl rfl zI'.symm, hk2⟩
  · rw [hf] at zA zB zC zI
    have zC' : i.C = 0 := by have : mxC 10 = 0 := rfl; omega
    have zI' : i.I = 0 := zI rfl
    have ho : opsV i = [opdV i 65, opdV i 66] := by unfold opsV; rw [hf]; rfl
    have hr : rowV (formV i.op) (opsV i) = [opdV i 65, opdV i 66] := by rw [ho, hf]; rfl
    rw [text_n i hr, join_2, tk_2 pn nn (hpl 65).1 (hpl 65).2 (hpl 66).1 (hpl 66).2]
    simp only [List.map_cons, List.map_nil, hm]
    have hs : (shpB 10).data.toList = [65, 66] := rfl
    have hz : (shpB 10).size = 2 := rfl
    have hb : betw 10 = [comma] := rfl
    simp [insV, hnm, hneg, hf, opL, cpar, hs, hz, hb, insGo, bs, comma, lpar, (show (65 : UInt8).toNat = 65 from rfl), (show (66 : UInt8).toNat = 66 from rfl), hput 65, hput 66]
    try simp [Ins.set, Ins.get, zC', zI']
    have hk2 := hk
    rw [zC', zI'] at hk2
    exact ⟨Ins.ext5 rfl rfl rfl zC'.symm zI'.symm, hk2⟩
  · rw [hf] at zA zB zC zI
    have zI' : i.I = 0 := zI rfl
    have ho : opsV i = [opdV i 97, opdV i 66, opdV i 67] := by unfold opsV; rw [hf]; rfl
    have hr : rowV (formV i.op) (opsV i) = [opdV i 97, opdV i 66, opdV i 67] := by rw [ho, hf]; rfl
    rw [text_n i hr, join_3, tk_3 pn nn (hpl 97).1 (hpl 97).2 (hpl 66).1 (hpl 66).2 (hpl 67).1 (hpl 67).2]
    simp only [List.map_cons, List.map_nil, hm]
    have hs : (shpB 11).data.toList = [97, 66, 67] := rfl
    have hz : (shpB 11).size = 3 := rfl
    have hb : betw 11 = [comma, comma] := rfl
    simp [insV, hnm, hneg, hf, opL, cpar, hs, hz, hb, insGo, bs, comma, lpar, (show (97 : UInt8).toNat = 97 from rfl), (show (66 : UInt8).toNat = 66 from rfl), (show (67 : UInt8).toNat = 67 from rfl), hput 97, hput 66, hput 67]
    try simp [Ins.set, Ins.get, zI']
    have hk2 := hk
    rw [zI'] at hk2
    exact ⟨Ins.ext5 rfl rfl rfl rfl zI'.symm, hk2⟩
  · rw [hf] at zA zB zC zI
    have zC' : i.C = 0 := by have : mxC 12 = 0 := rfl; omega
    have zI' : i.I = 0 := zI rfl
    have ho : opsV i = [opdV i 97, opdV i 66] := by unfold opsV; rw [hf]; rfl
    have hr : rowV (formV i.op) (opsV i) = [opdV i 97, opdV i 66] := by rw [ho, hf]; rfl
    rw [text_n i hr, join_2, tk_2 pn nn (hpl 97).1 (hpl 97).2 (hpl 66).1 (hpl 66).2]
    simp only [List.map_cons, List.map_nil, hm]
    have hs : (shpB 12).data.toList = [97, 66] := rfl
    have hz : (shpB 12).size = 2 := rfl
    have hb : betw 12 = [comma] := rfl
    simp [insV, hnm, hneg, hf, opL, cpar, hs, hz, hb, insGo, bs, comma, lpar, (show (97 : UInt8).toNat = 97 from rfl), (show (66 : UInt8).toNat = 66 from rfl), hput 97, hput 66]
    try simp [Ins.set, Ins.get, zC', zI']
    have hk2 := hk
    rw [zC', zI'] at hk2
    exact ⟨Ins.ext5 rfl rfl rfl zC'.symm zI'.symm, hk2⟩
  · rw [hf] at zA zB zC zI
    have zC' : i.C = 0 := by have : mxC 13 = 0 := rfl; omega
    have zI' : i.I = 0 := zI rfl
    have ho : opsV i = [opdV i 65, opdV i 98] := by unfold opsV; rw [hf]; rfl
    have hr : rowV (formV i.op) (opsV i) = [opdV i 65, opdV i 98] := by rw [ho, hf]; rfl
    rw [text_n i hr, join_2, tk_2 pn nn (hpl 65).1 (hpl 65).2 (hpl 98).1 (hpl 98).2]
    simp only [List.map_cons, List.map_nil, hm]
    have hs : (shpB 13).data.toList = [65, 98] := rfl
    have hz : (shpB 13).size = 2 := rfl
    have hb : betw 13 = [comma] := rfl
    simp [insV, hnm, hneg, hf, opL, cpar, hs, hz, hb, insGo, bs, comma, lpar, (show (65 : UInt8).toNat = 65 from rfl), (show (98 : UInt8).toNat = 98 from rfl), hput 65, hput 98]
    try simp [Ins.set, Ins.get, zC', zI']
    have hk2 := hk
    rw [zC', zI'] at hk2
    exact ⟨Ins.ext5 rfl rfl rfl zC'.symm zI'.symm, hk2⟩
  · rw [hf] at zA zB zC zI
    have zI' : i.I = 0 := zI rfl
    have ho : opsV i = [opdV i 65, opdV i 98, opdV i 99] := by unfold opsV; rw [hf]; rfl
    have hr : rowV (formV i.op) (opsV i) = [opdV i 65, opdV i 98, opdV i 99] := by rw [ho, hf]; rfl
    rw [text_n i hr, join_3, tk_3 pn nn (hpl 65).1 (hpl 65).2 (hpl 98).1 (hpl 98).2 (hpl 99).1 (hpl 99).2]
    simp only [List.map_cons, List.map_nil, hm]
    have hs : (shpB 14).data.toList = [65, 98, 99] := rfl
    have hz : (shpB 14).size = 3 := rfl
    have hb : betw 14 = [comma, comma] := rfl
    simp [insV, hnm, hneg, hf, opL, cpar, hs, hz, hb, insGo, bs, comma, lpar, (show (65 : UInt8).toNat = 65 from rfl), (show (98 : UInt8).toNat = 98 from rfl), (show (99 : UInt8).toNat = 99 from rfl), hput 65, hput 98, hput 99]
    try simp [Ins.set, Ins.get, zI']
    have hk2 := hk
    rw [zI'] at hk2
    exact ⟨Ins.ext5 rfl rfl rfl rfl zI'.symm, hk2⟩
  · rw [hf] at zA zB zC zI
    have zB' : i.B = 0 := by have : mxB 15 = 0 := rfl; omega
    have zC' : i.C = 0 := by have : mxC 15 = 0 := rfl; omega
    have ho : opsV i = [opdV i 97, opdV i 105] := by unfold opsV; rw [hf]; rfl
    have hr : rowV (formV i.op) (opsV i) = [opdV i 97, opdV i 105] := by rw [ho, hf]; rfl
    rw [text_n i hr, join_2, tk_2 pn nn (hpl 97).1 (hpl 97).2 (hpl 105).1 (hpl 105).2]
    simp only [List.map_cons, List.map_nil, hm]
    have hs : (shpB 15).data.toList = [97, 105] := rfl
    have hz : (shpB 15).size = 2 := rfl
    have hb : betw 15 = [comma] := rfl
    simp [insV, hnm, hneg, hf, opL, cpar, hs, hz, hb, insGo, bs, comma, lpar, (show (97 : UInt8).toNat = 97 from rfl), (show (105 : UInt8).toNat = 105 from rfl), hput 97, hput 105, hlab]
    try simp [Ins.set, Ins.get, zB', zC']
    have hk2 := hk
    rw [zB', zC'] at hk2
    exact ⟨Ins.ext5 rfl rfl zB'.symm zC'.symm rfl, hk2⟩
end Go.Proofs.YtbaooebafijenaaDoor
