/- What the functions of an operation's number answer: tables. -/
import Derived.Test.YtbaooebafijenaaGreatDoorHvSimp
import Derived.Test.YtbaooebafijenaaGreatDoorHlib
import Derived.IntWalk
namespace Go.Ev
open Go
set_option linter.unusedSectionVars false
variable [Tabs]
def all2 {α : Type} (f : α → α → Bool) : List α → List α → Bool
 | [], [] => true
 | x :: xs, y :: ys => f x y && all2 f xs ys
 | _, _ => false
theorem all2_eq {α : Type} {f : α → α → Bool} (hf : ∀ x y, f x y = true → x = y) : ∀ l l', all2 f l l' = true → l = l'
 | [], [], _ => rfl
 | x :: xs, y :: ys, h => by
   simp only [all2, Bool.and_eq_true] at h
   rw [hf x y h.1, all2_eq hf xs ys h.2]
 | [], _ :: _, h => by cases h
 | _ :: _, [], h => by cases h
def beqV : Nat → Value → Value → Bool
 | _, .int k a, .int k' b => decide (k = k') && decide (a = b)
 | _, .bool a, .bool b => decide (a = b)
 | _, .string a, .string b => decide (a.data.toList = b.data.toList)
 | n + 1, .agg a, .agg b => all2 (beqV n) a.toList b.toList
 | n + 1, .tuple a, .tuple b => all2 (beqV n) a.toList b.toList
 | _, _, _ => false
theorem beqV_eq : ∀ (n : Nat) (x y : Value), beqV n x y = true → x = y := by
 intro n
 induction n with
 | zero =>
   intro x y h
   cases x <;> cases y <;> simp [beqV] at h ⊢
   · exact h
   · exact h
   · rename_i a b
     cases a; cases b; rename_i a b
     simp only [ByteArray.mk.injEq]
     simp only [Array.toList_inj] at h; exact h
 | succ n ih =>
   intro x y h
   cases x <;> cases y <;> simp [beqV] at h ⊢
   · exact h
   · exact h
   · rename_i a b
     cases a; cases b; rename_i a b
     simp only [ByteArray.mk.injEq]
     simp only [Array.toList_inj] at h; exact h
   · exact Array.toList_inj.1 (all2_eq ih _ _ h)
   · exact Array.toList_inj.1 (all2_eq ih _ _ h)
def okR (r : R) (v : Value) : Bool :=
 match r with
 | some (.ret x, _) => beqV 3 x v && flat x
 | _ => false
theorem okR_floor {r : R} {v : Value} (h : okR r v = true) (H : Hp) : movR [] H r = some (.ret v, H) := by
 unfold okR at h
 split at h
 · simp only [Bool.and_eq_true] at h
   have := beqV_eq _ _ _ h.1
   subst this
   exact movR_flat h.2
 · cases h
theorem okR_range {F : Int → R} {T : Int → Value} (m : Nat) (h : (List.range m).all (fun i => okR (F i) (T i)) = true) (op : Int) (h0 : 0 ≤ op ∧ op < m) (H : Hp) : movR [] H (F op) = some (.ret (T op), H) := by
 obtain ⟨k, rfl⟩ := Int.eq_ofNat_of_zero_le h0.1
 have hk : k < m := by omega
 exact okR_floor (List.all_eq_true.1 h k (List.mem_range.2 hk)) H
end Go.Ev
namespace Go.Proofs.YtbaooebafijenaaGreatDoor
open Go Go.Ev
set_option maxRecDepth 100000
set_option linter.unusedSimpArgs false
set_option linter.unusedVariables false
set_option linter.unusedSectionVars false
attribute [local congr] bind_front callK_front jn_front ifB_front ifG_front lp_front
def FA : Array Value := #[.string ⟨#[]⟩, .int .i64 0, .int .i64 0, .string ⟨#[110, 111, 112]⟩, .int .i64 1, .int .i64 1, .string ⟨#[97, 100, 100]⟩, .int .i64 2, .int .i64 1, .string ⟨#[115, 117, 98]⟩, .int .i64 2, .int .i64 1, .string ⟨#[109, 117, 108]⟩, .int .i64 2, .int .i64 3, .string ⟨#[109, 117, 108, 104]⟩, .int .i64 2, .int .i64 3, .string ⟨#[100, 105, 118]⟩, .int .i64 2, .int .i64 12, .string ⟨#[100, 105, 118, 117]⟩, .int .i64 2, .int .i64 12, .string ⟨#[114, 101, 109]⟩, .int .i64 2, .int .i64 12, .string ⟨#[114, 101, 109, 117]⟩, .int .i64 2, .int .i64 12, .string ⟨#[97, 110, 100]⟩, .int .i64 2, .int .i64 1, .string ⟨#[111, 114]⟩, .int .i64 2, .int .i64 1, .string ⟨#[120, 111, 114]⟩, .int .i64 2, .int .i64 1, .string ⟨#[115, 104, 108]⟩, .int .i64 2, .int .i64 1, .string ⟨#[115, 104, 114]⟩, .int .i64 2, .int .i64 1, .string ⟨#[115, 97, 114]⟩, .int .i64 2, .int .i64 1, .string ⟨#[115, 108, 116]⟩, .int .i64 2, .int .i64 1, .string ⟨#[115, 108, 116, 117]⟩, .int .i64 2, .int .i64 1, .string ⟨#[97, 100, 100, 105]⟩, .int .i64 3, .int .i64 1, .string ⟨#[97, 110, 100, 105]⟩, .int .i64 3, .int .i64 1, .string ⟨#[111, 114, 105]⟩, .int .i64 3, .int .i64 1, .string ⟨#[120, 111, 114, 105]⟩, .int .i64 3, .int .i64 1, .string ⟨#[115, 104, 108, 105]⟩, .int .i64 3, .int .i64 1, .string ⟨#[115, 104, 114, 105]⟩, .int .i64 3, .int .i64 1, .string ⟨#[115, 97, 114, 105]⟩, .int .i64 3, .int .i64 1, .string ⟨#[115, 108, 116, 105]⟩, .int .i64 3, .int .i64 1, .string ⟨#[115, 108, 116, 105, 117]⟩, .int .i64 3, .int .i64 1, .string ⟨#[108, 117, 105]⟩, .int .i64 4, .int .i64 1, .string ⟨#[108, 119]⟩, .int .i64 5, .int .i64 3, .string ⟨#[108, 104]⟩, .int .i64 5, .int .i64 3, .string ⟨#[108, 104, 117]⟩, .int .i64 5, .int .i64 3, .string ⟨#[108, 98]⟩, .int .i64 5, .int .i64 3, .string ⟨#[108, 98, 117]⟩, .int .i64 5, .int .i64 3, .string ⟨#[115, 119]⟩, .int .i64 5, .int .i64 3, .string ⟨#[115, 104]⟩, .int .i64 5, .int .i64 3, .string ⟨#[115, 98]⟩, .int .i64 5, .int .i64 3, .string ⟨#[102, 108, 100]⟩, .int .i64 6, .int .i64 4, .string ⟨#[102, 115, 100]⟩, .int .i64 6, .int .i64 4, .string ⟨#[98, 101, 113]⟩, .int .i64 7, .int .i64 2, .string ⟨#[98, 110, 101]⟩, .int .i64 7, .int .i64 2, .string ⟨#[98, 108, 116]⟩, .int .i64 7, .int .i64 2, .string ⟨#[98, 103, 101]⟩, .int .i64 7, .int .i64 2, .string ⟨#[98, 108, 116, 117]⟩, .int .i64 7, .int .i64 2, .string ⟨#[98, 103, 101, 117]⟩, .int .i64 7, .int .i64 2, .string ⟨#[106, 97, 108]⟩, .int .i64 8, .int .i64 2, .string ⟨#[106, 97, 108, 114]⟩, .int .i64 5, .int .i64 2, .string ⟨#[102, 97, 100, 100]⟩, .int .i64 9, .int .i64 4, .string ⟨#[102, 115, 117, 98]⟩, .int .i64 9, .int .i64 4, .string ⟨#[102, 109, 117, 108]⟩, .int .i64 9, .int .i64 5, .string ⟨#[102, 100, 105, 118]⟩, .int .i64 9, .int .i64 16, .string ⟨#[102, 115, 113, 114, 116]⟩, .int .i64 10, .int .i64 20, .string ⟨#[102, 109, 105, 110]⟩, .int .i64 9, .int .i64 2, .string ⟨#[102, 109, 97, 120]⟩, .int .i64 9, .int .i64 2, .string ⟨#[102, 110, 101, 103]⟩, .int .i64 10, .int .i64 2, .string ⟨#[102, 97, 98, 115]⟩, .int .i64 10, .int .i64 2, .string ⟨#[102, 101, 113]⟩, .int .i64 11, .int .i64 2, .string ⟨#[102, 108, 116]⟩, .int .i64 11, .int .i64 2, .string ⟨#[102, 108, 101]⟩, .int .i64 11, .int .i64 2, .string ⟨#[102, 99, 108, 97, 115, 115]⟩, .int .i64 12, .int .i64 2, .string ⟨#[102, 99, 118, 116, 100]⟩, .int .i64 13, .int .i64 2, .string ⟨#[102, 99, 118, 116, 119]⟩, .int .i64 12, .int .i64 2, .string ⟨#[102, 109, 118, 108]⟩, .int .i64 12, .int .i64 2, .string ⟨#[102, 109, 118, 104]⟩, .int .i64 12, .int .i64 2, .string ⟨#[102, 112, 117, 116]⟩, .int .i64 14, .int .i64 2, .string ⟨#[101, 99, 97, 108, 108]⟩, .int .i64 1, .int .i64 1, .string ⟨#[98, 114, 107]⟩, .int .i64 1, .int .i64 1, .string ⟨#[104, 99, 97, 108, 108]⟩, .int .i64 1, .int .i64 1, .string ⟨#[101, 114, 101, 116]⟩, .int .i64 1, .int .i64 4, .string ⟨#[109, 102, 99]⟩, .int .i64 15, .int .i64 2, .string ⟨#[109, 116, 99]⟩, .int .i64 15, .int .i64 2, .string ⟨#[119, 102, 105]⟩, .int .i64 1, .int .i64 1, .string ⟨#[104, 97, 108, 116]⟩, .int .i64 1, .int .i64 1]
def FORMS : Value := .agg FA
def quietL : List Nat := [3, 4, 5, 6, 8, 9, 15, 18, 20, 21, 22, 25, 28, 29, 30, 31, 33, 38, 39, 40, 41, 46, 48, 49, 50, 51, 52, 53, 54, 55, 56, 57, 61, 71, 73, 74, 75]
variable [Mx]
def ext43 : List Value → Option Value
 | [] => some FORMS
 | _ => none
def extC (f : FuncId) (args : List Value) : Option Value :=
 match f with
 | 75 => ext43 args
 | 80 => extL 80 args
 | 13 => extL 13 args
 | 63 => extL 63 args
 | 72 => extL 72 args
 | 79 => extL 79 args
 | _ => none
def exhC (f : FuncId) (args : List Value) (H : Hp) : Option (Out × Hp) :=
 match f with
 | 19 => exhL 19 args H
 | 12 => exhL 12 args H
 | _ => none
noncomputable def cfc : Cfg := { P := Tryz.prog, ext := extC, exh := exhC, quiet := fun f => List.elem f quietL, live := live }
noncomputable def cf0 : Cfg := { P := Tryz.prog, ext := extL, exh := exhL, quiet := fun f => List.elem f quietL, live := live }
theorem forms43 : evCall cf0 1 75 [] Hp.fl = some (.ret FORMS, Hp.fl) := by
 rw [evCall_quiet (fn := Tryz.f75) (by rfl) (by rfl) Tryz.func75 (by rfl) (by rfl)]
 kernel_rfl
theorem v75 (n : Nat) (H : Hp) : evCall cfc (n+1) 75 [] H = some (.ret FORMS, H) := rfl
theorem tabs_gn : Tabs.gn = 11 := rfl
def tabI (l : List Int) (op : Int) : Int := if 0 ≤ op ∧ op < 72 then l.getD op.toNat 0 else 0
def formV (op : Int) : Int := tabI [0, 1, 2, 2, 2, 2, 2, 2, 2, 2, 2, 2, 2, 2, 2, 2, 2, 2, 3, 3, 3, 3, 3, 3, 3, 3, 3, 4, 5, 5, 5, 5, 5, 5, 5, 5, 6, 6, 7, 7, 7, 7, 7, 7, 8, 5, 9, 9, 9, 9, 10, 9, 9, 10, 10, 11, 11, 11, 12, 13, 12, 12, 12, 14, 1, 1, 1, 1, 15, 15, 1, 1] op
def costV (op : Int) : Int := tabI [0, 1, 1, 1, 3, 3, 12, 12, 12, 12, 1, 1, 1, 1, 1, 1, 1, 1, 1, 1, 1, 1, 1, 1, 1, 1, 1, 1, 3, 3, 3, 3, 3, 3, 3, 3, 4, 4, 2, 2, 2, 2, 2, 2, 2, 2, 4, 4, 5, 16, 20, 2, 2, 2, 2, 2, 2, 2, 2, 2, 2, 2, 2, 2, 1, 1, 1, 4, 2, 2, 1, 1] op
def nmL : List ByteArray := [⟨#[]⟩, ⟨#[110, 111, 112]⟩, ⟨#[97, 100, 100]⟩, ⟨#[115, 117, 98]⟩, ⟨#[109, 117, 108]⟩, ⟨#[109, 117, 108, 104]⟩, ⟨#[100, 105, 118]⟩, ⟨#[100, 105, 118, 117]⟩, ⟨#[114, 101, 109]⟩, ⟨#[114, 101, 109, 117]⟩, ⟨#[97, 110, 100]⟩, ⟨#[111, 114]⟩, ⟨#[120, 111, 114]⟩, ⟨#[115, 104, 108]⟩, ⟨#[115, 104, 114]⟩, ⟨#[115, 97, 114]⟩, ⟨#[115, 108, 116]⟩, ⟨#[115, 108, 116, 117]⟩, ⟨#[97, 100, 100, 105]⟩, ⟨#[97, 110, 100, 105]⟩, ⟨#[111, 114, 105]⟩, ⟨#[120, 111, 114, 105]⟩, ⟨#[115, 104, 108, 105]⟩, ⟨#[115, 104, 114, 105]⟩, ⟨#[115, 97, 114, 105]⟩, ⟨#[115, 108, 116, 105]⟩, ⟨#[115, 108, 116, 105, 117]⟩, ⟨#[108, 117, 105]⟩, ⟨#[108, 119]⟩, ⟨#[108, 104]⟩, ⟨#[108, 104, 117]⟩, ⟨#[108, 98]⟩, ⟨#[108, 98, 117]⟩, ⟨#[115, 119]⟩, ⟨#[115, 104]⟩, ⟨#[115, 98]⟩, ⟨#[102, 108, 100]⟩, ⟨#[102, 115, 100]⟩, ⟨#[98, 101, 113]⟩, ⟨#[98, 110, 101]⟩, ⟨#[98, 108, 116]⟩, ⟨#[98, 103, 101]⟩, ⟨#[98, 108, 116, 117]⟩, ⟨#[98, 103, 101, 117]⟩, ⟨#[106, 97, 108]⟩, ⟨#[106, 97, 108, 114]⟩, ⟨#[102, 97, 100, 100]⟩, ⟨#[102, 115, 117, 98]⟩, ⟨#[102, 109, 117, 108]⟩, ⟨#[102, 100, 105, 118]⟩, ⟨#[102, 115, 113, 114, 116]⟩, ⟨#[102, 109, 105, 110]⟩, ⟨#[102, 109, 97, 120]⟩, ⟨#[102, 110, 101, 103]⟩, ⟨#[102, 97, 98, 115]⟩, ⟨#[102, 101, 113]⟩, ⟨#[102, 108, 116]⟩, ⟨#[102, 108, 101]⟩, ⟨#[102, 99, 108, 97, 115, 115]⟩, ⟨#[102, 99, 118, 116, 100]⟩, ⟨#[102, 99, 118, 116, 119]⟩, ⟨#[102, 109, 118, 108]⟩, ⟨#[102, 109, 118, 104]⟩, ⟨#[102, 112, 117, 116]⟩, ⟨#[101, 99, 97, 108, 108]⟩, ⟨#[98, 114, 107]⟩, ⟨#[104, 99, 97, 108, 108]⟩, ⟨#[101, 114, 101, 116]⟩, ⟨#[109, 102, 99]⟩, ⟨#[109, 116, 99]⟩, ⟨#[119, 102, 105]⟩, ⟨#[104, 97, 108, 116]⟩]
def nameV (op : Int) : ByteArray := if 0 ≤ op ∧ op < 72 then nmL.getD op.toNat ⟨#[]⟩ else ⟨#[]⟩
def lowV (op : Int) : Int := if 0 ≤ op ∧ op < 72 then [-32768, -32768, -32768, -32768, -32768, -32768, -32768, -32768, -32768, -32768, -32768, -32768, -32768, -32768, -32768, -32768, -32768, -32768, -32768, 0, 0, 0, 0, 0, 0, -32768, -32768, 0, -32768, -32768, -32768, -32768, -32768, -32768, -32768, -32768, -32768, -32768, -32768, -32768, -32768, -32768, -32768, -32768, -32768, -32768, -32768, -32768, -32768, -32768, -32768, -32768, -32768, -32768, -32768, -32768, -32768, -32768, -32768, -32768, -32768, -32768, -32768, -32768, -32768, -32768, -32768, -32768, 0, 0, -32768, -32768].getD op.toNat 0 else -32768
def highV (op : Int) : Int := if 0 ≤ op ∧ op < 72 then [32767, 32767, 32767, 32767, 32767, 32767, 32767, 32767, 32767, 32767, 32767, 32767, 32767, 32767, 32767, 32767, 32767, 32767, 32767, 65535, 65535, 65535, 31, 31, 31, 32767, 32767, 65535, 32767, 32767, 32767, 32767, 32767, 32767, 32767, 32767, 32767, 32767, 32767, 32767, 32767, 32767, 32767, 32767, 32767, 32767, 32767, 32767, 32767, 32767, 32767, 32767, 32767, 32767, 32767, 32767, 32767, 32767, 32767, 32767, 32767, 32767, 32767, 32767, 32767, 32767, 32767, 32767, 9, 9, 32767, 32767].getD op.toNat 0 else 32767
theorem q61 (n : Nat) (x0 : Value) (hx0 : flat x0 = true) (H : Hp) : evCall cfc (n+1) 61 [x0] H = movR [] H (s61 (evCall cfc n) n x0 Hp.fl) := by
 rw [evCall_quiet (fn := Tryz.f61) (by rfl) (by rfl) Tryz.func61 (by rfl) (by simp [hx0])]
 exact congrArg (movR [] H) (s61_eq _ _ _ _)
theorem q40 (n : Nat) (x0 : Value) (hx0 : flat x0 = true) (H : Hp) : evCall cfc (n+1) 40 [x0] H = movR [] H (s40 (evCall cfc n) n x0 Hp.fl) := by
 rw [evCall_quiet (fn := Tryz.f40) (by rfl) (by rfl) Tryz.func40 (by rfl) (by simp [hx0])]
 exact congrArg (movR [] H) (s40_eq _ _ _ _)
theorem q41 (n : Nat) (x0 : Value) (hx0 : flat x0 = true) (H : Hp) : evCall cfc (n+1) 41 [x0] H = movR [] H (s41 (evCall cfc n) n x0 Hp.fl) := by
 rw [evCall_quiet (fn := Tryz.f41) (by rfl) (by rfl) Tryz.func41 (by rfl) (by simp [hx0])]
 exact congrArg (movR [] H) (s41_eq _ _ _ _)
theorem q39 (n : Nat) (x0 : Value) (hx0 : flat x0 = true) (H : Hp) : evCall cfc (n+1) 39 [x0] H = movR [] H (s39 (evCall cfc n) n x0 Hp.fl) := by
 rw [evCall_quiet (fn := Tryz.f39) (by rfl) (by rfl) Tryz.func39 (by rfl) (by simp [hx0])]
 exact congrArg (movR [] H) (s39_eq _ _ _ _)
theorem q38 (n : Nat) (x0 : Value) (hx0 : flat x0 = true) (H : Hp) : evCall cfc (n+1) 38 [x0] H = movR [] H (s38 (evCall cfc n) n x0 Hp.fl) := by
 rw [evCall_quiet (fn := Tryz.f38) (by rfl) (by rfl) Tryz.func38 (by rfl) (by simp [hx0])]
 exact congrArg (movR [] H) (s38_eq _ _ _ _)
theorem q20 (n : Nat) (x0 : Value) (hx0 : flat x0 = true) (H : Hp) : evCall cfc (n+1) 20 [x0] H = movR [] H (s20 (evCall cfc n) n x0 Hp.fl) := by
 rw [evCall_quiet (fn := Tryz.f20) (by rfl) (by rfl) Tryz.func20 (by rfl) (by simp [hx0])]
 exact congrArg (movR [] H) (s20_eq _ _ _ _)
theorem flat_int (k : IntKind) (x : Int) : flat (.int k x) = true := rfl
theorem flat_str (s : ByteArray) : flat (.string s) = true := rfl
theorem flat_bool (b : Bool) : flat (.bool b) = true := rfl
theorem flat_tup (a b : Int) : flat (.tuple #[.int .i64 a, .int .i64 b]) = true := rfl
theorem v41 (n : Nat) (H : Hp) (op : Int) : evCall cfc (n+2) 41 [.int .i64 op] H = some (.ret (.tuple #[.int .i64 (lowV op), .int .i64 (highV op)]), H) := by
 rw [q41 (n+1) _ rfl H]
 by_cases h : 0 ≤ op ∧ op < 72
 · exact okR_range (F := fun op => s41 (evCall cfc (n+1)) (n+1) (.int .i64 op) Hp.fl) (T := fun op => .tuple #[.int .i64 (lowV op), .int .i64 (highV op)]) 72 (by kernel_rfl) op h H
 · have e : ∀ k : Int, 0 ≤ k → k < 72 → (op = k) = False := by intro k h1 h2; simp only [eq_iff_iff, iff_false]; omega
   have h2 : (0 ≤ op ∧ op < 72) = False := by simp only [eq_iff_iff, iff_false]; exact h
   simp -implicitDefEqProofs only [s41, v75, ↓someB, ↓callK_ret, ↓ifB_t, ↓ifB_f, ↓ifB_dec, ↓ifG_tt, ↓ifG_ff, ↓ifG_tf, ↓ifG_ft, ↓ifG_undef, ↓ifG_dt, ↓ifG_df, ↓jn_nrm, ↓jn_ex, ↓jn_rt, ↓jn_ite, ↓callK_ite, ↓bind_ite, bin_add, bin_sub, bin_mul, bin_quo, bin_rem, bin_and, bin_or, bin_xor, bin_andNot, bin_eql, bin_neq, bin_lss, bin_leq, bin_gtr, bin_geq, bin_shl, bin_shr, bin_beq, bin_bne, bin_seq, bin_sne, un_not, un_neg, cvI_int, ptr_def, fa_ptr, nilc_ptr, ia_ptr, sa_ptr, fld_agg, fld_one, ix_one, ix_agg, ext1_tuple, ld_ptr, ldN_ptr, st_ptr, pick_t, pick_f, pick_dec, bx_int, bx_bool, bx_str, bx_agg, ifB_t, ifB_f, ifB_dec, ifG_tt, ifG_ff, ifG_tf, ifG_ft, ifG_undef, ifG_dt, ifG_df, not_dec, jn_nrm, jn_ex, jn_rt, jn_ite, lp_succ, callK_ret, callK_ite, bind_ite, someB, len_str, len_sl, pl_get, plA_get, beqA_eql, beqA_neq, seqS_nil, seqS_int, seqS_bool, fillL_nil, fillL_cons, cells_new, cells_set, wc_new, wc_set, next_fl, lim_fl, movR_ret, movR_ite, Hp.next_new, Hp.next_set, Hp.lim_new, Hp.lim_set, goInt, splice, okC, List.getD_cons_zero, List.getD_cons_succ, List.getElem?_cons_zero, List.getElem?_cons_succ, List.length_cons, List.length_nil, List.set_cons_zero, List.set_cons_succ, List.all_cons, List.all_nil, List.getElem?_toArray, Option.bind_some, Option.bind_none, Fr.of, Fr.ofI, Fr.g, cond_true, cond_false, if_true, if_false, Nat.reduceAdd, Nat.reduceMul, Nat.reduceEqDiff, Nat.reduceLT, Nat.reduceLeDiff, Nat.reduceBEq, Int.reduceLT, Int.reduceLE, Int.reduceToNat, Int.reduceAdd, Int.reduceSub, Int.reduceMul, Int.reduceEq, Int.reduceNeg, Int.cast_ofNat_Int, Nat.zero_add, Nat.add_zero, Nat.mul_one, decide_true, decide_false, and_true, true_and, and_self, ↓reduceIte, ↓reduceDIte, Bool.true_and, Bool.and_true, Bool.false_and, Bool.and_false, Bool.not_true, Bool.not_false, not_true_eq_false, not_false_eq_true, Nat.beq, reduceCtorEq, Value.int.injEq, List.drop_zero, List.drop_succ_cons, List.take_succ_cons, List.take_zero, List.take_nil, List.size_toArray, toL_toA, e, tabs_gn, flat_int, flat_str, flat_bool, flat_tup, lowV, highV, h2, tabI]
theorem v61 (n : Nat) (H : Hp) (op : Int) : evCall cfc (n+2) 61 [.int .i64 op] H = some (.ret (.agg #[.string (nameV op), .int .i64 (formV op), .int .i64 (costV op)]), H) := by
 rw [q61 (n+1) _ rfl H]
 by_cases h : 0 ≤ op ∧ op < 72
 · exact okR_range (F := fun op => s61 (evCall cfc (n+1)) (n+1) (.int .i64 op) Hp.fl) (T := fun op => .agg #[.string (nameV op), .int .i64 (formV op), .int .i64 (costV op)]) 72 (by kernel_rfl) op h H
 · have h2 : (0 ≤ op ∧ op < 72) = False := by simp only [eq_iff_iff, iff_false]; exact h
   by_cases h3 : op < 0
   · simp -implicitDefEqProofs only [s61, v75, ↓someB, ↓callK_ret, ↓ifB_t, ↓ifB_f, ↓ifB_dec, ↓ifG_tt, ↓ifG_ff, ↓ifG_tf, ↓ifG_ft, ↓ifG_undef, ↓ifG_dt, ↓ifG_df, ↓jn_nrm, ↓jn_ex, ↓jn_rt, ↓jn_ite, ↓callK_ite, ↓bind_ite, bin_add, bin_sub, bin_mul, bin_quo, bin_rem, bin_and, bin_or, bin_xor, bin_andNot, bin_eql, bin_neq, bin_lss, bin_leq, bin_gtr, bin_geq, bin_shl, bin_shr, bin_beq, bin_bne, bin_seq, bin_sne, un_not, un_neg, cvI_int, ptr_def, fa_ptr, nilc_ptr, ia_ptr, sa_ptr, fld_agg, fld_one, ix_one, ix_agg, ext1_tuple, ld_ptr, ldN_ptr, st_ptr, pick_t, pick_f, pick_dec, bx_int, bx_bool, bx_str, bx_agg, ifB_t, ifB_f, ifB_dec, ifG_tt, ifG_ff, ifG_tf, ifG_ft, ifG_undef, ifG_dt, ifG_df, not_dec, jn_nrm, jn_ex, jn_rt, jn_ite, lp_succ, callK_ret, callK_ite, bind_ite, someB, len_str, len_sl, pl_get, plA_get, beqA_eql, beqA_neq, seqS_nil, seqS_int, seqS_bool, fillL_nil, fillL_cons, cells_new, cells_set, wc_new, wc_set, next_fl, lim_fl, movR_ret, movR_ite, Hp.next_new, Hp.next_set, Hp.lim_new, Hp.lim_set, goInt, splice, okC, List.getD_cons_zero, List.getD_cons_succ, List.getElem?_cons_zero, List.getElem?_cons_succ, List.length_cons, List.length_nil, List.set_cons_zero, List.set_cons_succ, List.all_cons, List.all_nil, List.getElem?_toArray, Option.bind_some, Option.bind_none, Fr.of, Fr.ofI, Fr.g, cond_true, cond_false, if_true, if_false, Nat.reduceAdd, Nat.reduceMul, Nat.reduceEqDiff, Nat.reduceLT, Nat.reduceLeDiff, Nat.reduceBEq, Int.reduceLT, Int.reduceLE, Int.reduceToNat, Int.reduceAdd, Int.reduceSub, Int.reduceMul, Int.reduceEq, Int.reduceNeg, Int.cast_ofNat_Int, Nat.zero_add, Nat.add_zero, Nat.mul_one, decide_true, decide_false, and_true, true_and, and_self, ↓reduceIte, ↓reduceDIte, Bool.true_and, Bool.and_true, Bool.false_and, Bool.and_false, Bool.not_true, Bool.not_false, not_true_eq_false, not_false_eq_true, Nat.beq, reduceCtorEq, Value.int.injEq, List.drop_zero, List.drop_succ_cons, List.take_succ_cons, List.take_zero, List.take_nil, List.size_toArray, toL_toA, h3, h2, tabs_gn, flat_int, flat_str, flat_bool, formV, costV, nameV, tabI]
     rfl
   · have h4 : 72 ≤ op := by omega
     simp -implicitDefEqProofs only [s61, v75, ↓someB, ↓callK_ret, ↓ifB_t, ↓ifB_f, ↓ifB_dec, ↓ifG_tt, ↓ifG_ff, ↓ifG_tf, ↓ifG_ft, ↓ifG_undef, ↓ifG_dt, ↓ifG_df, ↓jn_nrm, ↓jn_ex, ↓jn_rt, ↓jn_ite, ↓callK_ite, ↓bind_ite, bin_add, bin_sub, bin_mul, bin_quo, bin_rem, bin_and, bin_or, bin_xor, bin_andNot, bin_eql, bin_neq, bin_lss, bin_leq, bin_gtr, bin_geq, bin_shl, bin_shr, bin_beq, bin_bne, bin_seq, bin_sne, un_not, un_neg, cvI_int, ptr_def, fa_ptr, nilc_ptr, ia_ptr, sa_ptr, fld_agg, fld_one, ix_one, ix_agg, ext1_tuple, ld_ptr, ldN_ptr, st_ptr, pick_t, pick_f, pick_dec, bx_int, bx_bool, bx_str, bx_agg, ifB_t, ifB_f, ifB_dec, ifG_tt, ifG_ff, ifG_tf, ifG_ft, ifG_undef, ifG_dt, ifG_df, not_dec, jn_nrm, jn_ex, jn_rt, jn_ite, lp_succ, callK_ret, callK_ite, bind_ite, someB, len_str, len_sl, pl_get, plA_get, beqA_eql, beqA_neq, seqS_nil, seqS_int, seqS_bool, fillL_nil, fillL_cons, cells_new, cells_set, wc_new, wc_set, next_fl, lim_fl, movR_ret, movR_ite, Hp.next_new, Hp.next_set, Hp.lim_new, Hp.lim_set, goInt, splice, okC, List.getD_cons_zero, List.getD_cons_succ, List.getElem?_cons_zero, List.getElem?_cons_succ, List.length_cons, List.length_nil, List.set_cons_zero, List.set_cons_succ, List.all_cons, List.all_nil, List.getElem?_toArray, Option.bind_some, Option.bind_none, Fr.of, Fr.ofI, Fr.g, cond_true, cond_false, if_true, if_false, Nat.reduceAdd, Nat.reduceMul, Nat.reduceEqDiff, Nat.reduceLT, Nat.reduceLeDiff, Nat.reduceBEq, Int.reduceLT, Int.reduceLE, Int.reduceToNat, Int.reduceAdd, Int.reduceSub, Int.reduceMul, Int.reduceEq, Int.reduceNeg, Int.cast_ofNat_Int, Nat.zero_add, Nat.add_zero, Nat.mul_one, decide_true, decide_false, and_true, true_and, and_self, ↓reduceIte, ↓reduceDIte, Bool.true_and, Bool.and_true, Bool.false_and, Bool.and_false, Bool.not_true, Bool.not_false, not_true_eq_false, not_false_eq_true, Nat.beq, reduceCtorEq, Value.int.injEq, List.drop_zero, List.drop_succ_cons, List.take_succ_cons, List.take_zero, List.take_nil, List.size_toArray, toL_toA, h3, h4, h2, tabs_gn, flat_int, flat_str, flat_bool, formV, costV, nameV, tabI]
     rfl
theorem v40 (n : Nat) (H : Hp) (op : Int) : evCall cfc (n+3) 40 [.int .i64 op] H = some (.ret (.int .i64 (formV op)), H) := by
 rw [q40 (n+2) _ rfl H]
 simp -implicitDefEqProofs only [s40, v61, ↓someB, ↓callK_ret, ↓ifB_t, ↓ifB_f, ↓ifB_dec, ↓ifG_tt, ↓ifG_ff, ↓ifG_tf, ↓ifG_ft, ↓ifG_undef, ↓ifG_dt, ↓ifG_df, ↓jn_nrm, ↓jn_ex, ↓jn_rt, ↓jn_ite, ↓callK_ite, ↓bind_ite, bin_add, bin_sub, bin_mul, bin_quo, bin_rem, bin_and, bin_or, bin_xor, bin_andNot, bin_eql, bin_neq, bin_lss, bin_leq, bin_gtr, bin_geq, bin_shl, bin_shr, bin_beq, bin_bne, bin_seq, bin_sne, un_not, un_neg, cvI_int, ptr_def, fa_ptr, nilc_ptr, ia_ptr, sa_ptr, fld_agg, fld_one, ix_one, ix_agg, ext1_tuple, ld_ptr, ldN_ptr, st_ptr, pick_t, pick_f, pick_dec, bx_int, bx_bool, bx_str, bx_agg, ifB_t, ifB_f, ifB_dec, ifG_tt, ifG_ff, ifG_tf, ifG_ft, ifG_undef, ifG_dt, ifG_df, not_dec, jn_nrm, jn_ex, jn_rt, jn_ite, lp_succ, callK_ret, callK_ite, bind_ite, someB, len_str, len_sl, pl_get, plA_get, beqA_eql, beqA_neq, seqS_nil, seqS_int, seqS_bool, fillL_nil, fillL_cons, cells_new, cells_set, wc_new, wc_set, next_fl, lim_fl, movR_ret, movR_ite, Hp.next_new, Hp.next_set, Hp.lim_new, Hp.lim_set, goInt, splice, okC, List.getD_cons_zero, List.getD_cons_succ, List.getElem?_cons_zero, List.getElem?_cons_succ, List.length_cons, List.length_nil, List.set_cons_zero, List.set_cons_succ, List.all_cons, List.all_nil, List.getElem?_toArray, Option.bind_some, Option.bind_none, Fr.of, Fr.ofI, Fr.g, cond_true, cond_false, if_true, if_false, Nat.reduceAdd, Nat.reduceMul, Nat.reduceEqDiff, Nat.reduceLT, Nat.reduceLeDiff, Nat.reduceBEq, Int.reduceLT, Int.reduceLE, Int.reduceToNat, Int.reduceAdd, Int.reduceSub, Int.reduceMul, Int.reduceEq, Int.reduceNeg, Int.cast_ofNat_Int, Nat.zero_add, Nat.add_zero, Nat.mul_one, decide_true, decide_false, and_true, true_and, and_self, ↓reduceIte, ↓reduceDIte, Bool.true_and, Bool.and_true, Bool.false_and, Bool.and_false, Bool.not_true, Bool.not_false, not_true_eq_false, not_false_eq_true, Nat.beq, reduceCtorEq, Value.int.injEq, List.drop_zero, List.drop_succ_cons, List.take_succ_cons, List.take_zero, List.take_nil, List.size_toArray, toL_toA, flat_int, flat_str]
end Go.Proofs.YtbaooebafijenaaGreatDoor
