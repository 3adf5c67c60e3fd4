/- Plain data of the program's structs, and how they lie in cells (printed by data.py). -/
import Derived.Test.YtgjdionnbbnmpaaDoorVmZ
namespace Go.Proofs.Vm
open Go Go.RowKit
def inI (n : Int) : Prop := -9223372036854775808 ≤ n ∧ n ≤ 9223372036854775807
def fitL {α : Type} (f : α → Prop) (l : List α) : Prop := l.length ≤ maxLen ∧ ∀ x ∈ l, f x
def wtL {α : Type} (f : α → Nat) (l : List α) : Nat := l.length + (l.map f).sum
def szR (n : Nat) (left : Int) : Int := if (n : Int) ≤ left then left - n else -1
theorem szR_pos {n : Nat} {left : Int} (h : (n : Int) ≤ left) : szR n left = left - n := if_pos h
theorem szR_neg {n : Nat} {left : Int} (h : left < (n : Int)) : szR n left = -1 := if_neg (by omega)
def preL {α : Type} (f : α → Nat) (l : List α) (i : Nat) : Nat := l.length + ((l.take i).map f).sum
theorem preL_zero {α : Type} (f : α → Nat) (l : List α) : preL f l 0 = l.length := by simp [preL]
theorem preL_all {α : Type} (f : α → Nat) (l : List α) : preL f l l.length = wtL f l := by simp [preL, wtL]
theorem preL_succ {α : Type} [Inhabited α] (f : α → Nat) (l : List α) {i : Nat} (h : i < l.length) : preL f l (i + 1) = preL f l i + f (l.getD i default) := by
  have e : l.take (i + 1) = l.take i ++ [l.getD i default] := by
    rw [List.take_add_one, List.getD_eq_getElem?_getD]; simp [h]
  simp [preL, e]; omega
theorem preL_le {α : Type} (f : α → Nat) (l : List α) (i : Nat) : preL f l i ≤ wtL f l := by
  have : (l.map f).sum = ((l.take i).map f).sum + ((l.drop i).map f).sum := by
    rw [← List.sum_append, ← List.map_append, List.take_append_drop]
  unfold preL wtL; omega
theorem wrap_id {n : Int} (h1 : -9223372036854775808 ≤ n) (h2 : n ≤ 9223372036854775807) : IntKind.i64.wrap n = n := by
  have e1 : (2 : Int) ^ 64 = 18446744073709551616 := by decide
  have e2 : (2 : Int) ^ (64 - 1) = 9223372036854775808 := by decide
  simp only [IntKind.wrap, IntKind.bits, IntKind.signed, Bool.true_and, decide_eq_true_eq, e1, e2]
  split <;> omega
theorem wrap_up {i : Nat} (h : i < 9223372036854775807) : IntKind.i64.wrap ((i : Int) + 1) = ((i + 1 : Nat) : Int) := by
  rw [wrap_id (by omega) (by omega)]; rfl
theorem maxLen_eq : maxLen = 9223372036854775807 := by decide
theorem wrap_sub {left : Int} {n : Nat} (h0 : 0 ≤ left) (h1 : left ≤ 1048576) (hn : n ≤ maxLen) : IntKind.i64.wrap (left - (n : Int)) = left - n := by
  rw [maxLen_eq] at hn
  exact wrap_id (by omega) (by omega)
def toPart {α : Type} (f : α → List C) (z : List C) (l : List α) (i : Nat) : List (List C) := (l.take i).map f ++ List.replicate (l.length - i) z
theorem toPart_zero {α : Type} (f : α → List C) (z : List C) (l : List α) : toPart f z l 0 = List.replicate l.length z := by simp [toPart]
theorem toPart_all {α : Type} (f : α → List C) (z : List C) (l : List α) : toPart f z l l.length = l.map f := by simp [toPart]
theorem toPart_length {α : Type} (f : α → List C) (z : List C) (l : List α) {i : Nat} (h : i ≤ l.length) : (toPart f z l i).length = l.length := by simp [toPart]; omega
theorem toPart_at {α : Type} (f : α → List C) (z : List C) (l : List α) {i : Nat} (h : i < l.length) : (toPart f z l i).getD i [] = z := by
  have e : min i l.length = i := by omega
  simp only [toPart, List.getD_eq_getElem?_getD]
  rw [List.getElem?_append_right (by simp [e])]
  simp [e, show 0 < l.length - i from by omega]
theorem toPart_set {α : Type} [Inhabited α] (f : α → List C) (z : List C) (l : List α) {i : Nat} (h : i < l.length) : (toPart f z l i).set i (f (l.getD i default)) = toPart f z l (i + 1) := by
  have e : l.take (i + 1) = l.take i ++ [l.getD i default] := by
    rw [List.take_add_one, List.getD_eq_getElem?_getD]; simp [h]
  have e2 : l.length - i = (l.length - (i + 1)) + 1 := by omega
  have e3 : ((l.take i).map f).length = i := by simp; omega
  simp only [toPart, e, e2, List.replicate_succ, List.map_append, List.map_cons, List.map_nil, List.append_assoc, List.cons_append, List.nil_append]
  rw [List.set_append_right _ _ (by omega), e3, Nat.sub_self]
  rfl

def rowsI (xs : List Int) : List (List C) := xs.map fun x => [.v (.int .i64 x)]
structure Tys where
  tInt : TypeId
  tString : TypeId
  tSig : TypeId
  tMark : TypeId
  tSigned : TypeId
  tEntry : TypeId
  tSignedS : TypeId
  tFork : TypeId
  tZone : TypeId
  tStored : TypeId
  tActor : TypeId
  tSaid : TypeId
  tServer : TypeId
structure TKeys where
  fList : List Int
  fNeed : Int
noncomputable instance : DecidableEq TKeys := fun _ _ => Classical.propDecidable _
instance : Inhabited TKeys := ⟨⟨[], 0⟩⟩
def TKeys.row (o : Option Tys) (x : TKeys) : List C := [.l (o.map (·.tInt)) 1 (rowsI x.fList), .v (.int .i64 x.fNeed)]
def TKeys.fit (x : TKeys) : Prop := fitL (inI) x.fList ∧ inI x.fNeed
def TKeys.wt (x : TKeys) : Nat := x.fList.length

theorem map_getD {α β : Type} [Inhabited α] (f : α → β) (l : List α) {i : Nat} (h : i < l.length) (d : β) : (l.map f).getD i d = f (l.getD i default) := by
  simp [List.getD_eq_getElem?_getD, h]
theorem rowsI_length (xs : List Int) : (rowsI xs).length = xs.length := by simp [rowsI]
theorem rowsI_frz (xs : List Int) : frzRs (rowsI xs) = rowsI xs := by
  simp [frzRs_map, rowsI, frzR, C.frz]
theorem rowsI_own (xs : List Int) : rowsOwn (rowsI xs) = false := by
  induction xs with
  | nil => rfl
  | cons t r ih => simpa [rowsI, rowsOwn, rowOwn, C.own] using ih
theorem rowsI_app (a b : List Int) : rowsI a ++ rowsI b = rowsI (a ++ b) := by simp [rowsI]
theorem rowsI_at (xs : List Int) {i : Nat} (h : i < xs.length) : (rowsI xs).getD i [] = [.v (.int .i64 (xs.getD i 0))] := by
  simp [rowsI, List.getD_eq_getElem?_getD, h]
theorem rowsI_rep (n : Nat) : List.replicate n [C.v (.int .i64 0)] = rowsI (List.replicate n 0) := by simp [rowsI]
theorem rowsI_set (xs : List Int) (i : Nat) (x : Int) : (rowsI xs).set i [.v (.int .i64 x)] = rowsI (xs.set i x) := by simp [rowsI, List.map_set]
theorem noImm_rowsI (xs : List Int) : noImmRs (rowsI xs) := by
  induction xs with
  | nil => trivial
  | cons t r ih => exact ⟨⟨trivial, trivial⟩, ih⟩
theorem frzRs_of {α : Type} {f g : α → List C} (h : ∀ x, frzR (f x) = g x) (l : List α) : frzRs (l.map f) = l.map g := by
  rw [frzRs_map, List.map_map]; exact List.map_congr_left fun x _ => h x
theorem rowsOwn_of {α : Type} {f : α → List C} (h : ∀ x, rowOwn (f x) = false) (l : List α) : rowsOwn (l.map f) = false := by
  induction l with
  | nil => rfl
  | cons x r ih => simp only [List.map_cons, rowsOwn, h, ih, Bool.or_self]
theorem noImm_of {α : Type} {f : α → List C} (h : ∀ x, noImmR (f x)) (l : List α) : noImmRs (l.map f) := by
  induction l with
  | nil => trivial
  | cons x r ih => exact ⟨h x, ih⟩
theorem sum_le {α : Type} (f : α → Nat) {l : List α} {x : α} (h : x ∈ l) : f x ≤ (l.map f).sum := by
  induction l with
  | nil => cases h
  | cons y r ih =>
    simp only [List.map_cons, List.sum_cons]
    rcases List.mem_cons.1 h with rfl | h
    · omega
    · have := ih h; omega
theorem getD_mem {α : Type} {l : List α} {i : Nat} (h : i < l.length) (d : α) : l.getD i d ∈ l := by
  have : l.getD i d = l[i] := by simp [List.getD_eq_getElem?_getD, h]
  rw [this]; exact List.getElem_mem _
theorem wtL_at {α : Type} {f : α → Nat} {l : List α} {i : Nat} (h : i < l.length) (d : α) : f (l.getD i d) + l.length ≤ wtL f l := by
  have := sum_le f (getD_mem h d)
  unfold wtL; omega
theorem wtL_len {α : Type} {f : α → Nat} {l : List α} : l.length ≤ wtL f l := by unfold wtL; omega
theorem fitL_at {α : Type} {f : α → Prop} {l : List α} (h : fitL f l) {i : Nat} (hi : i < l.length) (d : α) : f (l.getD i d) := h.2 _ (getD_mem hi d)

theorem TKeys_len (o : Option Tys) (x : TKeys) : (TKeys.row o x).length = 2 := rfl
theorem TKeys_at0 (o : Option Tys) (x : TKeys) : (TKeys.row o x)[0]? = some (.l (o.map (·.tInt)) 1 (rowsI x.fList)) := rfl
theorem TKeys_get0 (o : Option Tys) (x : TKeys) : (TKeys.row o x).getD 0 .gone = .l (o.map (·.tInt)) 1 (rowsI x.fList) := rfl
theorem TKeys_at1 (o : Option Tys) (x : TKeys) : (TKeys.row o x)[1]? = some (.v (.int .i64 x.fNeed)) := rfl
theorem TKeys_get1 (o : Option Tys) (x : TKeys) : (TKeys.row o x).getD 1 .gone = .v (.int .i64 x.fNeed) := rfl
theorem TKeys_drop (o : Option Tys) (x : TKeys) : (TKeys.row o x).drop 2 = [] := rfl
theorem TKeys_full (o : Option Tys) (x : TKeys) : (TKeys.row o x).take 2 = TKeys.row o x := rfl
theorem TKeys_frz (o : Option Tys) (x : TKeys) : frzR (TKeys.row o x) = TKeys.row none x := by simp only [TKeys.row, frzR, C.frz, Option.map_none, rowsI_frz]
theorem TKeys_own (x : TKeys) : rowOwn (TKeys.row none x) = false := rfl
theorem TKeys_owns (t : Tys) (x : TKeys) : rowOwn (TKeys.row (some t) x) = true := rfl
theorem TKeys_noImm (t : Tys) (x : TKeys) : noImmR (TKeys.row (some t) x) := ⟨noImm_rowsI _, trivial, trivial⟩
end Go.Proofs.Vm
