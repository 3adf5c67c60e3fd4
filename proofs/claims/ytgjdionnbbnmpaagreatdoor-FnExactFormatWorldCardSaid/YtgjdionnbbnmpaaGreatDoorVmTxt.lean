/- A part of the proof of the card: lemmas that the text with the card leans on (see there for what is proved, and under which conditions). -/
import Derived.Test.YtgjdionnbbnmpaaGreatDoorVmData
set_option linter.unusedVariables false
set_option linter.unusedSimpArgs false
namespace Go.Proofs.Vm
open Go Go.RowKit
/-! ### Numbers and texts (no program in sight) -/
theorem wrap8_id {n : Int} (h1 : 0 ≤ n) (h2 : n < 256) : IntKind.u8.wrap n = n := by
  have e1 : (2 : Int) ^ 8 = 256 := by decide
  simp only [IntKind.wrap, IntKind.bits, IntKind.signed, Bool.false_and, e1, Bool.false_eq_true, if_false]
  omega
def dig (x : Int) : UInt8 := UInt8.ofNat (48 + x.natAbs % 10)
theorem abs_mod (x : Int) : (if x.tmod 10 < 0 then -(x.tmod 10) else x.tmod 10) = ((x.natAbs % 10 : Nat) : Int) := by
  rcases Int.natAbs_eq x with h | h
  · rw [h]
    have : ((x.natAbs : Int)).tmod 10 = ((x.natAbs % 10 : Nat) : Int) := by rw [Int.natCast_emod]; exact Int.tmod_eq_emod_of_nonneg (by omega)
    rw [this]
    rw [if_neg (by omega)]
    simp
  · rw [h]
    have : (-(x.natAbs : Int)).tmod 10 = -((x.natAbs % 10 : Nat) : Int) := by rw [Int.neg_tmod, Int.natCast_emod, Int.tmod_eq_emod_of_nonneg (by omega)]; rfl
    rw [this]
    split <;> simp <;> omega
theorem cat_dig (x : Int) (l : List UInt8) : strOfNums [((48 + x.natAbs % 10 : Nat) : Int)] ++ bs l = bs (dig x :: l) := by
  have key : ∀ m : Nat, strOfNums [(m : Int)] ++ bs l = bs (UInt8.ofNat m :: l) := by
    intro m
    apply ByteArray.ext
    simp [strOfNums, bs, ByteArray.data_append]
  exact key _
theorem div_natAbs (x : Int) : (x.tdiv 10).natAbs = x.natAbs / 10 := by
  rw [Int.natAbs_tdiv]; rfl
theorem dec_step {x : Int} (hx : x ≠ 0) (l : List UInt8) : (if x.tdiv 10 = 0 then dig x :: l else Lib.decDigits (x.tdiv 10).natAbs ++ dig x :: l) = Lib.decDigits x.natAbs ++ l := by
  rw [div_natAbs]
  have h0 : x.tdiv 10 = 0 ↔ x.natAbs < 10 := by
    rw [← Int.natAbs_eq_zero, div_natAbs]; omega
  by_cases h : x.natAbs < 10
  · rw [if_pos (h0.2 h), Lib.decDigits, dif_pos h, dig, Nat.mod_eq_of_lt h]
    rfl
  · rw [if_neg (fun e => h (h0.1 e))]
    conv => rhs; rw [Lib.decDigits, dif_neg h]
    simp [dig]
theorem itoa_zero : bs (Lib.itoa 0) = { data := #[48] } := by
  simp only [Lib.itoa]
  rw [if_neg (by decide), Lib.decDigits, dif_pos (by decide)]
  rfl
theorem itoa_len {n : Int} (h : inI n) : (Lib.itoa n).length ≤ 21 := Lib.itoa_length_le n h.1 h.2
theorem take_succ_at {α : Type} [Inhabited α] (l : List α) {i : Nat} (h : i < l.length) : l.take (i + 1) = l.take i ++ [l.getD i default] := by
  rw [List.take_add_one, List.getD_eq_getElem?_getD]
  simp [h]
/-- Texts joined one by one. -/
theorem joinB_next (sep : List UInt8) (l : List (List UInt8)) {i : Nat} (h : i < l.length) : joinB sep (l.take (i + 1)) = (if i = 0 then [] else joinB sep (l.take i) ++ sep) ++ l.getD i default := by
  rw [take_succ_at l h]
  by_cases h0 : i = 0
  · subst h0; simp [joinB]
  · rw [if_neg h0, joinB_snoc]
    intro h1
    have := congrArg List.length h1
    rw [List.length_take, List.length_nil] at this
    omega
theorem map_getD' {α β : Type} [Inhabited α] [Inhabited β] (f : α → β) (l : List α) {i : Nat} (h : i < l.length) : (l.map f).getD i default = f (l.getD i default) := map_getD f l h default
theorem joinB_len_take (sep : List UInt8) (m : Nat) (l : List (List UInt8)) (h : ∀ t ∈ l, t.length ≤ m) (i : Nat) : (joinB sep (l.take i)).length ≤ l.length * (m + sep.length) := by
  have h1 := joinB_len sep m (l.take i) (fun t ht => h t (List.mem_of_mem_take ht))
  have h2 : (l.take i).length ≤ l.length := by rw [List.length_take]; omega
  exact Nat.le_trans h1 (Nat.mul_le_mul_right _ h2)
def keysNone (k : TKeys) : Bool := k.fNeed == 0 && ((k.fList.length : Int) == 0)
theorem keysNone_true {k : TKeys} (h : keysNone k = true) : k.fNeed = 0 ∧ k.fList = [] := by
  simp only [keysNone, Bool.and_eq_true, beq_iff_eq] at h
  exact ⟨h.1, List.eq_nil_of_length_eq_zero (by omega)⟩
/-- The text of a set of keys. -/
def keysText (k : TKeys) : List UInt8 := if keysNone k then [45] else Lib.itoa k.fNeed ++ [47] ++ joinB [43] (k.fList.map Lib.itoa)
theorem itoas_len {l : List Int} (h : ∀ x ∈ l, inI x) : ∀ t ∈ l.map Lib.itoa, t.length ≤ 21 := by
  intro t ht
  obtain ⟨x, hx, rfl⟩ := List.mem_map.1 ht
  exact itoa_len (h x hx)
end Go.Proofs.Vm
