/- A part of the proof of the card: lemmas that the text with the card leans on (see there for what is proved, and under which conditions). -/
import Derived.Test.YtgjdionnbbnmpaaDoorVmTxt
set_option linter.unusedVariables false
set_option linter.unusedSimpArgs false
namespace Go.Proofs.Vm
open Go Go.RowKit
/-! ### Labels and paths -/
def inR (x lo hi : Int) : Bool := decide (lo ≤ x) && decide (x ≤ hi)
def byt (l : List UInt8) (i : Nat) : Int := ((l.getD i 0).toNat : Int)
theorem byteAt_bs (l : List UInt8) {i : Nat} (h : i < l.length) : byteAt (bs l) (i : Int) = byt l i := by
  have h2 : (i : Int).toNat < (bs l).size := by rw [bs_size]; simpa using h
  unfold byteAt
  rw [dif_pos h2]
  simp only [byt, List.getD_eq_getElem?_getD, List.getElem?_eq_getElem h, Option.getD_some, Int.toNat_natCast]
  rfl
theorem byt_lt (l : List UInt8) (i : Nat) : 0 ≤ byt l i ∧ byt l i < 256 := by
  have := (l.getD i 0).toNat_lt
  unfold byt; omega
def alnum (b : Int) : Bool := (decide (97 ≤ b) && decide (b ≤ 122)) || (decide (48 ≤ b) && decide (b ≤ 57))
def charOk (n i b : Int) : Bool := alnum b || (b == 45 && decide (0 < i) && decide (i < n - 1))
def isLabelB (s : List UInt8) : Bool := inR s.length 1 8 && (List.range s.length).all fun i => charOk s.length i (byt s i)
theorem isLabelB_bad {s : List UInt8} {i : Nat} (hi : i < s.length) (h : charOk s.length i (byt s i) = false) : isLabelB s = false := by
  unfold isLabelB
  rw [Bool.and_eq_false_iff]
  right
  rw [List.all_eq_false]
  exact ⟨i, List.mem_range.2 hi, by rw [h]; decide⟩
theorem isLabelB_all {s : List UInt8} (h : ∀ i, i < s.length → charOk s.length i (byt s i) = true) : isLabelB s = inR s.length 1 8 := by
  unfold isLabelB
  have : ((List.range s.length).all fun i => charOk s.length i (byt s i)) = true := by
    rw [List.all_eq_true]
    intro i hi
    exact h i (List.mem_range.1 hi)
  rw [this, Bool.and_true]
theorem isLabelB_len {s : List UInt8} (h : isLabelB s = true) : s.length ≤ 8 ∧ 1 ≤ s.length := by
  unfold isLabelB inR at h
  simp only [Bool.and_eq_true, decide_eq_true_eq] at h
  omega
def isPathB (p : List (List UInt8)) : Bool := inR p.length 1 4 && p.all isLabelB
theorem isPathB_bad {p : List (List UInt8)} {i : Nat} (hi : i < p.length) (h : isLabelB (p.getD i []) = false) : isPathB p = false := by
  unfold isPathB
  rw [Bool.and_eq_false_iff]
  right
  rw [List.all_eq_false]
  exact ⟨_, getD_mem hi [], by rw [h]; decide⟩
theorem isPathB_all {p : List (List UInt8)} (h : ∀ i, i < p.length → isLabelB (p.getD i []) = true) : isPathB p = inR p.length 1 4 := by
  unfold isPathB
  have : p.all isLabelB = true := by
    rw [List.all_eq_true]
    intro t ht
    obtain ⟨i, hi, rfl⟩ := List.getElem_of_mem ht
    have := h i hi
    rwa [List.getD_eq_getElem?_getD, List.getElem?_eq_getElem hi] at this
  rw [this, Bool.and_true]
theorem isPathB_len {p : List (List UInt8)} (h : isPathB p = true) : p.length ≤ 4 ∧ 1 ≤ p.length ∧ ∀ t ∈ p, t.length ≤ 8 := by
  unfold isPathB inR at h
  simp only [Bool.and_eq_true, decide_eq_true_eq, List.all_eq_true] at h
  exact ⟨by omega, by omega, fun t ht => (isLabelB_len (h.2 t ht)).1⟩
def pathText (p : List (List UInt8)) : List UInt8 := if isPathB p then joinB [47] p else []
theorem pathText_len (p : List (List UInt8)) : (pathText p).length ≤ 64 := by
  unfold pathText
  split
  · rename_i h
    obtain ⟨h1, _, h2⟩ := isPathB_len h
    have h3 := joinB_len [47] 8 p h2
    have h4 : p.length * (8 + [(47 : UInt8)].length) ≤ 4 * 9 := Nat.mul_le_mul h1 (by decide)
    omega
  · simp
def entryText (e : TEntry) : List UInt8 :=
  e.fLabel ++ [61] ++ (if e.fKind = 2 then [35] ++ Lib.itoa e.fValue else if e.fKind = 3 then [62] ++ Lib.itoa e.fValue ++ [58] ++ pathText e.fPath else Lib.itoa e.fValue)
theorem entryText_len {e : TEntry} (h : inI e.fValue) : (entryText e).length ≤ e.fLabel.length + 100 := by
  have h1 := itoa_len h
  have h2 := pathText_len e.fPath
  unfold entryText
  split
  · simp only [List.length_append, List.length_cons, List.length_nil]; omega
  · split
    · simp only [List.length_append, List.length_cons, List.length_nil]; omega
    · simp only [List.length_append, List.length_cons, List.length_nil]; omega
/-- A name out of a list, counted from 1. -/
def nameAt (code : Int) (names : List (List UInt8)) : List UInt8 := if inR code 1 names.length then names.getD (code - 1).toNat [] else []
end Go.Proofs.Vm
