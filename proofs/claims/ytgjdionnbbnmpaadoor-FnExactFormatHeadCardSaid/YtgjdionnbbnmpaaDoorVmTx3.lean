/- A part of the proof of the card: lemmas that the text with the card leans on (see there for what is proved, and under which conditions). -/
import Derived.Test.YtgjdionnbbnmpaaDoorVmTx2
set_option linter.unusedVariables false
set_option linter.unusedSimpArgs false
namespace Go.Proofs.Vm
open Go Go.RowKit
/-! ### The text of a head -/
theorem keysText_len {k : TKeys} (h : k.fit) (hl : k.fList.length ≤ 1048576) : (keysText k).length ≤ 100000000 := by
  unfold keysText
  split
  · simp
  · have h1 := itoa_len h.2
    have h2 := joinB_len [43] 21 (k.fList.map Lib.itoa) (itoas_len h.1.2)
    have h3 : (k.fList.map Lib.itoa).length * (21 + [(43 : UInt8)].length) ≤ 1048576 * 22 := by
      rw [List.length_map]; exact Nat.mul_le_mul hl (by decide)
    simp only [List.length_append, List.length_cons, List.length_nil]
    omega
def kindNames : List (List UInt8) := [[111, 119, 110, 101, 114], [104, 101, 105, 114], [106, 117, 100, 103, 101]]
def kindName (k : Int) : List UInt8 := if inR k 1 3 then kindNames.getD (k - 1).toNat [] else [63]
theorem kindName_len (k : Int) : (kindName k).length ≤ 5 := by
  unfold kindName
  split
  · rename_i h
    simp only [inR, Bool.and_eq_true, decide_eq_true_eq] at h
    have : k = 1 ∨ k = 2 ∨ k = 3 := by omega
    rcases this with rfl | rfl | rfl <;> decide
  · decide
def headText (h : THead) : List UInt8 :=
  joinB [32] [Lib.itoa h.fEpoch, kindName h.fKind, joinB [45] [Lib.itoa h.fTime, Lib.itoa h.fUntil], Lib.itoa h.fCount, keysText h.fKeys] ++ (if h.fFrozen then [32, 102, 114, 111, 122, 101, 110] else [])
end Go.Proofs.Vm
