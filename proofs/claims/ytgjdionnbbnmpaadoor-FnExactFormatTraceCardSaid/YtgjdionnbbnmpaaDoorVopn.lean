/- A part of the proof of the card: lemmas that the text with the card leans on (see there for what is proved, and under which conditions). -/
import Derived.Test.YtgjdionnbbnmpaaDoorVmOpn
import Derived.Test.YtgjdionnbbnmpaaDoorProg
import Derived.KernelRfl
set_option linter.unusedVariables false
set_option linter.unusedSimpArgs false
namespace Go.Proofs.Vt
open Go Go.RowKit Go.Proofs.Vm Go.Proofs
theorem cells_3 : Tryd.prog.cellsOf 3 = 1 := by kernel_rfl
theorem op_int {W : World} : Opens Tryd.prog W 3 (fun row => ∃ x : Int, inI x ∧ row = [.v (.int .i64 x)]) := opens_i Tryd.underlying3
theorem cells_22 : Tryd.prog.cellsOf 22 = 1 := by kernel_rfl
theorem op_intS {W : World} : Opens Tryd.prog W 22 (fun row => ∃ x : List Int, fitL (inI) x ∧ row = [.l none 1 (rowsI x)]) := opens_l (f := inI) (g := (fun x : Int => [C.v (.int .i64 x)])) Tryd.underlying22 cells_3 (by decide) op_int
theorem cells_24 : Tryd.prog.cellsOf 24 = 2 := by kernel_rfl
theorem op_Keys {W : World} : Opens Tryd.prog W 24 (fun row => ∃ x : TKeys, x.fit ∧ row = TKeys.row none x) :=
  (opens_struct Tryd.underlying24 (.next 1 cells_22 rfl op_intS (.next 1 cells_3 rfl op_int .nil)) (endOf_next 1 cells_22 rfl (endOf_next 1 cells_3 rfl cells_24.symm))).imp fun row h => by
    obtain ⟨_, _, rfl, ⟨x0, h0, rfl⟩, _, _, rfl, ⟨x1, h1, rfl⟩, rfl⟩ := h
    exact ⟨⟨x0, x1⟩, ⟨h0, h1⟩, rfl⟩
theorem cells_163 : Tryd.prog.cellsOf 163 = 2 := by kernel_rfl
theorem op_Sig {W : World} : Opens Tryd.prog W 163 (fun row => ∃ x : TSig, x.fit ∧ row = TSig.row none x) :=
  (opens_struct Tryd.underlying163 (.next 1 cells_3 rfl op_int (.next 1 cells_3 rfl op_int .nil)) (endOf_next 1 cells_3 rfl (endOf_next 1 cells_3 rfl cells_163.symm))).imp fun row h => by
    obtain ⟨_, _, rfl, ⟨x0, h0, rfl⟩, _, _, rfl, ⟨x1, h1, rfl⟩, rfl⟩ := h
    exact ⟨⟨x0, x1⟩, ⟨h0, h1⟩, rfl⟩
theorem cells_9 : Tryd.prog.cellsOf 9 = 1 := by kernel_rfl
theorem op_string {W : World} : Opens Tryd.prog W 9 (fun row => ∃ x : List UInt8, x.length ≤ maxLen ∧ row = [.v (.string (bs x))]) := opens_s Tryd.underlying9
theorem cells_31 : Tryd.prog.cellsOf 31 = 1 := by kernel_rfl
theorem op_stringS {W : World} : Opens Tryd.prog W 31 (fun row => ∃ x : List (List UInt8), fitL (fun t => t.length ≤ maxLen) x ∧ row = [.l none 1 (rowsS x)]) := opens_l (f := (fun l : List UInt8 => l.length ≤ maxLen)) (g := (fun t : List UInt8 => [C.v (.string (bs t))])) Tryd.underlying31 cells_9 (by decide) op_string
theorem cells_33 : Tryd.prog.cellsOf 33 = 4 := by kernel_rfl
theorem op_Entry {W : World} : Opens Tryd.prog W 33 (fun row => ∃ x : TEntry, x.fit ∧ row = TEntry.row none x) :=
  (opens_struct Tryd.underlying33 (.next 1 cells_9 rfl op_string (.next 1 cells_3 rfl op_int (.next 1 cells_3 rfl op_int (.next 1 cells_31 rfl op_stringS .nil)))) (endOf_next 1 cells_9 rfl (endOf_next 1 cells_3 rfl (endOf_next 1 cells_3 rfl (endOf_next 1 cells_31 rfl cells_33.symm))))).imp fun row h => by
    obtain ⟨_, _, rfl, ⟨x0, h0, rfl⟩, _, _, rfl, ⟨x1, h1, rfl⟩, _, _, rfl, ⟨x2, h2, rfl⟩, _, _, rfl, ⟨x3, h3, rfl⟩, rfl⟩ := h
    exact ⟨⟨x0, x1, x2, x3⟩, ⟨h0, h1, h2, h3⟩, rfl⟩
theorem cells_4 : Tryd.prog.cellsOf 4 = 1 := by kernel_rfl
theorem op_bool {W : World} : Opens Tryd.prog W 4 (fun row => ∃ x : Bool, True ∧ row = [.v (.bool x)]) := opens_b Tryd.underlying4
theorem cells_41 : Tryd.prog.cellsOf 41 = 16 := by kernel_rfl
theorem op_Head {W : World} : Opens Tryd.prog W 41 (fun row => ∃ x : THead, x.fit ∧ row = THead.row none x) :=
  (opens_struct Tryd.underlying41 (.next 1 cells_3 rfl op_int (.next 1 cells_3 rfl op_int (.next 1 cells_3 rfl op_int (.next 1 cells_3 rfl op_int (.next 1 cells_3 rfl op_int (.next 1 cells_3 rfl op_int (.next 1 cells_3 rfl op_int (.next 1 cells_3 rfl op_int (.next 2 cells_24 rfl op_Keys (.next 2 cells_24 rfl op_Keys (.next 1 cells_3 rfl op_int (.next 2 cells_24 rfl op_Keys (.next 1 cells_4 rfl op_bool .nil))))))))))))) (endOf_next 1 cells_3 rfl (endOf_next 1 cells_3 rfl (endOf_next 1 cells_3 rfl (endOf_next 1 cells_3 rfl (endOf_next 1 cells_3 rfl (endOf_next 1 cells_3 rfl (endOf_next 1 cells_3 rfl (endOf_next 1 cells_3 rfl (endOf_next 2 cells_24 rfl (endOf_next 2 cells_24 rfl (endOf_next 1 cells_3 rfl (endOf_next 2 cells_24 rfl (endOf_next 1 cells_4 rfl cells_41.symm)))))))))))))).imp fun row h => by
    obtain ⟨_, _, rfl, ⟨x0, h0, rfl⟩, _, _, rfl, ⟨x1, h1, rfl⟩, _, _, rfl, ⟨x2, h2, rfl⟩, _, _, rfl, ⟨x3, h3, rfl⟩, _, _, rfl, ⟨x4, h4, rfl⟩, _, _, rfl, ⟨x5, h5, rfl⟩, _, _, rfl, ⟨x6, h6, rfl⟩, _, _, rfl, ⟨x7, h7, rfl⟩, _, _, rfl, ⟨x8, h8, rfl⟩, _, _, rfl, ⟨x9, h9, rfl⟩, _, _, rfl, ⟨x10, h10, rfl⟩, _, _, rfl, ⟨x11, h11, rfl⟩, _, _, rfl, ⟨x12, h12, rfl⟩, rfl⟩ := h
    exact ⟨⟨x0, x1, x2, x3, x4, x5, x6, x7, x8, x9, x10, x11, x12⟩, ⟨h0, h1, h2, h3, h4, h5, h6, h7, h8, h9, h10, h11, h12⟩, rfl⟩
theorem cells_120 : Tryd.prog.cellsOf 120 = 1 := by kernel_rfl
theorem op_SigS {W : World} : Opens Tryd.prog W 120 (fun row => ∃ x : List TSig, fitL (TSig.fit) x ∧ row = [.l none 2 (x.map (TSig.row none))]) := opens_l (f := (TSig.fit)) (g := (TSig.row none)) Tryd.underlying120 cells_163 (by decide) op_Sig
theorem cells_122 : Tryd.prog.cellsOf 122 = 17 := by kernel_rfl
theorem op_Signed {W : World} : Opens Tryd.prog W 122 (fun row => ∃ x : TSigned, x.fit ∧ row = TSigned.row none x) :=
  (opens_struct Tryd.underlying122 (.next 16 cells_41 rfl op_Head (.next 1 cells_120 rfl op_SigS .nil)) (endOf_next 16 cells_41 rfl (endOf_next 1 cells_120 rfl cells_122.symm))).imp fun row h => by
    obtain ⟨_, _, rfl, ⟨x0, h0, rfl⟩, _, _, rfl, ⟨x1, h1, rfl⟩, rfl⟩ := h
    exact ⟨⟨x0, x1⟩, ⟨h0, h1⟩, rfl⟩
theorem cells_124 : Tryd.prog.cellsOf 124 = 51 := by kernel_rfl
theorem op_Fork {W : World} : Opens Tryd.prog W 124 (fun row => ∃ x : TFork, x.fit ∧ row = TFork.row none x) :=
  (opens_struct Tryd.underlying124 (.next 17 cells_122 rfl op_Signed (.next 17 cells_122 rfl op_Signed (.next 17 cells_122 rfl op_Signed .nil))) (endOf_next 17 cells_122 rfl (endOf_next 17 cells_122 rfl (endOf_next 17 cells_122 rfl cells_124.symm)))).imp fun row h => by
    obtain ⟨_, _, rfl, ⟨x0, h0, rfl⟩, _, _, rfl, ⟨x1, h1, rfl⟩, _, _, rfl, ⟨x2, h2, rfl⟩, rfl⟩ := h
    exact ⟨⟨x0, x1, x2⟩, ⟨h0, h1, h2⟩, rfl⟩
theorem cells_118 : Tryd.prog.cellsOf 118 = 1 := by kernel_rfl
theorem op_SignedS {W : World} : Opens Tryd.prog W 118 (fun row => ∃ x : List TSigned, fitL (TSigned.fit) x ∧ row = [.l none 17 (x.map (TSigned.row none))]) := opens_l (f := (TSigned.fit)) (g := (TSigned.row none)) Tryd.underlying118 cells_122 (by decide) op_Signed
theorem cells_60 : Tryd.prog.cellsOf 60 = 1 := by kernel_rfl
theorem op_SignedSS {W : World} : Opens Tryd.prog W 60 (fun row => ∃ x : List (List TSigned), fitL (fitL (TSigned.fit)) x ∧ row = [.l none 1 (x.map (rowLSignedS none))]) := opens_l (f := (fitL (TSigned.fit))) (g := (rowLSignedS none)) Tryd.underlying60 cells_118 (by decide) op_SignedS
theorem cells_61 : Tryd.prog.cellsOf 61 = 1 := by kernel_rfl
theorem op_ForkS {W : World} : Opens Tryd.prog W 61 (fun row => ∃ x : List TFork, fitL (TFork.fit) x ∧ row = [.l none 51 (x.map (TFork.row none))]) := opens_l (f := (TFork.fit)) (g := (TFork.row none)) Tryd.underlying61 cells_124 (by decide) op_Fork
theorem cells_63 : Tryd.prog.cellsOf 63 = 2 := by kernel_rfl
theorem op_Known {W : World} : Opens Tryd.prog W 63 (fun row => ∃ x : TKnown, x.fit ∧ row = TKnown.row none x) :=
  (opens_struct Tryd.underlying63 (.next 1 cells_60 rfl op_SignedSS (.next 1 cells_61 rfl op_ForkS .nil)) (endOf_next 1 cells_60 rfl (endOf_next 1 cells_61 rfl cells_63.symm))).imp fun row h => by
    obtain ⟨_, _, rfl, ⟨x0, h0, rfl⟩, _, _, rfl, ⟨x1, h1, rfl⟩, rfl⟩ := h
    exact ⟨⟨x0, x1⟩, ⟨h0, h1⟩, rfl⟩
theorem cells_65 : Tryd.prog.cellsOf 65 = 9 := by kernel_rfl
theorem op_Trace {W : World} : Opens Tryd.prog W 65 (fun row => ∃ x : TTrace, x.fit ∧ row = TTrace.row none x) :=
  (opens_struct Tryd.underlying65 (.next 2 cells_63 rfl op_Known (.next 1 cells_3 rfl op_int (.next 4 cells_33 rfl op_Entry (.next 1 cells_22 rfl op_intS (.next 1 cells_3 rfl op_int .nil))))) (endOf_next 2 cells_63 rfl (endOf_next 1 cells_3 rfl (endOf_next 4 cells_33 rfl (endOf_next 1 cells_22 rfl (endOf_next 1 cells_3 rfl cells_65.symm)))))).imp fun row h => by
    obtain ⟨_, _, rfl, ⟨x0, h0, rfl⟩, _, _, rfl, ⟨x1, h1, rfl⟩, _, _, rfl, ⟨x2, h2, rfl⟩, _, _, rfl, ⟨x3, h3, rfl⟩, _, _, rfl, ⟨x4, h4, rfl⟩, rfl⟩ := h
    exact ⟨⟨x0, x1, x2, x3, x4⟩, ⟨h0, h1, h2, h3, h4⟩, rfl⟩
theorem cells_49 : Tryd.prog.cellsOf 49 = 1 := by kernel_rfl
theorem op_EntryS {W : World} : Opens Tryd.prog W 49 (fun row => ∃ x : List TEntry, fitL (TEntry.fit) x ∧ row = [.l none 4 (x.map (TEntry.row none))]) := opens_l (f := (TEntry.fit)) (g := (TEntry.row none)) Tryd.underlying49 cells_33 (by decide) op_Entry
theorem cells_51 : Tryd.prog.cellsOf 51 = 6 := by kernel_rfl
theorem op_Decision {W : World} : Opens Tryd.prog W 51 (fun row => ∃ x : TDecision, x.fit ∧ row = TDecision.row none x) :=
  (opens_struct Tryd.underlying51 (.next 1 cells_3 rfl op_int (.next 4 cells_33 rfl op_Entry (.next 1 cells_49 rfl op_EntryS .nil))) (endOf_next 1 cells_3 rfl (endOf_next 4 cells_33 rfl (endOf_next 1 cells_49 rfl cells_51.symm)))).imp fun row h => by
    obtain ⟨_, _, rfl, ⟨x0, h0, rfl⟩, _, _, rfl, ⟨x1, h1, rfl⟩, _, _, rfl, ⟨x2, h2, rfl⟩, rfl⟩ := h
    exact ⟨⟨x0, x1, x2⟩, ⟨h0, h1, h2⟩, rfl⟩
end Go.Proofs.Vt
