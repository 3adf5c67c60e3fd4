/- A part of the proof of FnExactFormatKeysCardSaid: lemmas that the text with the card leans on (see there for what is proved, and under which conditions). -/
import Derived.Test.YtgjdionnbbnmpaaDoorVmOpn
import Derived.Test.YtgjdionnbbnmpaaDoorProg
import Derived.KernelRfl
namespace Go.Proofs.Vt
open Go Go.RowKit Go.Proofs.Vm Go.Proofs
theorem cells_3 : Tryd.prog.cellsOf 3 = 1 := by kernel_rfl
theorem op_int {W : World} : Opens Tryd.prog W 3 (fun row => ∃ x : Int, inI x ∧ row = [.v (.int .i64 x)]) := opens_i Tryd.underlying3
theorem cells_22 : Tryd.prog.cellsOf 22 = 1 := by kernel_rfl
theorem op_intS {W : World} : Opens Tryd.prog W 22 (fun row => ∃ x : List Int, fitL (inI) x ∧ row = [.l none 1 (rowsI x)]) := opens_l (f := inI) (g := (fun x : Int => [C.v (.int .i64 x)])) Tryd.underlying22 cells_3 (by decide) op_int
theorem cells_24 : Tryd.prog.cellsOf 24 = 2 := by kernel_rfl
theorem op_Keys {W : World} : Opens Tryd.prog W 24 (fun row => ∃ x : TKeys, x.fit ∧ row = TKeys.row none x) :=
  (opens_struct Tryd.underlying24 (.next 1 cells_22 rfl op_intS (.next 1 cells_3 rfl op_int .nil)) (endOf_next 1 cells_22 rfl (endOf_next 1 cells_3 rfl cells_24.symm))).imp fun row h => by
    obtain ⟨_, _, rfl, ⟨x0, h0, rfl⟩, _, _, rfl, ⟨x1, h1, rfl⟩, rfl⟩ := h
    exact ⟨⟨x0, x1⟩, ⟨h0, h1⟩, rfl⟩
theorem cells_9 : Tryd.prog.cellsOf 9 = 1 := by kernel_rfl
theorem op_string {W : World} : Opens Tryd.prog W 9 (fun row => ∃ x : List UInt8, x.length ≤ maxLen ∧ row = [.v (.string (bs x))]) := opens_s Tryd.underlying9
theorem cells_4 : Tryd.prog.cellsOf 4 = 1 := by kernel_rfl
theorem op_bool {W : World} : Opens Tryd.prog W 4 (fun row => ∃ x : Bool, True ∧ row = [.v (.bool x)]) := opens_b Tryd.underlying4
end Go.Proofs.Vt
