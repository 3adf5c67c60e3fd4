/- A part of the proof of the card: lemmas that the text with the card leans on (see there for what is proved, and under which conditions). -/
import Derived.Test.YtgjdionnbbnmpaaDoorVmData
import Derived.Test.YtgjdionnbbnmpaaDoorProg
import Derived.KernelRfl
set_option linter.unusedVariables false
set_option linter.unusedSimpArgs false
namespace Go.Proofs.Vt
open Go Go.RowKit Go.Proofs.Vm Go.Proofs
theorem ti3 : tiOf Tryd.prog 3 = some ⟨1, 8, false, [.int .i64 0], .int .i64⟩ := by kernel_rfl
theorem ti4 : tiOf Tryd.prog 4 = some ⟨1, 1, false, [.bool false], .bool⟩ := by kernel_rfl
theorem ti5 : tiOf Tryd.prog 5 = some ⟨1, 1, false, [.int .u8 0], .int .u8⟩ := by kernel_rfl
theorem ti9 : tiOf Tryd.prog 9 = some ⟨1, 16, false, [.string ByteArray.empty], .str⟩ := by kernel_rfl
theorem ti22 : tiOf Tryd.prog 22 = some ⟨1, 24, false, [.slice none 0 0], .slice 3⟩ := by kernel_rfl
theorem ti24 : tiOf Tryd.prog 24 = some ⟨2, 32, true, [.slice none 0 0, .int .i64 0], .struct [(0, 22), (1, 3)]⟩ := by kernel_rfl
theorem ti27 : tiOf Tryd.prog 27 = some ⟨2, 32, true, [.slice none 0 0, .int .i64 0], .struct [(0, 22), (1, 3)]⟩ := by kernel_rfl
theorem ti31 : tiOf Tryd.prog 31 = some ⟨1, 24, false, [.slice none 0 0], .slice 9⟩ := by kernel_rfl
theorem ti33 : tiOf Tryd.prog 33 = some ⟨4, 56, true, [.string ByteArray.empty, .int .i64 0, .int .i64 0, .slice none 0 0], .struct [(0, 9), (1, 3), (2, 3), (3, 31)]⟩ := by kernel_rfl
theorem ti36 : tiOf Tryd.prog 36 = some ⟨4, 56, true, [.string ByteArray.empty, .int .i64 0, .int .i64 0, .slice none 0 0], .struct [(0, 9), (1, 3), (2, 3), (3, 31)]⟩ := by kernel_rfl
theorem ti41 : tiOf Tryd.prog 41 = some ⟨16, 176, true, [.int .i64 0, .int .i64 0, .int .i64 0, .int .i64 0, .int .i64 0, .int .i64 0, .int .i64 0, .int .i64 0, .slice none 0 0, .int .i64 0, .slice none 0 0, .int .i64 0, .int .i64 0, .slice none 0 0, .int .i64 0, .bool false], .struct [(0, 3), (1, 3), (2, 3), (3, 3), (4, 3), (5, 3), (6, 3), (7, 3), (8, 24), (10, 24), (12, 3), (13, 24), (15, 4)]⟩ := by kernel_rfl
theorem ti45 : tiOf Tryd.prog 45 = some ⟨16, 176, true, [.int .i64 0, .int .i64 0, .int .i64 0, .int .i64 0, .int .i64 0, .int .i64 0, .int .i64 0, .int .i64 0, .slice none 0 0, .int .i64 0, .slice none 0 0, .int .i64 0, .int .i64 0, .slice none 0 0, .int .i64 0, .bool false], .struct [(0, 3), (1, 3), (2, 3), (3, 3), (4, 3), (5, 3), (6, 3), (7, 3), (8, 27), (10, 27), (12, 3), (13, 27), (15, 4)]⟩ := by kernel_rfl
theorem ti49 : tiOf Tryd.prog 49 = some ⟨1, 24, false, [.slice none 0 0], .slice 33⟩ := by kernel_rfl
theorem ti51 : tiOf Tryd.prog 51 = some ⟨6, 88, true, [.int .i64 0, .string ByteArray.empty, .int .i64 0, .int .i64 0, .slice none 0 0, .slice none 0 0], .struct [(0, 3), (1, 33), (5, 49)]⟩ := by kernel_rfl
theorem ti54 : tiOf Tryd.prog 54 = some ⟨1, 24, false, [.slice none 0 0], .slice 36⟩ := by kernel_rfl
theorem ti56 : tiOf Tryd.prog 56 = some ⟨6, 88, true, [.int .i64 0, .string ByteArray.empty, .int .i64 0, .int .i64 0, .slice none 0 0, .slice none 0 0], .struct [(0, 3), (1, 36), (5, 54)]⟩ := by kernel_rfl
theorem ti60 : tiOf Tryd.prog 60 = some ⟨1, 24, false, [.slice none 0 0], .slice 118⟩ := by kernel_rfl
theorem ti61 : tiOf Tryd.prog 61 = some ⟨1, 24, false, [.slice none 0 0], .slice 124⟩ := by kernel_rfl
theorem ti63 : tiOf Tryd.prog 63 = some ⟨2, 48, true, [.slice none 0 0, .slice none 0 0], .struct [(0, 60), (1, 61)]⟩ := by kernel_rfl
theorem ti65 : tiOf Tryd.prog 65 = some ⟨9, 144, true, [.slice none 0 0, .slice none 0 0, .int .i64 0, .string ByteArray.empty, .int .i64 0, .int .i64 0, .slice none 0 0, .slice none 0 0, .int .i64 0], .struct [(0, 63), (2, 3), (3, 33), (7, 22), (8, 3)]⟩ := by kernel_rfl
theorem ti68 : tiOf Tryd.prog 68 = some ⟨1, 24, false, [.slice none 0 0], .slice 125⟩ := by kernel_rfl
theorem ti69 : tiOf Tryd.prog 69 = some ⟨1, 24, false, [.slice none 0 0], .slice 131⟩ := by kernel_rfl
theorem ti71 : tiOf Tryd.prog 71 = some ⟨2, 48, true, [.slice none 0 0, .slice none 0 0], .struct [(0, 68), (1, 69)]⟩ := by kernel_rfl
theorem ti73 : tiOf Tryd.prog 73 = some ⟨9, 144, true, [.slice none 0 0, .slice none 0 0, .int .i64 0, .string ByteArray.empty, .int .i64 0, .int .i64 0, .slice none 0 0, .slice none 0 0, .int .i64 0], .struct [(0, 71), (2, 3), (3, 36), (7, 22), (8, 3)]⟩ := by kernel_rfl
theorem ti97 : tiOf Tryd.prog 97 = some ⟨1, 24, false, [.slice none 0 0], .slice 5⟩ := by kernel_rfl
theorem ti118 : tiOf Tryd.prog 118 = some ⟨1, 24, false, [.slice none 0 0], .slice 122⟩ := by kernel_rfl
theorem ti120 : tiOf Tryd.prog 120 = some ⟨1, 24, false, [.slice none 0 0], .slice 163⟩ := by kernel_rfl
theorem ti122 : tiOf Tryd.prog 122 = some ⟨17, 200, true, [.int .i64 0, .int .i64 0, .int .i64 0, .int .i64 0, .int .i64 0, .int .i64 0, .int .i64 0, .int .i64 0, .slice none 0 0, .int .i64 0, .slice none 0 0, .int .i64 0, .int .i64 0, .slice none 0 0, .int .i64 0, .bool false, .slice none 0 0], .struct [(0, 41), (16, 120)]⟩ := by kernel_rfl
theorem ti124 : tiOf Tryd.prog 124 = some ⟨51, 600, true, [.int .i64 0, .int .i64 0, .int .i64 0, .int .i64 0, .int .i64 0, .int .i64 0, .int .i64 0, .int .i64 0, .slice none 0 0, .int .i64 0, .slice none 0 0, .int .i64 0, .int .i64 0, .slice none 0 0, .int .i64 0, .bool false, .slice none 0 0, .int .i64 0, .int .i64 0, .int .i64 0, .int .i64 0, .int .i64 0, .int .i64 0, .int .i64 0, .int .i64 0, .slice none 0 0, .int .i64 0, .slice none 0 0, .int .i64 0, .int .i64 0, .slice none 0 0, .int .i64 0, .bool false, .slice none 0 0, .int .i64 0, .int .i64 0, .int .i64 0, .int .i64 0, .int .i64 0, .int .i64 0, .int .i64 0, .int .i64 0, .slice none 0 0, .int .i64 0, .slice none 0 0, .int .i64 0, .int .i64 0, .slice none 0 0, .int .i64 0, .bool false, .slice none 0 0], .struct [(0, 122), (17, 122), (34, 122)]⟩ := by kernel_rfl
theorem ti125 : tiOf Tryd.prog 125 = some ⟨1, 24, false, [.slice none 0 0], .slice 129⟩ := by kernel_rfl
theorem ti127 : tiOf Tryd.prog 127 = some ⟨1, 24, false, [.slice none 0 0], .slice 161⟩ := by kernel_rfl
theorem ti129 : tiOf Tryd.prog 129 = some ⟨17, 200, true, [.int .i64 0, .int .i64 0, .int .i64 0, .int .i64 0, .int .i64 0, .int .i64 0, .int .i64 0, .int .i64 0, .slice none 0 0, .int .i64 0, .slice none 0 0, .int .i64 0, .int .i64 0, .slice none 0 0, .int .i64 0, .bool false, .slice none 0 0], .struct [(0, 45), (16, 127)]⟩ := by kernel_rfl
theorem ti131 : tiOf Tryd.prog 131 = some ⟨51, 600, true, [.int .i64 0, .int .i64 0, .int .i64 0, .int .i64 0, .int .i64 0, .int .i64 0, .int .i64 0, .int .i64 0, .slice none 0 0, .int .i64 0, .slice none 0 0, .int .i64 0, .int .i64 0, .slice none 0 0, .int .i64 0, .bool false, .slice none 0 0, .int .i64 0, .int .i64 0, .int .i64 0, .int .i64 0, .int .i64 0, .int .i64 0, .int .i64 0, .int .i64 0, .slice none 0 0, .int .i64 0, .slice none 0 0, .int .i64 0, .int .i64 0, .slice none 0 0, .int .i64 0, .bool false, .slice none 0 0, .int .i64 0, .int .i64 0, .int .i64 0, .int .i64 0, .int .i64 0, .int .i64 0, .int .i64 0, .int .i64 0, .slice none 0 0, .int .i64 0, .slice none 0 0, .int .i64 0, .int .i64 0, .slice none 0 0, .int .i64 0, .bool false, .slice none 0 0], .struct [(0, 129), (17, 129), (34, 129)]⟩ := by kernel_rfl
theorem ti161 : tiOf Tryd.prog 161 = some ⟨2, 16, true, [.int .i64 0, .int .i64 0], .struct [(0, 3), (1, 3)]⟩ := by kernel_rfl
theorem ti163 : tiOf Tryd.prog 163 = some ⟨2, 16, true, [.int .i64 0, .int .i64 0], .struct [(0, 3), (1, 3)]⟩ := by kernel_rfl
theorem mx : Tryd.prog.follows .mixedOrders = true := by kernel_rfl
def tys : Tys := { tInt := 3, tString := 9, tSig := 161, tMark := 0, tSigned := 129, tEntry := 36, tSignedS := 125, tFork := 131, tZone := 0, tStored := 0, tActor := 0, tSaid := 0, tServer := 0 }
theorem tys_tInt : tys.tInt = 3 := rfl
theorem tys_tString : tys.tString = 9 := rfl
theorem tys_tSig : tys.tSig = 161 := rfl
theorem tys_tMark : tys.tMark = 0 := rfl
theorem tys_tSigned : tys.tSigned = 129 := rfl
theorem tys_tEntry : tys.tEntry = 36 := rfl
theorem tys_tSignedS : tys.tSignedS = 125 := rfl
theorem tys_tFork : tys.tFork = 131 := rfl
theorem tys_tZone : tys.tZone = 0 := rfl
theorem tys_tStored : tys.tStored = 0 := rfl
theorem tys_tActor : tys.tActor = 0 := rfl
theorem tys_tSaid : tys.tSaid = 0 := rfl
theorem tys_tServer : tys.tServer = 0 := rfl
end Go.Proofs.Vt
