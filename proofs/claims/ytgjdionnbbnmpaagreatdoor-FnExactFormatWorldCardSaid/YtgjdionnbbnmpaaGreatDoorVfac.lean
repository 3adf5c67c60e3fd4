/- A part of the proof of the card: lemmas that the text with the card leans on (see there for what is proved, and under which conditions). -/
import Derived.Test.YtgjdionnbbnmpaaGreatDoorVmData
import Derived.Test.YtgjdionnbbnmpaaGreatDoorProg
import Derived.KernelRfl
set_option linter.unusedVariables false
set_option linter.unusedSimpArgs false
namespace Go.Proofs.Vt
open Go Go.RowKit Go.Proofs.Vm Go.Proofs
theorem ti3 : tiOf Tryz.prog 3 = some ⟨1, 8, false, [.int .i64 0], .int .i64⟩ := by kernel_rfl
theorem ti4 : tiOf Tryz.prog 4 = some ⟨1, 1, false, [.bool false], .bool⟩ := by kernel_rfl
theorem ti5 : tiOf Tryz.prog 5 = some ⟨1, 1, false, [.int .u8 0], .int .u8⟩ := by kernel_rfl
theorem ti9 : tiOf Tryz.prog 9 = some ⟨1, 16, false, [.string ByteArray.empty], .str⟩ := by kernel_rfl
theorem ti22 : tiOf Tryz.prog 22 = some ⟨1, 24, false, [.slice none 0 0], .slice 108⟩ := by kernel_rfl
theorem ti23 : tiOf Tryz.prog 23 = some ⟨1, 24, false, [.slice none 0 0], .slice 56⟩ := by kernel_rfl
theorem ti24 : tiOf Tryz.prog 24 = some ⟨1, 24, false, [.slice none 0 0], .slice 111⟩ := by kernel_rfl
theorem ti25 : tiOf Tryz.prog 25 = some ⟨1, 24, false, [.slice none 0 0], .slice 114⟩ := by kernel_rfl
theorem ti26 : tiOf Tryz.prog 26 = some ⟨1, 24, false, [.slice none 0 0], .slice 53⟩ := by kernel_rfl
theorem ti27 : tiOf Tryz.prog 27 = some ⟨1, 24, false, [.slice none 0 0], .slice 163⟩ := by kernel_rfl
theorem ti29 : tiOf Tryz.prog 29 = some ⟨2, 48, true, [.slice none 0 0, .slice none 0 0], .struct [(0, 26), (1, 27)]⟩ := by kernel_rfl
theorem ti30 : tiOf Tryz.prog 30 = some ⟨1, 24, false, [.slice none 0 0], .slice 172⟩ := by kernel_rfl
theorem ti32 : tiOf Tryz.prog 32 = some ⟨1, 24, true, [.slice none 0 0], .struct [(0, 30)]⟩ := by kernel_rfl
theorem ti34 : tiOf Tryz.prog 34 = some ⟨8, 176, true, [.int .i64 0, .slice none 0 0, .slice none 0 0, .slice none 0 0, .slice none 0 0, .slice none 0 0, .slice none 0 0, .slice none 0 0], .struct [(0, 3), (1, 22), (2, 23), (3, 24), (4, 25), (5, 29), (7, 32)]⟩ := by kernel_rfl
theorem ti37 : tiOf Tryz.prog 37 = some ⟨1, 24, false, [.slice none 0 0], .slice 119⟩ := by kernel_rfl
theorem ti38 : tiOf Tryz.prog 38 = some ⟨1, 24, false, [.slice none 0 0], .slice 62⟩ := by kernel_rfl
theorem ti39 : tiOf Tryz.prog 39 = some ⟨1, 24, false, [.slice none 0 0], .slice 122⟩ := by kernel_rfl
theorem ti40 : tiOf Tryz.prog 40 = some ⟨1, 24, false, [.slice none 0 0], .slice 125⟩ := by kernel_rfl
theorem ti41 : tiOf Tryz.prog 41 = some ⟨1, 24, false, [.slice none 0 0], .slice 59⟩ := by kernel_rfl
theorem ti42 : tiOf Tryz.prog 42 = some ⟨1, 24, false, [.slice none 0 0], .slice 175⟩ := by kernel_rfl
theorem ti44 : tiOf Tryz.prog 44 = some ⟨2, 48, true, [.slice none 0 0, .slice none 0 0], .struct [(0, 41), (1, 42)]⟩ := by kernel_rfl
theorem ti45 : tiOf Tryz.prog 45 = some ⟨1, 24, false, [.slice none 0 0], .slice 183⟩ := by kernel_rfl
theorem ti47 : tiOf Tryz.prog 47 = some ⟨1, 24, true, [.slice none 0 0], .struct [(0, 45)]⟩ := by kernel_rfl
theorem ti49 : tiOf Tryz.prog 49 = some ⟨8, 176, true, [.int .i64 0, .slice none 0 0, .slice none 0 0, .slice none 0 0, .slice none 0 0, .slice none 0 0, .slice none 0 0, .slice none 0 0], .struct [(0, 3), (1, 37), (2, 38), (3, 39), (4, 40), (5, 44), (7, 47)]⟩ := by kernel_rfl
theorem ti53 : tiOf Tryz.prog 53 = some ⟨1, 24, false, [.slice none 0 0], .slice 143⟩ := by kernel_rfl
theorem ti54 : tiOf Tryz.prog 54 = some ⟨1, 24, false, [.slice none 0 0], .slice 145⟩ := by kernel_rfl
theorem ti56 : tiOf Tryz.prog 56 = some ⟨2, 48, true, [.slice none 0 0, .slice none 0 0], .struct [(0, 53), (1, 54)]⟩ := by kernel_rfl
theorem ti59 : tiOf Tryz.prog 59 = some ⟨1, 24, false, [.slice none 0 0], .slice 150⟩ := by kernel_rfl
theorem ti60 : tiOf Tryz.prog 60 = some ⟨1, 24, false, [.slice none 0 0], .slice 100⟩ := by kernel_rfl
theorem ti62 : tiOf Tryz.prog 62 = some ⟨2, 48, true, [.slice none 0 0, .slice none 0 0], .struct [(0, 59), (1, 60)]⟩ := by kernel_rfl
theorem ti72 : tiOf Tryz.prog 72 = some ⟨1, 24, false, [.slice none 0 0], .slice 3⟩ := by kernel_rfl
theorem ti90 : tiOf Tryz.prog 90 = some ⟨2, 32, true, [.slice none 0 0, .int .i64 0], .struct [(0, 72), (1, 3)]⟩ := by kernel_rfl
theorem ti92 : tiOf Tryz.prog 92 = some ⟨16, 176, true, [.int .i64 0, .int .i64 0, .int .i64 0, .int .i64 0, .int .i64 0, .int .i64 0, .int .i64 0, .int .i64 0, .slice none 0 0, .int .i64 0, .slice none 0 0, .int .i64 0, .int .i64 0, .slice none 0 0, .int .i64 0, .bool false], .struct [(0, 3), (1, 3), (2, 3), (3, 3), (4, 3), (5, 3), (6, 3), (7, 3), (8, 90), (10, 90), (12, 3), (13, 90), (15, 4)]⟩ := by kernel_rfl
theorem ti98 : tiOf Tryz.prog 98 = some ⟨1, 24, false, [.slice none 0 0], .slice 9⟩ := by kernel_rfl
theorem ti100 : tiOf Tryz.prog 100 = some ⟨4, 56, true, [.string ByteArray.empty, .int .i64 0, .int .i64 0, .slice none 0 0], .struct [(0, 9), (1, 3), (2, 3), (3, 98)]⟩ := by kernel_rfl
theorem ti108 : tiOf Tryz.prog 108 = some ⟨1, 24, true, [.slice none 0 0], .struct [(0, 72)]⟩ := by kernel_rfl
theorem ti111 : tiOf Tryz.prog 111 = some ⟨3, 72, true, [.slice none 0 0, .slice none 0 0, .slice none 0 0], .struct [(0, 56), (2, 72)]⟩ := by kernel_rfl
theorem ti114 : tiOf Tryz.prog 114 = some ⟨2, 32, true, [.slice none 0 0, .int .i64 0], .struct [(0, 23), (1, 3)]⟩ := by kernel_rfl
theorem ti118 : tiOf Tryz.prog 118 = some ⟨1, 24, false, [.slice none 0 0], .slice 5⟩ := by kernel_rfl
theorem ti119 : tiOf Tryz.prog 119 = some ⟨1, 24, true, [.slice none 0 0], .struct [(0, 72)]⟩ := by kernel_rfl
theorem ti122 : tiOf Tryz.prog 122 = some ⟨3, 72, true, [.slice none 0 0, .slice none 0 0, .slice none 0 0], .struct [(0, 62), (2, 72)]⟩ := by kernel_rfl
theorem ti125 : tiOf Tryz.prog 125 = some ⟨2, 32, true, [.slice none 0 0, .int .i64 0], .struct [(0, 38), (1, 3)]⟩ := by kernel_rfl
theorem ti138 : tiOf Tryz.prog 138 = some ⟨2, 32, true, [.slice none 0 0, .int .i64 0], .struct [(0, 72), (1, 3)]⟩ := by kernel_rfl
theorem ti140 : tiOf Tryz.prog 140 = some ⟨16, 176, true, [.int .i64 0, .int .i64 0, .int .i64 0, .int .i64 0, .int .i64 0, .int .i64 0, .int .i64 0, .int .i64 0, .slice none 0 0, .int .i64 0, .slice none 0 0, .int .i64 0, .int .i64 0, .slice none 0 0, .int .i64 0, .bool false], .struct [(0, 3), (1, 3), (2, 3), (3, 3), (4, 3), (5, 3), (6, 3), (7, 3), (8, 138), (10, 138), (12, 3), (13, 138), (15, 4)]⟩ := by kernel_rfl
theorem ti141 : tiOf Tryz.prog 141 = some ⟨1, 24, false, [.slice none 0 0], .slice 230⟩ := by kernel_rfl
theorem ti143 : tiOf Tryz.prog 143 = some ⟨17, 200, true, [.int .i64 0, .int .i64 0, .int .i64 0, .int .i64 0, .int .i64 0, .int .i64 0, .int .i64 0, .int .i64 0, .slice none 0 0, .int .i64 0, .slice none 0 0, .int .i64 0, .int .i64 0, .slice none 0 0, .int .i64 0, .bool false, .slice none 0 0], .struct [(0, 140), (16, 141)]⟩ := by kernel_rfl
theorem ti145 : tiOf Tryz.prog 145 = some ⟨4, 56, true, [.string ByteArray.empty, .int .i64 0, .int .i64 0, .slice none 0 0], .struct [(0, 9), (1, 3), (2, 3), (3, 98)]⟩ := by kernel_rfl
theorem ti148 : tiOf Tryz.prog 148 = some ⟨1, 24, false, [.slice none 0 0], .slice 228⟩ := by kernel_rfl
theorem ti150 : tiOf Tryz.prog 150 = some ⟨17, 200, true, [.int .i64 0, .int .i64 0, .int .i64 0, .int .i64 0, .int .i64 0, .int .i64 0, .int .i64 0, .int .i64 0, .slice none 0 0, .int .i64 0, .slice none 0 0, .int .i64 0, .int .i64 0, .slice none 0 0, .int .i64 0, .bool false, .slice none 0 0], .struct [(0, 92), (16, 148)]⟩ := by kernel_rfl
theorem ti163 : tiOf Tryz.prog 163 = some ⟨51, 600, true, [.int .i64 0, .int .i64 0, .int .i64 0, .int .i64 0, .int .i64 0, .int .i64 0, .int .i64 0, .int .i64 0, .slice none 0 0, .int .i64 0, .slice none 0 0, .int .i64 0, .int .i64 0, .slice none 0 0, .int .i64 0, .bool false, .slice none 0 0, .int .i64 0, .int .i64 0, .int .i64 0, .int .i64 0, .int .i64 0, .int .i64 0, .int .i64 0, .int .i64 0, .slice none 0 0, .int .i64 0, .slice none 0 0, .int .i64 0, .int .i64 0, .slice none 0 0, .int .i64 0, .bool false, .slice none 0 0, .int .i64 0, .int .i64 0, .int .i64 0, .int .i64 0, .int .i64 0, .int .i64 0, .int .i64 0, .int .i64 0, .slice none 0 0, .int .i64 0, .slice none 0 0, .int .i64 0, .int .i64 0, .slice none 0 0, .int .i64 0, .bool false, .slice none 0 0], .struct [(0, 143), (17, 143), (34, 143)]⟩ := by kernel_rfl
theorem ti166 : tiOf Tryz.prog 166 = some ⟨2, 32, true, [.int .i64 0, .slice none 0 0], .struct [(0, 3), (1, 72)]⟩ := by kernel_rfl
theorem ti168 : tiOf Tryz.prog 168 = some ⟨13, 184, true, [.int .i64 0, .string ByteArray.empty, .int .i64 0, .int .i64 0, .slice none 0 0, .string ByteArray.empty, .int .i64 0, .int .i64 0, .slice none 0 0, .int .i64 0, .slice none 0 0, .int .i64 0, .slice none 0 0], .struct [(0, 3), (1, 145), (5, 145), (9, 166), (11, 166)]⟩ := by kernel_rfl
theorem ti170 : tiOf Tryz.prog 170 = some ⟨21, 304, true, [.slice none 0 0, .bool false, .string ByteArray.empty, .int .i64 0, .int .i64 0, .slice none 0 0, .int .i64 0, .slice none 0 0, .int .i64 0, .string ByteArray.empty, .int .i64 0, .int .i64 0, .slice none 0 0, .string ByteArray.empty, .int .i64 0, .int .i64 0, .slice none 0 0, .int .i64 0, .slice none 0 0, .int .i64 0, .slice none 0 0], .struct [(0, 53), (1, 4), (2, 145), (6, 166), (8, 168)]⟩ := by kernel_rfl
theorem ti172 : tiOf Tryz.prog 172 = some ⟨23, 328, true, [.int .i64 0, .string ByteArray.empty, .slice none 0 0, .bool false, .string ByteArray.empty, .int .i64 0, .int .i64 0, .slice none 0 0, .int .i64 0, .slice none 0 0, .int .i64 0, .string ByteArray.empty, .int .i64 0, .int .i64 0, .slice none 0 0, .string ByteArray.empty, .int .i64 0, .int .i64 0, .slice none 0 0, .int .i64 0, .slice none 0 0, .int .i64 0, .slice none 0 0], .struct [(0, 3), (1, 9), (2, 170)]⟩ := by kernel_rfl
theorem ti175 : tiOf Tryz.prog 175 = some ⟨51, 600, true, [.int .i64 0, .int .i64 0, .int .i64 0, .int .i64 0, .int .i64 0, .int .i64 0, .int .i64 0, .int .i64 0, .slice none 0 0, .int .i64 0, .slice none 0 0, .int .i64 0, .int .i64 0, .slice none 0 0, .int .i64 0, .bool false, .slice none 0 0, .int .i64 0, .int .i64 0, .int .i64 0, .int .i64 0, .int .i64 0, .int .i64 0, .int .i64 0, .int .i64 0, .slice none 0 0, .int .i64 0, .slice none 0 0, .int .i64 0, .int .i64 0, .slice none 0 0, .int .i64 0, .bool false, .slice none 0 0, .int .i64 0, .int .i64 0, .int .i64 0, .int .i64 0, .int .i64 0, .int .i64 0, .int .i64 0, .int .i64 0, .slice none 0 0, .int .i64 0, .slice none 0 0, .int .i64 0, .int .i64 0, .slice none 0 0, .int .i64 0, .bool false, .slice none 0 0], .struct [(0, 150), (17, 150), (34, 150)]⟩ := by kernel_rfl
theorem ti177 : tiOf Tryz.prog 177 = some ⟨2, 32, true, [.int .i64 0, .slice none 0 0], .struct [(0, 3), (1, 72)]⟩ := by kernel_rfl
theorem ti179 : tiOf Tryz.prog 179 = some ⟨13, 184, true, [.int .i64 0, .string ByteArray.empty, .int .i64 0, .int .i64 0, .slice none 0 0, .string ByteArray.empty, .int .i64 0, .int .i64 0, .slice none 0 0, .int .i64 0, .slice none 0 0, .int .i64 0, .slice none 0 0], .struct [(0, 3), (1, 100), (5, 100), (9, 177), (11, 177)]⟩ := by kernel_rfl
theorem ti181 : tiOf Tryz.prog 181 = some ⟨21, 304, true, [.slice none 0 0, .bool false, .string ByteArray.empty, .int .i64 0, .int .i64 0, .slice none 0 0, .int .i64 0, .slice none 0 0, .int .i64 0, .string ByteArray.empty, .int .i64 0, .int .i64 0, .slice none 0 0, .string ByteArray.empty, .int .i64 0, .int .i64 0, .slice none 0 0, .int .i64 0, .slice none 0 0, .int .i64 0, .slice none 0 0], .struct [(0, 59), (1, 4), (2, 100), (6, 177), (8, 179)]⟩ := by kernel_rfl
theorem ti183 : tiOf Tryz.prog 183 = some ⟨23, 328, true, [.int .i64 0, .string ByteArray.empty, .slice none 0 0, .bool false, .string ByteArray.empty, .int .i64 0, .int .i64 0, .slice none 0 0, .int .i64 0, .slice none 0 0, .int .i64 0, .string ByteArray.empty, .int .i64 0, .int .i64 0, .slice none 0 0, .string ByteArray.empty, .int .i64 0, .int .i64 0, .slice none 0 0, .int .i64 0, .slice none 0 0, .int .i64 0, .slice none 0 0], .struct [(0, 3), (1, 9), (2, 181)]⟩ := by kernel_rfl
theorem ti228 : tiOf Tryz.prog 228 = some ⟨2, 16, true, [.int .i64 0, .int .i64 0], .struct [(0, 3), (1, 3)]⟩ := by kernel_rfl
theorem ti230 : tiOf Tryz.prog 230 = some ⟨2, 16, true, [.int .i64 0, .int .i64 0], .struct [(0, 3), (1, 3)]⟩ := by kernel_rfl
theorem ti282 : tiOf Tryz.prog 282 = some ⟨1, 24, false, [.slice none 0 0], .slice 72⟩ := by kernel_rfl
theorem mx : Tryz.prog.follows .mixedOrders = true := by kernel_rfl
def tys : Tys := { tInt := 3, tString := 9, tSig := 228, tMark := 0, tSigned := 150, tEntry := 100, tSignedS := 59, tFork := 175, tZone := 62, tStored := 183, tActor := 119, tSaid := 122, tServer := 125 }
theorem tys_tInt : tys.tInt = 3 := rfl
theorem tys_tString : tys.tString = 9 := rfl
theorem tys_tSig : tys.tSig = 228 := rfl
theorem tys_tMark : tys.tMark = 0 := rfl
theorem tys_tSigned : tys.tSigned = 150 := rfl
theorem tys_tEntry : tys.tEntry = 100 := rfl
theorem tys_tSignedS : tys.tSignedS = 59 := rfl
theorem tys_tFork : tys.tFork = 175 := rfl
theorem tys_tZone : tys.tZone = 62 := rfl
theorem tys_tStored : tys.tStored = 183 := rfl
theorem tys_tActor : tys.tActor = 119 := rfl
theorem tys_tSaid : tys.tSaid = 122 := rfl
theorem tys_tServer : tys.tServer = 125 := rfl
end Go.Proofs.Vt
