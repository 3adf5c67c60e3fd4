/- A part of the proof of the card: lemmas that the text with the card leans on (see there for what is proved, and under which conditions). -/
import Derived.Test.YtgjdionnbbnmpaaGreatDoorVmOpn
import Derived.Test.YtgjdionnbbnmpaaGreatDoorProg
import Derived.KernelRfl
set_option linter.unusedVariables false
set_option linter.unusedSimpArgs false
namespace Go.Proofs.Vt
open Go Go.RowKit Go.Proofs.Vm Go.Proofs
theorem cells_3 : Tryz.prog.cellsOf 3 = 1 := by kernel_rfl
theorem op_int {W : World} : Opens Tryz.prog W 3 (fun row => ∃ x : Int, inI x ∧ row = [.v (.int .i64 x)]) := opens_i Tryz.underlying3
theorem cells_72 : Tryz.prog.cellsOf 72 = 1 := by kernel_rfl
theorem op_intS {W : World} : Opens Tryz.prog W 72 (fun row => ∃ x : List Int, fitL (inI) x ∧ row = [.l none 1 (rowsI x)]) := opens_l (f := inI) (g := (fun x : Int => [C.v (.int .i64 x)])) Tryz.underlying72 cells_3 (by decide) op_int
theorem cells_138 : Tryz.prog.cellsOf 138 = 2 := by kernel_rfl
theorem op_Keys {W : World} : Opens Tryz.prog W 138 (fun row => ∃ x : TKeys, x.fit ∧ row = TKeys.row none x) :=
  (opens_struct Tryz.underlying138 (.next 1 cells_72 rfl op_intS (.next 1 cells_3 rfl op_int .nil)) (endOf_next 1 cells_72 rfl (endOf_next 1 cells_3 rfl cells_138.symm))).imp fun row h => by
    obtain ⟨_, _, rfl, ⟨x0, h0, rfl⟩, _, _, rfl, ⟨x1, h1, rfl⟩, rfl⟩ := h
    exact ⟨⟨x0, x1⟩, ⟨h0, h1⟩, rfl⟩
theorem cells_230 : Tryz.prog.cellsOf 230 = 2 := by kernel_rfl
theorem op_Sig {W : World} : Opens Tryz.prog W 230 (fun row => ∃ x : TSig, x.fit ∧ row = TSig.row none x) :=
  (opens_struct Tryz.underlying230 (.next 1 cells_3 rfl op_int (.next 1 cells_3 rfl op_int .nil)) (endOf_next 1 cells_3 rfl (endOf_next 1 cells_3 rfl cells_230.symm))).imp fun row h => by
    obtain ⟨_, _, rfl, ⟨x0, h0, rfl⟩, _, _, rfl, ⟨x1, h1, rfl⟩, rfl⟩ := h
    exact ⟨⟨x0, x1⟩, ⟨h0, h1⟩, rfl⟩
theorem cells_9 : Tryz.prog.cellsOf 9 = 1 := by kernel_rfl
theorem op_string {W : World} : Opens Tryz.prog W 9 (fun row => ∃ x : List UInt8, x.length ≤ maxLen ∧ row = [.v (.string (bs x))]) := opens_s Tryz.underlying9
theorem cells_98 : Tryz.prog.cellsOf 98 = 1 := by kernel_rfl
theorem op_stringS {W : World} : Opens Tryz.prog W 98 (fun row => ∃ x : List (List UInt8), fitL (fun t => t.length ≤ maxLen) x ∧ row = [.l none 1 (rowsS x)]) := opens_l (f := (fun l : List UInt8 => l.length ≤ maxLen)) (g := (fun t : List UInt8 => [C.v (.string (bs t))])) Tryz.underlying98 cells_9 (by decide) op_string
theorem cells_145 : Tryz.prog.cellsOf 145 = 4 := by kernel_rfl
theorem op_Entry {W : World} : Opens Tryz.prog W 145 (fun row => ∃ x : TEntry, x.fit ∧ row = TEntry.row none x) :=
  (opens_struct Tryz.underlying145 (.next 1 cells_9 rfl op_string (.next 1 cells_3 rfl op_int (.next 1 cells_3 rfl op_int (.next 1 cells_98 rfl op_stringS .nil)))) (endOf_next 1 cells_9 rfl (endOf_next 1 cells_3 rfl (endOf_next 1 cells_3 rfl (endOf_next 1 cells_98 rfl cells_145.symm))))).imp fun row h => by
    obtain ⟨_, _, rfl, ⟨x0, h0, rfl⟩, _, _, rfl, ⟨x1, h1, rfl⟩, _, _, rfl, ⟨x2, h2, rfl⟩, _, _, rfl, ⟨x3, h3, rfl⟩, rfl⟩ := h
    exact ⟨⟨x0, x1, x2, x3⟩, ⟨h0, h1, h2, h3⟩, rfl⟩
theorem cells_166 : Tryz.prog.cellsOf 166 = 2 := by kernel_rfl
theorem op_Proof {W : World} : Opens Tryz.prog W 166 (fun row => ∃ x : TProof, x.fit ∧ row = TProof.row none x) :=
  (opens_struct Tryz.underlying166 (.next 1 cells_3 rfl op_int (.next 1 cells_72 rfl op_intS .nil)) (endOf_next 1 cells_3 rfl (endOf_next 1 cells_72 rfl cells_166.symm))).imp fun row h => by
    obtain ⟨_, _, rfl, ⟨x0, h0, rfl⟩, _, _, rfl, ⟨x1, h1, rfl⟩, rfl⟩ := h
    exact ⟨⟨x0, x1⟩, ⟨h0, h1⟩, rfl⟩
theorem cells_168 : Tryz.prog.cellsOf 168 = 13 := by kernel_rfl
theorem op_Gap {W : World} : Opens Tryz.prog W 168 (fun row => ∃ x : TGap, x.fit ∧ row = TGap.row none x) :=
  (opens_struct Tryz.underlying168 (.next 1 cells_3 rfl op_int (.next 4 cells_145 rfl op_Entry (.next 4 cells_145 rfl op_Entry (.next 2 cells_166 rfl op_Proof (.next 2 cells_166 rfl op_Proof .nil))))) (endOf_next 1 cells_3 rfl (endOf_next 4 cells_145 rfl (endOf_next 4 cells_145 rfl (endOf_next 2 cells_166 rfl (endOf_next 2 cells_166 rfl cells_168.symm)))))).imp fun row h => by
    obtain ⟨_, _, rfl, ⟨x0, h0, rfl⟩, _, _, rfl, ⟨x1, h1, rfl⟩, _, _, rfl, ⟨x2, h2, rfl⟩, _, _, rfl, ⟨x3, h3, rfl⟩, _, _, rfl, ⟨x4, h4, rfl⟩, rfl⟩ := h
    exact ⟨⟨x0, x1, x2, x3, x4⟩, ⟨h0, h1, h2, h3, h4⟩, rfl⟩
theorem cells_4 : Tryz.prog.cellsOf 4 = 1 := by kernel_rfl
theorem op_bool {W : World} : Opens Tryz.prog W 4 (fun row => ∃ x : Bool, True ∧ row = [.v (.bool x)]) := opens_b Tryz.underlying4
theorem cells_140 : Tryz.prog.cellsOf 140 = 16 := by kernel_rfl
theorem op_Head {W : World} : Opens Tryz.prog W 140 (fun row => ∃ x : THead, x.fit ∧ row = THead.row none x) :=
  (opens_struct Tryz.underlying140 (.next 1 cells_3 rfl op_int (.next 1 cells_3 rfl op_int (.next 1 cells_3 rfl op_int (.next 1 cells_3 rfl op_int (.next 1 cells_3 rfl op_int (.next 1 cells_3 rfl op_int (.next 1 cells_3 rfl op_int (.next 1 cells_3 rfl op_int (.next 2 cells_138 rfl op_Keys (.next 2 cells_138 rfl op_Keys (.next 1 cells_3 rfl op_int (.next 2 cells_138 rfl op_Keys (.next 1 cells_4 rfl op_bool .nil))))))))))))) (endOf_next 1 cells_3 rfl (endOf_next 1 cells_3 rfl (endOf_next 1 cells_3 rfl (endOf_next 1 cells_3 rfl (endOf_next 1 cells_3 rfl (endOf_next 1 cells_3 rfl (endOf_next 1 cells_3 rfl (endOf_next 1 cells_3 rfl (endOf_next 2 cells_138 rfl (endOf_next 2 cells_138 rfl (endOf_next 1 cells_3 rfl (endOf_next 2 cells_138 rfl (endOf_next 1 cells_4 rfl cells_140.symm)))))))))))))).imp fun row h => by
    obtain ⟨_, _, rfl, ⟨x0, h0, rfl⟩, _, _, rfl, ⟨x1, h1, rfl⟩, _, _, rfl, ⟨x2, h2, rfl⟩, _, _, rfl, ⟨x3, h3, rfl⟩, _, _, rfl, ⟨x4, h4, rfl⟩, _, _, rfl, ⟨x5, h5, rfl⟩, _, _, rfl, ⟨x6, h6, rfl⟩, _, _, rfl, ⟨x7, h7, rfl⟩, _, _, rfl, ⟨x8, h8, rfl⟩, _, _, rfl, ⟨x9, h9, rfl⟩, _, _, rfl, ⟨x10, h10, rfl⟩, _, _, rfl, ⟨x11, h11, rfl⟩, _, _, rfl, ⟨x12, h12, rfl⟩, rfl⟩ := h
    exact ⟨⟨x0, x1, x2, x3, x4, x5, x6, x7, x8, x9, x10, x11, x12⟩, ⟨h0, h1, h2, h3, h4, h5, h6, h7, h8, h9, h10, h11, h12⟩, rfl⟩
theorem cells_141 : Tryz.prog.cellsOf 141 = 1 := by kernel_rfl
theorem op_SigS {W : World} : Opens Tryz.prog W 141 (fun row => ∃ x : List TSig, fitL (TSig.fit) x ∧ row = [.l none 2 (x.map (TSig.row none))]) := opens_l (f := (TSig.fit)) (g := (TSig.row none)) Tryz.underlying141 cells_230 (by decide) op_Sig
theorem cells_143 : Tryz.prog.cellsOf 143 = 17 := by kernel_rfl
theorem op_Signed {W : World} : Opens Tryz.prog W 143 (fun row => ∃ x : TSigned, x.fit ∧ row = TSigned.row none x) :=
  (opens_struct Tryz.underlying143 (.next 16 cells_140 rfl op_Head (.next 1 cells_141 rfl op_SigS .nil)) (endOf_next 16 cells_140 rfl (endOf_next 1 cells_141 rfl cells_143.symm))).imp fun row h => by
    obtain ⟨_, _, rfl, ⟨x0, h0, rfl⟩, _, _, rfl, ⟨x1, h1, rfl⟩, rfl⟩ := h
    exact ⟨⟨x0, x1⟩, ⟨h0, h1⟩, rfl⟩
theorem cells_163 : Tryz.prog.cellsOf 163 = 51 := by kernel_rfl
theorem op_Fork {W : World} : Opens Tryz.prog W 163 (fun row => ∃ x : TFork, x.fit ∧ row = TFork.row none x) :=
  (opens_struct Tryz.underlying163 (.next 17 cells_143 rfl op_Signed (.next 17 cells_143 rfl op_Signed (.next 17 cells_143 rfl op_Signed .nil))) (endOf_next 17 cells_143 rfl (endOf_next 17 cells_143 rfl (endOf_next 17 cells_143 rfl cells_163.symm)))).imp fun row h => by
    obtain ⟨_, _, rfl, ⟨x0, h0, rfl⟩, _, _, rfl, ⟨x1, h1, rfl⟩, _, _, rfl, ⟨x2, h2, rfl⟩, rfl⟩ := h
    exact ⟨⟨x0, x1, x2⟩, ⟨h0, h1, h2⟩, rfl⟩
theorem cells_53 : Tryz.prog.cellsOf 53 = 1 := by kernel_rfl
theorem op_SignedS {W : World} : Opens Tryz.prog W 53 (fun row => ∃ x : List TSigned, fitL (TSigned.fit) x ∧ row = [.l none 17 (x.map (TSigned.row none))]) := opens_l (f := (TSigned.fit)) (g := (TSigned.row none)) Tryz.underlying53 cells_143 (by decide) op_Signed
theorem cells_54 : Tryz.prog.cellsOf 54 = 1 := by kernel_rfl
theorem op_EntryS {W : World} : Opens Tryz.prog W 54 (fun row => ∃ x : List TEntry, fitL (TEntry.fit) x ∧ row = [.l none 4 (x.map (TEntry.row none))]) := opens_l (f := (TEntry.fit)) (g := (TEntry.row none)) Tryz.underlying54 cells_145 (by decide) op_Entry
theorem cells_56 : Tryz.prog.cellsOf 56 = 2 := by kernel_rfl
theorem op_Zone {W : World} : Opens Tryz.prog W 56 (fun row => ∃ x : TZone, x.fit ∧ row = TZone.row none x) :=
  (opens_struct Tryz.underlying56 (.next 1 cells_53 rfl op_SignedS (.next 1 cells_54 rfl op_EntryS .nil)) (endOf_next 1 cells_53 rfl (endOf_next 1 cells_54 rfl cells_56.symm))).imp fun row h => by
    obtain ⟨_, _, rfl, ⟨x0, h0, rfl⟩, _, _, rfl, ⟨x1, h1, rfl⟩, rfl⟩ := h
    exact ⟨⟨x0, x1⟩, ⟨h0, h1⟩, rfl⟩
theorem cells_170 : Tryz.prog.cellsOf 170 = 21 := by kernel_rfl
theorem op_Answer {W : World} : Opens Tryz.prog W 170 (fun row => ∃ x : TAnswer, x.fit ∧ row = TAnswer.row none x) :=
  (opens_struct Tryz.underlying170 (.next 1 cells_53 rfl op_SignedS (.next 1 cells_4 rfl op_bool (.next 4 cells_145 rfl op_Entry (.next 2 cells_166 rfl op_Proof (.next 13 cells_168 rfl op_Gap .nil))))) (endOf_next 1 cells_53 rfl (endOf_next 1 cells_4 rfl (endOf_next 4 cells_145 rfl (endOf_next 2 cells_166 rfl (endOf_next 13 cells_168 rfl cells_170.symm)))))).imp fun row h => by
    obtain ⟨_, _, rfl, ⟨x0, h0, rfl⟩, _, _, rfl, ⟨x1, h1, rfl⟩, _, _, rfl, ⟨x2, h2, rfl⟩, _, _, rfl, ⟨x3, h3, rfl⟩, _, _, rfl, ⟨x4, h4, rfl⟩, rfl⟩ := h
    exact ⟨⟨x0, x1, x2, x3, x4⟩, ⟨h0, h1, h2, h3, h4⟩, rfl⟩
theorem cells_26 : Tryz.prog.cellsOf 26 = 1 := by kernel_rfl
theorem op_SignedSS {W : World} : Opens Tryz.prog W 26 (fun row => ∃ x : List (List TSigned), fitL (fitL (TSigned.fit)) x ∧ row = [.l none 1 (x.map (rowLSignedS none))]) := opens_l (f := (fitL (TSigned.fit))) (g := (rowLSignedS none)) Tryz.underlying26 cells_53 (by decide) op_SignedS
theorem cells_27 : Tryz.prog.cellsOf 27 = 1 := by kernel_rfl
theorem op_ForkS {W : World} : Opens Tryz.prog W 27 (fun row => ∃ x : List TFork, fitL (TFork.fit) x ∧ row = [.l none 51 (x.map (TFork.row none))]) := opens_l (f := (TFork.fit)) (g := (TFork.row none)) Tryz.underlying27 cells_163 (by decide) op_Fork
theorem cells_29 : Tryz.prog.cellsOf 29 = 2 := by kernel_rfl
theorem op_Known {W : World} : Opens Tryz.prog W 29 (fun row => ∃ x : TKnown, x.fit ∧ row = TKnown.row none x) :=
  (opens_struct Tryz.underlying29 (.next 1 cells_26 rfl op_SignedSS (.next 1 cells_27 rfl op_ForkS .nil)) (endOf_next 1 cells_26 rfl (endOf_next 1 cells_27 rfl cells_29.symm))).imp fun row h => by
    obtain ⟨_, _, rfl, ⟨x0, h0, rfl⟩, _, _, rfl, ⟨x1, h1, rfl⟩, rfl⟩ := h
    exact ⟨⟨x0, x1⟩, ⟨h0, h1⟩, rfl⟩
theorem cells_23 : Tryz.prog.cellsOf 23 = 1 := by kernel_rfl
theorem op_ZoneS {W : World} : Opens Tryz.prog W 23 (fun row => ∃ x : List TZone, fitL (TZone.fit) x ∧ row = [.l none 2 (x.map (TZone.row none))]) := opens_l (f := (TZone.fit)) (g := (TZone.row none)) Tryz.underlying23 cells_56 (by decide) op_Zone
theorem cells_114 : Tryz.prog.cellsOf 114 = 2 := by kernel_rfl
theorem op_Server {W : World} : Opens Tryz.prog W 114 (fun row => ∃ x : TServer, x.fit ∧ row = TServer.row none x) :=
  (opens_struct Tryz.underlying114 (.next 1 cells_23 rfl op_ZoneS (.next 1 cells_3 rfl op_int .nil)) (endOf_next 1 cells_23 rfl (endOf_next 1 cells_3 rfl cells_114.symm))).imp fun row h => by
    obtain ⟨_, _, rfl, ⟨x0, h0, rfl⟩, _, _, rfl, ⟨x1, h1, rfl⟩, rfl⟩ := h
    exact ⟨⟨x0, x1⟩, ⟨h0, h1⟩, rfl⟩
theorem cells_172 : Tryz.prog.cellsOf 172 = 23 := by kernel_rfl
theorem op_Stored {W : World} : Opens Tryz.prog W 172 (fun row => ∃ x : TStored, x.fit ∧ row = TStored.row none x) :=
  (opens_struct Tryz.underlying172 (.next 1 cells_3 rfl op_int (.next 1 cells_9 rfl op_string (.next 21 cells_170 rfl op_Answer .nil))) (endOf_next 1 cells_3 rfl (endOf_next 1 cells_9 rfl (endOf_next 21 cells_170 rfl cells_172.symm)))).imp fun row h => by
    obtain ⟨_, _, rfl, ⟨x0, h0, rfl⟩, _, _, rfl, ⟨x1, h1, rfl⟩, _, _, rfl, ⟨x2, h2, rfl⟩, rfl⟩ := h
    exact ⟨⟨x0, x1, x2⟩, ⟨h0, h1, h2⟩, rfl⟩
theorem cells_30 : Tryz.prog.cellsOf 30 = 1 := by kernel_rfl
theorem op_StoredS {W : World} : Opens Tryz.prog W 30 (fun row => ∃ x : List TStored, fitL (TStored.fit) x ∧ row = [.l none 23 (x.map (TStored.row none))]) := opens_l (f := (TStored.fit)) (g := (TStored.row none)) Tryz.underlying30 cells_172 (by decide) op_Stored
theorem cells_32 : Tryz.prog.cellsOf 32 = 1 := by kernel_rfl
theorem op_Cache {W : World} : Opens Tryz.prog W 32 (fun row => ∃ x : TCache, x.fit ∧ row = TCache.row none x) :=
  (opens_struct Tryz.underlying32 (.next 1 cells_30 rfl op_StoredS .nil) (endOf_next 1 cells_30 rfl cells_32.symm)).imp fun row h => by
    obtain ⟨_, _, rfl, ⟨x0, h0, rfl⟩, rfl⟩ := h
    exact ⟨⟨x0⟩, h0, rfl⟩
theorem cells_108 : Tryz.prog.cellsOf 108 = 1 := by kernel_rfl
theorem op_Actor {W : World} : Opens Tryz.prog W 108 (fun row => ∃ x : TActor, x.fit ∧ row = TActor.row none x) :=
  (opens_struct Tryz.underlying108 (.next 1 cells_72 rfl op_intS .nil) (endOf_next 1 cells_72 rfl cells_108.symm)).imp fun row h => by
    obtain ⟨_, _, rfl, ⟨x0, h0, rfl⟩, rfl⟩ := h
    exact ⟨⟨x0⟩, h0, rfl⟩
theorem cells_111 : Tryz.prog.cellsOf 111 = 3 := by kernel_rfl
theorem op_Said {W : World} : Opens Tryz.prog W 111 (fun row => ∃ x : TSaid, x.fit ∧ row = TSaid.row none x) :=
  (opens_struct Tryz.underlying111 (.next 2 cells_56 rfl op_Zone (.next 1 cells_72 rfl op_intS .nil)) (endOf_next 2 cells_56 rfl (endOf_next 1 cells_72 rfl cells_111.symm))).imp fun row h => by
    obtain ⟨_, _, rfl, ⟨x0, h0, rfl⟩, _, _, rfl, ⟨x1, h1, rfl⟩, rfl⟩ := h
    exact ⟨⟨x0, x1⟩, ⟨h0, h1⟩, rfl⟩
theorem cells_22 : Tryz.prog.cellsOf 22 = 1 := by kernel_rfl
theorem op_ActorS {W : World} : Opens Tryz.prog W 22 (fun row => ∃ x : List TActor, fitL (TActor.fit) x ∧ row = [.l none 1 (x.map (TActor.row none))]) := opens_l (f := (TActor.fit)) (g := (TActor.row none)) Tryz.underlying22 cells_108 (by decide) op_Actor
theorem cells_24 : Tryz.prog.cellsOf 24 = 1 := by kernel_rfl
theorem op_SaidS {W : World} : Opens Tryz.prog W 24 (fun row => ∃ x : List TSaid, fitL (TSaid.fit) x ∧ row = [.l none 3 (x.map (TSaid.row none))]) := opens_l (f := (TSaid.fit)) (g := (TSaid.row none)) Tryz.underlying24 cells_111 (by decide) op_Said
theorem cells_25 : Tryz.prog.cellsOf 25 = 1 := by kernel_rfl
theorem op_ServerS {W : World} : Opens Tryz.prog W 25 (fun row => ∃ x : List TServer, fitL (TServer.fit) x ∧ row = [.l none 2 (x.map (TServer.row none))]) := opens_l (f := (TServer.fit)) (g := (TServer.row none)) Tryz.underlying25 cells_114 (by decide) op_Server
theorem cells_34 : Tryz.prog.cellsOf 34 = 8 := by kernel_rfl
theorem op_World {W : World} : Opens Tryz.prog W 34 (fun row => ∃ x : TWorld, x.fit ∧ row = TWorld.row none x) :=
  (opens_struct Tryz.underlying34 (.next 1 cells_3 rfl op_int (.next 1 cells_22 rfl op_ActorS (.next 1 cells_23 rfl op_ZoneS (.next 1 cells_24 rfl op_SaidS (.next 1 cells_25 rfl op_ServerS (.next 2 cells_29 rfl op_Known (.next 1 cells_32 rfl op_Cache .nil))))))) (endOf_next 1 cells_3 rfl (endOf_next 1 cells_22 rfl (endOf_next 1 cells_23 rfl (endOf_next 1 cells_24 rfl (endOf_next 1 cells_25 rfl (endOf_next 2 cells_29 rfl (endOf_next 1 cells_32 rfl cells_34.symm)))))))).imp fun row h => by
    obtain ⟨_, _, rfl, ⟨x0, h0, rfl⟩, _, _, rfl, ⟨x1, h1, rfl⟩, _, _, rfl, ⟨x2, h2, rfl⟩, _, _, rfl, ⟨x3, h3, rfl⟩, _, _, rfl, ⟨x4, h4, rfl⟩, _, _, rfl, ⟨x5, h5, rfl⟩, _, _, rfl, ⟨x6, h6, rfl⟩, rfl⟩ := h
    exact ⟨⟨x0, x1, x2, x3, x4, x5, x6⟩, ⟨h0, h1, h2, h3, h4, h5, h6⟩, rfl⟩
end Go.Proofs.Vt
