/- Plain data of the program's structs, and how they lie in cells (printed by data.py). -/
import Derived.Test.YtgjdionnbbnmpaaGreatDoorVmZ
set_option linter.unusedVariables false
set_option linter.unusedSimpArgs false
namespace Go.Proofs.Vm
open Go Go.RowKit
def inI (n : Int) : Prop := -9223372036854775808 ≤ n ∧ n ≤ 9223372036854775807
def fitL {α : Type} (f : α → Prop) (l : List α) : Prop := l.length ≤ maxLen ∧ ∀ x ∈ l, f x
def wtL {α : Type} (f : α → Nat) (l : List α) : Nat := l.length + (l.map f).sum
def szR (n : Nat) (left : Int) : Int := if (n : Int) ≤ left then left - n else -1
theorem szR_pos {n : Nat} {left : Int} (h : (n : Int) ≤ left) : szR n left = left - n := if_pos h
theorem szR_neg {n : Nat} {left : Int} (h : left < (n : Int)) : szR n left = -1 := if_neg (by omega)
def preL {α : Type} (f : α → Nat) (l : List α) (i : Nat) : Nat := l.length + ((l.take i).map f).sum
theorem preL_zero {α : Type} (f : α → Nat) (l : List α) : preL f l 0 = l.length := by simp [preL]
theorem preL_all {α : Type} (f : α → Nat) (l : List α) : preL f l l.length = wtL f l := by simp [preL, wtL]
theorem preL_succ {α : Type} [Inhabited α] (f : α → Nat) (l : List α) {i : Nat} (h : i < l.length) : preL f l (i + 1) = preL f l i + f (l.getD i default) := by
  have e : l.take (i + 1) = l.take i ++ [l.getD i default] := by
    rw [List.take_add_one, List.getD_eq_getElem?_getD]; simp [h]
  simp [preL, e]; omega
theorem preL_le {α : Type} (f : α → Nat) (l : List α) (i : Nat) : preL f l i ≤ wtL f l := by
  have : (l.map f).sum = ((l.take i).map f).sum + ((l.drop i).map f).sum := by
    rw [← List.sum_append, ← List.map_append, List.take_append_drop]
  unfold preL wtL; omega
theorem wrap_id {n : Int} (h1 : -9223372036854775808 ≤ n) (h2 : n ≤ 9223372036854775807) : IntKind.i64.wrap n = n := by
  have e1 : (2 : Int) ^ 64 = 18446744073709551616 := by decide
  have e2 : (2 : Int) ^ (64 - 1) = 9223372036854775808 := by decide
  simp only [IntKind.wrap, IntKind.bits, IntKind.signed, Bool.true_and, decide_eq_true_eq, e1, e2]
  split <;> omega
theorem wrap_up {i : Nat} (h : i < 9223372036854775807) : IntKind.i64.wrap ((i : Int) + 1) = ((i + 1 : Nat) : Int) := by
  rw [wrap_id (by omega) (by omega)]; rfl
theorem maxLen_eq : maxLen = 9223372036854775807 := by decide
theorem wrap_sub {left : Int} {n : Nat} (h0 : 0 ≤ left) (h1 : left ≤ 1048576) (hn : n ≤ maxLen) : IntKind.i64.wrap (left - (n : Int)) = left - n := by
  rw [maxLen_eq] at hn
  exact wrap_id (by omega) (by omega)
def toPart {α : Type} (f : α → List C) (z : List C) (l : List α) (i : Nat) : List (List C) := (l.take i).map f ++ List.replicate (l.length - i) z
theorem toPart_zero {α : Type} (f : α → List C) (z : List C) (l : List α) : toPart f z l 0 = List.replicate l.length z := by simp [toPart]
theorem toPart_all {α : Type} (f : α → List C) (z : List C) (l : List α) : toPart f z l l.length = l.map f := by simp [toPart]
theorem toPart_length {α : Type} (f : α → List C) (z : List C) (l : List α) {i : Nat} (h : i ≤ l.length) : (toPart f z l i).length = l.length := by simp [toPart]; omega
theorem toPart_at {α : Type} (f : α → List C) (z : List C) (l : List α) {i : Nat} (h : i < l.length) : (toPart f z l i).getD i [] = z := by
  have e : min i l.length = i := by omega
  simp only [toPart, List.getD_eq_getElem?_getD]
  rw [List.getElem?_append_right (by simp [e])]
  simp [e, show 0 < l.length - i from by omega]
theorem toPart_set {α : Type} [Inhabited α] (f : α → List C) (z : List C) (l : List α) {i : Nat} (h : i < l.length) : (toPart f z l i).set i (f (l.getD i default)) = toPart f z l (i + 1) := by
  have e : l.take (i + 1) = l.take i ++ [l.getD i default] := by
    rw [List.take_add_one, List.getD_eq_getElem?_getD]; simp [h]
  have e2 : l.length - i = (l.length - (i + 1)) + 1 := by omega
  have e3 : ((l.take i).map f).length = i := by simp; omega
  simp only [toPart, e, e2, List.replicate_succ, List.map_append, List.map_cons, List.map_nil, List.append_assoc, List.cons_append, List.nil_append]
  rw [List.set_append_right _ _ (by omega), e3, Nat.sub_self]
  rfl

def rowsI (xs : List Int) : List (List C) := xs.map fun x => [.v (.int .i64 x)]
structure Tys where
  tInt : TypeId
  tString : TypeId
  tSig : TypeId
  tMark : TypeId
  tSigned : TypeId
  tEntry : TypeId
  tSignedS : TypeId
  tFork : TypeId
  tZone : TypeId
  tStored : TypeId
  tActor : TypeId
  tSaid : TypeId
  tServer : TypeId
structure TKeys where
  fList : List Int
  fNeed : Int
noncomputable instance : DecidableEq TKeys := fun _ _ => Classical.propDecidable _
instance : Inhabited TKeys := ⟨⟨[], 0⟩⟩
def TKeys.row (o : Option Tys) (x : TKeys) : List C := [.l (o.map (·.tInt)) 1 (rowsI x.fList), .v (.int .i64 x.fNeed)]
def TKeys.fit (x : TKeys) : Prop := fitL (inI) x.fList ∧ inI x.fNeed
def TKeys.wt (x : TKeys) : Nat := x.fList.length
structure TSig where
  fKey : Int
  fTag : Int
noncomputable instance : DecidableEq TSig := fun _ _ => Classical.propDecidable _
instance : Inhabited TSig := ⟨⟨0, 0⟩⟩
def TSig.row (o : Option Tys) (x : TSig) : List C := [.v (.int .i64 x.fKey), .v (.int .i64 x.fTag)]
def TSig.fit (x : TSig) : Prop := inI x.fKey ∧ inI x.fTag
structure TEntry where
  fLabel : List UInt8
  fKind : Int
  fValue : Int
  fPath : List (List UInt8)
noncomputable instance : DecidableEq TEntry := fun _ _ => Classical.propDecidable _
instance : Inhabited TEntry := ⟨⟨[], 0, 0, []⟩⟩
def TEntry.row (o : Option Tys) (x : TEntry) : List C := [.v (.string (bs x.fLabel)), .v (.int .i64 x.fKind), .v (.int .i64 x.fValue), .l (o.map (·.tString)) 1 (rowsS x.fPath)]
def TEntry.fit (x : TEntry) : Prop := x.fLabel.length ≤ maxLen ∧ inI x.fKind ∧ inI x.fValue ∧ fitL (fun t => t.length ≤ maxLen) x.fPath
def TEntry.wt (x : TEntry) : Nat := x.fLabel.length + wtL List.length x.fPath
structure TProof where
  fAt : Int
  fPath : List Int
noncomputable instance : DecidableEq TProof := fun _ _ => Classical.propDecidable _
instance : Inhabited TProof := ⟨⟨0, []⟩⟩
def TProof.row (o : Option Tys) (x : TProof) : List C := [.v (.int .i64 x.fAt), .l (o.map (·.tInt)) 1 (rowsI x.fPath)]
def TProof.fit (x : TProof) : Prop := inI x.fAt ∧ fitL (inI) x.fPath
def TProof.wt (x : TProof) : Nat := x.fPath.length
structure TGap where
  fAt : Int
  fBefore : TEntry
  fAfter : TEntry
  fLeft : TProof
  fRight : TProof
noncomputable instance : DecidableEq TGap := fun _ _ => Classical.propDecidable _
instance : Inhabited TGap := ⟨⟨0, default, default, default, default⟩⟩
def TGap.row (o : Option Tys) (x : TGap) : List C := [.v (.int .i64 x.fAt), .v (.string (bs x.fBefore.fLabel)), .v (.int .i64 x.fBefore.fKind), .v (.int .i64 x.fBefore.fValue), .l (o.map (·.tString)) 1 (rowsS x.fBefore.fPath), .v (.string (bs x.fAfter.fLabel)), .v (.int .i64 x.fAfter.fKind), .v (.int .i64 x.fAfter.fValue), .l (o.map (·.tString)) 1 (rowsS x.fAfter.fPath), .v (.int .i64 x.fLeft.fAt), .l (o.map (·.tInt)) 1 (rowsI x.fLeft.fPath), .v (.int .i64 x.fRight.fAt), .l (o.map (·.tInt)) 1 (rowsI x.fRight.fPath)]
def TGap.fit (x : TGap) : Prop := inI x.fAt ∧ TEntry.fit x.fBefore ∧ TEntry.fit x.fAfter ∧ TProof.fit x.fLeft ∧ TProof.fit x.fRight
def TGap.wt (x : TGap) : Nat := TEntry.wt x.fBefore + TEntry.wt x.fAfter + TProof.wt x.fLeft + TProof.wt x.fRight
structure THead where
  fZone : Int
  fEpoch : Int
  fKind : Int
  fTime : Int
  fUntil : Int
  fCount : Int
  fRoot : Int
  fPrev : Int
  fKeys : TKeys
  fHeirs : TKeys
  fWait : Int
  fJudge : TKeys
  fFrozen : Bool
noncomputable instance : DecidableEq THead := fun _ _ => Classical.propDecidable _
instance : Inhabited THead := ⟨⟨0, 0, 0, 0, 0, 0, 0, 0, default, default, 0, default, false⟩⟩
def THead.row (o : Option Tys) (x : THead) : List C := [.v (.int .i64 x.fZone), .v (.int .i64 x.fEpoch), .v (.int .i64 x.fKind), .v (.int .i64 x.fTime), .v (.int .i64 x.fUntil), .v (.int .i64 x.fCount), .v (.int .i64 x.fRoot), .v (.int .i64 x.fPrev), .l (o.map (·.tInt)) 1 (rowsI x.fKeys.fList), .v (.int .i64 x.fKeys.fNeed), .l (o.map (·.tInt)) 1 (rowsI x.fHeirs.fList), .v (.int .i64 x.fHeirs.fNeed), .v (.int .i64 x.fWait), .l (o.map (·.tInt)) 1 (rowsI x.fJudge.fList), .v (.int .i64 x.fJudge.fNeed), .v (.bool x.fFrozen)]
def THead.fit (x : THead) : Prop := inI x.fZone ∧ inI x.fEpoch ∧ inI x.fKind ∧ inI x.fTime ∧ inI x.fUntil ∧ inI x.fCount ∧ inI x.fRoot ∧ inI x.fPrev ∧ TKeys.fit x.fKeys ∧ TKeys.fit x.fHeirs ∧ inI x.fWait ∧ TKeys.fit x.fJudge ∧ True
def THead.wt (x : THead) : Nat := TKeys.wt x.fKeys + TKeys.wt x.fHeirs + TKeys.wt x.fJudge
structure TSigned where
  fHead : THead
  fSigs : List TSig
noncomputable instance : DecidableEq TSigned := fun _ _ => Classical.propDecidable _
instance : Inhabited TSigned := ⟨⟨default, []⟩⟩
def TSigned.row (o : Option Tys) (x : TSigned) : List C := [.v (.int .i64 x.fHead.fZone), .v (.int .i64 x.fHead.fEpoch), .v (.int .i64 x.fHead.fKind), .v (.int .i64 x.fHead.fTime), .v (.int .i64 x.fHead.fUntil), .v (.int .i64 x.fHead.fCount), .v (.int .i64 x.fHead.fRoot), .v (.int .i64 x.fHead.fPrev), .l (o.map (·.tInt)) 1 (rowsI x.fHead.fKeys.fList), .v (.int .i64 x.fHead.fKeys.fNeed), .l (o.map (·.tInt)) 1 (rowsI x.fHead.fHeirs.fList), .v (.int .i64 x.fHead.fHeirs.fNeed), .v (.int .i64 x.fHead.fWait), .l (o.map (·.tInt)) 1 (rowsI x.fHead.fJudge.fList), .v (.int .i64 x.fHead.fJudge.fNeed), .v (.bool x.fHead.fFrozen), .l (o.map (·.tSig)) 2 (x.fSigs.map (TSig.row o))]
def TSigned.fit (x : TSigned) : Prop := THead.fit x.fHead ∧ fitL (TSig.fit) x.fSigs
def TSigned.wt (x : TSigned) : Nat := THead.wt x.fHead + x.fSigs.length
structure TFork where
  fBefore : TSigned
  fA : TSigned
  fB : TSigned
noncomputable instance : DecidableEq TFork := fun _ _ => Classical.propDecidable _
instance : Inhabited TFork := ⟨⟨default, default, default⟩⟩
def TFork.row (o : Option Tys) (x : TFork) : List C := [.v (.int .i64 x.fBefore.fHead.fZone), .v (.int .i64 x.fBefore.fHead.fEpoch), .v (.int .i64 x.fBefore.fHead.fKind), .v (.int .i64 x.fBefore.fHead.fTime), .v (.int .i64 x.fBefore.fHead.fUntil), .v (.int .i64 x.fBefore.fHead.fCount), .v (.int .i64 x.fBefore.fHead.fRoot), .v (.int .i64 x.fBefore.fHead.fPrev), .l (o.map (·.tInt)) 1 (rowsI x.fBefore.fHead.fKeys.fList), .v (.int .i64 x.fBefore.fHead.fKeys.fNeed), .l (o.map (·.tInt)) 1 (rowsI x.fBefore.fHead.fHeirs.fList), .v (.int .i64 x.fBefore.fHead.fHeirs.fNeed), .v (.int .i64 x.fBefore.fHead.fWait), .l (o.map (·.tInt)) 1 (rowsI x.fBefore.fHead.fJudge.fList), .v (.int .i64 x.fBefore.fHead.fJudge.fNeed), .v (.bool x.fBefore.fHead.fFrozen), .l (o.map (·.tSig)) 2 (x.fBefore.fSigs.map (TSig.row o)), .v (.int .i64 x.fA.fHead.fZone), .v (.int .i64 x.fA.fHead.fEpoch), .v (.int .i64 x.fA.fHead.fKind), .v (.int .i64 x.fA.fHead.fTime), .v (.int .i64 x.fA.fHead.fUntil), .v (.int .i64 x.fA.fHead.fCount), .v (.int .i64 x.fA.fHead.fRoot), .v (.int .i64 x.fA.fHead.fPrev), .l (o.map (·.tInt)) 1 (rowsI x.fA.fHead.fKeys.fList), .v (.int .i64 x.fA.fHead.fKeys.fNeed), .l (o.map (·.tInt)) 1 (rowsI x.fA.fHead.fHeirs.fList), .v (.int .i64 x.fA.fHead.fHeirs.fNeed), .v (.int .i64 x.fA.fHead.fWait), .l (o.map (·.tInt)) 1 (rowsI x.fA.fHead.fJudge.fList), .v (.int .i64 x.fA.fHead.fJudge.fNeed), .v (.bool x.fA.fHead.fFrozen), .l (o.map (·.tSig)) 2 (x.fA.fSigs.map (TSig.row o)), .v (.int .i64 x.fB.fHead.fZone), .v (.int .i64 x.fB.fHead.fEpoch), .v (.int .i64 x.fB.fHead.fKind), .v (.int .i64 x.fB.fHead.fTime), .v (.int .i64 x.fB.fHead.fUntil), .v (.int .i64 x.fB.fHead.fCount), .v (.int .i64 x.fB.fHead.fRoot), .v (.int .i64 x.fB.fHead.fPrev), .l (o.map (·.tInt)) 1 (rowsI x.fB.fHead.fKeys.fList), .v (.int .i64 x.fB.fHead.fKeys.fNeed), .l (o.map (·.tInt)) 1 (rowsI x.fB.fHead.fHeirs.fList), .v (.int .i64 x.fB.fHead.fHeirs.fNeed), .v (.int .i64 x.fB.fHead.fWait), .l (o.map (·.tInt)) 1 (rowsI x.fB.fHead.fJudge.fList), .v (.int .i64 x.fB.fHead.fJudge.fNeed), .v (.bool x.fB.fHead.fFrozen), .l (o.map (·.tSig)) 2 (x.fB.fSigs.map (TSig.row o))]
def TFork.fit (x : TFork) : Prop := TSigned.fit x.fBefore ∧ TSigned.fit x.fA ∧ TSigned.fit x.fB
def TFork.wt (x : TFork) : Nat := TSigned.wt x.fBefore + TSigned.wt x.fA + TSigned.wt x.fB
structure TZone where
  fChain : List TSigned
  fEntries : List TEntry
noncomputable instance : DecidableEq TZone := fun _ _ => Classical.propDecidable _
instance : Inhabited TZone := ⟨⟨[], []⟩⟩
def TZone.row (o : Option Tys) (x : TZone) : List C := [.l (o.map (·.tSigned)) 17 (x.fChain.map (TSigned.row o)), .l (o.map (·.tEntry)) 4 (x.fEntries.map (TEntry.row o))]
def TZone.fit (x : TZone) : Prop := fitL (TSigned.fit) x.fChain ∧ fitL (TEntry.fit) x.fEntries
def TZone.wt (x : TZone) : Nat := wtL TSigned.wt x.fChain + wtL TEntry.wt x.fEntries
structure TAnswer where
  fChain : List TSigned
  fFound : Bool
  fEntry : TEntry
  fProof : TProof
  fGap : TGap
noncomputable instance : DecidableEq TAnswer := fun _ _ => Classical.propDecidable _
instance : Inhabited TAnswer := ⟨⟨[], false, default, default, default⟩⟩
def TAnswer.row (o : Option Tys) (x : TAnswer) : List C := [.l (o.map (·.tSigned)) 17 (x.fChain.map (TSigned.row o)), .v (.bool x.fFound), .v (.string (bs x.fEntry.fLabel)), .v (.int .i64 x.fEntry.fKind), .v (.int .i64 x.fEntry.fValue), .l (o.map (·.tString)) 1 (rowsS x.fEntry.fPath), .v (.int .i64 x.fProof.fAt), .l (o.map (·.tInt)) 1 (rowsI x.fProof.fPath), .v (.int .i64 x.fGap.fAt), .v (.string (bs x.fGap.fBefore.fLabel)), .v (.int .i64 x.fGap.fBefore.fKind), .v (.int .i64 x.fGap.fBefore.fValue), .l (o.map (·.tString)) 1 (rowsS x.fGap.fBefore.fPath), .v (.string (bs x.fGap.fAfter.fLabel)), .v (.int .i64 x.fGap.fAfter.fKind), .v (.int .i64 x.fGap.fAfter.fValue), .l (o.map (·.tString)) 1 (rowsS x.fGap.fAfter.fPath), .v (.int .i64 x.fGap.fLeft.fAt), .l (o.map (·.tInt)) 1 (rowsI x.fGap.fLeft.fPath), .v (.int .i64 x.fGap.fRight.fAt), .l (o.map (·.tInt)) 1 (rowsI x.fGap.fRight.fPath)]
def TAnswer.fit (x : TAnswer) : Prop := fitL (TSigned.fit) x.fChain ∧ True ∧ TEntry.fit x.fEntry ∧ TProof.fit x.fProof ∧ TGap.fit x.fGap
def TAnswer.wt (x : TAnswer) : Nat := wtL TSigned.wt x.fChain + TEntry.wt x.fEntry + TProof.wt x.fProof + TGap.wt x.fGap
structure TKnown where
  fChains : List (List TSigned)
  fForks : List TFork
noncomputable instance : DecidableEq TKnown := fun _ _ => Classical.propDecidable _
instance : Inhabited TKnown := ⟨⟨[], []⟩⟩
def rowLSignedS (o : Option Tys) (x : List TSigned) : List C := [.l (o.map (·.tSigned)) 17 (x.map (TSigned.row o))]
def TKnown.row (o : Option Tys) (x : TKnown) : List C := [.l (o.map (·.tSignedS)) 1 (x.fChains.map (rowLSignedS o)), .l (o.map (·.tFork)) 51 (x.fForks.map (TFork.row o))]
def TKnown.fit (x : TKnown) : Prop := fitL (fitL (TSigned.fit)) x.fChains ∧ fitL (TFork.fit) x.fForks
def TKnown.wt (x : TKnown) : Nat := wtL (wtL TSigned.wt) x.fChains + wtL TFork.wt x.fForks
structure TServer where
  fZones : List TZone
  fLie : Int
noncomputable instance : DecidableEq TServer := fun _ _ => Classical.propDecidable _
instance : Inhabited TServer := ⟨⟨[], 0⟩⟩
def TServer.row (o : Option Tys) (x : TServer) : List C := [.l (o.map (·.tZone)) 2 (x.fZones.map (TZone.row o)), .v (.int .i64 x.fLie)]
def TServer.fit (x : TServer) : Prop := fitL (TZone.fit) x.fZones ∧ inI x.fLie
def TServer.wt (x : TServer) : Nat := wtL TZone.wt x.fZones
structure TStored where
  fZone : Int
  fLabel : List UInt8
  fAnswer : TAnswer
noncomputable instance : DecidableEq TStored := fun _ _ => Classical.propDecidable _
instance : Inhabited TStored := ⟨⟨0, [], default⟩⟩
def TStored.row (o : Option Tys) (x : TStored) : List C := [.v (.int .i64 x.fZone), .v (.string (bs x.fLabel)), .l (o.map (·.tSigned)) 17 (x.fAnswer.fChain.map (TSigned.row o)), .v (.bool x.fAnswer.fFound), .v (.string (bs x.fAnswer.fEntry.fLabel)), .v (.int .i64 x.fAnswer.fEntry.fKind), .v (.int .i64 x.fAnswer.fEntry.fValue), .l (o.map (·.tString)) 1 (rowsS x.fAnswer.fEntry.fPath), .v (.int .i64 x.fAnswer.fProof.fAt), .l (o.map (·.tInt)) 1 (rowsI x.fAnswer.fProof.fPath), .v (.int .i64 x.fAnswer.fGap.fAt), .v (.string (bs x.fAnswer.fGap.fBefore.fLabel)), .v (.int .i64 x.fAnswer.fGap.fBefore.fKind), .v (.int .i64 x.fAnswer.fGap.fBefore.fValue), .l (o.map (·.tString)) 1 (rowsS x.fAnswer.fGap.fBefore.fPath), .v (.string (bs x.fAnswer.fGap.fAfter.fLabel)), .v (.int .i64 x.fAnswer.fGap.fAfter.fKind), .v (.int .i64 x.fAnswer.fGap.fAfter.fValue), .l (o.map (·.tString)) 1 (rowsS x.fAnswer.fGap.fAfter.fPath), .v (.int .i64 x.fAnswer.fGap.fLeft.fAt), .l (o.map (·.tInt)) 1 (rowsI x.fAnswer.fGap.fLeft.fPath), .v (.int .i64 x.fAnswer.fGap.fRight.fAt), .l (o.map (·.tInt)) 1 (rowsI x.fAnswer.fGap.fRight.fPath)]
def TStored.fit (x : TStored) : Prop := inI x.fZone ∧ x.fLabel.length ≤ maxLen ∧ TAnswer.fit x.fAnswer
def TStored.wt (x : TStored) : Nat := x.fLabel.length + TAnswer.wt x.fAnswer
structure TCache where
  fList : List TStored
noncomputable instance : DecidableEq TCache := fun _ _ => Classical.propDecidable _
instance : Inhabited TCache := ⟨⟨[]⟩⟩
def TCache.row (o : Option Tys) (x : TCache) : List C := [.l (o.map (·.tStored)) 23 (x.fList.map (TStored.row o))]
def TCache.fit (x : TCache) : Prop := fitL (TStored.fit) x.fList
def TCache.wt (x : TCache) : Nat := wtL TStored.wt x.fList
structure TActor where
  fHeld : List Int
noncomputable instance : DecidableEq TActor := fun _ _ => Classical.propDecidable _
instance : Inhabited TActor := ⟨⟨[]⟩⟩
def TActor.row (o : Option Tys) (x : TActor) : List C := [.l (o.map (·.tInt)) 1 (rowsI x.fHeld)]
def TActor.fit (x : TActor) : Prop := fitL (inI) x.fHeld
def TActor.wt (x : TActor) : Nat := x.fHeld.length
structure TSaid where
  fZone : TZone
  fHeld : List Int
noncomputable instance : DecidableEq TSaid := fun _ _ => Classical.propDecidable _
instance : Inhabited TSaid := ⟨⟨default, []⟩⟩
def TSaid.row (o : Option Tys) (x : TSaid) : List C := [.l (o.map (·.tSigned)) 17 (x.fZone.fChain.map (TSigned.row o)), .l (o.map (·.tEntry)) 4 (x.fZone.fEntries.map (TEntry.row o)), .l (o.map (·.tInt)) 1 (rowsI x.fHeld)]
def TSaid.fit (x : TSaid) : Prop := TZone.fit x.fZone ∧ fitL (inI) x.fHeld
def TSaid.wt (x : TSaid) : Nat := TZone.wt x.fZone + x.fHeld.length
structure TWorld where
  fNow : Int
  fActors : List TActor
  fZones : List TZone
  fSaid : List TSaid
  fServers : List TServer
  fKnown : TKnown
  fCache : TCache
noncomputable instance : DecidableEq TWorld := fun _ _ => Classical.propDecidable _
instance : Inhabited TWorld := ⟨⟨0, [], [], [], [], default, default⟩⟩
def TWorld.row (o : Option Tys) (x : TWorld) : List C := [.v (.int .i64 x.fNow), .l (o.map (·.tActor)) 1 (x.fActors.map (TActor.row o)), .l (o.map (·.tZone)) 2 (x.fZones.map (TZone.row o)), .l (o.map (·.tSaid)) 3 (x.fSaid.map (TSaid.row o)), .l (o.map (·.tServer)) 2 (x.fServers.map (TServer.row o)), .l (o.map (·.tSignedS)) 1 (x.fKnown.fChains.map (rowLSignedS o)), .l (o.map (·.tFork)) 51 (x.fKnown.fForks.map (TFork.row o)), .l (o.map (·.tStored)) 23 (x.fCache.fList.map (TStored.row o))]
def TWorld.fit (x : TWorld) : Prop := inI x.fNow ∧ fitL (TActor.fit) x.fActors ∧ fitL (TZone.fit) x.fZones ∧ fitL (TSaid.fit) x.fSaid ∧ fitL (TServer.fit) x.fServers ∧ TKnown.fit x.fKnown ∧ TCache.fit x.fCache
def TWorld.wt (x : TWorld) : Nat := wtL TActor.wt x.fActors + wtL TZone.wt x.fZones + wtL TSaid.wt x.fSaid + wtL TServer.wt x.fServers + TKnown.wt x.fKnown + TCache.wt x.fCache

theorem map_getD {α β : Type} [Inhabited α] (f : α → β) (l : List α) {i : Nat} (h : i < l.length) (d : β) : (l.map f).getD i d = f (l.getD i default) := by
  simp [List.getD_eq_getElem?_getD, h]
theorem rowsI_length (xs : List Int) : (rowsI xs).length = xs.length := by simp [rowsI]
theorem rowsI_frz (xs : List Int) : frzRs (rowsI xs) = rowsI xs := by
  simp [frzRs_map, rowsI, frzR, C.frz]
theorem rowsI_own (xs : List Int) : rowsOwn (rowsI xs) = false := by
  induction xs with
  | nil => rfl
  | cons t r ih => simpa [rowsI, rowsOwn, rowOwn, C.own] using ih
theorem rowsI_app (a b : List Int) : rowsI a ++ rowsI b = rowsI (a ++ b) := by simp [rowsI]
theorem rowsI_at (xs : List Int) {i : Nat} (h : i < xs.length) : (rowsI xs).getD i [] = [.v (.int .i64 (xs.getD i 0))] := by
  simp [rowsI, List.getD_eq_getElem?_getD, h]
theorem rowsI_rep (n : Nat) : List.replicate n [C.v (.int .i64 0)] = rowsI (List.replicate n 0) := by simp [rowsI]
theorem rowsI_set (xs : List Int) (i : Nat) (x : Int) : (rowsI xs).set i [.v (.int .i64 x)] = rowsI (xs.set i x) := by simp [rowsI, List.map_set]
theorem noImm_rowsI (xs : List Int) : noImmRs (rowsI xs) := by
  induction xs with
  | nil => trivial
  | cons t r ih => exact ⟨⟨trivial, trivial⟩, ih⟩
theorem frzRs_of {α : Type} {f g : α → List C} (h : ∀ x, frzR (f x) = g x) (l : List α) : frzRs (l.map f) = l.map g := by
  rw [frzRs_map, List.map_map]; exact List.map_congr_left fun x _ => h x
theorem rowsOwn_of {α : Type} {f : α → List C} (h : ∀ x, rowOwn (f x) = false) (l : List α) : rowsOwn (l.map f) = false := by
  induction l with
  | nil => rfl
  | cons x r ih => simp only [List.map_cons, rowsOwn, h, ih, Bool.or_self]
theorem noImm_of {α : Type} {f : α → List C} (h : ∀ x, noImmR (f x)) (l : List α) : noImmRs (l.map f) := by
  induction l with
  | nil => trivial
  | cons x r ih => exact ⟨h x, ih⟩
theorem sum_le {α : Type} (f : α → Nat) {l : List α} {x : α} (h : x ∈ l) : f x ≤ (l.map f).sum := by
  induction l with
  | nil => cases h
  | cons y r ih =>
    simp only [List.map_cons, List.sum_cons]
    rcases List.mem_cons.1 h with rfl | h
    · omega
    · have := ih h; omega
theorem getD_mem {α : Type} {l : List α} {i : Nat} (h : i < l.length) (d : α) : l.getD i d ∈ l := by
  have : l.getD i d = l[i] := by simp [List.getD_eq_getElem?_getD, h]
  rw [this]; exact List.getElem_mem _
theorem wtL_at {α : Type} {f : α → Nat} {l : List α} {i : Nat} (h : i < l.length) (d : α) : f (l.getD i d) + l.length ≤ wtL f l := by
  have := sum_le f (getD_mem h d)
  unfold wtL; omega
theorem wtL_len {α : Type} {f : α → Nat} {l : List α} : l.length ≤ wtL f l := by unfold wtL; omega
theorem fitL_at {α : Type} {f : α → Prop} {l : List α} (h : fitL f l) {i : Nat} (hi : i < l.length) (d : α) : f (l.getD i d) := h.2 _ (getD_mem hi d)

theorem TKeys_len (o : Option Tys) (x : TKeys) : (TKeys.row o x).length = 2 := rfl
theorem TKeys_at0 (o : Option Tys) (x : TKeys) : (TKeys.row o x)[0]? = some (.l (o.map (·.tInt)) 1 (rowsI x.fList)) := rfl
theorem TKeys_get0 (o : Option Tys) (x : TKeys) : (TKeys.row o x).getD 0 .gone = .l (o.map (·.tInt)) 1 (rowsI x.fList) := rfl
theorem TKeys_at1 (o : Option Tys) (x : TKeys) : (TKeys.row o x)[1]? = some (.v (.int .i64 x.fNeed)) := rfl
theorem TKeys_get1 (o : Option Tys) (x : TKeys) : (TKeys.row o x).getD 1 .gone = .v (.int .i64 x.fNeed) := rfl
theorem TKeys_drop (o : Option Tys) (x : TKeys) : (TKeys.row o x).drop 2 = [] := rfl
theorem TKeys_full (o : Option Tys) (x : TKeys) : (TKeys.row o x).take 2 = TKeys.row o x := rfl
theorem TKeys_frz (o : Option Tys) (x : TKeys) : frzR (TKeys.row o x) = TKeys.row none x := by simp only [TKeys.row, frzR, C.frz, Option.map_none, rowsI_frz]
theorem TKeys_own (x : TKeys) : rowOwn (TKeys.row none x) = false := rfl
theorem TKeys_owns (t : Tys) (x : TKeys) : rowOwn (TKeys.row (some t) x) = true := rfl
theorem TKeys_noImm (t : Tys) (x : TKeys) : noImmR (TKeys.row (some t) x) := ⟨noImm_rowsI _, trivial, trivial⟩
theorem TSig_len (o : Option Tys) (x : TSig) : (TSig.row o x).length = 2 := rfl
theorem TSig_at0 (o : Option Tys) (x : TSig) : (TSig.row o x)[0]? = some (.v (.int .i64 x.fKey)) := rfl
theorem TSig_get0 (o : Option Tys) (x : TSig) : (TSig.row o x).getD 0 .gone = .v (.int .i64 x.fKey) := rfl
theorem TSig_at1 (o : Option Tys) (x : TSig) : (TSig.row o x)[1]? = some (.v (.int .i64 x.fTag)) := rfl
theorem TSig_get1 (o : Option Tys) (x : TSig) : (TSig.row o x).getD 1 .gone = .v (.int .i64 x.fTag) := rfl
theorem TSig_drop (o : Option Tys) (x : TSig) : (TSig.row o x).drop 2 = [] := rfl
theorem TSig_full (o : Option Tys) (x : TSig) : (TSig.row o x).take 2 = TSig.row o x := rfl
theorem TSig_frz (o : Option Tys) (x : TSig) : frzR (TSig.row o x) = TSig.row none x := by simp only [TSig.row, frzR, C.frz]
theorem TSig_own (x : TSig) : rowOwn (TSig.row none x) = false := rfl
theorem TSig_owno (t : Tys) (x : TSig) : rowOwn (TSig.row (some t) x) = false := rfl
theorem TSig_noImm (t : Tys) (x : TSig) : noImmR (TSig.row (some t) x) := ⟨trivial, trivial, trivial⟩
theorem TEntry_len (o : Option Tys) (x : TEntry) : (TEntry.row o x).length = 4 := rfl
theorem TEntry_at0 (o : Option Tys) (x : TEntry) : (TEntry.row o x)[0]? = some (.v (.string (bs x.fLabel))) := rfl
theorem TEntry_get0 (o : Option Tys) (x : TEntry) : (TEntry.row o x).getD 0 .gone = .v (.string (bs x.fLabel)) := rfl
theorem TEntry_at1 (o : Option Tys) (x : TEntry) : (TEntry.row o x)[1]? = some (.v (.int .i64 x.fKind)) := rfl
theorem TEntry_get1 (o : Option Tys) (x : TEntry) : (TEntry.row o x).getD 1 .gone = .v (.int .i64 x.fKind) := rfl
theorem TEntry_at2 (o : Option Tys) (x : TEntry) : (TEntry.row o x)[2]? = some (.v (.int .i64 x.fValue)) := rfl
theorem TEntry_get2 (o : Option Tys) (x : TEntry) : (TEntry.row o x).getD 2 .gone = .v (.int .i64 x.fValue) := rfl
theorem TEntry_at3 (o : Option Tys) (x : TEntry) : (TEntry.row o x)[3]? = some (.l (o.map (·.tString)) 1 (rowsS x.fPath)) := rfl
theorem TEntry_get3 (o : Option Tys) (x : TEntry) : (TEntry.row o x).getD 3 .gone = .l (o.map (·.tString)) 1 (rowsS x.fPath) := rfl
theorem TEntry_drop (o : Option Tys) (x : TEntry) : (TEntry.row o x).drop 4 = [] := rfl
theorem TEntry_full (o : Option Tys) (x : TEntry) : (TEntry.row o x).take 4 = TEntry.row o x := rfl
theorem TEntry_frz (o : Option Tys) (x : TEntry) : frzR (TEntry.row o x) = TEntry.row none x := by simp only [TEntry.row, frzR, C.frz, Option.map_none, rowsS_frz]
theorem TEntry_own (x : TEntry) : rowOwn (TEntry.row none x) = false := rfl
theorem TEntry_owns (t : Tys) (x : TEntry) : rowOwn (TEntry.row (some t) x) = true := rfl
theorem TEntry_noImm (t : Tys) (x : TEntry) : noImmR (TEntry.row (some t) x) := ⟨trivial, trivial, trivial, noImm_rowsS _, trivial⟩
theorem TProof_len (o : Option Tys) (x : TProof) : (TProof.row o x).length = 2 := rfl
theorem TProof_at0 (o : Option Tys) (x : TProof) : (TProof.row o x)[0]? = some (.v (.int .i64 x.fAt)) := rfl
theorem TProof_get0 (o : Option Tys) (x : TProof) : (TProof.row o x).getD 0 .gone = .v (.int .i64 x.fAt) := rfl
theorem TProof_at1 (o : Option Tys) (x : TProof) : (TProof.row o x)[1]? = some (.l (o.map (·.tInt)) 1 (rowsI x.fPath)) := rfl
theorem TProof_get1 (o : Option Tys) (x : TProof) : (TProof.row o x).getD 1 .gone = .l (o.map (·.tInt)) 1 (rowsI x.fPath) := rfl
theorem TProof_drop (o : Option Tys) (x : TProof) : (TProof.row o x).drop 2 = [] := rfl
theorem TProof_full (o : Option Tys) (x : TProof) : (TProof.row o x).take 2 = TProof.row o x := rfl
theorem TProof_frz (o : Option Tys) (x : TProof) : frzR (TProof.row o x) = TProof.row none x := by simp only [TProof.row, frzR, C.frz, Option.map_none, rowsI_frz]
theorem TProof_own (x : TProof) : rowOwn (TProof.row none x) = false := rfl
theorem TProof_owns (t : Tys) (x : TProof) : rowOwn (TProof.row (some t) x) = true := rfl
theorem TProof_noImm (t : Tys) (x : TProof) : noImmR (TProof.row (some t) x) := ⟨trivial, noImm_rowsI _, trivial⟩
theorem TGap_len (o : Option Tys) (x : TGap) : (TGap.row o x).length = 13 := rfl
theorem TGap_at0 (o : Option Tys) (x : TGap) : (TGap.row o x)[0]? = some (.v (.int .i64 x.fAt)) := rfl
theorem TGap_get0 (o : Option Tys) (x : TGap) : (TGap.row o x).getD 0 .gone = .v (.int .i64 x.fAt) := rfl
theorem TGap_sub1_Entry (o : Option Tys) (x : TGap) : ((TGap.row o x).drop 1).take 4 = TEntry.row o x.fBefore := rfl
theorem TGap_at1 (o : Option Tys) (x : TGap) : (TGap.row o x)[1]? = some (.v (.string (bs x.fBefore.fLabel))) := rfl
theorem TGap_get1 (o : Option Tys) (x : TGap) : (TGap.row o x).getD 1 .gone = .v (.string (bs x.fBefore.fLabel)) := rfl
theorem TGap_at2 (o : Option Tys) (x : TGap) : (TGap.row o x)[2]? = some (.v (.int .i64 x.fBefore.fKind)) := rfl
theorem TGap_get2 (o : Option Tys) (x : TGap) : (TGap.row o x).getD 2 .gone = .v (.int .i64 x.fBefore.fKind) := rfl
theorem TGap_at3 (o : Option Tys) (x : TGap) : (TGap.row o x)[3]? = some (.v (.int .i64 x.fBefore.fValue)) := rfl
theorem TGap_get3 (o : Option Tys) (x : TGap) : (TGap.row o x).getD 3 .gone = .v (.int .i64 x.fBefore.fValue) := rfl
theorem TGap_at4 (o : Option Tys) (x : TGap) : (TGap.row o x)[4]? = some (.l (o.map (·.tString)) 1 (rowsS x.fBefore.fPath)) := rfl
theorem TGap_get4 (o : Option Tys) (x : TGap) : (TGap.row o x).getD 4 .gone = .l (o.map (·.tString)) 1 (rowsS x.fBefore.fPath) := rfl
theorem TGap_sub5_Entry (o : Option Tys) (x : TGap) : ((TGap.row o x).drop 5).take 4 = TEntry.row o x.fAfter := rfl
theorem TGap_at5 (o : Option Tys) (x : TGap) : (TGap.row o x)[5]? = some (.v (.string (bs x.fAfter.fLabel))) := rfl
theorem TGap_get5 (o : Option Tys) (x : TGap) : (TGap.row o x).getD 5 .gone = .v (.string (bs x.fAfter.fLabel)) := rfl
theorem TGap_at6 (o : Option Tys) (x : TGap) : (TGap.row o x)[6]? = some (.v (.int .i64 x.fAfter.fKind)) := rfl
theorem TGap_get6 (o : Option Tys) (x : TGap) : (TGap.row o x).getD 6 .gone = .v (.int .i64 x.fAfter.fKind) := rfl
theorem TGap_at7 (o : Option Tys) (x : TGap) : (TGap.row o x)[7]? = some (.v (.int .i64 x.fAfter.fValue)) := rfl
theorem TGap_get7 (o : Option Tys) (x : TGap) : (TGap.row o x).getD 7 .gone = .v (.int .i64 x.fAfter.fValue) := rfl
theorem TGap_at8 (o : Option Tys) (x : TGap) : (TGap.row o x)[8]? = some (.l (o.map (·.tString)) 1 (rowsS x.fAfter.fPath)) := rfl
theorem TGap_get8 (o : Option Tys) (x : TGap) : (TGap.row o x).getD 8 .gone = .l (o.map (·.tString)) 1 (rowsS x.fAfter.fPath) := rfl
theorem TGap_sub9_Proof (o : Option Tys) (x : TGap) : ((TGap.row o x).drop 9).take 2 = TProof.row o x.fLeft := rfl
theorem TGap_at9 (o : Option Tys) (x : TGap) : (TGap.row o x)[9]? = some (.v (.int .i64 x.fLeft.fAt)) := rfl
theorem TGap_get9 (o : Option Tys) (x : TGap) : (TGap.row o x).getD 9 .gone = .v (.int .i64 x.fLeft.fAt) := rfl
theorem TGap_at10 (o : Option Tys) (x : TGap) : (TGap.row o x)[10]? = some (.l (o.map (·.tInt)) 1 (rowsI x.fLeft.fPath)) := rfl
theorem TGap_get10 (o : Option Tys) (x : TGap) : (TGap.row o x).getD 10 .gone = .l (o.map (·.tInt)) 1 (rowsI x.fLeft.fPath) := rfl
theorem TGap_sub11_Proof (o : Option Tys) (x : TGap) : ((TGap.row o x).drop 11).take 2 = TProof.row o x.fRight := rfl
theorem TGap_at11 (o : Option Tys) (x : TGap) : (TGap.row o x)[11]? = some (.v (.int .i64 x.fRight.fAt)) := rfl
theorem TGap_get11 (o : Option Tys) (x : TGap) : (TGap.row o x).getD 11 .gone = .v (.int .i64 x.fRight.fAt) := rfl
theorem TGap_at12 (o : Option Tys) (x : TGap) : (TGap.row o x)[12]? = some (.l (o.map (·.tInt)) 1 (rowsI x.fRight.fPath)) := rfl
theorem TGap_get12 (o : Option Tys) (x : TGap) : (TGap.row o x).getD 12 .gone = .l (o.map (·.tInt)) 1 (rowsI x.fRight.fPath) := rfl
theorem TGap_drop (o : Option Tys) (x : TGap) : (TGap.row o x).drop 13 = [] := rfl
theorem TGap_full (o : Option Tys) (x : TGap) : (TGap.row o x).take 13 = TGap.row o x := rfl
theorem TGap_frz (o : Option Tys) (x : TGap) : frzR (TGap.row o x) = TGap.row none x := by simp only [TGap.row, frzR, C.frz, Option.map_none, rowsI_frz, rowsS_frz]
theorem TGap_own (x : TGap) : rowOwn (TGap.row none x) = false := rfl
theorem TGap_owns (t : Tys) (x : TGap) : rowOwn (TGap.row (some t) x) = true := rfl
theorem TGap_noImm (t : Tys) (x : TGap) : noImmR (TGap.row (some t) x) := ⟨trivial, trivial, trivial, trivial, noImm_rowsS _, trivial, trivial, trivial, noImm_rowsS _, trivial, noImm_rowsI _, trivial, noImm_rowsI _, trivial⟩
theorem THead_len (o : Option Tys) (x : THead) : (THead.row o x).length = 16 := rfl
theorem THead_at0 (o : Option Tys) (x : THead) : (THead.row o x)[0]? = some (.v (.int .i64 x.fZone)) := rfl
theorem THead_get0 (o : Option Tys) (x : THead) : (THead.row o x).getD 0 .gone = .v (.int .i64 x.fZone) := rfl
theorem THead_at1 (o : Option Tys) (x : THead) : (THead.row o x)[1]? = some (.v (.int .i64 x.fEpoch)) := rfl
theorem THead_get1 (o : Option Tys) (x : THead) : (THead.row o x).getD 1 .gone = .v (.int .i64 x.fEpoch) := rfl
theorem THead_at2 (o : Option Tys) (x : THead) : (THead.row o x)[2]? = some (.v (.int .i64 x.fKind)) := rfl
theorem THead_get2 (o : Option Tys) (x : THead) : (THead.row o x).getD 2 .gone = .v (.int .i64 x.fKind) := rfl
theorem THead_at3 (o : Option Tys) (x : THead) : (THead.row o x)[3]? = some (.v (.int .i64 x.fTime)) := rfl
theorem THead_get3 (o : Option Tys) (x : THead) : (THead.row o x).getD 3 .gone = .v (.int .i64 x.fTime) := rfl
theorem THead_at4 (o : Option Tys) (x : THead) : (THead.row o x)[4]? = some (.v (.int .i64 x.fUntil)) := rfl
theorem THead_get4 (o : Option Tys) (x : THead) : (THead.row o x).getD 4 .gone = .v (.int .i64 x.fUntil) := rfl
theorem THead_at5 (o : Option Tys) (x : THead) : (THead.row o x)[5]? = some (.v (.int .i64 x.fCount)) := rfl
theorem THead_get5 (o : Option Tys) (x : THead) : (THead.row o x).getD 5 .gone = .v (.int .i64 x.fCount) := rfl
theorem THead_at6 (o : Option Tys) (x : THead) : (THead.row o x)[6]? = some (.v (.int .i64 x.fRoot)) := rfl
theorem THead_get6 (o : Option Tys) (x : THead) : (THead.row o x).getD 6 .gone = .v (.int .i64 x.fRoot) := rfl
theorem THead_at7 (o : Option Tys) (x : THead) : (THead.row o x)[7]? = some (.v (.int .i64 x.fPrev)) := rfl
theorem THead_get7 (o : Option Tys) (x : THead) : (THead.row o x).getD 7 .gone = .v (.int .i64 x.fPrev) := rfl
theorem THead_sub8_Keys (o : Option Tys) (x : THead) : ((THead.row o x).drop 8).take 2 = TKeys.row o x.fKeys := rfl
theorem THead_at8 (o : Option Tys) (x : THead) : (THead.row o x)[8]? = some (.l (o.map (·.tInt)) 1 (rowsI x.fKeys.fList)) := rfl
theorem THead_get8 (o : Option Tys) (x : THead) : (THead.row o x).getD 8 .gone = .l (o.map (·.tInt)) 1 (rowsI x.fKeys.fList) := rfl
theorem THead_at9 (o : Option Tys) (x : THead) : (THead.row o x)[9]? = some (.v (.int .i64 x.fKeys.fNeed)) := rfl
theorem THead_get9 (o : Option Tys) (x : THead) : (THead.row o x).getD 9 .gone = .v (.int .i64 x.fKeys.fNeed) := rfl
theorem THead_sub10_Keys (o : Option Tys) (x : THead) : ((THead.row o x).drop 10).take 2 = TKeys.row o x.fHeirs := rfl
theorem THead_at10 (o : Option Tys) (x : THead) : (THead.row o x)[10]? = some (.l (o.map (·.tInt)) 1 (rowsI x.fHeirs.fList)) := rfl
theorem THead_get10 (o : Option Tys) (x : THead) : (THead.row o x).getD 10 .gone = .l (o.map (·.tInt)) 1 (rowsI x.fHeirs.fList) := rfl
theorem THead_at11 (o : Option Tys) (x : THead) : (THead.row o x)[11]? = some (.v (.int .i64 x.fHeirs.fNeed)) := rfl
theorem THead_get11 (o : Option Tys) (x : THead) : (THead.row o x).getD 11 .gone = .v (.int .i64 x.fHeirs.fNeed) := rfl
theorem THead_at12 (o : Option Tys) (x : THead) : (THead.row o x)[12]? = some (.v (.int .i64 x.fWait)) := rfl
theorem THead_get12 (o : Option Tys) (x : THead) : (THead.row o x).getD 12 .gone = .v (.int .i64 x.fWait) := rfl
theorem THead_sub13_Keys (o : Option Tys) (x : THead) : ((THead.row o x).drop 13).take 2 = TKeys.row o x.fJudge := rfl
theorem THead_at13 (o : Option Tys) (x : THead) : (THead.row o x)[13]? = some (.l (o.map (·.tInt)) 1 (rowsI x.fJudge.fList)) := rfl
theorem THead_get13 (o : Option Tys) (x : THead) : (THead.row o x).getD 13 .gone = .l (o.map (·.tInt)) 1 (rowsI x.fJudge.fList) := rfl
theorem THead_at14 (o : Option Tys) (x : THead) : (THead.row o x)[14]? = some (.v (.int .i64 x.fJudge.fNeed)) := rfl
theorem THead_get14 (o : Option Tys) (x : THead) : (THead.row o x).getD 14 .gone = .v (.int .i64 x.fJudge.fNeed) := rfl
theorem THead_at15 (o : Option Tys) (x : THead) : (THead.row o x)[15]? = some (.v (.bool x.fFrozen)) := rfl
theorem THead_get15 (o : Option Tys) (x : THead) : (THead.row o x).getD 15 .gone = .v (.bool x.fFrozen) := rfl
theorem THead_drop (o : Option Tys) (x : THead) : (THead.row o x).drop 16 = [] := rfl
theorem THead_full (o : Option Tys) (x : THead) : (THead.row o x).take 16 = THead.row o x := rfl
theorem THead_frz (o : Option Tys) (x : THead) : frzR (THead.row o x) = THead.row none x := by simp only [THead.row, frzR, C.frz, Option.map_none, rowsI_frz]
theorem THead_own (x : THead) : rowOwn (THead.row none x) = false := rfl
theorem THead_owns (t : Tys) (x : THead) : rowOwn (THead.row (some t) x) = true := rfl
theorem THead_noImm (t : Tys) (x : THead) : noImmR (THead.row (some t) x) := ⟨trivial, trivial, trivial, trivial, trivial, trivial, trivial, trivial, noImm_rowsI _, trivial, noImm_rowsI _, trivial, trivial, noImm_rowsI _, trivial, trivial, trivial⟩
theorem TSigned_len (o : Option Tys) (x : TSigned) : (TSigned.row o x).length = 17 := rfl
theorem TSigned_sub0_Head (o : Option Tys) (x : TSigned) : (TSigned.row o x).take 16 = THead.row o x.fHead := rfl
theorem TSigned_at0 (o : Option Tys) (x : TSigned) : (TSigned.row o x)[0]? = some (.v (.int .i64 x.fHead.fZone)) := rfl
theorem TSigned_get0 (o : Option Tys) (x : TSigned) : (TSigned.row o x).getD 0 .gone = .v (.int .i64 x.fHead.fZone) := rfl
theorem TSigned_at1 (o : Option Tys) (x : TSigned) : (TSigned.row o x)[1]? = some (.v (.int .i64 x.fHead.fEpoch)) := rfl
theorem TSigned_get1 (o : Option Tys) (x : TSigned) : (TSigned.row o x).getD 1 .gone = .v (.int .i64 x.fHead.fEpoch) := rfl
theorem TSigned_at2 (o : Option Tys) (x : TSigned) : (TSigned.row o x)[2]? = some (.v (.int .i64 x.fHead.fKind)) := rfl
theorem TSigned_get2 (o : Option Tys) (x : TSigned) : (TSigned.row o x).getD 2 .gone = .v (.int .i64 x.fHead.fKind) := rfl
theorem TSigned_at3 (o : Option Tys) (x : TSigned) : (TSigned.row o x)[3]? = some (.v (.int .i64 x.fHead.fTime)) := rfl
theorem TSigned_get3 (o : Option Tys) (x : TSigned) : (TSigned.row o x).getD 3 .gone = .v (.int .i64 x.fHead.fTime) := rfl
theorem TSigned_at4 (o : Option Tys) (x : TSigned) : (TSigned.row o x)[4]? = some (.v (.int .i64 x.fHead.fUntil)) := rfl
theorem TSigned_get4 (o : Option Tys) (x : TSigned) : (TSigned.row o x).getD 4 .gone = .v (.int .i64 x.fHead.fUntil) := rfl
theorem TSigned_at5 (o : Option Tys) (x : TSigned) : (TSigned.row o x)[5]? = some (.v (.int .i64 x.fHead.fCount)) := rfl
theorem TSigned_get5 (o : Option Tys) (x : TSigned) : (TSigned.row o x).getD 5 .gone = .v (.int .i64 x.fHead.fCount) := rfl
theorem TSigned_at6 (o : Option Tys) (x : TSigned) : (TSigned.row o x)[6]? = some (.v (.int .i64 x.fHead.fRoot)) := rfl
theorem TSigned_get6 (o : Option Tys) (x : TSigned) : (TSigned.row o x).getD 6 .gone = .v (.int .i64 x.fHead.fRoot) := rfl
theorem TSigned_at7 (o : Option Tys) (x : TSigned) : (TSigned.row o x)[7]? = some (.v (.int .i64 x.fHead.fPrev)) := rfl
theorem TSigned_get7 (o : Option Tys) (x : TSigned) : (TSigned.row o x).getD 7 .gone = .v (.int .i64 x.fHead.fPrev) := rfl
theorem TSigned_sub8_Keys (o : Option Tys) (x : TSigned) : ((TSigned.row o x).drop 8).take 2 = TKeys.row o x.fHead.fKeys := rfl
theorem TSigned_at8 (o : Option Tys) (x : TSigned) : (TSigned.row o x)[8]? = some (.l (o.map (·.tInt)) 1 (rowsI x.fHead.fKeys.fList)) := rfl
theorem TSigned_get8 (o : Option Tys) (x : TSigned) : (TSigned.row o x).getD 8 .gone = .l (o.map (·.tInt)) 1 (rowsI x.fHead.fKeys.fList) := rfl
theorem TSigned_at9 (o : Option Tys) (x : TSigned) : (TSigned.row o x)[9]? = some (.v (.int .i64 x.fHead.fKeys.fNeed)) := rfl
theorem TSigned_get9 (o : Option Tys) (x : TSigned) : (TSigned.row o x).getD 9 .gone = .v (.int .i64 x.fHead.fKeys.fNeed) := rfl
theorem TSigned_sub10_Keys (o : Option Tys) (x : TSigned) : ((TSigned.row o x).drop 10).take 2 = TKeys.row o x.fHead.fHeirs := rfl
theorem TSigned_at10 (o : Option Tys) (x : TSigned) : (TSigned.row o x)[10]? = some (.l (o.map (·.tInt)) 1 (rowsI x.fHead.fHeirs.fList)) := rfl
theorem TSigned_get10 (o : Option Tys) (x : TSigned) : (TSigned.row o x).getD 10 .gone = .l (o.map (·.tInt)) 1 (rowsI x.fHead.fHeirs.fList) := rfl
theorem TSigned_at11 (o : Option Tys) (x : TSigned) : (TSigned.row o x)[11]? = some (.v (.int .i64 x.fHead.fHeirs.fNeed)) := rfl
theorem TSigned_get11 (o : Option Tys) (x : TSigned) : (TSigned.row o x).getD 11 .gone = .v (.int .i64 x.fHead.fHeirs.fNeed) := rfl
theorem TSigned_at12 (o : Option Tys) (x : TSigned) : (TSigned.row o x)[12]? = some (.v (.int .i64 x.fHead.fWait)) := rfl
theorem TSigned_get12 (o : Option Tys) (x : TSigned) : (TSigned.row o x).getD 12 .gone = .v (.int .i64 x.fHead.fWait) := rfl
theorem TSigned_sub13_Keys (o : Option Tys) (x : TSigned) : ((TSigned.row o x).drop 13).take 2 = TKeys.row o x.fHead.fJudge := rfl
theorem TSigned_at13 (o : Option Tys) (x : TSigned) : (TSigned.row o x)[13]? = some (.l (o.map (·.tInt)) 1 (rowsI x.fHead.fJudge.fList)) := rfl
theorem TSigned_get13 (o : Option Tys) (x : TSigned) : (TSigned.row o x).getD 13 .gone = .l (o.map (·.tInt)) 1 (rowsI x.fHead.fJudge.fList) := rfl
theorem TSigned_at14 (o : Option Tys) (x : TSigned) : (TSigned.row o x)[14]? = some (.v (.int .i64 x.fHead.fJudge.fNeed)) := rfl
theorem TSigned_get14 (o : Option Tys) (x : TSigned) : (TSigned.row o x).getD 14 .gone = .v (.int .i64 x.fHead.fJudge.fNeed) := rfl
theorem TSigned_at15 (o : Option Tys) (x : TSigned) : (TSigned.row o x)[15]? = some (.v (.bool x.fHead.fFrozen)) := rfl
theorem TSigned_get15 (o : Option Tys) (x : TSigned) : (TSigned.row o x).getD 15 .gone = .v (.bool x.fHead.fFrozen) := rfl
theorem TSigned_at16 (o : Option Tys) (x : TSigned) : (TSigned.row o x)[16]? = some (.l (o.map (·.tSig)) 2 (x.fSigs.map (TSig.row o))) := rfl
theorem TSigned_get16 (o : Option Tys) (x : TSigned) : (TSigned.row o x).getD 16 .gone = .l (o.map (·.tSig)) 2 (x.fSigs.map (TSig.row o)) := rfl
theorem TSigned_drop (o : Option Tys) (x : TSigned) : (TSigned.row o x).drop 17 = [] := rfl
theorem TSigned_full (o : Option Tys) (x : TSigned) : (TSigned.row o x).take 17 = TSigned.row o x := rfl
theorem TSigned_frz (o : Option Tys) (x : TSigned) : frzR (TSigned.row o x) = TSigned.row none x := by simp only [TSigned.row, frzR, C.frz, Option.map_none, frzRs_of (TSig_frz o), rowsI_frz]
theorem TSigned_own (x : TSigned) : rowOwn (TSigned.row none x) = false := rfl
theorem TSigned_owns (t : Tys) (x : TSigned) : rowOwn (TSigned.row (some t) x) = true := rfl
theorem TSigned_noImm (t : Tys) (x : TSigned) : noImmR (TSigned.row (some t) x) := ⟨trivial, trivial, trivial, trivial, trivial, trivial, trivial, trivial, noImm_rowsI _, trivial, noImm_rowsI _, trivial, trivial, noImm_rowsI _, trivial, trivial, noImm_of (TSig_noImm t) _, trivial⟩
theorem TFork_len (o : Option Tys) (x : TFork) : (TFork.row o x).length = 51 := rfl
theorem TFork_sub0_Signed (o : Option Tys) (x : TFork) : (TFork.row o x).take 17 = TSigned.row o x.fBefore := rfl
theorem TFork_sub0_Head (o : Option Tys) (x : TFork) : (TFork.row o x).take 16 = THead.row o x.fBefore.fHead := rfl
theorem TFork_at0 (o : Option Tys) (x : TFork) : (TFork.row o x)[0]? = some (.v (.int .i64 x.fBefore.fHead.fZone)) := rfl
theorem TFork_get0 (o : Option Tys) (x : TFork) : (TFork.row o x).getD 0 .gone = .v (.int .i64 x.fBefore.fHead.fZone) := rfl
theorem TFork_at1 (o : Option Tys) (x : TFork) : (TFork.row o x)[1]? = some (.v (.int .i64 x.fBefore.fHead.fEpoch)) := rfl
theorem TFork_get1 (o : Option Tys) (x : TFork) : (TFork.row o x).getD 1 .gone = .v (.int .i64 x.fBefore.fHead.fEpoch) := rfl
theorem TFork_at2 (o : Option Tys) (x : TFork) : (TFork.row o x)[2]? = some (.v (.int .i64 x.fBefore.fHead.fKind)) := rfl
theorem TFork_get2 (o : Option Tys) (x : TFork) : (TFork.row o x).getD 2 .gone = .v (.int .i64 x.fBefore.fHead.fKind) := rfl
theorem TFork_at3 (o : Option Tys) (x : TFork) : (TFork.row o x)[3]? = some (.v (.int .i64 x.fBefore.fHead.fTime)) := rfl
theorem TFork_get3 (o : Option Tys) (x : TFork) : (TFork.row o x).getD 3 .gone = .v (.int .i64 x.fBefore.fHead.fTime) := rfl
theorem TFork_at4 (o : Option Tys) (x : TFork) : (TFork.row o x)[4]? = some (.v (.int .i64 x.fBefore.fHead.fUntil)) := rfl
theorem TFork_get4 (o : Option Tys) (x : TFork) : (TFork.row o x).getD 4 .gone = .v (.int .i64 x.fBefore.fHead.fUntil) := rfl
theorem TFork_at5 (o : Option Tys) (x : TFork) : (TFork.row o x)[5]? = some (.v (.int .i64 x.fBefore.fHead.fCount)) := rfl
theorem TFork_get5 (o : Option Tys) (x : TFork) : (TFork.row o x).getD 5 .gone = .v (.int .i64 x.fBefore.fHead.fCount) := rfl
theorem TFork_at6 (o : Option Tys) (x : TFork) : (TFork.row o x)[6]? = some (.v (.int .i64 x.fBefore.fHead.fRoot)) := rfl
theorem TFork_get6 (o : Option Tys) (x : TFork) : (TFork.row o x).getD 6 .gone = .v (.int .i64 x.fBefore.fHead.fRoot) := rfl
theorem TFork_at7 (o : Option Tys) (x : TFork) : (TFork.row o x)[7]? = some (.v (.int .i64 x.fBefore.fHead.fPrev)) := rfl
theorem TFork_get7 (o : Option Tys) (x : TFork) : (TFork.row o x).getD 7 .gone = .v (.int .i64 x.fBefore.fHead.fPrev) := rfl
theorem TFork_sub8_Keys (o : Option Tys) (x : TFork) : ((TFork.row o x).drop 8).take 2 = TKeys.row o x.fBefore.fHead.fKeys := rfl
theorem TFork_at8 (o : Option Tys) (x : TFork) : (TFork.row o x)[8]? = some (.l (o.map (·.tInt)) 1 (rowsI x.fBefore.fHead.fKeys.fList)) := rfl
theorem TFork_get8 (o : Option Tys) (x : TFork) : (TFork.row o x).getD 8 .gone = .l (o.map (·.tInt)) 1 (rowsI x.fBefore.fHead.fKeys.fList) := rfl
theorem TFork_at9 (o : Option Tys) (x : TFork) : (TFork.row o x)[9]? = some (.v (.int .i64 x.fBefore.fHead.fKeys.fNeed)) := rfl
theorem TFork_get9 (o : Option Tys) (x : TFork) : (TFork.row o x).getD 9 .gone = .v (.int .i64 x.fBefore.fHead.fKeys.fNeed) := rfl
theorem TFork_sub10_Keys (o : Option Tys) (x : TFork) : ((TFork.row o x).drop 10).take 2 = TKeys.row o x.fBefore.fHead.fHeirs := rfl
theorem TFork_at10 (o : Option Tys) (x : TFork) : (TFork.row o x)[10]? = some (.l (o.map (·.tInt)) 1 (rowsI x.fBefore.fHead.fHeirs.fList)) := rfl
theorem TFork_get10 (o : Option Tys) (x : TFork) : (TFork.row o x).getD 10 .gone = .l (o.map (·.tInt)) 1 (rowsI x.fBefore.fHead.fHeirs.fList) := rfl
theorem TFork_at11 (o : Option Tys) (x : TFork) : (TFork.row o x)[11]? = some (.v (.int .i64 x.fBefore.fHead.fHeirs.fNeed)) := rfl
theorem TFork_get11 (o : Option Tys) (x : TFork) : (TFork.row o x).getD 11 .gone = .v (.int .i64 x.fBefore.fHead.fHeirs.fNeed) := rfl
theorem TFork_at12 (o : Option Tys) (x : TFork) : (TFork.row o x)[12]? = some (.v (.int .i64 x.fBefore.fHead.fWait)) := rfl
theorem TFork_get12 (o : Option Tys) (x : TFork) : (TFork.row o x).getD 12 .gone = .v (.int .i64 x.fBefore.fHead.fWait) := rfl
theorem TFork_sub13_Keys (o : Option Tys) (x : TFork) : ((TFork.row o x).drop 13).take 2 = TKeys.row o x.fBefore.fHead.fJudge := rfl
theorem TFork_at13 (o : Option Tys) (x : TFork) : (TFork.row o x)[13]? = some (.l (o.map (·.tInt)) 1 (rowsI x.fBefore.fHead.fJudge.fList)) := rfl
theorem TFork_get13 (o : Option Tys) (x : TFork) : (TFork.row o x).getD 13 .gone = .l (o.map (·.tInt)) 1 (rowsI x.fBefore.fHead.fJudge.fList) := rfl
theorem TFork_at14 (o : Option Tys) (x : TFork) : (TFork.row o x)[14]? = some (.v (.int .i64 x.fBefore.fHead.fJudge.fNeed)) := rfl
theorem TFork_get14 (o : Option Tys) (x : TFork) : (TFork.row o x).getD 14 .gone = .v (.int .i64 x.fBefore.fHead.fJudge.fNeed) := rfl
theorem TFork_at15 (o : Option Tys) (x : TFork) : (TFork.row o x)[15]? = some (.v (.bool x.fBefore.fHead.fFrozen)) := rfl
theorem TFork_get15 (o : Option Tys) (x : TFork) : (TFork.row o x).getD 15 .gone = .v (.bool x.fBefore.fHead.fFrozen) := rfl
theorem TFork_at16 (o : Option Tys) (x : TFork) : (TFork.row o x)[16]? = some (.l (o.map (·.tSig)) 2 (x.fBefore.fSigs.map (TSig.row o))) := rfl
theorem TFork_get16 (o : Option Tys) (x : TFork) : (TFork.row o x).getD 16 .gone = .l (o.map (·.tSig)) 2 (x.fBefore.fSigs.map (TSig.row o)) := rfl
theorem TFork_sub17_Signed (o : Option Tys) (x : TFork) : ((TFork.row o x).drop 17).take 17 = TSigned.row o x.fA := rfl
theorem TFork_sub17_Head (o : Option Tys) (x : TFork) : ((TFork.row o x).drop 17).take 16 = THead.row o x.fA.fHead := rfl
theorem TFork_at17 (o : Option Tys) (x : TFork) : (TFork.row o x)[17]? = some (.v (.int .i64 x.fA.fHead.fZone)) := rfl
theorem TFork_get17 (o : Option Tys) (x : TFork) : (TFork.row o x).getD 17 .gone = .v (.int .i64 x.fA.fHead.fZone) := rfl
theorem TFork_at18 (o : Option Tys) (x : TFork) : (TFork.row o x)[18]? = some (.v (.int .i64 x.fA.fHead.fEpoch)) := rfl
theorem TFork_get18 (o : Option Tys) (x : TFork) : (TFork.row o x).getD 18 .gone = .v (.int .i64 x.fA.fHead.fEpoch) := rfl
theorem TFork_at19 (o : Option Tys) (x : TFork) : (TFork.row o x)[19]? = some (.v (.int .i64 x.fA.fHead.fKind)) := rfl
theorem TFork_get19 (o : Option Tys) (x : TFork) : (TFork.row o x).getD 19 .gone = .v (.int .i64 x.fA.fHead.fKind) := rfl
theorem TFork_at20 (o : Option Tys) (x : TFork) : (TFork.row o x)[20]? = some (.v (.int .i64 x.fA.fHead.fTime)) := rfl
theorem TFork_get20 (o : Option Tys) (x : TFork) : (TFork.row o x).getD 20 .gone = .v (.int .i64 x.fA.fHead.fTime) := rfl
theorem TFork_at21 (o : Option Tys) (x : TFork) : (TFork.row o x)[21]? = some (.v (.int .i64 x.fA.fHead.fUntil)) := rfl
theorem TFork_get21 (o : Option Tys) (x : TFork) : (TFork.row o x).getD 21 .gone = .v (.int .i64 x.fA.fHead.fUntil) := rfl
theorem TFork_at22 (o : Option Tys) (x : TFork) : (TFork.row o x)[22]? = some (.v (.int .i64 x.fA.fHead.fCount)) := rfl
theorem TFork_get22 (o : Option Tys) (x : TFork) : (TFork.row o x).getD 22 .gone = .v (.int .i64 x.fA.fHead.fCount) := rfl
theorem TFork_at23 (o : Option Tys) (x : TFork) : (TFork.row o x)[23]? = some (.v (.int .i64 x.fA.fHead.fRoot)) := rfl
theorem TFork_get23 (o : Option Tys) (x : TFork) : (TFork.row o x).getD 23 .gone = .v (.int .i64 x.fA.fHead.fRoot) := rfl
theorem TFork_at24 (o : Option Tys) (x : TFork) : (TFork.row o x)[24]? = some (.v (.int .i64 x.fA.fHead.fPrev)) := rfl
theorem TFork_get24 (o : Option Tys) (x : TFork) : (TFork.row o x).getD 24 .gone = .v (.int .i64 x.fA.fHead.fPrev) := rfl
theorem TFork_sub25_Keys (o : Option Tys) (x : TFork) : ((TFork.row o x).drop 25).take 2 = TKeys.row o x.fA.fHead.fKeys := rfl
theorem TFork_at25 (o : Option Tys) (x : TFork) : (TFork.row o x)[25]? = some (.l (o.map (·.tInt)) 1 (rowsI x.fA.fHead.fKeys.fList)) := rfl
theorem TFork_get25 (o : Option Tys) (x : TFork) : (TFork.row o x).getD 25 .gone = .l (o.map (·.tInt)) 1 (rowsI x.fA.fHead.fKeys.fList) := rfl
theorem TFork_at26 (o : Option Tys) (x : TFork) : (TFork.row o x)[26]? = some (.v (.int .i64 x.fA.fHead.fKeys.fNeed)) := rfl
theorem TFork_get26 (o : Option Tys) (x : TFork) : (TFork.row o x).getD 26 .gone = .v (.int .i64 x.fA.fHead.fKeys.fNeed) := rfl
theorem TFork_sub27_Keys (o : Option Tys) (x : TFork) : ((TFork.row o x).drop 27).take 2 = TKeys.row o x.fA.fHead.fHeirs := rfl
theorem TFork_at27 (o : Option Tys) (x : TFork) : (TFork.row o x)[27]? = some (.l (o.map (·.tInt)) 1 (rowsI x.fA.fHead.fHeirs.fList)) := rfl
theorem TFork_get27 (o : Option Tys) (x : TFork) : (TFork.row o x).getD 27 .gone = .l (o.map (·.tInt)) 1 (rowsI x.fA.fHead.fHeirs.fList) := rfl
theorem TFork_at28 (o : Option Tys) (x : TFork) : (TFork.row o x)[28]? = some (.v (.int .i64 x.fA.fHead.fHeirs.fNeed)) := rfl
theorem TFork_get28 (o : Option Tys) (x : TFork) : (TFork.row o x).getD 28 .gone = .v (.int .i64 x.fA.fHead.fHeirs.fNeed) := rfl
theorem TFork_at29 (o : Option Tys) (x : TFork) : (TFork.row o x)[29]? = some (.v (.int .i64 x.fA.fHead.fWait)) := rfl
theorem TFork_get29 (o : Option Tys) (x : TFork) : (TFork.row o x).getD 29 .gone = .v (.int .i64 x.fA.fHead.fWait) := rfl
theorem TFork_sub30_Keys (o : Option Tys) (x : TFork) : ((TFork.row o x).drop 30).take 2 = TKeys.row o x.fA.fHead.fJudge := rfl
theorem TFork_at30 (o : Option Tys) (x : TFork) : (TFork.row o x)[30]? = some (.l (o.map (·.tInt)) 1 (rowsI x.fA.fHead.fJudge.fList)) := rfl
theorem TFork_get30 (o : Option Tys) (x : TFork) : (TFork.row o x).getD 30 .gone = .l (o.map (·.tInt)) 1 (rowsI x.fA.fHead.fJudge.fList) := rfl
theorem TFork_at31 (o : Option Tys) (x : TFork) : (TFork.row o x)[31]? = some (.v (.int .i64 x.fA.fHead.fJudge.fNeed)) := rfl
theorem TFork_get31 (o : Option Tys) (x : TFork) : (TFork.row o x).getD 31 .gone = .v (.int .i64 x.fA.fHead.fJudge.fNeed) := rfl
theorem TFork_at32 (o : Option Tys) (x : TFork) : (TFork.row o x)[32]? = some (.v (.bool x.fA.fHead.fFrozen)) := rfl
theorem TFork_get32 (o : Option Tys) (x : TFork) : (TFork.row o x).getD 32 .gone = .v (.bool x.fA.fHead.fFrozen) := rfl
theorem TFork_at33 (o : Option Tys) (x : TFork) : (TFork.row o x)[33]? = some (.l (o.map (·.tSig)) 2 (x.fA.fSigs.map (TSig.row o))) := rfl
theorem TFork_get33 (o : Option Tys) (x : TFork) : (TFork.row o x).getD 33 .gone = .l (o.map (·.tSig)) 2 (x.fA.fSigs.map (TSig.row o)) := rfl
theorem TFork_sub34_Signed (o : Option Tys) (x : TFork) : ((TFork.row o x).drop 34).take 17 = TSigned.row o x.fB := rfl
theorem TFork_sub34_Head (o : Option Tys) (x : TFork) : ((TFork.row o x).drop 34).take 16 = THead.row o x.fB.fHead := rfl
theorem TFork_at34 (o : Option Tys) (x : TFork) : (TFork.row o x)[34]? = some (.v (.int .i64 x.fB.fHead.fZone)) := rfl
theorem TFork_get34 (o : Option Tys) (x : TFork) : (TFork.row o x).getD 34 .gone = .v (.int .i64 x.fB.fHead.fZone) := rfl
theorem TFork_at35 (o : Option Tys) (x : TFork) : (TFork.row o x)[35]? = some (.v (.int .i64 x.fB.fHead.fEpoch)) := rfl
theorem TFork_get35 (o : Option Tys) (x : TFork) : (TFork.row o x).getD 35 .gone = .v (.int .i64 x.fB.fHead.fEpoch) := rfl
theorem TFork_at36 (o : Option Tys) (x : TFork) : (TFork.row o x)[36]? = some (.v (.int .i64 x.fB.fHead.fKind)) := rfl
theorem TFork_get36 (o : Option Tys) (x : TFork) : (TFork.row o x).getD 36 .gone = .v (.int .i64 x.fB.fHead.fKind) := rfl
theorem TFork_at37 (o : Option Tys) (x : TFork) : (TFork.row o x)[37]? = some (.v (.int .i64 x.fB.fHead.fTime)) := rfl
theorem TFork_get37 (o : Option Tys) (x : TFork) : (TFork.row o x).getD 37 .gone = .v (.int .i64 x.fB.fHead.fTime) := rfl
theorem TFork_at38 (o : Option Tys) (x : TFork) : (TFork.row o x)[38]? = some (.v (.int .i64 x.fB.fHead.fUntil)) := rfl
theorem TFork_get38 (o : Option Tys) (x : TFork) : (TFork.row o x).getD 38 .gone = .v (.int .i64 x.fB.fHead.fUntil) := rfl
theorem TFork_at39 (o : Option Tys) (x : TFork) : (TFork.row o x)[39]? = some (.v (.int .i64 x.fB.fHead.fCount)) := rfl
theorem TFork_get39 (o : Option Tys) (x : TFork) : (TFork.row o x).getD 39 .gone = .v (.int .i64 x.fB.fHead.fCount) := rfl
theorem TFork_at40 (o : Option Tys) (x : TFork) : (TFork.row o x)[40]? = some (.v (.int .i64 x.fB.fHead.fRoot)) := rfl
theorem TFork_get40 (o : Option Tys) (x : TFork) : (TFork.row o x).getD 40 .gone = .v (.int .i64 x.fB.fHead.fRoot) := rfl
theorem TFork_at41 (o : Option Tys) (x : TFork) : (TFork.row o x)[41]? = some (.v (.int .i64 x.fB.fHead.fPrev)) := rfl
theorem TFork_get41 (o : Option Tys) (x : TFork) : (TFork.row o x).getD 41 .gone = .v (.int .i64 x.fB.fHead.fPrev) := rfl
theorem TFork_sub42_Keys (o : Option Tys) (x : TFork) : ((TFork.row o x).drop 42).take 2 = TKeys.row o x.fB.fHead.fKeys := rfl
theorem TFork_at42 (o : Option Tys) (x : TFork) : (TFork.row o x)[42]? = some (.l (o.map (·.tInt)) 1 (rowsI x.fB.fHead.fKeys.fList)) := rfl
theorem TFork_get42 (o : Option Tys) (x : TFork) : (TFork.row o x).getD 42 .gone = .l (o.map (·.tInt)) 1 (rowsI x.fB.fHead.fKeys.fList) := rfl
theorem TFork_at43 (o : Option Tys) (x : TFork) : (TFork.row o x)[43]? = some (.v (.int .i64 x.fB.fHead.fKeys.fNeed)) := rfl
theorem TFork_get43 (o : Option Tys) (x : TFork) : (TFork.row o x).getD 43 .gone = .v (.int .i64 x.fB.fHead.fKeys.fNeed) := rfl
theorem TFork_sub44_Keys (o : Option Tys) (x : TFork) : ((TFork.row o x).drop 44).take 2 = TKeys.row o x.fB.fHead.fHeirs := rfl
theorem TFork_at44 (o : Option Tys) (x : TFork) : (TFork.row o x)[44]? = some (.l (o.map (·.tInt)) 1 (rowsI x.fB.fHead.fHeirs.fList)) := rfl
theorem TFork_get44 (o : Option Tys) (x : TFork) : (TFork.row o x).getD 44 .gone = .l (o.map (·.tInt)) 1 (rowsI x.fB.fHead.fHeirs.fList) := rfl
theorem TFork_at45 (o : Option Tys) (x : TFork) : (TFork.row o x)[45]? = some (.v (.int .i64 x.fB.fHead.fHeirs.fNeed)) := rfl
theorem TFork_get45 (o : Option Tys) (x : TFork) : (TFork.row o x).getD 45 .gone = .v (.int .i64 x.fB.fHead.fHeirs.fNeed) := rfl
theorem TFork_at46 (o : Option Tys) (x : TFork) : (TFork.row o x)[46]? = some (.v (.int .i64 x.fB.fHead.fWait)) := rfl
theorem TFork_get46 (o : Option Tys) (x : TFork) : (TFork.row o x).getD 46 .gone = .v (.int .i64 x.fB.fHead.fWait) := rfl
theorem TFork_sub47_Keys (o : Option Tys) (x : TFork) : ((TFork.row o x).drop 47).take 2 = TKeys.row o x.fB.fHead.fJudge := rfl
theorem TFork_at47 (o : Option Tys) (x : TFork) : (TFork.row o x)[47]? = some (.l (o.map (·.tInt)) 1 (rowsI x.fB.fHead.fJudge.fList)) := rfl
theorem TFork_get47 (o : Option Tys) (x : TFork) : (TFork.row o x).getD 47 .gone = .l (o.map (·.tInt)) 1 (rowsI x.fB.fHead.fJudge.fList) := rfl
theorem TFork_at48 (o : Option Tys) (x : TFork) : (TFork.row o x)[48]? = some (.v (.int .i64 x.fB.fHead.fJudge.fNeed)) := rfl
theorem TFork_get48 (o : Option Tys) (x : TFork) : (TFork.row o x).getD 48 .gone = .v (.int .i64 x.fB.fHead.fJudge.fNeed) := rfl
theorem TFork_at49 (o : Option Tys) (x : TFork) : (TFork.row o x)[49]? = some (.v (.bool x.fB.fHead.fFrozen)) := rfl
theorem TFork_get49 (o : Option Tys) (x : TFork) : (TFork.row o x).getD 49 .gone = .v (.bool x.fB.fHead.fFrozen) := rfl
theorem TFork_at50 (o : Option Tys) (x : TFork) : (TFork.row o x)[50]? = some (.l (o.map (·.tSig)) 2 (x.fB.fSigs.map (TSig.row o))) := rfl
theorem TFork_get50 (o : Option Tys) (x : TFork) : (TFork.row o x).getD 50 .gone = .l (o.map (·.tSig)) 2 (x.fB.fSigs.map (TSig.row o)) := rfl
theorem TFork_drop (o : Option Tys) (x : TFork) : (TFork.row o x).drop 51 = [] := rfl
theorem TFork_full (o : Option Tys) (x : TFork) : (TFork.row o x).take 51 = TFork.row o x := rfl
theorem TFork_frz (o : Option Tys) (x : TFork) : frzR (TFork.row o x) = TFork.row none x := by simp only [TFork.row, frzR, C.frz, Option.map_none, frzRs_of (TSig_frz o), rowsI_frz]
theorem TFork_own (x : TFork) : rowOwn (TFork.row none x) = false := rfl
theorem TFork_owns (t : Tys) (x : TFork) : rowOwn (TFork.row (some t) x) = true := rfl
theorem TFork_noImm (t : Tys) (x : TFork) : noImmR (TFork.row (some t) x) := ⟨trivial, trivial, trivial, trivial, trivial, trivial, trivial, trivial, noImm_rowsI _, trivial, noImm_rowsI _, trivial, trivial, noImm_rowsI _, trivial, trivial, noImm_of (TSig_noImm t) _, trivial, trivial, trivial, trivial, trivial, trivial, trivial, trivial, noImm_rowsI _, trivial, noImm_rowsI _, trivial, trivial, noImm_rowsI _, trivial, trivial, noImm_of (TSig_noImm t) _, trivial, trivial, trivial, trivial, trivial, trivial, trivial, trivial, noImm_rowsI _, trivial, noImm_rowsI _, trivial, trivial, noImm_rowsI _, trivial, trivial, noImm_of (TSig_noImm t) _, trivial⟩
theorem TZone_len (o : Option Tys) (x : TZone) : (TZone.row o x).length = 2 := rfl
theorem TZone_at0 (o : Option Tys) (x : TZone) : (TZone.row o x)[0]? = some (.l (o.map (·.tSigned)) 17 (x.fChain.map (TSigned.row o))) := rfl
theorem TZone_get0 (o : Option Tys) (x : TZone) : (TZone.row o x).getD 0 .gone = .l (o.map (·.tSigned)) 17 (x.fChain.map (TSigned.row o)) := rfl
theorem TZone_at1 (o : Option Tys) (x : TZone) : (TZone.row o x)[1]? = some (.l (o.map (·.tEntry)) 4 (x.fEntries.map (TEntry.row o))) := rfl
theorem TZone_get1 (o : Option Tys) (x : TZone) : (TZone.row o x).getD 1 .gone = .l (o.map (·.tEntry)) 4 (x.fEntries.map (TEntry.row o)) := rfl
theorem TZone_drop (o : Option Tys) (x : TZone) : (TZone.row o x).drop 2 = [] := rfl
theorem TZone_full (o : Option Tys) (x : TZone) : (TZone.row o x).take 2 = TZone.row o x := rfl
theorem TZone_frz (o : Option Tys) (x : TZone) : frzR (TZone.row o x) = TZone.row none x := by simp only [TZone.row, frzR, C.frz, Option.map_none, frzRs_of (TEntry_frz o), frzRs_of (TSigned_frz o)]
theorem TZone_own (x : TZone) : rowOwn (TZone.row none x) = false := rfl
theorem TZone_owns (t : Tys) (x : TZone) : rowOwn (TZone.row (some t) x) = true := rfl
theorem TZone_noImm (t : Tys) (x : TZone) : noImmR (TZone.row (some t) x) := ⟨noImm_of (TSigned_noImm t) _, noImm_of (TEntry_noImm t) _, trivial⟩
theorem TAnswer_len (o : Option Tys) (x : TAnswer) : (TAnswer.row o x).length = 21 := rfl
theorem TAnswer_at0 (o : Option Tys) (x : TAnswer) : (TAnswer.row o x)[0]? = some (.l (o.map (·.tSigned)) 17 (x.fChain.map (TSigned.row o))) := rfl
theorem TAnswer_get0 (o : Option Tys) (x : TAnswer) : (TAnswer.row o x).getD 0 .gone = .l (o.map (·.tSigned)) 17 (x.fChain.map (TSigned.row o)) := rfl
theorem TAnswer_at1 (o : Option Tys) (x : TAnswer) : (TAnswer.row o x)[1]? = some (.v (.bool x.fFound)) := rfl
theorem TAnswer_get1 (o : Option Tys) (x : TAnswer) : (TAnswer.row o x).getD 1 .gone = .v (.bool x.fFound) := rfl
theorem TAnswer_sub2_Entry (o : Option Tys) (x : TAnswer) : ((TAnswer.row o x).drop 2).take 4 = TEntry.row o x.fEntry := rfl
theorem TAnswer_at2 (o : Option Tys) (x : TAnswer) : (TAnswer.row o x)[2]? = some (.v (.string (bs x.fEntry.fLabel))) := rfl
theorem TAnswer_get2 (o : Option Tys) (x : TAnswer) : (TAnswer.row o x).getD 2 .gone = .v (.string (bs x.fEntry.fLabel)) := rfl
theorem TAnswer_at3 (o : Option Tys) (x : TAnswer) : (TAnswer.row o x)[3]? = some (.v (.int .i64 x.fEntry.fKind)) := rfl
theorem TAnswer_get3 (o : Option Tys) (x : TAnswer) : (TAnswer.row o x).getD 3 .gone = .v (.int .i64 x.fEntry.fKind) := rfl
theorem TAnswer_at4 (o : Option Tys) (x : TAnswer) : (TAnswer.row o x)[4]? = some (.v (.int .i64 x.fEntry.fValue)) := rfl
theorem TAnswer_get4 (o : Option Tys) (x : TAnswer) : (TAnswer.row o x).getD 4 .gone = .v (.int .i64 x.fEntry.fValue) := rfl
theorem TAnswer_at5 (o : Option Tys) (x : TAnswer) : (TAnswer.row o x)[5]? = some (.l (o.map (·.tString)) 1 (rowsS x.fEntry.fPath)) := rfl
theorem TAnswer_get5 (o : Option Tys) (x : TAnswer) : (TAnswer.row o x).getD 5 .gone = .l (o.map (·.tString)) 1 (rowsS x.fEntry.fPath) := rfl
theorem TAnswer_sub6_Proof (o : Option Tys) (x : TAnswer) : ((TAnswer.row o x).drop 6).take 2 = TProof.row o x.fProof := rfl
theorem TAnswer_at6 (o : Option Tys) (x : TAnswer) : (TAnswer.row o x)[6]? = some (.v (.int .i64 x.fProof.fAt)) := rfl
theorem TAnswer_get6 (o : Option Tys) (x : TAnswer) : (TAnswer.row o x).getD 6 .gone = .v (.int .i64 x.fProof.fAt) := rfl
theorem TAnswer_at7 (o : Option Tys) (x : TAnswer) : (TAnswer.row o x)[7]? = some (.l (o.map (·.tInt)) 1 (rowsI x.fProof.fPath)) := rfl
theorem TAnswer_get7 (o : Option Tys) (x : TAnswer) : (TAnswer.row o x).getD 7 .gone = .l (o.map (·.tInt)) 1 (rowsI x.fProof.fPath) := rfl
theorem TAnswer_sub8_Gap (o : Option Tys) (x : TAnswer) : ((TAnswer.row o x).drop 8).take 13 = TGap.row o x.fGap := rfl
theorem TAnswer_at8 (o : Option Tys) (x : TAnswer) : (TAnswer.row o x)[8]? = some (.v (.int .i64 x.fGap.fAt)) := rfl
theorem TAnswer_get8 (o : Option Tys) (x : TAnswer) : (TAnswer.row o x).getD 8 .gone = .v (.int .i64 x.fGap.fAt) := rfl
theorem TAnswer_sub9_Entry (o : Option Tys) (x : TAnswer) : ((TAnswer.row o x).drop 9).take 4 = TEntry.row o x.fGap.fBefore := rfl
theorem TAnswer_at9 (o : Option Tys) (x : TAnswer) : (TAnswer.row o x)[9]? = some (.v (.string (bs x.fGap.fBefore.fLabel))) := rfl
theorem TAnswer_get9 (o : Option Tys) (x : TAnswer) : (TAnswer.row o x).getD 9 .gone = .v (.string (bs x.fGap.fBefore.fLabel)) := rfl
theorem TAnswer_at10 (o : Option Tys) (x : TAnswer) : (TAnswer.row o x)[10]? = some (.v (.int .i64 x.fGap.fBefore.fKind)) := rfl
theorem TAnswer_get10 (o : Option Tys) (x : TAnswer) : (TAnswer.row o x).getD 10 .gone = .v (.int .i64 x.fGap.fBefore.fKind) := rfl
theorem TAnswer_at11 (o : Option Tys) (x : TAnswer) : (TAnswer.row o x)[11]? = some (.v (.int .i64 x.fGap.fBefore.fValue)) := rfl
theorem TAnswer_get11 (o : Option Tys) (x : TAnswer) : (TAnswer.row o x).getD 11 .gone = .v (.int .i64 x.fGap.fBefore.fValue) := rfl
theorem TAnswer_at12 (o : Option Tys) (x : TAnswer) : (TAnswer.row o x)[12]? = some (.l (o.map (·.tString)) 1 (rowsS x.fGap.fBefore.fPath)) := rfl
theorem TAnswer_get12 (o : Option Tys) (x : TAnswer) : (TAnswer.row o x).getD 12 .gone = .l (o.map (·.tString)) 1 (rowsS x.fGap.fBefore.fPath) := rfl
theorem TAnswer_sub13_Entry (o : Option Tys) (x : TAnswer) : ((TAnswer.row o x).drop 13).take 4 = TEntry.row o x.fGap.fAfter := rfl
theorem TAnswer_at13 (o : Option Tys) (x : TAnswer) : (TAnswer.row o x)[13]? = some (.v (.string (bs x.fGap.fAfter.fLabel))) := rfl
theorem TAnswer_get13 (o : Option Tys) (x : TAnswer) : (TAnswer.row o x).getD 13 .gone = .v (.string (bs x.fGap.fAfter.fLabel)) := rfl
theorem TAnswer_at14 (o : Option Tys) (x : TAnswer) : (TAnswer.row o x)[14]? = some (.v (.int .i64 x.fGap.fAfter.fKind)) := rfl
theorem TAnswer_get14 (o : Option Tys) (x : TAnswer) : (TAnswer.row o x).getD 14 .gone = .v (.int .i64 x.fGap.fAfter.fKind) := rfl
theorem TAnswer_at15 (o : Option Tys) (x : TAnswer) : (TAnswer.row o x)[15]? = some (.v (.int .i64 x.fGap.fAfter.fValue)) := rfl
theorem TAnswer_get15 (o : Option Tys) (x : TAnswer) : (TAnswer.row o x).getD 15 .gone = .v (.int .i64 x.fGap.fAfter.fValue) := rfl
theorem TAnswer_at16 (o : Option Tys) (x : TAnswer) : (TAnswer.row o x)[16]? = some (.l (o.map (·.tString)) 1 (rowsS x.fGap.fAfter.fPath)) := rfl
theorem TAnswer_get16 (o : Option Tys) (x : TAnswer) : (TAnswer.row o x).getD 16 .gone = .l (o.map (·.tString)) 1 (rowsS x.fGap.fAfter.fPath) := rfl
theorem TAnswer_sub17_Proof (o : Option Tys) (x : TAnswer) : ((TAnswer.row o x).drop 17).take 2 = TProof.row o x.fGap.fLeft := rfl
theorem TAnswer_at17 (o : Option Tys) (x : TAnswer) : (TAnswer.row o x)[17]? = some (.v (.int .i64 x.fGap.fLeft.fAt)) := rfl
theorem TAnswer_get17 (o : Option Tys) (x : TAnswer) : (TAnswer.row o x).getD 17 .gone = .v (.int .i64 x.fGap.fLeft.fAt) := rfl
theorem TAnswer_at18 (o : Option Tys) (x : TAnswer) : (TAnswer.row o x)[18]? = some (.l (o.map (·.tInt)) 1 (rowsI x.fGap.fLeft.fPath)) := rfl
theorem TAnswer_get18 (o : Option Tys) (x : TAnswer) : (TAnswer.row o x).getD 18 .gone = .l (o.map (·.tInt)) 1 (rowsI x.fGap.fLeft.fPath) := rfl
theorem TAnswer_sub19_Proof (o : Option Tys) (x : TAnswer) : ((TAnswer.row o x).drop 19).take 2 = TProof.row o x.fGap.fRight := rfl
theorem TAnswer_at19 (o : Option Tys) (x : TAnswer) : (TAnswer.row o x)[19]? = some (.v (.int .i64 x.fGap.fRight.fAt)) := rfl
theorem TAnswer_get19 (o : Option Tys) (x : TAnswer) : (TAnswer.row o x).getD 19 .gone = .v (.int .i64 x.fGap.fRight.fAt) := rfl
theorem TAnswer_at20 (o : Option Tys) (x : TAnswer) : (TAnswer.row o x)[20]? = some (.l (o.map (·.tInt)) 1 (rowsI x.fGap.fRight.fPath)) := rfl
theorem TAnswer_get20 (o : Option Tys) (x : TAnswer) : (TAnswer.row o x).getD 20 .gone = .l (o.map (·.tInt)) 1 (rowsI x.fGap.fRight.fPath) := rfl
theorem TAnswer_drop (o : Option Tys) (x : TAnswer) : (TAnswer.row o x).drop 21 = [] := rfl
theorem TAnswer_full (o : Option Tys) (x : TAnswer) : (TAnswer.row o x).take 21 = TAnswer.row o x := rfl
theorem TAnswer_frz (o : Option Tys) (x : TAnswer) : frzR (TAnswer.row o x) = TAnswer.row none x := by simp only [TAnswer.row, frzR, C.frz, Option.map_none, frzRs_of (TSigned_frz o), rowsI_frz, rowsS_frz]
theorem TAnswer_own (x : TAnswer) : rowOwn (TAnswer.row none x) = false := rfl
theorem TAnswer_owns (t : Tys) (x : TAnswer) : rowOwn (TAnswer.row (some t) x) = true := rfl
theorem TAnswer_noImm (t : Tys) (x : TAnswer) : noImmR (TAnswer.row (some t) x) := ⟨noImm_of (TSigned_noImm t) _, trivial, trivial, trivial, trivial, noImm_rowsS _, trivial, noImm_rowsI _, trivial, trivial, trivial, trivial, noImm_rowsS _, trivial, trivial, trivial, noImm_rowsS _, trivial, noImm_rowsI _, trivial, noImm_rowsI _, trivial⟩
theorem rowLSignedS_len (o : Option Tys) (x : List TSigned) : (rowLSignedS o x).length = 1 := rfl
theorem rowLSignedS_at (o : Option Tys) (x : List TSigned) : (rowLSignedS o x)[0]? = some (.l (o.map (·.tSigned)) 17 (x.map (TSigned.row o))) := rfl
theorem rowLSignedS_get (o : Option Tys) (x : List TSigned) : (rowLSignedS o x).getD 0 .gone = .l (o.map (·.tSigned)) 17 (x.map (TSigned.row o)) := rfl
theorem rowLSignedS_frz (o : Option Tys) (x : List TSigned) : frzR (rowLSignedS o x) = rowLSignedS none x := by simp only [rowLSignedS, frzR, C.frz, Option.map_none, frzRs_of (TSigned_frz o)]
theorem rowLSignedS_own (x : List TSigned) : rowOwn (rowLSignedS none x) = false := rfl
theorem rowLSignedS_noImm (t : Tys) (x : List TSigned) : noImmR (rowLSignedS (some t) x) := ⟨noImm_of (TSigned_noImm t) _, trivial⟩
theorem TKnown_len (o : Option Tys) (x : TKnown) : (TKnown.row o x).length = 2 := rfl
theorem TKnown_at0 (o : Option Tys) (x : TKnown) : (TKnown.row o x)[0]? = some (.l (o.map (·.tSignedS)) 1 (x.fChains.map (rowLSignedS o))) := rfl
theorem TKnown_get0 (o : Option Tys) (x : TKnown) : (TKnown.row o x).getD 0 .gone = .l (o.map (·.tSignedS)) 1 (x.fChains.map (rowLSignedS o)) := rfl
theorem TKnown_at1 (o : Option Tys) (x : TKnown) : (TKnown.row o x)[1]? = some (.l (o.map (·.tFork)) 51 (x.fForks.map (TFork.row o))) := rfl
theorem TKnown_get1 (o : Option Tys) (x : TKnown) : (TKnown.row o x).getD 1 .gone = .l (o.map (·.tFork)) 51 (x.fForks.map (TFork.row o)) := rfl
theorem TKnown_drop (o : Option Tys) (x : TKnown) : (TKnown.row o x).drop 2 = [] := rfl
theorem TKnown_full (o : Option Tys) (x : TKnown) : (TKnown.row o x).take 2 = TKnown.row o x := rfl
theorem TKnown_frz (o : Option Tys) (x : TKnown) : frzR (TKnown.row o x) = TKnown.row none x := by simp only [TKnown.row, frzR, C.frz, Option.map_none, frzRs_of (TFork_frz o), frzRs_of (rowLSignedS_frz o)]
theorem TKnown_own (x : TKnown) : rowOwn (TKnown.row none x) = false := rfl
theorem TKnown_owns (t : Tys) (x : TKnown) : rowOwn (TKnown.row (some t) x) = true := rfl
theorem TKnown_noImm (t : Tys) (x : TKnown) : noImmR (TKnown.row (some t) x) := ⟨noImm_of (rowLSignedS_noImm t) _, noImm_of (TFork_noImm t) _, trivial⟩
theorem TServer_len (o : Option Tys) (x : TServer) : (TServer.row o x).length = 2 := rfl
theorem TServer_at0 (o : Option Tys) (x : TServer) : (TServer.row o x)[0]? = some (.l (o.map (·.tZone)) 2 (x.fZones.map (TZone.row o))) := rfl
theorem TServer_get0 (o : Option Tys) (x : TServer) : (TServer.row o x).getD 0 .gone = .l (o.map (·.tZone)) 2 (x.fZones.map (TZone.row o)) := rfl
theorem TServer_at1 (o : Option Tys) (x : TServer) : (TServer.row o x)[1]? = some (.v (.int .i64 x.fLie)) := rfl
theorem TServer_get1 (o : Option Tys) (x : TServer) : (TServer.row o x).getD 1 .gone = .v (.int .i64 x.fLie) := rfl
theorem TServer_drop (o : Option Tys) (x : TServer) : (TServer.row o x).drop 2 = [] := rfl
theorem TServer_full (o : Option Tys) (x : TServer) : (TServer.row o x).take 2 = TServer.row o x := rfl
theorem TServer_frz (o : Option Tys) (x : TServer) : frzR (TServer.row o x) = TServer.row none x := by simp only [TServer.row, frzR, C.frz, Option.map_none, frzRs_of (TZone_frz o)]
theorem TServer_own (x : TServer) : rowOwn (TServer.row none x) = false := rfl
theorem TServer_owns (t : Tys) (x : TServer) : rowOwn (TServer.row (some t) x) = true := rfl
theorem TServer_noImm (t : Tys) (x : TServer) : noImmR (TServer.row (some t) x) := ⟨noImm_of (TZone_noImm t) _, trivial, trivial⟩
theorem TStored_len (o : Option Tys) (x : TStored) : (TStored.row o x).length = 23 := rfl
theorem TStored_at0 (o : Option Tys) (x : TStored) : (TStored.row o x)[0]? = some (.v (.int .i64 x.fZone)) := rfl
theorem TStored_get0 (o : Option Tys) (x : TStored) : (TStored.row o x).getD 0 .gone = .v (.int .i64 x.fZone) := rfl
theorem TStored_at1 (o : Option Tys) (x : TStored) : (TStored.row o x)[1]? = some (.v (.string (bs x.fLabel))) := rfl
theorem TStored_get1 (o : Option Tys) (x : TStored) : (TStored.row o x).getD 1 .gone = .v (.string (bs x.fLabel)) := rfl
theorem TStored_sub2_Answer (o : Option Tys) (x : TStored) : ((TStored.row o x).drop 2).take 21 = TAnswer.row o x.fAnswer := rfl
theorem TStored_at2 (o : Option Tys) (x : TStored) : (TStored.row o x)[2]? = some (.l (o.map (·.tSigned)) 17 (x.fAnswer.fChain.map (TSigned.row o))) := rfl
theorem TStored_get2 (o : Option Tys) (x : TStored) : (TStored.row o x).getD 2 .gone = .l (o.map (·.tSigned)) 17 (x.fAnswer.fChain.map (TSigned.row o)) := rfl
theorem TStored_at3 (o : Option Tys) (x : TStored) : (TStored.row o x)[3]? = some (.v (.bool x.fAnswer.fFound)) := rfl
theorem TStored_get3 (o : Option Tys) (x : TStored) : (TStored.row o x).getD 3 .gone = .v (.bool x.fAnswer.fFound) := rfl
theorem TStored_sub4_Entry (o : Option Tys) (x : TStored) : ((TStored.row o x).drop 4).take 4 = TEntry.row o x.fAnswer.fEntry := rfl
theorem TStored_at4 (o : Option Tys) (x : TStored) : (TStored.row o x)[4]? = some (.v (.string (bs x.fAnswer.fEntry.fLabel))) := rfl
theorem TStored_get4 (o : Option Tys) (x : TStored) : (TStored.row o x).getD 4 .gone = .v (.string (bs x.fAnswer.fEntry.fLabel)) := rfl
theorem TStored_at5 (o : Option Tys) (x : TStored) : (TStored.row o x)[5]? = some (.v (.int .i64 x.fAnswer.fEntry.fKind)) := rfl
theorem TStored_get5 (o : Option Tys) (x : TStored) : (TStored.row o x).getD 5 .gone = .v (.int .i64 x.fAnswer.fEntry.fKind) := rfl
theorem TStored_at6 (o : Option Tys) (x : TStored) : (TStored.row o x)[6]? = some (.v (.int .i64 x.fAnswer.fEntry.fValue)) := rfl
theorem TStored_get6 (o : Option Tys) (x : TStored) : (TStored.row o x).getD 6 .gone = .v (.int .i64 x.fAnswer.fEntry.fValue) := rfl
theorem TStored_at7 (o : Option Tys) (x : TStored) : (TStored.row o x)[7]? = some (.l (o.map (·.tString)) 1 (rowsS x.fAnswer.fEntry.fPath)) := rfl
theorem TStored_get7 (o : Option Tys) (x : TStored) : (TStored.row o x).getD 7 .gone = .l (o.map (·.tString)) 1 (rowsS x.fAnswer.fEntry.fPath) := rfl
theorem TStored_sub8_Proof (o : Option Tys) (x : TStored) : ((TStored.row o x).drop 8).take 2 = TProof.row o x.fAnswer.fProof := rfl
theorem TStored_at8 (o : Option Tys) (x : TStored) : (TStored.row o x)[8]? = some (.v (.int .i64 x.fAnswer.fProof.fAt)) := rfl
theorem TStored_get8 (o : Option Tys) (x : TStored) : (TStored.row o x).getD 8 .gone = .v (.int .i64 x.fAnswer.fProof.fAt) := rfl
theorem TStored_at9 (o : Option Tys) (x : TStored) : (TStored.row o x)[9]? = some (.l (o.map (·.tInt)) 1 (rowsI x.fAnswer.fProof.fPath)) := rfl
theorem TStored_get9 (o : Option Tys) (x : TStored) : (TStored.row o x).getD 9 .gone = .l (o.map (·.tInt)) 1 (rowsI x.fAnswer.fProof.fPath) := rfl
theorem TStored_sub10_Gap (o : Option Tys) (x : TStored) : ((TStored.row o x).drop 10).take 13 = TGap.row o x.fAnswer.fGap := rfl
theorem TStored_at10 (o : Option Tys) (x : TStored) : (TStored.row o x)[10]? = some (.v (.int .i64 x.fAnswer.fGap.fAt)) := rfl
theorem TStored_get10 (o : Option Tys) (x : TStored) : (TStored.row o x).getD 10 .gone = .v (.int .i64 x.fAnswer.fGap.fAt) := rfl
theorem TStored_sub11_Entry (o : Option Tys) (x : TStored) : ((TStored.row o x).drop 11).take 4 = TEntry.row o x.fAnswer.fGap.fBefore := rfl
theorem TStored_at11 (o : Option Tys) (x : TStored) : (TStored.row o x)[11]? = some (.v (.string (bs x.fAnswer.fGap.fBefore.fLabel))) := rfl
theorem TStored_get11 (o : Option Tys) (x : TStored) : (TStored.row o x).getD 11 .gone = .v (.string (bs x.fAnswer.fGap.fBefore.fLabel)) := rfl
theorem TStored_at12 (o : Option Tys) (x : TStored) : (TStored.row o x)[12]? = some (.v (.int .i64 x.fAnswer.fGap.fBefore.fKind)) := rfl
theorem TStored_get12 (o : Option Tys) (x : TStored) : (TStored.row o x).getD 12 .gone = .v (.int .i64 x.fAnswer.fGap.fBefore.fKind) := rfl
theorem TStored_at13 (o : Option Tys) (x : TStored) : (TStored.row o x)[13]? = some (.v (.int .i64 x.fAnswer.fGap.fBefore.fValue)) := rfl
theorem TStored_get13 (o : Option Tys) (x : TStored) : (TStored.row o x).getD 13 .gone = .v (.int .i64 x.fAnswer.fGap.fBefore.fValue) := rfl
theorem TStored_at14 (o : Option Tys) (x : TStored) : (TStored.row o x)[14]? = some (.l (o.map (·.tString)) 1 (rowsS x.fAnswer.fGap.fBefore.fPath)) := rfl
theorem TStored_get14 (o : Option Tys) (x : TStored) : (TStored.row o x).getD 14 .gone = .l (o.map (·.tString)) 1 (rowsS x.fAnswer.fGap.fBefore.fPath) := rfl
theorem TStored_sub15_Entry (o : Option Tys) (x : TStored) : ((TStored.row o x).drop 15).take 4 = TEntry.row o x.fAnswer.fGap.fAfter := rfl
theorem TStored_at15 (o : Option Tys) (x : TStored) : (TStored.row o x)[15]? = some (.v (.string (bs x.fAnswer.fGap.fAfter.fLabel))) := rfl
theorem TStored_get15 (o : Option Tys) (x : TStored) : (TStored.row o x).getD 15 .gone = .v (.string (bs x.fAnswer.fGap.fAfter.fLabel)) := rfl
theorem TStored_at16 (o : Option Tys) (x : TStored) : (TStored.row o x)[16]? = some (.v (.int .i64 x.fAnswer.fGap.fAfter.fKind)) := rfl
theorem TStored_get16 (o : Option Tys) (x : TStored) : (TStored.row o x).getD 16 .gone = .v (.int .i64 x.fAnswer.fGap.fAfter.fKind) := rfl
theorem TStored_at17 (o : Option Tys) (x : TStored) : (TStored.row o x)[17]? = some (.v (.int .i64 x.fAnswer.fGap.fAfter.fValue)) := rfl
theorem TStored_get17 (o : Option Tys) (x : TStored) : (TStored.row o x).getD 17 .gone = .v (.int .i64 x.fAnswer.fGap.fAfter.fValue) := rfl
theorem TStored_at18 (o : Option Tys) (x : TStored) : (TStored.row o x)[18]? = some (.l (o.map (·.tString)) 1 (rowsS x.fAnswer.fGap.fAfter.fPath)) := rfl
theorem TStored_get18 (o : Option Tys) (x : TStored) : (TStored.row o x).getD 18 .gone = .l (o.map (·.tString)) 1 (rowsS x.fAnswer.fGap.fAfter.fPath) := rfl
theorem TStored_sub19_Proof (o : Option Tys) (x : TStored) : ((TStored.row o x).drop 19).take 2 = TProof.row o x.fAnswer.fGap.fLeft := rfl
theorem TStored_at19 (o : Option Tys) (x : TStored) : (TStored.row o x)[19]? = some (.v (.int .i64 x.fAnswer.fGap.fLeft.fAt)) := rfl
theorem TStored_get19 (o : Option Tys) (x : TStored) : (TStored.row o x).getD 19 .gone = .v (.int .i64 x.fAnswer.fGap.fLeft.fAt) := rfl
theorem TStored_at20 (o : Option Tys) (x : TStored) : (TStored.row o x)[20]? = some (.l (o.map (·.tInt)) 1 (rowsI x.fAnswer.fGap.fLeft.fPath)) := rfl
theorem TStored_get20 (o : Option Tys) (x : TStored) : (TStored.row o x).getD 20 .gone = .l (o.map (·.tInt)) 1 (rowsI x.fAnswer.fGap.fLeft.fPath) := rfl
theorem TStored_sub21_Proof (o : Option Tys) (x : TStored) : ((TStored.row o x).drop 21).take 2 = TProof.row o x.fAnswer.fGap.fRight := rfl
theorem TStored_at21 (o : Option Tys) (x : TStored) : (TStored.row o x)[21]? = some (.v (.int .i64 x.fAnswer.fGap.fRight.fAt)) := rfl
theorem TStored_get21 (o : Option Tys) (x : TStored) : (TStored.row o x).getD 21 .gone = .v (.int .i64 x.fAnswer.fGap.fRight.fAt) := rfl
theorem TStored_at22 (o : Option Tys) (x : TStored) : (TStored.row o x)[22]? = some (.l (o.map (·.tInt)) 1 (rowsI x.fAnswer.fGap.fRight.fPath)) := rfl
theorem TStored_get22 (o : Option Tys) (x : TStored) : (TStored.row o x).getD 22 .gone = .l (o.map (·.tInt)) 1 (rowsI x.fAnswer.fGap.fRight.fPath) := rfl
theorem TStored_drop (o : Option Tys) (x : TStored) : (TStored.row o x).drop 23 = [] := rfl
theorem TStored_full (o : Option Tys) (x : TStored) : (TStored.row o x).take 23 = TStored.row o x := rfl
theorem TStored_frz (o : Option Tys) (x : TStored) : frzR (TStored.row o x) = TStored.row none x := by simp only [TStored.row, frzR, C.frz, Option.map_none, frzRs_of (TSigned_frz o), rowsI_frz, rowsS_frz]
theorem TStored_own (x : TStored) : rowOwn (TStored.row none x) = false := rfl
theorem TStored_owns (t : Tys) (x : TStored) : rowOwn (TStored.row (some t) x) = true := rfl
theorem TStored_noImm (t : Tys) (x : TStored) : noImmR (TStored.row (some t) x) := ⟨trivial, trivial, noImm_of (TSigned_noImm t) _, trivial, trivial, trivial, trivial, noImm_rowsS _, trivial, noImm_rowsI _, trivial, trivial, trivial, trivial, noImm_rowsS _, trivial, trivial, trivial, noImm_rowsS _, trivial, noImm_rowsI _, trivial, noImm_rowsI _, trivial⟩
theorem TCache_len (o : Option Tys) (x : TCache) : (TCache.row o x).length = 1 := rfl
theorem TCache_at0 (o : Option Tys) (x : TCache) : (TCache.row o x)[0]? = some (.l (o.map (·.tStored)) 23 (x.fList.map (TStored.row o))) := rfl
theorem TCache_get0 (o : Option Tys) (x : TCache) : (TCache.row o x).getD 0 .gone = .l (o.map (·.tStored)) 23 (x.fList.map (TStored.row o)) := rfl
theorem TCache_drop (o : Option Tys) (x : TCache) : (TCache.row o x).drop 1 = [] := rfl
theorem TCache_full (o : Option Tys) (x : TCache) : (TCache.row o x).take 1 = TCache.row o x := rfl
theorem TCache_frz (o : Option Tys) (x : TCache) : frzR (TCache.row o x) = TCache.row none x := by simp only [TCache.row, frzR, C.frz, Option.map_none, frzRs_of (TStored_frz o)]
theorem TCache_own (x : TCache) : rowOwn (TCache.row none x) = false := rfl
theorem TCache_owns (t : Tys) (x : TCache) : rowOwn (TCache.row (some t) x) = true := rfl
theorem TCache_noImm (t : Tys) (x : TCache) : noImmR (TCache.row (some t) x) := ⟨noImm_of (TStored_noImm t) _, trivial⟩
theorem TActor_len (o : Option Tys) (x : TActor) : (TActor.row o x).length = 1 := rfl
theorem TActor_at0 (o : Option Tys) (x : TActor) : (TActor.row o x)[0]? = some (.l (o.map (·.tInt)) 1 (rowsI x.fHeld)) := rfl
theorem TActor_get0 (o : Option Tys) (x : TActor) : (TActor.row o x).getD 0 .gone = .l (o.map (·.tInt)) 1 (rowsI x.fHeld) := rfl
theorem TActor_drop (o : Option Tys) (x : TActor) : (TActor.row o x).drop 1 = [] := rfl
theorem TActor_full (o : Option Tys) (x : TActor) : (TActor.row o x).take 1 = TActor.row o x := rfl
theorem TActor_frz (o : Option Tys) (x : TActor) : frzR (TActor.row o x) = TActor.row none x := by simp only [TActor.row, frzR, C.frz, Option.map_none, rowsI_frz]
theorem TActor_own (x : TActor) : rowOwn (TActor.row none x) = false := rfl
theorem TActor_owns (t : Tys) (x : TActor) : rowOwn (TActor.row (some t) x) = true := rfl
theorem TActor_noImm (t : Tys) (x : TActor) : noImmR (TActor.row (some t) x) := ⟨noImm_rowsI _, trivial⟩
theorem TSaid_len (o : Option Tys) (x : TSaid) : (TSaid.row o x).length = 3 := rfl
theorem TSaid_sub0_Zone (o : Option Tys) (x : TSaid) : (TSaid.row o x).take 2 = TZone.row o x.fZone := rfl
theorem TSaid_at0 (o : Option Tys) (x : TSaid) : (TSaid.row o x)[0]? = some (.l (o.map (·.tSigned)) 17 (x.fZone.fChain.map (TSigned.row o))) := rfl
theorem TSaid_get0 (o : Option Tys) (x : TSaid) : (TSaid.row o x).getD 0 .gone = .l (o.map (·.tSigned)) 17 (x.fZone.fChain.map (TSigned.row o)) := rfl
theorem TSaid_at1 (o : Option Tys) (x : TSaid) : (TSaid.row o x)[1]? = some (.l (o.map (·.tEntry)) 4 (x.fZone.fEntries.map (TEntry.row o))) := rfl
theorem TSaid_get1 (o : Option Tys) (x : TSaid) : (TSaid.row o x).getD 1 .gone = .l (o.map (·.tEntry)) 4 (x.fZone.fEntries.map (TEntry.row o)) := rfl
theorem TSaid_at2 (o : Option Tys) (x : TSaid) : (TSaid.row o x)[2]? = some (.l (o.map (·.tInt)) 1 (rowsI x.fHeld)) := rfl
theorem TSaid_get2 (o : Option Tys) (x : TSaid) : (TSaid.row o x).getD 2 .gone = .l (o.map (·.tInt)) 1 (rowsI x.fHeld) := rfl
theorem TSaid_drop (o : Option Tys) (x : TSaid) : (TSaid.row o x).drop 3 = [] := rfl
theorem TSaid_full (o : Option Tys) (x : TSaid) : (TSaid.row o x).take 3 = TSaid.row o x := rfl
theorem TSaid_frz (o : Option Tys) (x : TSaid) : frzR (TSaid.row o x) = TSaid.row none x := by simp only [TSaid.row, frzR, C.frz, Option.map_none, frzRs_of (TEntry_frz o), frzRs_of (TSigned_frz o), rowsI_frz]
theorem TSaid_own (x : TSaid) : rowOwn (TSaid.row none x) = false := rfl
theorem TSaid_owns (t : Tys) (x : TSaid) : rowOwn (TSaid.row (some t) x) = true := rfl
theorem TSaid_noImm (t : Tys) (x : TSaid) : noImmR (TSaid.row (some t) x) := ⟨noImm_of (TSigned_noImm t) _, noImm_of (TEntry_noImm t) _, noImm_rowsI _, trivial⟩
theorem TWorld_len (o : Option Tys) (x : TWorld) : (TWorld.row o x).length = 8 := rfl
theorem TWorld_at0 (o : Option Tys) (x : TWorld) : (TWorld.row o x)[0]? = some (.v (.int .i64 x.fNow)) := rfl
theorem TWorld_get0 (o : Option Tys) (x : TWorld) : (TWorld.row o x).getD 0 .gone = .v (.int .i64 x.fNow) := rfl
theorem TWorld_at1 (o : Option Tys) (x : TWorld) : (TWorld.row o x)[1]? = some (.l (o.map (·.tActor)) 1 (x.fActors.map (TActor.row o))) := rfl
theorem TWorld_get1 (o : Option Tys) (x : TWorld) : (TWorld.row o x).getD 1 .gone = .l (o.map (·.tActor)) 1 (x.fActors.map (TActor.row o)) := rfl
theorem TWorld_at2 (o : Option Tys) (x : TWorld) : (TWorld.row o x)[2]? = some (.l (o.map (·.tZone)) 2 (x.fZones.map (TZone.row o))) := rfl
theorem TWorld_get2 (o : Option Tys) (x : TWorld) : (TWorld.row o x).getD 2 .gone = .l (o.map (·.tZone)) 2 (x.fZones.map (TZone.row o)) := rfl
theorem TWorld_at3 (o : Option Tys) (x : TWorld) : (TWorld.row o x)[3]? = some (.l (o.map (·.tSaid)) 3 (x.fSaid.map (TSaid.row o))) := rfl
theorem TWorld_get3 (o : Option Tys) (x : TWorld) : (TWorld.row o x).getD 3 .gone = .l (o.map (·.tSaid)) 3 (x.fSaid.map (TSaid.row o)) := rfl
theorem TWorld_at4 (o : Option Tys) (x : TWorld) : (TWorld.row o x)[4]? = some (.l (o.map (·.tServer)) 2 (x.fServers.map (TServer.row o))) := rfl
theorem TWorld_get4 (o : Option Tys) (x : TWorld) : (TWorld.row o x).getD 4 .gone = .l (o.map (·.tServer)) 2 (x.fServers.map (TServer.row o)) := rfl
theorem TWorld_sub5_Known (o : Option Tys) (x : TWorld) : ((TWorld.row o x).drop 5).take 2 = TKnown.row o x.fKnown := rfl
theorem TWorld_at5 (o : Option Tys) (x : TWorld) : (TWorld.row o x)[5]? = some (.l (o.map (·.tSignedS)) 1 (x.fKnown.fChains.map (rowLSignedS o))) := rfl
theorem TWorld_get5 (o : Option Tys) (x : TWorld) : (TWorld.row o x).getD 5 .gone = .l (o.map (·.tSignedS)) 1 (x.fKnown.fChains.map (rowLSignedS o)) := rfl
theorem TWorld_at6 (o : Option Tys) (x : TWorld) : (TWorld.row o x)[6]? = some (.l (o.map (·.tFork)) 51 (x.fKnown.fForks.map (TFork.row o))) := rfl
theorem TWorld_get6 (o : Option Tys) (x : TWorld) : (TWorld.row o x).getD 6 .gone = .l (o.map (·.tFork)) 51 (x.fKnown.fForks.map (TFork.row o)) := rfl
theorem TWorld_sub7_Cache (o : Option Tys) (x : TWorld) : ((TWorld.row o x).drop 7).take 1 = TCache.row o x.fCache := rfl
theorem TWorld_at7 (o : Option Tys) (x : TWorld) : (TWorld.row o x)[7]? = some (.l (o.map (·.tStored)) 23 (x.fCache.fList.map (TStored.row o))) := rfl
theorem TWorld_get7 (o : Option Tys) (x : TWorld) : (TWorld.row o x).getD 7 .gone = .l (o.map (·.tStored)) 23 (x.fCache.fList.map (TStored.row o)) := rfl
theorem TWorld_drop (o : Option Tys) (x : TWorld) : (TWorld.row o x).drop 8 = [] := rfl
theorem TWorld_full (o : Option Tys) (x : TWorld) : (TWorld.row o x).take 8 = TWorld.row o x := rfl
theorem TWorld_frz (o : Option Tys) (x : TWorld) : frzR (TWorld.row o x) = TWorld.row none x := by simp only [TWorld.row, frzR, C.frz, Option.map_none, frzRs_of (TActor_frz o), frzRs_of (TFork_frz o), frzRs_of (TSaid_frz o), frzRs_of (TServer_frz o), frzRs_of (TStored_frz o), frzRs_of (TZone_frz o), frzRs_of (rowLSignedS_frz o)]
theorem TWorld_own (x : TWorld) : rowOwn (TWorld.row none x) = false := rfl
theorem TWorld_owns (t : Tys) (x : TWorld) : rowOwn (TWorld.row (some t) x) = true := rfl
theorem TWorld_noImm (t : Tys) (x : TWorld) : noImmR (TWorld.row (some t) x) := ⟨trivial, noImm_of (TActor_noImm t) _, noImm_of (TZone_noImm t) _, noImm_of (TSaid_noImm t) _, noImm_of (TServer_noImm t) _, noImm_of (rowLSignedS_noImm t) _, noImm_of (TFork_noImm t) _, noImm_of (TStored_noImm t) _, trivial⟩
end Go.Proofs.Vm
