/- A part of the proof of the card: lemmas that the text with the card leans on (see there for what is proved, and under which conditions). -/
import Derived.Test.YtgjdionnbbnmpaaGreatDoorVmC
set_option linter.unusedVariables false
set_option linter.unusedSimpArgs false
namespace Go.Proofs.Vm
open Go Go.RowKit

/-! ### What an operation does to the state: the words -/
abbrev Arg := Bool × List C
/-- May a word be copied to slot d (from slot t)? -/
def St.copy (st : St) (t d : Nat) : Option SV :=
  match st.get t with
  | .dead => none
  | .tup _ => none
  | .val g row => if rowOwn row then (if g then none else if t = d then none else some (.al t 0)) else some (.val g row)
  | .box _ _ => if t = d then none else some (.ptr t 0)
  | x => if x.names d then none else some x
/-- A value, with all that it owns; what held it holds it no more. -/
def St.take (st : St) : Operand → Option (Bool × List C × St)
  | .const (.agg cs) => some (true, cs.toList.map .v, st)
  | .const v => some (false, [.v v], st)
  | .tmp t =>
    match st.get t with
    | .val g row => if rowOwn row then some (g, row, st.put t .dead) else some (g, row, st)
    | .al d off =>
      match st.cell d off with
      | some (.l (some e) k rows) => some (false, [.l (some e) k rows], (st.setCell d off .gone).put t .dead)
      | _ => none
    | _ => none
  | _ => none
/-- Where a list lies. -/
inductive LS where
  | imm (rows : List (List C)) (k : Option Nat)
  | own (d off : Nat) (e : TypeId) (k : Nat) (rows : List (List C))
def lsOf (st : St) (t : Nat) : SV → Option LS
  | .val false [.l none k rows] => some (.imm rows (some k))
  | .val false [.l (some e) k rows] => some (.own t 0 e k rows)
  | .val false [.v (.slice none 0 0)] => some (.imm [] none)
  | .al d off =>
    match st.cell d off with
    | some (.l (some e) k rows) => some (.own d off e k rows)
    | _ => none
  | _ => none
def St.list (st : St) : Operand → Option LS
  | .tmp t => lsOf st t (st.get t)
  | .const (.slice none 0 0) => some (.imm [] none)
  | _ => none
def LS.rows : LS → List (List C)
  | .imm rows _ => rows
  | .own _ _ _ _ rows => rows
/-- A flat value. -/
def St.flat (st : St) : Operand → Option Value
  | .const v => some v
  | .tmp t =>
    match st.get t with
    | .val false [.v x] => some x
    | _ => none
  | _ => none
def splice (row : List C) (off : Nat) (new : List C) : List C := row.take off ++ (new ++ row.drop (off + new.length))
def St.killSeg (d off : Nat) : Nat → St → St
  | 0, st => st
  | n + 1, st => (St.killSeg d off n st).killAt d (off + n)

/-! ### Operations on flat values -/
def bitsOf (op : BinOp) (k : IntKind) (x y : Int) : Option Int :=
  let a := BitVec.ofInt k.bits x
  let b := BitVec.ofInt k.bits y
  match op with
  | .and => some (k.wrap (a &&& b).toNat)
  | .or => some (k.wrap (a ||| b).toNat)
  | .xor => some (k.wrap (a ^^^ b).toNat)
  | .andNot => some (k.wrap (a &&& ~~~b).toNat)
  | _ => none
def intV (op : BinOp) (k : IntKind) (a b : Int) : Option (Value × Prop) :=
  match op with
  | .add => some (.int k (k.wrap (a + b)), True)
  | .sub => some (.int k (k.wrap (a - b)), True)
  | .mul => some (.int k (k.wrap (a * b)), True)
  | .quo => some (.int k (k.wrap (a.tdiv b)), b ≠ 0)
  | .rem => some (.int k (a.tmod b), b ≠ 0)
  | .eql => some (.bool (a == b), True)
  | .neq => some (.bool (a != b), True)
  | .lss => some (.bool (a < b), True)
  | .leq => some (.bool (a ≤ b), True)
  | .gtr => some (.bool (a > b), True)
  | .geq => some (.bool (a ≥ b), True)
  | .and | .or | .xor | .andNot => (bitsOf op k a b).map fun x => (.int k x, True)
  | _ => none
def strV (op : BinOp) (a b : ByteArray) : Option (Value × Prop) :=
  match op with
  | .add => some (.string (a ++ b), a.size + b.size ≤ 9223372036854775807)
  | .eql => some (.bool (a.toList == b.toList), True)
  | .neq => some (.bool !(a.toList == b.toList), True)
  | .lss => some (.bool (Op.bytesLess a.toList b.toList), True)
  | .leq => some (.bool (Op.bytesLess a.toList b.toList || a.toList == b.toList), True)
  | .gtr => some (.bool !(Op.bytesLess a.toList b.toList || a.toList == b.toList), True)
  | .geq => some (.bool !(Op.bytesLess a.toList b.toList), True)
  | _ => none
def shiftV (op : BinOp) (k : IntKind) (a b : Int) : Option (Value × Prop) :=
  match op with
  | .shl => some (.int k (k.wrap (a * 2 ^ min b.toNat k.bits)), 0 ≤ b)
  | .shr => some (.int k (a.fdiv (2 ^ min b.toNat k.bits)), 0 ≤ b)
  | _ => none
def isShift : BinOp → Bool
  | .shl => true
  | .shr => true
  | _ => false
def boolV (op : BinOp) (a b : Bool) : Option (Value × Prop) :=
  match op with
  | .eql => some (.bool (a == b), True)
  | .neq => some (.bool !(a == b), True)
  | _ => none
def binV (tk : Option TK) (op : BinOp) : Value → Value → Option (Value × Prop)
  | .int k a, .int k' b => if isShift op then shiftV op k a b else if k = k' then intV op k a b else none
  | .string a, .string b => strV op a b
  | .bool a, .bool b => match tk with
    | some .bool => boolV op a b
    | _ => none
  | _, _ => none
def unV (op : UnOp) : Value → Option Value
  | .int k n => match op with
    | .neg => some (.int k (k.wrap (0 - n)))
    | _ => none
  | .bool b => match op with
    | .not => some (.bool !b)
    | _ => none
  | _ => none

/-! ### The operations -/
def evMove (st : St) (d : Nat) : Operand → Option St
  | .const (.agg cs) => some (st.put d (.val true (cs.toList.map .v)))
  | .const v => some (st.put d (.val false [.v v]))
  | .tmp t => (st.copy t d).map (st.put d)
  | .func f => some (st.put d (.fn f []))
  | _ => none
def evAssign (st : St) (d : Nat) : Operand → Option St
  | .tmp t =>
    match st.get t with
    | .val g row => if rowOwn row then (if t = d then none else some ((st.put t .dead).put d (.val g row))) else some (st.put d (.val g row))
    | _ => evMove st d (.tmp t)
  | x => evMove st d x
/-- What a pointer's word points to. -/
def ptOf (t : Nat) : SV → Option SV
  | .box _ _ => some (.ptr t 0)
  | .ptr d off => some (.ptr d off)
  | .ep row off => some (.ep row off)
  | .eo d off i j => some (.eo d off i j)
  | _ => none
def SV.step (o : Nat) : SV → SV
  | .ptr e off => .ptr e (off + o)
  | .ep row off => .ep row (off + o)
  | .eo e off i j => .eo e off i (j + o)
  | x => x
def fieldOf (L : Lay) (T : TypeId) (f : Nat) : Option (Nat × TI) :=
  match L T with
  | some ti =>
    match ti.kind with
    | .struct fs =>
      match fs[f]? with
      | some (o, ft) => (L ft).map fun tf => (o, tf)
      | none => none
    | _ => none
  | none => none
def evFieldAddr (L : Lay) (st : St) (d : Nat) (T : TypeId) (x : Operand) (f : Nat) : Option St :=
  match x with
  | .tmp t =>
    match ptOf t (st.get t), fieldOf L T f with
    | some p, some (o, tf) => if tf.size = 0 then none else if p.names d then none else some (st.put d (p.step o))
    | _, _ => none
  | _ => none
def evField (L : Lay) (st : St) (d : Nat) (T : TypeId) (x : Operand) (f : Nat) : Option (St × Prop) :=
  match x with
  | .tmp t =>
    match st.get t, fieldOf L T f with
    | .val true row, some (o, tf) =>
      if tf.agg then (if rowOwn ((row.drop o).take tf.size) then none else some (st.put d (.val true ((row.drop o).take tf.size)), o + tf.size ≤ row.length))
      else match row[o]? with
        | some c => if c.own then none else some (st.put d (.val false [c]), True)
        | none => none
    | _, _ => none
  | _ => none
def evLoad (L : Lay) (st : St) (d : Nat) (T : TypeId) (x : Operand) : Option (St × Prop) :=
  match x with
  | .tmp t =>
    match ptOf t (st.get t), L T with
    | some (.ptr e off), some ti =>
      match st.get e with
      | .box _ row =>
        if ti.agg then
          if rowOwn ((row.drop off).take ti.size) then none else some (st.put d (.val true ((row.drop off).take ti.size)), off + ti.size ≤ row.length)
        else match row[off]? with
          | some c => if c.own then (if e = d then none else some (st.put d (.al e off), True)) else some (st.put d (.val false [c]), True)
          | none => none
      | _ => none
    | some (.ep row off), some ti =>
      if ti.agg then some (st.put d (.val true ((row.drop off).take ti.size)), off + ti.size ≤ row.length)
      else some (st.put d (.val false [row.getD off .gone]), off < row.length)
    | some (.eo e off i j), some ti =>
      match st.cell e off with
      | some (.l (some _) k rows) =>
        if ti.agg then some (st.put d (.val true (((rows.getD i []).drop j).take ti.size)), j + ti.size ≤ k ∧ rowOwn (((rows.getD i []).drop j).take ti.size) = false)
        else some (st.put d (.val false [(rows.getD i []).getD j .gone]), j < k ∧ ((rows.getD i []).getD j .gone).own = false)
      | _ => none
    | _, _ => none
  | _ => none
def evStore (L : Lay) (st : St) (T : TypeId) (x y : Operand) : Option (St × Prop) :=
  match x with
  | .tmp t =>
    match L T, st.take y with
    | some ti, some (g, row, st1) =>
      if row.length = ti.size ∧ g = ti.agg then
        match ptOf t (st1.get t) with
        | some (.ptr e off) =>
          match st1.get e with
          | .box T' old => if off + row.length ≤ old.length then some ((St.killSeg e off row.length st1).set e (.box T' (splice old off row)), True) else none
          | _ => none
        | some (.eo e off i j) =>
          match st1.cell e off with
          | some (.l (some el) k rows) => some (st1.set e ((st1.get e).setCell off (.l (some el) k (rows.set i (splice (rows.getD i []) j row)))), j + row.length ≤ k)
          | _ => none
        | _ => none
      else none
    | _, _ => none
  | _ => none
def evIndexAddr (L : Lay) (st : St) (d : Nat) (T : TypeId) (x i : Operand) : Option (St × Prop) :=
  match L T with
  | some ti =>
    match ti.kind with
    | .slice e =>
      match L e, st.list x, st.flat i with
      | some te, some (.imm rows (some k)), some (.int _ n) => if te.size = k then some (st.put d (.ep (rows.getD n.toNat []) 0), 0 ≤ n ∧ n < (rows.length : Int)) else none
      | some te, some (.own s off _ k rows), some (.int _ n) => if te.size = k ∧ s ≠ d then some (st.put d (.eo s off n.toNat 0), 0 ≤ n ∧ n < (rows.length : Int)) else none
      | _, _, _ => none
    | _ => none
  | none => none
def byteAt (s : ByteArray) (i : Int) : Int := if h : i.toNat < s.size then ((s[i.toNat]'h).toNat : Int) else 0
def evIndex (L : Lay) (st : St) (d : Nat) (T : TypeId) (x i : Operand) : Option (St × Prop) :=
  match L T, st.flat x, st.flat i with
  | some ti, some (.string s), some (.int _ n) =>
    match ti.kind with
    | .str => some (st.put d (.val false [.v (.int .u8 (byteAt s n))]), 0 ≤ n ∧ n < (s.size : Int))
    | _ => none
  | _, _, _ => none
def zeroOk (ti : TI) : Bool := ti.zero.all (·.oneCell')
def evAlloc (L : Lay) (st : St) (d : Nat) (T : TypeId) : Option St :=
  match L T with
  | some ti => if zeroOk ti then some (st.put d (.box T (ti.zero.map .v))) else none
  | none => none
def evBox (st : St) (d : Nat) (T : TypeId) (x : Operand) : Option St :=
  match st.take x with
  | some (_, row, st1) => some (st1.put d (.box T row))
  | none => none
/-- The parts of a literal, each with all that it owns. -/
def takeAll : St → List (Nat × Operand) → Option (List (Nat × Arg) × St)
  | st, [] => some ([], st)
  | st, (i, x) :: r =>
    match st.take x with
    | some (g, row, st1) =>
      match takeAll st1 r with
      | some (ps, st2) => some ((i, g, row) :: ps, st2)
      | none => none
    | none => none
def placesOf (L : Lay) : List (Nat × TypeId) → Option (List (Nat × Nat))
  | [] => some []
  | (o, ft) :: r =>
    match L ft, placesOf L r with
    | some tf, some ps => some ((o, tf.size) :: ps)
    | _, _ => none
def placeParts (places : List (Nat × Nat)) : List C → List (Nat × Arg) → Option (List C)
  | row, [] => some row
  | row, (i, _, new) :: r =>
    match places[i]? with
    | some (off, size) => if new.length = size ∧ off + size ≤ row.length then placeParts places (splice row off new) r else none
    | none => none
def evBuild (L : Lay) (st : St) (d : Nat) (T : TypeId) (parts : List (Nat × Operand)) : Option St :=
  match L T with
  | some ti =>
    match ti.kind with
    | .struct fs =>
      match placesOf L fs, takeAll st parts with
      | some places, some (ps, st1) => if zeroOk ti then (placeParts places (ti.zero.map .v) ps).map fun row => st1.put d (.val true row) else none
      | _, _ => none
    | _ => none
  | none => none
def partRows (k : Nat) : Nat → List (Nat × Arg) → Option (List (List C))
  | _, [] => some []
  | i, (j, _, row) :: r => if i = j ∧ row.length = k then (partRows k (i + 1) r).map (row :: ·) else none
def evBuildSlice (L : Lay) (st : St) (d : Nat) (T : TypeId) (n : Nat) (parts : List (Nat × Operand)) : Option St :=
  match L T with
  | some ti =>
    match ti.kind with
    | .slice e =>
      match L e with
      | some te =>
        if n = 0 then (match parts with
          | [] => some (st.put d (.val false [.l (some e) te.size []]))
          | _ => none)
        else
        match takeAll st parts with
        | some (ps, st1) =>
          match partRows te.size 0 ps with
          | some rows => if rows.length = n ∧ n * te.size ≤ 16777216 ∧ 0 < te.size ∧ 0 < n then some (st1.put d (.val false [.l (some e) te.size rows])) else none
          | none => none
        | none => none
      | none => none
    | _ => none
  | none => none
def evMake (L : Lay) (st : St) (d : Nat) (T : TypeId) (x y : Operand) : Option (St × Prop) :=
  match L T, st.flat x, st.flat y with
  | some ti, some (.int _ n), some (.int _ m) =>
    match ti.kind with
    | .slice e =>
      match L e with
      | some te => if 0 < te.size ∧ te.zero.length = te.size ∧ zeroOk te then some (st.put d (.val false [.l (some e) te.size (List.replicate n.toNat (te.zero.map .v))]), 0 ≤ n ∧ n = m ∧ n * te.bytes ≤ 281474976710656 ∧ n ≤ 9223372036854775807) else none
      | none => none
    | _ => none
  | _, _, _ => none
def evLen (L : Lay) (st : St) (d : Nat) (T : TypeId) (x : Operand) : Option St :=
  match L T with
  | some ti =>
    match ti.kind with
    | .slice _ =>
      match st.list x with
      | some l => some (st.put d (.val false [.v (.int .i64 (l.rows.length : Int))]))
      | none => none
    | .str =>
      match st.flat x with
      | some (.string s) => some (st.put d (.val false [.v (.int .i64 (s.size : Int))]))
      | _ => none
    | _ => none
  | none => none
def LS.width : LS → Option Nat
  | .imm _ k => k
  | .own _ _ _ k _ => some k
def rowsOwn : List (List C) → Bool
  | [] => false
  | r :: rs => rowOwn r || rowsOwn rs
/-- The rows that a list hands over: read, or, where they own something, moved in. -/
def newsOf (st : St) (k : Nat) (x : Operand) : Option (List (List C) × St) :=
  match st.list x with
  | some (.imm rows (some k')) => if k' = k then some (rows, st) else none
  | some (.imm _ none) => some ([], st)
  | some (.own _ _ _ k' rows) =>
    if k' = k then
      if rowsOwn rows then
        match st.take x with
        | some (false, [.l (some _) k2 rows'], st1) => if k2 = k then some (rows', st1) else none
        | _ => none
      else some (rows, st)
    else none
  | none => none
/-- append(s, x...): s is owned or nil; x is read, or, where its rows own something, moved in. -/
def evAppend (L : Lay) (st : St) (d : Nat) (T : TypeId) (s x : Operand) : Option (St × Prop) :=
  match L T with
  | some ti =>
    match ti.kind with
    | .slice e =>
      match L e with
      | some te =>
        if te.size = 0 ∨ te.zero.length ≠ te.size then none else
        match newsOf st te.size x with
        | some (news, st1) =>
          match st1.take s with
          | some (false, [.l (some e') k olds], st2) =>
            if e' = e ∧ k = te.size then some (st2.put d (.val false [.l (some e) te.size (olds ++ news)]), (olds.length + news.length) * te.bytes ≤ 140737488355328 ∧ olds.length + news.length ≤ 9223372036854775807) else none
          | some (false, [.v (.slice none 0 0)], st2) =>
            some (st2.put d (.val false [.l (some e) te.size news]), news.length * te.bytes ≤ 140737488355328 ∧ news.length ≤ 9223372036854775807)
          | _ => none
        | none => none
      | none => none
    | _ => none
  | none => none
end Go.Proofs.Vm
