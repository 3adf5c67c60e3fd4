/- A part of the proof of the card: lemmas that the text with the card leans on (see there for what is proved, and under which conditions). -/
import Derived.Test.YtgjdionnbbnmpaaGreatDoorVmA
set_option linter.unusedVariables false
set_option linter.unusedSimpArgs false
namespace Go.Proofs.Vm
open Go Go.RowKit

/-! ### What is known of a type -/
inductive TK where
  | bool | int (k : IntKind) | str | slice (e : TypeId) | struct (fs : List (Nat × TypeId)) | other
structure TI where
  size : Nat
  bytes : Nat
  agg : Bool
  zero : List Value
  kind : TK
def kindOf : TypeDesc → TK
  | .bool => .bool
  | .int k => .int k
  | .string => .str
  | .slice e => .slice e
  | .struct fs => .struct (fs.toList.map fun f => (f.offset, f.type))
  | _ => .other
def tiOf (P : Program) (T : TypeId) : Option TI :=
  match P.info? T, P.underlying T with
  | some i, some d => match i.zero with
    | some z => some { size := i.size, bytes := i.bytes, agg := d.isRow, zero := z.cells.toList, kind := kindOf d }
    | none => none
  | _, _ => none
abbrev Lay := TypeId → Option TI
def Lay.ok (L : Lay) (P : Program) : Prop := ∀ T ti, L T = some ti → tiOf P T = some ti

/-! ### The state: what the slots hold -/
inductive Cap where
  | val (agg : Bool) (row : List C)
  | ptr (row : List C)
inductive SV where
  | dead
  | val (agg : Bool) (row : List C)
  | box (T : TypeId) (row : List C)
  | ptr (d off : Nat)
  | al (d off : Nat)
  | ep (row : List C) (off : Nat)
  | eo (d off i j : Nat)
  | tup (ps : List (Bool × List C))
  | fn (f : FuncId) (caps : List Cap)
instance : Inhabited SV := ⟨.dead⟩
abbrev St := List (Nat × SV)

def C.own : C → Bool
  | .l (some _) _ _ => true
  | _ => false
def rowOwn : List C → Bool
  | [] => false
  | c :: r => c.own || rowOwn r

def St.get : St → Nat → SV
  | [], _ => .dead
  | (s, x) :: r, t => if s = t then x else St.get r t
def St.set : St → Nat → SV → St
  | [], t, x => [(t, x)]
  | (s, y) :: r, t, x => if s = t then (t, x) :: r else (s, y) :: St.set r t x
def SV.names (d : Nat) : SV → Bool
  | .ptr e _ => e == d
  | .al e _ => e == d
  | .eo e _ _ _ => e == d
  | _ => false
def SV.namesAt (d off : Nat) : SV → Bool
  | .al e o => e == d && o == off
  | .eo e o _ _ => e == d && o == off
  | _ => false
def St.kill (d : Nat) : St → St
  | [] => []
  | (s, x) :: r => (s, if x.names d then .dead else x) :: St.kill d r
def St.killAt (d off : Nat) : St → St
  | [] => []
  | (s, x) :: r => (s, if x.namesAt d off then .dead else x) :: St.killAt d off r
def SV.root : SV → Bool
  | .val _ row => rowOwn row
  | .box _ _ => true
  | _ => false
def St.put (st : St) (t : Nat) (x : SV) : St := (if (st.get t).root then st.kill t else st).set t x
def St.cell (st : St) (d off : Nat) : Option C :=
  match st.get d with
  | .val _ row => row[off]?
  | .box _ row => row[off]?
  | _ => none
def SV.setCell (off : Nat) (c : C) : SV → SV
  | .val g row => .val g (row.set off c)
  | .box T row => .box T (row.set off c)
  | x => x
/-- The cell at place off of slot d turns into c; what named the old cell's list is dead. -/
def St.setCell (st : St) (d off : Nat) (c : C) : St := (st.killAt d off).set d ((st.get d).setCell off c)

theorem St.get_set (st : St) (t : Nat) (x : SV) (u : Nat) : (st.set t x).get u = if t = u then x else st.get u := by
  induction st with
  | nil => simp only [St.set, St.get]
  | cons p r ih =>
    obtain ⟨s, y⟩ := p
    simp only [St.set]
    by_cases h : s = t
    · subst h
      simp only [if_true, St.get]
      by_cases h2 : s = u
      · simp [h2]
      · simp [h2]
    · simp only [h, if_false, St.get, ih]
      by_cases h2 : s = u
      · subst h2; simp only [if_true]; rw [if_neg (fun e => h e.symm)]
      · simp [h2]
theorem St.get_kill (st : St) (d u : Nat) : (st.kill d).get u = if (st.get u).names d then .dead else st.get u := by
  induction st with
  | nil => simp [St.kill, St.get, SV.names]
  | cons p r ih =>
    obtain ⟨s, y⟩ := p
    simp only [St.kill, St.get]
    by_cases h2 : s = u
    · simp [h2]
    · simp [h2, ih]
theorem St.get_killAt (st : St) (d off u : Nat) : (st.killAt d off).get u = if (st.get u).namesAt d off then .dead else st.get u := by
  induction st with
  | nil => simp [St.killAt, St.get, SV.namesAt]
  | cons p r ih =>
    obtain ⟨s, y⟩ := p
    simp only [St.killAt, St.get]
    by_cases h2 : s = u
    · simp [h2]
    · simp [h2, ih]
theorem St.get_put (st : St) (t : Nat) (x : SV) (u : Nat) : (st.put t x).get u = if t = u then x else if (st.get t).root = true ∧ (st.get u).names t = true then .dead else st.get u := by
  unfold St.put
  rw [St.get_set]
  by_cases h : t = u
  · simp [h]
  · simp only [h, if_false]
    by_cases hr : (st.get t).root = true
    · simp only [hr, if_true, St.get_kill, true_and]
    · simp [hr]

/-! ### What a state says of a frame and a world -/
/-- The value at place off: of a value's cells, or of the box to which it points. -/
def hdr (w : World) (u : Value) (off : Nat) : Option Value :=
  match u with
  | .pointer (some p) => w.cell? ⟨p.block, off, none⟩
  | u => u.cells[off]?

def RepT (w : World) (I : Nat → Prop) : List (Bool × List C) → List Value → List Nat → Prop
  | [], us, F => us = [] ∧ F = []
  | (g, row) :: ps, us, F => ∃ u us' F1 F2, us = u :: us' ∧ F = F1 ++ F2 ∧ (∃ vs, u = (if g then .agg vs.toArray else vs.headD undef) ∧ (g = false → row.length = 1) ∧ RepR w I row vs F1) ∧ RepT w I ps us' F2

/-- A value with all that it owns. -/
def RepG (w : World) (I : Nat → Prop) (g : Bool) (row : List C) (u : Value) (F : List Nat) : Prop :=
  if g then ∃ vs, u = .agg vs.toArray ∧ RepR w I row vs F else RepR w I row [u] F
/-- A pointer to what nobody writes. -/
def RepE (w : World) (I : Nat → Prop) (row : List C) (off : Nat) (u : Value) : Prop :=
  ∃ g o vs, u = .pointer (some ⟨g, o + off, none⟩) ∧ I g ∧ w.rangeAt g o vs ∧ RepR w I row vs []
/-- What a function value holds: values, and pointers to variables that nobody writes any more. -/
def RepCaps (w : World) (I : Nat → Prop) : List Cap → List Value → Prop
  | [], us => us = []
  | .val g row :: r, us => ∃ u us', us = u :: us' ∧ RepG w I g row u [] ∧ RepCaps w I r us'
  | .ptr row :: r, us => ∃ u us', us = u :: us' ∧ RepE w I row 0 u ∧ RepCaps w I r us'
def RepV (w : World) (I : Nat → Prop) (st : St) (a : Act) : SV → Value → List Nat → Prop
  | .dead, _, F => F = []
  | .val false row, u, F => RepR w I row [u] F
  | .val true row, u, F => ∃ vs, u = .agg vs.toArray ∧ RepR w I row vs F
  | .box T row, u, F => ∃ g vs F', u = .pointer (some ⟨g, 0, none⟩) ∧ w.heap[g]? = some (.cells vs.toArray T (0, 0)) ∧ RepR w I row vs F' ∧ F = g :: F'
  | .ptr d off, u, F => F = [] ∧ ∃ g, a.tmps[d]? = some (.pointer (some ⟨g, 0, none⟩)) ∧ u = .pointer (some ⟨g, off, none⟩) ∧ ∃ T row, st.get d = .box T row
  | .al d off, u, F => F = [] ∧ (∃ ud, a.tmps[d]? = some ud ∧ hdr w ud off = some u) ∧ ∃ e k rows, st.cell d off = some (.l (some e) k rows)
  | .ep row off, u, F => F = [] ∧ ∃ g o vs, u = .pointer (some ⟨g, o + off, none⟩) ∧ I g ∧ w.rangeAt g o vs ∧ RepR w I row vs []
  | .eo d off i j, u, F => F = [] ∧ ∃ ud g n c, a.tmps[d]? = some ud ∧ hdr w ud off = some (.slice (some ⟨g, 0, none⟩) n c) ∧ ∃ e k rows, st.cell d off = some (.l (some e) k rows) ∧ i < rows.length ∧ u = .pointer (some ⟨g, i * k + j, none⟩)
  | .tup ps, u, F => ∃ us, u = .tuple us.toArray ∧ RepT w I ps us F
  | .fn f caps, u, F => F = [] ∧ ∃ us, u = .func (.func f) #[] us.toArray ∧ RepCaps w I caps us

def RepS (w : World) (I : Nat → Prop) (st : St) (a : Act) (t : Nat) (F : List Nat) : Prop :=
  match a.tmps[t]? with
  | some u => RepV w I st a (st.get t) u F
  | none => st.get t = .dead ∧ F = []

/-- Facts of the whole program's world, which stand as long as nothing below block B turns. -/
structure Glob where
  G : World → Prop
  B : Nat
  lt : ∀ w, G w → B ≤ w.heap.size
  mono : ∀ w w', G w → Below B w w' → G w'
instance : CoeFun Glob (fun _ => World → Prop) := ⟨Glob.G⟩
/-- Where a call began: the world, and the blocks of it that were lent to be written. -/
structure Base where
  w : World
  M : Nat → Prop
/-- A block that the call may write: a new one or a lent one. -/
def Base.has (b : Base) (g : Nat) : Prop := b.w.heap.size ≤ g ∨ b.M g
/-- From w to w' nothing has turned but what the call may write. -/
structure Bel (b : Base) (w w' : World) : Prop where
  os : w'.os = w.os
  tape : w'.tape = w.tape
  output : w'.output = w.output
  size : w.heap.size ≤ w'.heap.size
  block : ∀ k, ¬ b.has k → w'.heap[k]? = w.heap[k]?
theorem Bel.refl (b : Base) (w : World) : Bel b w w := ⟨rfl, rfl, rfl, Nat.le_refl _, fun _ _ => rfl⟩
theorem Bel.trans {b : Base} {u v w : World} (h : Bel b u v) (k : Bel b v w) : Bel b u w :=
  ⟨k.os.trans h.os, k.tape.trans h.tape, k.output.trans h.output, Nat.le_trans h.size k.size, fun i hi => (k.block i hi).trans (h.block i hi)⟩
theorem Bel.alloc {b : Base} {u w : World} (h : Bel b u w) (hB : b.w.heap.size ≤ w.heap.size) (o : Obj) : Bel b u (w.alloc o) :=
  h.trans ⟨rfl, rfl, rfl, by simp, fun k hk => Below.heap_alloc _ _ _ (by
    have : ¬ b.w.heap.size ≤ k := fun hh => hk (Or.inl hh)
    omega)⟩
theorem Bel.setCell {b : Base} {u w : World} (h : Bel b u w) {p : Addr} (hp : b.has p.block) (x : Value) : Bel b u (w.setCell p x) :=
  h.trans ⟨rfl, rfl, rfl, by simp [World.setCell], fun k hk => Below.heap_setCell _ _ _ _ (by rintro rfl; exact hk hp)⟩
theorem Bel.grown {b : Base} {u w w' : World} {row : Option Nat} (h : Bel b u w) (hg : w.grownBy w' row) (hB : b.w.heap.size ≤ w.heap.size) (hr : ∀ k, row = some k → b.has k) : Bel b u w' :=
  h.trans ⟨hg.os, hg.tape, hg.output, hg.size, fun k hk => hg.block k (by
    have : ¬ b.w.heap.size ≤ k := fun hh => hk (Or.inl hh)
    omega) (fun e => hk (hr k e.symm))⟩
theorem Bel.below {b : Base} {B : Nat} {w w' : World} (h : Bel b w w') (hB : B ≤ b.w.heap.size) (hM : ∀ g, b.M g → B ≤ g) : Below B w w' :=
  ⟨h.os, h.tape, h.output, h.size, fun k hk => h.block k (fun hh => by rcases hh with hh | hh; omega; have := hM k hh; omega)⟩
theorem Bel.of_below {b : Base} {w w' : World} (h : Below w.heap.size w w') (hB : b.w.heap.size ≤ w.heap.size) : Bel b w w' :=
  ⟨h.os, h.tape, h.output, h.size, fun k hk => h.block k (by
    have : ¬ b.w.heap.size ≤ k := fun hh => hk (Or.inl hh)
    omega)⟩
/-- The state st tells frame a and world w: I: what nobody writes; F: what each slot owns; X: owned, and held back. The call began in W0. -/
structure InvX (G : Glob) (W0 : Base) (I0 : Nat → Prop) (n : Nat) (I : Nat → Prop) (F : Nat → List Nat) (X : List Nat) (st : St) (a : Act) (w : World) : Prop where
  size : a.tmps.size = n
  defers : a.defers = []
  below : Bel W0 W0.w w
  glob : G w
  Ilt : ∀ g, I g → g < w.heap.size
  Iold : ∀ g, I0 g → I g
  Inew : ∀ g, I g → I0 g ∨ W0.has g
  rep : ∀ t, RepS w I st a t (F t)
  nodup : ∀ t, (F t).Nodup
  apart : ∀ t u, t ≠ u → ∀ g ∈ F t, g ∉ F u
  xnodup : X.Nodup
  xapart : ∀ t, ∀ g ∈ F t, g ∉ X
  Fok : ∀ t, ∀ g ∈ F t, W0.has g ∧ ¬ I g
  Xok : ∀ g ∈ X, W0.has g ∧ g < w.heap.size ∧ ¬ I g

def Inv (G : Glob) (W0 : Base) (I0 : Nat → Prop) (n : Nat) (st : St) (a : Act) (w : World) : Prop := ∃ I F, InvX G W0 I0 n I F [] st a w
end Go.Proofs.Vm
