/- A part of the proof of the card: lemmas that the text with the card leans on (see there for what is proved, and under which conditions). -/
import Derived.Test.YtgjdionnbbnmpaaGreatDoorVmY
import Derived.Lib.ItoaLen
import Derived.Lib.Join
import Derived.Sort.Grow
set_option linter.unusedVariables false
set_option linter.unusedSimpArgs false
namespace Go.Proofs.Vm
open Go Go.RowKit

/-! ### How a state is reckoned with -/
theorem get_nil (t : Nat) : St.get [] t = .dead := rfl
theorem get_step (s : Nat) (x : SV) (r : St) (t : Nat) : St.get ((s, x) :: r) t = bif s == t then x else St.get r t := by
  simp only [St.get]
  by_cases h : s = t
  · simp [h]
  · have : (s == t) = false := by simpa using h
    simp [h, this]
theorem set_nil (t : Nat) (x : SV) : St.set [] t x = [(t, x)] := rfl
theorem set_step (s : Nat) (y : SV) (r : St) (t : Nat) (x : SV) : St.set ((s, y) :: r) t x = bif s == t then (t, x) :: r else (s, y) :: St.set r t x := by
  simp only [St.set]
  by_cases h : s = t
  · simp [h]
  · have : (s == t) = false := by simpa using h
    simp [h, this]
theorem kill_nil (d : Nat) : St.kill d [] = [] := rfl
theorem kill_step (d s : Nat) (x : SV) (r : St) : St.kill d ((s, x) :: r) = (s, bif x.names d then .dead else x) :: St.kill d r := by
  simp only [St.kill]
  cases x.names d <;> rfl
theorem killAt_nil (d off : Nat) : St.killAt d off [] = [] := rfl
theorem killAt_step (d off s : Nat) (x : SV) (r : St) : St.killAt d off ((s, x) :: r) = (s, bif x.namesAt d off then .dead else x) :: St.killAt d off r := by
  simp only [St.killAt]
  cases x.namesAt d off <;> rfl
theorem put_step (st : St) (t : Nat) (x : SV) : st.put t x = (bif (st.get t).root then st.kill t else st).set t x := by
  simp only [St.put]
  cases (st.get t).root <;> rfl
theorem inside_ptr (l : List Nat) (d off : Nat) : SV.inside l (.ptr d off) = bif memN d l then .ptr d off else .dead := by
  simp only [SV.inside]; cases memN d l <;> rfl
theorem inside_al (l : List Nat) (d off : Nat) : SV.inside l (.al d off) = bif memN d l then .al d off else .dead := by
  simp only [SV.inside]; cases memN d l <;> rfl
theorem inside_eo (l : List Nat) (d off i j : Nat) : SV.inside l (.eo d off i j) = bif memN d l then .eo d off i j else .dead := by
  simp only [SV.inside]; cases memN d l <;> rfl
theorem inside_dead (l : List Nat) : SV.inside l .dead = .dead := rfl
theorem inside_val (l : List Nat) (g : Bool) (row : List C) : SV.inside l (.val g row) = .val g row := rfl
theorem inside_box (l : List Nat) (T : TypeId) (row : List C) : SV.inside l (.box T row) = .box T row := rfl
theorem inside_ep (l : List Nat) (row : List C) (off : Nat) : SV.inside l (.ep row off) = .ep row off := rfl
theorem inside_tup (l : List Nat) (ps : List (Bool × List C)) : SV.inside l (.tup ps) = .tup ps := rfl
theorem inside_fn (l : List Nat) (f : FuncId) (caps : List Cap) : SV.inside l (.fn f caps) = .fn f caps := rfl
/-! ### How code is run by rewriting: nothing behind an open question is looked into -/
section
variable {S : FuncId → List SV → SV → Prop} {n : Nat} {L : Lay} {dr : Option Bool} {all : Array Oper} {r : List Oper} {K : St → Prop} {st : St}
  {dst : Option Nat} {ty : TypeId} {pos : String} {after : Array Edge} {gd : Option (Nat × Bool)}
def brS (b : Bool) (f g : St → (St → Prop) → Prop) (st : St) (K : St → Prop) : Prop := (b = true → f st K) ∧ (b = false → g st K)
theorem brS_true {f g : St → (St → Prop) → Prop} : brS true f g st K = f st K := by simp [brS]
theorem brS_false {f g : St → (St → Prop) → Prop} : brS false f g st K = g st K := by simp [brS]
theorem brS_open {b : Bool} {f g : St → (St → Prop) → Prop} : brS b f g st K = ((b = true → f st K) ∧ (b = false → g st K)) := rfl
theorem brS_dec {p : Prop} [Decidable p] {f g : St → (St → Prop) → Prop} : brS (decide p) f g st K = ((p → f st K) ∧ (¬ p → g st K)) := by simp [brS]
theorem brS_beq {α : Type} [BEq α] {x y : α} {f g : St → (St → Prop) → Prop} : brS (x == y) f g st K = (((x == y) = true → f st K) ∧ ((x == y) = false → g st K)) := rfl
theorem brS_bne {α : Type} [BEq α] {x y : α} {f g : St → (St → Prop) → Prop} : brS (x != y) f g st K = (((x != y) = true → f st K) ∧ ((x != y) = false → g st K)) := rfl
theorem brS_not {b : Bool} {f g : St → (St → Prop) → Prop} : brS (!b) f g st K = brS b g f st K := by cases b <;> simp [brS]
theorem brS_by {b : Bool} {f g : St → (St → Prop) → Prop} (h1 : b = true → f st K) (h2 : b = false → g st K) : brS b f g st K := ⟨h1, h2⟩
def mvK (d : Nat) (x : Operand) (st : St) (K : St → Prop) : Prop := goMove st d x K
theorem mvK_at {d : Nat} {x : Operand} : mvK d x st K = goMove st d x K := rfl
def opK (S : FuncId → List SV → SV → Prop) (n : Nat) (L : Lay) (dr : Option Bool) (o : Oper) (st : St) (K : St → Prop) : Prop := goOp S n L dr st o K
theorem opK_at {o : Oper} : opK S n L dr o st K = goOp S n L dr st o K := rfl
def skK (n : Nat) (dst : Option Nat) (st : St) (K : St → Prop) : Prop := match skipTo n st dst with
  | some st' => K st'
  | none => False
theorem skK_at : skK n dst st K = (match skipTo n st dst with
  | some st' => K st'
  | none => False) := rfl
theorem goRun_if {op : Op} {j : Nat} {want : Bool} :
    goRun S n L dr all (⟨dst, op, ty, pos, after, some (j, want)⟩ :: r) st K = (match yieldOf all st j with
      | some (some b) => brS (bif want then b else !b) (opK S n L dr ⟨dst, op, ty, pos, after, some (j, want)⟩) (skK n dst) st (runK S n L dr all r K)
      | some none => skK n dst st (runK S n L dr all r K)
      | none => False) := by
  rw [goRun_guard]
  cases yieldOf all st j with
  | none => rfl
  | some y =>
    cases y with
    | none => rfl
    | some b =>
      cases b <;> cases want <;> simp [brS, opK, skK]
      all_goals (cases skipTo n st dst <;> simp)
/-- A call; its result is not looked into until it is told. -/
def callK (S : FuncId → List SV → SV → Prop) (f : FuncId) (ps : List SV) (own : Bool) (d : Nat) (st : St) (K : St → Prop) : Prop :=
  ∃ res, S f ps res ∧ res.isRes = true ∧ (own = false ∨ res.noImm) ∧ K (st.put d res)
theorem call_by {f : FuncId} {ps : List SV} {d : Nat} {res : SV} (hs : S f ps res) (hr : res.isRes = true) (hK : K (st.put d res)) : callK S f ps false d st K := ⟨res, hs, hr, Or.inl rfl, hK⟩
theorem call_own {f : FuncId} {ps : List SV} {own : Bool} {d : Nat} {res : SV} (hs : S f ps res) (hr : res.isRes = true) (hn : res.noImm) (hK : K (st.put d res)) : callK S f ps own d st K := ⟨res, hs, hr, Or.inr hn, hK⟩
theorem goOp_call {f : FuncId} {xs : Array Operand} {ats : Array TypeId} {d : Nat} : goOp S n L dr st ⟨some d, .call { callee := .value (.func f), args := xs, argTypes := ats }, ty, pos, after, gd⟩ K = (match argsOf st xs.toList with
    | some (ps, own) => d < n ∧ callK S f ps own d st K
    | none => False) := by
  show (match (some d : Option Nat), argsOf st xs.toList with | some d, some (ps, own) => d < n ∧ ∃ res, S f ps res ∧ res.isRes = true ∧ (own = false ∨ res.noImm) ∧ K (st.put d res) | _, _ => False) = _
  cases argsOf st xs.toList with
  | none => rfl
  | some p => rfl
theorem goOp_callFn {t : Nat} {xs : Array Operand} {ats : Array TypeId} {d : Nat} : goOp S n L dr st ⟨some d, .call { callee := .value (.tmp t), args := xs, argTypes := ats }, ty, pos, after, gd⟩ K = (match argsOf st xs.toList, st.get t with
    | some (ps, own), .fn f caps => d < n ∧ callK S f (ps ++ caps.map Cap.arg) own d st K
    | _, _ => False) := by
  show (match (some d : Option Nat), argsOf st xs.toList, st.get t with | some d, some (ps, own), .fn f caps => d < n ∧ ∃ res, S f (ps ++ caps.map Cap.arg) res ∧ res.isRes = true ∧ (own = false ∨ res.noImm) ∧ K (st.put d res) | _, _, _ => False) = _
  cases argsOf st xs.toList with
  | none => rfl
  | some p => cases st.get t <;> rfl
theorem goOp_pick {c x y : Operand} {d : Nat} : goOp S n L dr st ⟨some d, .pick c x y, ty, pos, after, gd⟩ K = (match st.flat c with
    | some (.bool b) => d < n ∧ brS b (mvK d x) (mvK d y) st K
    | _ => False) := by
  show (match (some d : Option Nat), st.flat c with | some d, some (.bool b) => d < n ∧ (b = true → goMove st d x K) ∧ (b = false → goMove st d y K) | _, _ => False) = _
  cases st.flat c with
  | none => rfl
  | some v => cases v <;> rfl
/-- An operation that is no call and no choice. -/
def plainK (n : Nat) (L : Lay) (dr : Option Bool) (st : St) (o : Oper) (K : St → Prop) : Prop :=
  match evOp n L st o with
  | some (st', p) => p ∧ quietB dr st o.op = true ∧ K st'
  | none =>
    match dr with
    | some fr =>
      match evMoveOp fr n L st o with
      | some st' => K st'
      | none => False
    | none => False
theorem goOp_builtin {b : Builtin} {xs : Array Operand} {ats : Array TypeId} : goOp S n L dr st ⟨dst, .call { callee := .builtin b, args := xs, argTypes := ats }, ty, pos, after, gd⟩ K = plainK n L dr st ⟨dst, .call { callee := .builtin b, args := xs, argTypes := ats }, ty, pos, after, gd⟩ K := rfl
theorem goOp_move (x : Operand) : goOp S n L dr st ⟨dst, .move x, ty, pos, after, gd⟩ K = plainK n L dr st ⟨dst, .move x, ty, pos, after, gd⟩ K := rfl
theorem goOp_assign (x : Operand) : goOp S n L dr st ⟨dst, .assign x, ty, pos, after, gd⟩ K = plainK n L dr st ⟨dst, .assign x, ty, pos, after, gd⟩ K := rfl
theorem goOp_alloc (T : TypeId) : goOp S n L dr st ⟨dst, .alloc T, ty, pos, after, gd⟩ K = plainK n L dr st ⟨dst, .alloc T, ty, pos, after, gd⟩ K := rfl
theorem goOp_box (T : TypeId) (x : Operand) : goOp S n L dr st ⟨dst, .box T x, ty, pos, after, gd⟩ K = plainK n L dr st ⟨dst, .box T x, ty, pos, after, gd⟩ K := rfl
theorem goOp_build (T : TypeId) (ps : Array (Nat × Operand)) : goOp S n L dr st ⟨dst, .build T ps, ty, pos, after, gd⟩ K = plainK n L dr st ⟨dst, .build T ps, ty, pos, after, gd⟩ K := rfl
theorem goOp_buildSlice (T : TypeId) (m : Nat) (ps : Array (Nat × Operand)) : goOp S n L dr st ⟨dst, .buildSlice T m ps, ty, pos, after, gd⟩ K = plainK n L dr st ⟨dst, .buildSlice T m ps, ty, pos, after, gd⟩ K := rfl
theorem goOp_load (T : TypeId) (x : Operand) : goOp S n L dr st ⟨dst, .load T x, ty, pos, after, gd⟩ K = plainK n L dr st ⟨dst, .load T x, ty, pos, after, gd⟩ K := rfl
theorem goOp_store (T : TypeId) (x y : Operand) : goOp S n L dr st ⟨dst, .store T x y, ty, pos, after, gd⟩ K = plainK n L dr st ⟨dst, .store T x y, ty, pos, after, gd⟩ K := rfl
theorem goOp_nilCheck (x : Operand) : goOp S n L dr st ⟨dst, .nilCheck x, ty, pos, after, gd⟩ K = plainK n L dr st ⟨dst, .nilCheck x, ty, pos, after, gd⟩ K := rfl
theorem goOp_binOp (op : BinOp) (T : TypeId) (x y : Operand) (T2 : TypeId) : goOp S n L dr st ⟨dst, .binOp op T x y T2, ty, pos, after, gd⟩ K = plainK n L dr st ⟨dst, .binOp op T x y T2, ty, pos, after, gd⟩ K := rfl
theorem goOp_unOp (op : UnOp) (T : TypeId) (x : Operand) : goOp S n L dr st ⟨dst, .unOp op T x, ty, pos, after, gd⟩ K = plainK n L dr st ⟨dst, .unOp op T x, ty, pos, after, gd⟩ K := rfl
theorem goOp_convert (S1 T : TypeId) (x : Operand) : goOp S n L dr st ⟨dst, .convert S1 T x, ty, pos, after, gd⟩ K = plainK n L dr st ⟨dst, .convert S1 T x, ty, pos, after, gd⟩ K := rfl
theorem goOp_makeFunc (f : Fn) (xs ys : Array Operand) : goOp S n L dr st ⟨dst, .makeFunc f xs ys, ty, pos, after, gd⟩ K = plainK n L dr st ⟨dst, .makeFunc f xs ys, ty, pos, after, gd⟩ K := rfl
theorem goOp_makeSlice (T : TypeId) (x y : Operand) : goOp S n L dr st ⟨dst, .makeSlice T x y, ty, pos, after, gd⟩ K = plainK n L dr st ⟨dst, .makeSlice T x y, ty, pos, after, gd⟩ K := rfl
theorem goOp_slice (T : TypeId) (x : Operand) (a b c : Option Operand) : goOp S n L dr st ⟨dst, .slice T x a b c, ty, pos, after, gd⟩ K = plainK n L dr st ⟨dst, .slice T x a b c, ty, pos, after, gd⟩ K := rfl
theorem goOp_fieldAddr (T : TypeId) (x : Operand) (f : Nat) : goOp S n L dr st ⟨dst, .fieldAddr T x f, ty, pos, after, gd⟩ K = plainK n L dr st ⟨dst, .fieldAddr T x f, ty, pos, after, gd⟩ K := rfl
theorem goOp_field (T : TypeId) (x : Operand) (f : Nat) : goOp S n L dr st ⟨dst, .field T x f, ty, pos, after, gd⟩ K = plainK n L dr st ⟨dst, .field T x f, ty, pos, after, gd⟩ K := rfl
theorem goOp_indexAddr (T : TypeId) (x i : Operand) : goOp S n L dr st ⟨dst, .indexAddr T x i, ty, pos, after, gd⟩ K = plainK n L dr st ⟨dst, .indexAddr T x i, ty, pos, after, gd⟩ K := rfl
theorem goOp_index (T : TypeId) (x i : Operand) : goOp S n L dr st ⟨dst, .index T x i, ty, pos, after, gd⟩ K = plainK n L dr st ⟨dst, .index T x i, ty, pos, after, gd⟩ K := rfl
theorem goOp_extract (x : Operand) (i : Nat) : goOp S n L dr st ⟨dst, .extract x i, ty, pos, after, gd⟩ K = plainK n L dr st ⟨dst, .extract x i, ty, pos, after, gd⟩ K := rfl
end
section
variable {S : FuncId → List SV → SV → Prop} {n : Nat} {L : Lay} {mx fr : Bool} {dd : List (List Nat)} {st : St} {K : Exit → St → Prop}
def brK (b : Bool) (f g : St → (Exit → St → Prop) → Prop) (st : St) (K : Exit → St → Prop) : Prop := (b = true → f st K) ∧ (b = false → g st K)
theorem brK_true {f g : St → (Exit → St → Prop) → Prop} : brK true f g st K = f st K := by simp [brK]
theorem brK_false {f g : St → (Exit → St → Prop) → Prop} : brK false f g st K = g st K := by simp [brK]
theorem brK_open {b : Bool} {f g : St → (Exit → St → Prop) → Prop} : brK b f g st K = ((b = true → f st K) ∧ (b = false → g st K)) := rfl
theorem brK_dec {p : Prop} [Decidable p] {f g : St → (Exit → St → Prop) → Prop} : brK (decide p) f g st K = ((p → f st K) ∧ (¬ p → g st K)) := by simp [brK]
theorem brK_beq {α : Type} [BEq α] {x y : α} {f g : St → (Exit → St → Prop) → Prop} : brK (x == y) f g st K = (((x == y) = true → f st K) ∧ ((x == y) = false → g st K)) := rfl
theorem brK_bne {α : Type} [BEq α] {x y : α} {f g : St → (Exit → St → Prop) → Prop} : brK (x != y) f g st K = (((x != y) = true → f st K) ∧ ((x != y) = false → g st K)) := rfl
theorem brK_not {b : Bool} {f g : St → (Exit → St → Prop) → Prop} : brK (!b) f g st K = brK b g f st K := by cases b <;> simp [brK]
theorem brK_by {b : Bool} {f g : St → (Exit → St → Prop) → Prop} (h1 : b = true → f st K) (h2 : b = false → g st K) : brK b f g st K := ⟨h1, h2⟩
theorem go_if {c : Operand} {x y : Code} : go S n L mx fr dd (.cond c x y) st K = (match st.flat c with
    | some (.bool b) => brK b (go S n L mx fr dd x) (go S n L mx fr dd y) st K
    | _ => False) := rfl
end
/-! ### Loops whose state is told by what turns -/
def St.puts (st : St) : List (Nat × SV) → St
  | [] => st
  | (t, x) :: r => St.puts (st.set t x) r
theorem loop_n {f : St → (Exit → St → Prop) → Prop} {K : Exit → St → Prop} {st : St} (l : List Nat) (N : Nat) (u : Nat → List (Nat × SV)) (Q : Nat → Prop) (h0 : st.only l = (st.only l).puts (u 0)) (hQ : Q 0)
    (hstep : ∀ i, i < N → Q i → ∀ F : St → (Exit → St → Prop) → Prop, (∀ st', st'.only l = (st.only l).puts (u (i + 1)) → Q (i + 1) → F st' K) → f ((st.only l).puts (u i)) (seqK F K))
    (hend : Q N → ∀ F : St → (Exit → St → Prop) → Prop, f ((st.only l).puts (u N)) (seqK F K)) : ∃ l m, goLoop f l m st K :=
  loop_up l N (fun i => (st.only l).puts (u i)) Q h0 hQ hstep hend
theorem loop_m {α : Type} {f : St → (Exit → St → Prop) → Prop} {K : Exit → St → Prop} {st : St} (l : List Nat) (u : α → List (Nat × SV)) (μ : α → Nat) (Q : α → Prop) (a : α) (h0 : st.only l = (st.only l).puts (u a)) (hQ : Q a)
    (hstep : ∀ a, Q a → ∀ F : St → (Exit → St → Prop) → Prop, (∀ a' st', μ a' < μ a → Q a' → st'.only l = (st.only l).puts (u a') → F st' K) → f ((st.only l).puts (u a)) (seqK F K)) : ∃ l m, goLoop f l m st K :=
  loop_by l (fun a => (st.only l).puts (u a)) μ Q hstep a h0 hQ

/-! ### Strings as lists of bytes -/
def bs (l : List UInt8) : ByteArray := { data := l.toArray }
theorem bs_app (a b : List UInt8) : bs a ++ bs b = bs (a ++ b) := by
  apply ByteArray.ext
  simp [bs, ByteArray.data_append]
theorem bs_size (a : List UInt8) : (bs a).size = a.length := by simp [bs, ByteArray.size]
theorem lit_bs (a : Array UInt8) : ({ data := a } : ByteArray) = bs a.toList := rfl
theorem bs_toList (a : List UInt8) : (bs a).toList = a := by
  rw [ByteArray.toList_eq]
  simp [bs]
theorem bs_of (s : ByteArray) : bs s.data.toList = s := rfl
theorem bs_inj {a b : List UInt8} (h : bs a = bs b) : a = b := by
  have := congrArg ByteArray.data h
  simpa [bs] using this
/-- Texts, joined. -/
def joinB (sep : List UInt8) : List (List UInt8) → List UInt8
  | [] => []
  | [t] => t
  | t :: u :: r => t ++ sep ++ joinB sep (u :: r)
theorem join_eq (sep : List UInt8) : ∀ ts, Lib.join ts sep = joinB sep ts
  | [] => by simp [Lib.join, joinB, List.intercalate]
  | [t] => by simp [Lib.join, joinB, List.intercalate]
  | t :: u :: r => by
    have ih := join_eq sep (u :: r)
    simp only [Lib.join, joinB, List.intercalate] at ih ⊢
    rw [List.intersperse_cons_cons, List.flatten_cons, List.flatten_cons, ih]
    simp [List.append_assoc]
theorem joinB_snoc (sep t : List UInt8) : ∀ (l : List (List UInt8)), l ≠ [] → joinB sep (l ++ [t]) = joinB sep l ++ sep ++ t
  | [], h => absurd rfl h
  | [a], _ => by simp [joinB]
  | a :: b :: r, _ => by
    have ih := joinB_snoc sep t (b :: r) (by simp)
    simp only [List.cons_append, joinB] at ih ⊢
    rw [ih]
    simp [List.append_assoc]
theorem joinB_len (sep : List UInt8) (m : Nat) : ∀ (l : List (List UInt8)), (∀ t ∈ l, t.length ≤ m) → (joinB sep l).length ≤ l.length * (m + sep.length)
  | [], _ => by simp [joinB]
  | [t], h => by simp [joinB]; have := h t (by simp); omega
  | t :: u :: r, h => by
    have ih := joinB_len sep m (u :: r) (fun x hx => h x (by simp at hx ⊢; exact Or.inr hx))
    have := h t (by simp)
    simp only [joinB, List.length_append, List.length_cons, Nat.add_mul, Nat.one_mul] at ih ⊢
    omega
def rowsS (ts : List (List UInt8)) : List (List C) := ts.map fun t => [.v (.string (bs t))]
theorem rowsS_frz (ts : List (List UInt8)) : frzRs (rowsS ts) = rowsS ts := by
  simp [frzRs_map, rowsS, frzR, C.frz]
theorem rowsS_own (ts : List (List UInt8)) : rowsOwn (rowsS ts) = false := by
  induction ts with
  | nil => rfl
  | cons t r ih => simpa [rowsS, rowsOwn, rowOwn, C.own] using ih
theorem rowsS_app (a b : List (List UInt8)) : rowsS a ++ rowsS b = rowsS (a ++ b) := by simp [rowsS]
theorem rowsS_length (a : List (List UInt8)) : (rowsS a).length = a.length := by simp [rowsS]
theorem rowsS_at (ts : List (List UInt8)) {i : Nat} (h : i < ts.length) : (rowsS ts).getD i [] = [.v (.string (bs (ts.getD i [])))] := by
  simp [rowsS, List.getD_eq_getElem?_getD, h]
theorem rowsS_rep (n : Nat) : List.replicate n [C.v (.string ByteArray.empty)] = rowsS (List.replicate n []) := by
  simp only [rowsS, List.map_replicate]; rfl
theorem rowsS_set (ts : List (List UInt8)) (i : Nat) (t : List UInt8) : (rowsS ts).set i [.v (.string (bs t))] = rowsS (ts.set i t) := by simp [rowsS, List.map_set]
theorem noImm_rowsS (ts : List (List UInt8)) : noImmRs (rowsS ts) := by
  induction ts with
  | nil => trivial
  | cons t r ih => exact ⟨⟨trivial, trivial⟩, ih⟩
theorem str_vals {w : World} {I : Nat → Prop} : ∀ {ts : List (List UInt8)} {vs : List Value} {F : List Nat}, RepRs w I 1 (rowsS ts) vs F → vs = ts.map fun t => Value.string (bs t)
  | [], vs, F, h => by simp only [rowsS, List.map_nil, RepRs] at h; simp [h.1]
  | t :: ts, vs, F, h => by
    simp only [rowsS, List.map_cons, RepRs] at h
    obtain ⟨v1, v2, F1, F2, rfl, rfl, _, h1, h2⟩ := h
    have h3 := str_vals (ts := ts) (by simpa only [rowsS] using h2)
    simp only [RepR, RepC] at h1
    obtain ⟨v, vs', G1, G2, rfl, rfl, ⟨rfl, _⟩, rfl, _⟩ := h1
    rw [h3]
    rfl
/-- strings.Join keeps my contract, where the shelf's stand. -/
theorem sat_join {P : Program} {G : Glob} {f : FuncId} {fn : Func} {c : Code} (hf : P.funcs[f]? = some fn) (hname : (fn.name == "runtime.NumGoroutine") = false) (hb : fn.body = some c)
    (h0 : ∀ (a : Option Addr) (c : Nat) (sep : ByteArray) (w : World), Calls P f #[.slice a 0 c, .string sep] w fun e w' => e = .returned (.string ⟨#[]⟩) ∧ w' = w)
    (h1 : ∀ (bk o c : Nat) (xs : List ByteArray) (sep : ByteArray) (w : World) (_ : ∀ (j : Nat) x, xs[j]? = some x → w.cell? ⟨bk, o + j, none⟩ = some (.string x)) (_ : bk < w.heap.size) (_ : xs.length ≤ 140737488355328) (_ : xs.length ≤ c) (_ : (Lib.join (xs.map (·.data.toList)) sep.data.toList).length ≤ 140737488355328),
      Calls P f #[.slice (some ⟨bk, o, none⟩) xs.length c, .string sep] w fun e w' => e = .returned (.string ⟨(Lib.join (xs.map (·.data.toList)) sep.data.toList).toArray⟩) ∧ Below w.heap.size w w')
    (ts : List (List UInt8)) (sep : List UInt8) (hn : ts.length ≤ 140737488355328) (hl : (joinB sep ts).length ≤ 140737488355328) :
    Sat P G f [.val false [.l none 1 (rowsS ts)], .val false [.v (.string (bs sep))]] (.val false [.v (.string (bs (joinB sep ts)))]) := by
  refine sat_flat hf hname hb rfl fun w I vs hG hI hA => ?_
  simp only [RepA, RepArg] at hA
  obtain ⟨u, vs', rfl, hu, u2, vs'', rfl, hu2, rfl⟩ := hA
  obtain rfl : u2 = .string (bs sep) := (RepG_flat hu2 rfl).1
  simp only [RepG, Bool.false_eq_true, if_false, RepR_single, RepC] at hu
  obtain ⟨_, A, c, rfl, ⟨hc, _⟩, hne⟩ := hu
  by_cases hr : rowsS ts = []
  · obtain rfl : ts = [] := by simpa [rowsS] using hr
    refine Calls.mono (h0 A c (bs sep) w) ?_
    rintro e w' ⟨rfl, rfl⟩
    exact ⟨rfl, Below.refl _ _⟩
  · obtain ⟨g, off, vs, rfl, hg, hra, hrs⟩ := hne hr
    have hvs := str_vals hrs
    have e1 : ((ts.map bs).map fun x : ByteArray => x.data.toList) = ts := by
      rw [List.map_map]
      conv => rhs; rw [← List.map_id ts]
      rfl
    have h := h1 g off c (ts.map bs) (bs sep) w (fun j x hx => by
        refine hra j (.string x) ?_
        rw [List.getElem?_map, Option.map_eq_some_iff] at hx
        obtain ⟨t, ht, rfl⟩ := hx
        rw [hvs, List.getElem?_map, ht]
        rfl) (hI g hg) (by simpa using hn) (by rw [List.length_map]; simpa [rowsS_length] using hc) (by
        rw [e1]
        show (Lib.join ts sep).length ≤ _
        rw [join_eq]; exact hl)
    rw [e1] at h
    have e2 : Lib.join ts (bs sep).data.toList = joinB sep ts := join_eq sep ts
    rw [e2, List.length_map] at h
    rw [rowsS_length]
    exact h
/-- strconv.Itoa keeps my contract, where the shelf's stands. -/
theorem sat_itoa {P : Program} {G : Glob} {f : FuncId} {fn : Func} {c : Code} (hf : P.funcs[f]? = some fn) (hname : (fn.name == "runtime.NumGoroutine") = false) (hb : fn.body = some c) {T : World → Prop} (hT : ∀ w, G w → T w)
    (h : ∀ (n : Int) (_ : -9223372036854775808 ≤ n) (_ : n ≤ 9223372036854775807) (w : World) (_ : T w), Calls P f #[.int .i64 n] w fun e w' => e = .returned (.string ⟨(Lib.itoa n).toArray⟩) ∧ ∃ (k : Nat) (os : Array Obj), w' = «Sort».grow (w.drewN k) os)
    (n : Int) (h1 : -9223372036854775808 ≤ n) (h2 : n ≤ 9223372036854775807) : Sat P G f [.val false [.v (.int .i64 n)]] (.val false [.v (.string (bs (Lib.itoa n)))]) := by
  refine sat_flat hf hname hb rfl fun w I vs hG hI hA => ?_
  have hv : vs = [.int .i64 n] := RepA_flat (xs := [.int .i64 n]) hA
  subst hv
  refine Calls.mono (h n h1 h2 w (hT w hG)) ?_
  rintro e w' ⟨rfl, k, os, rfl⟩
  exact ⟨rfl, rfl, rfl, rfl, by simp [«Sort».grow, World.drewN], fun q hq => by simp [«Sort».grow, World.drewN, Array.getElem?_append_left, hq]⟩
end Go.Proofs.Vm
