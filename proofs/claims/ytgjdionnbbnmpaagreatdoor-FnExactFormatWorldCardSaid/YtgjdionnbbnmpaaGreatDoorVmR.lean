/- A part of the proof of the card: lemmas that the text with the card leans on (see there for what is proved, and under which conditions). -/
import Derived.Test.YtgjdionnbbnmpaaGreatDoorVmQ
set_option linter.unusedVariables false
set_option linter.unusedSimpArgs false
namespace Go.Proofs.Vm
open Go Go.RowKit

/-! ### A region's operations, one after the other -/
def skipTo (n : Nat) (st : St) : Option Nat → Option St
  | none => some st
  | some d => if d < n then some (st.put d (.tup [])) else none
def yieldOf (all : Array Oper) (st : St) (j : Nat) : Option (Option Bool) :=
  match (all[j]?).bind (·.dst) with
  | some d =>
    match st.get d with
    | .val false [.v (.bool b)] => some (some b)
    | .tup [] => some none
    | _ => none
  | none => none
def SV.isRes : SV → Bool
  | .val _ _ => true
  | .tup _ => true
  | _ => false
def goMove (st : St) (d : Nat) (x : Operand) (K : St → Prop) : Prop :=
  match if constOk x then evMove st d x else none with
  | some st' => K st'
  | none => False
/-- Does a part that goes into a new value own nothing? -/
def ownless (st : St) : Operand → Bool
  | .const _ => true
  | .tmp t =>
    match st.get t with
    | .val _ row => !rowOwn row
    | _ => false
  | _ => false
def partsOk (st : St) : List (Nat × Operand) → Bool
  | [] => true
  | (_, x) :: r => ownless st x && partsOk st r
def buildOk (st : St) : Op → Bool
  | .buildSlice _ _ ps => partsOk st ps.toList
  | .build _ ps => partsOk st ps.toList
  | _ => true
/-- Where the order is drawn: what is built takes nothing over. -/
def quietB (dr : Option Bool) (st : St) (o : Op) : Bool :=
  match dr with
  | none => buildOk st o
  | some _ => true
def goOp (S : FuncId → List SV → SV → Prop) (n : Nat) (L : Lay) (dr : Option Bool) (st : St) (o : Oper) (K : St → Prop) : Prop :=
  match o.op with
  | .pick c x y =>
    match o.dst, st.flat c with
    | some d, some (.bool b) => d < n ∧ (b = true → goMove st d x K) ∧ (b = false → goMove st d y K)
    | _, _ => False
  | .call { callee := .value (.func f), args := xs, argTypes := _ } =>
    match o.dst, argsOf st xs.toList with
    | some d, some (ps, own) => d < n ∧ ∃ res, S f ps res ∧ res.isRes = true ∧ (own = false ∨ res.noImm) ∧ K (st.put d res)
    | _, _ => False
  | .call { callee := .value (.tmp t), args := xs, argTypes := _ } =>
    match o.dst, argsOf st xs.toList, st.get t with
    | some d, some (ps, own), .fn f caps => d < n ∧ ∃ res, S f (ps ++ caps.map Cap.arg) res ∧ res.isRes = true ∧ (own = false ∨ res.noImm) ∧ K (st.put d res)
    | _, _, _ => False
  | _ =>
    match evOp n L st o with
    | some (st', p) => p ∧ quietB dr st o.op = true ∧ K st'
    | none =>
      match dr with
      | some fr =>
        match evMoveOp fr n L st o with
        | some st' => K st'
        | none => False
      | none => False
def goRun (S : FuncId → List SV → SV → Prop) (n : Nat) (L : Lay) (dr : Option Bool) (all : Array Oper) : List Oper → St → (St → Prop) → Prop
  | [], st, K => K st
  | o :: r, st, K =>
    match o.guard with
    | none => goOp S n L dr st o fun st' => goRun S n L dr all r st' K
    | some (j, want) =>
      match yieldOf all st j with
      | some (some b) => (b = want → goOp S n L dr st o fun st' => goRun S n L dr all r st' K) ∧ (b = !want → match skipTo n st o.dst with
        | some st' => goRun S n L dr all r st' K
        | none => False)
      | some none => match skipTo n st o.dst with
        | some st' => goRun S n L dr all r st' K
        | none => False
      | none => False

/-- What is run behind an operation (not looked into until the state is there). -/
def runK (S : FuncId → List SV → SV → Prop) (n : Nat) (L : Lay) (dr : Option Bool) (all : Array Oper) (r : List Oper) (K : St → Prop) : St → Prop := fun st' => goRun S n L dr all r st' K
section
variable {S : FuncId → List SV → SV → Prop} {n : Nat} {L : Lay} {dr : Option Bool} {all : Array Oper} {r : List Oper} {K : St → Prop} {st : St}
theorem runK_at : runK S n L dr all r K st = goRun S n L dr all r st K := rfl
theorem goRun_nil : goRun S n L dr all [] st K = K st := rfl
theorem goRun_free {dst : Option Nat} {op : Op} {ty : TypeId} {pos : String} {after : Array Edge} :
    goRun S n L dr all (⟨dst, op, ty, pos, after, none⟩ :: r) st K = goOp S n L dr st ⟨dst, op, ty, pos, after, none⟩ (runK S n L dr all r K) := rfl
theorem goRun_guard {dst : Option Nat} {op : Op} {ty : TypeId} {pos : String} {after : Array Edge} {j : Nat} {want : Bool} :
    goRun S n L dr all (⟨dst, op, ty, pos, after, some (j, want)⟩ :: r) st K = (match yieldOf all st j with
      | some (some b) => (b = want → goOp S n L dr st ⟨dst, op, ty, pos, after, some (j, want)⟩ (runK S n L dr all r K)) ∧ (b = !want → match skipTo n st dst with
        | some st' => runK S n L dr all r K st'
        | none => False)
      | some none => match skipTo n st dst with
        | some st' => runK S n L dr all r K st'
        | none => False
      | none => False) := rfl
end
/-- What one operation does. -/
inductive Does (S : FuncId → List SV → SV → Prop) (n : Nat) (L : Lay) (dr : Option Bool) (st : St) (o : Oper) : St → Prop
  | pick {c x y : Operand} {d : Nat} {b : Bool} {st' : St} (ho : o.op = .pick c x y) (hd : o.dst = some d) (hf : st.flat c = some (.bool b)) (hn : d < n) (hc : constOk (if b then x else y) = true) (he : evMove st d (if b then x else y) = some st') : Does S n L dr st o st'
  | call {f : FuncId} {xs : Array Operand} {ats : Array TypeId} {d : Nat} {ps : List SV} {own : Bool} {res : SV} (ho : o.op = .call { callee := .value (.func f), args := xs, argTypes := ats }) (hd : o.dst = some d) (hn : d < n) (ha : argsOf st xs.toList = some (ps, own)) (hs : S f ps res) (hr : res.isRes = true) (hb : own = false ∨ res.noImm) : Does S n L dr st o (st.put d res)
  | callFn {t : Nat} {f : FuncId} {caps : List Cap} {xs : Array Operand} {ats : Array TypeId} {d : Nat} {ps : List SV} {own : Bool} {res : SV} (ho : o.op = .call { callee := .value (.tmp t), args := xs, argTypes := ats }) (hd : o.dst = some d) (hn : d < n) (ha : argsOf st xs.toList = some (ps, own)) (ht : st.get t = .fn f caps) (hs : S f (ps ++ caps.map Cap.arg) res) (hr : res.isRes = true) (hb : own = false ∨ res.noImm) : Does S n L dr st o (st.put d res)
  | plain {st' : St} {p : Prop} (he : evOp n L st o = some (st', p)) (hp : p) (hq : quietB dr st o.op = true) : Does S n L dr st o st'
  | move {fr : Bool} {st' : St} (hdr : dr = some fr) (he : evMoveOp fr n L st o = some st') : Does S n L dr st o st'
inductive StepO (S : FuncId → List SV → SV → Prop) (n : Nat) (L : Lay) (dr : Option Bool) (all : Array Oper) (st : St) (o : Oper) : St → Prop
  | free {st' : St} (hg : o.guard = none) (h : Does S n L dr st o st') : StepO S n L dr all st o st'
  | want {j : Nat} {b : Bool} {st' : St} (hg : o.guard = some (j, b)) (hy : yieldOf all st j = some (some b)) (h : Does S n L dr st o st') : StepO S n L dr all st o st'
  | skip {j : Nat} {b : Bool} {y : Option Bool} {st' : St} (hg : o.guard = some (j, b)) (hy : yieldOf all st j = some y) (hne : y ≠ some b) (h : skipTo n st o.dst = some st') : StepO S n L dr all st o st'
inductive StepsO (S : FuncId → List SV → SV → Prop) (n : Nat) (L : Lay) (dr : Option Bool) (all : Array Oper) : List Oper → St → St → Prop
  | nil {st : St} : StepsO S n L dr all [] st st
  | cons {o : Oper} {r : List Oper} {st st1 st2 : St} (h : StepO S n L dr all st o st1) (t : StepsO S n L dr all r st1 st2) : StepsO S n L dr all (o :: r) st st2

section
variable {S : FuncId → List SV → SV → Prop} {n : Nat} {L : Lay} {dr : Option Bool} {all : Array Oper}
theorem goOp_does {st : St} {o : Oper} {K : St → Prop} (h : goOp S n L dr st o K) : ∃ st', Does S n L dr st o st' ∧ K st' := by
  unfold goOp at h
  split at h
  · rename_i c x y ho
    split at h
    · rename_i d b hd hf
      obtain ⟨hn, h1, h2⟩ := h
      cases b with
      | true =>
        have h3 := h1 rfl
        unfold goMove at h3
        split at h3
        · rename_i st' hst
          split at hst
          · rename_i hc
            exact ⟨st', .pick ho hd hf hn (by simpa using hc) (by simpa using hst), h3⟩
          · cases hst
        · cases h3
      | false =>
        have h3 := h2 rfl
        unfold goMove at h3
        split at h3
        · rename_i st' hst
          split at hst
          · rename_i hc
            exact ⟨st', .pick ho hd hf hn (by simpa using hc) (by simpa using hst), h3⟩
          · cases hst
        · cases h3
    · cases h
  · rename_i f xs ats ho
    split at h
    · rename_i d ps own hd ha
      obtain ⟨hn, res, hs, hr, hb, hK⟩ := h
      exact ⟨_, .call ho hd hn ha hs hr hb, hK⟩
    · cases h
  · rename_i t xs ats ho
    split at h
    · rename_i d ps own f caps hd ha ht
      obtain ⟨hn, res, hs, hr, hb, hK⟩ := h
      exact ⟨_, .callFn ho hd hn ha ht hs hr hb, hK⟩
    · cases h
  · split at h
    · rename_i st' p he
      exact ⟨st', .plain he h.1 h.2.1, h.2.2⟩
    · split at h
      · split at h
        · rename_i st' he
          exact ⟨st', .move rfl he, h⟩
        · cases h
      · cases h
theorem goRun_steps : ∀ {r : List Oper} {st : St} {K : St → Prop}, goRun S n L dr all r st K → ∃ st', StepsO S n L dr all r st st' ∧ K st'
  | [], st, K, h => ⟨st, .nil, h⟩
  | o :: r, st, K, h => by
    simp only [goRun] at h
    have sk : ∀ {j : Nat} {b : Bool} {y : Option Bool}, o.guard = some (j, b) → yieldOf all st j = some y → y ≠ some b → (match skipTo n st o.dst with | some st' => goRun S n L dr all r st' K | none => False) → ∃ st', StepsO S n L dr all (o :: r) st st' ∧ K st' := by
      intro j b y hg hy hne hh
      split at hh
      · rename_i st1 h1
        obtain ⟨st2, h2, h3⟩ := goRun_steps hh
        exact ⟨st2, .cons (.skip hg hy hne h1) h2, h3⟩
      · cases hh
    split at h
    · rename_i hg
      obtain ⟨st1, h1, h2⟩ := goOp_does h
      obtain ⟨st2, h3, h4⟩ := goRun_steps h2
      exact ⟨st2, .cons (.free hg h1) h3, h4⟩
    · rename_i j want hg
      split at h
      · rename_i b hy
        by_cases hb : b = want
        · subst hb
          obtain ⟨st1, h1, h2⟩ := goOp_does (h.1 rfl)
          obtain ⟨st2, h3, h4⟩ := goRun_steps h2
          exact ⟨st2, .cons (.want hg hy h1) h3, h4⟩
        · exact sk hg hy (by simpa using hb) (h.2 (by cases b <;> cases want <;> simp at hb ⊢))
      · rename_i hy
        exact sk hg hy (by simp) h
      · cases h
end

section
variable {P : Program} {L : Lay} {dr : Option Bool} (hL : L.ok P) {G : Glob} {W0 : Base} (hG0 : G W0.w) (hM : ∀ g, W0.M g → G.B ≤ g) {I0 : Nat → Prop} {n : Nat} {st : St} {a : Act} {w : World}
include hL hG0 hM
theorem does_wp (h : Inv G W0 I0 n st a w) {o : Oper} {st' : St} (hd : Does (Sat P G) n L dr st o st') {K : Act → World → Prop} {Q : Exit → Act → World → Prop} (hK : ∀ a' w', Inv G W0 I0 n st' a' w' → K a' w') : o.wp P a w K Q := by
  cases hd with
  | pick ho hdst hf hn hc he =>
    rename_i c x y d b
    obtain ⟨dst, op, type, pos, after, guard⟩ := o
    simp only at ho hdst
    subst ho; subst hdst
    have hcv : a.eval c = .bool b := by obtain ⟨I, F, h⟩ := h; exact flat_spec h hf
    have hI := ev_move h hn hc he
    refine wp_value (w' := w) (v := if b then a.eval x else a.eval y) ?_ (hK _ _ ?_)
    · simp only [execOp, hcv, asBool, Sem.run_bind, Sem.run_pure, Result.andThen_ok]
    · cases b <;> simpa using hI
  | call ho hdst hn ha hs _ hb =>
    obtain ⟨dst, op, type, pos, after, guard⟩ := o
    simp only at ho hdst
    subst ho; subst hdst
    exact call_wp hG0 hM h hn ha hs hb hK
  | callFn ho hdst hn ha ht hs _ hb =>
    obtain ⟨dst, op, type, pos, after, guard⟩ := o
    simp only at ho hdst
    subst ho; subst hdst
    exact call_fn_wp hG0 hM h hn ht ha hs hb hK
  | plain he hp _ => exact evOp_wp hL (fun w' hw => G.mono _ _ hG0 (hw.below (G.lt _ hG0) hM)) h he hp hK
  | move _ he => exact evMoveOp_wp hL h he hK

omit hL hG0 hM in
theorem yieldOf_spec (h : Inv G W0 I0 n st a w) {all : Array Oper} {j : Nat} {y : Option Bool} (hy : yieldOf all st j = some y) : yielded all a.tmps j = y := by
  obtain ⟨I, F, h⟩ := h
  unfold yieldOf at hy
  split at hy
  · rename_i d hd
    unfold yielded
    rw [hd]
    split at hy
    · rename_i b hg
      injection hy with hy
      subst hy
      obtain ⟨hr, hu⟩ := h.live_val hg
      rw [Option.bind_some, hu, (RepG_flat hr rfl).1]
    · rename_i hg
      injection hy with hy
      subst hy
      obtain ⟨u, hu, hr⟩ := h.live (t := d) (by rw [hg]; simp)
      rw [hg] at hr
      simp only [RepV, RepT] at hr
      obtain ⟨us, rfl, rfl, _⟩ := hr
      rw [Option.bind_some, hu]
    · cases hy
  · cases hy
omit hL hG0 hM in
theorem skip_inv (h : Inv G W0 I0 n st a w) {dst : Option Nat} {st' : St} (hs : skipTo n st dst = some st') : Inv G W0 I0 n st' (a.put dst undef) w := by
  unfold skipTo at hs
  split at hs
  · injection hs with hs; subst hs; exact h
  · split at hs
    · rename_i d hd
      injection hs with hs
      subst hs
      obtain ⟨I, F, h⟩ := h
      refine h.put_nil hd rfl ?_
      simp only [RepV]
      exact ⟨[], rfl, by simp [RepT]⟩
    · cases hs
theorem stepO_wp (h : Inv G W0 I0 n st a w) {all : Array Oper} {o : Oper} {st' : St} (hs : StepO (Sat P G) n L dr all st o st') {K : Act → World → Prop} {Q : Exit → Act → World → Prop} (hK : ∀ a' w', Inv G W0 I0 n st' a' w' → K a' w') :
    if Region.wanted o (yielded all a.tmps) then o.wp P a w K Q ∨ (o.asks P a w ∧ LetsOut Q) else K (a.put o.dst undef) w := by
  cases hs with
  | free hg hd =>
    rw [if_pos (by simp [Region.wanted, hg])]
    exact .inl (does_wp hL hG0 hM h hd hK)
  | want hg hy hd =>
    rw [if_pos (by simp [Region.wanted, hg, yieldOf_spec h hy])]
    exact .inl (does_wp hL hG0 hM h hd hK)
  | skip hg hy hne hsk =>
    rw [if_neg (by simp [Region.wanted, hg, yieldOf_spec h hy, hne])]
    exact hK _ _ (skip_inv h hsk)
theorem stepsO_wp {all : Array Oper} {Q : Exit → Act → World → Prop} : ∀ {r : List Oper} {st st' : St} {a : Act} {w : World}, Inv G W0 I0 n st a w → StepsO (Sat P G) n L dr all r st st' → (∀ a' w', Inv G W0 I0 n st' a' w' → Q .normal a' w') → wpList P all Q r a w
  | [], st, st', a, w, h, hs, hQ => by
    cases hs
    exact hQ _ _ h
  | o :: r, st, st', a, w, h, hs, hQ => by
    cases hs with
    | cons h1 h2 =>
      rw [wpList]
      exact stepO_wp hL hG0 hM h h1 (fun a' w' hI => stepsO_wp hI h2 hQ)
end
end Go.Proofs.Vm
