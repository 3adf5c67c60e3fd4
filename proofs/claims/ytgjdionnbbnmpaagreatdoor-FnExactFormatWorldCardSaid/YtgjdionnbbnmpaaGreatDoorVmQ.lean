/- A part of the proof of the card: lemmas that the text with the card leans on (see there for what is proved, and under which conditions). -/
import Derived.Test.YtgjdionnbbnmpaaGreatDoorVmP
set_option linter.unusedVariables false
set_option linter.unusedSimpArgs false
namespace Go.Proofs.Vm
open Go Go.RowKit

/-! ### Calls of functions -/
mutual
def C.noImm : C → Prop
  | .v _ => True
  | .gone => True
  | .l none _ _ => False
  | .l (some _) _ rows => noImmRs rows
def noImmR : List C → Prop
  | [] => True
  | c :: r => c.noImm ∧ noImmR r
def noImmRs : List (List C) → Prop
  | [] => True
  | r :: rs => noImmR r ∧ noImmRs rs
end
def SV.noImm : SV → Prop
  | .val _ row => noImmR row
  | .tup ps => ∀ p ∈ ps, noImmR p.2
  | _ => False

mutual
theorem RepC.swap {w : World} {I J : Nat → Prop} : ∀ (c : C) (u : Value) (F : List Nat), c.noImm → RepC w I c u F → RepC w J c u F
  | .v x, u, F, _, h => by simpa only [RepC] using h
  | .gone, u, F, _, h => by simpa only [RepC] using h
  | .l none k rows, u, F, hn, h => by simp only [C.noImm] at hn
  | .l (some e) k rows, u, F, hn, h => by
    simp only [RepC] at h ⊢
    obtain ⟨vs, F', h1, h2⟩ := h
    exact ⟨vs, F', RepRs.swap k rows vs F' (by simpa only [C.noImm] using hn) h1, h2⟩
theorem RepR.swap {w : World} {I J : Nat → Prop} : ∀ (r : List C) (vs : List Value) (F : List Nat), noImmR r → RepR w I r vs F → RepR w J r vs F
  | [], vs, F, _, h => by simpa only [RepR] using h
  | c :: r, vs, F, hn, h => by
    simp only [noImmR] at hn
    simp only [RepR] at h ⊢
    obtain ⟨v, vs', F1, F2, h1, h2, h3, h4⟩ := h
    exact ⟨v, vs', F1, F2, h1, h2, RepC.swap c v F1 hn.1 h3, RepR.swap r vs' F2 hn.2 h4⟩
theorem RepRs.swap {w : World} {I J : Nat → Prop} (k : Nat) : ∀ (rs : List (List C)) (vs : List Value) (F : List Nat), noImmRs rs → RepRs w I k rs vs F → RepRs w J k rs vs F
  | [], vs, F, _, h => by simpa only [RepRs] using h
  | r :: rs, vs, F, hn, h => by
    simp only [noImmRs] at hn
    simp only [RepRs] at h ⊢
    obtain ⟨v1, v2, F1, F2, h1, h2, h3, h4, h5⟩ := h
    exact ⟨v1, v2, F1, F2, h1, h2, h3, RepR.swap r v1 F1 hn.1 h4, RepRs.swap k rs v2 F2 hn.2 h5⟩
end
theorem RepT.swap {w : World} {I J : Nat → Prop} : ∀ (ps : List (Bool × List C)) (us : List Value) (F : List Nat), (∀ p ∈ ps, noImmR p.2) → RepT w I ps us F → RepT w J ps us F
  | [], us, F, _, h => by simpa only [RepT] using h
  | (g, row) :: ps, us, F, hn, h => by
    simp only [RepT] at h ⊢
    obtain ⟨u, us', F1, F2, h1, h2, ⟨vs, h3, h4, h5⟩, h6⟩ := h
    exact ⟨u, us', F1, F2, h1, h2, ⟨vs, h3, h4, RepR.swap row vs F1 (hn (g, row) (by simp)) h5⟩, RepT.swap ps us' F2 (fun p hp => hn p (by simp [hp])) h6⟩

/-- An argument of which nothing is written. -/
def RepArg (w : World) (I : Nat → Prop) : SV → Value → Prop
  | .val g row, u => RepG w I g row u []
  | .ep row off, u => RepE w I row off u
  | .fn f caps, u => ∃ us, u = .func (.func f) #[] us.toArray ∧ RepCaps w I caps us
  | _, _ => False
def RepA (w : World) (I : Nat → Prop) : List SV → List Value → Prop
  | [], vs => vs = []
  | sv :: r, vs => ∃ u vs', vs = u :: vs' ∧ RepArg w I sv u ∧ RepA w I r vs'
theorem RepArg.mono {w : World} {I J : Nat → Prop} (hIJ : ∀ g, I g → J g) {sv : SV} {u : Value} (h : RepArg w I sv u) : RepArg w J sv u := by
  cases sv <;> simp only [RepArg] at h ⊢
  · exact h.mono hIJ
  · exact h.mono hIJ
  · obtain ⟨us, h1, h2⟩ := h; exact ⟨us, h1, RepCaps.mono hIJ _ us h2⟩
theorem RepArg.repV {w : World} {I : Nat → Prop} {st : St} {a : Act} {sv : SV} {u : Value} (h : RepArg w I sv u) : RepV w I st a sv u [] := by
  cases sv <;> simp only [RepArg] at h
  · exact RepV_val.2 h
  · simp only [RepV]; exact ⟨trivial, h⟩
  · simp only [RepV]; exact ⟨trivial, h⟩
def Cap.arg : Cap → SV
  | .val g row => .val g row
  | .ptr row => .ep row 0
theorem RepCaps.args {w : World} {I : Nat → Prop} : ∀ {caps : List Cap} {us : List Value}, RepCaps w I caps us → RepA w I (caps.map Cap.arg) us
  | [], us, h => by simpa only [RepCaps, List.map_nil, RepA] using h
  | .val g row :: r, us, h => by
    simp only [RepCaps] at h
    obtain ⟨u, us', h1, h2, h3⟩ := h
    simp only [List.map_cons, RepA]
    exact ⟨u, us', h1, h2, RepCaps.args h3⟩
  | .ptr row :: r, us, h => by
    simp only [RepCaps] at h
    obtain ⟨u, us', h1, h2, h3⟩ := h
    simp only [List.map_cons, RepA]
    exact ⟨u, us', h1, h2, RepCaps.args h3⟩
theorem RepA.append {w : World} {I : Nat → Prop} : ∀ {ps qs : List SV} {us vs : List Value}, RepA w I ps us → RepA w I qs vs → RepA w I (ps ++ qs) (us ++ vs)
  | [], qs, us, vs, h, k => by
    simp only [RepA] at h
    subst h
    exact k
  | sv :: r, qs, us, vs, h, k => by
    simp only [RepA] at h
    obtain ⟨u, us', rfl, h1, h2⟩ := h
    simp only [List.cons_append, RepA]
    exact ⟨u, us' ++ vs, rfl, h1, RepA.append h2 k⟩
def RepRes (w : World) (I : Nat → Prop) : SV → Value → List Nat → Prop
  | .val g row, v, F => RepG w I g row v F
  | .tup ps, v, F => ∃ us, v = .tuple us.toArray ∧ RepT w I ps us F
  | _, _, _ => False
theorem RepRes.swap {w : World} {I J : Nat → Prop} {r : SV} {v : Value} {F : List Nat} (hn : r.noImm) (h : RepRes w I r v F) : RepRes w J r v F := by
  cases r with
  | val g row =>
    simp only [RepRes, RepG] at h ⊢
    simp only [SV.noImm] at hn
    cases g with
    | true => simp only [if_true] at h ⊢; obtain ⟨vs, h1, h2⟩ := h; exact ⟨vs, h1, RepR.swap row vs F hn h2⟩
    | false => simp only [Bool.false_eq_true, if_false] at h ⊢; exact RepR.swap row _ F hn h
  | tup ps =>
    simp only [RepRes] at h ⊢
    obtain ⟨us, h1, h2⟩ := h
    exact ⟨us, h1, RepT.swap ps us F hn h2⟩
  | _ => simp only [RepRes] at h
theorem RepRes.mono {w : World} {I J : Nat → Prop} (hIJ : ∀ g, I g → J g) {r : SV} {v : Value} {F : List Nat} (h : RepRes w I r v F) : RepRes w J r v F := by
  cases r with
  | val g row =>
    simp only [RepRes, RepG] at h ⊢
    cases g with
    | true => simp only [if_true] at h ⊢; obtain ⟨vs, h1, h2⟩ := h; exact ⟨vs, h1, RepR.mono hIJ row vs F h2⟩
    | false => simp only [Bool.false_eq_true, if_false] at h ⊢; exact RepR.mono hIJ row _ F h
  | tup ps =>
    simp only [RepRes] at h ⊢
    obtain ⟨us, h1, h2⟩ := h
    exact ⟨us, h1, RepT.mono hIJ ps us F h2⟩
  | _ => simp only [RepRes] at h
theorem RepRes.repV {w : World} {I : Nat → Prop} {st : St} {a : Act} {r : SV} {v : Value} {F : List Nat} (h : RepRes w I r v F) : RepV w I st a r v F := by
  cases r with
  | val g row => exact RepV_val.2 h
  | tup ps => simpa only [RepRes, RepV] using h
  | _ => simp only [RepRes] at h

/-- CONTRACT: function f, called with what ps tells, returns what res tells, and writes nothing that was there. -/
def Sat (P : Program) (G : Glob) (f : FuncId) (ps : List SV) (res : SV) : Prop :=
  (∃ fn c, P.funcs[f]? = some fn ∧ (fn.name == "runtime.NumGoroutine") = false ∧ fn.body = some c) ∧
  ∀ (w : World) (I : Nat → Prop) (vs : List Value), G w → (∀ g, I g → g < w.heap.size) → RepA w I ps vs →
    Calls P f vs.toArray w fun e w' => ∃ v I' F', e = .returned v ∧ Below w.heap.size w w' ∧ (∀ g, I' g → I g ∨ w.heap.size ≤ g) ∧ (∀ g, I g → I' g) ∧ (∀ g, I' g → g < w'.heap.size) ∧
      RepRes w' I' res v F' ∧ F'.Nodup ∧ ∀ g ∈ F', w.heap.size ≤ g ∧ g < w'.heap.size ∧ ¬ I' g

/-- An argument, as the callee sees it; and: does the caller own part of it? -/
def argOf (st : St) : Operand → Option (SV × Bool)
  | .const (.agg cs) => some (.val true (cs.toList.map .v), false)
  | .const v => some (.val false [.v v], false)
  | .func f => some (.fn f [], false)
  | .tmp t =>
    match st.get t with
    | .val g row => if rowOwn row then some (.val g (frzR row), true) else some (.val g row, false)
    | .al d off =>
      match st.cell d off with
      | some (.l (some _) k rows) => some (.val false [.l none k (frzRs rows)], true)
      | _ => none
    | .ep row off => some (.ep row off, false)
    | .fn f caps => some (.fn f caps, false)
    | .box _ row => some (.ep (frzR row) 0, true)
    | .ptr d off =>
      match st.get d with
      | .box _ row => some (.ep (frzR row) off, true)
      | _ => none
    | _ => none
  | _ => none
def argsOf (st : St) : List Operand → Option (List SV × Bool)
  | [] => some ([], false)
  | x :: r =>
    match argOf st x, argsOf st r with
    | some (p, b), some (ps, c) => if constOk x then some (p :: ps, b || c) else none
    | _, _ => none

section
variable {P : Program} {L : Lay} {G : Glob} {W0 : Base} {I0 : Nat → Prop} {n : Nat} {I : Nat → Prop} {F : Nat → List Nat} {X : List Nat} {st : St} {a : Act} {w : World}

theorem argOf_spec (h : InvX G W0 I0 n I F X st a w) {x : Operand} (hx : constOk x = true) {p : SV} {b : Bool} (ha : argOf st x = some (p, b)) :
    RepArg w (fun g => I g ∨ ∃ t, g ∈ F t) p (a.eval x) ∧ (b = false → RepArg w I p (a.eval x)) := by
  have up : ∀ {sv u}, RepArg w I sv u → RepArg w (fun g => I g ∨ ∃ t, g ∈ F t) sv u := fun hr => hr.mono (fun g hg => Or.inl hg)
  have boxed : ∀ {d off T row}, st.get d = .box T row → ∀ {u}, (∃ g, a.tmps[d]? = some (.pointer (some ⟨g, 0, none⟩)) ∧ u = .pointer (some ⟨g, off, none⟩)) → RepE w (fun g => I g ∨ ∃ t, g ∈ F t) (frzR row) off u := by
    rintro d off T row hg u ⟨g, hd, rfl⟩
    have hr := h.at hd
    rw [hg] at hr
    simp only [RepV] at hr
    obtain ⟨g', vs, F', hu, hgg, hr, hF⟩ := hr
    injection hu with hu
    injection hu with hu
    injection hu with hu _
    subst hu
    refine ⟨g, 0, vs, by rw [Nat.zero_add], Or.inr ⟨d, by rw [hF]; simp⟩, rangeAt_block (v1 := []) (v3 := []) hgg (by simp) rfl, ?_⟩
    exact RepR.freeze row vs F' _ (fun g hg => Or.inl hg) (fun g hg => Or.inr ⟨d, by rw [hF]; simp [hg]⟩) hr
  cases x with
  | const v =>
    have ht : ∃ g row, p = .val g row ∧ st.take (.const v) = some (g, row, st) ∧ b = false ∧ rowOwn row = false := by
      have hro : ∀ cs : List Value, rowOwn (cs.map .v) = false := by
        intro cs; induction cs with
        | nil => rfl
        | cons c r ih => simp [rowOwn, C.own, ih]
      unfold argOf at ha
      cases v <;> simp only [Option.some.injEq, Prod.mk.injEq] at ha <;> obtain ⟨rfl, rfl⟩ := ha <;> exact ⟨_, _, rfl, rfl, rfl, by first | exact hro _ | rfl⟩
    obtain ⟨g, row, rfl, ht, rfl, hno⟩ := ht
    obtain ⟨F1, F', _, hr, hh⟩ := h.take ht (constOk_spec hx)
    obtain ⟨_, rfl, _⟩ := hh hno
    exact ⟨up hr, fun _ => hr⟩
  | tmp t =>
    simp only [argOf] at ha
    split at ha
    · rename_i g row hg
      obtain ⟨hr, hu⟩ := h.live_val hg
      split at ha
      · rename_i ho
        simp only [Option.some.injEq, Prod.mk.injEq] at ha
        obtain ⟨rfl, rfl⟩ := ha
        refine ⟨?_, fun hh => by cases hh⟩
        simp only [RepArg]
        unfold RepG at hr ⊢
        cases g with
        | true =>
          simp only [if_true] at hr ⊢
          obtain ⟨vs, h1, h2⟩ := hr
          exact ⟨vs, h1, RepR.freeze row vs (F t) _ (fun g hg => Or.inl hg) (fun g hg => Or.inr ⟨t, hg⟩) h2⟩
        | false =>
          simp only [Bool.false_eq_true, if_false] at hr ⊢
          exact RepR.freeze row _ (F t) _ (fun g hg => Or.inl hg) (fun g hg => Or.inr ⟨t, hg⟩) hr
      · rename_i ho
        simp only [Option.some.injEq, Prod.mk.injEq] at ha
        obtain ⟨rfl, rfl⟩ := ha
        have hF : F t = [] := rowOwn_nil (by simpa using ho) hr.cells
        rw [hF] at hr
        exact ⟨up hr, fun _ => hr⟩
    · rename_i d off hg
      split at ha
      · rename_i e k rows hc
        simp only [Option.some.injEq, Prod.mk.injEq] at ha
        obtain ⟨rfl, rfl⟩ := ha
        refine ⟨?_, fun hh => by cases hh⟩
        obtain ⟨ud, uc, F1, Fc, F2, _, hFd, hr, _, he, _⟩ := list_own h (x := .tmp t) (d := d) (off := off) (e := e) (k := k) (rows := rows) (by simp only [St.list, hg, lsOf, hc])
        rw [he]
        simp only [RepArg, RepG, Bool.false_eq_true, if_false, RepR_single]
        exact RepC.freeze (.l (some e) k rows) uc Fc _ (fun g hg => Or.inl hg) (fun g hg => Or.inr ⟨d, by rw [hFd]; simp [hg]⟩) hr
      · cases ha
    · rename_i row off hg
      simp only [Option.some.injEq, Prod.mk.injEq] at ha
      obtain ⟨rfl, rfl⟩ := ha
      obtain ⟨u, hu, hr⟩ := h.live (t := t) (by rw [hg]; simp)
      rw [hg] at hr
      rw [eval_tmp hu]
      simp only [RepV] at hr
      exact ⟨up hr.2, fun _ => hr.2⟩
    · rename_i f caps hg
      simp only [Option.some.injEq, Prod.mk.injEq] at ha
      obtain ⟨rfl, rfl⟩ := ha
      obtain ⟨u, hu, hr⟩ := h.live (t := t) (by rw [hg]; simp)
      rw [hg] at hr
      rw [eval_tmp hu]
      simp only [RepV] at hr
      exact ⟨up hr.2, fun _ => hr.2⟩
    · rename_i T row hg
      simp only [Option.some.injEq, Prod.mk.injEq] at ha
      obtain ⟨rfl, rfl⟩ := ha
      refine ⟨?_, fun hh => by cases hh⟩
      obtain ⟨u, hu, hr⟩ := h.live (t := t) (by rw [hg]; simp)
      rw [hg] at hr
      rw [eval_tmp hu]
      simp only [RepV] at hr
      obtain ⟨g, _, _, rfl, _⟩ := hr
      exact boxed hg ⟨g, hu, rfl⟩
    · rename_i d off hg
      split at ha
      · rename_i T row hb
        simp only [Option.some.injEq, Prod.mk.injEq] at ha
        obtain ⟨rfl, rfl⟩ := ha
        refine ⟨?_, fun hh => by cases hh⟩
        obtain ⟨u, hu, hr⟩ := h.live (t := t) (by rw [hg]; simp)
        rw [hg] at hr
        rw [eval_tmp hu]
        simp only [RepV] at hr
        obtain ⟨_, g, h1, rfl, _⟩ := hr
        exact boxed hb ⟨g, h1, rfl⟩
      · cases ha
    · cases ha
  | global g => simp [argOf] at ha
  | func f =>
    simp only [argOf, Option.some.injEq, Prod.mk.injEq] at ha
    obtain ⟨rfl, rfl⟩ := ha
    have hr : RepArg w I (.fn f []) (a.eval (.func f)) := ⟨[], rfl, rfl⟩
    exact ⟨up hr, fun _ => hr⟩
theorem argsOf_spec (h : InvX G W0 I0 n I F X st a w) : ∀ {xs : List Operand} {ps : List SV} {b : Bool}, argsOf st xs = some (ps, b) →
    RepA w (fun g => I g ∨ ∃ t, g ∈ F t) ps (xs.map a.eval) ∧ (b = false → RepA w I ps (xs.map a.eval))
  | [], ps, b, ha => by
    simp only [argsOf, Option.some.injEq, Prod.mk.injEq] at ha
    obtain ⟨rfl, rfl⟩ := ha
    simp [RepA]
  | x :: r, ps, b, ha => by
    simp only [argsOf] at ha
    split at ha
    · rename_i p b1 ps' c h1 h2
      split at ha
      · rename_i hc
        simp only [Option.some.injEq, Prod.mk.injEq] at ha
        obtain ⟨rfl, rfl⟩ := ha
        obtain ⟨g1, g2⟩ := argOf_spec h hc h1
        obtain ⟨g3, g4⟩ := argsOf_spec h h2
        simp only [List.map_cons, RepA]
        refine ⟨⟨_, _, rfl, g1, g3⟩, fun hb => ?_⟩
        simp only [Bool.or_eq_false_iff] at hb
        exact ⟨_, _, rfl, g2 hb.1, g4 hb.2⟩
      · cases ha
    · cases ha

theorem callFunc_go {f : FuncId} {fn : Func} {c : Code} (hf : P.funcs[f]? = some fn) (hname : (fn.name == "runtime.NumGoroutine") = false) (hb : fn.body = some c) (args : Array Value) (w : World) :
    (callFunc f args).run P w = .ok (.enter f args) w := by
  have h1 : fn.name ≠ "runtime.NumGoroutine" := by simpa using hname
  simp [callFunc, hf, h1, hb]
/-- The call of a function that keeps its contract. -/
theorem call_core (hG0 : G W0.w) (hM : ∀ g, W0.M g → G.B ≤ g) (h : Inv G W0 I0 n st a w) {d : Nat} (hd : d < n) {f : FuncId} {ps : List SV} {vs : List Value} {b : Bool} {res : SV} {o : Oper} (ho : o.dst = some d)
    (hx : (∃ fn c, P.funcs[f]? = some fn ∧ (fn.name == "runtime.NumGoroutine") = false ∧ fn.body = some c) → execOp a.eval o = callFunc f vs.toArray)
    (ha : ∀ I F, InvX G W0 I0 n I F [] st a w → RepA w (fun g => I g ∨ ∃ t, g ∈ F t) ps vs ∧ (b = false → RepA w I ps vs)) (hs : Sat P G f ps res) (hb : b = false ∨ res.noImm)
    {K : Act → World → Prop} {Q : Exit → Act → World → Prop} (hK : ∀ a' w', Inv G W0 I0 n (st.put d res) a' w' → K a' w') :
    o.wp P a w K Q := by
  obtain ⟨I, F, h⟩ := h
  obtain ⟨g1, g2⟩ := ha I F h
  obtain ⟨⟨fn, c, hf, hname, hbody⟩, hcall⟩ := hs
  unfold Oper.wp
  rw [hx ⟨fn, c, hf, hname, hbody⟩, callFunc_go hf hname hbody, Oper.upon_enter, ho]
  have fin : ∀ (J : Nat → Prop) (v : Value) (I' : Nat → Prop) (F' : List Nat) (w' : World), (∀ g, J g → I g ∨ ∃ t, g ∈ F t) → (b = false → ∀ g, J g → I g) → Below w.heap.size w w' → (∀ g, I' g → J g ∨ w.heap.size ≤ g) → (∀ g, I' g → g < w'.heap.size) → RepRes w' I' res v F' → F'.Nodup → (∀ g ∈ F', w.heap.size ≤ g ∧ g < w'.heap.size ∧ ¬ I' g) →
      Inv G W0 I0 n (st.put d res) (a.put (some d) v) w' := by
    intro J v I' F' w' hJ hJ2 hbel hI' hIlt hr hn hF'
    have hbel0 : Bel W0 w w' := Bel.of_below hbel h.below.size
    have h1 := h.turn (w' := w') (X' := F') (G.mono _ _ h.glob (hbel.mono (G.lt _ h.glob))) hbel0 (fun g hg _ => hbel.block g hg) hn (fun g hg => Or.inr ⟨(hF' g hg).1, (hF' g hg).2.1⟩)
    rcases hb with hb | hb
    · have h2 := h1.more (J := fun g => I g ∨ I' g) (fun g hg => Or.inl hg) (fun g hg => by rcases hg with hg | hg; exact h1.Ilt g hg; exact hIlt g hg)
        (fun g hg => by
          rcases hg with hg | hg
          · exact h.Inew g hg
          · rcases hI' g hg with hg | hg
            · exact h.Inew g (hJ2 hb g hg)
            · right; exact Or.inl (Nat.le_trans h.below.size hg))
        (fun t g hg hh => by
          rcases hh with hh | hh
          · exact (h.Fok t g hg).2 hh
          · rcases hI' g hh with hh | hh
            · exact (h.Fok t g hg).2 (hJ2 hb g hh)
            · have := h.lt t g hg; omega)
        (fun g hg hh => by
          rcases hh with hh | hh
          · have := h.Ilt g hh; have := (hF' g hg).1; omega
          · exact (hF' g hg).2.2 hh)
      exact ⟨_, _, InvX.put (F' := F') (X := []) (by simpa using h2) hd (RepRes.mono (fun g hg => Or.inr hg) hr).repV⟩
    · exact ⟨I, _, InvX.put (F' := F') (X := []) (by simpa using h1) hd (RepRes.swap hb hr).repV⟩
  by_cases hbf : b = false
  · refine Calls.mono (hcall w I _ h.glob h.Ilt (g2 hbf)) ?_
    rintro e w' ⟨v, I', F', rfl, hbel, hI', _, hIlt, hr, hn, hF'⟩
    exact hK _ _ (fin I v I' F' w' (fun g hg => Or.inl hg) (fun _ g hg => hg) hbel hI' hIlt hr hn hF')
  · refine Calls.mono (hcall w _ _ h.glob (fun g hg => by rcases hg with hg | ⟨t, hg⟩; exact h.Ilt g hg; exact h.lt t g hg) g1) ?_
    rintro e w' ⟨v, I', F', rfl, hbel, hI', _, hIlt, hr, hn, hF'⟩
    exact hK _ _ (fin _ v I' F' w' (fun g hg => hg) (fun hh => absurd hh hbf) hbel hI' hIlt hr hn hF')
/-- A call of a function that the text names. -/
theorem call_wp (hG0 : G W0.w) (hM : ∀ g, W0.M g → G.B ≤ g) (h : Inv G W0 I0 n st a w) {d : Nat} (hd : d < n) {f : FuncId} {xs : Array Operand} {ps : List SV} {b : Bool} {res : SV} (ha : argsOf st xs.toList = some (ps, b)) (hs : Sat P G f ps res) (hb : b = false ∨ res.noImm)
    {K : Act → World → Prop} {Q : Exit → Act → World → Prop} (hK : ∀ a' w', Inv G W0 I0 n (st.put d res) a' w' → K a' w') {ats : Array TypeId} {ty : TypeId} {pos : String} {after : Array Edge} {guard : Option (Nat × Bool)} :
    (Oper.mk (some d) (.call { callee := .value (.func f), args := xs, argTypes := ats }) ty pos after guard).wp P a w K Q := by
  refine call_core hG0 hM h hd (vs := xs.toList.map a.eval) rfl ?_ (fun I F hI => argsOf_spec hI ha) hs hb hK
  intro _
  rw [execOp_call_go]
  congr 1
  apply Array.ext'
  simp
/-- A call of a function value. -/
theorem call_fn_wp (hG0 : G W0.w) (hM : ∀ g, W0.M g → G.B ≤ g) (h : Inv G W0 I0 n st a w) {d : Nat} (hd : d < n) {t : Nat} {f : FuncId} {caps : List Cap} (ht : st.get t = .fn f caps) {xs : Array Operand} {ps : List SV} {b : Bool} {res : SV} (ha : argsOf st xs.toList = some (ps, b)) (hs : Sat P G f (ps ++ caps.map Cap.arg) res) (hb : b = false ∨ res.noImm)
    {K : Act → World → Prop} {Q : Exit → Act → World → Prop} (hK : ∀ a' w', Inv G W0 I0 n (st.put d res) a' w' → K a' w') {ats : Array TypeId} {ty : TypeId} {pos : String} {after : Array Edge} {guard : Option (Nat × Bool)} :
    (Oper.mk (some d) (.call { callee := .value (.tmp t), args := xs, argTypes := ats }) ty pos after guard).wp P a w K Q := by
  obtain ⟨I1, F1, h1⟩ := h
  obtain ⟨u, hu, hr⟩ := h1.live (t := t) (by rw [ht]; simp)
  rw [ht] at hr
  simp only [RepV] at hr
  obtain ⟨_, us, rfl, _⟩ := hr
  refine call_core hG0 hM ⟨I1, F1, h1⟩ hd (vs := xs.toList.map a.eval ++ us) rfl ?_ (fun I F hI => ?_) hs hb hK
  · intro _
    have he : a.eval (.tmp t) = .func (.func f) #[] us.toArray := eval_tmp hu
    simp only [execOp, resolve, he, Deferred.ofValue, pure_bind, invoke]
    congr 1
    apply Array.ext'
    simp
  · have hr := hI.at hu
    rw [ht] at hr
    simp only [RepV] at hr
    obtain ⟨_, us', hus, hc⟩ := hr
    injection hus with _ _ hus
    obtain rfl : us = us' := by simpa using hus
    obtain ⟨g1, g2⟩ := argsOf_spec hI ha
    exact ⟨g1.append (RepCaps.mono (fun g hg => Or.inl hg) _ _ hc).args, fun hb => (g2 hb).append hc.args⟩
end
end Go.Proofs.Vm
