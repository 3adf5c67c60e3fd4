/- A part of the proof of the card: lemmas that the text with the card leans on (see there for what is proved, and under which conditions). -/
import Derived.Test.YtgjdionnbbnmpaaGreatDoorVmO
import Derived.BigCall
import Derived.Orders
set_option linter.unusedVariables false
set_option linter.unusedSimpArgs false
namespace Go.Proofs.Vm
open Go Go.RowKit

/-! ### One operation that calls no function -/
def evNil (st : St) (d : Nat) (x : Operand) : Option St :=
  match x with
  | .tmp t =>
    match st.get t with
    | .fn f caps => some (st.put d (.fn f caps))
    | sv =>
      match ptOf t sv with
      | some p => if p.names d then none else some (st.put d p)
      | none => none
  | _ => none
def capOf (st : St) : Operand → Option Cap
  | .const (.agg cs) => some (.val true (cs.toList.map .v))
  | .const v => some (.val false [.v v])
  | .tmp t =>
    match st.get t with
    | .val g row => if rowOwn row then none else some (.val g row)
    | .ep row 0 => some (.ptr row)
    | _ => none
  | _ => none
def capsOf (st : St) : List Operand → Option (List Cap)
  | [] => some []
  | x :: r =>
    match capOf st x, capsOf st r with
    | some c, some cs => if constOk x then some (c :: cs) else none
    | _, _ => none
def evFunc (st : St) (d : Nat) (fn : Fn) (first captured : List Operand) : Option St :=
  match fn, first, capsOf st captured with
  | .func f, [], some caps => some (st.put d (.fn f caps))
  | _, _, _ => none
def evBuiltin (L : Lay) (st : St) (d : Nat) (b : Builtin) (xs : List Operand) (ts : List TypeId) : Option (St × Prop) :=
  match b, xs, ts with
  | .len, [x], [T] => (evLen L st d T x).map fun s => (s, True)
  | .append, [s, x], [T, T'] => if T = T' ∧ constOk s = true ∧ constOk x = true then evAppend L st d T s x else none
  | .min, [x, y], _ =>
    match st.flat x, st.flat y with
    | some (.int k u), some (.int _ v) => some (st.put d (.val false [.v (.int k (if v < u then v else u))]), True)
    | _, _ => none
  | .max, [x, y], _ =>
    match st.flat x, st.flat y with
    | some (.int k u), some (.int _ v) => some (st.put d (.val false [.v (.int k (if v > u then v else u))]), True)
    | _, _ => none
  | _, _, _ => none
def evOp (n : Nat) (L : Lay) (st : St) (o : Oper) : Option (St × Prop) :=
  match o.dst with
  | none =>
    match o.op with
    | .store T x y => if constOk y then evStore L st T x y else none
    | _ => none
  | some d =>
    if d < n then
      match o.op with
      | .move x => if constOk x then (evMove st d x).map fun s => (s, True) else none
      | .assign x => if constOk x then (evAssign st d x).map fun s => (s, True) else none
      | .alloc T => (evAlloc L st d T).map fun s => (s, True)
      | .box T x => if constOk x then (evBox st d T x).map fun s => (s, True) else none
      | .build T ps => if ps.toList.all (fun p => constOk p.2) then (evBuild L st d T ps.toList).map fun s => (s, True) else none
      | .buildSlice T m ps => if ps.toList.all (fun p => constOk p.2) then (evBuildSlice L st d T m ps.toList).map fun s => (s, True) else none
      | .load T x => evLoad L st d T x
      | .nilCheck x => (evNil st d x).map fun s => (s, True)
      | .binOp op T x y _ => evBin L st d op T x y
      | .unOp op _ x => (evUn st d op x).map fun s => (s, True)
      | .convert S T x => evConvert L st d S T x
      | .makeSlice T x y => evMake L st d T x y
      | .fieldAddr T x f => (evFieldAddr L st d T x f).map fun s => (s, True)
      | .field T x f => evField L st d T x f
      | .indexAddr T x i => evIndexAddr L st d T x i
      | .index T x i => evIndex L st d T x i
      | .extract x i => (evExtract st d x i).map fun s => (s, True)
      | .makeFunc f first captured => (evFunc st d f first.toList captured.toList).map fun s => (s, True)
      | .call c =>
        match c.callee with
        | .builtin b => evBuiltin L st d b c.args.toList c.argTypes.toList
        | _ => none
      | _ => none
    else none

theorem wp_value {P : Program} {o : Oper} {a : Act} {w w' : World} {v : Value} {K : Act → World → Prop} {Q : Exit → Act → World → Prop} (hr : (execOp a.eval o).run P w = .ok (.value v) w') (hK : K (a.put o.dst v) w') : o.wp P a w K Q := by
  unfold Oper.wp
  rw [hr, Oper.upon_value]
  exact hK
theorem run_value {P : Program} {s : Sem Value} {w w' : World} {v : Value} (h : s.run P w = .ok v w') : (do pure (.value (← s)) : Sem Next).run P w = .ok (.value v) w' := by
  rw [Sem.run_bind, h]; rfl
theorem run_skip {P : Program} {s : Sem Unit} {w w' : World} (h : s.run P w = .ok () w') : (do s; pure .skip : Sem Next).run P w = .ok .skip w' := by
  rw [Sem.run_bind, h]; rfl

section
variable {P : Program} {L : Lay} (hL : L.ok P) {G : Glob} {W0 : Base} (hGW : ∀ w', Bel W0 W0.w w' → G w') {I0 : Nat → Prop} {n : Nat} {I : Nat → Prop} {F : Nat → List Nat} {X : List Nat} {st : St} {a : Act} {w : World}

theorem ev_nil (h : Inv G W0 I0 n st a w) {d : Nat} (hd : d < n) {x : Operand} {st' : St} (he : evNil st d x = some st') : ((∃ A, a.eval x = .pointer (some A)) ∨ ∃ f us, a.eval x = .func (.func f) #[] us) ∧ Inv G W0 I0 n st' (a.put (some d) (a.eval x)) w := by
  obtain ⟨I, F, h⟩ := h
  cases x with
  | tmp t =>
    simp only [evNil] at he
    split at he
    · rename_i f caps hg
      injection he with he
      subst he
      obtain ⟨u, hu, hr⟩ := h.live (t := t) (by rw [hg]; simp)
      rw [hg] at hr
      have hF : F t = [] := by simp only [RepV] at hr; exact hr.1
      rw [hF] at hr
      rw [eval_tmp hu]
      refine ⟨Or.inr ?_, h.put_nil hd rfl hr⟩
      simp only [RepV] at hr
      obtain ⟨_, us, rfl, _⟩ := hr
      exact ⟨f, _, rfl⟩
    · split at he
      · rename_i p hp
        split at he
        · cases he
        · rename_i hn
          injection he with he
          subst he
          have hr := pt_value h hp
          refine ⟨Or.inl ?_, h.put_nil hd (by simpa using hn) hr⟩
          rcases ptOf_cases hp with ⟨e, off, rfl⟩ | ⟨r, off, rfl⟩ | ⟨e, off, i', j, rfl⟩
          · simp only [RepV] at hr; obtain ⟨_, g, _, hv, _⟩ := hr; exact ⟨_, hv⟩
          · simp only [RepV] at hr; obtain ⟨_, g, o, vs, hv, _⟩ := hr; exact ⟨_, hv⟩
          · simp only [RepV] at hr; obtain ⟨_, ud, g, m, c, h1, h2, e', k, rows, h3, hi, hv⟩ := hr; exact ⟨_, hv⟩
      · cases he
  | const v => simp [evNil] at he
  | global g => simp [evNil] at he
  | func f => simp [evNil] at he
theorem capOf_spec (h : InvX G W0 I0 n I F X st a w) {x : Operand} (hx : constOk x = true) {c : Cap} (hc : capOf st x = some c) : ∀ us caps, RepCaps w I caps us → RepCaps w I (c :: caps) (a.eval x :: us) := by
  intro us caps hcs
  cases x with
  | const v =>
    have ht : ∃ g row, c = .val g row ∧ st.take (.const v) = some (g, row, st) ∧ rowOwn row = false := by
      have hro : ∀ cs : List Value, rowOwn (cs.map .v) = false := by
        intro cs; induction cs with
        | nil => rfl
        | cons c r ih => simp [rowOwn, C.own, ih]
      unfold capOf at hc
      cases v <;> simp only [Option.some.injEq] at hc <;> subst hc <;> exact ⟨_, _, rfl, rfl, by first | exact hro _ | rfl⟩
    obtain ⟨g, row, rfl, ht, hno⟩ := ht
    obtain ⟨F1, F', _, hr, hh⟩ := h.take ht (constOk_spec hx)
    obtain ⟨_, rfl, _⟩ := hh hno
    simp only [RepCaps]
    exact ⟨_, us, rfl, hr, hcs⟩
  | tmp t =>
    simp only [capOf] at hc
    split at hc
    · rename_i g row hg
      obtain ⟨hr, hu⟩ := h.live_val hg
      split at hc
      · cases hc
      · rename_i ho
        injection hc with hc
        subst hc
        have hF : F t = [] := rowOwn_nil (by simpa using ho) hr.cells
        rw [hF] at hr
        simp only [RepCaps]
        exact ⟨_, us, rfl, hr, hcs⟩
    · rename_i row hg
      injection hc with hc
      subst hc
      obtain ⟨u, hu, hr⟩ := h.live (t := t) (by rw [hg]; simp)
      rw [hg] at hr
      rw [eval_tmp hu]
      simp only [RepV] at hr
      simp only [RepCaps]
      exact ⟨_, us, rfl, hr.2, hcs⟩
    · cases hc
  | global g => simp [capOf] at hc
  | func f => simp [capOf] at hc
theorem capsOf_spec (h : InvX G W0 I0 n I F X st a w) : ∀ {xs : List Operand} {caps : List Cap}, capsOf st xs = some caps → RepCaps w I caps (xs.map a.eval)
  | [], caps, hc => by
    simp only [capsOf, Option.some.injEq] at hc
    subst hc
    simp [RepCaps]
  | x :: r, caps, hc => by
    simp only [capsOf] at hc
    split at hc
    · rename_i c cs h1 h2
      split at hc
      · rename_i hok
        injection hc with hc
        subst hc
        exact capOf_spec h hok h1 _ _ (capsOf_spec h h2)
      · cases hc
    · cases hc
theorem ev_func (h : Inv G W0 I0 n st a w) {d : Nat} (hd : d < n) {f : Fn} {first captured : Array Operand} {st' : St} (he : evFunc st d f first.toList captured.toList = some st') :
    ∃ v, (Instr.makeFunc f (first.map a.eval) (captured.map a.eval)).run P w = .ok v w ∧ Inv G W0 I0 n st' (a.put (some d) v) w := by
  obtain ⟨I, F, h⟩ := h
  unfold evFunc at he
  split at he
  · rename_i fid caps hf hcs
    injection he with he
    subst he
    obtain ⟨first⟩ := first
    obtain ⟨captured⟩ := captured
    simp only at hf hcs
    subst hf
    refine ⟨_, rfl, h.put_nil hd rfl ?_⟩
    simp only [RepV]
    exact ⟨trivial, captured.map a.eval, by simp, capsOf_spec h hcs⟩
  · cases he

include hL hGW
theorem evBuiltin_run (h : Inv G W0 I0 n st a w) {d : Nat} (hd : d < n) {b : Builtin} {xs : Array Operand} {ts : Array TypeId} {ty : TypeId} {cs : Array Bool} {st' : St} {p : Prop} (he : evBuiltin L st d b xs.toList ts.toList = some (st', p)) (hp : p) :
    ∃ v w', (builtin b ts ty cs (xs.map a.eval)).run P w = .ok (.value v) w' ∧ Inv G W0 I0 n st' (a.put (some d) v) w' := by
  obtain ⟨xs⟩ := xs
  obtain ⟨ts⟩ := ts
  simp only at he
  unfold evBuiltin at he
  split at he
  · rw [Option.map_eq_some_iff] at he
    obtain ⟨s, hs, he⟩ := he
    simp only [Prod.mk.injEq] at he
    obtain ⟨rfl, rfl⟩ := he
    obtain ⟨v, hr, hI⟩ := ev_len hL h hd (ty := ty) hs
    exact ⟨v, w, run_value (by simpa using hr), hI⟩
  · split at he
    · rename_i hc
      obtain ⟨rfl, h1, h2⟩ := hc
      obtain ⟨v, w', hr, hI⟩ := ev_append hL hGW h hd (ty := ty) h1 h2 he hp
      exact ⟨v, w', run_value (by simpa using hr), hI⟩
    · cases he
  · split at he
    · rename_i k u k' v hu hv
      simp only [Option.some.injEq, Prod.mk.injEq] at he
      obtain ⟨rfl, rfl⟩ := he
      obtain ⟨I, F, h⟩ := h
      refine ⟨_, w, run_value (s := Builtin.min_ ts.toArray ty _) ?_, put_flat h hd rfl⟩
      simp [Builtin.min_, flat_spec h hu, flat_spec h hv, Builtin.min2]
    · cases he
  · split at he
    · rename_i k u k' v hu hv
      simp only [Option.some.injEq, Prod.mk.injEq] at he
      obtain ⟨rfl, rfl⟩ := he
      obtain ⟨I, F, h⟩ := h
      refine ⟨_, w, run_value (s := Builtin.max_ ts.toArray ty _) ?_, put_flat h hd rfl⟩
      simp [Builtin.max_, flat_spec h hu, flat_spec h hv, Builtin.max2]
    · cases he
  · cases he

theorem evOp_wp (h : Inv G W0 I0 n st a w) {o : Oper} {st' : St} {p : Prop} (he : evOp n L st o = some (st', p)) (hp : p) {K : Act → World → Prop} {Q : Exit → Act → World → Prop} (hK : ∀ a' w', Inv G W0 I0 n st' a' w' → K a' w') : o.wp P a w K Q := by
  obtain ⟨dst, op, type, pos, after, guard⟩ := o
  cases dst with
  | none =>
    cases op <;> simp only [evOp] at he <;> first | (cases he; done) | skip
    split at he
    · rename_i hc
      obtain ⟨w', hr, hI⟩ := ev_store hL hGW h hc he hp
      unfold Oper.wp
      have hr2 := run_skip hr
      simp only [execOp]
      rw [hr2, Oper.upon_skip]
      exact hK _ _ hI
    · cases he
  | some d =>
    simp only [evOp] at he
    split at he
    · rename_i hd
      have val : ∀ {s : Sem Value} {w' : World} {v : Value} {o : Oper}, execOp a.eval o = (do pure (.value (← s))) → o.dst = some d → s.run P w = .ok v w' → Inv G W0 I0 n st' (a.put (some d) v) w' → o.wp P a w K Q := by
        intro s w' v o h1 h2 h3 h4
        exact wp_value (by rw [h1]; exact run_value h3) (by rw [h2]; exact hK _ _ h4)
      have mp : ∀ {x : Option St}, (x.map fun s => (s, True)) = some (st', p) → x = some st' := by
        intro x hx
        rw [Option.map_eq_some_iff] at hx
        obtain ⟨s, hs, hx⟩ := hx
        simp only [Prod.mk.injEq] at hx
        rw [hs, hx.1]
      cases op <;> simp only at he <;> first | (cases he; done) | skip
      case move x =>
        split at he
        · rename_i hc
          exact wp_value (w' := w) (v := a.eval x) rfl (hK _ _ (ev_move h hd hc (mp he)))
        · cases he
      case assign x =>
        split at he
        · rename_i hc
          exact wp_value (w' := w) (v := a.eval x) rfl (hK _ _ (ev_assign h hd hc (mp he)))
        · cases he
      case alloc T =>
        obtain ⟨v, w', hr, hI⟩ := ev_alloc hL hGW h hd (mp he)
        exact val rfl rfl hr hI
      case box T x =>
        split at he
        · rename_i hc
          obtain ⟨v, w', hr, hI⟩ := ev_box hGW h hd hc (mp he)
          exact val rfl rfl hr hI
        · cases he
      case build T ps =>
        split at he
        · rename_i hc
          obtain ⟨v, hr, hI⟩ := ev_build hL h hd (fun p hp => List.all_eq_true.1 hc p hp) (mp he)
          exact val rfl rfl hr hI
        · cases he
      case buildSlice T m ps =>
        split at he
        · rename_i hc
          obtain ⟨v, w', hr, hI⟩ := ev_buildSlice hL hGW h hd (fun p hp => List.all_eq_true.1 hc p hp) (mp he)
          exact val rfl rfl hr hI
        · cases he
      case load T x =>
        obtain ⟨v, hr, hI⟩ := ev_load hL h hd he hp
        exact val rfl rfl hr hI
      case nilCheck x =>
        obtain ⟨⟨A, hA⟩ | ⟨f, us, hA⟩, hI⟩ := ev_nil h hd (mp he)
        · rw [hA] at hI
          refine wp_value (w' := w) (v := .pointer (some A)) ?_ (hK _ _ hI)
          simp only [execOp, hA]
          rfl
        · rw [hA] at hI
          refine wp_value (w' := w) (v := .func (.func f) #[] us) ?_ (hK _ _ hI)
          simp only [execOp, hA]
          rfl
      case binOp op T x y T2 =>
        obtain ⟨v, hr, hI⟩ := ev_bin hL h hd he hp
        exact val rfl rfl hr hI
      case unOp op T x =>
        obtain ⟨v, hr, hI⟩ := ev_un h hd (mp he)
        exact val rfl rfl hr hI
      case convert S T x =>
        obtain ⟨v, hr, hI⟩ := ev_convert hL h hd he hp
        exact val rfl rfl hr hI
      case makeSlice T x y =>
        obtain ⟨v, w', hr, hI⟩ := ev_make hL hGW h hd he hp
        exact val rfl rfl hr hI
      case fieldAddr T x f =>
        obtain ⟨v, hr, hI⟩ := ev_fieldAddr hL h hd (mp he)
        exact val rfl rfl hr hI
      case field T x f =>
        obtain ⟨v, hr, hI⟩ := ev_field hL h hd he hp
        exact val rfl rfl hr hI
      case indexAddr T x i =>
        obtain ⟨v, hr, hI⟩ := ev_indexAddr hL h hd he hp
        exact val rfl rfl hr hI
      case index T x i =>
        obtain ⟨v, hr, hI⟩ := ev_index hL h hd he hp
        exact val rfl rfl hr hI
      case extract x i =>
        obtain ⟨v, hr, hI⟩ := ev_extract h hd (mp he)
        exact val rfl rfl hr hI
      case makeFunc f first captured =>
        obtain ⟨v, hr, hI⟩ := ev_func h hd (mp he)
        exact val rfl rfl hr hI
      case call c =>
        obtain ⟨callee, args, argTypes⟩ := c
        cases callee <;> simp only at he <;> first | (cases he; done) | skip
        obtain ⟨v, w', hr, hI⟩ := evBuiltin_run hL hGW h hd (ty := type) (cs := args.map fun | .const _ => true | _ => false) he hp
        exact wp_value hr (hK _ _ hI)
    · cases he
end
/-! ### A struct that owns lists, loaded whole: from now on nobody writes them -/
def evLoadFreeze (L : Lay) (st : St) (d : Nat) (T : TypeId) (x : Operand) : Option St :=
  match x with
  | .tmp t =>
    match ptOf t (st.get t), L T with
    | some (.ptr e off), some ti =>
      match st.get e with
      | .box T' row =>
        if ti.agg = true ∧ e ≠ d ∧ off + ti.size ≤ row.length ∧ rowOwn (frzR ((row.drop off).take ti.size)) = false then
          some (((St.killSeg e off ti.size st).set e (.box T' (splice row off (frzR ((row.drop off).take ti.size))))).put d (.val true (frzR ((row.drop off).take ti.size))))
        else none
      | _ => none
    | _, _ => none
  | _ => none
theorem goneR_own : ∀ (row : List C) (o : Nat) (e : TypeId) (k : Nat) (rows : List (List C)), (goneR row)[o]? ≠ some (.l (some e) k rows) := by
  intro row o e k rows h
  unfold goneR at h
  rw [List.getElem?_map, Option.map_eq_some_iff] at h
  obtain ⟨c, _, hc⟩ := h
  split at hc
  · cases hc
  · rename_i hn; rw [hc] at hn; simp [C.own] at hn
section
variable {P : Program} {L : Lay} (hL : L.ok P) {G : Glob} {W0 : Base} {I0 : Nat → Prop} {n : Nat} {st : St} {a : Act} {w : World}
include hL
theorem ev_loadFreeze (h : Inv G W0 I0 n st a w) {d : Nat} (hd : d < n) {T : TypeId} {x : Operand} {st' : St} (he : evLoadFreeze L st d T x = some st') :
    ∃ v, (Instr.loadAt T (a.eval x)).run P w = .ok v w ∧ Inv G W0 I0 n st' (a.put (some d) v) w := by
  obtain ⟨I, F, h⟩ := h
  cases x with
  | tmp t =>
    simp only [evLoadFreeze] at he
    split at he
    · rename_i e off ti hpt hti
      obtain ⟨i, dd, z, hs⟩ := hL.spec hti
      have hr := pt_value h hpt
      simp only [RepV] at hr
      obtain ⟨_, g, hte, hv, _⟩ := hr
      rw [hv]
      split at he
      · rename_i T' row hbx
        split at he
        · rename_i hc
          obtain ⟨hagg, hed, hlen, hno⟩ := hc
          injection he with he
          subst he
          have hbox := h.at hte
          rw [hbx] at hbox
          simp only [RepV] at hbox
          obtain ⟨g', vs, F', hgg', hg, hrr, hF⟩ := hbox
          injection hgg' with hgg'
          injection hgg' with hgg'
          injection hgg' with hgg' _
          subst hgg'
          obtain ⟨v1, v2, v3, A, B, D, hvs, hF', hl1, hl2, q1, hr2, q3⟩ := RepR_mid hrr off ti.size hlen
          have hra : w.rangeAt g off v2 := rangeAt_block hg (by simpa using hvs) hl1
          have hrun := run_loadAt_mid (P := P) w g off T v2 dd hra hs.under (by rw [hs.agg]; exact hagg) (by rw [hs.info]; simp [hs.size, hl2])
          refine ⟨_, hrun, ?_⟩
          have hgl : (goneR ((row.drop off).take ti.size)).length = ti.size := by simp [goneR]; omega
          have hfl : (frzR ((row.drop off).take ti.size)).length = ti.size := by rw [frzR_length]; simp; omega
          have hnew : RepR w I (splice row off (goneR ((row.drop off).take ti.size))) vs (A ++ ([] ++ D)) := by
            rw [hvs]
            unfold splice
            rw [hgl]
            exact RepR_append.2 ⟨v1, v2 ++ v3, A, [] ++ D, rfl, rfl, q1, RepR_append.2 ⟨v2, v3, [], D, rfl, rfl, goneR_rep hr2, q3⟩⟩
          have hnodB : B.Nodup := by
            have h0 := h.nodup e
            rw [hF, hF'] at h0
            exact (List.nodup_append.1 (List.nodup_append.1 (List.nodup_cons.1 h0).2).2.1).1
          have h1 := h.refit (d := e) (F1 := g :: A) (Fc := B) (F2 := D) (Fc' := []) (X' := B) (st' := (St.killSeg e off ti.size st).set e (.box T' (splice row off (goneR ((row.drop off).take ti.size))))) hte (by rw [hF, hF']; simp)
            hnodB (by simp) h.glob (Bel.refl _ _) (fun _ _ => rfl) (fun _ _ _ _ => rfl)
            (by
              rw [St.get_set, if_pos rfl]
              simp only [RepV]
              exact ⟨g, vs, A ++ ([] ++ D), rfl, hg, hnew, by simp⟩)
            (by
              intro s hse
              rw [St.get_set, if_neg (fun e' => hse e'.symm), killSeg_get]
              by_cases hk : ∃ j, j < ti.size ∧ (st.get s).namesAt e (off + j) = true
              · left
                rw [if_pos hk]
                obtain ⟨j, _, hn⟩ := hk
                refine ⟨rfl, SV.names_not_root (SV.namesAt_names hn), ?_⟩
                have h3 := h.rep s
                unfold RepS at h3
                cases hx : a.tmps[s]? with
                | none => rw [hx] at h3; exact h3.2
                | some y' => rw [hx] at h3; exact h3.namesAt_nil hn
              · right
                rw [if_neg hk]
                refine ⟨rfl, fun o ho => ⟨rfl, fun e' k rows hc => ?_⟩⟩
                have hout : o < off ∨ off + ti.size ≤ o := by
                  by_cases h4 : o < off
                  · exact Or.inl h4
                  · by_cases h5 : off + ti.size ≤ o
                    · exact Or.inr h5
                    · exact absurd ⟨o - off, by omega, by rw [show off + (o - off) = o from by omega]; exact ho⟩ hk
                refine ⟨rows, ?_, rfl⟩
                unfold St.cell at hc ⊢
                rw [hbx] at hc
                rw [St.get_set, if_pos rfl]
                simp only at hc ⊢
                rw [splice_out (by rw [hgl]; exact hlen) (by rw [hgl]; exact hout)]
                exact hc)
            (by
              intro T2 row2 hb2
              rw [St.get_set, if_pos rfl]
              rw [hbx] at hb2
              injection hb2 with hb2 _
              subst hb2
              exact ⟨_, rfl⟩)
          have hBF : ∀ q ∈ B, q ∈ F e := fun q hq => by rw [hF, hF']; simp [hq]
          have h3 := (h1.less List.nodup_nil (by simp)).more (J := fun q => I q ∨ q ∈ B) (fun q hq => Or.inl hq)
            (fun q hq => by rcases hq with hq | hq; exact h.Ilt q hq; exact h.lt e q (hBF q hq))
            (fun q hq => by rcases hq with hq | hq; exact h.Inew q hq; exact Or.inr (h.Fok e q (hBF q hq)).1)
            (fun t q hq hh => by rcases hh with hh | hh; exact (h1.Fok t q hq).2 hh; exact h1.xapart t q hq hh) (by simp)
          have hfz : RepR w (fun q => I q ∨ q ∈ B) (frzR ((row.drop off).take ti.size)) v2 [] := RepR.freeze _ v2 B _ (fun q hq => Or.inl hq) (fun q hq => Or.inr hq) hr2
          have hnew2 : RepR w (fun q => I q ∨ q ∈ B) (splice row off (frzR ((row.drop off).take ti.size))) vs (A ++ ([] ++ D)) := by
            rw [hvs]
            unfold splice
            rw [hfl]
            exact RepR_append.2 ⟨v1, v2 ++ v3, A, [] ++ D, rfl, rfl, RepR.mono (fun q hq => Or.inl hq) _ _ _ q1, RepR_append.2 ⟨v2, v3, [], D, rfl, rfl, hfz, RepR.mono (fun q hq => Or.inl hq) _ _ _ q3⟩⟩
          have h4 := h3.refit (d := e) (F1 := g :: A) (Fc := []) (F2 := D) (Fc' := []) (X' := []) (st' := (St.killSeg e off ti.size st).set e (.box T' (splice row off (frzR ((row.drop off).take ti.size))))) hte (by simp)
            (by simp) (by simp) h.glob (Bel.refl _ _) (fun _ _ => rfl) (fun _ _ _ _ => rfl)
            (by
              rw [St.get_set, if_pos rfl]
              simp only [RepV]
              exact ⟨g, vs, A ++ ([] ++ D), rfl, hg, hnew2, by simp⟩)
            (by
              intro s hse
              right
              rw [St.get_set, if_neg (fun e' => hse e'.symm), St.get_set, if_neg (fun e' => hse e'.symm)]
              refine ⟨rfl, fun o ho => ⟨rfl, fun e' k rows hc => ?_⟩⟩
              refine ⟨rows, ?_, rfl⟩
              unfold St.cell at hc ⊢
              rw [St.get_set, if_pos rfl] at hc ⊢
              simp only at hc ⊢
              by_cases hin : off ≤ o ∧ o < off + ti.size
              · exfalso
                unfold splice at hc
                rw [List.getElem?_append_right (by simp; omega), List.getElem?_append_left (by rw [hgl]; simp; omega)] at hc
                exact goneR_own _ _ _ _ _ hc
              · have hout : o < off ∨ off + ti.size ≤ o := by omega
                rw [splice_out (by rw [hgl]; exact hlen) (by rw [hgl]; exact hout)] at hc
                rw [splice_out (by rw [hfl]; exact hlen) (by rw [hfl]; exact hout)]
                exact hc)
            (by
              intro T2 row2 hb2
              rw [St.get_set, if_pos rfl]
              rw [St.get_set, if_pos rfl] at hb2
              injection hb2 with hb2 _
              subst hb2
              exact ⟨_, rfl⟩)
          refine InvX.put_val (F' := []) (g := true) h4 hd ?_
          simp only [RepG, if_true]
          exact ⟨v2, rfl, hfz⟩
        · cases he
      · cases he
    · cases he
  | const v => simp [evLoadFreeze] at he
  | global g => simp [evLoadFreeze] at he
  | func f => simp [evLoadFreeze] at he
end
/-! ### A struct that owns lists, loaded whole: moved out of its box -/
def evLoadMove (L : Lay) (st : St) (d : Nat) (T : TypeId) (x : Operand) : Option St :=
  match x with
  | .tmp t =>
    match ptOf t (st.get t), L T with
    | some (.ptr e off), some ti =>
      match st.get e with
      | .box T' row =>
        if ti.agg = true ∧ e ≠ d ∧ off + ti.size ≤ row.length then
          some (((St.killSeg e off ti.size st).set e (.box T' (splice row off (goneR ((row.drop off).take ti.size))))).put d (.val true ((row.drop off).take ti.size)))
        else none
      | _ => none
    | _, _ => none
  | _ => none
def evMoveOp (fr : Bool) (n : Nat) (L : Lay) (st : St) (o : Oper) : Option St :=
  match o.op, o.dst with
  | .load T x, some d => if d < n then (if fr then evLoadFreeze L st d T x else evLoadMove L st d T x) else none
  | _, _ => none

section
variable {P : Program} {L : Lay} (hL : L.ok P) {G : Glob} {W0 : Base} {I0 : Nat → Prop} {n : Nat} {st : St} {a : Act} {w : World}
include hL
theorem ev_loadMove (h : Inv G W0 I0 n st a w) {d : Nat} (hd : d < n) {T : TypeId} {x : Operand} {st' : St} (he : evLoadMove L st d T x = some st') :
    ∃ v, (Instr.loadAt T (a.eval x)).run P w = .ok v w ∧ Inv G W0 I0 n st' (a.put (some d) v) w := by
  obtain ⟨I, F, h⟩ := h
  cases x with
  | tmp t =>
    simp only [evLoadMove] at he
    split at he
    · rename_i e off ti hpt hti
      obtain ⟨i, dd, z, hs⟩ := hL.spec hti
      have hr := pt_value h hpt
      simp only [RepV] at hr
      obtain ⟨_, g, hte, hv, _⟩ := hr
      rw [hv]
      split at he
      · rename_i T' row hbx
        split at he
        · rename_i hc
          obtain ⟨hagg, hed, hlen⟩ := hc
          injection he with he
          subst he
          have hbox := h.at hte
          rw [hbx] at hbox
          simp only [RepV] at hbox
          obtain ⟨g', vs, F', hgg', hg, hrr, hF⟩ := hbox
          injection hgg' with hgg'
          injection hgg' with hgg'
          injection hgg' with hgg' _
          subst hgg'
          obtain ⟨v1, v2, v3, A, B, D, hvs, hF', hl1, hl2, q1, hr2, q3⟩ := RepR_mid hrr off ti.size hlen
          have hra : w.rangeAt g off v2 := rangeAt_block hg (by simpa using hvs) hl1
          have hrun := run_loadAt_mid (P := P) w g off T v2 dd hra hs.under (by rw [hs.agg]; exact hagg) (by rw [hs.info]; simp [hs.size, hl2])
          refine ⟨_, hrun, ?_⟩
          have hgl : (goneR ((row.drop off).take ti.size)).length = ti.size := by simp [goneR]; omega
          have hnew : RepR w I (splice row off (goneR ((row.drop off).take ti.size))) vs (A ++ ([] ++ D)) := by
            rw [hvs]
            unfold splice
            rw [hgl]
            exact RepR_append.2 ⟨v1, v2 ++ v3, A, [] ++ D, rfl, rfl, q1, RepR_append.2 ⟨v2, v3, [], D, rfl, rfl, goneR_rep hr2, q3⟩⟩
          have h1 := h.refit (d := e) (F1 := g :: A) (Fc := B) (F2 := D) (Fc' := []) (X' := B) (st' := (St.killSeg e off ti.size st).set e (.box T' (splice row off (goneR ((row.drop off).take ti.size))))) hte (by rw [hF, hF']; simp)
            (by
              have h0 := h.nodup e
              rw [hF, hF'] at h0
              exact (List.nodup_append.1 (List.nodup_append.1 (List.nodup_cons.1 h0).2).2.1).1)
            (by simp) h.glob (Bel.refl _ _) (fun _ _ => rfl) (fun _ _ _ _ => rfl)
            (by
              rw [St.get_set, if_pos rfl]
              simp only [RepV]
              exact ⟨g, vs, A ++ ([] ++ D), rfl, hg, hnew, by simp⟩)
            (by
              intro s hse
              rw [St.get_set, if_neg (fun e' => hse e'.symm), killSeg_get]
              by_cases hk : ∃ j, j < ti.size ∧ (st.get s).namesAt e (off + j) = true
              · left
                rw [if_pos hk]
                obtain ⟨j, _, hn⟩ := hk
                refine ⟨rfl, SV.names_not_root (SV.namesAt_names hn), ?_⟩
                have h3 := h.rep s
                unfold RepS at h3
                cases hx : a.tmps[s]? with
                | none => rw [hx] at h3; exact h3.2
                | some y' => rw [hx] at h3; exact h3.namesAt_nil hn
              · right
                rw [if_neg hk]
                refine ⟨rfl, fun o ho => ⟨rfl, fun e' k rows hc => ?_⟩⟩
                have hout : o < off ∨ off + ti.size ≤ o := by
                  by_cases h4 : o < off
                  · exact Or.inl h4
                  · by_cases h5 : off + ti.size ≤ o
                    · exact Or.inr h5
                    · exact absurd ⟨o - off, by omega, by rw [show off + (o - off) = o from by omega]; exact ho⟩ hk
                refine ⟨rows, ?_, rfl⟩
                unfold St.cell at hc ⊢
                rw [hbx] at hc
                rw [St.get_set, if_pos rfl]
                simp only at hc ⊢
                rw [splice_out (by rw [hgl]; exact hlen) (by rw [hgl]; exact hout)]
                exact hc)
            (by
              intro T2 row2 hb2
              rw [St.get_set, if_pos rfl]
              rw [hbx] at hb2
              injection hb2 with hb2 _
              subst hb2
              exact ⟨_, rfl⟩)
          refine InvX.put_val (F' := B) (g := true) (by simpa using h1) hd ?_
          simp only [RepG, if_true]
          exact ⟨v2, rfl, hr2⟩
        · cases he
      · cases he
    · cases he
  | const v => simp [evLoadMove] at he
  | global g => simp [evLoadMove] at he
  | func f => simp [evLoadMove] at he
theorem evMoveOp_wp (h : Inv G W0 I0 n st a w) {fr : Bool} {o : Oper} {st' : St} (he : evMoveOp fr n L st o = some st') {K : Act → World → Prop} {Q : Exit → Act → World → Prop} (hK : ∀ a' w', Inv G W0 I0 n st' a' w' → K a' w') : o.wp P a w K Q := by
  obtain ⟨dst, op, type, pos, after, guard⟩ := o
  unfold evMoveOp at he
  split at he
  · rename_i T x d ho hdst
    simp only at ho hdst
    subst ho; subst hdst
    split at he
    · rename_i hd
      split at he
      · obtain ⟨v, hr, hI⟩ := ev_loadFreeze hL h hd he
        exact wp_value (run_value hr) (hK _ _ hI)
      · obtain ⟨v, hr, hI⟩ := ev_loadMove hL h hd he
        exact wp_value (run_value hr) (hK _ _ hI)
    · cases he
  · cases he
end
end Go.Proofs.Vm
