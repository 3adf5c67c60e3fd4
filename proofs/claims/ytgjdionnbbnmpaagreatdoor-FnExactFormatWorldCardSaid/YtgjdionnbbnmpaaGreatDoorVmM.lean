/- A part of the proof of the card: lemmas that the text with the card leans on (see there for what is proved, and under which conditions). -/
import Derived.Test.YtgjdionnbbnmpaaGreatDoorVmL
import Derived.Laws.OwnMore
import Derived.Laws.BytesArg
set_option linter.unusedVariables false
set_option linter.unusedSimpArgs false
namespace Go.Proofs.Vm
open Go Go.RowKit

/-! ### Words for the lesser operations -/
def goneR (row : List C) : List C := row.map fun c => if c.own then .gone else c
def evExtract (st : St) (d : Nat) (x : Operand) (i : Nat) : Option St :=
  match x with
  | .tmp t =>
    match st.get t with
    | .tup ps =>
      match ps[i]? with
      | some (g, row) =>
        if rowOwn row then (if t = d then none else some ((st.set t (.tup (ps.set i (g, goneR row)))).put d (.val g row)))
        else some (st.put d (.val g row))
      | none => none
    | _ => none
  | _ => none
def evBin (L : Lay) (st : St) (d : Nat) (op : BinOp) (T : TypeId) (x y : Operand) : Option (St × Prop) :=
  match st.flat x, st.flat y with
  | some u, some v => (binV ((L T).map (·.kind)) op u v).map fun r => (st.put d (.val false [.v r.1]), r.2)
  | _, _ => none
def evUn (st : St) (d : Nat) (op : UnOp) (x : Operand) : Option St :=
  match st.flat x with
  | some u => (unV op u).map fun r => st.put d (.val false [.v r])
  | none => none
def byteRow : List C → Int
  | [.v (.int .u8 n)] => n
  | _ => 0
def bytesR (rows : List (List C)) : List Int := rows.map byteRow
def evConvert (L : Lay) (st : St) (d : Nat) (S T : TypeId) (x : Operand) : Option (St × Prop) :=
  match L S, L T with
  | some ts, some tt =>
    match tt.kind with
    | .int k =>
      match st.flat x with
      | some (.int _ n) => some (st.put d (.val false [.v (.int k (k.wrap n))]), True)
      | _ => none
    | .str =>
      match ts.kind with
      | .slice e =>
        match L e with
        | some te =>
          match te.kind with
          | .int .u8 =>
            match st.list x with
            | some l => if l.width = some 1 then some (st.put d (.val false [.v (.string (strOfNums (bytesR l.rows)))]), ∀ r ∈ l.rows, ∃ m, r = [.v (.int .u8 m)]) else none
            | none => none
          | _ => none
        | none => none
      | _ => none
    | _ => none
  | _, _ => none

section
variable {P : Program} {L : Lay} {G : Glob} {W0 : Base} {I0 : Nat → Prop} {n : Nat} {I : Nat → Prop} {F : Nat → List Nat} {X : List Nat} {st : St} {a : Act} {w : World}

theorem goneR_rep {w : World} {I : Nat → Prop} : ∀ {row : List C} {vs : List Value} {F : List Nat}, RepR w I row vs F → RepR w I (goneR row) vs []
  | [], vs, F, h => by simp only [goneR, List.map_nil, RepR] at h ⊢; exact ⟨h.1, trivial⟩
  | c :: r, vs, F, h => by
    have h0 := h
    simp only [RepR] at h
    obtain ⟨v, vs', F1, F2, rfl, rfl, h1, h2⟩ := h
    have ih := goneR_rep h2
    simp only [goneR, List.map_cons, RepR] at ih ⊢
    refine ⟨v, vs', [], [], rfl, rfl, ?_, ih⟩
    cases c with
    | v x => simp only [C.own, Bool.false_eq_true, if_false, RepC] at h1 ⊢; exact ⟨h1.1, h1.2.1, trivial⟩
    | gone => simp only [C.own, Bool.false_eq_true, if_false, RepC] at h1 ⊢; exact ⟨h1.1, trivial⟩
    | l o k rows =>
      cases o with
      | none => simp only [C.own, Bool.false_eq_true, if_false]; simp only [RepC] at h1 ⊢; exact ⟨trivial, h1.2⟩
      | some e => simp only [C.own, if_true, RepC]; exact ⟨h1.one, trivial⟩

theorem RepT_focus {w : World} {I : Nat → Prop} : ∀ {ps : List (Bool × List C)} {us : List Value} {F : List Nat} {i : Nat} {g : Bool} {row : List C}, RepT w I ps us F → ps[i]? = some (g, row) →
    ∃ u F1 Fc F2, us[i]? = some u ∧ F = F1 ++ (Fc ++ F2) ∧ RepG w I g row u Fc ∧ RepT w I (ps.set i (g, goneR row)) us (F1 ++ ([] ++ F2))
  | [], us, F, i, g, row, h, hp => by simp at hp
  | (g0, r0) :: ps, us, F, 0, g, row, h, hp => by
    simp only [RepT] at h
    obtain ⟨u, us', F1, F2, rfl, rfl, ⟨vs, hu, h1, hr⟩, h2⟩ := h
    simp only [List.getElem?_cons_zero, Option.some.injEq, Prod.mk.injEq] at hp
    obtain ⟨rfl, rfl⟩ := hp
    refine ⟨u, [], F1, F2, rfl, rfl, ?_, ?_⟩
    · unfold RepG
      cases g0 with
      | true => simp only [if_true] at hu ⊢; exact ⟨vs, hu, hr⟩
      | false =>
        simp only [Bool.false_eq_true, if_false] at hu ⊢
        have hl := hr.length
        rw [h1 rfl] at hl
        obtain ⟨v, rfl⟩ := List.length_eq_one_iff.1 hl
        simp at hu
        rw [hu]; exact hr
    · simp only [List.set_cons_zero, RepT, List.nil_append]
      exact ⟨u, us', [], F2, rfl, rfl, ⟨vs, hu, by simpa [goneR] using h1, goneR_rep hr⟩, h2⟩
  | (g0, r0) :: ps, us, F, i + 1, g, row, h, hp => by
    simp only [RepT] at h
    obtain ⟨u, us', F1, F2, rfl, rfl, hh, h2⟩ := h
    obtain ⟨v, G1, Gc, G2, h3, rfl, h4, h5⟩ := RepT_focus (i := i) h2 (by simpa using hp)
    refine ⟨v, F1 ++ G1, Gc, G2, by simpa using h3, by simp, h4, ?_⟩
    simp only [List.set_cons_succ, RepT]
    exact ⟨u, us', F1, G1 ++ ([] ++ G2), rfl, by simp, hh, h5⟩

theorem ev_extract (h : Inv G W0 I0 n st a w) {d : Nat} (hd : d < n) {x : Operand} {i : Nat} {st' : St} (he : evExtract st d x i = some st') :
    ∃ v, (Instr.extract (a.eval x) i).run P w = .ok v w ∧ Inv G W0 I0 n st' (a.put (some d) v) w := by
  obtain ⟨I, F, h⟩ := h
  cases x with
  | tmp t =>
    simp only [evExtract] at he
    split at he
    · rename_i ps hg
      split at he
      · rename_i g row hp
        obtain ⟨u, hu, hr⟩ := h.live (t := t) (by rw [hg]; simp)
        rw [hg] at hr
        simp only [RepV] at hr
        obtain ⟨us, rfl, hr⟩ := hr
        obtain ⟨v, F1, Fc, F2, hv, hF, hrg, hrest⟩ := RepT_focus hr hp
        have hrun : (Instr.extract (a.eval (.tmp t)) i).run P w = .ok v w := by
          rw [eval_tmp hu]
          simp [Instr.extract, hv]
        refine ⟨v, hrun, ?_⟩
        split at he
        · split at he
          · cases he
          · rename_i htd
            injection he with he
            subst he
            have h1 := h.refit (d := t) (Fc' := []) (X' := Fc) (st' := st.set t (.tup (ps.set i (g, goneR row)))) hu hF (by
                have h0 := h.nodup t
                rw [hF] at h0
                exact (List.nodup_append.1 (List.nodup_append.1 h0).2.1).1) (by simp) h.glob (Bel.refl _ _) (fun _ _ => rfl) (fun _ _ _ _ => rfl)
              (by rw [St.get_set, if_pos rfl]; simp only [RepV]; exact ⟨us, rfl, hrest⟩)
              (by
                intro s hst
                right
                rw [St.get_set, if_neg (fun e => hst e.symm)]
                refine ⟨rfl, fun o ho => ⟨rfl, fun e k rows hc => ?_⟩⟩
                unfold St.cell at hc
                rw [hg] at hc
                cases hc)
              (by intro T r hb; rw [hg] at hb; cases hb)
            refine InvX.put_val (F' := Fc) (by simpa using h1) hd hrg
        · rename_i hown
          injection he with he
          subst he
          have hFc : Fc = [] := rowOwn_nil (by simpa using hown) hrg.cells
          rw [hFc] at hrg
          exact InvX.put_val (F' := []) h hd hrg
      · cases he
    · cases he
  | const v => simp [evExtract] at he
  | global g => simp [evExtract] at he
  | func f => simp [evExtract] at he

theorem run_eqGuard_int {op : BinOp} {T : TypeId} {x y : Operand} {k : IntKind} {m : Int} {v : Value} : (eqGuard op T x y (.int k m) v).run P w = .ok () w := by
  cases op <;> simp [eqGuard]
theorem run_eqGuard_str {op : BinOp} {T : TypeId} {x y : Operand} {s : ByteArray} {v : Value} : (eqGuard op T x y (.string s) v).run P w = .ok () w := by
  cases op <;> simp [eqGuard]
theorem run_eqGuard_bool {op : BinOp} {T : TypeId} {x y : Operand} {b : Bool} {v : Value} : (eqGuard op T x y (.bool b) v).run P w = .ok () w := by
  cases op <;> simp [eqGuard]

theorem run_equal_bool {T : TypeId} {b1 b2 : Bool} (hu : P.underlying T = some .bool) : (Op.equal T (.bool b1) (.bool b2)).run P w = .ok (b1 == b2) w := by
  have key : ∀ m, (Op.equalIn (m + 1) T (.bool b1) (.bool b2)).run P w = .ok (b1 == b2) w := by
    intro m
    rw [Op.equalIn, Sem.run_bind, run_underlying hu, Result.andThen_ok]
    rfl
  exact key 9999
theorem run_bin {tk : Option TK} {op : BinOp} {T : TypeId} {u v : Value} {r : Value × Prop} (htk : tk = some .bool → P.underlying T = some .bool) (he : binV tk op u v = some r) (hp : r.2) :
    (binOp op T u v).run P w = .ok r.1 w ∧ r.1.oneCell' = true := by
  unfold binV at he
  split at he
  · rename_i k a k' b
    split at he
    · rename_i hs
      cases op <;> simp only [isShift, Bool.false_eq_true] at hs <;> simp only [shiftV, Option.some.injEq] at he <;> subst he <;> simp only at hp
      all_goals
        refine ⟨?_, rfl⟩
        have hb : ¬ b < 0 := by omega
        simp [binOp, Op.shift, hb]
    · split at he
      · rename_i hk
        subst hk
        cases op <;> simp only [intV, bitsOf, Option.map_some, Option.map_none, Option.some.injEq, reduceCtorEq] at he <;> first | (cases he; done) | skip
        all_goals
          subst he
          simp only at hp
          refine ⟨?_, rfl⟩
          simp [binOp, Op.intArith, Op.intDiv, Op.intBits, Op.intCmp, hp]
      · cases he
  · rename_i s1 s2
    cases op <;> simp only [strV, Option.some.injEq, reduceCtorEq] at he <;> first | (cases he; done) | skip
    all_goals
      subst he
      simp only at hp
      refine ⟨?_, rfl⟩
      first
        | (simp [binOp, Op.stringOp]; done)
        | (have hh : ¬ ((s1.size + s2.size : Nat) : Int) > IntKind.i64.max := by simp [IntKind.max, IntKind.signed, IntKind.bits]; omega
           simp only [binOp, Op.stringOp, if_neg hh, Sem.run_pure])
  · rename_i b1 b2
    split at he
    · have hu := htk rfl
      cases op <;> simp only [boolV, Option.some.injEq, reduceCtorEq] at he <;> first | (cases he; done) | skip
      all_goals
        subst he
        refine ⟨?_, rfl⟩
        unfold binOp
        simp only [Sem.run_bind, run_equal_bool hu, Result.andThen_ok, Sem.run_pure]
    · cases he
  · cases he

theorem flat_one (h : InvX G W0 I0 n I F X st a w) {x : Operand} (hx : constOk x = true) {v : Value} (hf : st.flat x = some v) (hv : ∀ cs, v ≠ .agg cs) : v.oneCell' = true := by
  cases x with
  | const u =>
    simp only [St.flat, Option.some.injEq] at hf
    subst hf
    refine constOk_spec hx u rfl u ?_
    cases u <;> simp [Value.cells] at hv ⊢
  | tmp t =>
    simp only [St.flat] at hf
    split at hf
    · rename_i y hg
      injection hf with hf
      subst hf
      exact (RepG_flat (h.live_val hg).1 rfl).2
    · cases hf
  | global g => simp [St.flat] at hf
  | func f => simp [St.flat] at hf

theorem ev_un (h : Inv G W0 I0 n st a w) {d : Nat} (hd : d < n) {op : UnOp} {x : Operand} {st' : St} (he : evUn st d op x = some st') :
    ∃ v, (Op.unary op (a.eval x)).run P w = .ok v w ∧ Inv G W0 I0 n st' (a.put (some d) v) w := by
  obtain ⟨I, F, h⟩ := h
  unfold evUn at he
  split at he
  · rename_i u hf
    rw [Option.map_eq_some_iff] at he
    obtain ⟨r, hr, rfl⟩ := he
    rw [flat_spec h hf]
    unfold unV at hr
    split at hr
    · split at hr
      · injection hr with hr
        subst hr
        exact ⟨_, by simp [Op.unary, Op.intArith], put_flat h hd rfl⟩
      · cases hr
    · split at hr
      · injection hr with hr
        subst hr
        exact ⟨_, by simp [Op.unary], put_flat h hd rfl⟩
      · cases hr
    · cases hr
  · cases he

variable (hL : L.ok P)
include hL
theorem ev_bin (h : Inv G W0 I0 n st a w) {d : Nat} (hd : d < n) {op : BinOp} {T : TypeId} {x y : Operand} {st' : St} {p : Prop} (he : evBin L st d op T x y = some (st', p)) (hp : p) :
    ∃ v, (do eqGuard op T x y (a.eval x) (a.eval y); binOp op T (a.eval x) (a.eval y) : Sem Value).run P w = .ok v w ∧ Inv G W0 I0 n st' (a.put (some d) v) w := by
  obtain ⟨I, F, h⟩ := h
  unfold evBin at he
  split at he
  · rename_i u v hu hv
    rw [Option.map_eq_some_iff] at he
    obtain ⟨r, hr, he⟩ := he
    simp only [Prod.mk.injEq] at he
    obtain ⟨rfl, rfl⟩ := he
    rw [flat_spec h hu, flat_spec h hv]
    have hb := run_bin (P := P) (w := w) (T := T) (by
      intro htk
      cases hti : L T with
      | none => rw [hti] at htk; cases htk
      | some ti =>
        obtain ⟨i, dd, z, hs⟩ := hL.spec hti
        rw [hti] at htk
        simp only [Option.map_some, Option.some.injEq] at htk
        exact hs.bool htk) hr hp
    refine ⟨r.1, ?_, put_flat h hd hb.2⟩
    have hg : (eqGuard op T x y u v).run P w = .ok () w := by
      unfold binV at hr
      split at hr
      · exact run_eqGuard_int
      · exact run_eqGuard_str
      · exact run_eqGuard_bool
      · cases hr
    rw [Sem.run_bind, hg, Result.andThen_ok]
    exact hb.1
  · cases he
end
end Go.Proofs.Vm
