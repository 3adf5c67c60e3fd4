/- A part of the proof of the card: lemmas that the text with the card leans on (see there for what is proved, and under which conditions). -/
import Derived.Test.YtgjdionnbbnmpaaGreatDoorVmF
set_option linter.unusedVariables false
set_option linter.unusedSimpArgs false
namespace Go.Proofs.Vm
open Go Go.RowKit

def constOk : Operand → Bool
  | .const (.agg cs) => cs.all (·.oneCell')
  | .const v => v.oneCell'
  | _ => true
theorem constOk_spec {x : Operand} (h : constOk x = true) : ∀ v, x = .const v → ∀ u ∈ v.cells, u.oneCell' = true := by
  rintro v rfl u hu
  cases v with
  | agg cs => exact (Array.all_eq_true_iff_forall_mem.1 h) u hu
  | _ =>
    simp only [Value.cells] at hu
    obtain rfl := Array.mem_singleton.1 hu
    exact h

section
variable {P : Program} {G : Glob} {W0 : Base} {I0 : Nat → Prop} {n : Nat} {I : Nat → Prop} {F : Nat → List Nat} {X : List Nat} {st : St} {a : Act} {w : World}

/-- A word that owns nothing is written. -/
theorem InvX.put_nil (h : InvX G W0 I0 n I F [] st a w) {d : Nat} (hd : d < n) {sv : SV} {v : Value} (hn : sv.names d = false) (hsv : RepV w I st a sv v []) : Inv G W0 I0 n (st.put d sv) (a.put (some d) v) w := by
  refine ⟨I, _, InvX.put (F' := []) (X := []) h hd ?_⟩
  refine RepV.congr (fun _ _ => rfl) (fun _ _ => rfl) (fun e he => ?_) hsv
  have hed : d ≠ e := by rintro rfl; rw [hn] at he; cases he
  refine ⟨by simp [Act.put, Array.getElem?_setIfInBounds_ne hed], ?_, fun _ _ _ => rfl⟩
  rw [St.get_put, if_neg hed, if_neg]
  rintro ⟨_, hh⟩
  have := SV.names_not_root hh
  rw [hsv.names_root he] at this
  cases this
/-- A value is written, with all that it owns. -/
theorem InvX.put_val {F' : List Nat} (h : InvX G W0 I0 n I F (F' ++ []) st a w) {d : Nat} (hd : d < n) {g : Bool} {row : List C} {v : Value} (hsv : RepG w I g row v F') : Inv G W0 I0 n (st.put d (.val g row)) (a.put (some d) v) w :=
  ⟨I, _, InvX.put (F' := F') (X := []) h hd (RepV_val.2 hsv)⟩

theorem eval_tmp {t : Nat} {u : Value} (hu : a.tmps[t]? = some u) : a.eval (.tmp t) = u := by simp [Act.eval, Array.getD_eq_getD_getElem?, hu]

theorem ev_copy (h : InvX G W0 I0 n I F [] st a w) {t d : Nat} {sv : SV} (hc : st.copy t d = some sv) : sv.names d = false ∧ RepV w I st a sv (a.eval (.tmp t)) [] := by
  unfold St.copy at hc
  cases hg : st.get t with
  | dead => rw [hg] at hc; cases hc
  | tup ps => rw [hg] at hc; cases hc
  | val g row =>
    rw [hg] at hc
    simp only at hc
    obtain ⟨hr, hu⟩ := h.live_val hg
    by_cases ho : rowOwn row = true
    · rw [if_pos ho] at hc
      cases g with
      | true => simp at hc
      | false =>
        simp only [Bool.false_eq_true, if_false] at hc
        by_cases htd : t = d
        · rw [if_pos htd] at hc; cases hc
        · rw [if_neg htd] at hc
          injection hc with hc
          subst hc
          refine ⟨by simp [SV.names, htd], ?_⟩
          simp only [RepG, Bool.false_eq_true, if_false] at hr
          have hl := hr.length
          obtain ⟨c, rfl⟩ : ∃ c, row = [c] := by
            cases row with
            | nil => simp at hl
            | cons c r => cases r with
              | nil => exact ⟨c, rfl⟩
              | cons c' r => simp at hl
          cases c with
          | v x => simp [rowOwn, C.own] at ho
          | gone => simp [rowOwn, C.own] at ho
          | l o k rows =>
            cases o with
            | none => simp [rowOwn, C.own] at ho
            | some e =>
              simp only [RepV]
              refine ⟨trivial, ⟨_, hu, ?_⟩, e, k, rows, by simp [St.cell, hg]⟩
              rw [RepR_single] at hr
              simp only [RepC] at hr
              obtain ⟨_, _, _, hown, _⟩ := hr
              rcases hown.2 with ⟨hh, _⟩ | ⟨g, cap, cur, hh, _⟩ <;> rw [hh] <;> rfl
    · rw [if_neg ho] at hc
      injection hc with hc
      subst hc
      refine ⟨rfl, RepV_val.2 ?_⟩
      have hF : F t = [] := rowOwn_nil (by simpa using ho) hr.cells
      rw [hF] at hr
      exact hr
  | box T row =>
    rw [hg] at hc
    simp only at hc
    by_cases htd : t = d
    · rw [if_pos htd] at hc; cases hc
    · rw [if_neg htd] at hc
      injection hc with hc
      subst hc
      refine ⟨by simp [SV.names, htd], ?_⟩
      obtain ⟨u, hu, hr⟩ := h.live (t := t) (by rw [hg]; simp)
      rw [hg] at hr
      simp only [RepV] at hr ⊢
      obtain ⟨g, vs, F', rfl, hgg, _, _⟩ := hr
      exact ⟨trivial, g, hu, eval_tmp hu, T, row, hg⟩
  | ptr e o =>
    rw [hg] at hc
    simp only at hc
    split at hc
    · cases hc
    · rename_i hn
      injection hc with hc
      subst hc
      obtain ⟨u, hu, hr⟩ := h.live (t := t) (by rw [hg]; simp)
      rw [hg] at hr
      rw [eval_tmp hu]
      have : F t = [] := by simp only [RepV] at hr; exact hr.1
      rw [this] at hr
      exact ⟨by simpa using hn, hr⟩
  | al e o =>
    rw [hg] at hc
    simp only at hc
    split at hc
    · cases hc
    · rename_i hn
      injection hc with hc
      subst hc
      obtain ⟨u, hu, hr⟩ := h.live (t := t) (by rw [hg]; simp)
      rw [hg] at hr
      rw [eval_tmp hu]
      have : F t = [] := by simp only [RepV] at hr; exact hr.1
      rw [this] at hr
      exact ⟨by simpa using hn, hr⟩
  | ep r o =>
    rw [hg] at hc
    simp only at hc
    split at hc
    · cases hc
    · rename_i hn
      injection hc with hc
      subst hc
      obtain ⟨u, hu, hr⟩ := h.live (t := t) (by rw [hg]; simp)
      rw [hg] at hr
      rw [eval_tmp hu]
      have : F t = [] := by simp only [RepV] at hr; exact hr.1
      rw [this] at hr
      exact ⟨by simpa using hn, hr⟩
  | eo e o i j =>
    rw [hg] at hc
    simp only at hc
    split at hc
    · cases hc
    · rename_i hn
      injection hc with hc
      subst hc
      obtain ⟨u, hu, hr⟩ := h.live (t := t) (by rw [hg]; simp)
      rw [hg] at hr
      rw [eval_tmp hu]
      have : F t = [] := by simp only [RepV] at hr; exact hr.1
      rw [this] at hr
      exact ⟨by simpa using hn, hr⟩
  | fn f caps =>
    rw [hg] at hc
    simp only at hc
    split at hc
    · cases hc
    · rename_i hn
      injection hc with hc
      subst hc
      obtain ⟨u, hu, hr⟩ := h.live (t := t) (by rw [hg]; simp)
      rw [hg] at hr
      rw [eval_tmp hu]
      have : F t = [] := by simp only [RepV] at hr; exact hr.1
      rw [this] at hr
      exact ⟨by simpa using hn, hr⟩

theorem ev_move (h : Inv G W0 I0 n st a w) {d : Nat} (hd : d < n) {x : Operand} (hx : constOk x = true) {st' : St} (he : evMove st d x = some st') : Inv G W0 I0 n st' (a.put (some d) (a.eval x)) w := by
  obtain ⟨I, F, h⟩ := h
  cases x with
  | tmp t =>
    simp only [evMove, Option.map_eq_some_iff] at he
    obtain ⟨sv, hc, rfl⟩ := he
    obtain ⟨h1, h2⟩ := ev_copy h hc
    exact h.put_nil hd h1 h2
  | const v =>
    have key := constOk_spec hx v rfl
    have ht : ∃ g row, st.take (.const v) = some (g, row, st) ∧ st' = st.put d (.val g row) ∧ rowOwn row = false := by
      have hr : ∀ cs : List Value, rowOwn (cs.map .v) = false := by
        intro cs; induction cs with
        | nil => rfl
        | cons c r ih => simp [rowOwn, C.own, ih]
      cases v <;> simp only [evMove, Option.some.injEq] at he <;> subst he <;> exact ⟨_, _, rfl, rfl, by first | exact hr _ | rfl⟩
    obtain ⟨g, row, ht, rfl, ho⟩ := ht
    obtain ⟨F1, F', h1, hr, hh⟩ := h.take ht (constOk_spec hx)
    obtain ⟨rfl, rfl, _⟩ := hh ho
    exact h1.put_val hd hr
  | global g => simp [evMove] at he
  | func f =>
    simp only [evMove, Option.some.injEq] at he
    subst he
    exact h.put_nil hd rfl (by simp only [RepV]; exact ⟨trivial, [], rfl, by simp [RepCaps]⟩)

theorem ev_assign (h : Inv G W0 I0 n st a w) {d : Nat} (hd : d < n) {x : Operand} (hx : constOk x = true) {st' : St} (he : evAssign st d x = some st') : Inv G W0 I0 n st' (a.put (some d) (a.eval x)) w := by
  cases x with
  | tmp t =>
    simp only [evAssign] at he
    cases hg : st.get t with
    | val g row =>
      rw [hg] at he
      simp only at he
      obtain ⟨I, F, h⟩ := h
      obtain ⟨hr, hu⟩ := h.live_val hg
      split at he
      · split at he
        · cases he
        · injection he with he
          subst he
          exact (h.drop t).put_val hd hr
      · rename_i ho
        injection he with he
        subst he
        have hF : F t = [] := rowOwn_nil (by simpa using ho) hr.cells
        rw [hF] at hr
        exact InvX.put_val (F' := []) h hd hr
    | dead => rw [hg] at he; exact ev_move h hd hx he
    | box _ _ => rw [hg] at he; exact ev_move h hd hx he
    | ptr _ _ => rw [hg] at he; exact ev_move h hd hx he
    | al _ _ => rw [hg] at he; exact ev_move h hd hx he
    | ep _ _ => rw [hg] at he; exact ev_move h hd hx he
    | eo _ _ _ _ => rw [hg] at he; exact ev_move h hd hx he
    | tup _ => rw [hg] at he; exact ev_move h hd hx he
    | fn _ _ => rw [hg] at he; exact ev_move h hd hx he
  | const v => exact ev_move h hd hx he
  | global g => exact ev_move h hd hx he
  | func f => exact ev_move h hd hx he
end
end Go.Proofs.Vm
