/- A part of the proof of the card: lemmas that the text with the card leans on (see there for what is proved, and under which conditions). -/
import Derived.Test.YtgjdionnbbnmpaaGreatDoorVmE
set_option linter.unusedVariables false
set_option linter.unusedSimpArgs false
namespace Go.Proofs.Vm
open Go Go.RowKit

theorem RepR_focus {w : World} {I : Nat → Prop} : ∀ {row : List C} {vs : List Value} {F : List Nat} {off : Nat} {c : C}, RepR w I row vs F → row[off]? = some c →
    ∃ v1 uc v3 F1 Fc F2, vs = v1 ++ uc :: v3 ∧ v1.length = off ∧ F = F1 ++ (Fc ++ F2) ∧ RepC w I c uc Fc ∧
      ∀ (w' : World) (c' : C) (uc' : Value) (Fc' : List Nat), (∀ g, I g → w'.heap[g]? = w.heap[g]?) → (∀ g ∈ F1 ++ F2, w'.heap[g]? = w.heap[g]?) → RepC w' I c' uc' Fc' → RepR w' I (row.set off c') (v1 ++ uc' :: v3) (F1 ++ (Fc' ++ F2))
  | [], vs, F, off, c, h, hc => by simp at hc
  | c0 :: r, vs, F, 0, c, h, hc => by
    simp only [RepR] at h
    obtain ⟨v, vs', F1, F2, rfl, rfl, h1, h2⟩ := h
    obtain rfl : c0 = c := by simpa using hc
    refine ⟨[], v, vs', [], F1, F2, rfl, rfl, rfl, h1, fun w' c' uc' Fc' hI hF hcc => ?_⟩
    simp only [List.set_cons_zero, List.nil_append, RepR]
    exact ⟨uc', vs', Fc', F2, rfl, rfl, hcc, RepR.move hI r vs' F2 (fun g hg => hF g (by simp [hg])) h2⟩
  | c0 :: r, vs, F, off + 1, c, h, hc => by
    simp only [RepR] at h
    obtain ⟨v, vs', F1, F2, rfl, rfl, h1, h2⟩ := h
    obtain ⟨v1, uc, v3, G1, Gc, G2, rfl, rfl, rfl, h3, h4⟩ := RepR_focus (off := off) (c := c) h2 (by simpa using hc)
    refine ⟨v :: v1, uc, v3, F1 ++ G1, Gc, G2, rfl, rfl, by simp, h3, fun w' c' uc' Fc' hI hF hcc => ?_⟩
    simp only [List.set_cons_succ, List.cons_append, RepR]
    refine ⟨v, v1 ++ uc' :: v3, F1, G1 ++ (Fc' ++ G2), rfl, by simp, RepC.move hI c0 v F1 (fun g hg => hF g (by simp [hg])) h1, ?_⟩
    exact h4 w' c' uc' Fc' hI (fun g hg => hF g (by rcases List.mem_append.1 hg with hg | hg <;> simp [hg])) hcc

/-- The own list at place off of a slot, and the slot with another tree in its place. -/
theorem RepV.focus {w : World} {I : Nat → Prop} {st : St} {a : Act} {sv : SV} {u : Value} {F : List Nat} (h : RepV w I st a sv u F) {off : Nat} {e : TypeId} {k : Nat} {rows : List (List C)}
    (hc : (match sv with | .val _ row => row[off]? | .box _ row => row[off]? | _ => none) = some (.l (some e) k rows)) :
    ∃ uc F1 Fc F2, F = F1 ++ (Fc ++ F2) ∧ RepC w I (.l (some e) k rows) uc Fc ∧ hdr w u off = some uc ∧ (∀ T row, sv = .box T row → ∃ g F3, u = .pointer (some ⟨g, 0, none⟩) ∧ F1 = g :: F3) ∧ ((∃ g row, sv = .val g row) → ∀ p, u ≠ .pointer (some p)) ∧
      ∀ (w' : World) (st' : St) (a' : Act) (c' : C) (Fc' : List Nat), (∀ g, I g → w'.heap[g]? = w.heap[g]?) → (∀ g ∈ F1 ++ F2, w'.heap[g]? = w.heap[g]?) → RepC w' I c' uc Fc' → RepV w' I st' a' (sv.setCell off c') u (F1 ++ (Fc' ++ F2)) := by
  cases sv with
  | val g row =>
    simp only at hc
    cases g with
    | false =>
      simp only [RepV] at h
      obtain ⟨v1, uc, v3, F1, Fc, F2, hvs, hl, rfl, h3, h4⟩ := RepR_focus h hc
      obtain ⟨rfl, rfl, rfl⟩ : v1 = [] ∧ uc = u ∧ v3 = [] := by
        cases v1 with
        | nil => simp at hvs; exact ⟨rfl, hvs.1.symm, hvs.2⟩
        | cons x y => simp at hvs
      obtain rfl : off = 0 := hl.symm
      have hsl : ∀ p, uc ≠ .pointer (some p) := by
        intro p hp
        simp only [RepC] at h3
        obtain ⟨_, _, _, ho, _⟩ := h3
        rcases ho.2 with ⟨hh, _⟩ | ⟨g, cap, cur, hh, _⟩ <;> rw [hh] at hp <;> cases hp
      refine ⟨uc, F1, Fc, F2, rfl, h3, ?_, (by intro T row hh; cases hh), fun _ => hsl, fun w' st' a' c' Fc' hI hF hcc => ?_⟩
      · simp only [RepC] at h3
        obtain ⟨_, _, _, ho, _⟩ := h3
        rcases ho.2 with ⟨rfl, _⟩ | ⟨g, cap, cur, rfl, _⟩ <;> rfl
      · simp only [SV.setCell, RepV]
        exact h4 w' c' uc Fc' hI hF hcc
    | true =>
      simp only [RepV] at h
      obtain ⟨vs, rfl, h⟩ := h
      obtain ⟨v1, uc, v3, F1, Fc, F2, rfl, rfl, rfl, h3, h4⟩ := RepR_focus h hc
      refine ⟨uc, F1, Fc, F2, rfl, h3, ?_, (by intro T row hh; cases hh), (by intro _ p hp; cases hp), fun w' st' a' c' Fc' hI hF hcc => ?_⟩
      · simp [hdr, Value.cells]
      · simp only [SV.setCell, RepV]
        exact ⟨_, rfl, h4 w' c' uc Fc' hI hF hcc⟩
  | box T row =>
    simp only at hc
    simp only [RepV] at h
    obtain ⟨g, vs, F', rfl, hg, h, rfl⟩ := h
    obtain ⟨v1, uc, v3, F1, Fc, F2, rfl, rfl, rfl, h3, h4⟩ := RepR_focus h hc
    refine ⟨uc, g :: F1, Fc, F2, by simp, h3, ?_, (by intro T row _; exact ⟨g, F1, rfl, rfl⟩), (by rintro ⟨g, row, hh⟩; cases hh), fun w' st' a' c' Fc' hI hF hcc => ?_⟩
    · unfold hdr
      simp only
      rw [cell_of_row w g _ _ _ _ hg]
      simp
    · simp only [SV.setCell, RepV]
      refine ⟨g, v1 ++ uc :: v3, F1 ++ (Fc' ++ F2), rfl, (hF g (by simp)).trans hg, h4 w' c' uc Fc' hI (fun b hb => hF b (by simp at hb ⊢; exact Or.inr hb)) hcc, by simp⟩
  | dead => cases hc
  | ptr _ _ => cases hc
  | al _ _ => cases hc
  | ep _ _ => cases hc
  | eo _ _ _ _ => cases hc
  | tup _ => cases hc
  | fn _ _ => cases hc

theorem RepG.cells {w : World} {I : Nat → Prop} {g : Bool} {row : List C} {u : Value} {F : List Nat} (h : RepG w I g row u F) : RepR w I row u.cells.toList F := by
  unfold RepG at h
  split at h
  · obtain ⟨vs, rfl, h⟩ := h; simpa [Value.cells] using h
  · have : u.cells.toList = [u] := by
      have := h.one u (by simp)
      cases u <;> first | rfl | (simp [Value.oneCell'] at this; done)
    rw [this]; exact h
theorem RepV_val {w : World} {I : Nat → Prop} {st : St} {a : Act} {g : Bool} {row : List C} {u : Value} {F : List Nat} : RepV w I st a (.val g row) u F ↔ RepG w I g row u F := by
  cases g <;> simp [RepV, RepG]

theorem rowOwn_nil {w : World} {I : Nat → Prop} : ∀ {row : List C} {vs : List Value} {F : List Nat}, rowOwn row = false → RepR w I row vs F → F = []
  | [], vs, F, _, h => by simp only [RepR] at h; exact h.2
  | c :: r, vs, F, ho, h => by
    simp only [rowOwn, Bool.or_eq_false_iff] at ho
    simp only [RepR] at h
    obtain ⟨v, vs', F1, F2, rfl, rfl, h1, h2⟩ := h
    rw [rowOwn_nil ho.2 h2]
    cases c with
    | v x => simp only [RepC] at h1; simp [h1.2.2]
    | gone => simp only [RepC] at h1; simp [h1.2]
    | l o k rows =>
      cases o with
      | none => simp only [RepC] at h1; simp [h1.1]
      | some e => simp [C.own] at ho

section
variable {G : Glob} {W0 : Base} {I0 : Nat → Prop} {n : Nat} {I : Nat → Prop} {F : Nat → List Nat} {X : List Nat} {st : St} {a : Act} {w : World}

theorem InvX.live_val (h : InvX G W0 I0 n I F X st a w) {t : Nat} {g : Bool} {row : List C} (hg : st.get t = .val g row) : RepG w I g row (a.eval (.tmp t)) (F t) ∧ a.tmps[t]? = some (a.eval (.tmp t)) := by
  obtain ⟨u, hu, hr⟩ := h.live (t := t) (by rw [hg]; simp)
  have he : a.eval (.tmp t) = u := by simp [Act.eval, Array.getD_eq_getD_getElem?, hu]
  rw [he]
  rw [hg] at hr
  exact ⟨RepV_val.1 hr, hu⟩

theorem InvX.Fdead (h : InvX G W0 I0 n I F X st a w) {t : Nat} (hg : (st.get t).root = false) (hv : ∀ g row, st.get t ≠ .val g row) (ht : ∀ ps, st.get t ≠ .tup ps) : F t = [] := by
  have := h.rep t
  unfold RepS at this
  cases hu : a.tmps[t]? with
  | none => rw [hu] at this; exact this.2
  | some u =>
    rw [hu] at this
    cases hs : st.get t with
    | val g row => exact absurd hs (hv g row)
    | box T row => rw [hs] at hg; cases hg
    | dead => rw [hs] at this; simpa only [RepV] using this
    | ptr d o => rw [hs] at this; simp only [RepV] at this; exact this.1
    | al d o => rw [hs] at this; simp only [RepV] at this; exact this.1
    | ep r o => rw [hs] at this; simp only [RepV] at this; exact this.1
    | eo d o i j => rw [hs] at this; simp only [RepV] at this; exact this.1
    | tup ps => exact absurd hs (ht ps)
    | fn _ _ => rw [hs] at this; simp only [RepV] at this; exact this.1

/-- A value is taken, with all that it owns. -/
theorem InvX.take (h : InvX G W0 I0 n I F X st a w) {x : Operand} {g : Bool} {row : List C} {st1 : St} (ht : st.take x = some (g, row, st1)) (hx : ∀ v, x = .const v → ∀ u ∈ v.cells, u.oneCell' = true) :
    ∃ F1 F', InvX G W0 I0 n I F1 (F' ++ X) st1 a w ∧ RepG w I g row (a.eval x) F' ∧ (rowOwn row = false → F1 = F ∧ F' = [] ∧ st1 = st) := by
  cases x with
  | const v =>
    have hv := hx v rfl
    have key : ∀ cs : List Value, (∀ u ∈ cs, u.oneCell' = true) → RepR w I (cs.map .v) cs [] := by
      intro cs
      induction cs with
      | nil => intro _; simp [RepR]
      | cons c r ih => intro hh; simp only [List.map_cons, RepR, RepC]; refine ⟨c, r, [], [], rfl, rfl, ?_, ih (fun u hu => hh u (by simp [hu]))⟩; simp [hh c (by simp)]
    have flat : ∀ v : Value, v.oneCell' = true → RepG w I false [.v v] v [] := by
      intro v hv
      simp only [RepG, Bool.false_eq_true, if_false, RepR_single, RepC]
      exact ⟨trivial, hv, trivial⟩
    cases v with
    | agg cs =>
      simp only [St.take, Option.some.injEq, Prod.mk.injEq] at ht
      obtain ⟨rfl, rfl, rfl⟩ := ht
      refine ⟨F, [], h, ?_, fun _ => ⟨rfl, rfl, rfl⟩⟩
      simp only [RepG, if_true, Act.eval]
      exact ⟨cs.toList, rfl, key _ (fun u hu => hv u (by simpa [Value.cells] using hu))⟩
    | tuple vs => have := hv (.tuple vs) (by simp [Value.cells]); cases this
    | _ =>
      simp only [St.take, Option.some.injEq, Prod.mk.injEq] at ht
      obtain ⟨rfl, rfl, rfl⟩ := ht
      exact ⟨F, [], h, flat _ rfl, fun _ => ⟨rfl, rfl, rfl⟩⟩
  | global g => simp [St.take] at ht
  | func f => simp [St.take] at ht
  | tmp t =>
    simp only [St.take] at ht
    cases hg : st.get t with
    | val g' row' =>
      rw [hg] at ht
      simp only at ht
      obtain ⟨hr, hu⟩ := h.live_val hg
      split at ht
      · rename_i hown
        simp only [Option.some.injEq, Prod.mk.injEq] at ht
        obtain ⟨rfl, rfl, rfl⟩ := ht
        exact ⟨_, F t, h.drop t, hr, fun hh => by rw [hh] at hown; cases hown⟩
      · rename_i hown
        simp only [Option.some.injEq, Prod.mk.injEq] at ht
        obtain ⟨rfl, rfl, rfl⟩ := ht
        have hF : F t = [] := rowOwn_nil (by simpa using hown) hr.cells
        rw [hF] at hr
        exact ⟨F, [], h, hr, fun _ => ⟨rfl, rfl, rfl⟩⟩
    | al d off =>
      rw [hg] at ht
      simp only at ht
      cases hc : st.cell d off with
      | none => rw [hc] at ht; simp at ht
      | some c =>
        rw [hc] at ht
        cases c with
        | v x => simp at ht
        | gone => simp at ht
        | l o k rows =>
          cases o with
          | none => simp at ht
          | some e =>
            simp only [Option.some.injEq, Prod.mk.injEq] at ht
            obtain ⟨rfl, rfl, rfl⟩ := ht
            obtain ⟨u, hu, hr⟩ := h.live (t := t) (by rw [hg]; simp)
            rw [hg] at hr
            simp only [RepV] at hr
            obtain ⟨hF0, ⟨ud, hd, hh⟩, _⟩ := hr
            have hv := h.at hd
            obtain ⟨uc, F1, Fc, F2, hFd, hrc, hhd, hbx, hnp, hfit⟩ := hv.focus (off := off) (e := e) (k := k) (rows := rows) (by unfold St.cell at hc; cases hs : st.get d <;> rw [hs] at hc <;> first | (simp at hc; done) | simpa using hc)
            have he : a.eval (.tmp t) = uc := by
              have : u = uc := by rw [hh] at hhd; injection hhd
              simp [Act.eval, Array.getD_eq_getD_getElem?, hu, this]
            have hroot : (st.get d).root = true := St.cell_root hc
            have hget : ∀ s, (st.setCell d off .gone).get s = if d = s then (st.get d).setCell off .gone else if (st.get s).namesAt d off then .dead else st.get s := by
              intro s
              unfold St.setCell
              rw [St.get_set, St.get_killAt]
            have h1 := h.refit (X' := Fc ++ X) (Fc' := []) hd hFd (by
                simp only [List.nil_append]
                have h0 := h.nodup d
                rw [hFd] at h0
                obtain ⟨n1, n23, n4⟩ := List.nodup_append.1 h0
                exact List.nodup_append.2 ⟨(List.nodup_append.1 n23).1, h.xnodup, fun g hg g' hg' e => h.xapart d g (by rw [hFd]; simp [hg]) (e ▸ hg')⟩) (by simp) h.glob (Bel.refl _ _) (fun _ _ => rfl) (fun _ _ _ _ => rfl)
              (st' := st.setCell d off .gone) (by
                rw [hget, if_pos rfl]
                exact hfit w _ _ .gone [] (fun _ _ => rfl) (fun _ _ => rfl) (by simp only [RepC]; exact ⟨hrc.one, trivial⟩))
              (by
                intro s hsd
                rw [hget, if_neg (fun e => hsd e.symm)]
                by_cases hk : (st.get s).namesAt d off = true
                · left
                  rw [if_pos hk]
                  refine ⟨rfl, SV.names_not_root (SV.namesAt_names hk), ?_⟩
                  have h3 := h.rep s
                  unfold RepS at h3
                  cases hx : a.tmps[s]? with
                  | none => rw [hx] at h3; exact h3.2
                  | some y => rw [hx] at h3; exact h3.namesAt_nil hk
                · right
                  rw [if_neg hk]
                  refine ⟨rfl, fun o ho => ⟨rfl, fun e' k' rows' hc' => ?_⟩⟩
                  have hoo : off ≠ o := by rintro rfl; exact hk ho
                  refine ⟨rows', ?_, rfl⟩
                  unfold St.cell at hc' ⊢
                  rw [hget, if_pos rfl]
                  cases hs : st.get d <;> rw [hs] at hc' <;> simp [SV.setCell, hoo] at hc' ⊢ <;> exact hc')
              (by
                intro T row hs
                rw [hget, if_pos rfl, hs]
                exact ⟨_, rfl⟩)
            refine ⟨_, Fc, (h1.drop t).less ?_ ?_, ?_, fun hh => by simp [rowOwn, C.own] at hh⟩
            · exact h1.xnodup
            · intro g hg; exact List.mem_append.2 (.inr hg)
            · rw [he]
              simp only [RepG, Bool.false_eq_true, if_false, RepR_single]
              exact hrc
    | dead => rw [hg] at ht; simp at ht
    | box _ _ => rw [hg] at ht; simp at ht
    | ptr _ _ => rw [hg] at ht; simp at ht
    | ep _ _ => rw [hg] at ht; simp at ht
    | eo _ _ _ _ => rw [hg] at ht; simp at ht
    | tup _ => rw [hg] at ht; simp at ht
    | fn _ _ => rw [hg] at ht; simp at ht
end
end Go.Proofs.Vm
