/- A part of the proof of the card: lemmas that the text with the card leans on (see there for what is proved, and under which conditions). -/
import Derived.Test.YtgjdionnbbnmpaaGreatDoorVmR
set_option linter.unusedVariables false
set_option linter.unusedSimpArgs false
namespace Go.Proofs.Vm
open Go Go.RowKit

/-! ### Operations that only write their own slot -/
def quietOp (o : Oper) : Bool :=
  match o.op with
  | .move _ => true
  | .load _ _ => true
  | .fieldAddr _ _ _ => true
  | .binOp _ _ _ _ _ => true
  | .unOp _ _ _ => true
  | .convert _ _ _ => true
  | .index _ _ _ => true
  | .indexAddr _ _ _ => true
  | .field _ _ _ => true
  | .nilCheck _ => true
  | .pick _ _ _ => true
  | .buildSlice _ _ _ => true
  | .build _ _ => true
  | .makeSlice _ _ _ => true
  | .call { callee := .value (.func _), args := _, argTypes := _ } => true
  | .call { callee := .builtin .len, args := _, argTypes := _ } => true
  | .call { callee := .builtin .min, args := _, argTypes := _ } => true
  | .call { callee := .builtin .max, args := _, argTypes := _ } => true
  | _ => false
/-- The states tell the same of slot t. -/
def Agree (c s : St) (t : Nat) : Prop := c.get t = s.get t ∧ ∀ e, (s.get t).names e = true → c.get e = s.get e
def AgreeX (c s : St) (x : Operand) : Prop := ∀ t, x = .tmp t → Agree c s t
/-- Whatever is named is a root. -/
def St.ok (st : St) : Prop := ∀ t e, (st.get t).names e = true → (st.get e).root = true

section
variable {c s : St}
theorem flat_agree {x : Operand} (h : AgreeX c s x) : c.flat x = s.flat x := by
  cases x with
  | tmp t => simp only [St.flat, (h t rfl).1]
  | _ => rfl
theorem cell_agree {e off : Nat} (h : c.get e = s.get e) : c.cell e off = s.cell e off := by simp only [St.cell, h]
theorem lsOf_agree {t : Nat} (h : Agree c s t) : lsOf c t (c.get t) = lsOf s t (s.get t) := by
  rw [h.1]
  cases hg : s.get t with
  | al d off =>
    have : c.cell d off = s.cell d off := cell_agree (h.2 d (by rw [hg]; simp [SV.names]))
    simp only [lsOf, this]
  | val g row =>
    cases g with
    | true => rfl
    | false =>
      rcases row with _ | ⟨c0, _ | ⟨c1, r⟩⟩
      · rfl
      · cases c0 with
        | v x =>
          cases x with
          | slice A l m => cases A <;> cases l <;> cases m <;> rfl
          | _ => rfl
        | l o k rows => cases o <;> rfl
        | gone => rfl
      · cases c0 with
        | v x =>
          cases x with
          | slice A l m => cases A <;> cases l <;> cases m <;> rfl
          | _ => rfl
        | l o k rows => cases o <;> rfl
        | gone => rfl
  | _ => rfl
theorem list_agree {x : Operand} (h : AgreeX c s x) : c.list x = s.list x := by
  cases x with
  | tmp t => simp only [St.list, lsOf_agree (h t rfl)]
  | const v =>
    cases v with
    | slice A l m => cases A <;> cases l <;> cases m <;> rfl
    | _ => rfl
  | _ => rfl
theorem argOf_agree {x : Operand} (h : AgreeX c s x) : argOf c x = argOf s x := by
  cases x with
  | tmp t =>
    have h1 := h t rfl
    simp only [argOf, h1.1]
    cases hg : s.get t with
    | al d off =>
      have : c.cell d off = s.cell d off := cell_agree (h1.2 d (by rw [hg]; simp [SV.names]))
      simp only [this]
    | ptr d off =>
      have : c.get d = s.get d := h1.2 d (by rw [hg]; simp [SV.names])
      simp only [this]
    | _ => rfl
  | const v => cases v <;> rfl
  | _ => rfl
theorem argsOf_agree : ∀ {xs : List Operand}, (∀ x ∈ xs, AgreeX c s x) → argsOf c xs = argsOf s xs
  | [], _ => rfl
  | x :: r, h => by simp only [argsOf, argOf_agree (h x (by simp)), argsOf_agree (xs := r) (fun y hy => h y (by simp [hy]))]

theorem take_ownless {x : Operand} (h : ownless s x = true) (hA : AgreeX c s x) {g : Bool} {row : List C} {s1 : St} (ht : s.take x = some (g, row, s1)) : s1 = s ∧ c.take x = some (g, row, c) := by
  cases x with
  | const v =>
    cases v <;> simp only [St.take, Option.some.injEq, Prod.mk.injEq] at ht ⊢ <;> obtain ⟨h1, h2, h3⟩ := ht <;> exact ⟨h3.symm, h1, h2, trivial⟩
  | tmp t =>
    have h1 := (hA t rfl).1
    simp only [ownless] at h
    split at h
    · rename_i g' row' hg
      have hro : rowOwn row' = false := by simpa using h
      simp only [St.take, hg, hro, Bool.false_eq_true, if_false, Option.some.injEq, Prod.mk.injEq] at ht
      obtain ⟨rfl, rfl, rfl⟩ := ht
      refine ⟨rfl, ?_⟩
      simp only [St.take, h1, hg, hro, Bool.false_eq_true, if_false]
    · cases h
  | global g => cases h
  | func f => cases h
theorem takeAll_ownless : ∀ {parts : List (Nat × Operand)} {ps : List (Nat × Arg)} {s1 : St}, partsOk s parts = true → (∀ p ∈ parts, AgreeX c s p.2) → takeAll s parts = some (ps, s1) → s1 = s ∧ takeAll c parts = some (ps, c)
  | [], ps, s1, _, _, ht => by
    simp only [takeAll, Option.some.injEq, Prod.mk.injEq] at ht
    obtain ⟨rfl, rfl⟩ := ht
    exact ⟨rfl, rfl⟩
  | (i, x) :: r, ps, s1, h, hA, ht => by
    simp only [partsOk, Bool.and_eq_true] at h
    simp only [takeAll] at ht
    split at ht
    · rename_i g row s2 h2
      obtain ⟨e2, h3⟩ := take_ownless h.1 (hA (i, x) (by simp)) h2
      rw [e2] at ht
      split at ht
      · rename_i ps2 s3 h4
        obtain ⟨e3, h5⟩ := takeAll_ownless h.2 (fun p hp => hA p (by simp [hp])) h4
        simp only [Option.some.injEq, Prod.mk.injEq] at ht
        obtain ⟨h6, h7⟩ := ht
        exact ⟨h7.symm.trans e3, by simp only [takeAll, h3, h5, h6]⟩
      · cases ht
    · cases ht

theorem ptOf_names {st : St} (hok : st.ok) {t : Nat} {p : SV} (hp : ptOf t (st.get t) = some p) {e : Nat} (hn : p.names e = true) : (st.get e).root = true := by
  cases hg : st.get t with
  | box T row =>
    rw [hg] at hp
    simp only [ptOf, Option.some.injEq] at hp
    subst hp
    obtain rfl : t = e := by simpa [SV.names] using hn
    rw [hg]; rfl
  | ptr d off => rw [hg] at hp; simp only [ptOf, Option.some.injEq] at hp; subst hp; exact hok t e (by rw [hg]; exact hn)
  | ep d off => rw [hg] at hp; simp only [ptOf, Option.some.injEq] at hp; subst hp; exact hok t e (by rw [hg]; exact hn)
  | eo d off i j => rw [hg] at hp; simp only [ptOf, Option.some.injEq] at hp; subst hp; exact hok t e (by rw [hg]; exact hn)
  | dead => rw [hg] at hp; cases hp
  | val _ _ => rw [hg] at hp; cases hp
  | al _ _ => rw [hg] at hp; cases hp
  | tup _ => rw [hg] at hp; cases hp
  | fn _ _ => rw [hg] at hp; cases hp
/-- What a pointer's word leads to, told alike. -/
theorem ptOf_agree {t : Nat} (h : Agree c s t) {p : SV} (hp : ptOf t (s.get t) = some p) : ptOf t (c.get t) = some p ∧ ∀ e, p.names e = true → c.get e = s.get e := by
  refine ⟨by rw [h.1]; exact hp, fun e he => ?_⟩
  cases hg : s.get t with
  | box T row =>
    rw [hg] at hp
    simp only [ptOf, Option.some.injEq] at hp
    subst hp
    obtain rfl : t = e := by simpa [SV.names] using he
    exact h.1
  | ptr d off => rw [hg] at hp; simp only [ptOf, Option.some.injEq] at hp; subst hp; exact h.2 e (by rw [hg]; exact he)
  | ep d off => rw [hg] at hp; simp only [ptOf, Option.some.injEq] at hp; subst hp; exact h.2 e (by rw [hg]; exact he)
  | eo d off i j => rw [hg] at hp; simp only [ptOf, Option.some.injEq] at hp; subst hp; exact h.2 e (by rw [hg]; exact he)
  | dead => rw [hg] at hp; cases hp
  | val _ _ => rw [hg] at hp; cases hp
  | al _ _ => rw [hg] at hp; cases hp
  | tup _ => rw [hg] at hp; cases hp
  | fn _ _ => rw [hg] at hp; cases hp
theorem step_names {p : SV} {o e : Nat} : (p.step o).names e = p.names e := by cases p <;> rfl

/-- What a quiet operation does in one state, it does in every state that tells the same of what it looks at. -/
def Same (s s' : St) (d : Nat) (P : St → St → Prop) (A : St → Prop) : Prop := ∃ sv, s' = s.put d sv ∧ (s.ok → ∀ e, sv.names e = true → (s.get e).root = true) ∧ ∀ c, A c → P c (c.put d sv)

theorem same_flat {s : St} {d : Nat} {Q : St → St → Prop} {A : St → Prop} {v : Value} (h : ∀ c, A c → Q c (c.put d (.val false [.v v]))) : Same s (s.put d (.val false [.v v])) d Q A :=
  ⟨_, rfl, fun _ e he => by simp [SV.names] at he, h⟩

theorem buildSlice_same {L : Lay} {d : Nat} {T : TypeId} {m : Nat} {ps : List (Nat × Operand)} {s' : St} (hok : partsOk s ps = true) (he : evBuildSlice L s d T m ps = some s') : Same s s' d (fun c c' => evBuildSlice L c d T m ps = some c') (fun c => ∀ p ∈ ps, AgreeX c s p.2) := by
  unfold evBuildSlice at he
  split at he
  · rename_i ti hti
    split at he
    · rename_i e hk
      split at he
      · rename_i te hte
        split at he
        · rename_i hm
          split at he
          · injection he with he
            subst he
            refine ⟨_, rfl, fun _ e hn => by simp [SV.names] at hn, fun c _ => ?_⟩
            simp only [evBuildSlice, hti, hk, hte, if_pos hm]
          · cases he
        · rename_i hm
          split at he
          · rename_i qs s1 htk
            split at he
            · rename_i rows hr
              split at he
              · rename_i hc
                injection he with he
                subst he
                obtain ⟨rfl, _⟩ := takeAll_ownless (c := s) hok (fun p _ t _ => ⟨rfl, fun _ _ => rfl⟩) htk
                refine ⟨_, rfl, fun _ e hn => by simp [SV.names] at hn, fun c hA => ?_⟩
                obtain ⟨_, h2⟩ := takeAll_ownless hok hA htk
                simp only [evBuildSlice, hti, hk, hte, if_neg hm, h2, hr, if_pos hc]
              · cases he
            · cases he
          · cases he
      · cases he
    · cases he
  · cases he
theorem build_same {L : Lay} {d : Nat} {T : TypeId} {ps : List (Nat × Operand)} {s' : St} (hok : partsOk s ps = true) (he : evBuild L s d T ps = some s') : Same s s' d (fun c c' => evBuild L c d T ps = some c') (fun c => ∀ p ∈ ps, AgreeX c s p.2) := by
  unfold evBuild at he
  split at he
  · rename_i ti hti
    split at he
    · rename_i fs hk
      split at he
      · rename_i places qs s1 hpl htk
        split at he
        · rename_i hz
          rw [Option.map_eq_some_iff] at he
          obtain ⟨row, hr, rfl⟩ := he
          obtain ⟨rfl, _⟩ := takeAll_ownless (c := s) hok (fun p _ t _ => ⟨rfl, fun _ _ => rfl⟩) htk
          refine ⟨_, rfl, fun _ e hn => by simp [SV.names] at hn, fun c hA => ?_⟩
          obtain ⟨_, h2⟩ := takeAll_ownless hok hA htk
          simp only [evBuild, hti, hk, hpl, h2, if_pos hz, hr, Option.map_some]
        · cases he
      · cases he
    · cases he
  · cases he
theorem make_same {L : Lay} {d : Nat} {T : TypeId} {x y : Operand} {s' : St} {p : Prop} (he : evMake L s d T x y = some (s', p)) : Same s s' d (fun c c' => evMake L c d T x y = some (c', p)) (fun c => AgreeX c s x ∧ AgreeX c s y) := by
  unfold evMake at he
  split at he
  · rename_i ti k n k' m hti hx hy
    split at he
    · rename_i e hk
      split at he
      · rename_i te hte
        split at he
        · rename_i hc
          simp only [Option.some.injEq, Prod.mk.injEq] at he
          obtain ⟨rfl, rfl⟩ := he
          refine ⟨_, rfl, fun _ e hn => by simp [SV.names] at hn, fun c hA => ?_⟩
          simp only [evMake, hti, flat_agree hA.1, flat_agree hA.2, hx, hy, hk, hte, if_pos hc]
        · cases he
      · cases he
    · cases he
  · cases he

theorem move_same {d : Nat} {x : Operand} {s' : St} (he : evMove s d x = some s') : Same s s' d (fun c c' => evMove c d x = some c') (fun c => AgreeX c s x) := by
  cases x with
  | tmp t =>
    simp only [evMove, Option.map_eq_some_iff] at he
    obtain ⟨sv, hc, rfl⟩ := he
    refine ⟨sv, rfl, fun hok e hn => ?_, fun c hA => ?_⟩
    · unfold St.copy at hc
      cases hg : s.get t with
      | dead => rw [hg] at hc; cases hc
      | tup ps => rw [hg] at hc; cases hc
      | val g row =>
        rw [hg] at hc
        simp only at hc
        split at hc
        · rename_i ho
          split at hc
          · cases hc
          · split at hc
            · cases hc
            · injection hc with hc
              subst hc
              obtain rfl : t = e := by simpa [SV.names] using hn
              rw [hg]; exact ho
        · injection hc with hc; subst hc; simp [SV.names] at hn
      | box T row =>
        rw [hg] at hc
        simp only at hc
        split at hc
        · cases hc
        · injection hc with hc
          subst hc
          obtain rfl : t = e := by simpa [SV.names] using hn
          rw [hg]; rfl
      | ptr _ _ => rw [hg] at hc; simp only at hc; split at hc; cases hc; injection hc with hc; subst hc; exact hok t e (by rw [hg]; exact hn)
      | al _ _ => rw [hg] at hc; simp only at hc; split at hc; cases hc; injection hc with hc; subst hc; exact hok t e (by rw [hg]; exact hn)
      | ep _ _ => rw [hg] at hc; simp only at hc; split at hc; cases hc; injection hc with hc; subst hc; exact hok t e (by rw [hg]; exact hn)
      | eo _ _ _ _ => rw [hg] at hc; simp only at hc; split at hc; cases hc; injection hc with hc; subst hc; exact hok t e (by rw [hg]; exact hn)
      | fn _ _ => rw [hg] at hc; simp only at hc; split at hc; cases hc; injection hc with hc; subst hc; exact hok t e (by rw [hg]; exact hn)
    · have : c.copy t d = s.copy t d := by simp only [St.copy, (hA t rfl).1]
      simp only [evMove, this, hc, Option.map_some]
  | const v =>
    cases v <;> simp only [evMove, Option.some.injEq] at he <;> subst he <;> exact ⟨_, rfl, fun _ e hn => by simp [SV.names] at hn, fun c _ => rfl⟩
  | global g => simp [evMove] at he
  | func f =>
    simp only [evMove, Option.some.injEq] at he
    subst he
    exact ⟨_, rfl, fun _ e hn => by simp [SV.names] at hn, fun c _ => rfl⟩
theorem nil_same {d : Nat} {x : Operand} {s' : St} (he : evNil s d x = some s') : Same s s' d (fun c c' => evNil c d x = some c') (fun c => AgreeX c s x) := by
  cases x with
  | tmp t =>
    simp only [evNil] at he
    split at he
    · rename_i f caps hg
      injection he with he
      subst he
      refine ⟨_, rfl, fun _ e hh => by simp [SV.names] at hh, fun c hA => ?_⟩
      simp only [evNil, (hA t rfl).1, hg]
    · rename_i hnf
      split at he
      · rename_i p hp
        split at he
        · cases he
        · rename_i hn
          injection he with he
          subst he
          refine ⟨p, rfl, fun hok e hh => ptOf_names hok hp hh, fun c hA => ?_⟩
          have hcs := (hA t rfl).1
          have hp2 := (ptOf_agree (hA t rfl) hp).1
          simp only [evNil]
          rw [hcs] at hp2 ⊢
          split
          · rename_i f caps hg
            exact absurd hg (hnf f caps)
          · rw [hp2]
            simp only [if_neg hn]
      · cases he
  | _ => simp [evNil] at he
theorem fieldAddr_same {L : Lay} {d : Nat} {T : TypeId} {x : Operand} {f : Nat} {s' : St} (he : evFieldAddr L s d T x f = some s') : Same s s' d (fun c c' => evFieldAddr L c d T x f = some c') (fun c => AgreeX c s x) := by
  cases x with
  | tmp t =>
    simp only [evFieldAddr] at he
    split at he
    · rename_i p o tf hp hf
      split at he
      · cases he
      · rename_i hz
        split at he
        · cases he
        · rename_i hn
          injection he with he
          subst he
          refine ⟨p.step o, rfl, fun hok e hh => ptOf_names hok hp (by rw [step_names] at hh; exact hh), fun c hA => ?_⟩
          simp only [evFieldAddr, (ptOf_agree (hA t rfl) hp).1, hf, if_neg hz, if_neg hn]
    · cases he
  | _ => simp [evFieldAddr] at he
theorem field_same {L : Lay} {d : Nat} {T : TypeId} {x : Operand} {f : Nat} {s' : St} {p : Prop} (he : evField L s d T x f = some (s', p)) : Same s s' d (fun c c' => evField L c d T x f = some (c', p)) (fun c => AgreeX c s x) := by
  cases x with
  | tmp t =>
    simp only [evField] at he
    split at he
    · rename_i row o tf hg hf
      split at he
      · rename_i hagg
        split at he
        · cases he
        · rename_i hown
          simp only [Option.some.injEq, Prod.mk.injEq] at he
          obtain ⟨rfl, rfl⟩ := he
          refine ⟨_, rfl, fun _ e hh => by simp [SV.names] at hh, fun c hA => ?_⟩
          have := (hA t rfl).1
          rw [hg] at this
          simp only [evField, this, hf, if_pos hagg, if_neg hown]
      · rename_i hagg
        split at he
        · rename_i c0 hc
          split at he
          · cases he
          · rename_i hown
            simp only [Option.some.injEq, Prod.mk.injEq] at he
            obtain ⟨rfl, rfl⟩ := he
            refine ⟨_, rfl, fun _ e hh => by simp [SV.names] at hh, fun c hA => ?_⟩
            have := (hA t rfl).1
            rw [hg] at this
            simp only [evField, this, hf, if_neg hagg, hc, if_neg hown]
        · cases he
    · cases he
  | _ => simp [evField] at he
theorem load_same {L : Lay} {d : Nat} {T : TypeId} {x : Operand} {s' : St} {p : Prop} (he : evLoad L s d T x = some (s', p)) : Same s s' d (fun c c' => evLoad L c d T x = some (c', p)) (fun c => AgreeX c s x) := by
  cases x with
  | tmp t =>
    simp only [evLoad] at he
    split at he
    · rename_i e off ti hpt hti
      split at he
      · rename_i T2 row hbx
        have key : ∀ c, AgreeX c s (.tmp t) → ptOf t (c.get t) = some (.ptr e off) ∧ c.get e = .box T2 row := by
          intro c hA
          obtain ⟨h1, h2⟩ := ptOf_agree (hA t rfl) hpt
          exact ⟨h1, by rw [h2 e (by simp [SV.names]), hbx]⟩
        split at he
        · rename_i hagg
          split at he
          · cases he
          · rename_i hown
            simp only [Option.some.injEq, Prod.mk.injEq] at he
            obtain ⟨rfl, rfl⟩ := he
            refine ⟨_, rfl, fun _ e hh => by simp [SV.names] at hh, fun c hA => ?_⟩
            simp only [evLoad, (key c hA).1, (key c hA).2, hti, if_pos hagg, if_neg hown]
        · rename_i hagg
          split at he
          · rename_i c0 hc
            split at he
            · rename_i ho
              split at he
              · cases he
              · rename_i hed
                simp only [Option.some.injEq, Prod.mk.injEq] at he
                obtain ⟨rfl, rfl⟩ := he
                refine ⟨_, rfl, fun _ e' hh => ?_, fun c hA => ?_⟩
                · obtain rfl : e = e' := by simpa [SV.names] using hh
                  rw [hbx]; rfl
                · simp only [evLoad, (key c hA).1, (key c hA).2, hti, if_neg hagg, hc, if_pos ho, if_neg hed]
            · rename_i ho
              simp only [Option.some.injEq, Prod.mk.injEq] at he
              obtain ⟨rfl, rfl⟩ := he
              refine ⟨_, rfl, fun _ e hh => by simp [SV.names] at hh, fun c hA => ?_⟩
              simp only [evLoad, (key c hA).1, (key c hA).2, hti, if_neg hagg, hc, if_neg ho]
          · cases he
      · cases he
    · rename_i row off ti hpt hti
      split at he
      · rename_i hagg
        simp only [Option.some.injEq, Prod.mk.injEq] at he
        obtain ⟨rfl, rfl⟩ := he
        refine ⟨_, rfl, fun _ e hh => by simp [SV.names] at hh, fun c hA => ?_⟩
        simp only [evLoad, (ptOf_agree (hA t rfl) hpt).1, hti, if_pos hagg]
      · rename_i hagg
        simp only [Option.some.injEq, Prod.mk.injEq] at he
        obtain ⟨rfl, rfl⟩ := he
        refine ⟨_, rfl, fun _ e hh => by simp [SV.names] at hh, fun c hA => ?_⟩
        simp only [evLoad, (ptOf_agree (hA t rfl) hpt).1, hti, if_neg hagg]
    · rename_i e off i j ti hpt hti
      split at he
      · rename_i el k rows hcell
        have key : ∀ c, AgreeX c s (.tmp t) → ptOf t (c.get t) = some (.eo e off i j) ∧ c.cell e off = some (.l (some el) k rows) := by
          intro c hA
          obtain ⟨h1, h2⟩ := ptOf_agree (hA t rfl) hpt
          exact ⟨h1, by rw [cell_agree (h2 e (by simp [SV.names])), hcell]⟩
        split at he
        · rename_i hagg
          simp only [Option.some.injEq, Prod.mk.injEq] at he
          obtain ⟨rfl, rfl⟩ := he
          refine ⟨_, rfl, fun _ e hh => by simp [SV.names] at hh, fun c hA => ?_⟩
          simp only [evLoad, (key c hA).1, (key c hA).2, hti, if_pos hagg]
        · rename_i hagg
          simp only [Option.some.injEq, Prod.mk.injEq] at he
          obtain ⟨rfl, rfl⟩ := he
          refine ⟨_, rfl, fun _ e hh => by simp [SV.names] at hh, fun c hA => ?_⟩
          simp only [evLoad, (key c hA).1, (key c hA).2, hti, if_neg hagg]
      · cases he
    · cases he
  | _ => simp [evLoad] at he
theorem bin_same {L : Lay} {d : Nat} {op : BinOp} {T : TypeId} {x y : Operand} {s' : St} {p : Prop} (he : evBin L s d op T x y = some (s', p)) : Same s s' d (fun c c' => evBin L c d op T x y = some (c', p)) (fun c => AgreeX c s x ∧ AgreeX c s y) := by
  unfold evBin at he
  split at he
  · rename_i u v hu hv
    rw [Option.map_eq_some_iff] at he
    obtain ⟨r, hr, he⟩ := he
    simp only [Prod.mk.injEq] at he
    obtain ⟨rfl, rfl⟩ := he
    refine same_flat fun c hA => ?_
    simp only [evBin, flat_agree hA.1, flat_agree hA.2, hu, hv, hr, Option.map_some]
  · cases he
theorem un_same {d : Nat} {op : UnOp} {x : Operand} {s' : St} (he : evUn s d op x = some s') : Same s s' d (fun c c' => evUn c d op x = some c') (fun c => AgreeX c s x) := by
  unfold evUn at he
  split at he
  · rename_i u hu
    rw [Option.map_eq_some_iff] at he
    obtain ⟨r, hr, rfl⟩ := he
    refine same_flat fun c hA => ?_
    simp only [evUn, flat_agree hA, hu, hr, Option.map_some]
  · cases he
theorem convert_same {L : Lay} {d : Nat} {S T : TypeId} {x : Operand} {s' : St} {p : Prop} (he : evConvert L s d S T x = some (s', p)) : Same s s' d (fun c c' => evConvert L c d S T x = some (c', p)) (fun c => AgreeX c s x) := by
  unfold evConvert at he
  split at he
  · rename_i ts tt hts htt
    split at he
    · rename_i k hk
      split at he
      · rename_i k' m hf
        simp only [Option.some.injEq, Prod.mk.injEq] at he
        obtain ⟨rfl, rfl⟩ := he
        refine same_flat fun c hA => ?_
        simp only [evConvert, hts, htt, hk, flat_agree hA, hf]
      · cases he
    · rename_i hk
      split at he
      · rename_i e hke
        split at he
        · rename_i te hte
          split at he
          · rename_i hku
            split at he
            · rename_i l hl
              split at he
              · rename_i hw
                simp only [Option.some.injEq, Prod.mk.injEq] at he
                obtain ⟨rfl, rfl⟩ := he
                refine same_flat fun c hA => ?_
                simp only [evConvert, hts, htt, hk, hke, hte, hku, list_agree hA, hl, if_pos hw]
              · cases he
            · cases he
          · cases he
        · cases he
      · cases he
    · cases he
  · cases he
theorem index_same {L : Lay} {d : Nat} {T : TypeId} {x i : Operand} {s' : St} {p : Prop} (he : evIndex L s d T x i = some (s', p)) : Same s s' d (fun c c' => evIndex L c d T x i = some (c', p)) (fun c => AgreeX c s x ∧ AgreeX c s i) := by
  unfold evIndex at he
  split at he
  · rename_i ti str k nn hti hx hi
    split at he
    · rename_i hk
      simp only [Option.some.injEq, Prod.mk.injEq] at he
      obtain ⟨rfl, rfl⟩ := he
      refine same_flat fun c hA => ?_
      simp only [evIndex, hti, flat_agree hA.1, flat_agree hA.2, hx, hi, hk]
    · cases he
  · cases he
theorem list_own_root {x : Operand} {d off : Nat} {e : TypeId} {k : Nat} {rows : List (List C)} (hl : s.list x = some (.own d off e k rows)) : (s.get d).root = true := by
  cases x with
  | const u =>
    simp only [St.list] at hl
    split at hl
    · rename_i heq; cases heq
    · injection hl with hl; cases hl
    · cases hl
  | tmp t =>
    simp only [St.list] at hl
    cases hg : s.get t with
    | val g row =>
      rw [hg] at hl
      unfold lsOf at hl
      split at hl
      · injection hl with hl; cases hl
      · rename_i heq
        injection heq with e1 e2
        subst e1; subst e2
        injection hl with hl
        injection hl with e1 e2 e3 e4 e5
        subst e1
        rw [hg]; simp [SV.root, rowOwn, C.own]
      · injection hl with hl; cases hl
      · cases ‹SV.val g row = SV.al _ _›
      · cases hl
    | al d' off' =>
      rw [hg] at hl
      simp only [lsOf] at hl
      split at hl
      · rename_i hc
        injection hl with hl
        injection hl with e1 e2 e3 e4 e5
        subst e1
        exact St.cell_root hc
      · cases hl
    | _ => rw [hg] at hl; cases hl
  | global g => simp [St.list] at hl
  | func f => simp [St.list] at hl
theorem indexAddr_same {L : Lay} {d : Nat} {T : TypeId} {x i : Operand} {s' : St} {p : Prop} (he : evIndexAddr L s d T x i = some (s', p)) : Same s s' d (fun c c' => evIndexAddr L c d T x i = some (c', p)) (fun c => AgreeX c s x ∧ AgreeX c s i) := by
  unfold evIndexAddr at he
  split at he
  · rename_i ti hti
    split at he
    · rename_i e hk
      split at he
      · rename_i te rows k ik nn hte hx hi
        split at he
        · rename_i hkk
          simp only [Option.some.injEq, Prod.mk.injEq] at he
          obtain ⟨rfl, rfl⟩ := he
          refine ⟨_, rfl, fun _ e hh => by simp [SV.names] at hh, fun c hA => ?_⟩
          simp only [evIndexAddr, hti, hk, hte, list_agree hA.1, flat_agree hA.2, hx, hi, if_pos hkk]
        · cases he
      · rename_i te r off el k rows ik nn hte hx hi
        split at he
        · rename_i hkk
          simp only [Option.some.injEq, Prod.mk.injEq] at he
          obtain ⟨rfl, rfl⟩ := he
          refine ⟨_, rfl, fun _ e hh => ?_, fun c hA => ?_⟩
          · obtain rfl : r = e := by simpa [SV.names] using hh
            exact list_own_root hx
          · simp only [evIndexAddr, hti, hk, hte, list_agree hA.1, flat_agree hA.2, hx, hi, if_pos hkk]
        · cases he
      · cases he
    · cases he
  · cases he
theorem len_same {L : Lay} {d : Nat} {T : TypeId} {x : Operand} {s' : St} (he : evLen L s d T x = some s') : Same s s' d (fun c c' => evLen L c d T x = some c') (fun c => AgreeX c s x) := by
  unfold evLen at he
  split at he
  · rename_i ti hti
    split at he
    · rename_i e hk
      split at he
      · rename_i l hl
        injection he with he
        subst he
        refine same_flat fun c hA => ?_
        simp only [evLen, hti, hk, list_agree hA, hl]
      · cases he
    · rename_i hk
      split at he
      · rename_i str hf
        injection he with he
        subst he
        refine same_flat fun c hA => ?_
        simp only [evLen, hti, hk, flat_agree hA, hf]
      · cases he
    · cases he
  · cases he
end
end Go.Proofs.Vm
