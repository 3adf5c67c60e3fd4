/- A part of the proof of the card: lemmas that the text with the card leans on (see there for what is proved, and under which conditions). -/
import Derived.Test.YtgjdionnbbnmpaaGreatDoorVmS
set_option linter.unusedVariables false
set_option linter.unusedSimpArgs false
namespace Go.Proofs.Vm
open Go Go.RowKit

section
variable {S : FuncId → List SV → SV → Prop} {n : Nat} {L : Lay} {all : Array Oper}
theorem Same.imp {s s' : St} {d : Nat} {Q Q' : St → St → Prop} {A A' : St → Prop} (h : Same s s' d Q A) (hA : ∀ c, A' c → A c) (hQ : ∀ c c', Q c c' → Q' c c') : Same s s' d Q' A' := by
  obtain ⟨sv, h1, h2, h3⟩ := h
  exact ⟨sv, h1, h2, fun c hc => hQ _ _ (h3 c (hA c hc))⟩
theorem agreeX_of {o : Oper} {c s : St} (h : ∀ t ∈ o.looksAt all, Agree c s t) {x : Operand} (hx : x ∈ o.op.operands) : AgreeX c s x := by
  rintro t rfl
  refine h t ?_
  unfold Oper.looksAt
  exact List.mem_append_left _ (List.mem_filterMap.2 ⟨.tmp t, by simpa using hx, rfl⟩)

theorem evOp_same {o : Oper} (hq : quietOp o = true) {d : Nat} (hd : o.dst = some d) {s s' : St} {p : Prop} (he : evOp n L s o = some (s', p)) (hbo : buildOk s o.op = true) :
    Same s s' d (fun c c' => evOp n L c o = some (c', p)) (fun c => ∀ t ∈ o.looksAt all, Agree c s t) := by
  have ag : ∀ {c : St}, (∀ t ∈ o.looksAt all, Agree c s t) → ∀ x ∈ o.op.operands, AgreeX c s x := fun h x hx => agreeX_of h hx
  obtain ⟨dst, op, type, pos, after, guard⟩ := o
  simp only at hd
  subst hd
  simp only [evOp] at he
  split at he
  · rename_i hn
    have mp : ∀ {x : Option St}, (x.map fun s => (s, True)) = some (s', p) → x = some s' ∧ p = True := by
      intro x hx
      rw [Option.map_eq_some_iff] at hx
      obtain ⟨s, hs, hx⟩ := hx
      simp only [Prod.mk.injEq] at hx
      exact ⟨by rw [hs, hx.1], hx.2.symm⟩
    cases op <;> simp only [quietOp] at hq <;> first | (cases hq; done) | skip
    all_goals simp only at he
    case move x =>
      split at he
      · rename_i hc
        obtain ⟨h1, rfl⟩ := mp he
        exact (move_same h1).imp (fun c hA => ag hA _ (by simp [Op.operands])) (fun c c' h => by simp only [evOp, if_pos hn, if_pos hc, h, Option.map_some])
      · cases he
    case load T x =>
      exact (load_same he).imp (fun c hA => ag hA _ (by simp [Op.operands])) (fun c c' h => by simp only [evOp, if_pos hn, h])
    case nilCheck x =>
      obtain ⟨h1, rfl⟩ := mp he
      exact (nil_same h1).imp (fun c hA => ag hA _ (by simp [Op.operands])) (fun c c' h => by simp only [evOp, if_pos hn, h, Option.map_some])
    case binOp op T x y T2 =>
      exact (bin_same he).imp (fun c hA => ⟨ag hA _ (by simp [Op.operands]), ag hA _ (by simp [Op.operands])⟩) (fun c c' h => by simp only [evOp, if_pos hn, h])
    case unOp op T x =>
      obtain ⟨h1, rfl⟩ := mp he
      exact (un_same h1).imp (fun c hA => ag hA _ (by simp [Op.operands])) (fun c c' h => by simp only [evOp, if_pos hn, h, Option.map_some])
    case convert S T x =>
      exact (convert_same he).imp (fun c hA => ag hA _ (by simp [Op.operands])) (fun c c' h => by simp only [evOp, if_pos hn, h])
    case fieldAddr T x f =>
      obtain ⟨h1, rfl⟩ := mp he
      exact (fieldAddr_same h1).imp (fun c hA => ag hA _ (by simp [Op.operands])) (fun c c' h => by simp only [evOp, if_pos hn, h, Option.map_some])
    case field T x f =>
      exact (field_same he).imp (fun c hA => ag hA _ (by simp [Op.operands])) (fun c c' h => by simp only [evOp, if_pos hn, h])
    case indexAddr T x i =>
      exact (indexAddr_same he).imp (fun c hA => ⟨ag hA _ (by simp [Op.operands]), ag hA _ (by simp [Op.operands])⟩) (fun c c' h => by simp only [evOp, if_pos hn, h])
    case index T x i =>
      exact (index_same he).imp (fun c hA => ⟨ag hA _ (by simp [Op.operands]), ag hA _ (by simp [Op.operands])⟩) (fun c c' h => by simp only [evOp, if_pos hn, h])
    case pick c x y => cases he
    case buildSlice T m ps =>
      split at he
      · rename_i hc
        obtain ⟨h1, rfl⟩ := mp he
        exact (buildSlice_same hbo h1).imp (fun c hA p hp => ag hA _ (by simp only [Op.operands]; simpa using ⟨p.1, Array.mem_toList_iff.1 hp⟩)) (fun c c' h => by simp only [evOp, if_pos hn, if_pos hc, h, Option.map_some])
      · cases he
    case build T ps =>
      split at he
      · rename_i hc
        obtain ⟨h1, rfl⟩ := mp he
        exact (build_same hbo h1).imp (fun c hA p hp => ag hA _ (by simp only [Op.operands]; simpa using ⟨p.1, Array.mem_toList_iff.1 hp⟩)) (fun c c' h => by simp only [evOp, if_pos hn, if_pos hc, h, Option.map_some])
      · cases he
    case makeSlice T x y =>
      exact (make_same he).imp (fun c hA => ⟨ag hA _ (by simp [Op.operands]), ag hA _ (by simp [Op.operands])⟩) (fun c c' h => by simp only [evOp, if_pos hn, h])
    case call cl =>
      obtain ⟨callee, args, argTypes⟩ := cl
      cases callee with
      | value f => simp only at he; cases he
      | invoke r m => simp only at he; cases he
      | builtin b =>
        simp only at he
        have hops : ∀ x ∈ args.toList, x ∈ (Op.call { callee := .builtin b, args := args, argTypes := argTypes }).operands := by
          intro x hx
          simp only [Op.operands, Call.operands]
          simpa using hx
        have go : ∀ c c', evBuiltin L c d b args.toList argTypes.toList = some (c', p) → evOp n L c ⟨some d, .call { callee := .builtin b, args := args, argTypes := argTypes }, type, pos, after, guard⟩ = some (c', p) := by
          intro c c' h
          simp only [evOp, if_pos hn, h]
        generalize hxs : args.toList = xs at he hops go
        generalize hts : argTypes.toList = ts at he go
        unfold evBuiltin at he
        split at he
        · rename_i x T
          obtain ⟨h1, rfl⟩ := mp he
          exact (len_same h1).imp (fun c hA => ag hA _ (hops _ (by simp))) (fun c c' h => go c c' (by simp only [evBuiltin, h, Option.map_some]))
        · simp at hq
        · rename_i x y
          split at he
          · rename_i k u k' v hu hv
            simp only [Option.some.injEq, Prod.mk.injEq] at he
            obtain ⟨rfl, rfl⟩ := he
            refine Same.imp (A := fun c => AgreeX c s x ∧ AgreeX c s y) (same_flat (Q := fun c c' => evBuiltin L c d .min [x, y] ts = some (c', True)) fun c hA => ?_) (fun c hA => ⟨ag hA _ (hops _ (by simp)), ag hA _ (hops _ (by simp))⟩) (fun c c' h => go c c' h)
            simp only [evBuiltin, flat_agree hA.1, flat_agree hA.2, hu, hv]
          · cases he
        · rename_i x y
          split at he
          · rename_i k u k' v hu hv
            simp only [Option.some.injEq, Prod.mk.injEq] at he
            obtain ⟨rfl, rfl⟩ := he
            refine Same.imp (A := fun c => AgreeX c s x ∧ AgreeX c s y) (same_flat (Q := fun c c' => evBuiltin L c d .max [x, y] ts = some (c', True)) fun c hA => ?_) (fun c hA => ⟨ag hA _ (hops _ (by simp)), ag hA _ (hops _ (by simp))⟩) (fun c c' h => go c c' h)
            simp only [evBuiltin, flat_agree hA.1, flat_agree hA.2, hu, hv]
          · cases he
        · cases he
  · cases he

theorem ownless_agree {c s : St} {x : Operand} (h : AgreeX c s x) (ho : ownless s x = true) : ownless c x = true := by
  cases x with
  | tmp t => simp only [ownless, (h t rfl).1] at ho ⊢; exact ho
  | const v => rfl
  | global g => cases ho
  | func f => cases ho
theorem partsOk_agree {c s : St} : ∀ {ps : List (Nat × Operand)}, (∀ p ∈ ps, AgreeX c s p.2) → partsOk s ps = true → partsOk c ps = true
  | [], _, _ => rfl
  | (i, x) :: r, h, ho => by
    simp only [partsOk, Bool.and_eq_true] at ho ⊢
    exact ⟨ownless_agree (h (i, x) (by simp)) ho.1, partsOk_agree (fun p hp => h p (by simp [hp])) ho.2⟩
theorem buildOk_agree {c s : St} {o : Op} (h : ∀ x ∈ o.operands, AgreeX c s x) (ho : buildOk s o = true) : buildOk c o = true := by
  cases o with
  | buildSlice T m ps => exact partsOk_agree (fun p hp => h _ (by simp only [Op.operands]; simpa using ⟨p.1, Array.mem_toList_iff.1 hp⟩)) ho
  | build T ps => exact partsOk_agree (fun p hp => h _ (by simp only [Op.operands]; simpa using ⟨p.1, Array.mem_toList_iff.1 hp⟩)) ho
  | _ => rfl
theorem does_same {o : Oper} (hq : quietOp o = true) {d : Nat} (hd : o.dst = some d) {s s' : St} (h : Does S n L none s o s') :
    Same s s' d (fun c c' => Does S n L none c o c') (fun c => ∀ t ∈ o.looksAt all, Agree c s t) := by
  cases h with
  | pick ho hd2 hf hn hc he =>
    rename_i c0 x y d2 b
    rw [hd] at hd2
    injection hd2 with hd2
    subst hd2
    obtain ⟨sv, h1, h2, h3⟩ := move_same he
    refine ⟨sv, h1, h2, fun c hA => ?_⟩
    exact .pick ho hd (by rw [flat_agree (agreeX_of hA (by rw [ho]; simp [Op.operands]))]; exact hf) hn hc (h3 c (agreeX_of hA (by rw [ho]; cases b <;> simp [Op.operands])))
  | call ho hd2 hn ha hs hr hb =>
    rename_i f xs ats d2 ps own res
    rw [hd] at hd2
    injection hd2 with hd2
    subst hd2
    refine ⟨res, rfl, fun _ e hh => ?_, fun c hA => ?_⟩
    · cases res <;> first | (simp [SV.names] at hh; done) | (simp [SV.isRes] at hr)
    · refine .call ho hd hn ?_ hs hr hb
      rw [argsOf_agree (s := s) (fun x hx => agreeX_of hA (by rw [ho]; simp only [Op.operands, Call.operands]; simp at hx ⊢; exact Or.inr hx)), ha]
  | callFn ho => rw [quietOp, ho] at hq; simp at hq
  | move hdr he => cases hdr
  | plain he hp hqb =>
    obtain ⟨sv, h1, h2, h3⟩ := evOp_same (all := all) hq hd he hqb
    refine ⟨sv, h1, h2, fun c hA => .plain (h3 c hA) hp ?_⟩
    exact buildOk_agree (fun x hx => agreeX_of hA hx) hqb

theorem stepO_same {o : Oper} (hq : quietOp o = true) {d : Nat} (hd : o.dst = some d) {s s' : St} (h : StepO S n L none all s o s') :
    Same s s' d (fun c c' => StepO S n L none all c o c') (fun c => ∀ t ∈ o.looksAt all, Agree c s t) := by
  have yo : ∀ {j : Nat} {b : Bool} {y : Option Bool} {c : St}, o.guard = some (j, b) → yieldOf all s j = some y → (∀ t ∈ o.looksAt all, Agree c s t) → yieldOf all c j = some y := by
    intro j b y c hg hy hA
    unfold yieldOf at hy ⊢
    split at hy
    · rename_i d2 hd2
      have hA2 := hA d2 (by unfold Oper.looksAt; refine List.mem_append_right _ ?_; rw [hg]; simp [hd2])
      rw [hA2.1]
      exact hy
    · cases hy
  cases h with
  | free hg h => exact (does_same hq hd h).imp (fun _ h => h) (fun c c' h => .free hg h)
  | want hg hy h =>
    obtain ⟨sv, h1, h2, h3⟩ := does_same (all := all) hq hd h
    exact ⟨sv, h1, h2, fun c hA => .want hg (yo hg hy hA) (h3 c hA)⟩
  | skip hg hy hne h =>
    rw [hd] at h
    simp only [skipTo] at h
    split at h
    · rename_i hn
      injection h with h
      subst h
      refine ⟨_, rfl, fun _ e hh => by simp [SV.names] at hh, fun c hA => .skip hg (yo hg hy hA) hne ?_⟩
      rw [hd]
      simp only [skipTo, if_pos hn]
    · cases h
end
end Go.Proofs.Vm
