/- A part of the proof of the card: lemmas that the text with the card leans on (see there for what is proved, and under which conditions). -/
import Derived.Test.YtgjdionnbbnmpaaGreatDoorVmV
set_option linter.unusedVariables false
set_option linter.unusedSimpArgs false
namespace Go.Proofs.Vm
open Go Go.RowKit

theorem initFrom_get : ∀ (ps : List SV) (i t : Nat), (initFrom i ps).get t = if i ≤ t then (match ps[t - i]? with | some sv => sv | none => .dead) else .dead
  | [], i, t => by simp [initFrom, St.get]
  | sv :: r, i, t => by
    simp only [initFrom, St.get]
    by_cases h : i = t
    · subst h
      simp
    · rw [if_neg h, initFrom_get r (i + 1) t]
      by_cases h2 : i ≤ t
      · rw [if_pos h2, if_pos (by omega)]
        have : t - i = (t - (i + 1)) + 1 := by omega
        rw [this, List.getElem?_cons_succ]
      · rw [if_neg h2, if_neg (by omega)]
theorem RepA_get {w : World} {I : Nat → Prop} : ∀ {ps : List SV} {vs : List Value}, RepA w I ps vs → vs.length = ps.length ∧ ∀ (t : Nat) (sv : SV), ps[t]? = some sv → ∃ u, vs[t]? = some u ∧ RepArg w I sv u
  | [], vs, h => by
    simp only [RepA] at h
    subst h
    exact ⟨rfl, fun t sv ht => by simp at ht⟩
  | sv0 :: ps, vs, h => by
    simp only [RepA] at h
    obtain ⟨u, vs', rfl, h1, h2⟩ := h
    obtain ⟨h3, h4⟩ := RepA_get h2
    refine ⟨by simp [h3], fun t sv ht => ?_⟩
    cases t with
    | zero =>
      simp only [List.getElem?_cons_zero, Option.some.injEq] at ht
      subst ht
      exact ⟨u, rfl, h1⟩
    | succ t =>
      rw [List.getElem?_cons_succ] at ht ⊢
      exact h4 t sv ht

section
variable {P : Program} {L : Lay} {G : Glob} {W0 : Base} {I0 : Nat → Prop} {n : Nat} {I : Nat → Prop} {F : Nat → List Nat} {X : List Nat} {st : St} {a : Act} {w : World}

theorem inv_init {ps : List SV} {vs : List Value} (hG : G w) (hI : ∀ g, I g → g < w.heap.size) (hA : RepA w I ps vs) (hn : ps.length ≤ n) :
    Inv G ⟨w, fun _ => False⟩ I n (initFrom 0 ps) { tmps := vs.toArray ++ Array.replicate (n - vs.toArray.size) undef, defers := [] } w := by
  obtain ⟨hl, hget⟩ := RepA_get hA
  refine ⟨I, fun _ => [], { size := by simp; omega, defers := rfl, below := Bel.refl _ _, glob := hG, Ilt := hI, Iold := fun g hg => hg, Inew := fun g hg => Or.inl hg, rep := fun t => ?_, nodup := fun t => List.nodup_nil, apart := fun t u _ g hg => by simp at hg, xnodup := List.nodup_nil, xapart := fun t g hg => by simp at hg, Fok := fun t g hg => by simp at hg, Xok := fun g hg => by simp at hg }⟩
  unfold RepS
  rw [initFrom_get, if_pos (Nat.zero_le _), Nat.sub_zero]
  by_cases ht : t < ps.length
  · obtain ⟨sv, hp⟩ : ∃ p, ps[t]? = some p := ⟨_, List.getElem?_eq_getElem ht⟩
    obtain ⟨u, hu, hr⟩ := hget t sv hp
    have : (vs.toArray ++ Array.replicate (n - vs.toArray.size) undef)[t]? = some u := by
      rw [Array.getElem?_append_left (by simp; omega)]
      simpa using hu
    simp only [this, hp]
    exact hr.repV
  · have hnone : ps[t]? = none := List.getElem?_eq_none (by omega)
    rw [hnone]
    simp only
    split
    · simp only [RepV]
    · simp

/-- The reading of one result. -/
def readRes (tmps : Array Value) : ResultVar → Sem Value
  | .tmp t => pure (tmps.getD t undef)
  | .cell a t => do loadVar t (← asAddr (tmps.getD a undef))
theorem takeRes_spec (hL : L.ok P) (h : InvX G W0 I0 n I F X st a w) {r : ResultVar} {g : Bool} {row : List C} {st1 : St} (ht : takeRes L st r = some (g, row, st1)) :
    ∃ v F1 F', (readRes a.tmps r).run P w = .ok v w ∧ RepG w I g row v F' ∧ InvX G W0 I0 n I F1 (F' ++ X) st1 a w := by
  cases r with
  | tmp t =>
    obtain ⟨F1, Fa, h1, hg, _⟩ := h.take (x := .tmp t) ht (fun v hv => by cases hv)
    exact ⟨_, F1, Fa, rfl, hg, h1⟩
  | cell b T =>
    simp only [takeRes] at ht
    split at ht
    · rename_i T' row' ti hg hti
      split at ht
      · rename_i hc
        obtain ⟨hsz, hagg⟩ := hc
        simp only [Option.some.injEq, Prod.mk.injEq] at ht
        obtain ⟨rfl, rfl, rfl⟩ := ht
        obtain ⟨i, dd, z, hs⟩ := hL.spec hti
        obtain ⟨u, hu, hr⟩ := h.live (t := b) (by rw [hg]; simp)
        rw [hg] at hr
        simp only [RepV] at hr
        obtain ⟨g, vs, F', rfl, hgg, hrr, hF⟩ := hr
        have hra : w.rangeAt g 0 vs := rangeAt_block (v1 := []) (v3 := []) hgg (by simp) rfl
        have hrun : (readRes a.tmps (.cell b T)).run P w = .ok (.agg vs.toArray) w := by
          have e : a.tmps.getD b undef = .pointer (some ⟨g, 0, none⟩) := by simp [Array.getD_eq_getD_getElem?, hu]
          simp only [readRes, e, asAddr, Sem.run_bind, Sem.run_pure, Result.andThen_ok]
          exact run_loadVar_mid w g 0 T vs dd hra hs.under (by rw [hs.agg]; exact hagg) (by rw [hs.info]; simp [hs.size, ← hsz, hrr.length])
        refine ⟨_, _, F', hrun, ?_, (h.drop b).less ?_ ?_⟩
        · simp only [RepG, if_true]; exact ⟨vs, rfl, hrr⟩
        · have := (h.drop b).xnodup
          rw [hF] at this
          exact (List.nodup_cons.1 this).2
        · intro q hq
          rw [hF]
          exact List.mem_cons_of_mem _ hq
      · cases ht
    · cases ht

theorem resAll_spec (hL : L.ok P) : ∀ {rs : List ResultVar} {st : St} {ps : List Arg} {F : Nat → List Nat} {X : List Nat}, InvX G W0 I0 n I F X st a w → resAll L st rs = some ps →
    ∃ us F', Sem.run P (rs.mapM (readRes a.tmps)) w = Result.ok us w ∧ us.length = rs.length ∧ RepT w I ps us F' ∧ (F' ++ X).Nodup ∧ ∀ g ∈ F', W0.has g ∧ g < w.heap.size ∧ ¬ I g
  | [], st, ps, F, X, h, hr => by
    simp only [resAll, Option.some.injEq] at hr
    subst hr
    exact ⟨[], [], by simp, rfl, by simp [RepT], by simpa using h.xnodup, by simp⟩
  | r :: rs, st, ps, F, X, h, hr => by
    simp only [resAll] at hr
    split at hr
    · rename_i g row st1 htk
      rw [Option.map_eq_some_iff] at hr
      obtain ⟨ps', hr, rfl⟩ := hr
      obtain ⟨v, F1, Fa, hrun, hg, h1⟩ := takeRes_spec hL h htk
      obtain ⟨us, Fb, hrun2, hlen, h2, h3, h4⟩ := resAll_spec hL h1 hr
      refine ⟨v :: us, Fa ++ Fb, ?_, by simp [hlen], ?_, ?_, ?_⟩
      · rw [List.mapM_cons, Sem.run_bind, hrun, Result.andThen_ok, Sem.run_bind, hrun2, Result.andThen_ok, Sem.run_pure]
      · simp only [RepT]
        refine ⟨v, us, Fa, Fb, rfl, rfl, ?_, h2⟩
        unfold RepG at hg
        cases g with
        | true =>
          simp only [if_true] at hg ⊢
          obtain ⟨vs, hv, hrr⟩ := hg
          exact ⟨vs, hv, by simp, hrr⟩
        | false =>
          simp only [Bool.false_eq_true, if_false] at hg ⊢
          exact ⟨[v], rfl, fun _ => by have := hg.length; simpa using this.symm, hg⟩
      · have hp : (Fb ++ (Fa ++ X)).Perm ((Fa ++ Fb) ++ X) := by
          rw [← List.append_assoc]
          exact List.Perm.append_right X List.perm_append_comm
        exact hp.nodup_iff.1 h3
      · intro g' hg'
        rcases List.mem_append.1 hg' with hg' | hg'
        · exact h1.Xok g' (by simp [hg'])
        · exact h4 g' hg'
    · cases hr

theorem resOf_spec (hL : L.ok P) (h : InvX G W0 I0 n I F [] st a w) {rs : Array ResultVar} {fn : Func} (hfn : fn.results = rs) {res : SV} (hr : resOf L st rs.toList = some res) :
    ∃ v F', (results fn a.tmps).run P w = .ok v w ∧ RepRes w I res v F' ∧ F'.Nodup ∧ ∀ g ∈ F', W0.has g ∧ g < w.heap.size ∧ ¬ I g := by
  obtain ⟨rs⟩ := rs
  simp only at hr
  have run : ∀ {us : List Value}, Sem.run P (rs.mapM (readRes a.tmps)) w = Result.ok us w → (results fn a.tmps).run P w = .ok (if h : us.toArray.size = 1 then us.toArray[0] else .tuple us.toArray) w := by
    intro us hus
    unfold results
    rw [hfn, Array.mapM_eq_mapM_toList, Sem.run_bind]
    have helper : ∀ (f : ResultVar → Sem Value), (∀ r, f r = readRes a.tmps r) → ((Sem.run P (List.mapM f rs) w).andThen fun a w' => Result.ok a.toArray w').andThen (fun a w' => Result.ok (if h : a.size = 1 then a[0] else Value.tuple a) w') =
        Result.ok (if h : us.toArray.size = 1 then us.toArray[0] else .tuple us.toArray) w := by
      intro f hf
      have : f = readRes a.tmps := funext hf
      rw [this, hus]
      rfl
    simp only [bind_pure_comp, Sem.run_map, Sem.run_pure]
    refine helper _ ?_
    intro r
    cases r <;> rfl
  unfold resOf at hr
  split at hr
  · rename_i r
    rw [Option.map_eq_some_iff] at hr
    obtain ⟨⟨g, row, st1⟩, htk, rfl⟩ := hr
    obtain ⟨v, F1, Fa, hrun, hg, h1⟩ := takeRes_spec hL h htk
    have hrun2 : Sem.run P ([r].mapM (readRes a.tmps)) w = Result.ok [v] w := by
      rw [List.mapM_cons, Sem.run_bind, hrun, Result.andThen_ok]
      simp
    exact ⟨_, Fa, run hrun2, hg, by simpa using h1.xnodup, fun g hg => h1.Xok g (by simp [hg])⟩
  · rename_i hne
    rw [Option.map_eq_some_iff] at hr
    obtain ⟨ps, hps, rfl⟩ := hr
    obtain ⟨us, F', hrun, hlen, h2, h3, h4⟩ := resAll_spec hL h hps
    have hrun2 := run hrun
    rw [dif_neg] at hrun2
    · exact ⟨_, F', hrun2, by simp only [RepRes]; exact ⟨_, rfl, h2⟩, by simpa using h3, h4⟩
    · intro hsz
      rcases rs with _ | ⟨r, _ | ⟨r2, rs⟩⟩
      · simp [hlen] at hsz
      · exact hne r rfl
      · simp [hlen] at hsz

/-- A FUNCTION KEEPS ITS CONTRACT when its code, run over trees, ends with what the contract says. -/
theorem sat_of_go (hL : L.ok P) {mx : Bool} (fr : Bool) (dd : List (List Nat)) (hmx : P.follows .mixedOrders = mx) {f : FuncId} {fn : Func} {c : Code} {ps : List SV} {res : SV}
    (hf : P.funcs[f]? = some fn) (hname : (fn.name == "runtime.NumGoroutine") = false) (hb : fn.body = some c) (hn : ps.length ≤ fn.ntmps)
    (hgo : go (Sat P G) fn.ntmps L mx fr dd c (initFrom 0 ps) (endK L fn.results.toList res)) : Sat P G f ps res := by
  refine ⟨⟨fn, c, hf, hname, hb⟩, fun w I vs hG hI hA => ?_⟩
  refine calls_of_wp hf hb ?_
  refine go_wp (W0 := ⟨w, fun _ => False⟩) hL hG (fun g hg => hg.elim) hmx c (inv_init hG hI hA hn) hgo ?_
  rintro e st' a' w' ⟨he, hr⟩ ⟨I', F, h⟩
  obtain ⟨v, F', hrun, hrep, hnd, hF'⟩ := resOf_spec (P := P) hL h (fn := fn) rfl hr
  have key : a'.defers = [] ∧ ∃ v, (results fn a'.tmps).run P w' = .ok v w' ∧ ∃ v_1 I' F', Ending.returned v = Ending.returned v_1 ∧ Below w.heap.size w w' ∧ (∀ g, I' g → I g ∨ w.heap.size ≤ g) ∧ (∀ g, I g → I' g) ∧ (∀ g, I' g → g < w'.heap.size) ∧ RepRes w' I' res v_1 F' ∧ F'.Nodup ∧ ∀ g ∈ F', w.heap.size ≤ g ∧ g < w'.heap.size ∧ ¬ I' g :=
    ⟨h.defers, v, hrun, v, I', F', rfl, h.below.below (Nat.le_refl _) (fun g hg => hg.elim), fun g hg => by simpa [Base.has] using h.Inew g hg, h.Iold, h.Ilt, hrep, hnd, fun g hg => by simpa [Base.has] using hF' g hg⟩
  rcases he with rfl | rfl
  · exact key
  · exact key
end
end Go.Proofs.Vm
