/- A part of the proof of the card: lemmas that the text with the card leans on (see there for what is proved, and under which conditions). -/
import Derived.Test.YtgjdionnbbnmpaaGreatDoorVmX
set_option linter.unusedVariables false
set_option linter.unusedSimpArgs false
namespace Go.Proofs.Vm
open Go Go.RowKit

/-- A loop whose rounds count down by a measure. -/
theorem loop_by {α : Type} {f : St → (Exit → St → Prop) → Prop} {K : Exit → St → Prop} (l : List Nat) (s : α → St) (μ : α → Nat) (Q : α → Prop)
    (hstep : ∀ a, Q a → ∀ F : St → (Exit → St → Prop) → Prop, (∀ a' st', μ a' < μ a → Q a' → st'.only l = s a' → F st' K) → f (s a) (seqK F K))
    {st : St} (a : α) (h0 : st.only l = s a) (hQ : Q a) : ∃ l m, goLoop f l m st K := by
  have key : ∀ k a st, μ a ≤ k → Q a → st.only l = s a → goLoop f l (k + 1) st K := by
    intro k
    induction k with
    | zero =>
      intro a st hk hq hs
      show f (st.only l) (seqK (goLoop f l 0) K)
      rw [hs]
      exact hstep a hq _ (fun a' st' h1 _ _ => by omega)
    | succ k ih =>
      intro a st hk hq hs
      show f (st.only l) (seqK (goLoop f l (k + 1)) K)
      rw [hs]
      exact hstep a hq _ (fun a' st' h1 h2 h3 => ih a' st' (by omega) h2 h3)
  exact ⟨l, μ a + 1, key (μ a) a st (Nat.le_refl _) hQ h0⟩

/-- A contract of the library's, whose result is flat, in my form. -/
theorem sat_flat {P : Program} {G : Glob} {f : FuncId} {fn : Func} {c : Code} {ps : List SV} {v : Value} (hf : P.funcs[f]? = some fn) (hname : (fn.name == "runtime.NumGoroutine") = false) (hb : fn.body = some c) (hv : v.oneCell' = true)
    (h : ∀ (w : World) (I : Nat → Prop) (vs : List Value), G w → (∀ g, I g → g < w.heap.size) → RepA w I ps vs → Calls P f vs.toArray w fun e w' => e = .returned v ∧ Below w.heap.size w w') : Sat P G f ps (.val false [.v v]) := by
  refine ⟨⟨fn, c, hf, hname, hb⟩, fun w I vs hG hI hA => ?_⟩
  refine Calls.mono (h w I vs hG hI hA) ?_
  rintro e w' ⟨rfl, hbel⟩
  refine ⟨v, I, [], rfl, hbel, fun g hg => Or.inl hg, fun g hg => hg, fun g hg => Nat.lt_of_lt_of_le (hI g hg) hbel.size, ?_, List.nodup_nil, fun g hg => by simp at hg⟩
  simp only [RepRes, RepG, Bool.false_eq_true, if_false]
  exact flat_rep hv
/-- What flat arguments are. -/
theorem RepA_flat {w : World} {I : Nat → Prop} : ∀ {xs : List Value} {vs : List Value}, RepA w I (xs.map fun x => .val false [.v x]) vs → vs = xs
  | [], vs, h => by simpa [RepA] using h
  | x :: xs, vs, h => by
    simp only [List.map_cons, RepA] at h
    obtain ⟨u, vs', rfl, h1, h2⟩ := h
    rw [RepA_flat h2, (RepG_flat h1 rfl).1]
/-- A function that keeps a contract, called from a world that G tells: what a row asks. -/
theorem Sat.true {P : Program} {G : Glob} {f : FuncId} {ps : List SV} (h : Sat P G f ps (.val false [.v (.bool true)])) {w : World} {vs : List Value} (hG : G w) (hA : RepA w (fun g => g < w.heap.size) ps vs) :
    Calls P f vs.toArray w fun e w' => e = .returned (.bool true) ∧ Below w.heap.size w w' := by
  refine Calls.mono (h.2 w _ vs hG (fun g hg => hg) hA) ?_
  rintro e w' ⟨v, I', F', rfl, hbel, _, _, _, hr, _, _⟩
  refine ⟨?_, hbel⟩
  simp only [RepRes] at hr
  have := (RepG_flat (F := F') (by
    have h2 : F' = [] := rowOwn_nil (by rfl) hr.cells
    rw [h2] at hr ⊢
    exact hr) rfl).1
  rw [this]
end Go.Proofs.Vm
