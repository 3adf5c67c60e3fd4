/- A part of the proof of the card: lemmas that the text with the card leans on (see there for what is proved, and under which conditions). -/
import Derived.Test.YtgjdionnbbnmpaaGreatDoorVmData
set_option linter.unusedVariables false
set_option linter.unusedSimpArgs false
namespace Go.Proofs.Vm
open Go Go.RowKit
/-! ### From a row's reading to plain data -/
theorem lit_wf {n : Int} (h : (Lit.int .i64 n).wf = true) : inI n := by
  have e1 : IntKind.i64.min = -9223372036854775808 := by decide
  have e2 : IntKind.i64.max = 9223372036854775807 := by decide
  simp only [Lit.wf, e1, e2, Bool.and_eq_true, decide_eq_true_eq] at h
  exact h
section
variable {P : Program} {W : World}
theorem opens_i {t : TypeId} (ht : P.underlying t = some (.int .i64)) : Opens P W t (fun row => ∃ n, inI n ∧ row = [.v (.int .i64 n)]) :=
  (opens_int ht).imp fun _ ⟨n, h, e⟩ => ⟨n, lit_wf h, e⟩
theorem opens_b {t : TypeId} (ht : P.underlying t = some .bool) : Opens P W t (fun row => ∃ b, True ∧ row = [.v (.bool b)]) :=
  (opens_bool ht).imp fun _ ⟨b, e⟩ => ⟨b, trivial, e⟩
theorem opens_s {t : TypeId} (ht : P.underlying t = some .string) : Opens P W t (fun row => ∃ l : List UInt8, l.length ≤ maxLen ∧ row = [.v (.string (bs l))]) :=
  (opens_str ht).imp fun _ ⟨s, h, e⟩ => ⟨s.data.toList, by
    have : s.data.toList.length = s.size := Array.length_toList
    rw [this]; exact h, e⟩
theorem choose_list {α β : Type} {f : α → Prop} {g : α → β} : ∀ {l : List β}, (∀ r ∈ l, ∃ x, f x ∧ r = g x) → ∃ xs : List α, (∀ x ∈ xs, f x) ∧ l = xs.map g
  | [], _ => ⟨[], by simp, rfl⟩
  | r :: l, h => by
    obtain ⟨x, h1, rfl⟩ := h r (by simp)
    obtain ⟨xs, h2, rfl⟩ := choose_list (l := l) (fun r hr => h r (by simp [hr]))
    refine ⟨x :: xs, ?_, rfl⟩
    intro y hy
    rcases List.mem_cons.1 hy with rfl | hy
    · exact h1
    · exact h2 y hy
theorem opens_l {α : Type} {f : α → Prop} {g : α → List C} {t e : TypeId} {k : Nat} (ht : P.underlying t = some (.slice e)) (hk : P.cellsOf e = k) (hpos : 0 < k) (he : Opens P W e (fun row => ∃ x, f x ∧ row = g x)) :
    Opens P W t (fun row => ∃ xs : List α, fitL f xs ∧ row = [.l none k (xs.map g)]) :=
  (opens_slice ht hk hpos he).imp fun row ⟨rows, h1, h2, e⟩ => by
    obtain ⟨xs, h3, rfl⟩ := choose_list h1
    exact ⟨xs, ⟨by rw [List.length_map] at h2; exact h2, h3⟩, e⟩
theorem OpensAll.next {o o' : Nat} {ft : TypeId} {fs : List (Nat × TypeId)} {Q : List C → Prop} {Qs : List (List C → Prop)} (k : Nat) (hk : P.cellsOf ft = k) (ho : o + k = o') (h : Opens P W ft Q) (t : OpensAll P W o' fs Qs) : OpensAll P W o ((o, ft) :: fs) (Q :: Qs) := by
  subst hk; subst ho; exact .cons h t
theorem endOf_next {o o' r : Nat} {ft : TypeId} {fs : List (Nat × TypeId)} (k : Nat) (hk : P.cellsOf ft = k) (ho : o + k = o') (h : endOf P o' fs = r) : endOf P o ((o, ft) :: fs) = r := by
  subst hk; subst ho; exact h
/-- The world of a call's begin, as what stands. -/
def globOf (W : World) : Glob := ⟨fun w => Below W.heap.size W w, W.heap.size, fun _ h => h.size, fun _ _ h k => h.trans k⟩
theorem globOf_self (W : World) : globOf W W := Below.refl _ _
end
end Go.Proofs.Vm
