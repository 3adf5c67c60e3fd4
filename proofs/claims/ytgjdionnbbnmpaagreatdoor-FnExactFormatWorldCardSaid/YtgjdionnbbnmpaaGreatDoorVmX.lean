/- A part of the proof of the card: lemmas that the text with the card leans on (see there for what is proved, and under which conditions). -/
import Derived.Test.YtgjdionnbbnmpaaGreatDoorVmW
import Derived.Deep.Slices
set_option linter.unusedVariables false
set_option linter.unusedSimpArgs false
namespace Go.Proofs.Vm
open Go Go.RowKit

/-! ### From a row's reading to a tree -/
/-- Whatever of type t can be read in world W is a tree of which Q holds; it lies in W's blocks. -/
def Opens (P : Program) (W : World) (t : TypeId) (Q : List C → Prop) : Prop :=
  ∀ (H : Type) (enc : TypeId × Value → H) (base : Nat) (spare : Nat → Bool) (held : Bool) (fuel : Nat) (cs : List Value) (x : DataW H × List MemPlace), DataW.trod enc P W base spare held fuel t cs = some x →
    ∃ row, Q row ∧ RepR W (fun g => g < W.heap.size) row cs []
theorem Opens.imp {P : Program} {W : World} {t : TypeId} {Q Q' : List C → Prop} (h : Opens P W t Q) (hq : ∀ row, Q row → Q' row) : Opens P W t Q' := by
  intro H enc base spare held fuel cs x hx
  obtain ⟨row, h1, h2⟩ := h H enc base spare held fuel cs x hx
  exact ⟨row, hq row h1, h2⟩

section
variable {P : Program} {W : World} {t : TypeId}
theorem flat_rep {w : World} {I : Nat → Prop} {v : Value} (h : v.oneCell' = true) : RepR w I [.v v] [v] [] := by
  rw [RepR_single]
  simp only [RepC]
  exact ⟨trivial, h, trivial⟩
theorem opens_int {k : IntKind} (ht : P.underlying t = some (.int k)) : Opens P W t (fun row => ∃ n, (Lit.int k n).wf = true ∧ row = [.v (.int k n)]) := by
  intro H enc base spare held fuel cs x hx
  cases fuel with
  | zero => simp [DataW.trod] at hx
  | succ fuel =>
    unfold DataW.trod at hx
    rw [ht] at hx
    split at hx <;> first | (rename_i heq; cases heq; done) | skip
    · rename_i k0 k' n heq
      injection heq with heq
      injection heq with heq
      subst heq
      split at hx
      · rename_i hc
        obtain ⟨rfl, hw⟩ := hc
        exact ⟨_, ⟨n, hw, rfl⟩, flat_rep rfl⟩
      · cases hx
    all_goals first | (cases hx; done) | (rename_i heq; simp at heq; done) | skip
theorem opens_bool (ht : P.underlying t = some .bool) : Opens P W t (fun row => ∃ b, row = [.v (.bool b)]) := by
  intro H enc base spare held fuel cs x hx
  cases fuel with
  | zero => simp [DataW.trod] at hx
  | succ fuel =>
    unfold DataW.trod at hx
    rw [ht] at hx
    split at hx <;> first | (rename_i heq; cases heq; done) | skip
    · exact ⟨_, ⟨_, rfl⟩, flat_rep rfl⟩
    all_goals first | (cases hx; done) | (rename_i heq; simp at heq; done) | skip
theorem opens_str (ht : P.underlying t = some .string) : Opens P W t (fun row => ∃ s : ByteArray, s.size ≤ maxLen ∧ row = [.v (.string s)]) := by
  intro H enc base spare held fuel cs x hx
  cases fuel with
  | zero => simp [DataW.trod] at hx
  | succ fuel =>
    unfold DataW.trod at hx
    rw [ht] at hx
    split at hx <;> first | (rename_i heq; cases heq; done) | skip
    · split at hx
      · rename_i hs
        exact ⟨_, ⟨_, hs, rfl⟩, flat_rep rfl⟩
      · cases hx
    all_goals first | (cases hx; done) | (rename_i heq; simp at heq; done) | skip

theorem RepRs_build {w : World} {I : Nat → Prop} {k : Nat} {Q : List C → Prop} : ∀ (vss : List (List Value)), (∀ vs ∈ vss, vs.length = k ∧ ∃ row, Q row ∧ RepR w I row vs []) → ∃ rows, (∀ r ∈ rows, Q r) ∧ rows.length = vss.length ∧ RepRs w I k rows vss.flatten []
  | [], _ => ⟨[], by simp, rfl, by simp [RepRs]⟩
  | vs :: vss, h => by
    obtain ⟨hl, row, hq, hr⟩ := h vs (by simp)
    obtain ⟨rows, h1, h2, h3⟩ := RepRs_build vss (fun v hv => h v (by simp [hv]))
    refine ⟨row :: rows, ?_, by simp [h2], ?_⟩
    · intro r hr'
      rcases List.mem_cons.1 hr' with rfl | hr'
      · exact hq
      · exact h1 r hr'
    · simp only [RepRs, List.flatten_cons]
      exact ⟨vs, vss.flatten, [], [], rfl, rfl, by rw [← hr.length, hl], hr, h3⟩

theorem opens_slice {e : TypeId} {k : Nat} {Q : List C → Prop} (ht : P.underlying t = some (.slice e)) (hk : P.cellsOf e = k) (hpos : 0 < k) (he : Opens P W e Q) :
    Opens P W t (fun row => ∃ rows, (∀ r ∈ rows, Q r) ∧ rows.length ≤ maxLen ∧ row = [.l none k rows]) := by
  intro H enc base spare held fuel cs x hx
  subst hk
  rcases Go.Deep.open_slice ht hx with ⟨rfl, _⟩ | ⟨a, len, cap, m, n, D, Pl, rfl, hb, hl, hm, hmm, _, hel⟩
  · refine ⟨_, ⟨[], by simp, Nat.zero_le _, rfl⟩, ?_⟩
    rw [RepR_single]
    simp only [RepC]
    exact ⟨trivial, none, 0, rfl, ⟨Nat.zero_le _, Nat.zero_le _⟩, fun h => absurd rfl h⟩
  · have hlm : len ≤ m := by rw [hmm]; split <;> omega
    have hget : ∀ i, i < len → ∃ cs', W.cells? base (a.add (i * P.cellsOf e)) (P.cellsOf e) = some cs' ∧ cs'.length = P.cellsOf e ∧ ∃ row, Q row ∧ RepR W (fun g => g < W.heap.size) row cs' [] := by
      intro i hi
      obtain ⟨cs', h1, h2⟩ := hel i (by omega)
      obtain ⟨row, h3, h4⟩ := he H enc base spare held n cs' _ h2
      exact ⟨cs', h1, (World.cells?_some h1).2.1, row, h3, h4⟩
    let f : Nat → List Value := fun i => ((W.cells? base (a.add (i * P.cellsOf e)) (P.cellsOf e))).getD []
    have hf : ∀ i, i < len → W.cells? base (a.add (i * P.cellsOf e)) (P.cellsOf e) = some (f i) := by
      intro i hi
      obtain ⟨cs', h1, _⟩ := hget i hi
      simp [f, h1]
    obtain ⟨rows, hq, hlen, hrs⟩ := RepRs_build (w := W) (I := fun g => g < W.heap.size) (k := P.cellsOf e) (Q := Q) ((List.range len).map f) (by
      intro vs hvs
      obtain ⟨i, hi, rfl⟩ := List.mem_map.1 hvs
      obtain ⟨cs', h1, h2, h3⟩ := hget i (List.mem_range.1 hi)
      have : f i = cs' := by simp [f, h1]
      rw [this]
      exact ⟨h2, h3⟩)
    simp only [List.length_map, List.length_range] at hlen
    refine ⟨_, ⟨rows, hq, by rw [hlen]; omega, rfl⟩, ?_⟩
    rw [RepR_single]
    simp only [RepC]
    refine ⟨trivial, some a, cap, by rw [hlen], ⟨by rw [hlen]; omega, hm⟩, fun hne => ?_⟩
    have hlen0 : 0 < len := by
      rcases Nat.eq_zero_or_pos len with h0 | h0
      · rw [h0] at hlen
        exact absurd (List.eq_nil_of_length_eq_zero hlen) hne
      · exact h0
    have hc0 := (World.cells?_some (hf 0 hlen0)).2
    have hcell0 := hc0.2 0 hpos
    have hl0 : 0 < (f 0).length := by rw [hc0.1]; exact hpos
    rw [List.getElem?_eq_getElem hl0, Nat.zero_mul] at hcell0
    have hcell : W.cell? a = some (f 0)[0] := by simpa [Addr.add] using hcell0
    obtain ⟨g, off, spot⟩ := a
    have hspot : spot = none := by
      unfold World.cell? at hcell
      split at hcell
      · cases spot with
        | none => rfl
        | some s => simp at hcell
      · cases hcell
    subst hspot
    have hlt : g < W.heap.size := by
      unfold World.cell? at hcell
      split at hcell
      · rename_i hh
        exact (Array.getElem?_eq_some_iff.1 hh).1
      · cases hcell
    refine ⟨g, off, _, rfl, hlt, ?_, hrs⟩
    intro j v hj
    -- cell j of the flattened rows
    have key : ∀ (l : Nat), l ≤ len → ∀ j v, (((List.range' (len - l) l).map f).flatten)[j]? = some v → W.cell? ⟨g, off + ((len - l) * P.cellsOf e + j), none⟩ = some v := by
      intro l
      induction l with
      | zero => intro _ j v hj; simp at hj
      | succ l ih =>
        intro hle j v hj
        rw [List.range'_succ, List.map_cons, List.flatten_cons] at hj
        have hfi := (World.cells?_some (hf (len - (l + 1)) (by omega))).2
        by_cases hjk : j < P.cellsOf e
        · rw [List.getElem?_append_left (by rw [hfi.1]; exact hjk)] at hj
          have := hfi.2 j hjk
          rw [hj, Addr.add_mid, Addr.add_mid] at this
          rw [← Nat.add_assoc]
          exact this
        · rw [List.getElem?_append_right (by rw [hfi.1]; omega), hfi.1, show len - (l + 1) + 1 = len - l from by omega] at hj
          have := ih (by omega) _ _ hj
          have e1 : (len - l) * P.cellsOf e = (len - (l + 1)) * P.cellsOf e + P.cellsOf e := by
            rw [show len - l = (len - (l + 1)) + 1 from by omega, Nat.add_mul, Nat.one_mul]
          rw [e1] at this
          rw [show (len - (l + 1)) * P.cellsOf e + j = (len - (l + 1)) * P.cellsOf e + P.cellsOf e + (j - P.cellsOf e) from by omega]
          exact this
    have := key len (Nat.le_refl _) j v (by rw [Nat.sub_self, ← List.range_eq_range']; exact hj)
    simpa using this

/-- The fields of a struct, side by side. -/
inductive OpensAll (P : Program) (W : World) : Nat → List (Nat × TypeId) → List (List C → Prop) → Prop
  | nil {o : Nat} : OpensAll P W o [] []
  | cons {o : Nat} {ft : TypeId} {fs : List (Nat × TypeId)} {Q : List C → Prop} {Qs : List (List C → Prop)} (h : Opens P W ft Q) (t : OpensAll P W (o + P.cellsOf ft) fs Qs) : OpensAll P W o ((o, ft) :: fs) (Q :: Qs)
def allOf : List (List C → Prop) → List C → Prop
  | [], row => row = []
  | Q :: Qs, row => ∃ r1 r2, row = r1 ++ r2 ∧ Q r1 ∧ allOf Qs r2
def endOf (P : Program) : Nat → List (Nat × TypeId) → Nat
  | o, [] => o
  | o, (_, ft) :: fs => endOf P (o + P.cellsOf ft) fs
theorem endOf_le {P : Program} : ∀ {fs : List (Nat × TypeId)} {o : Nat}, o ≤ endOf P o fs
  | [], o => Nat.le_refl _
  | (_, ft) :: fs, o => Nat.le_trans (Nat.le_add_right _ _) (endOf_le (fs := fs))

theorem opens_fields {H : Type} {enc : TypeId × Value → H} {base : Nat} {spare : Nat → Bool} {held : Bool} {fuel : Nat} {cs : List Value} : ∀ {fs : List Field} {o : Nat} {Qs : List (List C → Prop)} {xs : List (DataW H × List MemPlace)}, OpensAll P W o (fs.map fun f => (f.offset, f.type)) Qs → endOf P o (fs.map fun f => (f.offset, f.type)) = cs.length →
    (fs.mapM fun f => DataW.trod enc P W base spare held fuel f.type ((cs.drop f.offset).take (P.cellsOf f.type))) = some xs → ∃ row, allOf Qs row ∧ RepR W (fun g => g < W.heap.size) row (cs.drop o) []
  | [], o, Qs, xs, ho, hend, _ => by
    cases ho
    simp only [List.map_nil, endOf] at hend
    refine ⟨[], rfl, ?_⟩
    rw [List.drop_eq_nil_of_le (by omega)]
    simp [RepR]
  | f :: fs, o, Qs, xs, ho, hend, hx => by
    simp only [List.map_cons] at ho hend
    cases ho with
    | cons h1 h2 =>
      simp only [List.mapM_cons, Option.bind_eq_bind, Option.pure_def] at hx
      obtain ⟨x, hx1, hx2⟩ := Option.bind_eq_some_iff.1 hx
      obtain ⟨xs', hx3, _⟩ := Option.bind_eq_some_iff.1 hx2
      obtain ⟨row1, hq1, hr1⟩ := h1 H enc base spare held fuel _ _ hx1
      simp only [endOf] at hend
      obtain ⟨row2, hq2, hr2⟩ := opens_fields h2 hend hx3
      refine ⟨row1 ++ row2, ⟨row1, row2, rfl, hq1, hq2⟩, ?_⟩
      refine RepR_append.2 ⟨_, _, [], [], ?_, rfl, hr1, hr2⟩
      rw [← List.drop_drop]
      exact (List.take_append_drop _ _).symm
theorem opens_struct {fields : Array Field} {Qs : List (List C → Prop)} (ht : P.underlying t = some (.struct fields)) (ho : OpensAll P W 0 (fields.toList.map fun f => (f.offset, f.type)) Qs) (hend : endOf P 0 (fields.toList.map fun f => (f.offset, f.type)) = P.cellsOf t) :
    Opens P W t (allOf Qs) := by
  intro H enc base spare held fuel cs x hx
  cases fuel with
  | zero => simp [DataW.trod] at hx
  | succ fuel =>
    have hx' : (if cs.length = P.cellsOf t then (fields.toList.mapM fun f => DataW.trod enc P W base spare held fuel f.type ((cs.drop f.offset).take (P.cellsOf f.type))).map fun xs => (DataW.agg (xs.map (·.1)), xs.flatMap (·.2)) else none) = some x := by
      rw [← hx]
      conv => rhs; unfold DataW.trod
      rw [ht]
    split at hx'
    · rename_i hl
      obtain ⟨xs, hxs, _⟩ := Option.map_eq_some_iff.1 hx'
      exact opens_fields (cs := cs) ho (hend.trans hl.symm) hxs
    · cases hx'
end
end Go.Proofs.Vm
