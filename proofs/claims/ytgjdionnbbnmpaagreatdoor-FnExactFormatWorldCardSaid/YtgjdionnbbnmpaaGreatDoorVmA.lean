/- A part of the proof of the card: lemmas that the text with the card leans on (see there for what is proved, and under which conditions). -/
import Derived.Calls
import Derived.Below
import Derived.Orders
import Derived.Laws.AppendOwn
import Derived.Laws.OwnMore
import Derived.Laws.MakeOwn
import Derived.Laws.Tables
import Derived.Laws.Rows
import Derived.Deep.MidRow
import Derived.Deep.AppendLies
import Derived.Great.BuildSlice
import Derived.Lib.ConvBytes
import Derived.WalkKit
set_option linter.unusedVariables false
set_option linter.unusedSimpArgs false
namespace Go.Proofs.Vm
open Go Go.RowKit

/-- A cell of a tree: a flat value; a slice of rows (k cells each), owned (then: the element type) or not; a cell whose value has gone. -/
inductive C where
  | v (x : Value)
  | l (o : Option TypeId) (k : Nat) (rows : List (List C))
  | gone

instance : Inhabited C := ⟨.gone⟩

mutual
/-- Cell c reads as value u in world w; what it owns: the blocks F; all else that it leads to lies in blocks of I. -/
def RepC (w : World) (I : Nat → Prop) : C → Value → List Nat → Prop
  | .v x, u, F => u = x ∧ x.oneCell' = true ∧ F = []
  | .gone, u, F => u.oneCell' = true ∧ F = []
  | .l none k rows, u, F => F = [] ∧ ∃ A c, u = .slice A rows.length c ∧ (rows.length ≤ c ∧ c ≤ maxLen) ∧
      (rows ≠ [] → ∃ g off vs, A = some ⟨g, off, none⟩ ∧ I g ∧ w.rangeAt g off vs ∧ RepRs w I k rows vs [])
  | .l (some e) k rows, u, F => ∃ vs F', RepRs w I k rows vs F' ∧ w.ownsRow 0 e k u rows.length vs ∧ F = u.ownBlock.toList ++ F'
def RepR (w : World) (I : Nat → Prop) : List C → List Value → List Nat → Prop
  | [], vs, F => vs = [] ∧ F = []
  | c :: r, vs, F => ∃ v vs' F1 F2, vs = v :: vs' ∧ F = F1 ++ F2 ∧ RepC w I c v F1 ∧ RepR w I r vs' F2
def RepRs (w : World) (I : Nat → Prop) (k : Nat) : List (List C) → List Value → List Nat → Prop
  | [], vs, F => vs = [] ∧ F = []
  | r :: rs, vs, F => ∃ v1 v2 F1 F2, vs = v1 ++ v2 ∧ F = F1 ++ F2 ∧ r.length = k ∧ RepR w I r v1 F1 ∧ RepRs w I k rs v2 F2
end

theorem rangeAt_move {w w' : World} {g off : Nat} {vs : List Value} (h : w.rangeAt g off vs) (hb : w'.heap[g]? = w.heap[g]?) : w'.rangeAt g off vs := fun j v hv => by
  rw [World.cell?_of_block (w := w) (a := ⟨g, off + j, none⟩) hb]; exact h j v hv

theorem ownsRow_move {w w' : World} {base e size n : Nat} {v : Value} {xs : List Value} (h : w.ownsRow base e size v n xs) (hb : ∀ g, v.ownBlock = some g → w'.heap[g]? = w.heap[g]?) : w'.ownsRow base e size v n xs := by
  refine ⟨h.1, ?_⟩
  rcases h.2 with h2 | ⟨g, cap, cur, rfl, hbg, hh, r⟩
  · exact .inl h2
  · exact .inr ⟨g, cap, cur, rfl, hbg, (hb g rfl).trans hh, r⟩

mutual
theorem RepC.move {w w' : World} {I : Nat → Prop} (hI : ∀ g, I g → w'.heap[g]? = w.heap[g]?) : ∀ (c : C) (u : Value) (F : List Nat), (∀ g ∈ F, w'.heap[g]? = w.heap[g]?) → RepC w I c u F → RepC w' I c u F
  | .v x, u, F, hF, h => by simpa only [RepC] using h
  | .gone, u, F, hF, h => by simpa only [RepC] using h
  | .l none k rows, u, F, hF, h => by
    simp only [RepC] at h ⊢
    obtain ⟨hF0, A, c, hu, hm, hr⟩ := h
    refine ⟨hF0, A, c, hu, hm, fun hne => ?_⟩
    obtain ⟨g, off, vs, hA, hg, hra, hrs⟩ := hr hne
    exact ⟨g, off, vs, hA, hg, rangeAt_move hra (hI g hg), RepRs.move hI k rows vs [] (by simp) hrs⟩
  | .l (some e) k rows, u, F, hF, h => by
    simp only [RepC] at h ⊢
    obtain ⟨vs, F', hrs, ho, rfl⟩ := h
    refine ⟨vs, F', RepRs.move hI k rows vs F' (fun g hg => hF g (by simp [hg])) hrs, ownsRow_move ho (fun g hg => hF g (by simp [hg])), rfl⟩
theorem RepR.move {w w' : World} {I : Nat → Prop} (hI : ∀ g, I g → w'.heap[g]? = w.heap[g]?) : ∀ (r : List C) (vs : List Value) (F : List Nat), (∀ g ∈ F, w'.heap[g]? = w.heap[g]?) → RepR w I r vs F → RepR w' I r vs F
  | [], vs, F, hF, h => by simpa only [RepR] using h
  | c :: r, vs, F, hF, h => by
    simp only [RepR] at h ⊢
    obtain ⟨v, vs', F1, F2, rfl, rfl, h1, h2⟩ := h
    exact ⟨v, vs', F1, F2, rfl, rfl, RepC.move hI c v F1 (fun g hg => hF g (by simp [hg])) h1, RepR.move hI r vs' F2 (fun g hg => hF g (by simp [hg])) h2⟩
theorem RepRs.move {w w' : World} {I : Nat → Prop} (hI : ∀ g, I g → w'.heap[g]? = w.heap[g]?) (k : Nat) : ∀ (rs : List (List C)) (vs : List Value) (F : List Nat), (∀ g ∈ F, w'.heap[g]? = w.heap[g]?) → RepRs w I k rs vs F → RepRs w' I k rs vs F
  | [], vs, F, hF, h => by simpa only [RepRs] using h
  | r :: rs, vs, F, hF, h => by
    simp only [RepRs] at h ⊢
    obtain ⟨v1, v2, F1, F2, rfl, rfl, hk, h1, h2⟩ := h
    exact ⟨v1, v2, F1, F2, rfl, rfl, hk, RepR.move hI r v1 F1 (fun g hg => hF g (by simp [hg])) h1, RepRs.move hI k rs v2 F2 (fun g hg => hF g (by simp [hg])) h2⟩
end

mutual
theorem RepC.mono {w : World} {I J : Nat → Prop} (hIJ : ∀ g, I g → J g) : ∀ (c : C) (u : Value) (F : List Nat), RepC w I c u F → RepC w J c u F
  | .v x, u, F, h => by simpa only [RepC] using h
  | .gone, u, F, h => by simpa only [RepC] using h
  | .l none k rows, u, F, h => by
    simp only [RepC] at h ⊢
    obtain ⟨hF0, A, c, hu, hm, hr⟩ := h
    refine ⟨hF0, A, c, hu, hm, fun hne => ?_⟩
    obtain ⟨g, off, vs, hA, hg, hra, hrs⟩ := hr hne
    exact ⟨g, off, vs, hA, hIJ g hg, hra, RepRs.mono hIJ k rows vs [] hrs⟩
  | .l (some e) k rows, u, F, h => by
    simp only [RepC] at h ⊢
    obtain ⟨vs, F', hrs, ho, rfl⟩ := h
    exact ⟨vs, F', RepRs.mono hIJ k rows vs F' hrs, ho, rfl⟩
theorem RepR.mono {w : World} {I J : Nat → Prop} (hIJ : ∀ g, I g → J g) : ∀ (r : List C) (vs : List Value) (F : List Nat), RepR w I r vs F → RepR w J r vs F
  | [], vs, F, h => by simpa only [RepR] using h
  | c :: r, vs, F, h => by
    simp only [RepR] at h ⊢
    obtain ⟨v, vs', F1, F2, rfl, rfl, h1, h2⟩ := h
    exact ⟨v, vs', F1, F2, rfl, rfl, RepC.mono hIJ c v F1 h1, RepR.mono hIJ r vs' F2 h2⟩
theorem RepRs.mono {w : World} {I J : Nat → Prop} (hIJ : ∀ g, I g → J g) (k : Nat) : ∀ (rs : List (List C)) (vs : List Value) (F : List Nat), RepRs w I k rs vs F → RepRs w J k rs vs F
  | [], vs, F, h => by simpa only [RepRs] using h
  | r :: rs, vs, F, h => by
    simp only [RepRs] at h ⊢
    obtain ⟨v1, v2, F1, F2, rfl, rfl, hk, h1, h2⟩ := h
    exact ⟨v1, v2, F1, F2, rfl, rfl, hk, RepR.mono hIJ r v1 F1 h1, RepRs.mono hIJ k rs v2 F2 h2⟩
end

mutual
theorem RepC.lt {w : World} {I : Nat → Prop} : ∀ (c : C) (u : Value) (F : List Nat), RepC w I c u F → ∀ g ∈ F, g < w.heap.size
  | .v x, u, F, h => by simp only [RepC] at h; simp [h.2.2]
  | .gone, u, F, h => by simp only [RepC] at h; simp [h.2]
  | .l none k rows, u, F, h => by simp only [RepC] at h; simp [h.1]
  | .l (some e) k rows, u, F, h => by
    simp only [RepC] at h
    obtain ⟨vs, F', hrs, ho, rfl⟩ := h
    intro g hg
    rcases List.mem_append.1 hg with hg | hg
    · exact (ho.lt g (by simpa using hg)).2
    · exact RepRs.lt k rows vs F' hrs g hg
theorem RepR.lt {w : World} {I : Nat → Prop} : ∀ (r : List C) (vs : List Value) (F : List Nat), RepR w I r vs F → ∀ g ∈ F, g < w.heap.size
  | [], vs, F, h => by simp only [RepR] at h; simp [h.2]
  | c :: r, vs, F, h => by
    simp only [RepR] at h
    obtain ⟨v, vs', F1, F2, rfl, rfl, h1, h2⟩ := h
    intro g hg
    rcases List.mem_append.1 hg with hg | hg
    · exact RepC.lt c v F1 h1 g hg
    · exact RepR.lt r vs' F2 h2 g hg
theorem RepRs.lt {w : World} {I : Nat → Prop} (k : Nat) : ∀ (rs : List (List C)) (vs : List Value) (F : List Nat), RepRs w I k rs vs F → ∀ g ∈ F, g < w.heap.size
  | [], vs, F, h => by simp only [RepRs] at h; simp [h.2]
  | r :: rs, vs, F, h => by
    simp only [RepRs] at h
    obtain ⟨v1, v2, F1, F2, rfl, rfl, hk, h1, h2⟩ := h
    intro g hg
    rcases List.mem_append.1 hg with hg | hg
    · exact RepR.lt r v1 F1 h1 g hg
    · exact RepRs.lt k rs v2 F2 h2 g hg
end

theorem RepC.one {w : World} {I : Nat → Prop} {c : C} {u : Value} {F : List Nat} (h : RepC w I c u F) : u.oneCell' = true := by
  cases c with
  | v x => simp only [RepC] at h; obtain ⟨rfl, h, _⟩ := h; exact h
  | gone => simp only [RepC] at h; exact h.1
  | l o k rows =>
    cases o with
    | none => simp only [RepC] at h; obtain ⟨_, A, c, rfl, _⟩ := h; rfl
    | some e =>
      simp only [RepC] at h
      obtain ⟨vs, F', _, ho, _⟩ := h
      rcases ho.2 with ⟨rfl, _⟩ | ⟨g, cap, cur, rfl, _⟩ <;> rfl
theorem RepR.one {w : World} {I : Nat → Prop} : ∀ {r : List C} {vs : List Value} {F : List Nat}, RepR w I r vs F → ∀ u ∈ vs, u.oneCell' = true
  | [], vs, F, h => by simp only [RepR] at h; simp [h.1]
  | c :: r, vs, F, h => by
    simp only [RepR] at h
    obtain ⟨v, vs', F1, F2, rfl, rfl, h1, h2⟩ := h
    intro u hu
    rcases List.mem_cons.1 hu with rfl | hu
    · exact h1.one
    · exact RepR.one h2 u hu
theorem RepRs.one {w : World} {I : Nat → Prop} {k : Nat} : ∀ {rs : List (List C)} {vs : List Value} {F : List Nat}, RepRs w I k rs vs F → ∀ u ∈ vs, u.oneCell' = true
  | [], vs, F, h => by simp only [RepRs] at h; simp [h.1]
  | r :: rs, vs, F, h => by
    simp only [RepRs] at h
    obtain ⟨v1, v2, F1, F2, rfl, rfl, hk, h1, h2⟩ := h
    intro u hu
    rcases List.mem_append.1 hu with hu | hu
    · exact h1.one u hu
    · exact RepRs.one h2 u hu
theorem RepR.length {w : World} {I : Nat → Prop} : ∀ {r : List C} {vs : List Value} {F : List Nat}, RepR w I r vs F → vs.length = r.length
  | [], vs, F, h => by simp only [RepR] at h; simp [h.1]
  | c :: r, vs, F, h => by
    simp only [RepR] at h
    obtain ⟨v, vs', F1, F2, rfl, rfl, h1, h2⟩ := h
    simp [RepR.length h2]
theorem RepRs.length {w : World} {I : Nat → Prop} {k : Nat} : ∀ {rs : List (List C)} {vs : List Value} {F : List Nat}, RepRs w I k rs vs F → vs.length = rs.length * k
  | [], vs, F, h => by simp only [RepRs] at h; simp [h.1]
  | r :: rs, vs, F, h => by
    simp only [RepRs] at h
    obtain ⟨v1, v2, F1, F2, rfl, rfl, hk, h1, h2⟩ := h
    simp only [List.length_append, h1.length, hk, RepRs.length h2, List.length_cons, Nat.add_mul, Nat.one_mul]
    omega

/-! ### Frozen: nothing owned any more -/
mutual
def C.frz : C → C
  | .v x => .v x
  | .gone => .gone
  | .l _ k rows => .l none k (frzRs rows)
def frzR : List C → List C
  | [] => []
  | c :: r => c.frz :: frzR r
def frzRs : List (List C) → List (List C)
  | [] => []
  | r :: rs => frzR r :: frzRs rs
end
theorem frzR_map : ∀ r, frzR r = r.map C.frz
  | [] => rfl
  | c :: r => by simp [frzR, frzR_map r]
theorem frzRs_map : ∀ rs, frzRs rs = rs.map frzR
  | [] => rfl
  | r :: rs => by simp [frzRs, frzRs_map rs]
theorem frzRs_length (rs : List (List C)) : (frzRs rs).length = rs.length := by simp [frzRs_map]
theorem frzR_length (r : List C) : (frzR r).length = r.length := by simp [frzR_map]

theorem ownsRow_range {w : World} {base e size n : Nat} {xs : List Value} {g cap : Nat} (h : w.ownsRow base e size (.slice (some ⟨g, 0, none⟩) n cap) n xs) : w.rangeAt g 0 xs := fun j v hv => by
  have := h.cells (g := g) rfl j v hv
  rwa [Addr.add_mid] at this

mutual
theorem RepC.freeze {w : World} {I : Nat → Prop} : ∀ (c : C) (u : Value) (F : List Nat) (J : Nat → Prop), (∀ g, I g → J g) → (∀ g ∈ F, J g) → RepC w I c u F → RepC w J c.frz u []
  | .v x, u, F, J, hI, hF, h => by simp only [RepC, C.frz] at h ⊢; exact ⟨h.1, h.2.1, trivial⟩
  | .gone, u, F, J, hI, hF, h => by simp only [RepC, C.frz] at h ⊢; exact ⟨h.1, trivial⟩
  | .l none k rows, u, F, J, hI, hF, h => by
    simp only [RepC, C.frz] at h ⊢
    obtain ⟨hF0, A, c, hu, hm, hr⟩ := h
    refine ⟨trivial, A, c, by rw [frzRs_length]; exact hu, by rw [frzRs_length]; exact hm, fun hne => ?_⟩
    obtain ⟨g, off, vs, hA, hg, hra, hrs⟩ := hr (fun h0 => hne (by rw [h0]; rfl))
    exact ⟨g, off, vs, hA, hI g hg, hra, RepRs.freeze k rows vs [] J hI (by simp) hrs⟩
  | .l (some e) k rows, u, F, J, hI, hF, h => by
    simp only [RepC, C.frz] at h ⊢
    obtain ⟨vs, F', hrs, ho, rfl⟩ := h
    rcases ho.2 with ⟨rfl, hn⟩ | ⟨g, cap, cur, rfl, hbg, hh, hnc, hcm, r⟩
    · refine ⟨trivial, none, 0, by rw [frzRs_length, hn], by rw [frzRs_length, hn]; exact ⟨Nat.zero_le _, Nat.zero_le _⟩, fun hne => ?_⟩
      have : rows = [] := List.eq_nil_of_length_eq_zero hn
      subst this
      exact absurd rfl hne
    · refine ⟨trivial, _, cap, by rw [frzRs_length], by rw [frzRs_length]; exact ⟨hnc, hcm⟩, fun _ => ⟨g, 0, vs, rfl, hF g (by simp [Value.ownBlock]), ownsRow_range ho, RepRs.freeze k rows vs F' J hI (fun g hg => hF g (by simp [hg])) hrs⟩⟩
theorem RepR.freeze {w : World} {I : Nat → Prop} : ∀ (r : List C) (vs : List Value) (F : List Nat) (J : Nat → Prop), (∀ g, I g → J g) → (∀ g ∈ F, J g) → RepR w I r vs F → RepR w J (frzR r) vs []
  | [], vs, F, J, hI, hF, h => by simp only [RepR, frzR] at h ⊢; exact ⟨h.1, trivial⟩
  | c :: r, vs, F, J, hI, hF, h => by
    simp only [RepR, frzR] at h ⊢
    obtain ⟨v, vs', F1, F2, rfl, rfl, h1, h2⟩ := h
    exact ⟨v, vs', [], [], rfl, rfl, RepC.freeze c v F1 J hI (fun g hg => hF g (by simp [hg])) h1, RepR.freeze r vs' F2 J hI (fun g hg => hF g (by simp [hg])) h2⟩
theorem RepRs.freeze {w : World} {I : Nat → Prop} (k : Nat) : ∀ (rs : List (List C)) (vs : List Value) (F : List Nat) (J : Nat → Prop), (∀ g, I g → J g) → (∀ g ∈ F, J g) → RepRs w I k rs vs F → RepRs w J k (frzRs rs) vs []
  | [], vs, F, J, hI, hF, h => by simp only [RepRs, frzRs] at h ⊢; exact ⟨h.1, trivial⟩
  | r :: rs, vs, F, J, hI, hF, h => by
    simp only [RepRs, frzRs] at h ⊢
    obtain ⟨v1, v2, F1, F2, rfl, rfl, hk, h1, h2⟩ := h
    exact ⟨v1, v2, [], [], rfl, rfl, by rw [frzR_length]; exact hk, RepR.freeze r v1 F1 J hI (fun g hg => hF g (by simp [hg])) h1, RepRs.freeze k rs v2 F2 J hI (fun g hg => hF g (by simp [hg])) h2⟩
end

/-! ### Rows, taken apart and put together -/
theorem RepR_append {w : World} {I : Nat → Prop} : ∀ {r1 r2 : List C} {vs : List Value} {F : List Nat}, RepR w I (r1 ++ r2) vs F ↔ ∃ v1 v2 F1 F2, vs = v1 ++ v2 ∧ F = F1 ++ F2 ∧ RepR w I r1 v1 F1 ∧ RepR w I r2 v2 F2
  | [], r2, vs, F => by
    simp only [List.nil_append, RepR]
    constructor
    · intro h; exact ⟨[], vs, [], F, rfl, rfl, ⟨rfl, rfl⟩, h⟩
    · rintro ⟨v1, v2, F1, F2, rfl, rfl, ⟨rfl, rfl⟩, h⟩; exact h
  | c :: r, r2, vs, F => by
    simp only [List.cons_append, RepR]
    constructor
    · rintro ⟨v, vs', F1, F2, rfl, rfl, h1, h2⟩
      obtain ⟨a, b, G1, G2, rfl, rfl, h3, h4⟩ := RepR_append.1 h2
      exact ⟨v :: a, b, F1 ++ G1, G2, rfl, by simp, ⟨v, a, F1, G1, rfl, rfl, h1, h3⟩, h4⟩
    · rintro ⟨v1, v2, F1, F2, rfl, rfl, ⟨v, vs', G1, G2, rfl, rfl, h1, h2⟩, h4⟩
      exact ⟨v, vs' ++ v2, G1, G2 ++ F2, rfl, by simp, h1, RepR_append.2 ⟨vs', v2, G2, F2, rfl, rfl, h2, h4⟩⟩

theorem RepRs_append {w : World} {I : Nat → Prop} {k : Nat} : ∀ {r1 r2 : List (List C)} {vs : List Value} {F : List Nat}, RepRs w I k (r1 ++ r2) vs F ↔ ∃ v1 v2 F1 F2, vs = v1 ++ v2 ∧ F = F1 ++ F2 ∧ RepRs w I k r1 v1 F1 ∧ RepRs w I k r2 v2 F2
  | [], r2, vs, F => by
    simp only [List.nil_append, RepRs]
    constructor
    · intro h; exact ⟨[], vs, [], F, rfl, rfl, ⟨rfl, rfl⟩, h⟩
    · rintro ⟨v1, v2, F1, F2, rfl, rfl, ⟨rfl, rfl⟩, h⟩; exact h
  | c :: r, r2, vs, F => by
    simp only [List.cons_append, RepRs]
    constructor
    · rintro ⟨v, vs', F1, F2, rfl, rfl, hk, h1, h2⟩
      obtain ⟨a, b, G1, G2, rfl, rfl, h3, h4⟩ := RepRs_append.1 h2
      exact ⟨v ++ a, b, F1 ++ G1, G2, by simp, by simp, ⟨v, a, F1, G1, rfl, rfl, hk, h1, h3⟩, h4⟩
    · rintro ⟨v1, v2, F1, F2, rfl, rfl, ⟨v, vs', G1, G2, rfl, rfl, hk, h1, h2⟩, h4⟩
      exact ⟨v, vs' ++ v2, G1, G2 ++ F2, by simp, by simp, hk, h1, RepRs_append.2 ⟨vs', v2, G2, F2, rfl, rfl, h2, h4⟩⟩

/-- A row of n cells from place o on. -/
theorem RepR_mid {w : World} {I : Nat → Prop} {r : List C} {vs : List Value} {F : List Nat} (h : RepR w I r vs F) (o n : Nat) (hn : o + n ≤ r.length) :
    ∃ v1 v2 v3 F1 F2 F3, vs = v1 ++ (v2 ++ v3) ∧ F = F1 ++ (F2 ++ F3) ∧ v1.length = o ∧ v2.length = n ∧ RepR w I (r.take o) v1 F1 ∧ RepR w I ((r.drop o).take n) v2 F2 ∧ RepR w I (r.drop (o + n)) v3 F3 := by
  have e : r = r.take o ++ ((r.drop o).take n ++ r.drop (o + n)) := by
    rw [← List.drop_drop, List.take_append_drop, List.take_append_drop]
  rw [e] at h
  obtain ⟨v1, v', F1, F', rfl, rfl, h1, h2⟩ := RepR_append.1 h
  obtain ⟨v2, v3, F2, F3, rfl, rfl, h3, h4⟩ := RepR_append.1 h2
  refine ⟨v1, v2, v3, F1, F2, F3, rfl, rfl, ?_, ?_, h1, h3, h4⟩
  · rw [h1.length, List.length_take]; omega
  · rw [h3.length, List.length_take, List.length_drop]; omega

/-- One row out of many. -/
theorem RepRs_at {w : World} {I : Nat → Prop} {k : Nat} {rs : List (List C)} {vs : List Value} {F : List Nat} (h : RepRs w I k rs vs F) (i : Nat) (hi : i < rs.length) :
    ∃ v1 v2 v3 F1 F2 F3, vs = v1 ++ (v2 ++ v3) ∧ F = F1 ++ (F2 ++ F3) ∧ v1.length = i * k ∧ v2.length = k ∧ (rs.getD i []).length = k ∧ RepRs w I k (rs.take i) v1 F1 ∧ RepR w I (rs.getD i []) v2 F2 ∧ RepRs w I k (rs.drop (i + 1)) v3 F3 := by
  have e : rs = rs.take i ++ (rs.getD i [] :: rs.drop (i + 1)) := by
    rw [show rs.getD i [] = rs[i] from by simp [List.getD_eq_getElem?_getD, hi], List.getElem_cons_drop, List.take_append_drop]
  rw [e] at h
  obtain ⟨v1, v', F1, F', rfl, rfl, h1, h2⟩ := RepRs_append.1 h
  simp only [RepRs] at h2
  obtain ⟨v2, v3, F2, F3, rfl, rfl, hk, h3, h4⟩ := h2
  refine ⟨v1, v2, v3, F1, F2, F3, rfl, rfl, ?_, ?_, hk, h1, h3, h4⟩
  · rw [h1.length, List.length_take, Nat.min_eq_left (by omega)]
  · rw [h3.length, hk]

theorem RepRs_set {w : World} {I : Nat → Prop} {k : Nat} {rs : List (List C)} {i : Nat} {r : List C} (hi : i < rs.length) (hk : r.length = k) {v1 v2 v3 : List Value} {F1 F2 F3 : List Nat}
    (h1 : RepRs w I k (rs.take i) v1 F1) (h2 : RepR w I r v2 F2) (h3 : RepRs w I k (rs.drop (i + 1)) v3 F3) : RepRs w I k (rs.set i r) (v1 ++ (v2 ++ v3)) (F1 ++ (F2 ++ F3)) := by
  rw [List.set_eq_take_append_cons_drop, if_pos hi]
  refine RepRs_append.2 ⟨v1, v2 ++ v3, F1, F2 ++ F3, rfl, rfl, h1, ?_⟩
  simp only [RepRs]
  exact ⟨v2, v3, F2, F3, rfl, rfl, hk, h2, h3⟩

theorem RepR_single {w : World} {I : Nat → Prop} {c : C} {u : Value} {F : List Nat} : RepR w I [c] [u] F ↔ RepC w I c u F := by
  simp only [RepR]
  constructor
  · rintro ⟨v, vs', F1, F2, h, rfl, h1, rfl, rfl⟩
    injection h with h _
    subst h
    simpa using h1
  · intro h; exact ⟨u, [], F, [], rfl, by simp, h, rfl, rfl⟩
end Go.Proofs.Vm
