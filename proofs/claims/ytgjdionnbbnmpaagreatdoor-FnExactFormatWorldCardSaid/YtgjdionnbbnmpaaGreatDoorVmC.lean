/- A part of the proof of the card: lemmas that the text with the card leans on (see there for what is proved, and under which conditions). -/
import Derived.Test.YtgjdionnbbnmpaaGreatDoorVmB
set_option linter.unusedVariables false
set_option linter.unusedSimpArgs false
namespace Go.Proofs.Vm
open Go Go.RowKit

theorem RepT.move {w w' : World} {I : Nat → Prop} (hI : ∀ g, I g → w'.heap[g]? = w.heap[g]?) : ∀ (ps : List (Bool × List C)) (us : List Value) (F : List Nat), (∀ g ∈ F, w'.heap[g]? = w.heap[g]?) → RepT w I ps us F → RepT w' I ps us F
  | [], us, F, hF, h => by simpa only [RepT] using h
  | (g, row) :: ps, us, F, hF, h => by
    simp only [RepT] at h ⊢
    obtain ⟨u, us', F1, F2, rfl, rfl, ⟨vs, hu, h1, hr⟩, h2⟩ := h
    exact ⟨u, us', F1, F2, rfl, rfl, ⟨vs, hu, h1, RepR.move hI row vs F1 (fun g hg => hF g (by simp [hg])) hr⟩, RepT.move hI ps us' F2 (fun g hg => hF g (by simp [hg])) h2⟩
theorem RepT.mono {w : World} {I J : Nat → Prop} (hIJ : ∀ g, I g → J g) : ∀ (ps : List (Bool × List C)) (us : List Value) (F : List Nat), RepT w I ps us F → RepT w J ps us F
  | [], us, F, h => by simpa only [RepT] using h
  | (g, row) :: ps, us, F, h => by
    simp only [RepT] at h ⊢
    obtain ⟨u, us', F1, F2, rfl, rfl, ⟨vs, hu, h1, hr⟩, h2⟩ := h
    exact ⟨u, us', F1, F2, rfl, rfl, ⟨vs, hu, h1, RepR.mono hIJ row vs F1 hr⟩, RepT.mono hIJ ps us' F2 h2⟩
theorem RepT.lt {w : World} {I : Nat → Prop} : ∀ (ps : List (Bool × List C)) (us : List Value) (F : List Nat), RepT w I ps us F → ∀ g ∈ F, g < w.heap.size
  | [], us, F, h => by simp only [RepT] at h; simp [h.2]
  | (g, row) :: ps, us, F, h => by
    simp only [RepT] at h
    obtain ⟨u, us', F1, F2, rfl, rfl, ⟨vs, hu, h1, hr⟩, h2⟩ := h
    intro g hg
    rcases List.mem_append.1 hg with hg | hg
    · exact RepR.lt row vs F1 hr g hg
    · exact RepT.lt ps us' F2 h2 g hg

theorem RepG.move {w w' : World} {I : Nat → Prop} (hI : ∀ g, I g → w'.heap[g]? = w.heap[g]?) {g : Bool} {row : List C} {u : Value} {F : List Nat} (hF : ∀ g ∈ F, w'.heap[g]? = w.heap[g]?) (h : RepG w I g row u F) : RepG w' I g row u F := by
  unfold RepG at h ⊢
  cases g with
  | true => simp only [if_true] at h ⊢; obtain ⟨vs, h1, h2⟩ := h; exact ⟨vs, h1, RepR.move hI row vs F hF h2⟩
  | false => simp only [Bool.false_eq_true, if_false] at h ⊢; exact RepR.move hI row _ F hF h
theorem RepG.mono {w : World} {I J : Nat → Prop} (hIJ : ∀ g, I g → J g) {g : Bool} {row : List C} {u : Value} {F : List Nat} (h : RepG w I g row u F) : RepG w J g row u F := by
  unfold RepG at h ⊢
  cases g with
  | true => simp only [if_true] at h ⊢; obtain ⟨vs, h1, h2⟩ := h; exact ⟨vs, h1, RepR.mono hIJ row vs F h2⟩
  | false => simp only [Bool.false_eq_true, if_false] at h ⊢; exact RepR.mono hIJ row _ F h
theorem RepE.move {w w' : World} {I : Nat → Prop} (hI : ∀ g, I g → w'.heap[g]? = w.heap[g]?) {row : List C} {off : Nat} {u : Value} (h : RepE w I row off u) : RepE w' I row off u := by
  obtain ⟨g, o, vs, h1, h2, h3, h4⟩ := h
  exact ⟨g, o, vs, h1, h2, rangeAt_move h3 (hI g h2), RepR.move hI row vs [] (by simp) h4⟩
theorem RepE.mono {w : World} {I J : Nat → Prop} (hIJ : ∀ g, I g → J g) {row : List C} {off : Nat} {u : Value} (h : RepE w I row off u) : RepE w J row off u := by
  obtain ⟨g, o, vs, h1, h2, h3, h4⟩ := h
  exact ⟨g, o, vs, h1, hIJ g h2, h3, RepR.mono hIJ row vs [] h4⟩
theorem RepCaps.move {w w' : World} {I : Nat → Prop} (hI : ∀ g, I g → w'.heap[g]? = w.heap[g]?) : ∀ (caps : List Cap) (us : List Value), RepCaps w I caps us → RepCaps w' I caps us
  | [], us, h => by simpa only [RepCaps] using h
  | .val g row :: r, us, h => by
    simp only [RepCaps] at h ⊢
    obtain ⟨u, us', h1, h2, h3⟩ := h
    exact ⟨u, us', h1, h2.move hI (by simp), RepCaps.move hI r us' h3⟩
  | .ptr row :: r, us, h => by
    simp only [RepCaps] at h ⊢
    obtain ⟨u, us', h1, h2, h3⟩ := h
    exact ⟨u, us', h1, h2.move hI, RepCaps.move hI r us' h3⟩
theorem RepCaps.mono {w : World} {I J : Nat → Prop} (hIJ : ∀ g, I g → J g) : ∀ (caps : List Cap) (us : List Value), RepCaps w I caps us → RepCaps w J caps us
  | [], us, h => by simpa only [RepCaps] using h
  | .val g row :: r, us, h => by
    simp only [RepCaps] at h ⊢
    obtain ⟨u, us', h1, h2, h3⟩ := h
    exact ⟨u, us', h1, h2.mono hIJ, RepCaps.mono hIJ r us' h3⟩
  | .ptr row :: r, us, h => by
    simp only [RepCaps] at h ⊢
    obtain ⟨u, us', h1, h2, h3⟩ := h
    exact ⟨u, us', h1, h2.mono hIJ, RepCaps.mono hIJ r us' h3⟩

theorem rowOwn_of_get : ∀ {row : List C} {off : Nat} {e k rows}, row[off]? = some (.l (some e) k rows) → rowOwn row = true
  | [], off, e, k, rows, h => by simp at h
  | c :: r, 0, e, k, rows, h => by simp at h; subst h; simp [rowOwn, C.own]
  | c :: r, off + 1, e, k, rows, h => by simp at h; simp [rowOwn, rowOwn_of_get h]

theorem St.cell_root {st : St} {d off : Nat} {e k rows} (h : st.cell d off = some (.l (some e) k rows)) : (st.get d).root = true := by
  unfold St.cell at h
  cases hd : st.get d <;> rw [hd] at h <;> simp at h
  · simp [SV.root, rowOwn_of_get h]
  · simp [SV.root]

/-- What a slot's word says stands as long as what it leads to stands. -/
theorem RepV.congr {w w' : World} {I : Nat → Prop} {st st' : St} {a a' : Act} (hI : ∀ g, I g → w'.heap[g]? = w.heap[g]?) {sv : SV} {u : Value} {F : List Nat} (hF : ∀ g ∈ F, w'.heap[g]? = w.heap[g]?)
    (hn : ∀ d, sv.names d = true → a'.tmps[d]? = a.tmps[d]? ∧ st'.get d = st.get d ∧ ∀ off ud, a.tmps[d]? = some ud → hdr w' ud off = hdr w ud off)
    (h : RepV w I st a sv u F) : RepV w' I st' a' sv u F := by
  cases sv with
  | dead => simpa only [RepV] using h
  | val g row =>
    cases g with
    | false => simp only [RepV] at h ⊢; exact RepR.move hI row [u] F hF h
    | true => simp only [RepV] at h ⊢; obtain ⟨vs, hu, h⟩ := h; exact ⟨vs, hu, RepR.move hI row vs F hF h⟩
  | box T row =>
    simp only [RepV] at h ⊢
    obtain ⟨g, vs, F', hu, hg, hr, rfl⟩ := h
    exact ⟨g, vs, F', hu, (hF g (by simp)).trans hg, RepR.move hI row vs F' (fun g hg => hF g (by simp [hg])) hr, rfl⟩
  | ptr d off =>
    obtain ⟨h1, h2, h3⟩ := hn d (by simp [SV.names])
    simp only [RepV] at h ⊢
    obtain ⟨hF0, g, hd, hu, T, row, hb⟩ := h
    exact ⟨hF0, g, h1.trans hd, hu, T, row, h2.trans hb⟩
  | al d off =>
    obtain ⟨h1, h2, h3⟩ := hn d (by simp [SV.names])
    simp only [RepV] at h ⊢
    obtain ⟨hF0, ⟨ud, hd, hh⟩, e, k, rows, hc⟩ := h
    refine ⟨hF0, ⟨ud, h1.trans hd, (h3 off ud hd).trans hh⟩, e, k, rows, ?_⟩
    unfold St.cell at hc ⊢
    rw [h2]; exact hc
  | ep row off =>
    simp only [RepV] at h ⊢
    obtain ⟨hF0, g, o, vs, hu, hg, hra, hr⟩ := h
    exact ⟨hF0, g, o, vs, hu, hg, rangeAt_move hra (hI g hg), RepR.move hI row vs [] (by simp) hr⟩
  | eo d off i j =>
    obtain ⟨h1, h2, h3⟩ := hn d (by simp [SV.names])
    simp only [RepV] at h ⊢
    obtain ⟨hF0, ud, g, n, c, hd, hh, e, k, rows, hc, hi, hu⟩ := h
    refine ⟨hF0, ud, g, n, c, h1.trans hd, (h3 off ud hd).trans hh, e, k, rows, ?_, hi, hu⟩
    unfold St.cell at hc ⊢
    rw [h2]; exact hc
  | tup ps =>
    simp only [RepV] at h ⊢
    obtain ⟨us, hu, h⟩ := h
    exact ⟨us, hu, RepT.move hI ps us F hF h⟩
  | fn f caps =>
    simp only [RepV] at h ⊢
    obtain ⟨hF0, us, hu, h⟩ := h
    exact ⟨hF0, us, hu, RepCaps.move hI caps us h⟩

theorem RepV.mono {w : World} {I J : Nat → Prop} (hIJ : ∀ g, I g → J g) {st : St} {a : Act} {sv : SV} {u : Value} {F : List Nat} (h : RepV w I st a sv u F) : RepV w J st a sv u F := by
  cases sv with
  | val g row =>
    cases g with
    | false => simp only [RepV] at h ⊢; exact RepR.mono hIJ row [u] F h
    | true => simp only [RepV] at h ⊢; obtain ⟨vs, hu, h⟩ := h; exact ⟨vs, hu, RepR.mono hIJ row vs F h⟩
  | box T row =>
    simp only [RepV] at h ⊢
    obtain ⟨g, vs, F', hu, hg, hr, rfl⟩ := h
    exact ⟨g, vs, F', hu, hg, RepR.mono hIJ row vs F' hr, rfl⟩
  | ep row off =>
    simp only [RepV] at h ⊢
    obtain ⟨hF0, g, o, vs, hu, hg, hra, hr⟩ := h
    exact ⟨hF0, g, o, vs, hu, hIJ g hg, hra, RepR.mono hIJ row vs [] hr⟩
  | tup ps =>
    simp only [RepV] at h ⊢
    obtain ⟨us, hu, h⟩ := h
    exact ⟨us, hu, RepT.mono hIJ ps us F h⟩
  | fn f caps =>
    simp only [RepV] at h ⊢
    obtain ⟨hF0, us, hu, h⟩ := h
    exact ⟨hF0, us, hu, RepCaps.mono hIJ caps us h⟩
  | dead => simpa only [RepV] using h
  | ptr d off => simpa only [RepV] using h
  | al d off => simpa only [RepV] using h
  | eo d off i j => simpa only [RepV] using h

theorem RepV.lt {w : World} {I : Nat → Prop} {st : St} {a : Act} {sv : SV} {u : Value} {F : List Nat} (h : RepV w I st a sv u F) : ∀ g ∈ F, g < w.heap.size := by
  cases sv with
  | val g row =>
    cases g with
    | false => simp only [RepV] at h; exact RepR.lt row [u] F h
    | true => simp only [RepV] at h; obtain ⟨vs, hu, h⟩ := h; exact RepR.lt row vs F h
  | box T row =>
    simp only [RepV] at h
    obtain ⟨g, vs, F', hu, hg, hr, rfl⟩ := h
    intro b hb
    rcases List.mem_cons.1 hb with rfl | hb
    · exact (Array.getElem?_eq_some_iff.1 hg).1
    · exact RepR.lt row vs F' hr b hb
  | tup ps =>
    simp only [RepV] at h
    obtain ⟨us, hu, h⟩ := h
    exact RepT.lt ps us F h
  | dead => simp only [RepV] at h; simp [h]
  | ptr d off => simp only [RepV] at h; simp [h.1]
  | al d off => simp only [RepV] at h; simp [h.1]
  | ep row off => simp only [RepV] at h; simp [h.1]
  | eo d off i j => simp only [RepV] at h; simp [h.1]
  | fn f caps => simp only [RepV] at h; simp [h.1]

/-- What names another slot owns nothing. -/
theorem RepV.names_nil {w : World} {I : Nat → Prop} {st : St} {a : Act} {sv : SV} {u : Value} {F : List Nat} {d : Nat} (h : RepV w I st a sv u F) (hn : sv.names d = true) : F = [] := by
  cases sv <;> simp only [SV.names] at hn <;> first | cases hn | skip
  · simp only [RepV] at h; exact h.1
  · simp only [RepV] at h; exact h.1
  · simp only [RepV] at h; exact h.1
theorem RepV.namesAt_nil {w : World} {I : Nat → Prop} {st : St} {a : Act} {sv : SV} {u : Value} {F : List Nat} {d off : Nat} (h : RepV w I st a sv u F) (hn : sv.namesAt d off = true) : F = [] := by
  cases sv <;> simp only [SV.namesAt] at hn <;> first | cases hn | skip
  · simp only [RepV] at h; exact h.1
  · simp only [RepV] at h; exact h.1
/-- Whatever is named is a root. -/
theorem RepV.names_root {w : World} {I : Nat → Prop} {st : St} {a : Act} {sv : SV} {u : Value} {F : List Nat} {d : Nat} (h : RepV w I st a sv u F) (hn : sv.names d = true) : (st.get d).root = true := by
  cases sv <;> simp only [SV.names] at hn <;> first | cases hn | skip
  · rename_i e off
    obtain rfl : e = d := by simpa using hn
    simp only [RepV] at h
    obtain ⟨_, g, _, _, T, row, hb⟩ := h
    rw [hb]; rfl
  · rename_i e off
    obtain rfl : e = d := by simpa using hn
    simp only [RepV] at h
    obtain ⟨_, _, e, k, rows, hc⟩ := h
    exact St.cell_root hc
  · rename_i e off i j
    obtain rfl : e = d := by simpa using hn
    simp only [RepV] at h
    obtain ⟨_, _, _, _, _, _, _, e, k, rows, hc, _⟩ := h
    exact St.cell_root hc
theorem SV.names_not_root {sv : SV} {d : Nat} (h : sv.names d = true) : sv.root = false := by
  cases sv <;> simp_all [SV.names, SV.root]

section
variable {G : Glob} {W0 : Base} {I0 : Nat → Prop} {n : Nat} {I : Nat → Prop} {F : Nat → List Nat} {X : List Nat} {st : St} {a : Act} {w : World}

theorem InvX.at (h : InvX G W0 I0 n I F X st a w) {t : Nat} {u : Value} (hu : a.tmps[t]? = some u) : RepV w I st a (st.get t) u (F t) := by
  have := h.rep t
  unfold RepS at this
  rwa [hu] at this
theorem InvX.lt (h : InvX G W0 I0 n I F X st a w) (t : Nat) : ∀ g ∈ F t, g < w.heap.size := by
  have := h.rep t
  unfold RepS at this
  cases hu : a.tmps[t]? with
  | some u => rw [hu] at this; exact this.lt
  | none => rw [hu] at this; simp [this.2]
theorem InvX.live (h : InvX G W0 I0 n I F X st a w) {t : Nat} (hd : st.get t ≠ .dead) : ∃ u, a.tmps[t]? = some u ∧ RepV w I st a (st.get t) u (F t) := by
  have := h.rep t
  unfold RepS at this
  cases hu : a.tmps[t]? with
  | some u => rw [hu] at this; exact ⟨u, rfl, this⟩
  | none => rw [hu] at this; exact absurd this.1 hd

theorem hdr_value {w w' : World} {u : Value} (h : ∀ p, u ≠ .pointer (some p)) (off : Nat) : hdr w' u off = hdr w u off := by
  unfold hdr
  split
  · rename_i p; exact absurd rfl (h p)
  · rfl

/-- The head of what is named reads as before where what is owned stands. -/
theorem InvX.head (h : InvX G W0 I0 n I F X st a w) {w' : World} {d : Nat} (hr : (st.get d).root = true) (hF : ∀ g ∈ F d, w'.heap[g]? = w.heap[g]?) (off : Nat) (ud : Value) (hd : a.tmps[d]? = some ud) : hdr w' ud off = hdr w ud off := by
  have hv := h.at hd
  cases hg : st.get d with
  | val g row =>
    rw [hg] at hv hr
    cases g with
    | true =>
      simp only [RepV] at hv
      obtain ⟨vs, rfl, _⟩ := hv
      exact hdr_value (by simp) off
    | false =>
      simp only [RepV] at hv
      refine hdr_value ?_ off
      rintro p rfl
      cases row with
      | nil => simp [SV.root, rowOwn] at hr
      | cons c r =>
        have hl := hv.length
        have : r = [] := by simpa using hl
        subst this
        simp only [SV.root, rowOwn, Bool.or_false] at hr
        cases c with
        | l o k rows =>
          have hc := RepR_single.1 hv
          cases o with
          | none => simp [C.own] at hr
          | some e =>
            simp only [RepC] at hc
            obtain ⟨vs, F', _, ho, _⟩ := hc
            rcases ho.2 with ⟨hh, _⟩ | ⟨g, cap, cur, hh, _⟩ <;> cases hh
        | v x => simp [C.own] at hr
        | gone => simp [C.own] at hr
  | box T row =>
    rw [hg] at hv
    simp only [RepV] at hv
    obtain ⟨g, vs, F', rfl, hgg, _, hF'⟩ := hv
    unfold Vm.hdr
    exact World.cell?_of_block (w := w) (a := ⟨g, off, none⟩) (hF g (by rw [hF']; simp))
  | dead => rw [hg] at hr; cases hr
  | ptr _ _ => rw [hg] at hr; cases hr
  | al _ _ => rw [hg] at hr; cases hr
  | ep _ _ => rw [hg] at hr; cases hr
  | eo _ _ _ _ => rw [hg] at hr; cases hr
  | tup _ => rw [hg] at hr; cases hr
  | fn _ _ => rw [hg] at hr; cases hr

/-- The world goes on; what is told of stands. -/
theorem InvX.world (h : InvX G W0 I0 n I F X st a w) {w' : World} (hG : G w') (hb : Bel W0 w w') (hI : ∀ g, I g → w'.heap[g]? = w.heap[g]?) (hF : ∀ t, ∀ g ∈ F t, w'.heap[g]? = w.heap[g]?) :
    InvX G W0 I0 n I F X st a w' where
  size := h.size
  defers := h.defers
  below := h.below.trans hb
  glob := hG
  Ilt := fun g hg => Nat.lt_of_lt_of_le (h.Ilt g hg) hb.size
  Iold := h.Iold
  Inew := h.Inew
  rep := fun t => by
    have := h.rep t
    unfold RepS at this ⊢
    cases hu : a.tmps[t]? with
    | some u =>
      rw [hu] at this
      refine RepV.congr hI (hF t) (fun d hd => ⟨rfl, rfl, fun off ud hud => ?_⟩) this
      exact h.head (this.names_root hd) (hF d) off ud hud
    | none => rw [hu] at this; exact this
  nodup := h.nodup
  apart := h.apart
  xnodup := h.xnodup
  xapart := h.xapart
  Fok := h.Fok
  Xok := fun g hg => ⟨(h.Xok g hg).1, Nat.lt_of_lt_of_le (h.Xok g hg).2.1 hb.size, (h.Xok g hg).2.2⟩

/-- More is never written. -/
theorem InvX.more (h : InvX G W0 I0 n I F X st a w) {J : Nat → Prop} (hIJ : ∀ g, I g → J g) (hlt : ∀ g, J g → g < w.heap.size) (hnew : ∀ g, J g → I0 g ∨ W0.has g) (hF : ∀ t, ∀ g ∈ F t, ¬ J g) (hX : ∀ g ∈ X, ¬ J g) :
    InvX G W0 I0 n J F X st a w where
  size := h.size
  defers := h.defers
  below := h.below
  glob := h.glob
  Ilt := hlt
  Iold := fun g hg => hIJ g (h.Iold g hg)
  Inew := hnew
  rep := fun t => by
    have := h.rep t
    unfold RepS at this ⊢
    cases hu : a.tmps[t]? with
    | some u => rw [hu] at this; exact this.mono hIJ
    | none => rw [hu] at this; exact this
  nodup := h.nodup
  apart := h.apart
  xnodup := h.xnodup
  xapart := h.xapart
  Fok := fun t g hg => ⟨(h.Fok t g hg).1, hF t g hg⟩
  Xok := fun g hg => ⟨(h.Xok g hg).1, (h.Xok g hg).2.1, hX g hg⟩

/-- A slot is written. -/
theorem InvX.put {F' : List Nat} (h : InvX G W0 I0 n I F (F' ++ X) st a w) {t : Nat} (ht : t < n) {sv : SV} {v : Value}
    (hsv : RepV w I (st.put t sv) (a.put (some t) v) sv v F') : InvX G W0 I0 n I (fun u => if u = t then F' else F u) X (st.put t sv) (a.put (some t) v) w where
  size := by simp [Act.put, h.size]
  defers := by simp [Act.put, h.defers]
  below := h.below
  glob := h.glob
  Ilt := h.Ilt
  Iold := h.Iold
  Inew := h.Inew
  rep := fun u => by
    have hs := h.size
    unfold RepS
    by_cases hut : u = t
    · subst hut
      have e1 : (a.put (some u) v).tmps[u]? = some v := by simp [Act.put, Array.getElem?_setIfInBounds, hs, ht]
      rw [e1]
      simp only [if_true]
      rw [St.get_put, if_pos rfl]
      exact hsv
    · have e1 : (a.put (some t) v).tmps[u]? = a.tmps[u]? := by simp [Act.put, Array.getElem?_setIfInBounds_ne (show t ≠ u from fun e => hut e.symm)]
      have hr := h.rep u
      unfold RepS at hr
      rw [e1]
      simp only [hut, if_false]
      rw [St.get_put, if_neg (fun e => hut e.symm)]
      cases hu : a.tmps[u]? with
      | none =>
        rw [hu] at hr
        simp only [hr.1, hr.2, ite_self, and_self]
      | some x =>
        rw [hu] at hr
        simp only
        by_cases hk : (st.get t).root = true ∧ (st.get u).names t = true
        · rw [if_pos hk]
          simp only [RepV]
          exact hr.names_nil hk.2
        · rw [if_neg hk]
          refine RepV.congr (fun _ _ => rfl) (fun _ _ => rfl) (fun d hd => ?_) hr
          have hdt : t ≠ d := by
            rintro rfl
            exact hk ⟨hr.names_root hd, hd⟩
          refine ⟨by simp [Act.put, Array.getElem?_setIfInBounds, hdt], ?_, fun _ _ _ => rfl⟩
          rw [St.get_put, if_neg hdt, if_neg]
          rintro ⟨_, hn⟩
          have := SV.names_not_root hn
          rw [hr.names_root hd] at this
          cases this
  nodup := fun u => by
    show (if u = t then F' else F u).Nodup
    split
    · exact (List.nodup_append.1 h.xnodup).1
    · exact h.nodup u
  apart := fun u s hus => by
    intro g hg hg'
    replace hg : g ∈ (if u = t then F' else F u) := hg
    replace hg' : g ∈ (if s = t then F' else F s) := hg'
    by_cases h1 : u = t
    · rw [if_pos h1] at hg
      have h2 : s ≠ t := fun e => hus (h1.trans e.symm)
      rw [if_neg h2] at hg'
      exact h.xapart s g hg' (by simp [hg])
    · rw [if_neg h1] at hg
      by_cases h2 : s = t
      · rw [if_pos h2] at hg'
        exact h.xapart u g hg (by simp [hg'])
      · rw [if_neg h2] at hg'
        exact h.apart u s hus g hg hg'
  xnodup := (List.nodup_append.1 h.xnodup).2.1
  xapart := fun u g hg hX => by
    replace hg : g ∈ (if u = t then F' else F u) := hg
    split at hg
    · exact (List.nodup_append.1 h.xnodup).2.2 g hg g hX rfl
    · exact h.xapart u g hg (by simp [hX])
  Fok := fun u g hg => by
    replace hg : g ∈ (if u = t then F' else F u) := hg
    split at hg
    · have := h.Xok g (by simp [hg]); exact ⟨this.1, this.2.2⟩
    · exact h.Fok u g hg
  Xok := fun g hg => h.Xok g (by simp [hg])
end
end Go.Proofs.Vm
