/- A part of the proof of the card: lemmas that the text with the card leans on (see there for what is proved, and under which conditions). -/
import Derived.Test.YtgjdionnbbnmpaaGreatDoorVmT
set_option linter.unusedVariables false
set_option linter.unusedSimpArgs false
namespace Go.Proofs.Vm
open Go Go.RowKit

/-! ### A region whose order is drawn -/
def dstAt (all : Array Oper) (i : Nat) : Nat := ((all[i]?).bind (·.dst)).getD 0
def hasEdge (o : Oper) (j : Nat) : Bool := o.after.toList.any fun e => e.on == j && Region.binds .any e
def quietLen (all : Array Oper) : Nat := (all.toList.takeWhile quietOp).length
def drawOp (all : Array Oper) (m i : Nat) (o : Oper) : Bool :=
  quietOp o && o.dst.isSome && (List.range i).all (fun j => dstAt all j != dstAt all i) && o.after.toList.all (fun e => e.on < i) &&
    (o.looksAt all).all fun t => (List.range m).all fun j => dstAt all j != t || (decide (j < i) && hasEdge o j)
def drawOk (mx : Bool) (all : Array Oper) : Bool :=
  (mx || !Region.departs all) &&
  ((quietLen all == all.size || (quietLen all + 1 == all.size && match all[quietLen all]? with
    | some o => (List.range (quietLen all)).all (hasEdge o) && o.after.toList.all fun e => e.on < quietLen all
    | none => false)) &&
  (List.range (quietLen all)).all fun i => match all[i]? with
    | some o => drawOp all (quietLen all) i o
    | none => false)
def dstsQ : List Oper → List Nat
  | [] => []
  | o :: r => if quietOp o then (o.dst.getD 0) :: dstsQ r else []
def drawDsts (all : Array Oper) : List Nat := dstsQ all.toList
theorem dstsQ_mem : ∀ {l : List Oper} {i : Nat}, i < (l.takeWhile quietOp).length → ((l[i]?).bind (·.dst)).getD 0 ∈ dstsQ l
  | [], i, h => by simp at h
  | o :: r, i, h => by
    rw [List.takeWhile_cons] at h
    unfold dstsQ
    split at h
    · rename_i hq
      rw [if_pos hq]
      cases i with
      | zero => simp
      | succ i =>
        refine List.mem_cons_of_mem _ ?_
        rw [List.getElem?_cons_succ]
        exact dstsQ_mem (by simpa using h)
    · simp at h
def St.forget (st : St) : List Nat → St
  | [] => st
  | t :: r => St.forget (st.put t .dead) r

structure DrawSpec (all : Array Oper) (m : Nat) : Prop where
  size : m = all.size ∨ (m + 1 = all.size ∧ ∃ o, all[m]? = some o ∧ (∀ j, j < m → hasEdge o j = true) ∧ ∀ e ∈ o.after, e.on < m)
  op : ∀ i, i < m → ∃ o, all[i]? = some o ∧ quietOp o = true ∧ o.dst = some (dstAt all i) ∧ (∀ j, j < i → dstAt all j ≠ dstAt all i) ∧ (∀ e ∈ o.after, e.on < i) ∧ ∀ t ∈ o.looksAt all, ∀ j, j < m → dstAt all j = t → j < i ∧ hasEdge o j = true
theorem drawOk_spec {mx : Bool} {all : Array Oper} (h : drawOk mx all = true) : (mx || !Region.departs all) = true ∧ DrawSpec all (quietLen all) := by
  unfold drawOk at h
  simp only [Bool.and_eq_true] at h
  obtain ⟨h0, h1, h2⟩ := h
  refine ⟨h0, ?_, ?_⟩
  · rw [Bool.or_eq_true] at h1
    rcases h1 with h1 | h1
    · left; simpa using h1
    · right
      simp only [Bool.and_eq_true] at h1
      obtain ⟨h3, h4⟩ := h1
      refine ⟨by simpa using h3, ?_⟩
      split at h4
      · rename_i o ho
        simp only [Bool.and_eq_true] at h4
        refine ⟨o, ho, fun j hj => List.all_eq_true.1 h4.1 j (List.mem_range.2 hj), fun e he => ?_⟩
        have := List.all_eq_true.1 h4.2 e (by simpa using he)
        simpa using this
      · cases h4
  · intro i hi
    have h3 := List.all_eq_true.1 h2 i (List.mem_range.2 hi)
    split at h3
    · rename_i o ho
      unfold drawOp at h3
      simp only [Bool.and_eq_true] at h3
      obtain ⟨⟨⟨⟨q1, q2⟩, q3⟩, q4⟩, q5⟩ := h3
      refine ⟨o, ho, q1, ?_, fun j hj => ?_, fun e he => ?_, fun t ht j hj hjt => ?_⟩
      · obtain ⟨d, hd⟩ := Option.isSome_iff_exists.1 q2
        rw [hd]
        simp [dstAt, ho, hd]
      · have := List.all_eq_true.1 q3 j (List.mem_range.2 hj)
        simpa using this
      · have := List.all_eq_true.1 q4 e (by simpa using he)
        simpa using this
      · have := List.all_eq_true.1 (List.all_eq_true.1 q5 t ht) j (List.mem_range.2 hj)
        simp only [hjt, bne_self_eq_false, Bool.false_or, Bool.and_eq_true, decide_eq_true_eq] at this
        exact this
    · cases h3

section
variable {P : Program} {L : Lay} {G : Glob} {W0 : Base} {I0 : Nat → Prop} {n : Nat} {I : Nat → Prop} {F : Nat → List Nat} {st : St} {a : Act} {w : World}
theorem InvX.ext (h : InvX G W0 I0 n I F [] st a w) {st' : St} (he : ∀ t, st'.get t = st.get t) : InvX G W0 I0 n I F [] st' a w :=
  { size := h.size, defers := h.defers, below := h.below, glob := h.glob, Ilt := h.Ilt, Iold := h.Iold, Inew := h.Inew
    rep := fun t => by
      have hr := h.rep t
      unfold RepS at hr ⊢
      rw [he t]
      cases hu : a.tmps[t]? with
      | none => rw [hu] at hr; exact hr
      | some u =>
        rw [hu] at hr
        exact RepV.congr (fun _ _ => rfl) (fun _ _ => rfl) (fun d _ => ⟨rfl, he d, fun _ _ _ => rfl⟩) hr
    nodup := h.nodup, apart := h.apart, xnodup := h.xnodup, xapart := h.xapart, Fok := h.Fok, Xok := h.Xok }
theorem Inv.ext (h : Inv G W0 I0 n st a w) {st' : St} (he : ∀ t, st'.get t = st.get t) : Inv G W0 I0 n st' a w := by
  obtain ⟨I, F, h⟩ := h
  exact ⟨I, F, h.ext he⟩
theorem Inv.ok (h : Inv G W0 I0 n st a w) : st.ok := by
  obtain ⟨I, F, h⟩ := h
  intro t e hn
  obtain ⟨u, hu, hr⟩ := h.live (t := t) (by intro hd; rw [hd] at hn; cases hn)
  exact hr.names_root hn
theorem Inv.forget : ∀ {l : List Nat} {st : St}, Inv G W0 I0 n st a w → Inv G W0 I0 n (st.forget l) a w
  | [], _, h => h
  | t :: r, st, h => by
    obtain ⟨I, F, h⟩ := h
    exact Inv.forget (l := r) ⟨I, fun u => if u = t then [] else F u, (h.drop t).less List.nodup_nil (by simp)⟩
/-! ### A state cut down to what still counts -/
def memN (d : Nat) : List Nat → Bool
  | [] => false
  | x :: r => (d == x) || memN d r
def SV.inside (l : List Nat) : SV → SV
  | .ptr d off => if memN d l then .ptr d off else .dead
  | .al d off => if memN d l then .al d off else .dead
  | .eo d off i j => if memN d l then .eo d off i j else .dead
  | x => x
def onlyF (all : List Nat) (st : St) : List Nat → St
  | [] => []
  | t :: r => (t, (st.get t).inside all) :: onlyF all st r
def St.only (l : List Nat) (st : St) : St := onlyF l st l
theorem onlyF_get (all : List Nat) (st : St) (t : Nat) : ∀ l, (onlyF all st l).get t = if memN t l then (st.get t).inside all else .dead
  | [] => rfl
  | x :: r => by
    simp only [onlyF, St.get, memN]
    by_cases h : x = t
    · subst h; simp
    · rw [if_neg h, onlyF_get all st t r]
      have : (t == x) = false := by simpa using fun e : t = x => h e.symm
      simp only [this, Bool.false_or]
theorem SV.inside_root {l : List Nat} {sv : SV} (h : sv.root = true) : sv.inside l = sv := by
  cases sv <;> first | rfl | (cases h; done)
theorem SV.inside_cases (l : List Nat) (sv : SV) : (sv.inside l = sv ∧ ∀ d, sv.names d = true → memN d l = true) ∨ (sv.inside l = .dead ∧ ∃ d, sv.names d = true) := by
  cases sv with
  | ptr d off =>
    simp only [SV.inside]
    split
    · rename_i h
      refine Or.inl ⟨rfl, fun e he => ?_⟩
      have : d = e := by simpa only [SV.names, beq_iff_eq] using he
      rw [← this]; exact h
    · exact Or.inr ⟨rfl, d, by simp [SV.names]⟩
  | al d off =>
    simp only [SV.inside]
    split
    · rename_i h
      refine Or.inl ⟨rfl, fun e he => ?_⟩
      have : d = e := by simpa only [SV.names, beq_iff_eq] using he
      rw [← this]; exact h
    · exact Or.inr ⟨rfl, d, by simp [SV.names]⟩
  | eo d off i j =>
    simp only [SV.inside]
    split
    · rename_i h
      refine Or.inl ⟨rfl, fun e he => ?_⟩
      have : d = e := by simpa only [SV.names, beq_iff_eq] using he
      rw [← this]; exact h
    · exact Or.inr ⟨rfl, d, by simp [SV.names]⟩
  | _ => exact Or.inl ⟨rfl, fun d hd => by simp [SV.names] at hd⟩
theorem InvX.only (h : InvX G W0 I0 n I F [] st a w) (l : List Nat) : InvX G W0 I0 n I (fun t => if memN t l then F t else []) [] (st.only l) a w :=
  { size := h.size, defers := h.defers, below := h.below, glob := h.glob, Ilt := h.Ilt, Iold := h.Iold, Inew := h.Inew
    rep := fun t => by
      have hr := h.rep t
      unfold RepS at hr ⊢
      unfold St.only
      rw [onlyF_get]
      by_cases ht : memN t l = true
      · rw [if_pos ht, if_pos ht]
        cases hu : a.tmps[t]? with
        | none =>
          rw [hu] at hr
          simp only at hr ⊢
          rw [hr.1]
          exact ⟨rfl, hr.2⟩
        | some u =>
          rw [hu] at hr
          simp only at hr ⊢
          rcases SV.inside_cases l (st.get t) with ⟨h1, h2⟩ | ⟨h1, d, h2⟩
          · rw [h1]
            refine RepV.congr (fun _ _ => rfl) (fun _ _ => rfl) (fun d hd => ⟨rfl, ?_, fun _ _ _ => rfl⟩) hr
            rw [onlyF_get, if_pos (h2 d hd), SV.inside_root (hr.names_root hd)]
          · rw [h1]
            simp only [RepV]
            exact hr.names_nil h2
      · rw [if_neg ht, if_neg ht]
        cases a.tmps[t]? <;> simp [RepV]
    nodup := fun t => by
      show (if memN t l then F t else []).Nodup
      split
      · exact h.nodup t
      · exact List.nodup_nil
    apart := fun t u htu g hg hg' => by
      replace hg : g ∈ (if memN t l then F t else []) := hg
      replace hg' : g ∈ (if memN u l then F u else []) := hg'
      split at hg
      · split at hg'
        · exact h.apart t u htu g hg hg'
        · simp at hg'
      · simp at hg
    xnodup := h.xnodup, xapart := fun t g hg hx => by simp at hx
    Fok := fun t g hg => by
      replace hg : g ∈ (if memN t l then F t else []) := hg
      split at hg
      · exact h.Fok t g hg
      · simp at hg
    Xok := h.Xok }
theorem Inv.only (h : Inv G W0 I0 n st a w) (l : List Nat) : Inv G W0 I0 n (st.only l) a w := by
  obtain ⟨I, F, h⟩ := h
  exact ⟨_, _, h.only l⟩
theorem forget_dead : ∀ {l : List Nat} {st : St} {t : Nat}, (t ∈ l ∨ st.get t = .dead) → (st.forget l).get t = .dead
  | [], st, t, h => by
    rcases h with h | h
    · cases h
    · exact h
  | u :: r, st, t, h => by
    show ((st.put u .dead).forget r).get t = .dead
    refine forget_dead ?_
    by_cases hut : u = t
    · right; rw [St.get_put, if_pos hut]
    · rcases h with h | h
      · rcases List.mem_cons.1 h with h | h
        · exact absurd h.symm hut
        · exact Or.inl h
      · right; rw [St.get_put, if_neg hut, h]; simp
theorem put_dead {st : St} {d : Nat} (hd : st.get d = .dead) (sv : SV) (t : Nat) : (st.put d sv).get t = if d = t then sv else st.get t := by
  rw [St.get_put, hd]
  simp [SV.root]

theorem steps_facts {S : FuncId → List SV → SV → Prop} {all : Array Oper} {m : Nat} (hsp : DrawSpec all m) : ∀ {r : List Oper} {k : Nat} {c s : St}, (∀ j, j < r.length → r[j]? = all[k + j]?) → k + r.length = m → StepsO S n L none all r c s → c.ok → (∀ i, k ≤ i → i < m → c.get (dstAt all i) = .dead) →
    (∀ t, (∀ i, k ≤ i → i < m → dstAt all i ≠ t) → s.get t = c.get t) ∧
    ∀ i, k ≤ i → i < m → ∃ o, all[i]? = some o ∧ ∀ c', (∀ t ∈ o.looksAt all, Agree c' s t) → StepO S n L none all c' o (c'.put (dstAt all i) (s.get (dstAt all i)))
  | [], k, c, s, hr, hm, hs, hok, hdead => by
    cases hs
    simp only [List.length_nil, Nat.add_zero] at hm
    exact ⟨fun t _ => rfl, fun i h1 h2 => by omega⟩
  | o :: r, k, c, s, hr, hm, hs, hok, hdead => by
    cases hs with
    | cons h1 h2 =>
      rename_i c1
      simp only [List.length_cons] at hm
      have hk : k < m := by omega
      obtain ⟨o', ho', hq, hd, hdis, hedge, hlook⟩ := hsp.op k hk
      have hoo : all[k]? = some o := by
        have := hr 0 (by simp)
        simpa using this.symm
      rw [hoo] at ho'
      injection ho' with ho'
      subst ho'
      obtain ⟨sv, rfl, hnames, hsame⟩ := stepO_same (all := all) hq hd h1
      have hdk := hdead k (Nat.le_refl _) hk
      have hget := put_dead hdk sv
      have hne : ∀ i, k < i → i < m → dstAt all k ≠ dstAt all i := by
        intro i h3 h4
        obtain ⟨_, _, _, _, h5, _⟩ := hsp.op i h4
        exact h5 k h3
      have hroot : ∀ t e, (c.get t).names e = true → ∀ i, k ≤ i → i < m → dstAt all i ≠ e := by
        intro t e hn i h3 h4 h5
        have := hok t e hn
        rw [← h5, hdead i h3 h4] at this
        cases this
      have hok1 : (c.put (dstAt all k) sv).ok := by
        intro t e hn
        rw [hget] at hn
        have hke : (c.get e).root = true := by
          split at hn
          · exact hnames hok e hn
          · exact hok t e hn
        rw [hget, if_neg]
        · exact hke
        · intro h5
          rw [← h5, hdk] at hke
          cases hke
      obtain ⟨f1, f2⟩ := steps_facts hsp (r := r) (k := k + 1) (c := c.put (dstAt all k) sv) (s := s) (fun j hj => by
          have := hr (j + 1) (by simp; omega)
          rw [List.getElem?_cons_succ] at this
          rw [this]
          congr 1
          omega) (by omega) h2 hok1 (fun i h3 h4 => by rw [hget, if_neg (hne i (by omega) h4)]; exact hdead i (by omega) h4)
      have hag : ∀ t ∈ o.looksAt all, Agree c s t := by
        intro t ht
        have hno : ∀ i, k ≤ i → i < m → dstAt all i ≠ t := by
          intro i h3 h4 h5
          have := (hlook t ht i h4 h5).1
          omega
        have e1 : ∀ u, (∀ i, k ≤ i → i < m → dstAt all i ≠ u) → s.get u = c.get u := by
          intro u hu
          rw [f1 u (fun i h3 h4 => hu i (by omega) h4), hget, if_neg (hu k (Nat.le_refl _) hk)]
        refine ⟨(e1 t hno).symm, fun e he => ?_⟩
        rw [e1 t hno] at he
        exact (e1 e (hroot t e he)).symm
      refine ⟨fun t ht => ?_, fun i h3 h4 => ?_⟩
      · rw [f1 t (fun i h3 h4 => ht i (by omega) h4), hget, if_neg (ht k (Nat.le_refl _) hk)]
      · by_cases hik : i = k
        · subst hik
          refine ⟨o, hoo, fun c' hA => ?_⟩
          have hsv : s.get (dstAt all i) = sv := by
            rw [f1 _ (fun j h5 h6 => (hne j (by omega) h6).symm), hget, if_pos rfl]
          rw [hsv]
          refine hsame c' (fun t ht => ?_)
          obtain ⟨g1, g2⟩ := hA t ht
          obtain ⟨g3, g4⟩ := hag t ht
          refine ⟨g1.trans g3.symm, fun e he => ?_⟩
          have he' : (s.get t).names e = true := by rw [← g3]; exact he
          rw [g4 e he']
          exact g2 e he'
        · exact f2 i (by omega) h4

def unl (all : Array Oper) (listed : Array Bool) : List Nat := (List.range all.size).filter fun i => !listed.getD i false
theorem all_listed {Q : Exit → Act → World → Prop} {all : Array Oper} {listed : Array Bool} (hsz : listed.size = all.size) (hl : ∀ i, i < all.size → listed.getD i false = true) (hQ : Q .normal a w) : ∀ fuel, wpAny P .any all Q fuel listed a w := by
  have hr : Region.ready .any all listed = [] := by
    rw [List.eq_nil_iff_forall_not_mem]
    intro j hj
    rw [mem_ready] at hj
    obtain ⟨h1, o, ho, _⟩ := hj
    have hlt : j < all.size := (Array.getElem?_eq_some_iff.1 ho).1
    have := hl j hlt
    have hlt2 : j < listed.size := by omega
    simp [Array.getD, hlt2] at h1 this
    rw [h1] at this
    cases this
  intro fuel
  cases fuel with
  | zero => exact ⟨hr, hQ⟩
  | succ fuel => exact ⟨fun _ => hQ, fun i hi => by rw [hr] at hi; cases hi⟩

theorem getD_any {listed : Array Bool} {i : Nat} (h : i < listed.size) (b c : Bool) : listed.getD i b = listed.getD i c := by simp [Array.getD, h]

variable (hL : L.ok P) (hG0 : G W0.w) (hM : ∀ g, W0.M g → G.B ≤ g)
include hL hG0 hM
theorem any_wp {Q : Exit → Act → World → Prop} {all : Array Oper} {m : Nat} (hsp : DrawSpec all m) {st s s' : St}
    (hkeep : ∀ t, (∀ i, i < m → dstAt all i ≠ t) → s.get t = st.get t)
    (hdead : ∀ i, i < m → st.get (dstAt all i) = .dead)
    (hfact : ∀ i, i < m → ∃ o, all[i]? = some o ∧ ∀ c', (∀ t ∈ o.looksAt all, Agree c' s t) → StepO (Sat P G) n L none all c' o (c'.put (dstAt all i) (s.get (dstAt all i))))
    (hlast : (m = all.size ∧ s' = s) ∨ (m + 1 = all.size ∧ ∃ o, all[m]? = some o ∧ StepO (Sat P G) n L none all s o s'))
    (hQ : ∀ a' w', Inv G W0 I0 n s' a' w' → Q .normal a' w') :
    ∀ (fuel : Nat) (listed : Array Bool) (c : St) (a : Act) (w : World), listed.size = all.size → Inv G W0 I0 n c a w → (unl all listed).length ≤ fuel →
      (∀ i, m ≤ i → i < all.size → listed.getD i false = false) →
      (∀ i, i < m → listed.getD i false = true → c.get (dstAt all i) = s.get (dstAt all i)) →
      (∀ t, (∀ i, i < m → listed.getD i false = true → dstAt all i ≠ t) → c.get t = st.get t) →
      wpAny P .any all Q fuel listed a w := by
  intro fuel
  induction fuel with
  | zero =>
    intro listed c a w hsz hI hfu hun h1 h2
    have hnil : unl all listed = [] := List.eq_nil_of_length_eq_zero (by omega)
    have hl : ∀ i, i < all.size → listed.getD i false = true := by
      intro i hi
      by_cases hh : listed.getD i false = true
      · exact hh
      · have : i ∈ unl all listed := List.mem_filter.2 ⟨List.mem_range.2 hi, by simpa using hh⟩
        rw [hnil] at this
        cases this
    refine all_listed hsz hl ?_ 0
    have hm : m = all.size := by
      rcases hlast with ⟨h3, _⟩ | ⟨h3, _⟩
      · exact h3
      · have := hl m (by omega)
        rw [hun m (Nat.le_refl _) (by omega)] at this
        cases this
    rcases hlast with ⟨_, rfl⟩ | ⟨h3, _⟩
    · refine hQ a w (hI.ext fun t => ?_)
      by_cases hd : ∃ i, i < m ∧ dstAt all i = t
      · obtain ⟨i, hi, rfl⟩ := hd
        exact (h1 i hi (hl i (by omega))).symm
      · have hnd : ∀ i, i < m → dstAt all i ≠ t := fun i hi e => hd ⟨i, hi, e⟩
        rw [hkeep t hnd, h2 t (fun i hi _ => hnd i hi)]
    · omega
  | succ fuel ih =>
    intro listed c a w hsz hI hfu hun h1 h2
    have hext : (∀ i, i < m → listed.getD i false = true) → ∀ t, s.get t = c.get t := by
      intro hl t
      by_cases hd : ∃ i, i < m ∧ dstAt all i = t
      · obtain ⟨i, hi, rfl⟩ := hd
        exact (h1 i hi (hl i hi)).symm
      · have hnd : ∀ i, i < m → dstAt all i ≠ t := fun i hi e => hd ⟨i, hi, e⟩
        rw [hkeep t hnd, h2 t (fun i hi _ => hnd i hi)]
    constructor
    · intro hnil
      -- nothing is ready: all is listed
      have hl : ∀ i, i < all.size → listed.getD i false = true := by
        intro i
        induction i using Nat.strongRecOn with
        | _ i ihi =>
          intro hi
          by_cases hh : listed.getD i false = true
          · exact hh
          · exfalso
            have hmem : i ∈ Region.ready .any all listed := by
              rw [mem_ready]
              refine ⟨?_, ?_⟩
              · rw [getD_any (by omega) true false]; simpa using hh
              · by_cases him : i < m
                · obtain ⟨o, ho, _, _, _, hedge, _⟩ := hsp.op i him
                  exact ⟨o, ho, fun e he _ => ihi e.on (hedge e he) (by have := hedge e he; omega)⟩
                · rcases hsp.size with h3 | ⟨h3, o, ho, _, hedge⟩
                  · omega
                  · obtain rfl : i = m := by omega
                    exact ⟨o, ho, fun e he _ => ihi e.on (hedge e he) (by have := hedge e he; omega)⟩
            rw [hnil] at hmem
            cases hmem
      rcases hlast with ⟨h3, rfl⟩ | ⟨h3, _⟩
      · exact hQ a w (hI.ext (hext fun i hi => hl i (by omega)))
      · have := hl m (by omega)
        rw [hun m (Nat.le_refl _) (by omega)] at this
        cases this
    · intro i hi
      rw [mem_ready] at hi
      obtain ⟨hi0, o, ho, hedges⟩ := hi
      have hilt : i < all.size := (Array.getElem?_eq_some_iff.1 ho).1
      have hi0' : listed.getD i false = false := by rw [getD_any (by omega) false true]; exact hi0
      have hset : ∀ j, (listed.setIfInBounds i true).getD j false = if j = i then true else listed.getD j false := by
        intro j
        by_cases hj : j = i
        · subst hj
          rw [if_pos rfl]
          simp [Array.getD, show j < listed.size from by omega]
        · rw [if_neg hj]
          exact getD_set_ne false (Ne.symm hj)
      have hedge : ∀ j, hasEdge o j = true → listed.getD j false = true := by
        intro j hj
        unfold hasEdge at hj
        rw [List.any_eq_true] at hj
        obtain ⟨e, hq, hj⟩ := hj
        simp only [Bool.and_eq_true, beq_iff_eq] at hj
        have := hedges e (by simpa using hq) hj.2
        rw [hj.1] at this
        exact this
      unfold wpOp
      simp only [ho]
      by_cases him : i < m
      · obtain ⟨o', ho', _, _, hdis, _, hlook⟩ := hsp.op i him
        rw [ho] at ho'
        injection ho' with ho'
        subst ho'
        obtain ⟨o2, ho2, hf⟩ := hfact i him
        rw [ho] at ho2
        injection ho2 with ho2
        subst ho2
        have hcd : c.get (dstAt all i) = .dead := by
          rw [h2 _ (fun j hj hlj hjd => ?_), hdead i him]
          by_cases hji : j < i
          · exact hdis j hji hjd
          · by_cases hji2 : j = i
            · subst hji2; rw [hi0'] at hlj; cases hlj
            · obtain ⟨_, _, _, _, h5, _⟩ := hsp.op j hj
              exact h5 i (by omega) hjd.symm
        have hA : ∀ t ∈ o.looksAt all, Agree c s t := by
          intro t ht
          have hct : c.get t = s.get t := by
            by_cases hd : ∃ j, j < m ∧ dstAt all j = t
            · obtain ⟨j, hj, hjt⟩ := hd
              have := hedge j (hlook t ht j hj hjt).2
              rw [← hjt]
              exact h1 j hj this
            · have hnd : ∀ j, j < m → dstAt all j ≠ t := fun j hj e => hd ⟨j, hj, e⟩
              rw [hkeep t hnd, h2 t (fun j hj _ => hnd j hj)]
          refine ⟨hct, fun e he => ?_⟩
          have hroot := hI.ok t e (by rw [hct]; exact he)
          by_cases hd : ∃ j, j < m ∧ dstAt all j = e
          · obtain ⟨j, hj, hje⟩ := hd
            by_cases hlj : listed.getD j false = true
            · rw [← hje]; exact h1 j hj hlj
            · exfalso
              have hcdead : c.get (dstAt all j) = .dead := by
                rw [h2 _ (fun q hq hlq hqd => ?_), hdead j hj]
                by_cases hqj : q = j
                · subst hqj; exact hlj hlq
                · rcases Nat.lt_or_ge q j with h5 | h5
                  · obtain ⟨_, _, _, _, h6, _⟩ := hsp.op j hj
                    exact h6 q h5 hqd
                  · obtain ⟨_, _, _, _, h6, _⟩ := hsp.op q hq
                    exact h6 j (by omega) hqd.symm
              rw [← hje, hcdead] at hroot
              cases hroot
          · have hnd : ∀ j, j < m → dstAt all j ≠ e := fun j hj h => hd ⟨j, hj, h⟩
            rw [hkeep e hnd, h2 e (fun j hj _ => hnd j hj)]
        refine stepO_wp hL hG0 hM hI (hf c hA) fun a' w' hI' => ?_
        have hget := put_dead hcd (s.get (dstAt all i))
        refine ih (listed.setIfInBounds i true) _ a' w' (by simpa using hsz) hI' ?_ ?_ ?_ ?_
        · have hlt : ((unl all listed).filter fun j => j != i).length < (unl all listed).length := by
            rw [List.length_filter_lt_length_iff_exists]
            exact ⟨i, List.mem_filter.2 ⟨List.mem_range.2 hilt, by simpa using hi0'⟩, by simp⟩
          have heq : unl all (listed.setIfInBounds i true) = (unl all listed).filter fun j => j != i := by
            unfold unl
            rw [List.filter_filter]
            refine List.filter_congr fun j _ => ?_
            rw [hset j]
            by_cases hj : j = i <;> simp [hj]
          rw [heq]; omega
        · intro j hj hj2
          rw [hset j, if_neg (by omega)]
          exact hun j hj hj2
        · intro j hj hlj
          rw [hset j] at hlj
          rw [hget]
          by_cases hji : j = i
          · subst hji; rw [if_pos rfl]
          · rw [if_neg hji] at hlj
            have hne : dstAt all i ≠ dstAt all j := by
              rcases Nat.lt_or_ge j i with h5 | h5
              · exact fun e => hdis j h5 e.symm
              · obtain ⟨_, _, _, _, h6, _⟩ := hsp.op j hj
                exact h6 i (by omega)
            rw [if_neg hne]
            exact h1 j hj hlj
        · intro t ht
          rw [hget, if_neg (by have := ht i him (by rw [hset i, if_pos rfl]); exact this)]
          exact h2 t (fun j hj hlj => ht j hj (by rw [hset j]; split; rfl; exact hlj))
      · -- the last one
        rcases hsp.size with h3 | ⟨h3, o', ho', hall, _⟩
        · omega
        · obtain rfl : i = m := by omega
          rw [ho] at ho'
          injection ho' with ho'
          subst ho'
          rcases hlast with ⟨h4, _⟩ | ⟨_, o2, ho2, hstep⟩
          · omega
          · rw [ho] at ho2
            injection ho2 with ho2
            subst ho2
            have hl : ∀ j, j < i → listed.getD j false = true := fun j hj => hedge j (hall j hj)
            have hI' : Inv G W0 I0 n s a w := hI.ext (hext hl)
            refine stepO_wp hL hG0 hM hI' hstep fun a' w' hI2 => ?_
            refine all_listed (by simpa using hsz) (fun j hj => ?_) (hQ a' w' hI2) fuel
            rw [hset j]
            by_cases hji : j = i
            · rw [if_pos hji]
            · rw [if_neg hji]; exact hl j (by omega)
end
end Go.Proofs.Vm
