/- A part of the proof of the card: lemmas that the text with the card leans on (see there for what is proved, and under which conditions). -/
import Derived.Test.YtgjdionnbbnmpaaGreatDoorVmD
set_option linter.unusedVariables false
set_option linter.unusedSimpArgs false
namespace Go.Proofs.Vm
open Go Go.RowKit

theorem SV.namesAt_names {sv : SV} {d o : Nat} (h : sv.namesAt d o = true) : sv.names d = true := by
  cases sv <;> simp_all [SV.namesAt, SV.names]

section
variable {G : Glob} {W0 : Base} {I0 : Nat → Prop} {n : Nat} {I : Nat → Prop} {F : Nat → List Nat} {X : List Nat} {st : St} {a : Act} {w : World}

theorem InvX.others (h : InvX G W0 I0 n I F X st a w) {t : Nat} {sv : SV} {a' : Act} (ha : ∀ u, u ≠ t → a'.tmps[u]? = a.tmps[u]?) : ∀ u, u ≠ t → RepS w I (st.put t sv) a' u (F u) := by
  intro u hut
  have hr := h.rep u
  unfold RepS at hr ⊢
  rw [ha u hut, St.get_put, if_neg (fun e => hut e.symm)]
  cases hu : a.tmps[u]? with
  | none =>
    rw [hu] at hr
    simp only [hr.1, hr.2, ite_self, and_self]
  | some x =>
    rw [hu] at hr
    simp only
    by_cases hk : (st.get t).root = true ∧ (st.get u).names t = true
    · rw [if_pos hk]
      simp only [RepV]
      exact hr.names_nil hk.2
    · rw [if_neg hk]
      refine RepV.congr (fun _ _ => rfl) (fun _ _ => rfl) (fun d hd => ?_) hr
      have hdt : d ≠ t := by
        rintro rfl
        exact hk ⟨hr.names_root hd, hd⟩
      refine ⟨ha d hdt, ?_, fun _ _ _ => rfl⟩
      rw [St.get_put, if_neg (fun e => hdt e.symm), if_neg]
      rintro ⟨_, hn⟩
      have := SV.names_not_root hn
      rw [hr.names_root hd] at this
      cases this

/-- A slot is let go; what it owned is held back. -/
theorem InvX.drop (h : InvX G W0 I0 n I F X st a w) (t : Nat) : InvX G W0 I0 n I (fun u => if u = t then [] else F u) (F t ++ X) (st.put t .dead) a w where
  size := h.size
  defers := h.defers
  below := h.below
  glob := h.glob
  Ilt := h.Ilt
  Iold := h.Iold
  Inew := h.Inew
  rep := fun u => by
    by_cases hut : u = t
    · subst hut
      unfold RepS
      simp only [if_true]
      rw [St.get_put, if_pos rfl]
      cases a.tmps[u]? <;> simp [RepV]
    · simp only [hut, if_false]
      exact h.others (fun _ _ => rfl) u hut
  nodup := fun u => by
    show (if u = t then [] else F u).Nodup
    split
    · exact List.nodup_nil
    · exact h.nodup u
  apart := fun u s hus g hg hg' => by
    replace hg : g ∈ (if u = t then [] else F u) := hg
    replace hg' : g ∈ (if s = t then [] else F s) := hg'
    split at hg
    · simp at hg
    · split at hg'
      · simp at hg'
      · exact h.apart u s hus g hg hg'
  xnodup := List.nodup_append.2 ⟨h.nodup t, h.xnodup, fun g hg g' hg' e => h.xapart t g hg (e ▸ hg')⟩
  xapart := fun u g hg hX => by
    replace hg : g ∈ (if u = t then [] else F u) := hg
    split at hg
    · simp at hg
    · rename_i hut
      rcases List.mem_append.1 hX with hX | hX
      · exact h.apart u t hut g hg hX
      · exact h.xapart u g hg hX
  Fok := fun u g hg => by
    replace hg : g ∈ (if u = t then [] else F u) := hg
    split at hg
    · simp at hg
    · exact h.Fok u g hg
  Xok := fun g hg => by
    rcases List.mem_append.1 hg with hg | hg
    · exact ⟨(h.Fok t g hg).1, h.lt t g hg, (h.Fok t g hg).2⟩
    · exact h.Xok g hg

/-- Less is held back. -/
theorem InvX.less (h : InvX G W0 I0 n I F X st a w) {Y : List Nat} (hY : Y.Nodup) (hs : ∀ g ∈ Y, g ∈ X) : InvX G W0 I0 n I F Y st a w where
  size := h.size
  defers := h.defers
  below := h.below
  glob := h.glob
  Ilt := h.Ilt
  Iold := h.Iold
  Inew := h.Inew
  rep := h.rep
  nodup := h.nodup
  apart := h.apart
  xnodup := hY
  xapart := fun t g hg hgY => h.xapart t g hg (hs g hgY)
  Fok := h.Fok
  Xok := fun g hg => h.Xok g (hs g hg)

/-- One slot's tree turns, in place: its value stays; part Fc of its blocks turns into Fc'. -/
theorem InvX.refit (h : InvX G W0 I0 n I F X st a w) {d : Nat} {u : Value} (hu : a.tmps[d]? = some u) {F1 Fc F2 Fc' X' : List Nat} (hFd : F d = F1 ++ (Fc ++ F2))
    (hnd : (Fc' ++ X').Nodup) (hsub : ∀ g ∈ Fc' ++ X', g ∈ Fc ++ X) {w' : World} (hG : G w') (hb : Bel W0 w w') (hI : ∀ g, I g → w'.heap[g]? = w.heap[g]?)
    (hFo : ∀ t, t ≠ d → ∀ g ∈ F t, w'.heap[g]? = w.heap[g]?) {st' : St} (hsv : RepV w' I st' a (st'.get d) u (F1 ++ (Fc' ++ F2)))
    (hothers : ∀ t, t ≠ d → (st'.get t = .dead ∧ (st.get t).root = false ∧ F t = []) ∨ (st'.get t = st.get t ∧ ∀ o, (st.get t).namesAt d o = true → hdr w' u o = hdr w u o ∧
      ∀ e k rows, st.cell d o = some (.l (some e) k rows) → ∃ rows', st'.cell d o = some (.l (some e) k rows') ∧ rows'.length = rows.length))
    (hbox : ∀ T row, st.get d = .box T row → ∃ row', st'.get d = .box T row') :
    InvX G W0 I0 n I (fun t => if t = d then F1 ++ (Fc' ++ F2) else F t) X' st' a w' where
  size := h.size
  defers := h.defers
  below := h.below.trans hb
  glob := hG
  Ilt := fun g hg => Nat.lt_of_lt_of_le (h.Ilt g hg) hb.size
  Iold := h.Iold
  Inew := h.Inew
  rep := fun t => by
    by_cases htd : t = d
    · subst htd
      unfold RepS
      rw [hu]
      simp only [if_true]
      exact hsv
    · simp only [htd, if_false]
      have hr := h.rep t
      unfold RepS at hr ⊢
      rcases hothers t htd with ⟨h1, _, h2⟩ | ⟨h1, h2⟩
      · rw [h1, h2]
        cases a.tmps[t]? <;> simp [RepV]
      · rw [h1]
        cases ht : a.tmps[t]? with
        | none => rw [ht] at hr; exact hr
        | some x =>
          rw [ht] at hr
          simp only at hr ⊢
          have hget : ∀ e, (st.get t).names e = true → e ≠ d → st'.get e = st.get e := by
            intro e he hed
            have hroot := hr.names_root he
            rcases hothers e hed with ⟨_, g2, _⟩ | ⟨g1, _⟩
            · rw [g2] at hroot; cases hroot
            · exact g1
          by_cases hnd' : (st.get t).names d = true
          · -- it names d
            cases hv : st.get t with
            | ptr e off =>
              rw [hv] at hr hnd'
              obtain rfl : e = d := by simpa [SV.names] using hnd'
              simp only [RepV] at hr ⊢
              obtain ⟨h3, g, h4, h5, T, row, h6⟩ := hr
              exact ⟨h3, g, h4, h5, T, hbox T row h6⟩
            | al e off =>
              rw [hv] at hr hnd' h2
              obtain rfl : e = d := by simpa [SV.names] using hnd'
              simp only [RepV] at hr ⊢
              obtain ⟨h3, ⟨ud, h4, h5⟩, e', k, rows, h6⟩ := hr
              obtain ⟨h7, h8⟩ := h2 off (by simp [SV.namesAt])
              obtain rfl : u = ud := by rw [hu] at h4; injection h4
              obtain ⟨rows', h9, _⟩ := h8 _ _ _ h6
              exact ⟨h3, ⟨u, h4, h7.trans h5⟩, e', k, rows', h9⟩
            | eo e off i j =>
              rw [hv] at hr hnd' h2
              obtain rfl : e = d := by simpa [SV.names] using hnd'
              simp only [RepV] at hr ⊢
              obtain ⟨h3, ud, g, m, c, h4, h5, e', k, rows, h6, hi, hx⟩ := hr
              obtain ⟨h7, h8⟩ := h2 off (by simp [SV.namesAt])
              obtain rfl : u = ud := by rw [hu] at h4; injection h4
              obtain ⟨rows', h9, hlen⟩ := h8 _ _ _ h6
              exact ⟨h3, u, g, m, c, h4, h7.trans h5, e', k, rows', h9, by omega, hx⟩
            | dead => rw [hv] at hnd'; cases hnd'
            | val _ _ => rw [hv] at hnd'; cases hnd'
            | box _ _ => rw [hv] at hnd'; cases hnd'
            | ep _ _ => rw [hv] at hnd'; cases hnd'
            | tup _ => rw [hv] at hnd'; cases hnd'
            | fn _ _ => rw [hv] at hnd'; cases hnd'
          · refine RepV.congr hI (hFo t htd) (fun e he => ?_) hr
            have hed : e ≠ d := by rintro rfl; exact hnd' he
            exact ⟨rfl, hget e he hed, fun off ud hud => h.head (hr.names_root he) (hFo e hed) off ud hud⟩
  nodup := fun t => by
    show (if t = d then F1 ++ (Fc' ++ F2) else F t).Nodup
    split
    · have h0 := h.nodup d
      rw [hFd] at h0
      obtain ⟨n1, n23, n4⟩ := List.nodup_append.1 h0
      obtain ⟨n2, n3, n5⟩ := List.nodup_append.1 n23
      refine List.nodup_append.2 ⟨n1, List.nodup_append.2 ⟨(List.nodup_append.1 hnd).1, n3, ?_⟩, ?_⟩
      · intro g hg g' hg' e
        subst e
        rcases List.mem_append.1 (hsub g (by simp [hg])) with hh | hh
        · exact n5 g hh g hg' rfl
        · exact h.xapart d g (by rw [hFd]; simp [hg']) hh
      · intro g hg g' hg' e
        subst e
        rcases List.mem_append.1 hg' with hg' | hg'
        · rcases List.mem_append.1 (hsub g (by simp [hg'])) with hh | hh
          · exact n4 g hg g (by simp [hh]) rfl
          · exact h.xapart d g (by rw [hFd]; simp [hg]) hh
        · exact n4 g hg g (by simp [hg']) rfl
    · exact h.nodup t
  apart := fun t s hts g hg hg' => by
    replace hg : g ∈ (if t = d then F1 ++ (Fc' ++ F2) else F t) := hg
    replace hg' : g ∈ (if s = d then F1 ++ (Fc' ++ F2) else F s) := hg'
    have key : ∀ s, s ≠ d → g ∈ F s → g ∈ F1 ++ (Fc' ++ F2) → False := by
      intro s hsd hgs hgd
      have hx : g ∈ F d ∨ g ∈ X := by
        rcases List.mem_append.1 hgd with hh | hh
        · left; rw [hFd]; simp [hh]
        · rcases List.mem_append.1 hh with hh | hh
          · rcases List.mem_append.1 (hsub g (by simp [hh])) with hh | hh
            · left; rw [hFd]; simp [hh]
            · right; exact hh
          · left; rw [hFd]; simp [hh]
      rcases hx with hx | hx
      · exact h.apart s d hsd g hgs hx
      · exact h.xapart s g hgs hx
    by_cases h1 : t = d
    · rw [if_pos h1] at hg
      have h2 : s ≠ d := fun e => hts (h1.trans e.symm)
      rw [if_neg h2] at hg'
      exact key s h2 hg' hg
    · rw [if_neg h1] at hg
      by_cases h2 : s = d
      · rw [if_pos h2] at hg'
        exact key t h1 hg hg'
      · rw [if_neg h2] at hg'
        exact h.apart t s hts g hg hg'
  xnodup := (List.nodup_append.1 hnd).2.1
  xapart := fun t g hg hX => by
    replace hg : g ∈ (if t = d then F1 ++ (Fc' ++ F2) else F t) := hg
    have hx := hsub g (by simp [hX])
    split at hg
    · have h0 := h.nodup d
      rw [hFd] at h0
      obtain ⟨n1, n23, n4⟩ := List.nodup_append.1 h0
      obtain ⟨n2, n3, n5⟩ := List.nodup_append.1 n23
      rcases List.mem_append.1 hg with hg | hg
      · rcases List.mem_append.1 hx with hh | hh
        · exact n4 g hg g (by simp [hh]) rfl
        · exact h.xapart d g (by rw [hFd]; simp [hg]) hh
      · rcases List.mem_append.1 hg with hg | hg
        · exact (List.nodup_append.1 hnd).2.2 g hg g hX rfl
        · rcases List.mem_append.1 hx with hh | hh
          · exact n5 g hh g hg rfl
          · exact h.xapart d g (by rw [hFd]; simp [hg]) hh
    · rename_i htd
      rcases List.mem_append.1 hx with hh | hh
      · exact h.apart t d htd g hg (by rw [hFd]; simp [hh])
      · exact h.xapart t g hg hh
  Fok := fun t g hg => by
    replace hg : g ∈ (if t = d then F1 ++ (Fc' ++ F2) else F t) := hg
    split at hg
    · rcases List.mem_append.1 hg with hg | hg
      · exact h.Fok d g (by rw [hFd]; simp [hg])
      · rcases List.mem_append.1 hg with hg | hg
        · rcases List.mem_append.1 (hsub g (by simp [hg])) with hh | hh
          · exact h.Fok d g (by rw [hFd]; simp [hh])
          · exact ⟨(h.Xok g hh).1, (h.Xok g hh).2.2⟩
        · exact h.Fok d g (by rw [hFd]; simp [hg])
    · exact h.Fok t g hg
  Xok := fun g hg => by
    rcases List.mem_append.1 (hsub g (by simp [hg])) with hh | hh
    · have := h.Fok d g (by rw [hFd]; simp [hh])
      exact ⟨this.1, Nat.lt_of_lt_of_le (h.lt d g (by rw [hFd]; simp [hh])) hb.size, this.2⟩
    · have := h.Xok g hh
      exact ⟨this.1, Nat.lt_of_lt_of_le this.2.1 hb.size, this.2.2⟩
end
end Go.Proofs.Vm
