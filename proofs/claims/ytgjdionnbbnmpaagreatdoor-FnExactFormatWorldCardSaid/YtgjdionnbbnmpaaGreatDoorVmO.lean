/- A part of the proof of the card: lemmas that the text with the card leans on (see there for what is proved, and under which conditions). -/
import Derived.Test.YtgjdionnbbnmpaaGreatDoorVmN
set_option linter.unusedVariables false
set_option linter.unusedSimpArgs false
namespace Go.Proofs.Vm
open Go Go.RowKit

theorem rowsOwn_nil {w : World} {I : Nat → Prop} {k : Nat} : ∀ {rows : List (List C)} {vs : List Value} {F : List Nat}, rowsOwn rows = false → RepRs w I k rows vs F → F = []
  | [], vs, F, _, h => by simp only [RepRs] at h; exact h.2
  | r :: rs, vs, F, ho, h => by
    simp only [rowsOwn, Bool.or_eq_false_iff] at ho
    simp only [RepRs] at h
    obtain ⟨v1, v2, F1, F2, rfl, rfl, _, h1, h2⟩ := h
    rw [rowsOwn_nil ho.2 h2, rowOwn_nil ho.1 h1]
    rfl

theorem madeCells_add {z : Array Value} {k m : Nat} (hk : z.size = k) : (madeCells z (k + m)).toList = z.toList ++ (madeCells z m).toList := by
  apply List.ext_getElem?
  intro j
  by_cases hj : j < k + m
  · have e1 : (madeCells z (k + m)).toList[j]? = some (z[j % z.size]!) := by simp [madeCells, hj]
    rw [e1]
    by_cases hjk : j < k
    · rw [List.getElem?_append_left (by simp; omega)]
      have : j % z.size = j := Nat.mod_eq_of_lt (by omega)
      rw [this]
      simp [hk, hjk]
    · rw [List.getElem?_append_right (by simp; omega)]
      have e2 : j - z.toList.length = j - k := by simp [hk]
      rw [e2]
      have e3 : (madeCells z m).toList[j - k]? = some (z[(j - k) % z.size]!) := by
        have : j - k < m := by omega
        simp [madeCells, this]
      rw [e3]
      congr 2
      rw [hk]
      conv => lhs; rw [show j = (j - k) + k from by omega]
      rw [Nat.add_mod_right]
  · rw [List.getElem?_eq_none (by simp [madeCells]; omega), List.getElem?_eq_none (by simp [madeCells, hk]; omega)]
theorem made_rows {w : World} {I : Nat → Prop} {z : Array Value} {k : Nat} (hk : z.size = k) (hz : z.toList.all (·.oneCell') = true) : ∀ m, RepRs w I k (List.replicate m (z.toList.map .v)) (madeCells z (m * k)).toList []
  | 0 => by simp [RepRs, madeCells]
  | m + 1 => by
    rw [List.replicate_succ, Nat.add_mul, Nat.one_mul, Nat.add_comm, madeCells_add hk]
    simp only [RepRs]
    exact ⟨_, _, [], [], rfl, rfl, by simp [hk], flat_row w I hz, made_rows hk hz m⟩

section
variable {P : Program} {L : Lay} {G : Glob} {W0 : Base} {I0 : Nat → Prop} {n : Nat} {I : Nat → Prop} {F : Nat → List Nat} {X : List Nat} {st : St} {a : Act} {w : World}

theorem newsOf_spec (h : InvX G W0 I0 n I F X st a w) {k : Nat} {x : Operand} (hx : constOk x = true) {news : List (List C)} {st1 : St} (hn : newsOf st k x = some (news, st1)) :
    ∃ F1 Fn vs A c, InvX G W0 I0 n I F1 (Fn ++ X) st1 a w ∧ a.eval x = .slice A news.length c ∧ RepRs w I k news vs Fn ∧ (news = [] ∨ ∃ g off, A = some ⟨g, off, none⟩ ∧ w.rangeAt g off vs) := by
  unfold newsOf at hn
  split at hn
  · rename_i rows k' hl
    split at hn
    · rename_i hk
      simp only [Option.some.injEq, Prod.mk.injEq] at hn
      obtain ⟨rfl, rfl⟩ := hn
      obtain ⟨A, c, h1, h2, h3⟩ := list_imm h hl
      by_cases hr : rows = []
      · subst hr
        exact ⟨F, [], [], A, c, h, h1, by simp [RepRs], Or.inl rfl⟩
      · obtain ⟨g, off, vs, kk, h4, h5, _, h6, h7⟩ := h3 hr
        injection h4 with h4
        subst h4
        subst hk
        exact ⟨F, [], vs, A, c, h, h1, h7, Or.inr ⟨g, off, h5, h6⟩⟩
    · cases hn
  · rename_i rows hl
    simp only [Option.some.injEq, Prod.mk.injEq] at hn
    obtain ⟨rfl, rfl⟩ := hn
    obtain ⟨A, c, h1, h2, h3⟩ := list_imm h hl
    have hr : rows = [] := by
      by_cases hr : rows = []
      · exact hr
      · obtain ⟨_, _, _, _, h4, _⟩ := h3 hr
        cases h4
    subst hr
    exact ⟨F, [], [], A, c, h, h1, by simp [RepRs], Or.inl rfl⟩
  · rename_i d off e k' rows hl
    split at hn
    · rename_i hk
      split at hn
      · rename_i hro
        split at hn
        · rename_i e2 k2 rows' st1' htk
          split at hn
          · rename_i hk2
            simp only [Option.some.injEq, Prod.mk.injEq] at hn
            obtain ⟨rfl, rfl⟩ := hn
            obtain ⟨F1, F', h1, hr, _⟩ := h.take htk (constOk_spec hx)
            simp only [RepG, Bool.false_eq_true, if_false, RepR_single, RepC] at hr
            obtain ⟨vs, Fn, hrs, ho, hF'⟩ := hr
            subst hk2
            have h2 := h1.less (Y := Fn ++ X) (by
              have := h1.xnodup
              rw [hF', List.append_assoc] at this
              exact (List.nodup_append.1 this).2.1) (by intro g hg; rw [hF']; simp at hg ⊢; rcases hg with hg | hg <;> simp [hg])
            rcases ho.2 with ⟨hh, hnn⟩ | ⟨g', cap, cur, hh, _⟩
            · exact ⟨F1, Fn, vs, none, 0, h2, by rw [hh, hnn], hrs, Or.inl (List.eq_nil_of_length_eq_zero hnn)⟩
            · refine ⟨F1, Fn, vs, _, cap, h2, hh, hrs, Or.inr ⟨g', 0, rfl, ?_⟩⟩
              rw [hh] at ho
              exact ownsRow_range ho
          · cases hn
        · cases hn
      · rename_i hro
        simp only [Option.some.injEq, Prod.mk.injEq] at hn
        obtain ⟨rfl, rfl⟩ := hn
        subst hk
        obtain ⟨A, c, h1, h2⟩ := list_cells h (k := k') hl rfl
        obtain ⟨ud, uc, F1, Fc, F2, _, _, hr, _, he, _⟩ := list_own h hl
        simp only [RepC] at hr
        obtain ⟨vs0, F', hrs0, _, _⟩ := hr
        rcases h2 with h2 | ⟨g, off', vs, FF, h3, h4, h5⟩
        · simp only [LS.rows] at h2
          subst h2
          exact ⟨F, [], [], A, c, h, h1, by simp [RepRs], Or.inl rfl⟩
        · simp only [LS.rows] at h1 h5
          have hFF : FF = [] := rowsOwn_nil (by simpa using hro) h5
          subst hFF
          exact ⟨F, [], vs, A, c, h, h1, h5, Or.inr ⟨g, off', h3, h4⟩⟩
    · cases hn
  · cases hn

theorem grown_below {w w' : World} {row : Option Nat} {B : Base} (h : w.grownBy w' row) (hB : B.w.heap.size ≤ w.heap.size) (hr : ∀ g, row = some g → B.has g) : Bel B w w' :=
  (Bel.refl B w).grown h hB hr

variable (hL : L.ok P) (hGW : ∀ w', Bel W0 W0.w w' → G w')
include hL hGW
theorem ev_make (h : Inv G W0 I0 n st a w) {d : Nat} (hd : d < n) {T : TypeId} {x y : Operand} {st' : St} {p : Prop} (he : evMake L st d T x y = some (st', p)) (hp : p) :
    ∃ v w', (Instr.makeSlice T (a.eval x) (a.eval y)).run P w = .ok v w' ∧ Inv G W0 I0 n st' (a.put (some d) v) w' := by
  obtain ⟨I, F, h⟩ := h
  unfold evMake at he
  split at he
  · rename_i ti k1 m1 k2 m2 hti hx hy
    obtain ⟨i, dd, z, hs⟩ := hL.spec hti
    split at he
    · rename_i e hk
      split at he
      · rename_i te hte
        obtain ⟨i2, dd2, z2, hs2⟩ := hL.spec hte
        split at he
        · rename_i hc
          obtain ⟨hpos, hzl, hz⟩ := hc
          simp only [Option.some.injEq, Prod.mk.injEq] at he
          obtain ⟨rfl, rfl⟩ := he
          obtain ⟨h0, rfl, hby, hmx⟩ := hp
          obtain ⟨m, rfl⟩ := Int.eq_ofNat_of_zero_le h0
          rw [flat_spec h hx, flat_spec h hy]
          have hzc : z2.cells.size = te.size := by
            rw [← hzl, ← hs2.cells]; simp
          have hb : i2.bytes * m ≤ 281474976710656 := by
            rw [hs2.bytes, Nat.mul_comm]
            have : ((m * te.bytes : Nat) : Int) ≤ 281474976710656 := by rw [Int.natCast_mul]; exact hby
            exact Int.ofNat_le.1 this
          obtain ⟨w', hrun, hown, hgr⟩ := run_make_full (P := P) w 0 T e i2 z2 te.size (hs.slice hk) hs2.info hs2.zero hs2.size k1 k2 m hb (by simp only [maxLen]; omega) (Nat.zero_le _)
          refine ⟨_, w', hrun, ?_⟩
          have hgb : Bel W0 w w' := grown_below hgr h.below.size (by intro g hg; cases hg)
          have hsz : w.heap.size < w'.heap.size := by
            rcases hown.2 with ⟨hh, _⟩ | ⟨g', cap, cur, hh, _, hg, _⟩
            · cases hh
            · injection hh with hh
              injection hh with hh
              injection hh with hh _
              rw [hh]
              exact (Array.getElem?_eq_some_iff.1 hg).1
          have h2 := h.turn (w' := w') (X' := [w.heap.size]) (hGW _ (h.below.trans hgb)) hgb (fun g hg _ => hgr.block g hg (by simp)) (by simp) (by intro g hg; right; rw [List.mem_singleton.1 hg]; exact ⟨Nat.le_refl _, hsz⟩)
          refine InvX.put_val (F' := [w.heap.size]) (g := false) h2 hd ?_
          simp only [RepG, Bool.false_eq_true, if_false, RepR_single, RepC, List.length_replicate, Int.toNat_natCast]
          unfold zeroOk at hz
          rw [← hs2.cells] at hz ⊢
          exact ⟨_, [], made_rows hzc hz m, hown, rfl⟩
        · cases he
      · cases he
    · cases he
  · cases he

theorem ev_append (h : Inv G W0 I0 n st a w) {d : Nat} (hd : d < n) {T ty : TypeId} {s x : Operand} (hs : constOk s = true) (hx : constOk x = true) {st' : St} {p : Prop} (he : evAppend L st d T s x = some (st', p)) (hp : p) :
    ∃ v w', (Builtin.append_ #[T, T] ty #[a.eval s, a.eval x]).run P w = .ok v w' ∧ Inv G W0 I0 n st' (a.put (some d) v) w' := by
  obtain ⟨I, F, h⟩ := h
  unfold evAppend at he
  split at he
  · rename_i ti hti
    obtain ⟨i, dd, z, hst⟩ := hL.spec hti
    split at he
    · rename_i e hk
      split at he
      · rename_i te hte
        obtain ⟨i2, dd2, z2, hs2⟩ := hL.spec hte
        split at he
        · cases he
        · rename_i hsz
          have hsz1 : te.size ≠ 0 := fun e => hsz (Or.inl e)
          have hsz2 : te.zero.length = te.size := by
            by_cases hh : te.zero.length = te.size
            · exact hh
            · exact absurd (Or.inr hh) hsz
          split at he
          · rename_i news st1 hnews
            obtain ⟨F1, Fn, vs, A, c, h1, hxv, hnr, hA⟩ := newsOf_spec h hx hnews
            have key : ∀ {olds : List (List C)} {st2 : St} {F2 : Nat → List Nat} {Fs Fo : List Nat} {vo : List Value}, InvX G W0 I0 n I F2 (Fs ++ (Fn ++ [])) st2 a w → w.ownsRow 0 e te.size (a.eval s) olds.length vo → RepRs w I te.size olds vo Fo → Fs = (a.eval s).ownBlock.toList ++ Fo →
                (olds.length + news.length) * te.bytes ≤ 140737488355328 → olds.length + news.length ≤ 9223372036854775807 →
                ∃ v w', (Builtin.append_ #[T, T] ty #[a.eval s, a.eval x]).run P w = .ok v w' ∧ Inv G W0 I0 n (st2.put d (.val false [.l (some e) te.size (olds ++ news)])) (a.put (some d) v) w' := by
              intro olds st2 F2 Fs Fo vo h2 hown hor hFs hb hm
              have hvl := hnr.length
              have hrun : ∃ v' w', (Builtin.append_ #[T, T] ty #[a.eval s, a.eval x]).run P w = .ok v' w' ∧ w'.ownsRow 0 e te.size v' (olds.length + news.length) (vo ++ vs) ∧ w.grownBy w' (a.eval s).ownBlock ∧ (v'.ownBlock = (a.eval s).ownBlock ∨ (v'.ownBlock = some w.heap.size)) := by
                rw [hxv]
                have some_case : ∀ aa, A = some aa → (∀ j u, vs[j]? = some u → w.cell? (aa.add j) = some u) → ∃ v' w', (Builtin.append_ #[T, T] ty #[a.eval s, .slice A news.length c]).run P w = .ok v' w' ∧ w'.ownsRow 0 e te.size v' (olds.length + news.length) (vo ++ vs) ∧ w.grownBy w' (a.eval s).ownBlock ∧ (v'.ownBlock = (a.eval s).ownBlock ∨ (v'.ownBlock = some w.heap.size)) := by
                  rintro aa rfl hcells
                  obtain ⟨v', w', g1, g2, g3, _, g4⟩ := run_append_own_at (P := P) w 0 T ty e i2 z2 te.size te.bytes (hst.slice hk) hs2.info hs2.zero hs2.size hs2.bytes (by rw [← hsz2, ← hs2.cells]; simp) (by omega) (a.eval s) olds.length vo hown aa news.length c vs hvl hcells hnr.one (by simp only [maxLen]; omega) hb (Nat.zero_le _)
                  exact ⟨v', w', g1, g2, g3, g4⟩
                rcases hA with hA | ⟨g, off, rfl, hra⟩
                · subst hA
                  have hvs : vs = [] := by simpa using hvl
                  subst hvs
                  cases A with
                  | some aa => exact some_case aa rfl (by simp)
                  | none =>
                    refine ⟨a.eval s, w, ?_, by simpa using hown, ⟨rfl, rfl, rfl, Nat.le_refl _, fun _ _ _ => rfl⟩, Or.inl rfl⟩
                    rcases hown.2 with ⟨hh, _⟩ | ⟨g', cap, cur, hh, _, _, hnc, _⟩
                    · rw [hh]
                      simp [Builtin.append_, run_underlying (hst.slice hk), sizeOf, typeInfo, hs2.info, Builtin.lenOf, Builtin.firstCells]
                    · rw [hh]
                      simp [Builtin.append_, run_underlying (hst.slice hk), sizeOf, typeInfo, hs2.info, Builtin.lenOf, Builtin.firstCells, hnc, storeCells]
                · exact some_case _ rfl (fun j u hj => by rw [Addr.add_mid]; exact hra j u hj)
              obtain ⟨v', w', hrun, hown', hgr, hbl⟩ := hrun
              refine ⟨v', w', hrun, ?_⟩
              have hXb : ∀ g, (a.eval s).ownBlock = some g → g ∈ Fs ++ (Fn ++ []) := by intro g hg; rw [hFs, hg]; simp
              have hgb : Bel W0 w w' := grown_below hgr h.below.size (fun g hg => (h2.Xok g (hXb g hg)).1)
              have hxn := h2.xnodup
              rw [hFs, List.append_nil, List.append_assoc] at hxn
              obtain ⟨_, hn2, hn3⟩ := List.nodup_append.1 hxn
              have hmem : ∀ g ∈ Fo ++ Fn, g ∈ Fs ++ (Fn ++ []) := by
                intro g hg
                rw [hFs]
                simp at hg ⊢
                rcases hg with hg | hg <;> simp [hg]
              have hstay : ∀ g ∈ Fo ++ Fn, w'.heap[g]? = w.heap[g]? := by
                intro g hg
                refine hgr.block g (h2.Xok g (hmem g hg)).2.1 (fun e => ?_)
                exact hn3 g (by rw [← e]; simp) g hg rfl
              have hI : ∀ g, I g → w'.heap[g]? = w.heap[g]? := by
                intro g hg
                refine hgr.block g (h.Ilt g hg) (fun e => ?_)
                exact (h2.Xok g (hXb g e.symm)).2.2 hg
              have hlt' : ∀ g, v'.ownBlock = some g → g < w'.heap.size := by
                intro g hg
                rcases hown'.2 with ⟨hh, _⟩ | ⟨g', cap, cur, hh, _, hg', _⟩
                · rw [hh] at hg; cases hg
                · rw [hh] at hg
                  simp only [Value.ownBlock, Option.some.injEq] at hg
                  subst hg
                  exact (Array.getElem?_eq_some_iff.1 hg').1
              have h3 := h2.turn (w' := w') (X' := v'.ownBlock.toList ++ (Fo ++ Fn)) (hGW _ (h.below.trans hgb)) hgb (fun g hg hgX => hgr.block g hg (fun e => hgX (hXb g e.symm)))
                (by
                  rcases hbl with hbl | hbl
                  · rw [hbl]; exact hxn
                  · rw [hbl]
                    simp only [Option.toList_some, List.singleton_append]
                    refine List.nodup_cons.2 ⟨fun hh => ?_, hn2⟩
                    have := (h2.Xok _ (hmem _ hh)).2.1
                    omega)
                (by
                  intro g hg
                  rcases List.mem_append.1 hg with hg | hg
                  · rcases hbl with hbl | hbl
                    · left; rw [hbl] at hg; exact hXb g (by simpa using hg)
                    · right
                      rw [hbl] at hg
                      obtain rfl : g = w.heap.size := by simpa using hg
                      exact ⟨Nat.le_refl _, hlt' _ hbl⟩
                  · left; exact hmem g hg)
              refine InvX.put_val (F' := v'.ownBlock.toList ++ (Fo ++ Fn)) (g := false) (by simpa using h3) hd ?_
              simp only [RepG, Bool.false_eq_true, if_false, RepR_single, RepC, List.length_append]
              refine ⟨vo ++ vs, Fo ++ Fn, RepRs_append.2 ⟨vo, vs, Fo, Fn, rfl, rfl, ?_, ?_⟩, hown', rfl⟩
              · exact RepRs.move hI _ _ _ _ (fun g hg => hstay g (by simp [hg])) hor
              · exact RepRs.move hI _ _ _ _ (fun g hg => hstay g (by simp [hg])) hnr
            split at he
            · rename_i e' k olds st2 hts
              split at he
              · rename_i hc
                obtain ⟨rfl, rfl⟩ := hc
                simp only [Option.some.injEq, Prod.mk.injEq] at he
                obtain ⟨rfl, rfl⟩ := he
                obtain ⟨F2, Fs, h2, hr, _⟩ := h1.take hts (constOk_spec hs)
                simp only [RepG, Bool.false_eq_true, if_false, RepR_single, RepC] at hr
                obtain ⟨vo, Fo, hor, hown, hFs⟩ := hr
                exact key h2 hown hor hFs hp.1 hp.2
              · cases he
            · rename_i st2 hts
              simp only [Option.some.injEq, Prod.mk.injEq] at he
              obtain ⟨rfl, rfl⟩ := he
              obtain ⟨F2, Fs, h2, hr, _⟩ := h1.take hts (constOk_spec hs)
              simp only [RepG, Bool.false_eq_true, if_false, RepR_single, RepC] at hr
              obtain ⟨hv, _, rfl⟩ := hr
              have hh := key (olds := []) (Fs := []) (Fo := []) (vo := []) h2 (by rw [hv]; exact ⟨by simp, Or.inl ⟨rfl, rfl⟩⟩) (by simp [RepRs]) (by rw [hv]; rfl) (by simpa using hp.1) (by simpa using hp.2)
              simpa using hh
            · cases he
          · cases he
      · cases he
    · cases he
  · cases he
end
end Go.Proofs.Vm
