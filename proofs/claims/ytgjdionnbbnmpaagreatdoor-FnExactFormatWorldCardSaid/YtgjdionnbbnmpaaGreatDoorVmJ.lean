/- A part of the proof of the card: lemmas that the text with the card leans on (see there for what is proved, and under which conditions). -/
import Derived.Test.YtgjdionnbbnmpaaGreatDoorVmI
set_option linter.unusedVariables false
set_option linter.unusedSimpArgs false
namespace Go.Proofs.Vm
open Go Go.RowKit

theorem setCell_heap_same {w : World} {g o : Nat} {cs : Array Value} {T : TypeId} {fr : Nat × Nat} (hg : w.heap[g]? = some (.cells cs T fr)) (v : Value) :
    (w.setCell ⟨g, o, none⟩ v).heap[g]? = some (.cells (cs.setIfInBounds o v) T fr) := by
  simp [World.setCell, Array.getElem?_modify, hg]
theorem setCells_heap_other {w : World} {g : Nat} (k : Nat) (hk : k ≠ g) : ∀ (vs : List Value) (o : Nat) (w : World), (w.setCells g o vs).heap[k]? = w.heap[k]?
  | [], o, w => rfl
  | v :: r, o, w => by
    rw [World.setCells, setCells_heap_other (w := w) k hk r]
    exact Below.heap_setCell w _ v k hk
theorem setCells_below {g : Nat} (B : Base) (hB : B.has g) : ∀ (vs : List Value) (o : Nat) (w : World), Bel B w (w.setCells g o vs)
  | [], o, w => Bel.refl _ _
  | v :: r, o, w => by
    rw [World.setCells]
    exact ((Bel.refl B w).setCell (p := ⟨g, o, none⟩) hB v).trans (setCells_below B hB r (o + 1) _)
theorem setCells_heap_same {g : Nat} {T : TypeId} {fr : Nat × Nat} : ∀ (vs : List Value) (o : Nat) (w : World) (cs : Array Value), w.heap[g]? = some (.cells cs T fr) → o + vs.length ≤ cs.size →
    (w.setCells g o vs).heap[g]? = some (.cells (cs.toList.take o ++ (vs ++ cs.toList.drop (o + vs.length))).toArray T fr)
  | [], o, w, cs, hg, _ => by
    simp only [World.setCells, List.nil_append, List.length_nil, Nat.add_zero, List.take_append_drop]
    exact hg
  | v :: r, o, w, cs, hg, hl => by
    rw [World.setCells]
    have h1 := setCell_heap_same (o := o) hg v
    have hl' : o < cs.size := by simp at hl; omega
    rw [setCells_heap_same r (o + 1) _ _ h1 (by simp at hl ⊢; omega)]
    congr 2
    have e1 : (cs.setIfInBounds o v).toList = cs.toList.set o v := by simp
    rw [e1]
    have e2 : (cs.toList.set o v).take (o + 1) = cs.toList.take o ++ [v] := by
      rw [List.take_set, List.take_add_one, List.set_append]
      simp [hl', List.length_take, Nat.min_eq_left (Nat.le_of_lt hl')]
    have e3 : (cs.toList.set o v).drop (o + 1 + r.length) = cs.toList.drop (o + (v :: r).length) := by
      rw [List.drop_set_of_lt (by omega)]
      congr 1
      simp; omega
    rw [e2, e3]
    simp

section
variable {P : Program}
theorem run_storeAt_any (w : World) (b o : Nat) (ty : TypeId) (v : Value) (ht : w.there b o v.cells.size) (hi : (P.info? ty).map (·.size) = some v.cells.size) (h1 : ∀ u ∈ v.cells.toList, u.oneCell' = true) :
    (Instr.storeAt ty (.pointer (some ⟨b, o, none⟩)) v).run P w = .ok () (w.setCells b o v.cells.toList) := by
  have := run_storeCells_cells (P := P) b o v.cells.toList 0 w (fun j hj => by simpa using (ht j (by simpa using hj)).1) (fun j hj => by simpa using (ht j (by simpa using hj)).2) h1
  cases hq : P.info? ty with
  | none => simp [hq] at hi
  | some i =>
    have hs : v.cells.size = i.size := by simp [hq] at hi; omega
    simp only [Nat.add_zero] at this
    simp [Instr.storeAt, Instr.sureAddr, storeVar, sizeOf, typeInfo, hq, hs, this]
end

theorem there_of_block {w : World} {g : Nat} {cs : Array Value} {T : TypeId} (hg : w.heap[g]? = some (.cells cs T (0, 0))) {o m : Nat} (h : o + m ≤ cs.size) : w.there g o m := fun j hj => by
  refine ⟨?_, frozen_of_row w g _ cs T hg⟩
  rw [cell_of_row w g _ _ _ _ hg]
  simp [show o + j < cs.size from by omega]

theorem RepG.agg_of {w : World} {I : Nat → Prop} {g : Bool} {row : List C} {u : Value} {F : List Nat} (h : RepG w I g row u F) : u.cells.size = row.length := by
  have := h.cells.length
  simpa using this

theorem killSeg_get (d off : Nat) : ∀ (m : Nat) (st : St) (u : Nat), (St.killSeg d off m st).get u = if ∃ j, j < m ∧ (st.get u).namesAt d (off + j) = true then .dead else st.get u
  | 0, st, u => by simp [St.killSeg]
  | m + 1, st, u => by
    rw [St.killSeg, St.get_killAt, killSeg_get d off m st u]
    by_cases h : ∃ j, j < m ∧ (st.get u).namesAt d (off + j) = true
    · have h2 : ∃ j, j < m + 1 ∧ (st.get u).namesAt d (off + j) = true := h.elim fun j hj => ⟨j, by omega, hj.2⟩
      simp only [if_pos h, if_pos h2]
      simp [SV.namesAt]
    · rw [if_neg h]
      by_cases h2 : (st.get u).namesAt d (off + m) = true
      · rw [if_pos h2, if_pos ⟨m, by omega, h2⟩]
      · rw [if_neg h2, if_neg]
        rintro ⟨j, hj, hn⟩
        by_cases hjm : j = m
        · subst hjm; exact h2 hn
        · exact h ⟨j, by omega, hn⟩

theorem splice_out {row : List C} {off : Nat} {new : List C} {o : Nat} (hl : off + new.length ≤ row.length) (h : o < off ∨ off + new.length ≤ o) : (splice row off new)[o]? = row[o]? := by
  unfold splice
  rcases h with h | h
  · rw [List.getElem?_append_left (by simp; omega), List.getElem?_take, if_pos h]
  · rw [List.getElem?_append_right (by simp; omega), List.getElem?_append_right (by simp; omega), List.getElem?_drop]
    congr 1
    simp only [List.length_take]
    omega
theorem splice_length {row : List C} {off : Nat} {new : List C} (hl : off + new.length ≤ row.length) : (splice row off new).length = row.length := by
  unfold splice
  simp only [List.length_append, List.length_take, List.length_drop]
  omega

/-- A row with new cells in its middle. -/
theorem RepR_splice {w w' : World} {I : Nat → Prop} {row : List C} {vs : List Value} {F : List Nat} (h : RepR w I row vs F) {off : Nat} {new : List C} {nv : List Value} {F' : List Nat} (hl : off + new.length ≤ row.length) :
    ∃ A B D, F = A ++ (B ++ D) ∧ ((∀ g, I g → w'.heap[g]? = w.heap[g]?) → (∀ g ∈ A ++ D, w'.heap[g]? = w.heap[g]?) → RepR w' I new nv F' → RepR w' I (splice row off new) (vs.take off ++ (nv ++ vs.drop (off + new.length))) (A ++ (F' ++ D))) := by
  obtain ⟨v1, v2, v3, F1, F2, F3, rfl, rfl, hl1, hl2, h1, h2, h3⟩ := RepR_mid h off new.length hl
  refine ⟨F1, F2, F3, rfl, fun hI hF hn => ?_⟩
  unfold splice
  have e1 : (v1 ++ (v2 ++ v3)).take off = v1 := by rw [← hl1]; exact List.take_left
  have e2 : (v1 ++ (v2 ++ v3)).drop (off + new.length) = v3 := by
    rw [← List.append_assoc, ← hl1, ← hl2, ← List.length_append]; exact List.drop_left
  rw [e1, e2]
  exact RepR_append.2 ⟨v1, nv ++ v3, F1, F' ++ F3, rfl, rfl, RepR.move hI _ _ _ (fun g hg => hF g (by simp [hg])) h1, RepR_append.2 ⟨nv, v3, F', F3, rfl, rfl, hn, RepR.move hI _ _ _ (fun g hg => hF g (by simp [hg])) h3⟩⟩

section
variable {P : Program} {L : Lay} (hL : L.ok P) {G : Glob} {W0 : Base} (hGW : ∀ w', Bel W0 W0.w w' → G w') {I0 : Nat → Prop} {n : Nat} {st : St} {a : Act} {w : World}
include hL hGW
theorem ev_store (h : Inv G W0 I0 n st a w) {T : TypeId} {x y : Operand} (hy : constOk y = true) {st' : St} {p : Prop} (he : evStore L st T x y = some (st', p)) (hp : p) :
    ∃ w', (Instr.storeAt T (a.eval x) (a.eval y)).run P w = .ok () w' ∧ Inv G W0 I0 n st' a w' := by
  obtain ⟨I, F, h⟩ := h
  cases x with
  | tmp t =>
    simp only [evStore] at he
    split at he
    · rename_i ti g row st1 hti htk
      obtain ⟨i, dd, z, hs⟩ := hL.spec hti
      obtain ⟨F1, F', h1, hr, _⟩ := h.take htk (constOk_spec hy)
      split at he
      · rename_i hcond
        obtain ⟨hsz, _⟩ := hcond
        have hcs : (a.eval y).cells.size = row.length := hr.agg_of
        have hnr : RepR w I row (a.eval y).cells.toList F' := hr.cells
        have hinfo : (P.info? T).map (·.size) = some (a.eval y).cells.size := by rw [hs.info, hcs, hsz]; simp [hs.size]
        split at he
        · -- into a box
          rename_i e off hpt
          split at he
          · rename_i T' old hbx
            split at he
            · rename_i hlen
              simp only [Option.some.injEq, Prod.mk.injEq] at he
              obtain ⟨rfl, rfl⟩ := he
              have hpv := pt_value h1 hpt
              simp only [RepV] at hpv
              obtain ⟨_, g0, hte, hv, _⟩ := hpv
              have hbox := h1.at hte
              rw [hbx] at hbox
              simp only [RepV] at hbox
              obtain ⟨g1, vs, Fo, hgg, hg, hrr, hFe⟩ := hbox
              injection hgg with hgg
              injection hgg with hgg
              injection hgg with hgg _
              subst hgg
              have hvl : vs.length = old.length := hrr.length
              have hthere : w.there g0 off (a.eval y).cells.size := there_of_block hg (by simp; omega)
              have hrun := run_storeAt_any (P := P) w g0 off T (a.eval y) hthere hinfo (fun u hu => hnr.one u hu)
              rw [hv]
              refine ⟨_, hrun, ?_⟩
              generalize hnv : (a.eval y).cells.toList = nv at *
              have hnl : nv.length = row.length := by rw [← hnv]; simpa using hcs
              generalize hw' : w.setCells g0 off nv = w'
              have hother : ∀ k, k ≠ g0 → w'.heap[k]? = w.heap[k]? := fun k hk => by rw [← hw']; exact setCells_heap_other (w := w) k hk nv off w
              have hsame : w'.heap[g0]? = some (.cells (vs.take off ++ (nv ++ vs.drop (off + row.length))).toArray T' (0, 0)) := by
                rw [← hw', setCells_heap_same nv off w _ hg (by simp; omega)]
                simp [hnl]
              have hbase : W0.has g0 := (h1.Fok e g0 (by rw [hFe]; simp)).1
              have hnI : ∀ k, I k → k ≠ g0 := by rintro k hk rfl; exact (h1.Fok e k (by rw [hFe]; simp)).2 hk
              have hnd := h1.nodup e
              rw [hFe] at hnd
              have hnd0 := (List.nodup_cons.1 hnd).1
              have hFo : ∀ k ∈ Fo, k ≠ g0 := by rintro k hk rfl; exact hnd0 hk
              have hF'g : ∀ k ∈ F', k ≠ g0 := by rintro k hk rfl; exact h1.xapart e k (by rw [hFe]; simp) (by simp [hk])
              have hI' : ∀ k, I k → w'.heap[k]? = w.heap[k]? := fun k hk => hother k (hnI k hk)
              obtain ⟨A, B, D, hABD, hspl⟩ := RepR_splice (w' := w') hrr (off := off) (new := row) (nv := nv) (F' := F') (by omega)
              have hnew := hspl hI' (fun k hk => hother k (hFo k (by rw [hABD]; simp at hk ⊢; rcases hk with hk | hk <;> simp [hk]))) (RepR.move hI' row nv F' (fun k hk => hother k (hF'g k hk)) hnr)
              have hb : Bel W0 w w' := by rw [← hw']; exact setCells_below _ hbase nv off w
              refine ⟨I, _, h1.refit (Fc := B) (Fc' := F') (X' := []) (F1 := g0 :: A) (F2 := D) hte (by rw [hFe, hABD]; simp) h1.xnodup (by intro k hk; simp at hk ⊢; exact Or.inr hk) (hGW _ (h1.below.trans hb)) hb hI' ?_ ?_ ?_ ?_⟩
              · intro s hs' k hk
                exact hother k (by rintro rfl; exact h1.apart s e hs' k hk (by rw [hFe]; simp))
              · rw [St.get_set, if_pos rfl]
                simp only [RepV]
                exact ⟨g0, _, A ++ (F' ++ D), rfl, hsame, hnew, by simp⟩
              · intro s hse
                rw [St.get_set, if_neg (fun e' => hse e'.symm), killSeg_get]
                by_cases hk : ∃ j, j < row.length ∧ (st1.get s).namesAt e (off + j) = true
                · left
                  rw [if_pos hk]
                  obtain ⟨j, _, hn⟩ := hk
                  refine ⟨rfl, SV.names_not_root (SV.namesAt_names hn), ?_⟩
                  have h3 := h1.rep s
                  unfold RepS at h3
                  cases hx : a.tmps[s]? with
                  | none => rw [hx] at h3; exact h3.2
                  | some y' => rw [hx] at h3; exact h3.namesAt_nil hn
                · right
                  rw [if_neg hk]
                  refine ⟨rfl, fun o ho => ?_⟩
                  have hout : o < off ∨ off + row.length ≤ o := by
                    by_cases h4 : o < off
                    · exact Or.inl h4
                    · by_cases h5 : off + row.length ≤ o
                      · exact Or.inr h5
                      · exact absurd ⟨o - off, by omega, by rw [show off + (o - off) = o from by omega]; exact ho⟩ hk
                  constructor
                  · simp only [hdr]
                    rw [← hw']
                    exact World.cell?_setCells_out g0 nv off w ⟨g0, o, none⟩ (fun _ _ => by simp only; omega)
                  · intro e' k rows hc
                    refine ⟨rows, ?_, rfl⟩
                    unfold St.cell at hc ⊢
                    rw [hbx] at hc
                    rw [St.get_set, if_pos rfl]
                    simp only at hc ⊢
                    rw [splice_out hlen hout]
                    exact hc
              · intro T2 row2 hb2
                rw [St.get_set, if_pos rfl]
                rw [hbx] at hb2
                injection hb2 with hb2 _
                subst hb2
                exact ⟨_, rfl⟩
            · cases he
          · cases he
        · -- into an element of an own list
          rename_i e off i' j hpt
          split at he
          · rename_i el k rows hcell
            simp only [Option.some.injEq, Prod.mk.injEq] at he
            obtain ⟨rfl, rfl⟩ := he
            have hpv := pt_value h1 hpt
            simp only [RepV] at hpv
            obtain ⟨_, ud, gl, m, c, hte, hh, el2, k2, rows2, hcell2, hi, hv⟩ := hpv
            rw [hcell] at hcell2
            injection hcell2 with hcell2
            injection hcell2 with he2 hk2 hr2
            injection he2 with he2
            subst he2; subst hk2; subst hr2
            have hat := h1.at hte
            obtain ⟨uc, A, Fc, D, hFd, hrc, hhd, hbx, hnp, hfit⟩ := hat.focus (off := off) (e := el) (k := k) (rows := rows) (by unfold St.cell at hcell; cases hsd : st1.get e <;> rw [hsd] at hcell <;> first | (simp at hcell; done) | simpa using hcell)
            obtain rfl : uc = .slice (some ⟨gl, 0, none⟩) m c := by rw [hh] at hhd; injection hhd with hhd; exact hhd.symm
            simp only [RepC] at hrc
            obtain ⟨vs, Fr, hrs, hown, hFc⟩ := hrc
            rcases hown.2 with ⟨hn, _⟩ | ⟨g', cap, cur, hn, _, hgl, hnc, hcm, hcs2, htake⟩
            · cases hn
            · injection hn with hn1 hn2 hn3
              injection hn1 with hn1
              injection hn1 with hn1 _
              subst hn1
              subst hn2
              subst hn3
              have hvl := hrs.length
              obtain ⟨v1, v2, v3, G1, G2, G3, hvs, hFr, hl1, hl2, hk, hr1', hr2', hr3'⟩ := RepRs_at hrs i' hi
              have hik : i' * k + k ≤ rows.length * k := by
                have : (i' + 1) * k ≤ rows.length * k := Nat.mul_le_mul_right k hi
                rw [Nat.add_mul, Nat.one_mul] at this
                exact this
              have hcapk : rows.length * k ≤ c * k := Nat.mul_le_mul_right k hnc
              have hthere : w.there gl (i' * k + j) (a.eval y).cells.size := there_of_block hgl (by rw [hcs, hcs2]; omega)
              have hrun := run_storeAt_any (P := P) w gl (i' * k + j) T (a.eval y) hthere hinfo (fun u hu => hnr.one u hu)
              rw [hv]
              refine ⟨_, hrun, ?_⟩
              generalize hnv : (a.eval y).cells.toList = nv at *
              have hnl : nv.length = row.length := by rw [← hnv]; simpa using hcs
              generalize hw' : w.setCells gl (i' * k + j) nv = w'
              have hother : ∀ q, q ≠ gl → w'.heap[q]? = w.heap[q]? := fun q hq => by rw [← hw']; exact setCells_heap_other (w := w) q hq nv _ w
              have hsame : w'.heap[gl]? = some (.cells (cur.toList.take (i' * k + j) ++ (nv ++ cur.toList.drop (i' * k + j + row.length))).toArray el (0, 0)) := by
                rw [← hw', setCells_heap_same nv _ w _ hgl (by rw [hcs2]; omega), hnl]
              have hglF : gl ∈ F1 e := by rw [hFd, hFc]; simp [Value.ownBlock]
              have hbase : W0.has gl := (h1.Fok e gl hglF).1
              have hnI : ∀ q, I q → q ≠ gl := by rintro q hq rfl; exact (h1.Fok e q hglF).2 hq
              have hnd := h1.nodup e
              rw [hFd] at hnd
              obtain ⟨n1, n23, n4⟩ := List.nodup_append.1 hnd
              obtain ⟨n2, n3, n5⟩ := List.nodup_append.1 n23
              have hglc : gl ∈ Fc := by rw [hFc]; simp [Value.ownBlock]
              have hA : ∀ q ∈ A, q ≠ gl := by rintro q hq rfl; exact n4 q hq q (by simp [hglc]) rfl
              have hD : ∀ q ∈ D, q ≠ gl := by rintro q hq rfl; exact n5 q hglc q hq rfl
              have hFrg : ∀ q ∈ Fr, q ≠ gl := by
                rintro q hq rfl
                rw [hFc] at n2
                exact (List.nodup_append.1 n2).2.2 q (by simp [Value.ownBlock]) q hq rfl
              have hF'g : ∀ q ∈ F', q ≠ gl := by rintro q hq rfl; exact h1.xapart e q hglF (by simp [hq])
              have hI' : ∀ q, I q → w'.heap[q]? = w.heap[q]? := fun q hq => hother q (hnI q hq)
              have hb : Bel W0 w w' := by rw [← hw']; exact setCells_below _ hbase nv _ w
              obtain ⟨H1, H2, H3, hH, hspl⟩ := RepR_splice (w' := w') hr2' (off := j) (new := row) (nv := nv) (F' := F') (by omega)
              have hrow := hspl hI' (fun q hq => hother q (hFrg q (by rw [hFr, hH]; simp at hq ⊢; rcases hq with hq | hq <;> simp [hq]))) (RepR.move hI' row nv F' (fun q hq => hother q (hF'g q hq)) hnr)
              have hrows := RepRs_set (w := w') (I := I) hi (by rw [splice_length (by omega)]; exact hk) (RepRs.move hI' k _ v1 G1 (fun q hq => hother q (hFrg q (by rw [hFr]; simp [hq]))) hr1') hrow (RepRs.move hI' k _ v3 G3 (fun q hq => hother q (hFrg q (by rw [hFr]; simp [hq]))) hr3')
              have hcl : cur.toList = vs ++ cur.toList.drop (rows.length * k) := by
                have := List.take_append_drop (rows.length * k) cur.toList
                rw [htake] at this
                exact this.symm
              have hlist : w'.ownsRow 0 el k (.slice (some ⟨gl, 0, none⟩) rows.length c) rows.length (v1 ++ ((v2.take j ++ (nv ++ v2.drop (j + row.length))) ++ v3)) := by
                refine ⟨?_, Or.inr ⟨gl, c, _, rfl, Nat.zero_le _, hsame, hnc, hcm, ?_, ?_⟩⟩
                · rw [hvs] at hvl
                  simp only [List.length_append, List.length_take, List.length_drop] at hvl ⊢
                  omega
                · have : cur.toList.length = c * k := by simpa using hcs2
                  simp only [List.size_toArray, List.length_append, List.length_take, List.length_drop]
                  omega
                · simp only [List.toList_toArray]
                  have ea : cur.toList.take (i' * k + j) = v1 ++ v2.take j := by
                    rw [hcl, hvs, List.append_assoc, ← hl1, List.take_length_add_append, List.append_assoc, List.take_append_of_le_length (by omega)]
                  have eb : cur.toList.drop (i' * k + j + row.length) = v2.drop (j + row.length) ++ (v3 ++ cur.toList.drop (rows.length * k)) := by
                    conv => lhs; rw [hcl, hvs]
                    rw [List.append_assoc, Nat.add_assoc, ← hl1, List.drop_length_add_append, List.append_assoc, List.drop_append_of_le_length (by omega)]
                  rw [ea, eb]
                  have ec : v1 ++ v2.take j ++ (nv ++ (v2.drop (j + row.length) ++ (v3 ++ cur.toList.drop (rows.length * k)))) = (v1 ++ ((v2.take j ++ (nv ++ v2.drop (j + row.length))) ++ v3)) ++ cur.toList.drop (rows.length * k) := by simp
                  rw [ec]
                  refine List.take_left' ?_
                  rw [hvs] at hvl
                  simp only [List.length_append, List.length_take, List.length_drop] at hvl ⊢
                  omega
              have hnewC : RepC w' I (.l (some el) k (rows.set i' (splice (rows.getD i' []) j row))) (.slice (some ⟨gl, 0, none⟩) rows.length c) (gl :: (G1 ++ (H1 ++ (F' ++ H3) ++ G3))) := by
                simp only [RepC, List.length_set]
                exact ⟨_, _, hrows, hlist, by simp [Value.ownBlock]⟩
              have hsub2 : ∀ q ∈ A ++ D, w'.heap[q]? = w.heap[q]? := fun q hq => hother q (by rcases List.mem_append.1 hq with hq | hq; exact hA q hq; exact hD q hq)
              have hndX : (F' ++ []).Nodup := h1.xnodup
              have hFcn : (gl :: (G1 ++ (H1 ++ (H2 ++ H3) ++ G3))).Nodup := by
                have : Fc = gl :: (G1 ++ (H1 ++ (H2 ++ H3) ++ G3)) := by rw [hFc, hFr, hH]; simp [Value.ownBlock]
                rw [← this]; exact n2
              have hFcmem : ∀ q, q ∈ Fc ↔ q = gl ∨ q ∈ G1 ∨ q ∈ H1 ∨ q ∈ H2 ∨ q ∈ H3 ∨ q ∈ G3 := by
                intro q
                have : Fc = gl :: (G1 ++ (H1 ++ (H2 ++ H3) ++ G3)) := by rw [hFc, hFr, hH]; simp [Value.ownBlock]
                rw [this]; simp [or_assoc]
              have hdisj : ∀ q ∈ F', q ∉ Fc := fun q hq hc => h1.xapart e q (by rw [hFd]; simp [hc]) (by simp [hq])
              have hhdrs : ∀ o, hdr w' ud o = hdr w ud o := by
                intro o
                cases hsd : st1.get e with
                | val gg rr => exact hdr_value (hnp ⟨gg, rr, hsd⟩) o
                | box T2 rr =>
                  obtain ⟨g3, F3, hu3, hA3⟩ := hbx T2 rr hsd
                  subst hu3
                  simp only [hdr]
                  exact World.cell?_of_block (w := w) (a := ⟨g3, o, none⟩) (hother g3 (hA g3 (by rw [hA3]; simp)))
                | dead => rw [hsd] at hat; unfold St.cell at hcell; rw [hsd] at hcell; cases hcell
                | ptr _ _ => unfold St.cell at hcell; rw [hsd] at hcell; cases hcell
                | al _ _ => unfold St.cell at hcell; rw [hsd] at hcell; cases hcell
                | ep _ _ => unfold St.cell at hcell; rw [hsd] at hcell; cases hcell
                | eo _ _ _ _ => unfold St.cell at hcell; rw [hsd] at hcell; cases hcell
                | tup _ => unfold St.cell at hcell; rw [hsd] at hcell; cases hcell
                | fn _ _ => unfold St.cell at hcell; rw [hsd] at hcell; cases hcell
              refine ⟨I, _, h1.refit (Fc := Fc) (Fc' := gl :: (G1 ++ (H1 ++ (F' ++ H3) ++ G3))) (X' := []) hte hFd ?_ ?_ (hGW _ (h1.below.trans hb)) hb hI' ?_ ?_ ?_ ?_⟩
              · rw [List.append_nil]
                have hp : (gl :: (G1 ++ (H1 ++ (F' ++ H3) ++ G3))).Perm (F' ++ (gl :: (G1 ++ (H1 ++ H3 ++ G3)))) := by
                  refine List.Perm.trans (List.Perm.cons gl ?_) (List.perm_middle.symm)
                  rw [← List.append_assoc G1, ← List.append_assoc F']
                  have : (G1 ++ (H1 ++ (F' ++ H3))).Perm (F' ++ (G1 ++ (H1 ++ H3))) := by
                    rw [← List.append_assoc H1, ← List.append_assoc G1, ← List.append_assoc G1]
                    refine List.Perm.trans (List.Perm.append_right H3 List.perm_append_comm) ?_
                    simp [List.append_assoc]
                  simpa [List.append_assoc] using List.Perm.append_right G3 this
                rw [hp.nodup_iff]
                refine List.nodup_append.2 ⟨by simpa using hndX, ?_, ?_⟩
                · refine List.Sublist.nodup ?_ hFcn
                  refine List.Sublist.cons_cons gl (List.Sublist.append_left (List.Sublist.append_right (List.Sublist.append_left (List.sublist_append_right H2 H3) H1) G3) G1)
                · intro q hq q' hq' e'
                  subst e'
                  refine hdisj q hq ((hFcmem q).2 ?_)
                  simp only [List.mem_cons, List.mem_append] at hq'
                  rcases hq' with h' | h' | (h' | h') | h' <;> simp [h']
              · intro q hq
                simp only [List.append_nil, List.mem_cons, List.mem_append] at hq ⊢
                rcases hq with h' | h' | (h' | h' | h') | h'
                · exact Or.inl ((hFcmem q).2 (by simp [h']))
                · exact Or.inl ((hFcmem q).2 (by simp [h']))
                · exact Or.inl ((hFcmem q).2 (by simp [h']))
                · exact Or.inr h'
                · exact Or.inl ((hFcmem q).2 (by simp [h']))
                · exact Or.inl ((hFcmem q).2 (by simp [h']))
              · intro s hs' q hq
                exact hother q (by rintro rfl; exact h1.apart s e hs' q hq hglF)
              · rw [St.get_set, if_pos rfl]
                exact hfit w' _ _ _ _ hI' hsub2 hnewC
              · intro s hse
                right
                rw [St.get_set, if_neg (fun e' => hse e'.symm)]
                refine ⟨rfl, fun o ho => ⟨hhdrs o, fun e' k' rows' hc => ?_⟩⟩
                by_cases hoo : off = o
                · subst hoo
                  rw [hcell] at hc
                  injection hc with hc
                  injection hc with q1 q2 q3
                  injection q1 with q1
                  subst q1; subst q2; subst q3
                  refine ⟨rows.set i' (splice (rows.getD i' []) j row), ?_, by simp⟩
                  unfold St.cell at hcell ⊢
                  rw [St.get_set, if_pos rfl]
                  cases hsd : st1.get e <;> rw [hsd] at hcell <;> simp [SV.setCell] at hcell ⊢ <;> simp [(List.getElem?_eq_some_iff.1 hcell).1]
                · refine ⟨rows', ?_, rfl⟩
                  unfold St.cell at hc ⊢
                  rw [St.get_set, if_pos rfl]
                  cases hsd : st1.get e <;> rw [hsd] at hc <;> simp [SV.setCell, hoo] at hc ⊢ <;> exact hc
              · intro T2 row2 hb2
                rw [St.get_set, if_pos rfl, hb2]
                exact ⟨_, rfl⟩
          · cases he
        · cases he
      · cases he
    · cases he
  | const v => simp [evStore] at he
  | global g => simp [evStore] at he
  | func f => simp [evStore] at he
end
end Go.Proofs.Vm
