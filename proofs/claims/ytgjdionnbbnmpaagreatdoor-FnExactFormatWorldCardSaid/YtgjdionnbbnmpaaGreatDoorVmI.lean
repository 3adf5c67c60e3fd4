/- A part of the proof of the card: lemmas that the text with the card leans on (see there for what is proved, and under which conditions). -/
import Derived.Test.YtgjdionnbbnmpaaGreatDoorVmH
set_option linter.unusedVariables false
set_option linter.unusedSimpArgs false
namespace Go.Proofs.Vm
open Go Go.RowKit

theorem rangeAt_block {w : World} {g : Nat} {cs : Array Value} {T : TypeId} {fr : Nat × Nat} (hg : w.heap[g]? = some (.cells cs T fr)) {off : Nat} {v1 v2 v3 : List Value} (hv : cs.toList = v1 ++ (v2 ++ v3)) (hl : v1.length = off) : w.rangeAt g off v2 := fun j v hj => by
  rw [cell_of_row w g _ _ _ _ hg, ← Array.getElem?_toList, hv, List.getElem?_append_right (by omega), show off + j - v1.length = j from by omega]
  have hjl : j < v2.length := (List.getElem?_eq_some_iff.1 hj).1
  rw [List.getElem?_append_left hjl]
  exact hj
theorem rangeAt_mid {w : World} {g o : Nat} {vs : List Value} (h : w.rangeAt g o vs) {off : Nat} {v1 v2 v3 : List Value} (hv : vs = v1 ++ (v2 ++ v3)) (hl : v1.length = off) : w.rangeAt g (o + off) v2 := fun j v hj => by
  have hjl : j < v2.length := (List.getElem?_eq_some_iff.1 hj).1
  have := h (off + j) v (by rw [hv, List.getElem?_append_right (by omega), show off + j - v1.length = j from by omega, List.getElem?_append_left hjl]; exact hj)
  rwa [Nat.add_assoc]
theorem getD_get {α : Type} {l : List α} {j : Nat} {d : α} (h : j < l.length) : l[j]? = some (l.getD j d) := by
  rw [List.getElem?_eq_getElem h, List.getD_eq_getElem?_getD, List.getElem?_eq_getElem h]; rfl
theorem append_nil3 {F1 F2 F3 : List Nat} (h : [] = F1 ++ (F2 ++ F3)) : F1 = [] ∧ F2 = [] ∧ F3 = [] := by
  have := List.append_eq_nil_iff.1 h.symm
  have h2 := List.append_eq_nil_iff.1 this.2
  exact ⟨this.1, h2.1, h2.2⟩

section
variable {P : Program} {L : Lay} (hL : L.ok P) {G : Glob} {W0 : Base} {I0 : Nat → Prop} {n : Nat} {st : St} {a : Act} {w : World}
include hL
theorem ev_load (h : Inv G W0 I0 n st a w) {d : Nat} (hd : d < n) {T : TypeId} {x : Operand} {st' : St} {p : Prop} (he : evLoad L st d T x = some (st', p)) (hp : p) :
    ∃ v, (Instr.loadAt T (a.eval x)).run P w = .ok v w ∧ Inv G W0 I0 n st' (a.put (some d) v) w := by
  obtain ⟨I, F, h⟩ := h
  cases x with
  | tmp t =>
    simp only [evLoad] at he
    split at he
    · -- a box
      rename_i e off ti hpt hti
      obtain ⟨i, dd, z, hs⟩ := hL.spec hti
      have hr := pt_value h hpt
      simp only [RepV] at hr
      obtain ⟨_, g, hte, hv, T', row', hb⟩ := hr
      rw [hv]
      split at he
      · rename_i T2 row hbx
        rw [hb] at hbx
        injection hbx with hT hrow
        subst hT
        subst hrow
        have hbox := h.at hte
        rw [hb] at hbox
        simp only [RepV] at hbox
        obtain ⟨g', vs, F', hgg', hg, hrr, hF⟩ := hbox
        injection hgg' with hgg'
        injection hgg' with hgg'
        injection hgg' with hgg' _
        subst hgg'
        split at he
        · rename_i hagg
          split at he
          · cases he
          · rename_i hown
            simp only [Option.some.injEq, Prod.mk.injEq] at he
            obtain ⟨rfl, rfl⟩ := he
            obtain ⟨v1, v2, v3, F1, F2, F3, hvs, _, hl1, hl2, _, hr2, _⟩ := RepR_mid hrr off ti.size hp
            have hF2 : F2 = [] := rowOwn_nil (by simpa using hown) hr2
            subst hF2
            have hra : w.rangeAt g off v2 := rangeAt_block hg (by simpa using hvs) hl1
            refine ⟨_, run_loadAt_mid w g off T v2 dd hra hs.under (by rw [hs.agg]; exact hagg) (by rw [hs.info]; simp [hs.size, hl2]), h.put_nil hd rfl ?_⟩
            simp only [RepV]
            exact ⟨v2, rfl, hr2⟩
        · rename_i hagg
          split at he
          · rename_i c hc
            obtain ⟨v1, uc, v3, F1, Fc, F2, hvs, hl, _, hrc, _⟩ := RepR_focus hrr hc
            have hcell : w.cell? ⟨g, off, none⟩ = some uc := by
              rw [cell_of_row w g _ _ _ _ hg, hvs, ← hl]
              simp
            have hrun := run_loadAt_one w hs.under (by rw [hs.agg]; simpa using hagg) g off uc hcell
            split at he
            · rename_i ho
              split at he
              · cases he
              · rename_i hed
                simp only [Option.some.injEq, Prod.mk.injEq] at he
                obtain ⟨rfl, rfl⟩ := he
                refine ⟨_, hrun, h.put_nil hd (by simp [SV.names, hed]) ?_⟩
                simp only [RepV]
                refine ⟨trivial, ⟨_, hte, by simp [hdr, hcell]⟩, ?_⟩
                cases c with
                | v x => simp [C.own] at ho
                | gone => simp [C.own] at ho
                | l o k rows =>
                  cases o with
                  | none => simp [C.own] at ho
                  | some el => exact ⟨el, k, rows, by simp [St.cell, hb, hc]⟩
            · rename_i ho
              simp only [Option.some.injEq, Prod.mk.injEq] at he
              obtain ⟨rfl, rfl⟩ := he
              refine ⟨_, hrun, h.put_nil hd rfl ?_⟩
              have hr1 : RepR w I [c] [uc] Fc := RepR_single.2 hrc
              have : Fc = [] := rowOwn_nil (by simpa [rowOwn] using ho) hr1
              subst this
              simp only [RepV]
              exact hr1
          · cases he
      · cases he
    · -- an element that nobody writes
      rename_i row off ti hpt hti
      obtain ⟨i, dd, z, hs⟩ := hL.spec hti
      have hr := pt_value h hpt
      simp only [RepV] at hr
      obtain ⟨_, g, o, vs, hv, hg, hra, hrr⟩ := hr
      rw [hv]
      split at he
      · rename_i hagg
        simp only [Option.some.injEq, Prod.mk.injEq] at he
        obtain ⟨rfl, rfl⟩ := he
        obtain ⟨v1, v2, v3, F1, F2, F3, hvs, hF, hl1, hl2, _, hr2, _⟩ := RepR_mid hrr off ti.size hp
        obtain ⟨_, rfl, _⟩ := append_nil3 hF
        have hra2 : w.rangeAt g (o + off) v2 := rangeAt_mid hra hvs hl1
        refine ⟨_, run_loadAt_mid w g (o + off) T v2 dd hra2 hs.under (by rw [hs.agg]; exact hagg) (by rw [hs.info]; simp [hs.size, hl2]), h.put_nil hd rfl ?_⟩
        simp only [RepV]
        exact ⟨v2, rfl, hr2⟩
      · rename_i hagg
        simp only [Option.some.injEq, Prod.mk.injEq] at he
        obtain ⟨rfl, rfl⟩ := he
        have hc : row[off]? = some (row.getD off .gone) := getD_get hp
        obtain ⟨v1, uc, v3, F1, Fc, F2, hvs, hl, hF, hrc, _⟩ := RepR_focus hrr hc
        obtain ⟨_, rfl, _⟩ := append_nil3 hF
        have hcell : w.cell? ⟨g, o + off, none⟩ = some uc := hra off uc (by rw [hvs, ← hl]; simp)
        refine ⟨_, run_loadAt_one w hs.under (by rw [hs.agg]; simpa using hagg) g (o + off) uc hcell, h.put_nil hd rfl ?_⟩
        simp only [RepV]
        exact RepR_single.2 hrc
    · -- an element of an own list
      rename_i e off i' j ti hpt hti
      obtain ⟨i, dd, z, hs⟩ := hL.spec hti
      have hr := pt_value h hpt
      simp only [RepV] at hr
      obtain ⟨_, ud, g, m, c, hte, hh, el, k, rows, hcell, hi, hv⟩ := hr
      rw [hv]
      rw [hcell] at he
      simp only at he
      have hat := h.at hte
      obtain ⟨uc, F1, Fc, F2, hFd, hrc, hhd, _, _, _⟩ := hat.focus (off := off) (e := el) (k := k) (rows := rows) (by unfold St.cell at hcell; cases hsd : st.get e <;> rw [hsd] at hcell <;> first | (simp at hcell; done) | simpa using hcell)
      obtain rfl : uc = .slice (some ⟨g, 0, none⟩) m c := by rw [hh] at hhd; injection hhd with hhd; exact hhd.symm
      simp only [RepC] at hrc
      obtain ⟨vs, F', hrs, hown, _⟩ := hrc
      have hm : m = rows.length := by
        rcases hown.2 with ⟨hn, _⟩ | ⟨g', cap, cur, hn, _⟩
        · cases hn
        · injection hn
      subst hm
      obtain ⟨v1, v2, v3, G1, G2, G3, hvs, _, hl1, hl2, hk, _, hr2, _⟩ := RepRs_at hrs i' hi
      have hra : w.rangeAt g 0 vs := ownsRow_range hown
      have hra2 : w.rangeAt g (i' * k) v2 := by have := rangeAt_mid hra hvs hl1; rwa [Nat.zero_add] at this
      split at he
      · rename_i hagg
        simp only [Option.some.injEq, Prod.mk.injEq] at he
        obtain ⟨rfl, rfl⟩ := he
        obtain ⟨hp1, hp2⟩ := hp
        obtain ⟨x1, x2, x3, H1, H2, H3, hxs, _, hm1, hm2, _, hr3, _⟩ := RepR_mid hr2 j ti.size (by omega)
        have : H2 = [] := rowOwn_nil hp2 hr3
        subst this
        have hra3 : w.rangeAt g (i' * k + j) x2 := rangeAt_mid hra2 hxs hm1
        refine ⟨_, run_loadAt_mid w g (i' * k + j) T x2 dd hra3 hs.under (by rw [hs.agg]; exact hagg) (by rw [hs.info]; simp [hs.size, hm2]), h.put_nil hd rfl ?_⟩
        simp only [RepV]
        exact ⟨x2, rfl, hr3⟩
      · rename_i hagg
        simp only [Option.some.injEq, Prod.mk.injEq] at he
        obtain ⟨rfl, rfl⟩ := he
        obtain ⟨hp1, hp2⟩ := hp
        have hjl : j < (rows.getD i' []).length := by omega
        have hc : (rows.getD i' [])[j]? = some ((rows.getD i' []).getD j .gone) := getD_get hjl
        obtain ⟨x1, uc, x3, H1, Hc, H2, hxs, hl, _, hrc, _⟩ := RepR_focus hr2 hc
        have hr1 : RepR w I [(rows.getD i' []).getD j .gone] [uc] Hc := RepR_single.2 hrc
        have : Hc = [] := rowOwn_nil (by simpa [rowOwn] using hp2) hr1
        subst this
        have hcell : w.cell? ⟨g, i' * k + j, none⟩ = some uc := hra2 j uc (by rw [hxs, ← hl]; simp)
        refine ⟨_, run_loadAt_one w hs.under (by rw [hs.agg]; simpa using hagg) g (i' * k + j) uc hcell, h.put_nil hd rfl ?_⟩
        simp only [RepV]
        exact hr1
    · cases he
  | const v => simp [evLoad] at he
  | global g => simp [evLoad] at he
  | func f => simp [evLoad] at he
end
end Go.Proofs.Vm
