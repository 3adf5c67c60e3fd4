/- A part of the proof of the card: lemmas that the text with the card leans on (see there for what is proved, and under which conditions). -/
import Derived.Test.YtgjdionnbbnmpaaGreatDoorVmM
set_option linter.unusedVariables false
set_option linter.unusedSimpArgs false
namespace Go.Proofs.Vm
open Go Go.RowKit

section
variable {P : Program} {L : Lay} {G : Glob} {W0 : Base} {I0 : Nat → Prop} {n : Nat} {I : Nat → Prop} {F : Nat → List Nat} {X : List Nat} {st : St} {a : Act} {w : World}

theorem list_cells (h : InvX G W0 I0 n I F X st a w) {x : Operand} {l : LS} {k : Nat} (hl : st.list x = some l) (hk : l.width = some k) :
    ∃ A c, a.eval x = .slice A l.rows.length c ∧ (l.rows = [] ∨ ∃ g off vs FF, A = some ⟨g, off, none⟩ ∧ w.rangeAt g off vs ∧ RepRs w I k l.rows vs FF) := by
  cases l with
  | imm rows k' =>
    obtain ⟨A, c, h1, h2, h3⟩ := list_imm h hl
    refine ⟨A, c, h1, ?_⟩
    by_cases hr : rows = []
    · exact Or.inl hr
    · right
      obtain ⟨g, off, vs, kk, h4, h5, _, h6, h7⟩ := h3 hr
      simp only [LS.width] at hk
      rw [hk] at h4
      injection h4 with h4
      subst h4
      exact ⟨g, off, vs, [], h5, h6, h7⟩
  | own d off e k' rows =>
    obtain ⟨ud, uc, F1, Fc, F2, _, _, hr, _, he, _⟩ := list_own h hl
    simp only [LS.width, Option.some.injEq] at hk
    subst hk
    simp only [RepC] at hr
    obtain ⟨vs, F', hrs, ho, _⟩ := hr
    rcases ho.2 with ⟨hh, hn⟩ | ⟨g', cap, cur, hh, _, _, hnc, hcm, _⟩
    · exact ⟨none, 0, by rw [he, hh]; simp only [LS.rows, hn], Or.inl (List.eq_nil_of_length_eq_zero hn)⟩
    · refine ⟨_, cap, by rw [he, hh]; rfl, Or.inr ⟨g', 0, vs, F', rfl, ?_, hrs⟩⟩
      rw [hh] at ho
      exact ownsRow_range ho

theorem bytes_vals {w : World} {I : Nat → Prop} : ∀ {rows : List (List C)} {vs : List Value} {F : List Nat}, RepRs w I 1 rows vs F → (∀ r ∈ rows, ∃ m, r = [.v (.int .u8 m)]) → vs = (bytesR rows).map (Value.int .u8)
  | [], vs, F, h, _ => by simp only [RepRs] at h; simp [h.1, bytesR]
  | r :: rs, vs, F, h, hb => by
    simp only [RepRs] at h
    obtain ⟨v1, v2, F1, F2, rfl, rfl, _, h1, h2⟩ := h
    obtain ⟨m, rfl⟩ := hb r (by simp)
    have ih := bytes_vals h2 (fun r hr => hb r (by simp [hr]))
    simp only [RepR] at h1
    obtain ⟨v, vs', G1, G2, rfl, rfl, h3, rfl, _⟩ := h1
    simp only [RepC] at h3
    rw [ih, h3.1]
    simp [bytesR, byteRow]

variable (hL : L.ok P)
include hL
theorem ev_convert (h : Inv G W0 I0 n st a w) {d : Nat} (hd : d < n) {S T : TypeId} {x : Operand} {st' : St} {p : Prop} (he : evConvert L st d S T x = some (st', p)) (hp : p) :
    ∃ v, (convert S T (a.eval x)).run P w = .ok v w ∧ Inv G W0 I0 n st' (a.put (some d) v) w := by
  obtain ⟨I, F, h⟩ := h
  unfold evConvert at he
  split at he
  · rename_i ts tt hts htt
    obtain ⟨i1, d1, z1, hs1⟩ := hL.spec hts
    obtain ⟨i2, d2, z2, hs2⟩ := hL.spec htt
    split at he
    · rename_i k hk
      split at he
      · rename_i k' m hf
        simp only [Option.some.injEq, Prod.mk.injEq] at he
        obtain ⟨rfl, rfl⟩ := he
        rw [flat_spec h hf]
        refine ⟨_, ?_, put_flat h hd rfl⟩
        simp [convert, run_underlying hs1.under, run_underlying (hs2.int hk), Conv.intToInt]
      · cases he
    · rename_i hk
      split at he
      · rename_i e hke
        split at he
        · rename_i te hte
          obtain ⟨i3, d3, z3, hs3⟩ := hL.spec hte
          split at he
          · rename_i hku
            split at he
            · rename_i l hl
              split at he
              · rename_i hw
                simp only [Option.some.injEq, Prod.mk.injEq] at he
                obtain ⟨rfl, rfl⟩ := he
                obtain ⟨A, c, hv, hc⟩ := list_cells h hl hw
                rw [hv]
                refine ⟨_, ?_, put_flat h hd rfl⟩
                rcases hc with hc | ⟨g, off, vs, FF, rfl, hra, hrs⟩
                · rw [hc]
                  cases A with
                  | none => exact run_convert_bytes_nil (P := P) w S e (hs1.slice hke) (hs3.int hku) _ _ T (hs2.str hk)
                  | some aa =>
                    simp [convert, run_underlying (hs1.slice hke), run_underlying (hs2.str hk), run_underlying (hs3.int hku), Conv.bytesToString, loadCells, loadCellsFrom, bytesR]
                    rfl
                · refine run_convert_bytes_arg (P := P) w S e (hs1.slice hke) (hs3.int hku) g off l.rows.length c (bytesR l.rows) (by simp [bytesR]) (fun i hi => ?_) T (hs2.str hk)
                  have hvs := bytes_vals hrs hp
                  refine hra i _ ?_
                  rw [hvs, List.getElem?_map, getD_get (d := 0) (by simpa [bytesR] using hi)]
                  rfl
              · cases he
            · cases he
          · cases he
        · cases he
      · cases he
    · cases he
  · cases he
end
end Go.Proofs.Vm
