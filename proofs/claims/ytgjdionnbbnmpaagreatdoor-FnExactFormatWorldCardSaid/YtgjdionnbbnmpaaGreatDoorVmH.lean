/- A part of the proof of the card: lemmas that the text with the card leans on (see there for what is proved, and under which conditions). -/
import Derived.Test.YtgjdionnbbnmpaaGreatDoorVmG
set_option linter.unusedVariables false
set_option linter.unusedSimpArgs false
namespace Go.Proofs.Vm
open Go Go.RowKit

structure TySpec (P : Program) (T : TypeId) (ti : TI) (i : TypeInfo) (d : TypeDesc) (z : Value) : Prop where
  info : P.info? T = some i
  under : P.underlying T = some d
  zero : i.zero = some z
  size : i.size = ti.size
  bytes : i.bytes = ti.bytes
  agg : d.isRow = ti.agg
  cells : z.cells.toList = ti.zero
  kind : kindOf d = ti.kind
theorem Lay.ok.spec {L : Lay} {P : Program} (h : L.ok P) {T : TypeId} {ti : TI} (ht : L T = some ti) : ∃ i d z, TySpec P T ti i d z := by
  have := h T ti ht
  unfold tiOf at this
  split at this
  · rename_i i d hi hd
    split at this
    · rename_i z hz
      injection this with this
      subst this
      exact ⟨i, d, z, hi, hd, hz, rfl, rfl, rfl, rfl, rfl⟩
    · cases this
  · cases this
theorem TySpec.slice {P : Program} {T : TypeId} {ti : TI} {i : TypeInfo} {d : TypeDesc} {z : Value} (h : TySpec P T ti i d z) {e : TypeId} (hk : ti.kind = .slice e) : P.underlying T = some (.slice e) := by
  have := h.kind
  rw [hk] at this
  rw [h.under]
  cases d <;> simp_all [kindOf]
theorem TySpec.str {P : Program} {T : TypeId} {ti : TI} {i : TypeInfo} {d : TypeDesc} {z : Value} (h : TySpec P T ti i d z) (hk : ti.kind = .str) : P.underlying T = some .string := by
  have := h.kind
  rw [hk] at this
  rw [h.under]
  cases d <;> simp_all [kindOf]
theorem TySpec.bool {P : Program} {T : TypeId} {ti : TI} {i : TypeInfo} {d : TypeDesc} {z : Value} (h : TySpec P T ti i d z) (hk : ti.kind = .bool) : P.underlying T = some .bool := by
  have := h.kind
  rw [hk] at this
  rw [h.under]
  cases d <;> simp_all [kindOf]
theorem TySpec.int {P : Program} {T : TypeId} {ti : TI} {i : TypeInfo} {d : TypeDesc} {z : Value} (h : TySpec P T ti i d z) {k : IntKind} (hk : ti.kind = .int k) : P.underlying T = some (.int k) := by
  have := h.kind
  rw [hk] at this
  rw [h.under]
  cases d <;> simp_all [kindOf]
theorem TySpec.struct {P : Program} {T : TypeId} {ti : TI} {i : TypeInfo} {d : TypeDesc} {z : Value} (h : TySpec P T ti i d z) {fs : List (Nat × TypeId)} (hk : ti.kind = .struct fs) :
    ∃ fields : Array Field, P.underlying T = some (.struct fields) ∧ fs = fields.toList.map fun f => (f.offset, f.type) := by
  have := h.kind
  rw [hk] at this
  rw [h.under]
  cases d <;> simp_all [kindOf]
theorem fieldOf_spec {L : Lay} {P : Program} (hL : L.ok P) {T : TypeId} {f o : Nat} {tf : TI} (h : fieldOf L T f = some (o, tf)) :
    ∃ (fields : Array Field) (fld : Field) (i : TypeInfo) (d : TypeDesc) (z : Value), P.underlying T = some (.struct fields) ∧ fields[f]? = some fld ∧ fld.offset = o ∧ L fld.type = some tf ∧ TySpec P fld.type tf i d z := by
  unfold fieldOf at h
  split at h
  · rename_i ti hti
    obtain ⟨i, d, z, hs⟩ := hL.spec hti
    split at h
    · rename_i fs hfs
      obtain ⟨fields, hu, rfl⟩ := hs.struct hfs
      split at h
      · rename_i o' ft hft
        simp only [Option.map_eq_some_iff, Prod.mk.injEq] at h
        obtain ⟨tf', htf, rfl, rfl⟩ := h
        rw [List.getElem?_map, Option.map_eq_some_iff] at hft
        obtain ⟨fld, hfld, hh⟩ := hft
        simp only [Prod.mk.injEq] at hh
        obtain ⟨rfl, rfl⟩ := hh
        obtain ⟨i', d', z', hs'⟩ := hL.spec htf
        exact ⟨fields, fld, i', d', z', hu, by simpa using hfld, rfl, htf, hs'⟩
      · cases h
    · cases h
  · cases h

section
variable {P : Program} (w : World)
theorem run_fieldAt_mid {T : TypeId} {fields : Array Field} {f : Nat} {fld : Field} {i : TypeInfo} (hu : P.underlying T = some (.struct fields)) (hf : fields[f]? = some fld) (hi : P.info? fld.type = some i) (hs : i.size ≠ 0) (g off : Nat) :
    (Instr.fieldAt T (.pointer (some ⟨g, off, none⟩)) f).run P w = .ok (.pointer (some ⟨g, off + fld.offset, none⟩)) w := by
  simp [Instr.fieldAt, run_underlying hu, hf, Instr.sureAddr, fieldPlace, sizeOf, typeInfo, hi, hs, Addr.add_mid]

theorem isAgg_of {T : TypeId} {d : TypeDesc} (hu : P.underlying T = some d) : (isAgg T).run P w = .ok d.isRow w := by
  unfold isAgg
  rw [Sem.run_bind, run_underlying hu w]
  cases d <;> simp [TypeDesc.isRow]
theorem run_loadAt_one {T : TypeId} {d : TypeDesc} (hu : P.underlying T = some d) (hd : d.isRow = false) (g off : Nat) (v : Value) (hc : w.cell? ⟨g, off, none⟩ = some v) :
    (Instr.loadAt T (.pointer (some ⟨g, off, none⟩))).run P w = .ok v w := by
  simp [Instr.loadAt, Instr.sureAddr, loadVar, isAgg_of w hu, hd, hc]
end

section
variable {P : Program} {L : Lay} (hL : L.ok P) {G : Glob} {W0 : Base} {I0 : Nat → Prop} {n : Nat} {st : St} {a : Act} {w : World}

theorem pt_value {I : Nat → Prop} {F : Nat → List Nat} {X : List Nat} (h : InvX G W0 I0 n I F X st a w) {t : Nat} {p : SV} (hp : ptOf t (st.get t) = some p) : RepV w I st a p (a.eval (.tmp t)) [] := by
  obtain ⟨u, hu, hr⟩ := h.live (t := t) (by intro e; rw [e] at hp; cases hp)
  rw [eval_tmp hu]
  cases hg : st.get t with
  | box T row =>
    rw [hg] at hp hr
    simp only [ptOf, Option.some.injEq] at hp
    subst hp
    simp only [RepV] at hr ⊢
    obtain ⟨g, vs, F', rfl, hgg, _, _⟩ := hr
    exact ⟨trivial, g, hu, rfl, T, row, hg⟩
  | ptr d off =>
    rw [hg] at hp hr
    simp only [ptOf, Option.some.injEq] at hp
    subst hp
    have : F t = [] := by simp only [RepV] at hr; exact hr.1
    rw [this] at hr; exact hr
  | ep d off =>
    rw [hg] at hp hr
    simp only [ptOf, Option.some.injEq] at hp
    subst hp
    have : F t = [] := by simp only [RepV] at hr; exact hr.1
    rw [this] at hr; exact hr
  | eo d off i j =>
    rw [hg] at hp hr
    simp only [ptOf, Option.some.injEq] at hp
    subst hp
    have : F t = [] := by simp only [RepV] at hr; exact hr.1
    rw [this] at hr; exact hr
  | dead => rw [hg] at hp; cases hp
  | val _ _ => rw [hg] at hp; cases hp
  | al _ _ => rw [hg] at hp; cases hp
  | tup _ => rw [hg] at hp; cases hp
  | fn _ _ => rw [hg] at hp; cases hp
theorem ptOf_cases {t : Nat} {sv p : SV} (h : ptOf t sv = some p) : (∃ d o, p = .ptr d o) ∨ (∃ r o, p = .ep r o) ∨ ∃ d o i j, p = .eo d o i j := by
  cases sv <;> simp only [ptOf, Option.some.injEq, reduceCtorEq] at h <;> subst h <;> simp

include hL
theorem ev_fieldAddr (h : Inv G W0 I0 n st a w) {d : Nat} (hd : d < n) {T : TypeId} {x : Operand} {f : Nat} {st' : St} (he : evFieldAddr L st d T x f = some st') :
    ∃ v, (Instr.fieldAt T (a.eval x) f).run P w = .ok v w ∧ Inv G W0 I0 n st' (a.put (some d) v) w := by
  obtain ⟨I, F, h⟩ := h
  cases x with
  | tmp t =>
    simp only [evFieldAddr] at he
    split at he
    · rename_i p o tf hp hf
      obtain ⟨fields, fld, i, dd, z, hu, hfl, rfl, _, hs⟩ := fieldOf_spec hL hf
      split at he
      · cases he
      · rename_i hsz
        split at he
        · cases he
        · rename_i hn
          injection he with he
          subst he
          have hr := pt_value h hp
          have hsz' : i.size ≠ 0 := by rw [hs.size]; exact hsz
          rcases ptOf_cases hp with ⟨e, off, rfl⟩ | ⟨r, off, rfl⟩ | ⟨e, off, i', j, rfl⟩
          · simp only [RepV] at hr
            obtain ⟨_, g, hg, hv, T', row, hb⟩ := hr
            rw [hv]
            refine ⟨_, run_fieldAt_mid w hu hfl hs.info hsz' g off, h.put_nil hd (by simpa [SV.step, SV.names] using hn) ?_⟩
            simp only [SV.step, RepV]
            exact ⟨trivial, g, hg, rfl, T', row, hb⟩
          · simp only [RepV] at hr
            obtain ⟨_, g, o, vs, hv, hg, hra, hrr⟩ := hr
            rw [hv]
            refine ⟨_, run_fieldAt_mid w hu hfl hs.info hsz' g (o + off), h.put_nil hd rfl ?_⟩
            simp only [SV.step, RepV]
            exact ⟨trivial, g, o, vs, by rw [Nat.add_assoc], hg, hra, hrr⟩
          · simp only [RepV] at hr
            obtain ⟨_, ud, g, m, c, h1, h2, e', k, rows, h3, hi, hv⟩ := hr
            rw [hv]
            refine ⟨_, run_fieldAt_mid w hu hfl hs.info hsz' g (i' * k + j), h.put_nil hd (by simpa [SV.step, SV.names] using hn) ?_⟩
            simp only [SV.step, RepV]
            exact ⟨trivial, ud, g, m, c, h1, h2, e', k, rows, h3, hi, by rw [Nat.add_assoc]⟩
    · cases he
  | const v => simp [evFieldAddr] at he
  | global g => simp [evFieldAddr] at he
  | func f => simp [evFieldAddr] at he
end
end Go.Proofs.Vm
