/- A part of the proof of the card: lemmas that the text with the card leans on (see there for what is proved, and under which conditions). -/
import Derived.Test.YtgjdionnbbnmpaaGreatDoorVmK
import Derived.Great.BuildSlice
import Derived.Maps.AppendAt
set_option linter.unusedVariables false
set_option linter.unusedSimpArgs false
namespace Go.Proofs.Vm
open Go Go.RowKit

/-! ### Cells filled in -/
theorem foldl_set_list (off : Nat) (cs : List Value) (l : List Value) (h : off + cs.length ≤ l.length) :
    ((cs.toArray.zipIdx).foldl (fun cs (x : Value × Nat) => cs.setIfInBounds (off + x.2) x.1) l.toArray).toList = l.take off ++ (cs ++ l.drop (off + cs.length)) := by
  have e : (cs.toArray.zipIdx).foldl (fun cs (x : Value × Nat) => cs.setIfInBounds (off + x.2) x.1) l.toArray = (cs.zipIdx 0).foldl (fun cs (x : Value × Nat) => cs.setIfInBounds (off + x.2) x.1) l.toArray := by
    rw [← Array.foldl_toList]; simp
  rw [e]
  obtain ⟨h1, h2⟩ := Great.foldl_set off cs 0 l.toArray
  apply List.ext_getElem?
  intro k
  rw [Array.getElem?_toList, h2 k]
  simp only [Nat.add_zero, List.size_toArray, List.getElem?_toArray]
  by_cases h3 : k < off
  · rw [if_neg (by omega), List.getElem?_append_left (by simp; omega), List.getElem?_take, if_pos h3]
  · rw [List.getElem?_append_right (by simp; omega), List.length_take, Nat.min_eq_left (by omega)]
    by_cases h4 : k < off + cs.length
    · rw [if_pos (by omega), List.getElem?_append_left (by omega)]
    · rw [if_neg (by omega), List.getElem?_append_right (by omega), List.getElem?_drop]
      congr 1
      omega

theorem fill_cons {place : Nat → Option (Nat × Nat)} {l : List Value} {i off size : Nat} {v : Value} {rest : List (Nat × Value)} (hp : place i = some (off, size)) (hs : v.cells.size = size) (hl : off + size ≤ l.length) :
    Instr.fill place l.toArray ((i, v) :: rest) = Instr.fill place (l.take off ++ (v.cells.toList ++ l.drop (off + size))).toArray rest := by
  have e := foldl_set_list off v.cells.toList l (by simpa [hs] using hl)
  simp only [Array.length_toList, hs] at e
  rw [← e]
  conv => lhs; unfold Instr.fill
  simp only [hp]
  rw [if_neg (by simp [hs]; omega)]

/-! ### The parts -/
def RepP (w : World) (I : Nat → Prop) : List (Nat × Arg) → List (Nat × Value) → List Nat → Prop
  | [], us, F => us = [] ∧ F = []
  | (i, g, row) :: ps, us, F => ∃ u us' F1 F2, us = (i, u) :: us' ∧ F = F1 ++ F2 ∧ RepG w I g row u F1 ∧ RepP w I ps us' F2

section
variable {P : Program} {L : Lay} {G : Glob} {W0 : Base} {I0 : Nat → Prop} {n : Nat} {I : Nat → Prop} {F : Nat → List Nat} {X : List Nat} {st : St} {a : Act} {w : World}

/-- What is held back turns: part of it goes, new blocks come. -/
theorem InvX.turn (h : InvX G W0 I0 n I F X st a w) {w' : World} {X' : List Nat} (hGw : G w') (hb : Bel W0 w w') (hk : ∀ g, g < w.heap.size → g ∉ X → w'.heap[g]? = w.heap[g]?)
    (hn : X'.Nodup) (hX : ∀ g ∈ X', g ∈ X ∨ (w.heap.size ≤ g ∧ g < w'.heap.size)) : InvX G W0 I0 n I F X' st a w' := by
  have h1 := h.world hGw hb (fun g hg => hk g (h.Ilt g hg) (fun hx => (h.Xok g hx).2.2 hg)) (fun t g hg => hk g (h.lt t g hg) (h.xapart t g hg))
  exact
  { size := h1.size, defers := h1.defers, below := h1.below, glob := h1.glob, Ilt := h1.Ilt, Iold := h1.Iold, Inew := h1.Inew, rep := h1.rep, nodup := h1.nodup, apart := h1.apart
    xnodup := hn
    xapart := fun t g hg hx => by
      rcases hX g hx with hx | hx
      · exact h.xapart t g hg hx
      · have := h.lt t g hg; omega
    Fok := h1.Fok
    Xok := fun g hg => by
      rcases hX g hg with hx | hx
      · have := h.Xok g hx
        exact ⟨this.1, Nat.lt_of_lt_of_le this.2.1 hb.size, this.2.2⟩
      · exact ⟨Or.inl (Nat.le_trans h.below.size hx.1), hx.2, fun hi => by have := h.Ilt g hi; omega⟩ }
theorem InvX.fresh (h : InvX G W0 I0 n I F X st a w) (o : Obj) (hGw : G (w.alloc o)) : InvX G W0 I0 n I F (w.heap.size :: X) st a (w.alloc o) := by
  refine h.turn hGw ((Bel.refl _ _).alloc h.below.size o) (fun g hg _ => Below.heap_alloc w o g hg) ?_ ?_
  · exact List.nodup_cons.2 ⟨fun hx => by have := (h.Xok _ hx).2.1; omega, h.xnodup⟩
  · intro g hg
    rcases List.mem_cons.1 hg with rfl | hg
    · right; exact ⟨Nat.le_refl _, by show _ < (w.heap.push o).size; simp⟩
    · exact Or.inl hg

theorem takeAll_spec : ∀ {parts : List (Nat × Operand)} {st : St} {F : Nat → List Nat} {X : List Nat} {ps : List (Nat × Arg)} {st' : St}, InvX G W0 I0 n I F X st a w → takeAll st parts = some (ps, st') → (∀ p ∈ parts, constOk p.2 = true) →
    ∃ F1 F', InvX G W0 I0 n I F1 (F' ++ X) st' a w ∧ RepP w I ps (parts.map fun p => (p.1, a.eval p.2)) F'
  | [], st, F, X, ps, st', h, ht, _ => by
    simp only [takeAll, Option.some.injEq, Prod.mk.injEq] at ht
    obtain ⟨rfl, rfl⟩ := ht
    exact ⟨F, [], h, by simp [RepP]⟩
  | (i, x) :: r, st, F, X, ps, st', h, ht, hc => by
    simp only [takeAll] at ht
    split at ht
    · rename_i g row st1 htk
      split at ht
      · rename_i ps' st2 hta
        simp only [Option.some.injEq, Prod.mk.injEq] at ht
        obtain ⟨rfl, rfl⟩ := ht
        obtain ⟨F1, Fa, h1, hr, _⟩ := h.take htk (constOk_spec (hc (i, x) (by simp)))
        obtain ⟨F2, Fb, h2, hps⟩ := takeAll_spec h1 hta (fun p hp => hc p (by simp [hp]))
        refine ⟨F2, Fa ++ Fb, ?_, ?_⟩
        · have hp : (Fb ++ (Fa ++ X)).Perm ((Fa ++ Fb) ++ X) := by
            rw [← List.append_assoc]
            exact List.Perm.append_right X List.perm_append_comm
          exact h2.less (hp.nodup_iff.1 h2.xnodup) (fun g hg => hp.mem_iff.2 hg)
        · simp only [List.map_cons, RepP]
          exact ⟨_, _, Fa, Fb, rfl, rfl, hr, hps⟩
      · cases ht
    · cases ht

theorem flat_row (w : World) (I : Nat → Prop) : ∀ {zs : List Value}, zs.all (·.oneCell') = true → RepR w I (zs.map .v) zs []
  | [], _ => by simp [RepR]
  | z :: zs, h => by
    simp only [List.all_cons, Bool.and_eq_true] at h
    simp only [List.map_cons, RepR, RepC]
    exact ⟨z, zs, [], [], rfl, rfl, ⟨rfl, h.1, rfl⟩, flat_row w I h.2⟩

theorem placeParts_spec {places : List (Nat × Nat)} : ∀ {ps : List (Nat × Arg)} {row row' : List C} {vs : List Value} {us : List (Nat × Value)} {F FP : List Nat}, RepR w I row vs F → RepP w I ps us FP → placeParts places row ps = some row' → (F ++ FP).Nodup →
    ∃ vs' F', Instr.fill (places[·]?) vs.toArray us = some vs'.toArray ∧ RepR w I row' vs' F' ∧ F'.Nodup ∧ ∀ g ∈ F', g ∈ F ++ FP
  | [], row, row', vs, us, F, FP, hr, hp, he, hn => by
    simp only [RepP] at hp
    obtain ⟨rfl, rfl⟩ := hp
    simp only [placeParts, Option.some.injEq] at he
    subst he
    exact ⟨vs, F, rfl, hr, by simpa using hn, by simp⟩
  | (i, g, new) :: ps, row, row', vs, us, F, FP, hr, hp, he, hn => by
    simp only [RepP] at hp
    obtain ⟨u, us', F1, F2, rfl, rfl, hu, hps⟩ := hp
    simp only [placeParts] at he
    split at he
    · rename_i off size hpl
      split at he
      · rename_i hc
        obtain ⟨hc1, hc2⟩ := hc
        obtain ⟨A, B, D, rfl, hs⟩ := RepR_splice (w' := w) hr (off := off) (new := new) (nv := u.cells.toList) (F' := F1) (by omega)
        have hnew := hs (fun _ _ => rfl) (fun _ _ => rfl) hu.cells
        have hsub : ∀ q, q ∈ (A ++ (F1 ++ D)) ++ F2 → q ∈ (A ++ (B ++ D)) ++ (F1 ++ F2) := by
          intro q hq
          simp only [List.mem_append] at hq ⊢
          rcases hq with (hq | hq | hq) | hq <;> simp [hq]
        have hnd : ((A ++ (F1 ++ D)) ++ F2).Nodup := by
          have hp1 : ((A ++ (B ++ D)) ++ (F1 ++ F2)).Perm (B ++ ((A ++ (F1 ++ D)) ++ F2)) := by
            have e1 : (A ++ (B ++ D)).Perm (B ++ (A ++ D)) := by
              rw [← List.append_assoc, ← List.append_assoc]
              exact List.Perm.append_right D List.perm_append_comm
            have e2 : ((A ++ D) ++ F1).Perm (A ++ (F1 ++ D)) := by
              rw [List.append_assoc]
              exact List.Perm.append_left A List.perm_append_comm
            have e3 := List.Perm.append_right (F1 ++ F2) e1
            refine e3.trans ?_
            rw [List.append_assoc, ← List.append_assoc (A ++ D)]
            exact List.Perm.append_left B (List.Perm.append_right F2 e2)
          exact (List.nodup_append.1 (hp1.nodup_iff.1 hn)).2.1
        obtain ⟨vs', F', hf, hrr, hn', hm⟩ := placeParts_spec hnew hps he hnd
        refine ⟨vs', F', ?_, hrr, hn', fun q hq => hsub q (hm q hq)⟩
        rw [fill_cons hpl (by rw [hu.agg_of]; exact hc1) (by rw [hr.length]; omega), ← hf, ← hc1]
      · cases he
    · cases he

theorem partRows_spec {k : Nat} : ∀ {ps : List (Nat × Arg)} {i : Nat} {rows : List (List C)} {us : List (Nat × Value)} {FP : List Nat} {pre rest : List Value}, RepP w I ps us FP → partRows k i ps = some rows → pre.length = i * k → rest.length = rows.length * k →
    ∃ vs, Instr.fill (fun i => some (i * k, k)) (pre ++ rest).toArray us = some (pre ++ vs).toArray ∧ RepRs w I k rows vs FP
  | [], i, rows, us, FP, pre, rest, hp, he, h1, h2 => by
    simp only [RepP] at hp
    obtain ⟨rfl, rfl⟩ := hp
    simp only [partRows, Option.some.injEq] at he
    subst he
    obtain rfl : rest = [] := by simpa using h2
    exact ⟨[], rfl, by simp [RepRs]⟩
  | (j, g, row) :: ps, i, rows, us, FP, pre, rest, hp, he, h1, h2 => by
    simp only [RepP] at hp
    obtain ⟨u, us', F1, F2, rfl, rfl, hu, hps⟩ := hp
    simp only [partRows] at he
    split at he
    · rename_i hc
      obtain ⟨rfl, hk⟩ := hc
      rw [Option.map_eq_some_iff] at he
      obtain ⟨rows', he, rfl⟩ := he
      have hus : u.cells.size = k := by rw [hu.agg_of]; exact hk
      simp only [List.length_cons, Nat.add_mul, Nat.one_mul] at h2
      have hrl : (rest.drop k).length = rows'.length * k := by rw [List.length_drop]; omega
      obtain ⟨vs, hf, hrs⟩ := partRows_spec (pre := pre ++ u.cells.toList) (rest := rest.drop k) hps he (by simp [h1, hus, Nat.add_mul]) hrl
      refine ⟨u.cells.toList ++ vs, ?_, ?_⟩
      · rw [fill_cons rfl hus (by simp; omega)]
        have e1 : (pre ++ rest).take (i * k) = pre := by rw [← h1]; exact List.take_left
        have e2 : (pre ++ rest).drop (i * k + k) = rest.drop k := by rw [← h1, List.drop_length_add_append]
        rw [e1, e2, ← List.append_assoc, hf, List.append_assoc]
      · simp only [RepRs]
        exact ⟨_, vs, F1, F2, rfl, rfl, hk, hu.cells, hrs⟩
    · cases he

variable (hL : L.ok P) (hGW : ∀ w', Bel W0 W0.w w' → G w')
include hL hGW
theorem ev_alloc (h : Inv G W0 I0 n st a w) {d : Nat} (hd : d < n) {T : TypeId} {st' : St} (he : evAlloc L st d T = some st') :
    ∃ v w', (Instr.alloc T true (.tuple #[])).run P w = .ok v w' ∧ Inv G W0 I0 n st' (a.put (some d) v) w' := by
  obtain ⟨I, F, h⟩ := h
  unfold evAlloc at he
  split at he
  · rename_i ti hti
    obtain ⟨i, dd, z, hs⟩ := hL.spec hti
    split at he
    · rename_i hz
      injection he with he
      subst he
      refine ⟨.pointer (some ⟨w.heap.size, 0, none⟩), w.alloc (.cells z.cells T), ?_, ?_⟩
      · simp [Instr.alloc, zeroValue, typeInfo, hs.info, hs.zero, newVar, newRow]
      · have h1 := h.fresh (.cells z.cells T) (hGW _ (h.below.alloc h.below.size _))
        refine ⟨I, _, InvX.put (F' := [w.heap.size]) (X := []) h1 hd ?_⟩
        simp only [RepV]
        refine ⟨w.heap.size, ti.zero, [], rfl, ?_, flat_row _ _ hz, rfl⟩
        rw [heap_alloc_new, ← hs.cells]
    · cases he
  · cases he
omit hL in
theorem ev_box (h : Inv G W0 I0 n st a w) {d : Nat} (hd : d < n) {T : TypeId} {x : Operand} (hx : constOk x = true) {st' : St} (he : evBox st d T x = some st') :
    ∃ v w', (Instr.box T (a.eval x)).run P w = .ok v w' ∧ Inv G W0 I0 n st' (a.put (some d) v) w' := by
  obtain ⟨I, F, h⟩ := h
  unfold evBox at he
  split at he
  · rename_i g row st1 htk
    injection he with he
    subst he
    obtain ⟨F1, F', h1, hr, _⟩ := h.take htk (constOk_spec hx)
    refine ⟨.pointer (some ⟨w.heap.size, 0, none⟩), w.alloc (.cells (a.eval x).cells T), ?_, ?_⟩
    · simp [Instr.box, newVar, newRow]
    · have h2 := h1.fresh (.cells (a.eval x).cells T) (hGW _ (h.below.alloc h.below.size _))
      refine ⟨I, _, InvX.put (F' := w.heap.size :: F') (X := []) h2 hd ?_⟩
      simp only [RepV]
      refine ⟨w.heap.size, (a.eval x).cells.toList, F', rfl, ?_, ?_, rfl⟩
      · rw [heap_alloc_new]
      · exact RepR.move (fun g hg => Below.heap_alloc w _ g (h.Ilt g hg)) _ _ _ (fun g hg => Below.heap_alloc w _ g (h1.Xok g (by simp [hg])).2.1) hr.cells
  · cases he
omit hGW in
theorem places_spec : ∀ {fields : List Field} {places : List (Nat × Nat)}, placesOf L (fields.map fun f => (f.offset, f.type)) = some places → fields.mapM (fun f => (P.info? f.type).map fun i => (f.offset, i.size)) = some places
  | [], places, h => by simpa [placesOf] using h
  | f :: fs, places, h => by
    simp only [List.map_cons, placesOf] at h
    split at h
    · rename_i tf ps htf hps
      injection h with h
      subst h
      obtain ⟨i, dd, z, hs⟩ := hL.spec htf
      have ih := places_spec (fields := fs) hps
      simp [List.mapM_cons, ih, hs.info, hs.size]
    · cases h
omit hGW in
theorem ev_build (h : Inv G W0 I0 n st a w) {d : Nat} (hd : d < n) {T : TypeId} {parts : Array (Nat × Operand)} (hx : ∀ p ∈ parts.toList, constOk p.2 = true) {st' : St} (he : evBuild L st d T parts.toList = some st') :
    ∃ v, (Instr.build T (parts.map fun (i, x) => (i, a.eval x))).run P w = .ok v w ∧ Inv G W0 I0 n st' (a.put (some d) v) w := by
  obtain ⟨I, F, h⟩ := h
  unfold evBuild at he
  split at he
  · rename_i ti hti
    obtain ⟨i, dd, z, hs⟩ := hL.spec hti
    split at he
    · rename_i fs hk
      obtain ⟨fields, hu, hfs⟩ := hs.struct hk
      split at he
      · rename_i places ps st1 hpl hta
        split at he
        · rename_i hz
          rw [Option.map_eq_some_iff] at he
          obtain ⟨row, hrow, rfl⟩ := he
          obtain ⟨F1, F', h1, hps⟩ := takeAll_spec h hta hx
          obtain ⟨vs, F2, hf, hr, hn, hm⟩ := placeParts_spec (flat_row w I hz) hps hrow (by simpa using (List.nodup_append.1 h1.xnodup).1)
          rw [hfs] at hpl
          have hb : P.built T (parts.map fun (i, x) => (i, a.eval x)).toList = some vs.toArray := by
            unfold Program.built
            rw [hs.info, hu]
            simp only [hs.zero, places_spec hL hpl]
            rw [← hf, ← hs.cells]
            simp
          refine ⟨_, run_build w T _ _ hb, ?_⟩
          refine InvX.put_val (F' := F2) (g := true) (h1.less (by simpa using hn) (fun g hg => ?_)) hd ?_
          · have := hm g (by simpa using hg)
            simpa using this
          · simp only [RepG, if_true]
            exact ⟨vs, rfl, hr⟩
        · cases he
      · cases he
    · cases he
  · cases he
theorem ev_buildSlice (h : Inv G W0 I0 n st a w) {d : Nat} (hd : d < n) {T : TypeId} {m : Nat} {parts : Array (Nat × Operand)} (hx : ∀ p ∈ parts.toList, constOk p.2 = true) {st' : St} (he : evBuildSlice L st d T m parts.toList = some st') :
    ∃ v w', (Instr.buildSlice T m (parts.map fun (i, x) => (i, a.eval x))).run P w = .ok v w' ∧ Inv G W0 I0 n st' (a.put (some d) v) w' := by
  obtain ⟨I, F, h⟩ := h
  unfold evBuildSlice at he
  split at he
  · rename_i ti hti
    obtain ⟨i, dd, z, hs⟩ := hL.spec hti
    split at he
    · rename_i e hk
      split at he
      · rename_i te hte
        obtain ⟨i2, dd2, z2, hs2⟩ := hL.spec hte
        split at he
        · rename_i hm0
          split at he
          · rename_i hparts
            injection he with he
            subst he
            subst hm0
            have hp : parts = #[] := by
              apply Array.ext'
              simpa using hparts
            subst hp
            have hrun : (Instr.buildSlice T 0 ((#[] : Array (Nat × Operand)).map fun (i, x) => (i, a.eval x))).run P w = .ok (.slice (some ⟨w.heap.size, 0, none⟩) 0 0) (w.alloc (.cells #[] e)) := by
              simp [Instr.buildSlice, run_underlying (hs.slice hk), sizeOf, typeInfo, hs2.info, newRow, Instr.fill]
              have e0 : ∀ f : Nat → Value, Array.map f (Array.range 0) = #[] := by
                intro f
                apply Array.ext'
                simp
              rw [e0]
            refine ⟨_, _, hrun, ?_⟩
            have h2 := h.fresh (.cells #[] e) (hGW _ (h.below.alloc h.below.size _))
            refine InvX.put_val (F' := [w.heap.size]) (g := false) h2 hd ?_
            simp only [RepG, Bool.false_eq_true, if_false, RepR_single, RepC]
            refine ⟨[], [], by simp [RepRs], ⟨by simp, Or.inr ⟨w.heap.size, 0, #[], rfl, Nat.zero_le _, heap_alloc_new _ _, Nat.le_refl _, Nat.zero_le _, by simp, by simp⟩⟩, by simp [Value.ownBlock]⟩
          · cases he
        split at he
        · rename_i ps st1 hta
          split at he
          · rename_i rows hrows
            split at he
            · rename_i hc
              obtain ⟨hlen, hmk, hpos, hm0⟩ := hc
              injection he with he
              subst he
              obtain ⟨F1, F', h1, hps⟩ := takeAll_spec h hta hx
              have hsz : i2.size = te.size := hs2.size
              have hpp := partRows_spec (pre := []) (rest := ((Array.range (m * te.size)).map (z2.cells[· % z2.cells.size]!)).toList) hps hrows (by simp) (by simp [hlen])
              obtain ⟨vs, hf, hrs⟩ := hpp
              have hmpos : 0 < m * te.size := Nat.mul_pos hm0 hpos
              have hrun := run_buildSlice (P := P) w T e m (parts.map fun (i, x) => (i, a.eval x)) vs.toArray i2 z2 (hs.slice hk) hs2.info hs2.zero (by rw [hsz]; omega) (by rw [hsz]; omega) (by
                rw [hsz]
                simp only [List.nil_append, Array.toArray_toList] at hf
                rw [← hf]
                simp)
              refine ⟨_, _, hrun, ?_⟩
              have h2 := h1.fresh (.cells vs.toArray e) (hGW _ (h.below.alloc h.below.size _))
              have hvl : vs.length = m * te.size := by rw [hrs.length, hlen]
              refine InvX.put_val (F' := w.heap.size :: F') (g := false) h2 hd ?_
              simp only [RepG, Bool.false_eq_true, if_false, RepR_single, RepC]
              refine ⟨vs, F', ?_, ?_, by simp [Value.ownBlock]⟩
              · exact RepRs.move (fun g hg => Below.heap_alloc w _ g (h.Ilt g hg)) _ _ _ _ (fun g hg => Below.heap_alloc w _ g (h1.Xok g (by simp [hg])).2.1) hrs
              · refine ⟨by rw [hlen]; exact hvl, Or.inr ⟨w.heap.size, m, vs.toArray, by rw [hlen], Nat.zero_le _, heap_alloc_new _ _, by omega, ?_, by simp [hvl], ?_⟩⟩
                · have : m ≤ m * te.size := Nat.le_mul_of_pos_right m hpos
                  simp only [maxLen]; omega
                · rw [hlen, ← hvl]; exact List.take_length
            · cases he
          · cases he
        · cases he
      · cases he
    · cases he
  · cases he
end
end Go.Proofs.Vm
