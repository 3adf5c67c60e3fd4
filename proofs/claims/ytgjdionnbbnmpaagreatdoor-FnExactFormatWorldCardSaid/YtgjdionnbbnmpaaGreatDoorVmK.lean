/- A part of the proof of the card: lemmas that the text with the card leans on (see there for what is proved, and under which conditions). -/
import Derived.Test.YtgjdionnbbnmpaaGreatDoorVmJ
set_option linter.unusedVariables false
set_option linter.unusedSimpArgs false
namespace Go.Proofs.Vm
open Go Go.RowKit

section
variable {P : Program} {L : Lay} {G : Glob} {W0 : Base} {I0 : Nat → Prop} {n : Nat} {I : Nat → Prop} {F : Nat → List Nat} {X : List Nat} {st : St} {a : Act} {w : World}

theorem RepG_flat {g : Bool} {v u : Value} {F : List Nat} (h : RepG w I g [.v v] u F) (hg : g = false) : u = v ∧ v.oneCell' = true := by
  subst hg
  simp only [RepG, Bool.false_eq_true, if_false, RepR_single, RepC] at h
  exact ⟨h.1, h.2.1⟩
theorem flat_spec (h : InvX G W0 I0 n I F X st a w) {x : Operand} {v : Value} (hf : st.flat x = some v) : a.eval x = v := by
  cases x with
  | const u => simp only [St.flat, Option.some.injEq] at hf; subst hf; rfl
  | tmp t =>
    simp only [St.flat] at hf
    split at hf
    · rename_i y hg
      injection hf with hf
      subst hf
      exact (RepG_flat (h.live_val hg).1 rfl).1
    · cases hf
  | global g => simp [St.flat] at hf
  | func f => simp [St.flat] at hf

theorem list_imm (h : InvX G W0 I0 n I F X st a w) {x : Operand} {rows : List (List C)} {k : Option Nat} (hl : st.list x = some (.imm rows k)) :
    ∃ A c, a.eval x = .slice A rows.length c ∧ (rows.length ≤ c ∧ c ≤ maxLen) ∧ (rows ≠ [] → ∃ g off vs kk, k = some kk ∧ A = some ⟨g, off, none⟩ ∧ I g ∧ w.rangeAt g off vs ∧ RepRs w I kk rows vs []) := by
  cases x with
  | const u =>
    simp only [St.list] at hl
    split at hl
    · rename_i heq; cases heq
    · rename_i heq
      injection hl with hl
      injection hl with h1 h2
      subst h1; subst h2
      injection heq with heq
      subst heq
      exact ⟨none, 0, rfl, ⟨Nat.zero_le _, Nat.zero_le _⟩, fun hh => absurd rfl hh⟩
    · cases hl
  | tmp t =>
    simp only [St.list] at hl
    cases hg : st.get t with
    | val g row =>
      rw [hg] at hl
      obtain ⟨hr, hu⟩ := h.live_val hg
      unfold lsOf at hl
      split at hl
      · rename_i heq
        injection heq with e1 e2
        subst e1; subst e2
        injection hl with hl
        injection hl with e1 e2
        subst e1; subst e2
        simp only [RepG, Bool.false_eq_true, if_false, RepR_single, RepC] at hr
        obtain ⟨_, A, c, hA, hm, hh⟩ := hr
        refine ⟨A, c, hA, hm, fun hne => ?_⟩
        obtain ⟨g', off, vs, h1, h2, h3, h4⟩ := hh hne
        exact ⟨g', off, vs, _, rfl, h1, h2, h3, h4⟩
      · injection hl with hl; cases hl
      · rename_i heq
        injection heq with e1 e2
        subst e1; subst e2
        injection hl with hl
        injection hl with e1 e2
        subst e1; subst e2
        exact ⟨none, 0, (RepG_flat hr rfl).1, ⟨Nat.zero_le _, Nat.zero_le _⟩, fun hh => absurd rfl hh⟩
      · cases ‹SV.val g row = SV.al _ _›
      · cases hl
    | al d off =>
      rw [hg] at hl
      simp only [lsOf] at hl
      split at hl
      · injection hl with hl; cases hl
      · cases hl
    | dead => rw [hg] at hl; cases hl
    | box _ _ => rw [hg] at hl; cases hl
    | ptr _ _ => rw [hg] at hl; cases hl
    | ep _ _ => rw [hg] at hl; cases hl
    | eo _ _ _ _ => rw [hg] at hl; cases hl
    | tup _ => rw [hg] at hl; cases hl
    | fn _ _ => rw [hg] at hl; cases hl
  | global g => simp [St.list] at hl
  | func f => simp [St.list] at hl

theorem list_own (h : InvX G W0 I0 n I F X st a w) {x : Operand} {d off : Nat} {e : TypeId} {k : Nat} {rows : List (List C)} (hl : st.list x = some (.own d off e k rows)) :
    ∃ ud uc F1 Fc F2, a.tmps[d]? = some ud ∧ F d = F1 ++ (Fc ++ F2) ∧ RepC w I (.l (some e) k rows) uc Fc ∧ hdr w ud off = some uc ∧ a.eval x = uc ∧ st.cell d off = some (.l (some e) k rows) := by
  cases x with
  | const u =>
    simp only [St.list] at hl
    split at hl
    · rename_i heq; cases heq
    · injection hl with hl; cases hl
    · cases hl
  | tmp t =>
    simp only [St.list] at hl
    cases hg : st.get t with
    | val g row =>
      rw [hg] at hl
      obtain ⟨hr, hu⟩ := h.live_val hg
      unfold lsOf at hl
      split at hl
      · injection hl with hl; cases hl
      · rename_i heq
        injection heq with e1 e2
        subst e1; subst e2
        injection hl with hl
        injection hl with e1 e2 e3 e4 e5
        subst e1; subst e2; subst e3; subst e4; subst e5
        rename_i _ e0 k0 rows0
        have hcell : st.cell t 0 = some (.l (some e0) k0 rows0) := by unfold St.cell; rw [hg]; rfl
        have hv := h.at hu
        obtain ⟨uc, F1, Fc, F2, hFd, hrc, hhd, _⟩ := hv.focus (off := 0) (e := e0) (k := k0) (rows := rows0) (by rw [hg]; rfl)
        refine ⟨_, uc, F1, Fc, F2, hu, hFd, hrc, hhd, ?_, hcell⟩
        simp only [RepG, Bool.false_eq_true, if_false, RepR_single, RepC] at hr
        obtain ⟨_, _, _, ho, _⟩ := hr
        rcases ho.2 with ⟨hh, _⟩ | ⟨g', cap, cur, hh, _⟩
        · rw [hh] at hhd ⊢
          simp [hdr, Value.cells] at hhd
          exact hhd
        · rw [hh] at hhd ⊢
          simp [hdr, Value.cells] at hhd
          exact hhd
      · injection hl with hl; cases hl
      · cases ‹SV.val g row = SV.al _ _›
      · cases hl
    | al d' off' =>
      rw [hg] at hl
      simp only [lsOf] at hl
      split at hl
      · rename_i hc
        injection hl with hl
        injection hl with e1 e2 e3 e4 e5
        subst e1; subst e2; subst e3; subst e4; subst e5
        obtain ⟨u, hu, hr⟩ := h.live (t := t) (by rw [hg]; simp)
        rw [hg] at hr
        simp only [RepV] at hr
        obtain ⟨_, ⟨ud, hd, hh⟩, _⟩ := hr
        have hv := h.at hd
        obtain ⟨uc, F1, Fc, F2, hFd, hrc, hhd, _⟩ := hv.focus (off := d'.succ - d'.succ + off') (e := _) (k := _) (rows := _) (by unfold St.cell at hc; simp only [Nat.sub_self, Nat.zero_add]; cases hs : st.get d' <;> rw [hs] at hc <;> first | (simp at hc; done) | simpa using hc)
        simp only [Nat.sub_self, Nat.zero_add] at hhd
        refine ⟨ud, uc, F1, Fc, F2, hd, hFd, hrc, hhd, ?_, hc⟩
        rw [eval_tmp hu]
        rw [hh] at hhd
        injection hhd
      · cases hl
    | dead => rw [hg] at hl; cases hl
    | box _ _ => rw [hg] at hl; cases hl
    | ptr _ _ => rw [hg] at hl; cases hl
    | ep _ _ => rw [hg] at hl; cases hl
    | eo _ _ _ _ => rw [hg] at hl; cases hl
    | tup _ => rw [hg] at hl; cases hl
    | fn _ _ => rw [hg] at hl; cases hl
  | global g => simp [St.list] at hl
  | func f => simp [St.list] at hl

theorem list_len (h : InvX G W0 I0 n I F X st a w) {x : Operand} {l : LS} (hl : st.list x = some l) : ∃ A c, a.eval x = .slice A l.rows.length c ∧ l.rows.length ≤ maxLen := by
  cases l with
  | imm rows k => obtain ⟨A, c, h1, h2, _⟩ := list_imm h hl; exact ⟨A, c, h1, Nat.le_trans h2.1 h2.2⟩
  | own d off e k rows =>
    obtain ⟨ud, uc, F1, Fc, F2, _, _, hr, _, he, _⟩ := list_own h hl
    simp only [RepC] at hr
    obtain ⟨vs, F', _, ho, _⟩ := hr
    rcases ho.2 with ⟨hh, hn⟩ | ⟨g', cap, cur, hh, _, _, hnc, hcm, _⟩
    · refine ⟨none, 0, by rw [he, hh]; simp only [LS.rows, hn], by simp only [LS.rows, hn]; exact Nat.zero_le _⟩
    · exact ⟨_, cap, by rw [he, hh]; rfl, Nat.le_trans hnc hcm⟩

theorem put_flat (h : InvX G W0 I0 n I F [] st a w) {d : Nat} (hd : d < n) {v : Value} (hv : v.oneCell' = true) : Inv G W0 I0 n (st.put d (.val false [.v v])) (a.put (some d) v) w :=
  h.put_nil hd rfl (by simp only [RepV, RepR_single, RepC]; exact ⟨trivial, hv, trivial⟩)

variable (hL : L.ok P)
include hL
theorem ev_len (h : Inv G W0 I0 n st a w) {d : Nat} (hd : d < n) {T ty : TypeId} {x : Operand} {st' : St} (he : evLen L st d T x = some st') :
    ∃ v, (Builtin.len_ #[T] ty #[a.eval x]).run P w = .ok v w ∧ Inv G W0 I0 n st' (a.put (some d) v) w := by
  obtain ⟨I, F, h⟩ := h
  unfold evLen at he
  split at he
  · rename_i ti hti
    obtain ⟨i, dd, z, hs⟩ := hL.spec hti
    split at he
    · rename_i e hk
      split at he
      · rename_i l hl
        injection he with he
        subst he
        obtain ⟨A, c, hv, _⟩ := list_len h hl
        rw [hv]
        exact ⟨_, by simp [Builtin.len_, run_underlying (hs.slice hk), goInt], put_flat h hd rfl⟩
      · cases he
    · rename_i hk
      split at he
      · rename_i s hf
        injection he with he
        subst he
        rw [flat_spec h hf]
        exact ⟨_, by simp [Builtin.len_, run_underlying (hs.str hk), goInt], put_flat h hd rfl⟩
      · cases he
    · cases he
  · cases he

theorem ev_index (h : Inv G W0 I0 n st a w) {d : Nat} (hd : d < n) {T : TypeId} {x i : Operand} {st' : St} {p : Prop} (he : evIndex L st d T x i = some (st', p)) (hp : p) :
    ∃ v, (Instr.index T (a.eval x) (a.eval i)).run P w = .ok v w ∧ Inv G W0 I0 n st' (a.put (some d) v) w := by
  obtain ⟨I, F, h⟩ := h
  unfold evIndex at he
  split at he
  · rename_i ti s k nn hti hx hi
    obtain ⟨i', dd, z, hs⟩ := hL.spec hti
    split at he
    · rename_i hk
      simp only [Option.some.injEq, Prod.mk.injEq] at he
      obtain ⟨rfl, rfl⟩ := he
      rw [flat_spec h hx, flat_spec h hi]
      refine ⟨_, (run_index_string (P := P) w T s k nn (hs.str hk)).trans (dif_pos hp), ?_⟩
      have hlt : nn.toNat < s.size := by omega
      have hb : byteAt s nn = ((s[nn.toNat]'hlt).toNat : Int) := by unfold byteAt; rw [dif_pos hlt]
      rw [hb]
      exact put_flat h hd rfl
    · cases he
  · cases he

theorem ev_indexAddr (h : Inv G W0 I0 n st a w) {d : Nat} (hd : d < n) {T : TypeId} {x i : Operand} {st' : St} {p : Prop} (he : evIndexAddr L st d T x i = some (st', p)) (hp : p) :
    ∃ v, (Instr.indexAt T (a.eval x) (a.eval i)).run P w = .ok v w ∧ Inv G W0 I0 n st' (a.put (some d) v) w := by
  obtain ⟨I, F, h⟩ := h
  unfold evIndexAddr at he
  split at he
  · rename_i ti hti
    obtain ⟨i', dd, z, hs⟩ := hL.spec hti
    split at he
    · rename_i e hk
      have hu := hs.slice hk
      split at he
      · rename_i te rows k ik nn hte hx hi
        obtain ⟨i2, dd2, z2, hs2⟩ := hL.spec hte
        split at he
        · rename_i hkk
          simp only [Option.some.injEq, Prod.mk.injEq] at he
          obtain ⟨rfl, rfl⟩ := he
          obtain ⟨A, c, hv, hm, hh⟩ := list_imm h hx
          obtain ⟨g, off, vs, kk, hkeq, rfl, hIg, hra, hrs⟩ := hh (by rintro rfl; simp at hp; omega)
          injection hkeq with hkeq
          subst hkeq
          rw [hv, flat_spec h hi]
          have hlt : nn.toNat < rows.length := by omega
          obtain ⟨v1, v2, v3, F1, F2, F3, hvs, hF, hl1, hl2, hk2, _, hr2, _⟩ := RepRs_at hrs nn.toNat hlt
          obtain ⟨_, rfl, _⟩ := append_nil3 hF
          refine ⟨.pointer (some ⟨g, off + nn.toNat * k, none⟩), ?_, h.put_nil hd rfl ?_⟩
          · have hsz : i2.size = k := by rw [hs2.size]; exact hkk
            simp [Instr.indexAt, run_underlying hu, asIntOf, hp, sizeOf, typeInfo, hs2.info, Addr.add_mid, hsz]
          · simp only [RepV]
            exact ⟨trivial, g, off + nn.toNat * k, v2, rfl, hIg, rangeAt_mid hra hvs hl1, hr2⟩
        · cases he
      · rename_i te s off el k rows ik nn hte hx hi
        obtain ⟨i2, dd2, z2, hs2⟩ := hL.spec hte
        split at he
        · rename_i hkk
          obtain ⟨hkk, hsd⟩ := hkk
          simp only [Option.some.injEq, Prod.mk.injEq] at he
          obtain ⟨rfl, rfl⟩ := he
          obtain ⟨ud, uc, F1, Fc, F2, hud, hFd, hrc, hhd, hev, hcell⟩ := list_own h hx
          simp only [RepC] at hrc
          obtain ⟨vs, F', hrs, hown, _⟩ := hrc
          have hlt : nn.toNat < rows.length := by omega
          rcases hown.2 with ⟨_, hn⟩ | ⟨g, cap, cur, rfl, _⟩
          · omega
          · rw [hev, flat_spec h hi]
            refine ⟨.pointer (some ⟨g, nn.toNat * k + 0, none⟩), ?_, h.put_nil hd (by simp [SV.names, hsd]) ?_⟩
            · have hsz : i2.size = k := by rw [hs2.size]; exact hkk
              simp [Instr.indexAt, run_underlying hu, asIntOf, hp, sizeOf, typeInfo, hs2.info, Addr.add_mid, hsz]
            · simp only [RepV]
              exact ⟨trivial, ud, g, rows.length, cap, hud, hhd, el, k, rows, hcell, hlt, rfl⟩
        · cases he
      · cases he
    · cases he
  · cases he

theorem ev_field (h : Inv G W0 I0 n st a w) {d : Nat} (hd : d < n) {T : TypeId} {x : Operand} {f : Nat} {st' : St} {p : Prop} (he : evField L st d T x f = some (st', p)) (hp : p) :
    ∃ v, (Instr.field T (a.eval x) f).run P w = .ok v w ∧ Inv G W0 I0 n st' (a.put (some d) v) w := by
  obtain ⟨I, F, h⟩ := h
  cases x with
  | tmp t =>
    simp only [evField] at he
    split at he
    · rename_i row o tf hg hf
      obtain ⟨fields, fld, i, dd, z, hu, hfl, rfl, _, hs⟩ := fieldOf_spec hL hf
      obtain ⟨hr, _⟩ := h.live_val hg
      simp only [RepG, if_true] at hr
      obtain ⟨vs, hv, hrr⟩ := hr
      rw [hv]
      have hisz : i.size = tf.size := hs.size
      split at he
      · rename_i hagg
        split at he
        · cases he
        · rename_i hown
          simp only [Option.some.injEq, Prod.mk.injEq] at he
          obtain ⟨rfl, rfl⟩ := he
          obtain ⟨v1, v2, v3, F1, F2, F3, rfl, _, hl1, hl2, _, hr2, _⟩ := RepR_mid hrr fld.offset tf.size hp
          have : F2 = [] := rowOwn_nil (by simpa using hown) hr2
          subst this
          refine ⟨.agg v2.toArray, ?_, h.put_nil hd rfl ?_⟩
          · have e1 : (v1 ++ (v2 ++ v3)).toArray.extract fld.offset (fld.offset + tf.size) = v2.toArray := by
              rw [← hl1, ← hl2]
              simp [List.extract_toArray, List.extract_eq_take_drop]
            simp only [Instr.field, Sem.run_bind, run_underlying hu, Result.andThen_ok, hfl, asAgg, Sem.run_pure, part, isAgg_of w hs.under, show dd.isRow = true from by rw [hs.agg]; exact hagg, if_true]
            have e2 : (sizeOf fld.type).run P w = .ok tf.size w := by simp [sizeOf, typeInfo, hs.info, hisz]
            simp only [Sem.run_bind, e2, Result.andThen_ok, Sem.run_pure, e1]
          · simp only [RepV]; exact ⟨v2, rfl, hr2⟩
      · rename_i hagg
        split at he
        · rename_i c hc
          split at he
          · cases he
          · rename_i hown
            simp only [Option.some.injEq, Prod.mk.injEq] at he
            obtain ⟨rfl, rfl⟩ := he
            obtain ⟨v1, uc, v3, F1, Fc, F2, rfl, hl, _, hrc, _⟩ := RepR_focus hrr hc
            have hr1 : RepR w I [c] [uc] Fc := RepR_single.2 hrc
            have : Fc = [] := rowOwn_nil (by simpa [rowOwn] using hown) hr1
            subst this
            refine ⟨uc, ?_, h.put_nil hd rfl ?_⟩
            · have e1 : (v1 ++ uc :: v3).toArray[fld.offset]? = some uc := by rw [← hl]; simp
              simp only [Instr.field, Sem.run_bind, run_underlying hu, Result.andThen_ok, hfl, asAgg, Sem.run_pure, part, isAgg_of w hs.under, show dd.isRow = false from by rw [hs.agg]; simpa using hagg]
              simp [e1]
            · simp only [RepV]; exact hr1
        · cases he
    · cases he
  | const v => simp [evField] at he
  | global g => simp [evField] at he
  | func f => simp [evField] at he
end
end Go.Proofs.Vm
