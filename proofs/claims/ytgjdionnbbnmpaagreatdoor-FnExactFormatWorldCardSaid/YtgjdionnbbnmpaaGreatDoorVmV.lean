/- A part of the proof of the card: lemmas that the text with the card leans on (see there for what is proved, and under which conditions). -/
import Derived.Test.YtgjdionnbbnmpaaGreatDoorVmU
set_option linter.unusedVariables false
set_option linter.unusedSimpArgs false
namespace Go.Proofs.Vm
open Go Go.RowKit

/-! ### Code -/
/-- Behind a region: only what still counts. -/
def keepK (l : List Nat) (K : Exit → St → Prop) : St → Prop := fun st => K .normal (st.only l)
theorem keepK_at {l : List Nat} {K : Exit → St → Prop} {st : St} : keepK l K st = K .normal (st.only l) := rfl
def goLoop (f : St → (Exit → St → Prop) → Prop) (l : List Nat) : Nat → St → (Exit → St → Prop) → Prop
  | 0, _, _ => False
  | m + 1, st, K => f (st.only l) fun e st' => match e with
    | .normal => goLoop f l m st' K
    | e => K e st'
def go (S : FuncId → List SV → SV → Prop) (n : Nat) (L : Lay) (mx fr : Bool) (dd : List (List Nat)) : Code → St → (Exit → St → Prop) → Prop
  | .skip, st, K => K .normal st
  | .region id ops true, st, K => drawOk mx ops = true ∧ goRun S n L none ops ops.toList (st.forget (drawDsts ops)) (keepK (dd.getD id []) K)
  | .region id ops false, st, K => goRun S n L (some fr) ops ops.toList st (keepK (dd.getD id []) K)
  | .seq x y, st, K => go S n L mx fr dd x st fun e st' => match e with
    | .normal => go S n L mx fr dd y st' K
    | e => K e st'
  | .cond c x y, st, K =>
    match st.flat c with
    | some (.bool b) => (b = true → go S n L mx fr dd x st K) ∧ (b = false → go S n L mx fr dd y st K)
    | _ => False
  | .block id c, st, K => go S n L mx fr dd c st fun e st' => match e with
    | .exit id' => if id' = id then K .normal st' else K (.exit id') st'
    | e => K e st'
  | .loop c, st, K => ∃ l m, goLoop (go S n L mx fr dd c) l m st K
  | .exit id, st, K => K (.exit id) st
  | .ret, st, K => K .ret st
  | _, _, _ => False

def seqK (F : St → (Exit → St → Prop) → Prop) (K : Exit → St → Prop) : Exit → St → Prop := fun e st' => match e with
  | .normal => F st' K
  | e => K e st'
def blockK (id : Nat) (K : Exit → St → Prop) : Exit → St → Prop := fun e st' => match e with
  | .exit id' => if id' = id then K .normal st' else K (.exit id') st'
  | e => K e st'
section
variable {S : FuncId → List SV → SV → Prop} {n : Nat} {L : Lay} {mx fr : Bool} {dd : List (List Nat)} {st : St} {K : Exit → St → Prop}
theorem seqK_normal {F : St → (Exit → St → Prop) → Prop} : seqK F K .normal st = F st K := rfl
theorem seqK_exit {F : St → (Exit → St → Prop) → Prop} {id : Nat} : seqK F K (.exit id) st = K (.exit id) st := rfl
theorem seqK_ret {F : St → (Exit → St → Prop) → Prop} : seqK F K .ret st = K .ret st := rfl
theorem blockK_normal {id : Nat} : blockK id K .normal st = K .normal st := rfl
theorem blockK_exit {id id' : Nat} : blockK id K (.exit id') st = if id' = id then K .normal st else K (.exit id') st := rfl
theorem blockK_ret {id : Nat} : blockK id K .ret st = K .ret st := rfl
theorem go_skip : go S n L mx fr dd .skip st K = K .normal st := rfl
theorem go_region {id : Nat} {ops : Array Oper} : go S n L mx fr dd (.region id ops false) st K = goRun S n L (some fr) ops ops.toList st (keepK (dd.getD id []) K) := rfl
theorem go_draw {id : Nat} {ops : Array Oper} : go S n L mx fr dd (.region id ops true) st K = (drawOk mx ops = true ∧ goRun S n L none ops ops.toList (st.forget (drawDsts ops)) (keepK (dd.getD id []) K)) := rfl
theorem go_seq {x y : Code} : go S n L mx fr dd (.seq x y) st K = go S n L mx fr dd x st (seqK (go S n L mx fr dd y) K) := rfl
theorem go_cond {c : Operand} {x y : Code} : go S n L mx fr dd (.cond c x y) st K = (match st.flat c with
    | some (.bool b) => (b = true → go S n L mx fr dd x st K) ∧ (b = false → go S n L mx fr dd y st K)
    | _ => False) := rfl
theorem go_block {id : Nat} {c : Code} : go S n L mx fr dd (.block id c) st K = go S n L mx fr dd c st (blockK id K) := rfl
theorem go_loop {c : Code} : go S n L mx fr dd (.loop c) st K = ∃ l m, goLoop (go S n L mx fr dd c) l m st K := rfl
theorem go_exit {id : Nat} : go S n L mx fr dd (.exit id) st K = K (.exit id) st := rfl
theorem go_ret : go S n L mx fr dd .ret st K = K .ret st := rfl
/-- A loop's rounds: s i: the state in which round i begins; Q: what is known then. -/
theorem loop_up {f : St → (Exit → St → Prop) → Prop} (l : List Nat) (N : Nat) (s : Nat → St) (Q : Nat → Prop) (h0 : st.only l = s 0) (hQ : Q 0)
    (hstep : ∀ i, i < N → Q i → ∀ F : St → (Exit → St → Prop) → Prop, (∀ st', st'.only l = s (i + 1) → Q (i + 1) → F st' K) → f (s i) (seqK F K))
    (hend : Q N → ∀ F : St → (Exit → St → Prop) → Prop, f (s N) (seqK F K)) : ∃ l m, goLoop f l m st K := by
  have key : ∀ k i st, i + k = N → Q i → st.only l = s i → goLoop f l (k + 1) st K := by
    intro k
    induction k with
    | zero =>
      intro i st hi hq hs
      show f (st.only l) (seqK (goLoop f l 0) K)
      rw [hs]
      obtain rfl : i = N := by omega
      exact hend hq _
    | succ k ih =>
      intro i st hi hq hs
      show f (st.only l) (seqK (goLoop f l (k + 1)) K)
      rw [hs]
      exact hstep i (by omega) hq _ (fun st' hs' hq' => ih (i + 1) st' (by omega) hq' hs')
  exact ⟨l, N + 1, key N 0 st (by omega) hQ h0⟩
theorem goLoop_succ {f : St → (Exit → St → Prop) → Prop} {l : List Nat} {m : Nat} : goLoop f l (m + 1) st K = f (st.only l) (seqK (goLoop f l m) K) := rfl
end

/-! ### A function's start and end -/
def initFrom : Nat → List SV → St
  | _, [] => []
  | i, sv :: r => (i, sv) :: initFrom (i + 1) r
/-- A result, with all that it owns. -/
def takeRes (L : Lay) (st : St) : ResultVar → Option (Bool × List C × St)
  | .tmp t => st.take (.tmp t)
  | .cell a T =>
    match st.get a, L T with
    | .box _ row, some ti => if row.length = ti.size ∧ ti.agg = true then some (true, row, st.put a .dead) else none
    | _, _ => none
def resAll (L : Lay) : St → List ResultVar → Option (List Arg)
  | _, [] => some []
  | st, r :: rs =>
    match takeRes L st r with
    | some (g, row, st1) => (resAll L st1 rs).map ((g, row) :: ·)
    | none => none
def resOf (L : Lay) (st : St) (rs : List ResultVar) : Option SV :=
  match rs with
  | [r] => (takeRes L st r).map fun r => .val r.1 r.2.1
  | rs => (resAll L st rs).map .tup
/-- The end of a function: it returns what res tells. -/
def endK (L : Lay) (rs : List ResultVar) (res : SV) : Exit → St → Prop := fun e st => (e = .normal ∨ e = .ret) ∧ resOf L st rs = some res
theorem endK_ret {L : Lay} {rs : List ResultVar} {res : SV} {st : St} : endK L rs res .ret st = (resOf L st rs = some res) := by simp [endK]
theorem endK_normal {L : Lay} {rs : List ResultVar} {res : SV} {st : St} : endK L rs res .normal st = (resOf L st rs = some res) := by simp [endK]

section
variable {P : Program} {L : Lay} {G : Glob} {W0 : Base} {I0 : Nat → Prop} {n : Nat} {I : Nat → Prop} {F : Nat → List Nat} {X : List Nat} {st : St} {a : Act} {w : World}

theorem StepsO.split {S : FuncId → List SV → SV → Prop} {dr : Option Bool} {all : Array Oper} : ∀ {l1 l2 : List Oper} {st st2 : St}, StepsO S n L dr all (l1 ++ l2) st st2 → ∃ st1, StepsO S n L dr all l1 st st1 ∧ StepsO S n L dr all l2 st1 st2
  | [], l2, st, st2, h => ⟨st, .nil, h⟩
  | o :: l1, l2, st, st2, h => by
    cases h with
    | cons h1 h2 =>
      obtain ⟨st1, h3, h4⟩ := StepsO.split (l1 := l1) h2
      exact ⟨st1, .cons h1 h3, h4⟩

section
variable (hL : L.ok P) (hG0 : G W0.w) (hM : ∀ g, W0.M g → G.B ≤ g) {mx fr : Bool} {dd : List (List Nat)} (hmx : P.follows .mixedOrders = mx)
include hL hG0 hM hmx
theorem draw_wp {Q : Exit → Act → World → Prop} {id : Nat} {all : Array Oper} (hok : drawOk mx all = true) (h : Inv G W0 I0 n st a w) {s' : St} (hs : StepsO (Sat P G) n L none all all.toList (st.forget (drawDsts all)) s')
    (hQ : ∀ a' w', Inv G W0 I0 n s' a' w' → Q .normal a' w') : (Code.region id all true).wp P Q a w := by
  obtain ⟨h0, hsp⟩ := drawOk_spec hok
  refine wp_region_draw fun t => ?_
  have hsch : Region.schedule (P.follows .mixedOrders) all t = Region.linearise .any all t := by
    unfold Region.schedule
    rw [hmx, if_pos h0]
  rw [hsch]
  have hm : quietLen all ≤ all.size := by rcases hsp.size with h3 | ⟨h3, _⟩ <;> omega
  have hw : Inv G W0 I0 n (st.forget (drawDsts all)) a { w with drawn := w.drawn + 1 } := by
    obtain ⟨I, F, h1⟩ := (h.forget (l := drawDsts all))
    have hb : ∀ B, Below B w { w with drawn := w.drawn + 1 } := fun B => ⟨rfl, rfl, rfl, Nat.le_refl _, fun _ _ => rfl⟩
    exact ⟨I, F, h1.world (G.mono _ _ h1.glob (hb _)) ⟨rfl, rfl, rfl, Nat.le_refl _, fun _ _ => rfl⟩ (fun _ _ => rfl) (fun _ _ _ => rfl)⟩
  have hdead : ∀ i, i < quietLen all → (st.forget (drawDsts all)).get (dstAt all i) = .dead := fun i hi => forget_dead (Or.inl (by
    have := dstsQ_mem (l := all.toList) hi
    rw [Array.getElem?_toList] at this
    exact this))
  have hlist : all.toList = all.toList.take (quietLen all) ++ all.toList.drop (quietLen all) := (List.take_append_drop _ _).symm
  rw [hlist] at hs
  obtain ⟨s, hs1, hs2⟩ := hs.split
  have hlen : (all.toList.take (quietLen all)).length = quietLen all := by simp; omega
  obtain ⟨f1, f2⟩ := steps_facts hsp (k := 0) (fun j hj => by
      rw [hlen] at hj
      rw [List.getElem?_take, if_pos hj, Nat.zero_add, Array.getElem?_toList]) (by rw [hlen, Nat.zero_add]) hs1 hw.ok (fun i _ hi => hdead i hi)
  refine wpAny_sound all.size t (Array.replicate all.size false) a _ ?_
  refine any_wp hL hG0 hM hsp (st := st.forget (drawDsts all)) (s := s) (s' := s') (fun t ht => f1 t (fun i _ hi => ht i hi)) hdead (fun i hi => f2 i (Nat.zero_le _) hi) ?_ hQ all.size _ _ a _ (by simp) hw ?_ ?_ ?_ ?_
  · rcases hsp.size with h3 | ⟨h3, o, ho, _⟩
    · left
      refine ⟨h3, ?_⟩
      have : all.toList.drop (quietLen all) = [] := List.drop_eq_nil_of_le (by simp; omega)
      rw [this] at hs2
      cases hs2
      rfl
    · right
      refine ⟨h3, o, ho, ?_⟩
      have : all.toList.drop (quietLen all) = [o] := by
        have hlt : quietLen all < all.toList.length := by simp; omega
        rw [List.drop_eq_getElem_cons hlt, List.drop_eq_nil_of_le (by simp; omega)]
        have : all.toList[quietLen all] = o := by
          have h4 := List.getElem?_eq_getElem hlt
          rw [Array.getElem?_toList, ho] at h4
          injection h4 with h4
          exact h4.symm
        rw [this]
      rw [this] at hs2
      cases hs2 with
      | cons h5 h6 => cases h6; exact h5
  · unfold unl
    exact Nat.le_trans (List.length_filter_le _ _) (by simp)
  · intro i h3 h4
    simp [Array.getD, h4]
  · intro i h3 h4
    have : i < all.size := by omega
    simp [Array.getD, this] at h4
  · intro t _
    rfl

omit hL hG0 hM hmx in
theorem least {p : Nat → Prop} (h : ∃ m, p m) : ∃ m, p m ∧ ∀ k, p k → m ≤ k := by
  obtain ⟨m, hm⟩ := h
  induction m using Nat.strongRecOn with
  | _ m ih =>
    by_cases hh : ∃ k, k < m ∧ p k
    · obtain ⟨k, hk, hp⟩ := hh
      exact ih k hk hp
    · refine ⟨m, hm, fun k hk => ?_⟩
      by_cases hkm : m ≤ k
      · exact hkm
      · exact absurd ⟨k, by omega, hk⟩ hh
omit hL hG0 hM hmx in
theorem loop_wp {c : Code} {K : Exit → St → Prop} {Q : Exit → Act → World → Prop}
    (ih : ∀ {st : St} {a : Act} {w : World} {K : Exit → St → Prop} {Q : Exit → Act → World → Prop}, Inv G W0 I0 n st a w → go (Sat P G) n L mx fr dd c st K → (∀ e st' a' w', K e st' → Inv G W0 I0 n st' a' w' → Q e a' w') → c.wp P Q a w)
    {l : List Nat} {m : Nat} (h : Inv G W0 I0 n st a w) (hg : goLoop (go (Sat P G) n L mx fr dd c) l m st K) (hQ : ∀ e st' a' w', K e st' → Inv G W0 I0 n st' a' w' → Q e a' w') : (Code.loop c).wp P Q a w := by
  classical
  let R : Nat → Act → World → Prop := fun m a w => ∃ st, Inv G W0 I0 n st a w ∧ goLoop (go (Sat P G) n L mx fr dd c) l m st K
  refine wp_loop (fun a w => ∃ m, R m a w) (fun a w => if h : ∃ m, R m a w then Classical.choose (least h) else 0) ⟨m, st, h, hg⟩ ?_
  intro a w hI
  simp only [dif_pos hI]
  obtain ⟨⟨st1, h1, h2⟩, _⟩ := Classical.choose_spec (least hI)
  generalize Classical.choose (least hI) = k at h2
  cases k with
  | zero => cases h2
  | succ k =>
    simp only [goLoop] at h2
    refine ih (h1.only l) h2 ?_
    intro e st' a' w' hK hI'
    cases e with
    | normal =>
      have hR : ∃ m, R m a' w' := ⟨k, st', hI', hK⟩
      refine ⟨hR, ?_⟩
      simp only [dif_pos hR]
      exact Nat.lt_succ_of_le ((Classical.choose_spec (least hR)).2 k ⟨st', hI', hK⟩)
    | exit id => exact hQ _ _ _ _ hK hI'
    | goto l => exact hQ _ _ _ _ hK hI'
    | ret => exact hQ _ _ _ _ hK hI'
    | panic ch => exact hQ _ _ _ _ hK hI'
    | outgrown => exact hQ _ _ _ _ hK hI'

theorem go_wp : ∀ (c : Code) {st : St} {a : Act} {w : World} {K : Exit → St → Prop} {Q : Exit → Act → World → Prop}, Inv G W0 I0 n st a w → go (Sat P G) n L mx fr dd c st K → (∀ e st' a' w', K e st' → Inv G W0 I0 n st' a' w' → Q e a' w') → c.wp P Q a w := by
  intro c
  induction c with
  | skip => intro st a w K Q h hg hQ; exact wp_skip (hQ _ _ _ _ hg h)
  | region id ops draw =>
    intro st a w K Q h hg hQ
    cases draw with
    | true =>
      obtain ⟨hok, hg⟩ := hg
      obtain ⟨s', hs, hK⟩ := goRun_steps hg
      exact draw_wp hL hG0 hM hmx hok h hs (fun a' w' hI => hQ _ _ _ _ hK (hI.only _))
    | false =>
      obtain ⟨s', hs, hK⟩ := goRun_steps hg
      exact wp_region_list (stepsO_wp hL hG0 hM h hs (fun a' w' hI => hQ _ _ _ _ hK (hI.only _)))
  | seq x y ihx ihy =>
    intro st a w K Q h hg hQ
    refine wp_seq (ihx h hg ?_)
    intro e st' a' w' hK hI
    cases e with
    | normal => exact ihy hI hK hQ
    | exit id => exact hQ _ _ _ _ hK hI
    | goto l => exact hQ _ _ _ _ hK hI
    | ret => exact hQ _ _ _ _ hK hI
    | panic ch => exact hQ _ _ _ _ hK hI
    | outgrown => exact hQ _ _ _ _ hK hI
  | cond c x y ihx ihy =>
    intro st a w K Q h hg hQ
    simp only [go] at hg
    split at hg
    · rename_i b hf
      have hc : a.eval c = .bool b := by obtain ⟨I, F, h⟩ := h; exact flat_spec h hf
      exact wp_cond_split hc (fun hb => ihx h (hg.1 hb) hQ) (fun hb => ihy h (hg.2 hb) hQ)
    · cases hg
  | block id c ih =>
    intro st a w K Q h hg hQ
    refine wp_block (ih h hg ?_)
    intro e st' a' w' hK hI
    cases e with
    | exit id' =>
      simp only [Exit.inBlock] at hK ⊢
      split
      · rename_i hid
        rw [if_pos hid] at hK
        exact hQ _ _ _ _ hK hI
      · rename_i hid
        rw [if_neg hid] at hK
        exact hQ _ _ _ _ hK hI
    | normal => exact hQ _ _ _ _ hK hI
    | goto l => exact hQ _ _ _ _ hK hI
    | ret => exact hQ _ _ _ _ hK hI
    | panic ch => exact hQ _ _ _ _ hK hI
    | outgrown => exact hQ _ _ _ _ hK hI
  | loop c ih =>
    intro st a w K Q h hg hQ
    obtain ⟨l, m, hg⟩ := hg
    exact loop_wp ih h hg hQ
  | exit id => intro st a w K Q h hg hQ; exact wp_exit (hQ _ _ _ _ hg h)
  | ret => intro st a w K Q h hg hQ; exact wp_ret (hQ _ _ _ _ hg h)
  | rangeFunc f p as b _ _ => intro st a w K Q h hg hQ; cases hg
  | scope b _ => intro st a w K Q h hg hQ; cases hg
  | label l => intro st a w K Q h hg hQ; cases hg
  | goto l => intro st a w K Q h hg hQ; cases hg
  | refuse s => intro st a w K Q h hg hQ; cases hg
end
end
end Go.Proofs.Vm
