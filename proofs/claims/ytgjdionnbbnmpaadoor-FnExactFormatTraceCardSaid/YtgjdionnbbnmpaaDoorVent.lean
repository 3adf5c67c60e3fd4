/- A part of the proof of the card: lemmas that the text with the card leans on (see there for what is proved, and under which conditions). -/
import Derived.Test.YtgjdionnbbnmpaaDoorVfmt
import Derived.Test.YtgjdionnbbnmpaaDoorVmTx2
namespace Go.Proofs.Vt
open Go Go.RowKit Go.Proofs.Vm Go.Proofs
set_option maxRecDepth 10000
set_option linter.unusedVariables false
set_option linter.unusedSimpArgs false
attribute [local go_sem] go_skip go_region go_draw go_seq go_if go_block go_loop go_exit go_ret seqK_normal seqK_exit seqK_ret blockK_normal blockK_exit blockK_ret endK_ret endK_normal runK_at keepK_at St.only onlyF inside_ptr inside_al inside_eo inside_dead inside_val inside_box inside_ep inside_tup inside_fn memN goRun_nil goRun_free goRun_if opK_at skK_at mvK_at goOp_call goOp_callFn goOp_pick goOp_builtin goOp_move goOp_assign goOp_alloc goOp_box goOp_build goOp_buildSlice goOp_load goOp_store goOp_nilCheck goOp_binOp goOp_unOp goOp_convert goOp_makeFunc goOp_makeSlice goOp_slice goOp_fieldAddr goOp_field goOp_indexAddr goOp_index goOp_extract quietB buildOk partsOk ownless plainK evOp evMoveOp evLoadMove evLoadFreeze C.frz frzR initFrom goMove evAssign evMove evNil evFunc capOf capsOf Cap.arg ptOf SV.step evFieldAddr evField evLoad evStore evIndexAddr evIndex evAlloc evBox evBuild evBuildSlice evMake evLen evAppend evExtract evBin evUn unV evConvert evBuiltin takeAll placesOf placeParts partRows newsOf rowsOwn LS.width LS.rows fieldOf zeroOk splice goneR skipTo yieldOf argOf argsOf SV.isRes St.copy get_nil get_step put_step St.puts set_nil set_step St.forget kill_nil kill_step killAt_nil killAt_step cond_true cond_false St.killSeg St.cell St.setCell SV.setCell SV.root SV.names SV.namesAt rowOwn C.own constOk Value.cells Value.oneCell' St.list lsOf St.flat binV intV strV boolV shiftV isShift resOf resAll St.take drawDsts dstsQ quietOp takeRes Option.map_some Option.map_none Option.bind_some Option.getD_some Option.getD_none Nat.zero_add Nat.add_zero if_true if_false ite_true ite_false dite_true List.length_map List.length_nil List.length_cons List.map_cons List.map_nil List.all_cons List.all_nil List.getElem?_cons_zero List.getElem?_cons_succ List.getElem?_nil List.getElem?_toArray List.set_cons_zero List.set_cons_succ List.take_succ_cons List.take_zero List.drop_succ_cons List.drop_zero List.drop_nil List.nil_append List.cons_append List.append_nil List.getD_cons_zero List.getD_cons_succ List.all_eq_true true_and and_true or_true true_or or_false false_or Bool.or_false Bool.false_or Bool.or_self Bool.or_true Bool.true_or Bool.and_true Bool.true_and Bool.and_self Bool.and_false Bool.false_and Bool.not_true Bool.not_false Bool.false_eq_true decide_eq_true_eq decide_eq_false_iff_not decide_true decide_false beq_self_eq_true true_implies false_implies forall_const implies_true not_true not_false_iff ne_eq Int.toNat_natCast Int.natCast_nonneg eq_self exists_const if_pos Nat.succ_ne_zero
attribute [local go_sem high] brS_true brS_false brS_not brK_true brK_false brK_not
attribute [local go_sem] ti3 ti4 ti5 ti9 ti22 ti24 ti27 ti31 ti33 ti36 ti41 ti45 ti49 ti51 ti54 ti56 ti60 ti61 ti63 ti65 ti68 ti69 ti71 ti73 ti97 ti118 ti120 ti122 ti124 ti125 ti127 ti129 ti131 ti161 ti163 Tryd.ntmps46 Tryd.results46 Tryd.ntmps64 Tryd.results64 Tryd.ntmps65 Tryd.results65 Tryd.ntmps66 Tryd.results66 Tryd.ntmps77 Tryd.results77 Tryd.ntmps78 Tryd.results78 Tryd.ntmps79 Tryd.results79 Tryd.ntmps80 Tryd.results80 Tryd.ntmps90 Tryd.results90
attribute [local go_sem] rowsI_length rowsS_length rowsI_frz rowsS_frz rowsI_own rowsS_own Option.map_none Option.map_some bs_size bs_toList Int.lt_irrefl tys_tInt tys_tString tys_tSig tys_tSigned tys_tEntry tys_tSignedS tys_tFork TEntry_len TEntry_at0 TEntry_get0 TEntry_at1 TEntry_get1 TEntry_at2 TEntry_get2 TEntry_at3 TEntry_get3 TEntry_drop TEntry_full TEntry_frz TEntry_own TEntry_owns TEntry_noImm
attribute [local go_sem] ge_iff_le gt_iff_lt
variable {G : Glob} (hT : ∀ w, G w → Gp w)
theorem inRange (x lo hi : Int) : Sat Tryd.prog G 66 [.val false [.v (.int .i64 x)], .val false [.v (.int .i64 lo)], .val false [.v (.int .i64 hi)]] (.val false [.v (.bool (inR x lo hi))]) := by
  refine sat_of_go (L := tiOf Tryd.prog) (fun T ti h => h) false [[0, 1, 2], [6]] mx Tryd.func66 (by decide) rfl (by show 3 ≤ Tryd.f66.ntmps; decide) ?_
  by_cases h1 : lo ≤ x <;> by_cases h2 : x ≤ hi <;> simp only [inR, h1, h2, go_sem, brS_dec, brS_beq, brS_bne, brK_dec, brK_beq, brK_bne, Nat.reduceLT, Nat.reduceLeDiff, Nat.reduceAdd, Nat.reduceMul, Nat.reduceSub, Nat.reduceEqDiff, Nat.reduceBEq, Nat.reduceDiv, reduceCtorEq, Int.reduceToNat]
theorem specIn (x lo hi : Int) : Sat Tryd.prog G 46 [.val false [.v (.int .i64 x)], .val false [.v (.int .i64 lo)], .val false [.v (.int .i64 hi)]] (.val false [.v (.bool (inR x lo hi))]) := by
  refine sat_of_go (L := tiOf Tryd.prog) (fun T ti h => h) false [[0, 1, 2], [6]] mx Tryd.func46 (by decide) rfl (by show 3 ≤ Tryd.f46.ntmps; decide) ?_
  by_cases h1 : lo ≤ x <;> by_cases h2 : x ≤ hi <;> simp only [inR, h1, h2, go_sem, brS_dec, brS_beq, brS_bne, brK_dec, brK_beq, brK_bne, Nat.reduceLT, Nat.reduceLeDiff, Nat.reduceAdd, Nat.reduceMul, Nat.reduceSub, Nat.reduceEqDiff, Nat.reduceBEq, Nat.reduceDiv, reduceCtorEq, Int.reduceToNat]
set_option maxHeartbeats 2000000 in
theorem implIsLabel (s : List UInt8) (hs : s.length ≤ maxLen) : Sat Tryd.prog G 80 [.val false [.v (.string (bs s))]] (.val false [.v (.bool (isLabelB s))]) := by
  refine sat_of_go (L := tiOf Tryd.prog) (fun T ti h => h) false [[0], [0, 6, 7], [0, 6, 7, 8], [0, 3, 6, 7], [0, 3, 4, 6, 7], [0, 6, 7, 42], [2], [0, 6, 7], [2]] mx Tryd.func80 (by decide) rfl (by show 1 ≤ Tryd.f80.ntmps; decide) ?_
  have hmx := maxLen_eq
  simp only [go_sem, brS_dec, brS_beq, brS_bne, brK_dec, brK_beq, brK_bne, Nat.reduceLT, Nat.reduceLeDiff, Nat.reduceAdd, Nat.reduceMul, Nat.reduceSub, Nat.reduceEqDiff, Nat.reduceBEq, Nat.reduceDiv, reduceCtorEq, Int.reduceToNat]
  refine loop_n [0, 6, 7] s.length (fun i => [(7, .val false [.v (.int .i64 (i : Int))])]) (fun i => ∀ j, j < i → charOk s.length j (byt s j) = true) ?_ (by simp) ?_ ?_
  · simp only [go_sem, brS_dec, brS_beq, brS_bne, brK_dec, brK_beq, brK_bne, Nat.reduceLT, Nat.reduceLeDiff, Nat.reduceAdd, Nat.reduceMul, Nat.reduceSub, Nat.reduceEqDiff, Nat.reduceBEq, Nat.reduceDiv, reduceCtorEq, Int.reduceToNat]
    rfl
  · intro i hi hq F hF
    have hlt : ((i : Int) < (s.length : Int)) := by omega
    have hup := wrap_up (i := i) (by omega)
    have hb := byteAt_bs s hi
    have hsub : IntKind.i64.wrap ((s.length : Int) - 1) = (s.length : Int) - 1 := wrap_id (by omega) (by omega)
    generalize hbb : byt s i = b at *
    simp only [hlt, hb, hup, hsub, go_sem, Nat.reduceLT, Nat.reduceLeDiff, Nat.reduceAdd, Nat.reduceMul, Nat.reduceSub, Nat.reduceEqDiff, Nat.reduceBEq, Nat.reduceDiv, reduceCtorEq, Int.reduceToNat]
    repeat' (first | (refine brS_by (fun h => ?_) (fun h => ?_) <;> (simp only [h, hlt, hup, hsub, go_sem, Nat.reduceLT, Nat.reduceLeDiff, Nat.reduceAdd, Nat.reduceMul, Nat.reduceSub, Nat.reduceEqDiff, Nat.reduceBEq, Nat.reduceDiv, reduceCtorEq, Int.reduceToNat]; try simp only [decide_eq_true_eq, decide_eq_false_iff_not, beq_iff_eq, beq_eq_false_iff_ne, bne_iff_ne, bne_eq_false_iff_eq, ne_eq, Bool.not_eq_true, Bool.not_eq_false] at h)) | (refine brK_by (fun h => ?_) (fun h => ?_) <;> (simp only [h, hlt, hup, hsub, go_sem, Nat.reduceLT, Nat.reduceLeDiff, Nat.reduceAdd, Nat.reduceMul, Nat.reduceSub, Nat.reduceEqDiff, Nat.reduceBEq, Nat.reduceDiv, reduceCtorEq, Int.reduceToNat]; try simp only [decide_eq_true_eq, decide_eq_false_iff_not, beq_iff_eq, beq_eq_false_iff_ne, bne_iff_ne, bne_eq_false_iff_eq, ne_eq, Bool.not_eq_true, Bool.not_eq_false] at h)))
    all_goals first
      | (refine hF _ (by simp only [go_sem, brS_dec, brS_beq, brS_bne, brK_dec, brK_beq, brK_bne, Nat.reduceLT, Nat.reduceLeDiff, Nat.reduceAdd, Nat.reduceMul, Nat.reduceSub, Nat.reduceEqDiff, Nat.reduceBEq, Nat.reduceDiv, reduceCtorEq, Int.reduceToNat]) ?_
         intro j hj
         rcases Nat.lt_or_ge j i with h | h
         · exact hq j h
         · obtain rfl : j = i := by omega
           rw [hbb]
           simp [charOk, alnum] <;> omega)
      | (rw [isLabelB_bad hi (by rw [hbb]; simp [charOk, alnum] <;> omega)])
  · intro hq F
    simp only [go_sem, brS_dec, brS_beq, brS_bne, brK_dec, brK_beq, brK_bne, Nat.reduceLT, Nat.reduceLeDiff, Nat.reduceAdd, Nat.reduceMul, Nat.reduceSub, Nat.reduceEqDiff, Nat.reduceBEq, Nat.reduceDiv, reduceCtorEq, Int.reduceToNat]
    refine call_by (inRange _ _ _) rfl ?_
    rw [isLabelB_all hq]
    simp only [go_sem, brS_dec, brS_beq, brS_bne, brK_dec, brK_beq, brK_bne, Nat.reduceLT, Nat.reduceLeDiff, Nat.reduceAdd, Nat.reduceMul, Nat.reduceSub, Nat.reduceEqDiff, Nat.reduceBEq, Nat.reduceDiv, reduceCtorEq, Int.reduceToNat]
set_option maxHeartbeats 2000000 in
theorem specIsLabel (s : List UInt8) (hs : s.length ≤ maxLen) : Sat Tryd.prog G 77 [.val false [.v (.string (bs s))]] (.val false [.v (.bool (isLabelB s))]) := by
  refine sat_of_go (L := tiOf Tryd.prog) (fun T ti h => h) false [[0], [0, 20], [2], [0, 3], [0, 3, 24], [0, 3], [0, 3, 54], [2], [2]] mx Tryd.func77 (by decide) rfl (by show 1 ≤ Tryd.f77.ntmps; decide) ?_
  have hmx := maxLen_eq
  simp only [go_sem, brS_dec, brS_beq, brS_bne, brK_dec, brK_beq, brK_bne, Nat.reduceLT, Nat.reduceLeDiff, Nat.reduceAdd, Nat.reduceMul, Nat.reduceSub, Nat.reduceEqDiff, Nat.reduceBEq, Nat.reduceDiv, reduceCtorEq, Int.reduceToNat]
  refine call_by (specIn _ _ _) rfl ?_
  cases hr : inR s.length 1 8 with
  | false =>
    have e : isLabelB s = false := by simp [isLabelB, hr]
    simp only [hr, e, go_sem, brS_dec, brS_beq, brS_bne, brK_dec, brK_beq, brK_bne, Nat.reduceLT, Nat.reduceLeDiff, Nat.reduceAdd, Nat.reduceMul, Nat.reduceSub, Nat.reduceEqDiff, Nat.reduceBEq, Nat.reduceDiv, reduceCtorEq, Int.reduceToNat]
  | true =>
    have hl : 1 ≤ s.length ∧ s.length ≤ 8 := by simp [inR] at hr; omega
    have hb0 := byteAt_bs s (i := 0) (by omega)
    have hbn := byteAt_bs s (i := s.length - 1) (by omega)
    have hsub : IntKind.i64.wrap ((s.length : Int) - 1) = ((s.length - 1 : Nat) : Int) := by rw [wrap_id (by omega) (by omega)]; omega
    have h0 : (0 : Int) < (s.length : Int) := by omega
    have h1 : ((s.length - 1 : Nat) : Int) < (s.length : Int) := by omega
    have hb0' : byteAt (bs s) 0 = byt s 0 := hb0
    cases c0 : (byt s 0 == 45) with
    | true =>
      have hc : byt s 0 = 45 := by simpa using c0
      have e : isLabelB s = false := isLabelB_bad (i := 0) (by omega) (by simp [charOk, alnum, hc])
      simp only [hr, hb0', c0, e, h0, Int.le_refl, go_sem, brS_dec, brS_beq, brS_bne, brK_dec, brK_beq, brK_bne, Nat.reduceLT, Nat.reduceLeDiff, Nat.reduceAdd, Nat.reduceMul, Nat.reduceSub, Nat.reduceEqDiff, Nat.reduceBEq, Nat.reduceDiv, reduceCtorEq, Int.reduceToNat]
    | false =>
      have hc0 : ¬ byt s 0 = 45 := by simpa using c0
      cases c1 : (byt s (s.length - 1) == 45) with
      | true =>
        have hc : byt s (s.length - 1) = 45 := by simpa using c1
        have e : isLabelB s = false := isLabelB_bad (i := s.length - 1) (by omega) (by simp [charOk, alnum, hc] <;> omega)
        simp only [hr, hb0', hsub, hbn, h0, h1, c0, c1, e, Int.le_refl, go_sem, brS_dec, brS_beq, brS_bne, brK_dec, brK_beq, brK_bne, Nat.reduceLT, Nat.reduceLeDiff, Nat.reduceAdd, Nat.reduceMul, Nat.reduceSub, Nat.reduceEqDiff, Nat.reduceBEq, Nat.reduceDiv, reduceCtorEq, Int.reduceToNat]
      | false =>
        have hc1 : ¬ byt s (s.length - 1) = 45 := by simpa using c1
        simp only [hr, hb0', hsub, hbn, h0, h1, c0, c1, Int.le_refl, go_sem, brS_dec, brS_beq, brS_bne, brK_dec, brK_beq, brK_bne, Nat.reduceLT, Nat.reduceLeDiff, Nat.reduceAdd, Nat.reduceMul, Nat.reduceSub, Nat.reduceEqDiff, Nat.reduceBEq, Nat.reduceDiv, reduceCtorEq, Int.reduceToNat]
        refine loop_n [0, 3] s.length (fun i => [(3, .val false [.v (.int .i64 (i : Int))])]) (fun i => ∀ j, j < i → alnum (byt s j) = true ∨ byt s j = 45) ?_ (by simp) ?_ ?_
        · simp only [go_sem, brS_dec, brS_beq, brS_bne, brK_dec, brK_beq, brK_bne, Nat.reduceLT, Nat.reduceLeDiff, Nat.reduceAdd, Nat.reduceMul, Nat.reduceSub, Nat.reduceEqDiff, Nat.reduceBEq, Nat.reduceDiv, reduceCtorEq, Int.reduceToNat]
          rfl
        · intro i hi hq F hF
          have hlt : ((i : Int) < (s.length : Int)) := by omega
          have hup := wrap_up (i := i) (by omega)
          have hb := byteAt_bs s hi
          generalize hbb : byt s i = b at *
          simp only [hlt, hb, hup, go_sem, Nat.reduceLT, Nat.reduceLeDiff, Nat.reduceAdd, Nat.reduceMul, Nat.reduceSub, Nat.reduceEqDiff, Nat.reduceBEq, Nat.reduceDiv, reduceCtorEq, Int.reduceToNat]
          repeat' (first | (refine brS_by (fun h => ?_) (fun h => ?_) <;> (simp only [h, hlt, hup, hb, go_sem, Nat.reduceLT, Nat.reduceLeDiff, Nat.reduceAdd, Nat.reduceMul, Nat.reduceSub, Nat.reduceEqDiff, Nat.reduceBEq, Nat.reduceDiv, reduceCtorEq, Int.reduceToNat]; try simp only [decide_eq_true_eq, decide_eq_false_iff_not, beq_iff_eq, beq_eq_false_iff_ne, bne_iff_ne, bne_eq_false_iff_eq, ne_eq, Bool.not_eq_true, Bool.not_eq_false] at h)) | (refine brK_by (fun h => ?_) (fun h => ?_) <;> (simp only [h, hlt, hup, hb, go_sem, Nat.reduceLT, Nat.reduceLeDiff, Nat.reduceAdd, Nat.reduceMul, Nat.reduceSub, Nat.reduceEqDiff, Nat.reduceBEq, Nat.reduceDiv, reduceCtorEq, Int.reduceToNat]; try simp only [decide_eq_true_eq, decide_eq_false_iff_not, beq_iff_eq, beq_eq_false_iff_ne, bne_iff_ne, bne_eq_false_iff_eq, ne_eq, Bool.not_eq_true, Bool.not_eq_false] at h)))
          all_goals first
            | (refine hF _ (by simp only [go_sem, brS_dec, brS_beq, brS_bne, brK_dec, brK_beq, brK_bne, Nat.reduceLT, Nat.reduceLeDiff, Nat.reduceAdd, Nat.reduceMul, Nat.reduceSub, Nat.reduceEqDiff, Nat.reduceBEq, Nat.reduceDiv, reduceCtorEq, Int.reduceToNat]) ?_
               intro j hj
               rcases Nat.lt_or_ge j i with h | h
               · exact hq j h
               · obtain rfl : j = i := by omega
                 rw [hbb]
                 simp [alnum] <;> omega)
            | (rw [isLabelB_bad hi (by rw [hbb]; simp [charOk, alnum] <;> omega)])
        · intro hq F
          have e : isLabelB s = true := by
            rw [isLabelB_all]
            · exact hr
            · intro i hi
              rcases hq i hi with h | h
              · simp [charOk, h]
              · have h2 : i ≠ 0 := by rintro rfl; exact hc0 h
                have h3 : i ≠ s.length - 1 := by rintro rfl; exact hc1 h
                simp [charOk, h] <;> omega
          simp only [e, go_sem, brS_dec, brS_beq, brS_bne, brK_dec, brK_beq, brK_bne, Nat.reduceLT, Nat.reduceLeDiff, Nat.reduceAdd, Nat.reduceMul, Nat.reduceSub, Nat.reduceEqDiff, Nat.reduceBEq, Nat.reduceDiv, reduceCtorEq, Int.reduceToNat]
theorem implIsPath1 (s : List UInt8) (hs : s.length ≤ maxLen) : Sat Tryd.prog G 79 [.val false [.v (.string (bs s))]] (.val false [.v (.bool (!isLabelB s))]) := by
  refine sat_of_go (L := tiOf Tryd.prog) (fun T ti h => h) false [[0], [2]] mx Tryd.func79 (by decide) rfl (by show 1 ≤ Tryd.f79.ntmps; decide) ?_
  simp only [go_sem, brS_dec, brS_beq, brS_bne, brK_dec, brK_beq, brK_bne, Nat.reduceLT, Nat.reduceLeDiff, Nat.reduceAdd, Nat.reduceMul, Nat.reduceSub, Nat.reduceEqDiff, Nat.reduceBEq, Nat.reduceDiv, reduceCtorEq, Int.reduceToNat]
  refine call_by (implIsLabel s hs) rfl ?_
  simp only [go_sem, brS_dec, brS_beq, brS_bne, brK_dec, brK_beq, brK_bne, Nat.reduceLT, Nat.reduceLeDiff, Nat.reduceAdd, Nat.reduceMul, Nat.reduceSub, Nat.reduceEqDiff, Nat.reduceBEq, Nat.reduceDiv, reduceCtorEq, Int.reduceToNat]
def idxOf (q : List UInt8 → Bool) (p : List (List UInt8)) : Int := if p.any q then ((p.findIdx q : Nat) : Int) else -1
theorem idxOf_at {q : List UInt8 → Bool} {p : List (List UInt8)} {i : Nat} (hi : i < p.length) (h0 : ∀ j, j < i → q (p.getD j []) = false) (h1 : q (p.getD i []) = true) : idxOf q p = (i : Int) := by
  have ha : p.any q = true := List.any_eq_true.2 ⟨_, getD_mem hi [], h1⟩
  have hf : p.findIdx q = i := by
    rw [List.findIdx_eq hi]
    refine ⟨?_, ?_⟩
    · rwa [List.getD_eq_getElem?_getD, List.getElem?_eq_getElem hi] at h1
    · intro j hj
      have := h0 j hj
      rwa [List.getD_eq_getElem?_getD, List.getElem?_eq_getElem (by omega)] at this
  rw [idxOf, if_pos ha, hf]
theorem idxOf_none {q : List UInt8 → Bool} {p : List (List UInt8)} (h0 : ∀ j, j < p.length → q (p.getD j []) = false) : idxOf q p = -1 := by
  have ha : p.any q = false := by
    rw [List.any_eq_false]
    intro t ht
    obtain ⟨i, hi, rfl⟩ := List.getElem_of_mem ht
    have := h0 i hi
    rw [List.getD_eq_getElem?_getD, List.getElem?_eq_getElem hi] at this
    simpa using this
  rw [idxOf, ha]; rfl
theorem idxOf_ge (q : List UInt8 → Bool) (p : List (List UInt8)) : decide (0 ≤ idxOf q p) = p.any q := by
  unfold idxOf
  cases p.any q with
  | true => simp
  | false => rfl
theorem any_isPath (p : List (List UInt8)) : p.any (fun t => !isLabelB t) = !p.all isLabelB := by
  induction p with
  | nil => rfl
  | cons a r ih => simp only [List.any_cons, List.all_cons, ih, Bool.not_and]
set_option maxHeartbeats 2000000 in
theorem indexStr (q : List UInt8 → Bool) (p : List (List UInt8)) (hp : fitL (fun t => t.length ≤ maxLen) p) (fid : FuncId) (caps : List Cap)
    (hc : ∀ t, t ∈ p → Sat Tryd.prog G fid (.val false [.v (.string (bs t))] :: caps.map Cap.arg) (.val false [.v (.bool (q t))])) :
    Sat Tryd.prog G 90 [.val false [.l none 1 (rowsS p)], .fn fid caps] (.val false [.v (.int .i64 (idxOf q p))]) := by
  refine sat_of_go (L := tiOf Tryd.prog) (fun T ti h => h) false [[0, 1], [0, 1, 7, 8], [0, 1, 7, 8, 9], [0, 1, 5, 7, 8], [0, 1, 5, 7, 8, 16], [4], [0, 1, 7, 8], [4]] mx Tryd.func90 (by decide) rfl (by show 2 ≤ Tryd.f90.ntmps; decide) ?_
  have hmx := maxLen_eq
  have hpl := hp.1
  simp only [go_sem, brS_dec, brS_beq, brS_bne, brK_dec, brK_beq, brK_bne, Nat.reduceLT, Nat.reduceLeDiff, Nat.reduceAdd, Nat.reduceMul, Nat.reduceSub, Nat.reduceEqDiff, Nat.reduceBEq, Nat.reduceDiv, reduceCtorEq, Int.reduceToNat]
  refine loop_n [0, 1, 7, 8] p.length (fun i => [(8, .val false [.v (.int .i64 (i : Int))])]) (fun i => ∀ j, j < i → q (p.getD j []) = false) ?_ (by simp) ?_ ?_
  · simp only [go_sem, brS_dec, brS_beq, brS_bne, brK_dec, brK_beq, brK_bne, Nat.reduceLT, Nat.reduceLeDiff, Nat.reduceAdd, Nat.reduceMul, Nat.reduceSub, Nat.reduceEqDiff, Nat.reduceBEq, Nat.reduceDiv, reduceCtorEq, Int.reduceToNat]
    rfl
  · intro i hi hq F hF
    have hlt : ((i : Int) < (p.length : Int)) := by omega
    have hup := wrap_up (i := i) (by omega)
    simp only [hlt, rowsS_at p hi, hup, go_sem, brS_dec, brS_beq, brS_bne, brK_dec, brK_beq, brK_bne, Nat.reduceLT, Nat.reduceLeDiff, Nat.reduceAdd, Nat.reduceMul, Nat.reduceSub, Nat.reduceEqDiff, Nat.reduceBEq, Nat.reduceDiv, reduceCtorEq, Int.reduceToNat]
    refine call_by (hc _ (getD_mem hi [])) rfl ?_
    cases hb : q (p.getD i []) with
    | true =>
      simp only [hb, idxOf_at hi hq hb, go_sem, brS_dec, brS_beq, brS_bne, brK_dec, brK_beq, brK_bne, Nat.reduceLT, Nat.reduceLeDiff, Nat.reduceAdd, Nat.reduceMul, Nat.reduceSub, Nat.reduceEqDiff, Nat.reduceBEq, Nat.reduceDiv, reduceCtorEq, Int.reduceToNat]
    | false =>
      simp only [hb, hup, go_sem, brS_dec, brS_beq, brS_bne, brK_dec, brK_beq, brK_bne, Nat.reduceLT, Nat.reduceLeDiff, Nat.reduceAdd, Nat.reduceMul, Nat.reduceSub, Nat.reduceEqDiff, Nat.reduceBEq, Nat.reduceDiv, reduceCtorEq, Int.reduceToNat]
      refine hF _ ?_ ?_
      · simp only [go_sem, brS_dec, brS_beq, brS_bne, brK_dec, brK_beq, brK_bne, Nat.reduceLT, Nat.reduceLeDiff, Nat.reduceAdd, Nat.reduceMul, Nat.reduceSub, Nat.reduceEqDiff, Nat.reduceBEq, Nat.reduceDiv, reduceCtorEq, Int.reduceToNat]
      · intro j hj
        rcases Nat.lt_or_ge j i with h | h
        · exact hq j h
        · obtain rfl : j = i := by omega
          exact hb
  · intro hq F
    simp only [idxOf_none hq, go_sem, brS_dec, brS_beq, brS_bne, brK_dec, brK_beq, brK_bne, Nat.reduceLT, Nat.reduceLeDiff, Nat.reduceAdd, Nat.reduceMul, Nat.reduceSub, Nat.reduceEqDiff, Nat.reduceBEq, Nat.reduceDiv, reduceCtorEq, Int.reduceToNat]
theorem containsStr (q : List UInt8 → Bool) (p : List (List UInt8)) (hp : fitL (fun t => t.length ≤ maxLen) p) (fid : FuncId) (caps : List Cap)
    (hc : ∀ t, t ∈ p → Sat Tryd.prog G fid (.val false [.v (.string (bs t))] :: caps.map Cap.arg) (.val false [.v (.bool (q t))])) :
    Sat Tryd.prog G 78 [.val false [.l none 1 (rowsS p)], .fn fid caps] (.val false [.v (.bool (p.any q))]) := by
  refine sat_of_go (L := tiOf Tryd.prog) (fun T ti h => h) false [[0, 1], [4]] mx Tryd.func78 (by decide) rfl (by show 2 ≤ Tryd.f78.ntmps; decide) ?_
  simp only [go_sem, brS_dec, brS_beq, brS_bne, brK_dec, brK_beq, brK_bne, Nat.reduceLT, Nat.reduceLeDiff, Nat.reduceAdd, Nat.reduceMul, Nat.reduceSub, Nat.reduceEqDiff, Nat.reduceBEq, Nat.reduceDiv, reduceCtorEq, Int.reduceToNat]
  refine call_by (indexStr q p hp fid caps hc) rfl ?_
  have hge := idxOf_ge q p
  simp only [go_sem, brS_dec, brS_beq, brS_bne, brK_dec, brK_beq, brK_bne, Nat.reduceLT, Nat.reduceLeDiff, Nat.reduceAdd, Nat.reduceMul, Nat.reduceSub, Nat.reduceEqDiff, Nat.reduceBEq, Nat.reduceDiv, reduceCtorEq, Int.reduceToNat]
  simp only [hge]
theorem implIsPath (p : List (List UInt8)) (hp : fitL (fun t => t.length ≤ maxLen) p) : Sat Tryd.prog G 65 [.val false [.l none 1 (rowsS p)]] (.val false [.v (.bool (isPathB p))]) := by
  refine sat_of_go (L := tiOf Tryd.prog) (fun T ti h => h) false [[0], [2]] mx Tryd.func65 (by decide) rfl (by show 1 ≤ Tryd.f65.ntmps; decide) ?_
  simp only [go_sem, brS_dec, brS_beq, brS_bne, brK_dec, brK_beq, brK_bne, Nat.reduceLT, Nat.reduceLeDiff, Nat.reduceAdd, Nat.reduceMul, Nat.reduceSub, Nat.reduceEqDiff, Nat.reduceBEq, Nat.reduceDiv, reduceCtorEq, Int.reduceToNat]
  refine call_by (inRange _ _ _) rfl ?_
  cases hr : inR p.length 1 4 with
  | false =>
    have e : isPathB p = false := by simp [isPathB, hr]
    simp only [hr, e, go_sem, brS_dec, brS_beq, brS_bne, brK_dec, brK_beq, brK_bne, Nat.reduceLT, Nat.reduceLeDiff, Nat.reduceAdd, Nat.reduceMul, Nat.reduceSub, Nat.reduceEqDiff, Nat.reduceBEq, Nat.reduceDiv, reduceCtorEq, Int.reduceToNat]
  | true =>
    have e : isPathB p = !p.any (fun t => !isLabelB t) := by rw [any_isPath]; simp [isPathB, hr]
    simp only [hr, go_sem, brS_dec, brS_beq, brS_bne, brK_dec, brK_beq, brK_bne, Nat.reduceLT, Nat.reduceLeDiff, Nat.reduceAdd, Nat.reduceMul, Nat.reduceSub, Nat.reduceEqDiff, Nat.reduceBEq, Nat.reduceDiv, reduceCtorEq, Int.reduceToNat]
    refine call_by (containsStr (fun t => !isLabelB t) p hp 79 [] (fun t ht => implIsPath1 t (hp.2 t ht))) rfl ?_
    simp only [e, go_sem, brS_dec, brS_beq, brS_bne, brK_dec, brK_beq, brK_bne, Nat.reduceLT, Nat.reduceLeDiff, Nat.reduceAdd, Nat.reduceMul, Nat.reduceSub, Nat.reduceEqDiff, Nat.reduceBEq, Nat.reduceDiv, reduceCtorEq, Int.reduceToNat]
theorem specIsPath (p : List (List UInt8)) (hp : fitL (fun t => t.length ≤ maxLen) p) : Sat Tryd.prog G 64 [.val false [.l none 1 (rowsS p)]] (.val false [.v (.bool (isPathB p))]) := by
  refine sat_of_go (L := tiOf Tryd.prog) (fun T ti h => h) false [[0], [0, 3], [0, 3, 7], [0, 3], [0, 3, 15], [2], [2]] mx Tryd.func64 (by decide) rfl (by show 1 ≤ Tryd.f64.ntmps; decide) ?_
  have hmx := maxLen_eq
  have hpl := hp.1
  simp only [go_sem, brS_dec, brS_beq, brS_bne, brK_dec, brK_beq, brK_bne, Nat.reduceLT, Nat.reduceLeDiff, Nat.reduceAdd, Nat.reduceMul, Nat.reduceSub, Nat.reduceEqDiff, Nat.reduceBEq, Nat.reduceDiv, reduceCtorEq, Int.reduceToNat]
  refine loop_n [0, 3] p.length (fun i => [(3, .val false [.v (.int .i64 (i : Int))])]) (fun i => ∀ j, j < i → isLabelB (p.getD j []) = true) ?_ (by simp) ?_ ?_
  · simp only [go_sem, brS_dec, brS_beq, brS_bne, brK_dec, brK_beq, brK_bne, Nat.reduceLT, Nat.reduceLeDiff, Nat.reduceAdd, Nat.reduceMul, Nat.reduceSub, Nat.reduceEqDiff, Nat.reduceBEq, Nat.reduceDiv, reduceCtorEq, Int.reduceToNat]
    rfl
  · intro i hi hq F hF
    have hlt : ((i : Int) < (p.length : Int)) := by omega
    have hup := wrap_up (i := i) (by omega)
    simp only [hlt, rowsS_at p hi, hup, go_sem, brS_dec, brS_beq, brS_bne, brK_dec, brK_beq, brK_bne, Nat.reduceLT, Nat.reduceLeDiff, Nat.reduceAdd, Nat.reduceMul, Nat.reduceSub, Nat.reduceEqDiff, Nat.reduceBEq, Nat.reduceDiv, reduceCtorEq, Int.reduceToNat]
    refine call_by (specIsLabel (p.getD i []) (hp.2 _ (getD_mem hi []))) rfl ?_
    cases hb : isLabelB (p.getD i []) with
    | false =>
      simp only [hb, isPathB_bad hi hb, go_sem, brS_dec, brS_beq, brS_bne, brK_dec, brK_beq, brK_bne, Nat.reduceLT, Nat.reduceLeDiff, Nat.reduceAdd, Nat.reduceMul, Nat.reduceSub, Nat.reduceEqDiff, Nat.reduceBEq, Nat.reduceDiv, reduceCtorEq, Int.reduceToNat]
    | true =>
      simp only [hb, hup, go_sem, brS_dec, brS_beq, brS_bne, brK_dec, brK_beq, brK_bne, Nat.reduceLT, Nat.reduceLeDiff, Nat.reduceAdd, Nat.reduceMul, Nat.reduceSub, Nat.reduceEqDiff, Nat.reduceBEq, Nat.reduceDiv, reduceCtorEq, Int.reduceToNat]
      refine hF _ ?_ ?_
      · simp only [go_sem, brS_dec, brS_beq, brS_bne, brK_dec, brK_beq, brK_bne, Nat.reduceLT, Nat.reduceLeDiff, Nat.reduceAdd, Nat.reduceMul, Nat.reduceSub, Nat.reduceEqDiff, Nat.reduceBEq, Nat.reduceDiv, reduceCtorEq, Int.reduceToNat]
      · intro j hj
        rcases Nat.lt_or_ge j i with h | h
        · exact hq j h
        · obtain rfl : j = i := by omega
          exact hb
  · intro hq F
    simp only [go_sem, brS_dec, brS_beq, brS_bne, brK_dec, brK_beq, brK_bne, Nat.reduceLT, Nat.reduceLeDiff, Nat.reduceAdd, Nat.reduceMul, Nat.reduceSub, Nat.reduceEqDiff, Nat.reduceBEq, Nat.reduceDiv, reduceCtorEq, Int.reduceToNat]
    refine call_by (specIn _ _ _) rfl ?_
    rw [isPathB_all hq]
    simp only [go_sem, brS_dec, brS_beq, brS_bne, brK_dec, brK_beq, brK_bne, Nat.reduceLT, Nat.reduceLeDiff, Nat.reduceAdd, Nat.reduceMul, Nat.reduceSub, Nat.reduceEqDiff, Nat.reduceBEq, Nat.reduceDiv, reduceCtorEq, Int.reduceToNat]
end Go.Proofs.Vt
