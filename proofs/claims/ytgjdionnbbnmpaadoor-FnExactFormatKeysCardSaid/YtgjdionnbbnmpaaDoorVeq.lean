/- A part of the proof of FnExactFormatKeysCardSaid: lemmas that the text with the card leans on (see there for what is proved, and under which conditions). -/
import Derived.Test.YtgjdionnbbnmpaaDoorVfac
namespace Go.Proofs.Vt
open Go Go.RowKit Go.Proofs.Vm Go.Proofs
set_option maxRecDepth 10000
set_option linter.unusedVariables false
set_option linter.unusedSimpArgs false
attribute [local go_sem] go_skip go_region go_draw go_seq go_if go_block go_loop go_exit go_ret seqK_normal seqK_exit seqK_ret blockK_normal blockK_exit blockK_ret endK_ret endK_normal runK_at keepK_at St.only onlyF inside_ptr inside_al inside_eo inside_dead inside_val inside_box inside_ep inside_tup inside_fn memN goRun_nil goRun_free goRun_if opK_at skK_at mvK_at brS_open brK_open goOp_call goOp_callFn goOp_pick goOp_builtin goOp_move goOp_assign goOp_alloc goOp_box goOp_build goOp_buildSlice goOp_load goOp_store goOp_nilCheck goOp_binOp goOp_unOp goOp_convert goOp_makeFunc goOp_makeSlice goOp_slice goOp_fieldAddr goOp_field goOp_indexAddr goOp_index goOp_extract plainK evOp evMoveOp evLoadMove evLoadFreeze C.frz frzR initFrom goMove evAssign evMove evNil evFunc capOf capsOf Cap.arg ptOf SV.step evFieldAddr evField evLoad evStore evIndexAddr evIndex evAlloc evBox evBuild evBuildSlice evMake evLen evAppend evExtract evBin evUn unV evConvert evBuiltin takeAll placesOf placeParts partRows newsOf rowsOwn LS.width LS.rows fieldOf zeroOk splice goneR skipTo yieldOf argOf argsOf SV.isRes St.copy get_nil get_step put_step St.puts set_nil set_step St.forget kill_nil kill_step killAt_nil killAt_step cond_true cond_false St.killSeg St.cell St.setCell SV.setCell SV.root SV.names SV.namesAt rowOwn C.own constOk Value.cells Value.oneCell' St.list lsOf St.flat binV intV strV boolV shiftV isShift resOf resAll St.take drawDsts dstsQ quietOp takeRes Option.map_some Option.map_none Option.bind_some Option.getD_some Option.getD_none Nat.zero_add Nat.add_zero if_true if_false ite_true ite_false dite_true List.length_map List.length_nil List.length_cons List.map_cons List.map_nil List.all_cons List.all_nil List.getElem?_cons_zero List.getElem?_cons_succ List.getElem?_nil List.getElem?_toArray List.set_cons_zero List.set_cons_succ List.take_succ_cons List.take_zero List.drop_succ_cons List.drop_zero List.drop_nil List.nil_append List.cons_append List.append_nil List.getD_cons_zero List.getD_cons_succ List.all_eq_true true_and and_true or_true true_or or_false false_or Bool.or_false Bool.false_or Bool.or_self Bool.or_true Bool.true_or Bool.and_true Bool.true_and Bool.and_self Bool.and_false Bool.false_and Bool.not_true Bool.not_false Bool.false_eq_true decide_eq_true_eq decide_eq_false_iff_not decide_true decide_false beq_self_eq_true true_implies false_implies forall_const implies_true not_true not_false_iff ne_eq Int.toNat_natCast Int.natCast_nonneg eq_self exists_const if_pos Nat.succ_ne_zero
attribute [local go_sem high] brS_true brS_false brK_true brK_false
attribute [local go_sem] ti3 ti4 ti5 ti9 ti22 ti24 ti27 ti31 ti33 ti36 ti41 ti45 ti49 ti51 ti54 ti56 ti60 ti61 ti63 ti65 ti68 ti69 ti71 ti73 ti97 ti118 ti120 ti122 ti124 ti125 ti127 ti129 ti131 ti161 ti163 Tryd.ntmps12 Tryd.results12 Tryd.ntmps40 Tryd.results40
attribute [local go_sem] rowsI_length rowsS_length rowsI_frz rowsS_frz rowsI_own rowsS_own Option.map_none Option.map_some bs_size bs_toList Int.lt_irrefl tys_tInt tys_tString tys_tSig tys_tSigned tys_tEntry tys_tSignedS tys_tFork TKeys_len TKeys_at0 TKeys_get0 TKeys_at1 TKeys_get1 TKeys_drop TKeys_full TKeys_frz TKeys_own TKeys_owns TKeys_noImm
variable {G : Glob}
theorem eqIntS (xs ys : List Int) (hx : xs.length ≤ 1048576) (hy : ys.length ≤ 1048576) : Sat Tryd.prog G 40 [.val false [.l none 1 (rowsI xs)], .val false [.l none 1 (rowsI ys)]] (.val false [.v (.bool (decide (xs = ys)))]) := by
  refine sat_of_go (L := tiOf Tryd.prog) (fun T ti h => h) false [[0, 1], [0, 1, 10], [4], [0, 1, 5], [0, 1, 5, 14], [0, 1, 5], [0, 1, 5, 25], [4], [4]] mx Tryd.func40 (by decide) rfl (by show 2 ≤ Tryd.f40.ntmps; decide) ?_
  by_cases hlen : xs.length = ys.length
  · have hlen2 : ((xs.length : Int) != (ys.length : Int)) = false := by simp [hlen]
    simp only [hlen2, go_sem, Nat.reduceLT, Nat.reduceLeDiff, Nat.reduceAdd, Nat.reduceMul, Nat.reduceSub, Nat.reduceEqDiff, Nat.reduceBEq, Nat.reduceDiv, reduceCtorEq, Int.reduceToNat]
    refine loop_n [0, 1, 5] xs.length (fun i => [(5, .val false [.v (.int .i64 (i : Int))])]) (fun i => ∀ j, j < i → xs.getD j 0 = ys.getD j 0) ?_ (by simp) ?_ ?_
    · simp only [go_sem, Nat.reduceLT, Nat.reduceLeDiff, Nat.reduceAdd, Nat.reduceMul, Nat.reduceSub, Nat.reduceEqDiff, Nat.reduceBEq, Nat.reduceDiv, reduceCtorEq, Int.reduceToNat]
      try rfl
    · intro i hi hq F hF
      have hlt : ((i : Int) < (xs.length : Int)) := by omega
      have hi2 : i < ys.length := by omega
      have hlt2 : ((i : Int) < (ys.length : Int)) := by omega
      have hup := wrap_up (i := i) (by omega)
      simp only [hlt, hlt2, rowsI_at xs hi, rowsI_at ys hi2, hup, go_sem, Nat.reduceLT, Nat.reduceLeDiff, Nat.reduceAdd, Nat.reduceMul, Nat.reduceSub, Nat.reduceEqDiff, Nat.reduceBEq, Nat.reduceDiv, reduceCtorEq, Int.reduceToNat]
      refine ⟨rfl, fun hne => ?_, fun hee => ?_⟩
      · have hxy : ¬ (xs = ys) := by rintro rfl; simp at hne
        simp only [hxy, go_sem, Nat.reduceLT, Nat.reduceLeDiff, Nat.reduceAdd, Nat.reduceMul, Nat.reduceSub, Nat.reduceEqDiff, Nat.reduceBEq, Nat.reduceDiv, reduceCtorEq, Int.reduceToNat]
      · have hee2 : xs.getD i 0 = ys.getD i 0 := by simpa using hee
        refine hF _ ?_ ?_
        · simp only [hup, go_sem, Nat.reduceLT, Nat.reduceLeDiff, Nat.reduceAdd, Nat.reduceMul, Nat.reduceSub, Nat.reduceEqDiff, Nat.reduceBEq, Nat.reduceDiv, reduceCtorEq, Int.reduceToNat]
        · intro j hj
          rcases Nat.lt_or_ge j i with h | h
          · exact hq j h
          · obtain rfl : j = i := by omega
            exact hee2
    · intro hq F
      have he : xs = ys := by
        apply List.ext_getElem hlen
        intro j h1 h2
        have := hq j h1
        simpa [List.getD_eq_getElem?_getD, h1, h2] using this
      subst he
      simp only [go_sem, Nat.reduceLT, Nat.reduceLeDiff, Nat.reduceAdd, Nat.reduceMul, Nat.reduceSub, Nat.reduceEqDiff, Nat.reduceBEq, Nat.reduceDiv, reduceCtorEq, Int.reduceToNat]
  · have hne : ¬ (xs = ys) := fun h => hlen (by rw [h])
    have hlen2 : ((xs.length : Int) != (ys.length : Int)) = true := by simp; omega
    simp only [hlen2, hne, go_sem, Nat.reduceLT, Nat.reduceLeDiff, Nat.reduceAdd, Nat.reduceMul, Nat.reduceSub, Nat.reduceEqDiff, Nat.reduceBEq, Nat.reduceDiv, reduceCtorEq, Int.reduceToNat]
theorem eqKeys (x y : TKeys) (hx : TKeys.wt x ≤ 1048576) (hy : TKeys.wt y ≤ 1048576) : Sat Tryd.prog G 12 [.val true (TKeys.row none x), .val true (TKeys.row none y)] (.val false [.v (.bool (decide (x = y)))]) := by
  have hwx : TKeys.wt x = (x.fList.length) := rfl
  have hwy : TKeys.wt y = (y.fList.length) := rfl
  refine sat_of_go (L := tiOf Tryd.prog) (fun T ti h => h) false [[2, 3], [2, 3, 10], [4], [15], [4], [4]] mx Tryd.func12 (by decide) rfl (by show 2 ≤ Tryd.f12.ntmps; decide) ?_
  simp only [go_sem, Nat.reduceLT, Nat.reduceLeDiff, Nat.reduceAdd, Nat.reduceMul, Nat.reduceSub, Nat.reduceEqDiff, Nat.reduceBEq, Nat.reduceDiv, reduceCtorEq, Int.reduceToNat]
  refine call_by (eqIntS x.fList y.fList (by have h2 : x.fList.length ≤ x.fList.length := Nat.le_refl _; omega) (by have h2 : y.fList.length ≤ y.fList.length := Nat.le_refl _; omega)) rfl ?_
  by_cases heList : x.fList = y.fList
  · have hdList : decide (x.fList = y.fList) = true := decide_eq_true heList
    simp only [hdList, go_sem, Nat.reduceLT, Nat.reduceLeDiff, Nat.reduceAdd, Nat.reduceMul, Nat.reduceSub, Nat.reduceEqDiff, Nat.reduceBEq, Nat.reduceDiv, reduceCtorEq, Int.reduceToNat]
    by_cases heNeed : x.fNeed = y.fNeed
    · have hbNeed : (x.fNeed != y.fNeed) = false := by simp [heNeed]
      simp only [hbNeed, go_sem, Nat.reduceLT, Nat.reduceLeDiff, Nat.reduceAdd, Nat.reduceMul, Nat.reduceSub, Nat.reduceEqDiff, Nat.reduceBEq, Nat.reduceDiv, reduceCtorEq, Int.reduceToNat]
      have hxy : x = y := by cases x; cases y; simp_all
      simp only [hxy, go_sem, Nat.reduceLT, Nat.reduceLeDiff, Nat.reduceAdd, Nat.reduceMul, Nat.reduceSub, Nat.reduceEqDiff, Nat.reduceBEq, Nat.reduceDiv, reduceCtorEq, Int.reduceToNat]
      all_goals rfl
    · have hbNeed : (x.fNeed != y.fNeed) = true := by simp [heNeed]
      have hxy : ¬ (x = y) := fun h => heNeed (by rw [h])
      simp only [hbNeed, hxy, go_sem, Nat.reduceLT, Nat.reduceLeDiff, Nat.reduceAdd, Nat.reduceMul, Nat.reduceSub, Nat.reduceEqDiff, Nat.reduceBEq, Nat.reduceDiv, reduceCtorEq, Int.reduceToNat]
      all_goals rfl
  · have hdList : decide (x.fList = y.fList) = false := decide_eq_false heList
    have hxy : ¬ (x = y) := fun h => heList (by rw [h])
    simp only [hdList, hxy, go_sem, Nat.reduceLT, Nat.reduceLeDiff, Nat.reduceAdd, Nat.reduceMul, Nat.reduceSub, Nat.reduceEqDiff, Nat.reduceBEq, Nat.reduceDiv, reduceCtorEq, Int.reduceToNat]
    all_goals rfl
end Go.Proofs.Vt
