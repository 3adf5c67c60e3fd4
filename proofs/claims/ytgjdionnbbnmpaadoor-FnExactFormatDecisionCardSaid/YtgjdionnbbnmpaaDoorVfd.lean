/- A part of the proof of the card: lemmas that the text with the card leans on (see there for what is proved, and under which conditions). -/
import Derived.Test.YtgjdionnbbnmpaaDoorVcode
namespace Go.Proofs.Vt
open Go Go.RowKit Go.Proofs.Vm Go.Proofs
set_option maxRecDepth 10000
set_option linter.unusedVariables false
set_option linter.unusedSimpArgs false
attribute [local go_sem] go_skip go_region go_draw go_seq go_if go_block go_loop go_exit go_ret seqK_normal seqK_exit seqK_ret blockK_normal blockK_exit blockK_ret endK_ret endK_normal runK_at keepK_at St.only onlyF inside_ptr inside_al inside_eo inside_dead inside_val inside_box inside_ep inside_tup inside_fn memN goRun_nil goRun_free goRun_if opK_at skK_at mvK_at goOp_call goOp_callFn goOp_pick goOp_builtin goOp_move goOp_assign goOp_alloc goOp_box goOp_build goOp_buildSlice goOp_load goOp_store goOp_nilCheck goOp_binOp goOp_unOp goOp_convert goOp_makeFunc goOp_makeSlice goOp_slice goOp_fieldAddr goOp_field goOp_indexAddr goOp_index goOp_extract quietB buildOk partsOk ownless plainK evOp evMoveOp evLoadMove evLoadFreeze C.frz frzR initFrom goMove evAssign evMove evNil evFunc capOf capsOf Cap.arg ptOf SV.step evFieldAddr evField evLoad evStore evIndexAddr evIndex evAlloc evBox evBuild evBuildSlice evMake evLen evAppend evExtract evBin evUn unV evConvert evBuiltin takeAll placesOf placeParts partRows newsOf rowsOwn LS.width LS.rows fieldOf zeroOk splice goneR skipTo yieldOf argOf argsOf SV.isRes St.copy get_nil get_step put_step St.puts set_nil set_step St.forget kill_nil kill_step killAt_nil killAt_step cond_true cond_false St.killSeg St.cell St.setCell SV.setCell SV.root SV.names SV.namesAt rowOwn C.own constOk Value.cells Value.oneCell' St.list lsOf St.flat binV intV strV boolV shiftV isShift resOf resAll St.take drawDsts dstsQ quietOp takeRes Option.map_some Option.map_none Option.bind_some Option.getD_some Option.getD_none Nat.zero_add Nat.add_zero if_true if_false ite_true ite_false dite_true List.length_map List.length_nil List.length_cons List.map_cons List.map_nil List.all_cons List.all_nil List.getElem?_cons_zero List.getElem?_cons_succ List.getElem?_nil List.getElem?_toArray List.set_cons_zero List.set_cons_succ List.take_succ_cons List.take_zero List.drop_succ_cons List.drop_zero List.drop_nil List.nil_append List.cons_append List.append_nil List.getD_cons_zero List.getD_cons_succ List.all_eq_true true_and and_true or_true true_or or_false false_or Bool.or_false Bool.false_or Bool.or_self Bool.or_true Bool.true_or Bool.and_true Bool.true_and Bool.and_self Bool.and_false Bool.false_and Bool.not_true Bool.not_false Bool.false_eq_true decide_eq_true_eq decide_eq_false_iff_not decide_true decide_false beq_self_eq_true true_implies false_implies forall_const implies_true not_true not_false_iff ne_eq Int.toNat_natCast Int.natCast_nonneg eq_self exists_const if_pos Nat.succ_ne_zero
attribute [local go_sem high] brS_true brS_false brS_not brK_true brK_false brK_not
attribute [local go_sem] ti3 ti4 ti5 ti9 ti22 ti24 ti27 ti31 ti33 ti36 ti41 ti45 ti49 ti51 ti54 ti56 ti60 ti61 ti63 ti65 ti68 ti69 ti71 ti73 ti97 ti118 ti120 ti122 ti124 ti125 ti127 ti129 ti131 ti161 ti163 Tryd.ntmps24 Tryd.results24 Tryd.ntmps26 Tryd.results26
attribute [local go_sem] rowsI_length rowsS_length rowsI_frz rowsS_frz rowsI_own rowsS_own Option.map_none Option.map_some bs_size bs_toList Int.lt_irrefl tys_tInt tys_tString tys_tSig tys_tSigned tys_tEntry tys_tSignedS tys_tFork TEntry_len TEntry_at0 TEntry_get0 TEntry_at1 TEntry_get1 TEntry_at2 TEntry_get2 TEntry_at3 TEntry_get3 TEntry_drop TEntry_full TEntry_frz TEntry_own TEntry_owns TEntry_noImm TDecision_len TDecision_at0 TDecision_get0 TDecision_sub1_Entry TDecision_at1 TDecision_get1 TDecision_at2 TDecision_get2 TDecision_at3 TDecision_get3 TDecision_at4 TDecision_get4 TDecision_at5 TDecision_get5 TDecision_drop TDecision_full TDecision_frz TDecision_own TDecision_owns TDecision_noImm
variable {G : Glob} (hT : ∀ w, G w → Gp w)
def decText (x : TDecision) : List UInt8 := nameAt x.fCode decNames ++ [32] ++ dashText x.fEntry ++ [32] ++ Lib.itoa (x.fOthers.length : Int)
set_option maxHeartbeats 2000000 in
theorem specFormatDecision (x : TDecision) (hx : x.wt ≤ 1048576) (hf : x.fit) : Sat Tryd.prog G 24 [.val true (TDecision.row none x)] (.val false [.v (.string (bs (decText x)))]) := by
  refine sat_of_go (L := tiOf Tryd.prog) (fun T ti h => h) false [[1], [2]] mx Tryd.func24 (by decide) rfl (by show 1 ≤ Tryd.f24.ntmps; decide) ?_
  have hE : x.fEntry.wt ≤ 1048576 := by unfold TDecision.wt at hx; omega
  have hl : x.fEntry.fLabel.length ≤ 1048576 := by unfold TEntry.wt at hE; omega
  have fC : inI x.fCode := hf.1
  have fE : x.fEntry.fit := hf.2.1
  have hn : x.fOthers.length ≤ 1048576 := by unfold TDecision.wt at hx; have := wtL_len (f := TEntry.wt) (l := x.fOthers); omega
  have fN : inI (x.fOthers.length : Int) := by unfold inI; omega
  have lN := itoa_len fN
  have lC := dec_len x.fCode
  have lE := dash_len fE
  simp only [go_sem, brS_dec, brS_beq, brS_bne, brK_dec, brK_beq, brK_bne, Nat.reduceLT, Nat.reduceLeDiff, Nat.reduceAdd, Nat.reduceMul, Nat.reduceSub, Nat.reduceEqDiff, Nat.reduceBEq, Nat.reduceDiv, reduceCtorEq, Int.reduceToNat]
  refine ⟨rfl, call_by (specDecisionName x.fCode) rfl ?_⟩
  simp only [lit_bs, bs_app, List.length_append, List.size_toArray, List.length_cons, List.length_nil, go_sem, brS_dec, brS_beq, brS_bne, brK_dec, brK_beq, brK_bne, Nat.reduceLT, Nat.reduceLeDiff, Nat.reduceAdd, Nat.reduceMul, Nat.reduceSub, Nat.reduceEqDiff, Nat.reduceBEq, Nat.reduceDiv, reduceCtorEq, Int.reduceToNat]
  refine ⟨by omega, call_by (specDash x.fEntry hE fE) rfl ?_⟩
  simp only [lit_bs, bs_app, List.length_append, List.size_toArray, List.length_cons, List.length_nil, go_sem, brS_dec, brS_beq, brS_bne, brK_dec, brK_beq, brK_bne, Nat.reduceLT, Nat.reduceLeDiff, Nat.reduceAdd, Nat.reduceMul, Nat.reduceSub, Nat.reduceEqDiff, Nat.reduceBEq, Nat.reduceDiv, reduceCtorEq, Int.reduceToNat]
  refine ⟨by omega, by omega, ?_⟩
  refine call_by (specFormatInt _ fN) rfl ?_
  simp only [decText, lit_bs, bs_app, List.length_append, List.size_toArray, List.length_cons, List.length_nil, go_sem, brS_dec, brS_beq, brS_bne, brK_dec, brK_beq, brK_bne, Nat.reduceLT, Nat.reduceLeDiff, Nat.reduceAdd, Nat.reduceMul, Nat.reduceSub, Nat.reduceEqDiff, Nat.reduceBEq, Nat.reduceDiv, reduceCtorEq, Int.reduceToNat]
  omega
include hT in
set_option maxHeartbeats 2000000 in
theorem implFormatDecision (x : TDecision) (hx : x.wt ≤ 1048576) (hf : x.fit) : Sat Tryd.prog G 26 [.val true (TDecision.row none x)] (.val false [.v (.string (bs (decText x)))]) := by
  refine sat_of_go (L := tiOf Tryd.prog) (fun T ti h => h) false [[1], [2]] mx Tryd.func26 (by decide) rfl (by show 1 ≤ Tryd.f26.ntmps; decide) ?_
  have hE : x.fEntry.wt ≤ 1048576 := by unfold TDecision.wt at hx; omega
  have hl : x.fEntry.fLabel.length ≤ 1048576 := by unfold TEntry.wt at hE; omega
  have fC : inI x.fCode := hf.1
  have fE : x.fEntry.fit := hf.2.1
  have hn : x.fOthers.length ≤ 1048576 := by unfold TDecision.wt at hx; have := wtL_len (f := TEntry.wt) (l := x.fOthers); omega
  have fN : inI (x.fOthers.length : Int) := by unfold inI; omega
  have lN := itoa_len fN
  have lC := dec_len x.fCode
  have lE := dash_len fE
  simp only [go_sem, brS_dec, brS_beq, brS_bne, brK_dec, brK_beq, brK_bne, Nat.reduceLT, Nat.reduceLeDiff, Nat.reduceAdd, Nat.reduceMul, Nat.reduceSub, Nat.reduceEqDiff, Nat.reduceBEq, Nat.reduceDiv, reduceCtorEq, Int.reduceToNat]
  refine ⟨rfl, call_by (implDecisionName x.fCode fC) rfl ?_⟩
  simp only [lit_bs, bs_app, List.length_append, List.size_toArray, List.length_cons, List.length_nil, go_sem, brS_dec, brS_beq, brS_bne, brK_dec, brK_beq, brK_bne, Nat.reduceLT, Nat.reduceLeDiff, Nat.reduceAdd, Nat.reduceMul, Nat.reduceSub, Nat.reduceEqDiff, Nat.reduceBEq, Nat.reduceDiv, reduceCtorEq, Int.reduceToNat]
  refine ⟨by omega, call_by (implDash hT x.fEntry hE fE) rfl ?_⟩
  simp only [lit_bs, bs_app, List.length_append, List.size_toArray, List.length_cons, List.length_nil, go_sem, brS_dec, brS_beq, brS_bne, brK_dec, brK_beq, brK_bne, Nat.reduceLT, Nat.reduceLeDiff, Nat.reduceAdd, Nat.reduceMul, Nat.reduceSub, Nat.reduceEqDiff, Nat.reduceBEq, Nat.reduceDiv, reduceCtorEq, Int.reduceToNat]
  refine ⟨by omega, by omega, ?_⟩
  refine call_by (formatInt hT _ fN) rfl ?_
  simp only [decText, lit_bs, bs_app, List.length_append, List.size_toArray, List.length_cons, List.length_nil, go_sem, brS_dec, brS_beq, brS_bne, brK_dec, brK_beq, brK_bne, Nat.reduceLT, Nat.reduceLeDiff, Nat.reduceAdd, Nat.reduceMul, Nat.reduceSub, Nat.reduceEqDiff, Nat.reduceBEq, Nat.reduceDiv, reduceCtorEq, Int.reduceToNat]
  omega
end Go.Proofs.Vt
