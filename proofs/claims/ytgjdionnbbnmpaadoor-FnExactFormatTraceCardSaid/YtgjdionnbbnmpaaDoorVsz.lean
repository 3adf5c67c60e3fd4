/- A part of the proof of the card: lemmas that the text with the card leans on (see there for what is proved, and under which conditions). -/
import Derived.Test.YtgjdionnbbnmpaaDoorVfac
namespace Go.Proofs.Vt
open Go Go.RowKit Go.Proofs.Vm Go.Proofs
set_option maxRecDepth 10000
set_option linter.unusedVariables false
set_option linter.unusedSimpArgs false
attribute [local go_sem] go_skip go_region go_draw go_seq go_if go_block go_loop go_exit go_ret seqK_normal seqK_exit seqK_ret blockK_normal blockK_exit blockK_ret endK_ret endK_normal runK_at keepK_at St.only onlyF inside_ptr inside_al inside_eo inside_dead inside_val inside_box inside_ep inside_tup inside_fn memN goRun_nil goRun_free goRun_if opK_at skK_at mvK_at goOp_call goOp_callFn goOp_pick goOp_builtin goOp_move goOp_assign goOp_alloc goOp_box goOp_build goOp_buildSlice goOp_load goOp_store goOp_nilCheck goOp_binOp goOp_unOp goOp_convert goOp_makeFunc goOp_makeSlice goOp_slice goOp_fieldAddr goOp_field goOp_indexAddr goOp_index goOp_extract quietB buildOk partsOk ownless plainK evOp evMoveOp evLoadMove evLoadFreeze C.frz frzR initFrom goMove evAssign evMove evNil evFunc capOf capsOf Cap.arg ptOf SV.step evFieldAddr evField evLoad evStore evIndexAddr evIndex evAlloc evBox evBuild evBuildSlice evMake evLen evAppend evExtract evBin evUn unV evConvert evBuiltin takeAll placesOf placeParts partRows newsOf rowsOwn LS.width LS.rows fieldOf zeroOk splice goneR skipTo yieldOf argOf argsOf SV.isRes St.copy get_nil get_step put_step St.puts set_nil set_step St.forget kill_nil kill_step killAt_nil killAt_step cond_true cond_false St.killSeg St.cell St.setCell SV.setCell SV.root SV.names SV.namesAt rowOwn C.own constOk Value.cells Value.oneCell' St.list lsOf St.flat binV intV strV boolV shiftV isShift resOf resAll St.take drawDsts dstsQ quietOp takeRes Option.map_some Option.map_none Option.bind_some Option.getD_some Option.getD_none Nat.zero_add Nat.add_zero if_true if_false ite_true ite_false dite_true List.length_map List.length_nil List.length_cons List.map_cons List.map_nil List.all_cons List.all_nil List.getElem?_cons_zero List.getElem?_cons_succ List.getElem?_nil List.getElem?_toArray List.set_cons_zero List.set_cons_succ List.take_succ_cons List.take_zero List.drop_succ_cons List.drop_zero List.drop_nil List.nil_append List.cons_append List.append_nil List.getD_cons_zero List.getD_cons_succ List.all_eq_true true_and and_true or_true true_or or_false false_or Bool.or_false Bool.false_or Bool.or_self Bool.or_true Bool.true_or Bool.and_true Bool.true_and Bool.and_self Bool.and_false Bool.false_and Bool.not_true Bool.not_false Bool.false_eq_true decide_eq_true_eq decide_eq_false_iff_not decide_true decide_false beq_self_eq_true true_implies false_implies forall_const implies_true not_true not_false_iff ne_eq Int.toNat_natCast Int.natCast_nonneg eq_self exists_const if_pos Nat.succ_ne_zero
attribute [local go_sem high] brS_true brS_false brS_not brK_true brK_false brK_not
attribute [local go_sem] ti3 ti4 ti5 ti9 ti22 ti24 ti27 ti31 ti33 ti36 ti41 ti45 ti49 ti51 ti54 ti56 ti60 ti61 ti63 ti65 ti68 ti69 ti71 ti73 ti97 ti118 ti120 ti122 ti124 ti125 ti127 ti129 ti131 ti161 ti163 Tryd.ntmps8 Tryd.results8 Tryd.ntmps13 Tryd.results13 Tryd.ntmps18 Tryd.results18 Tryd.ntmps23 Tryd.results23 Tryd.ntmps28 Tryd.results28 Tryd.ntmps33 Tryd.results33 Tryd.ntmps41 Tryd.results41 Tryd.ntmps49 Tryd.results49 Tryd.ntmps56 Tryd.results56 Tryd.ntmps70 Tryd.results70 Tryd.ntmps71 Tryd.results71 Tryd.ntmps83 Tryd.results83 Tryd.ntmps84 Tryd.results84 Tryd.ntmps93 Tryd.results93 Tryd.ntmps100 Tryd.results100
attribute [local go_sem] rowsI_length rowsS_length rowsI_frz rowsS_frz rowsI_own rowsS_own Option.map_none Option.map_some bs_size bs_toList Int.lt_irrefl tys_tInt tys_tString tys_tSig tys_tSigned tys_tEntry tys_tSignedS tys_tFork TKeys_len TKeys_at0 TKeys_get0 TKeys_at1 TKeys_get1 TKeys_drop TKeys_full TKeys_frz TKeys_own TKeys_owns TKeys_noImm TSig_len TSig_at0 TSig_get0 TSig_at1 TSig_get1 TSig_drop TSig_full TSig_frz TSig_own TSig_owno TSig_noImm TEntry_len TEntry_at0 TEntry_get0 TEntry_at1 TEntry_get1 TEntry_at2 TEntry_get2 TEntry_at3 TEntry_get3 TEntry_drop TEntry_full TEntry_frz TEntry_own TEntry_owns TEntry_noImm THead_len THead_at0 THead_get0 THead_at1 THead_get1 THead_at2 THead_get2 THead_at3 THead_get3 THead_at4 THead_get4 THead_at5 THead_get5 THead_at6 THead_get6 THead_at7 THead_get7 THead_sub8_Keys THead_at8 THead_get8 THead_at9 THead_get9 THead_sub10_Keys THead_at10 THead_get10 THead_at11 THead_get11 THead_at12 THead_get12 THead_sub13_Keys THead_at13 THead_get13 THead_at14 THead_get14 THead_at15 THead_get15 THead_drop THead_full THead_frz THead_own THead_owns THead_noImm TSigned_len TSigned_sub0_Head TSigned_at0 TSigned_get0 TSigned_at1 TSigned_get1 TSigned_at2 TSigned_get2 TSigned_at3 TSigned_get3 TSigned_at4 TSigned_get4 TSigned_at5 TSigned_get5 TSigned_at6 TSigned_get6 TSigned_at7 TSigned_get7 TSigned_sub8_Keys TSigned_at8 TSigned_get8 TSigned_at9 TSigned_get9 TSigned_sub10_Keys TSigned_at10 TSigned_get10 TSigned_at11 TSigned_get11 TSigned_at12 TSigned_get12 TSigned_sub13_Keys TSigned_at13 TSigned_get13 TSigned_at14 TSigned_get14 TSigned_at15 TSigned_get15 TSigned_at16 TSigned_get16 TSigned_drop TSigned_full TSigned_frz TSigned_own TSigned_owns TSigned_noImm TFork_len TFork_sub0_Signed TFork_sub0_Head TFork_at0 TFork_get0 TFork_at1 TFork_get1 TFork_at2 TFork_get2 TFork_at3 TFork_get3 TFork_at4 TFork_get4 TFork_at5 TFork_get5 TFork_at6 TFork_get6 TFork_at7 TFork_get7 TFork_sub8_Keys TFork_at8 TFork_get8 TFork_at9 TFork_get9 TFork_sub10_Keys TFork_at10 TFork_get10 TFork_at11 TFork_get11 TFork_at12 TFork_get12 TFork_sub13_Keys TFork_at13 TFork_get13 TFork_at14 TFork_get14 TFork_at15 TFork_get15 TFork_at16 TFork_get16 TFork_sub17_Signed TFork_sub17_Head TFork_at17 TFork_get17 TFork_at18 TFork_get18 TFork_at19 TFork_get19 TFork_at20 TFork_get20 TFork_at21 TFork_get21 TFork_at22 TFork_get22 TFork_at23 TFork_get23 TFork_at24 TFork_get24 TFork_sub25_Keys TFork_at25 TFork_get25 TFork_at26 TFork_get26 TFork_sub27_Keys TFork_at27 TFork_get27 TFork_at28 TFork_get28 TFork_at29 TFork_get29 TFork_sub30_Keys TFork_at30 TFork_get30 TFork_at31 TFork_get31 TFork_at32 TFork_get32 TFork_at33 TFork_get33 TFork_sub34_Signed TFork_sub34_Head TFork_at34 TFork_get34 TFork_at35 TFork_get35 TFork_at36 TFork_get36 TFork_at37 TFork_get37 TFork_at38 TFork_get38 TFork_at39 TFork_get39 TFork_at40 TFork_get40 TFork_at41 TFork_get41 TFork_sub42_Keys TFork_at42 TFork_get42 TFork_at43 TFork_get43 TFork_sub44_Keys TFork_at44 TFork_get44 TFork_at45 TFork_get45 TFork_at46 TFork_get46 TFork_sub47_Keys TFork_at47 TFork_get47 TFork_at48 TFork_get48 TFork_at49 TFork_get49 TFork_at50 TFork_get50 TFork_drop TFork_full TFork_frz TFork_own TFork_owns TFork_noImm rowLSignedS_len rowLSignedS_at rowLSignedS_get rowLSignedS_frz rowLSignedS_own rowLSignedS_noImm TKnown_len TKnown_at0 TKnown_get0 TKnown_at1 TKnown_get1 TKnown_drop TKnown_full TKnown_frz TKnown_own TKnown_owns TKnown_noImm TTrace_len TTrace_sub0_Known TTrace_at0 TTrace_get0 TTrace_at1 TTrace_get1 TTrace_at2 TTrace_get2 TTrace_sub3_Entry TTrace_at3 TTrace_get3 TTrace_at4 TTrace_get4 TTrace_at5 TTrace_get5 TTrace_at6 TTrace_get6 TTrace_at7 TTrace_get7 TTrace_at8 TTrace_get8 TTrace_drop TTrace_full TTrace_frz TTrace_own TTrace_owns TTrace_noImm TDecision_len TDecision_at0 TDecision_get0 TDecision_sub1_Entry TDecision_at1 TDecision_get1 TDecision_at2 TDecision_get2 TDecision_at3 TDecision_get3 TDecision_at4 TDecision_get4 TDecision_at5 TDecision_get5 TDecision_drop TDecision_full TDecision_frz TDecision_own TDecision_owns TDecision_noImm
variable {G : Glob}
theorem szIntS (xs : List Int) (left : Int) (h0 : 0 ≤ left) (h1 : left ≤ 1048576) (hx : fitL (inI) xs) : Sat Tryd.prog G 33 [.val false [.l none 1 (rowsI xs)], .val false [.v (.int .i64 left)]] (.val false [.v (.int .i64 (szR (xs.length) left))]) := by
  refine sat_of_go (L := tiOf Tryd.prog) (fun T ti h => h) false [[0, 1], [1], [1, 10], [4], [4]] mx Tryd.func33 (by decide) rfl (by show 2 ≤ Tryd.f33.ntmps; decide) ?_
  have hl := wrap_sub h0 h1 hx.1
  by_cases hc : (xs.length : Int) ≤ left
  · have hn : ¬ (left - (xs.length : Int) < 0) := by omega
    simp only [hl, hn, go_sem, brS_dec, brS_beq, brS_bne, brK_dec, brK_beq, brK_bne, Nat.reduceLT, Nat.reduceLeDiff, Nat.reduceAdd, Nat.reduceMul, Nat.reduceSub, Nat.reduceEqDiff, Nat.reduceBEq, Nat.reduceDiv, reduceCtorEq, Int.reduceToNat]
    rw [szR_pos hc]
  · have hn : left - (xs.length : Int) < 0 := by omega
    simp only [hl, hn, go_sem, brS_dec, brS_beq, brS_bne, brK_dec, brK_beq, brK_bne, Nat.reduceLT, Nat.reduceLeDiff, Nat.reduceAdd, Nat.reduceMul, Nat.reduceSub, Nat.reduceEqDiff, Nat.reduceBEq, Nat.reduceDiv, reduceCtorEq, Int.reduceToNat]
    rw [szR_neg (by omega)]
theorem szKeys (x : TKeys) (left : Int) (h0 : 0 ≤ left) (h1 : left ≤ 1048576) (hx : TKeys.fit x) : Sat Tryd.prog G 8 [.val true (TKeys.row none x), .val false [.v (.int .i64 left)]] (.val false [.v (.int .i64 (szR (TKeys.wt x) left))]) := by
  refine sat_of_go (L := tiOf Tryd.prog) (fun T ti h => h) false [[1, 2], [1], [1, 10], [4], [4]] mx Tryd.func8 (by decide) rfl (by show 2 ≤ Tryd.f8.ntmps; decide) ?_
  have hmx := maxLen_eq
  have hm1 : ((-1 : Int) < 0) := by decide
  have hw : TKeys.wt x = (x.fList.length) := rfl
  simp only [go_sem, brS_dec, brS_beq, brS_bne, brK_dec, brK_beq, brK_bne, Nat.reduceLT, Nat.reduceLeDiff, Nat.reduceAdd, Nat.reduceMul, Nat.reduceSub, Nat.reduceEqDiff, Nat.reduceBEq, Nat.reduceDiv, reduceCtorEq, Int.reduceToNat]
  refine call_by (szIntS x.fList left (by omega) (by omega) (hx.1)) rfl ?_
  by_cases hc0 : ((((x.fList.length)) : Nat) : Int) ≤ left
  · have hr0 : szR (x.fList.length) left = (left - ((x.fList.length) : Nat)) := by have h9 := szR_pos (n := (x.fList.length)) (left := left) (by omega); omega
    have hn0 : ¬ ((left - ((x.fList.length) : Nat)) < 0) := by omega
    simp only [hr0, hn0, go_sem, brS_dec, brS_beq, brS_bne, brK_dec, brK_beq, brK_bne, Nat.reduceLT, Nat.reduceLeDiff, Nat.reduceAdd, Nat.reduceMul, Nat.reduceSub, Nat.reduceEqDiff, Nat.reduceBEq, Nat.reduceDiv, reduceCtorEq, Int.reduceToNat]
    rw [szR_pos (by omega), hw]
  · have hr0 : szR (x.fList.length) left = -1 := szR_neg (by omega)
    simp only [hr0, hm1, go_sem, brS_dec, brS_beq, brS_bne, brK_dec, brK_beq, brK_bne, Nat.reduceLT, Nat.reduceLeDiff, Nat.reduceAdd, Nat.reduceMul, Nat.reduceSub, Nat.reduceEqDiff, Nat.reduceBEq, Nat.reduceDiv, reduceCtorEq, Int.reduceToNat]
    rw [szR_neg (by omega)]
theorem szStringS (xs : List (List UInt8)) (left : Int) (h0 : 0 ≤ left) (h1 : left ≤ 1048576) (hx : fitL (fun t => t.length ≤ maxLen) xs) : Sat Tryd.prog G 41 [.val false [.l none 1 (rowsS xs)], .val false [.v (.int .i64 left)]] (.val false [.v (.int .i64 (szR (wtL List.length xs) left))]) := by
  refine sat_of_go (L := tiOf Tryd.prog) (fun T ti h => h) false [[0, 1], [0, 1], [0, 1, 11], [4], [0, 1, 5], [0, 1, 5, 15], [0, 1, 5], [0, 1, 5], [0, 1, 5, 26], [4], [4]] mx Tryd.func41 (by decide) rfl (by show 2 ≤ Tryd.f41.ntmps; decide) ?_
  have hl := wrap_sub h0 h1 hx.1
  have hp0 := preL_zero List.length xs
  have hpn := preL_all List.length xs
  have hmx := maxLen_eq
  have hlx := hx.1
  by_cases hc : (xs.length : Int) ≤ left
  · have hn : ¬ (left - (xs.length : Int) < 0) := by omega
    simp only [hl, hn, go_sem, brS_dec, brS_beq, brS_bne, brK_dec, brK_beq, brK_bne, Nat.reduceLT, Nat.reduceLeDiff, Nat.reduceAdd, Nat.reduceMul, Nat.reduceSub, Nat.reduceEqDiff, Nat.reduceBEq, Nat.reduceDiv, reduceCtorEq, Int.reduceToNat]
    refine loop_n [0, 1, 5] xs.length (fun i => [(1, .val false [.v (.int .i64 (left - (preL List.length xs i : Nat)))]), (5, .val false [.v (.int .i64 (i : Int))])]) (fun i => (preL List.length xs i : Int) ≤ left) ?_ ?_ ?_ ?_
    · simp only [hp0, go_sem, brS_dec, brS_beq, brS_bne, brK_dec, brK_beq, brK_bne, Nat.reduceLT, Nat.reduceLeDiff, Nat.reduceAdd, Nat.reduceMul, Nat.reduceSub, Nat.reduceEqDiff, Nat.reduceBEq, Nat.reduceDiv, reduceCtorEq, Int.reduceToNat]
      try rfl
    · rw [hp0]; exact hc
    · intro i hi hq F hF
      have hlt : ((i : Int) < (xs.length : Int)) := by omega
      have hsu := preL_succ List.length xs hi
      have hup := wrap_up (i := i) (by omega)
      have hfit := fitL_at hx hi default
      have hel : xs.getD i default = xs.getD i [] := rfl
      have hw := wrap_sub (left := left - (preL List.length xs i : Nat)) (n := (xs.getD i []).length) (by omega) (by omega) hfit
      have hw2 : left - (preL List.length xs i : Nat) - ((xs.getD i []).length : Int) = left - (preL List.length xs (i + 1) : Nat) := by rw [hel] at hsu; omega
      have hle := preL_le List.length xs (i + 1)
      have hw3 := hw.trans hw2
      clear hw hw2
      simp only [hlt, rowsS_at xs hi, hw3, hup, go_sem, brS_dec, brS_beq, brS_bne, brK_dec, brK_beq, brK_bne, Nat.reduceLT, Nat.reduceLeDiff, Nat.reduceAdd, Nat.reduceMul, Nat.reduceSub, Nat.reduceEqDiff, Nat.reduceBEq, Nat.reduceDiv, reduceCtorEq, Int.reduceToNat]
      refine ⟨fun hn2 => ?_, fun hn2 => ?_⟩
      · rw [szR_neg (by omega)]
      · refine hF _ ?_ (by omega)
        simp only [go_sem, brS_dec, brS_beq, brS_bne, brK_dec, brK_beq, brK_bne, Nat.reduceLT, Nat.reduceLeDiff, Nat.reduceAdd, Nat.reduceMul, Nat.reduceSub, Nat.reduceEqDiff, Nat.reduceBEq, Nat.reduceDiv, reduceCtorEq, Int.reduceToNat]
    · intro hq F
      rw [hpn] at hq
      simp only [hpn, go_sem, brS_dec, brS_beq, brS_bne, brK_dec, brK_beq, brK_bne, Nat.reduceLT, Nat.reduceLeDiff, Nat.reduceAdd, Nat.reduceMul, Nat.reduceSub, Nat.reduceEqDiff, Nat.reduceBEq, Nat.reduceDiv, reduceCtorEq, Int.reduceToNat]
      rw [szR_pos hq]
  · have hn : left - (xs.length : Int) < 0 := by omega
    have hle : xs.length ≤ wtL List.length xs := wtL_len
    simp only [hl, hn, go_sem, brS_dec, brS_beq, brS_bne, brK_dec, brK_beq, brK_bne, Nat.reduceLT, Nat.reduceLeDiff, Nat.reduceAdd, Nat.reduceMul, Nat.reduceSub, Nat.reduceEqDiff, Nat.reduceBEq, Nat.reduceDiv, reduceCtorEq, Int.reduceToNat]
    rw [szR_neg (by omega)]
theorem szEntry (x : TEntry) (left : Int) (h0 : 0 ≤ left) (h1 : left ≤ 1048576) (hx : TEntry.fit x) : Sat Tryd.prog G 13 [.val true (TEntry.row none x), .val false [.v (.int .i64 left)]] (.val false [.v (.int .i64 (szR (TEntry.wt x) left))]) := by
  refine sat_of_go (L := tiOf Tryd.prog) (fun T ti h => h) false [[1, 2], [1, 2], [1, 2, 11], [4], [1], [1, 17], [4], [4]] mx Tryd.func13 (by decide) rfl (by show 2 ≤ Tryd.f13.ntmps; decide) ?_
  have hmx := maxLen_eq
  have hm1 : ((-1 : Int) < 0) := by decide
  have hw : TEntry.wt x = (x.fLabel.length) + (wtL List.length x.fPath) := rfl
  have hl0 := wrap_sub (left := left) (n := x.fLabel.length) (by omega) (by omega) (hx.1)
  have hl0 := hl0.trans (show left - (x.fLabel.length : Int) = (left - ((x.fLabel.length) : Nat)) by omega)
  by_cases hc0 : ((((x.fLabel.length)) : Nat) : Int) ≤ left
  · have hn0 : ¬ ((left - ((x.fLabel.length) : Nat)) < 0) := by omega
    simp only [hl0, hn0, go_sem, brS_dec, brS_beq, brS_bne, brK_dec, brK_beq, brK_bne, Nat.reduceLT, Nat.reduceLeDiff, Nat.reduceAdd, Nat.reduceMul, Nat.reduceSub, Nat.reduceEqDiff, Nat.reduceBEq, Nat.reduceDiv, reduceCtorEq, Int.reduceToNat]
    refine call_by (szStringS x.fPath (left - ((x.fLabel.length) : Nat)) (by omega) (by omega) (hx.2.2.2)) rfl ?_
    by_cases hc1 : ((((x.fLabel.length) + (wtL List.length x.fPath)) : Nat) : Int) ≤ left
    · have hr1 : szR (wtL List.length x.fPath) (left - ((x.fLabel.length) : Nat)) = (left - ((x.fLabel.length) + (wtL List.length x.fPath) : Nat)) := by have h9 := szR_pos (n := (wtL List.length x.fPath)) (left := (left - ((x.fLabel.length) : Nat))) (by omega); omega
      have hn1 : ¬ ((left - ((x.fLabel.length) + (wtL List.length x.fPath) : Nat)) < 0) := by omega
      simp only [hr1, hn1, go_sem, brS_dec, brS_beq, brS_bne, brK_dec, brK_beq, brK_bne, Nat.reduceLT, Nat.reduceLeDiff, Nat.reduceAdd, Nat.reduceMul, Nat.reduceSub, Nat.reduceEqDiff, Nat.reduceBEq, Nat.reduceDiv, reduceCtorEq, Int.reduceToNat]
      rw [szR_pos (by omega), hw]
    · have hr1 : szR (wtL List.length x.fPath) (left - ((x.fLabel.length) : Nat)) = -1 := szR_neg (by omega)
      simp only [hr1, hm1, go_sem, brS_dec, brS_beq, brS_bne, brK_dec, brK_beq, brK_bne, Nat.reduceLT, Nat.reduceLeDiff, Nat.reduceAdd, Nat.reduceMul, Nat.reduceSub, Nat.reduceEqDiff, Nat.reduceBEq, Nat.reduceDiv, reduceCtorEq, Int.reduceToNat]
      rw [szR_neg (by omega)]
  · have hn0 : (left - ((x.fLabel.length) : Nat)) < 0 := by omega
    simp only [hl0, hn0, go_sem, brS_dec, brS_beq, brS_bne, brK_dec, brK_beq, brK_bne, Nat.reduceLT, Nat.reduceLeDiff, Nat.reduceAdd, Nat.reduceMul, Nat.reduceSub, Nat.reduceEqDiff, Nat.reduceBEq, Nat.reduceDiv, reduceCtorEq, Int.reduceToNat]
    rw [szR_neg (by omega)]
theorem szHead (x : THead) (left : Int) (h0 : 0 ≤ left) (h1 : left ≤ 1048576) (hx : THead.fit x) : Sat Tryd.prog G 18 [.val true (THead.row none x), .val false [.v (.int .i64 left)]] (.val false [.v (.int .i64 (szR (THead.wt x) left))]) := by
  refine sat_of_go (L := tiOf Tryd.prog) (fun T ti h => h) false [[1, 2], [1, 2], [1, 2, 10], [4], [1, 2], [1, 2, 16], [4], [1], [1, 22], [4], [4]] mx Tryd.func18 (by decide) rfl (by show 2 ≤ Tryd.f18.ntmps; decide) ?_
  have hmx := maxLen_eq
  have hm1 : ((-1 : Int) < 0) := by decide
  have hw : THead.wt x = (TKeys.wt x.fKeys) + (TKeys.wt x.fHeirs) + (TKeys.wt x.fJudge) := rfl
  simp only [go_sem, brS_dec, brS_beq, brS_bne, brK_dec, brK_beq, brK_bne, Nat.reduceLT, Nat.reduceLeDiff, Nat.reduceAdd, Nat.reduceMul, Nat.reduceSub, Nat.reduceEqDiff, Nat.reduceBEq, Nat.reduceDiv, reduceCtorEq, Int.reduceToNat]
  refine call_by (szKeys x.fKeys left (by omega) (by omega) (hx.2.2.2.2.2.2.2.2.1)) rfl ?_
  by_cases hc0 : ((((TKeys.wt x.fKeys)) : Nat) : Int) ≤ left
  · have hr0 : szR (TKeys.wt x.fKeys) left = (left - ((TKeys.wt x.fKeys) : Nat)) := by have h9 := szR_pos (n := (TKeys.wt x.fKeys)) (left := left) (by omega); omega
    have hn0 : ¬ ((left - ((TKeys.wt x.fKeys) : Nat)) < 0) := by omega
    simp only [hr0, hn0, go_sem, brS_dec, brS_beq, brS_bne, brK_dec, brK_beq, brK_bne, Nat.reduceLT, Nat.reduceLeDiff, Nat.reduceAdd, Nat.reduceMul, Nat.reduceSub, Nat.reduceEqDiff, Nat.reduceBEq, Nat.reduceDiv, reduceCtorEq, Int.reduceToNat]
    refine call_by (szKeys x.fHeirs (left - ((TKeys.wt x.fKeys) : Nat)) (by omega) (by omega) (hx.2.2.2.2.2.2.2.2.2.1)) rfl ?_
    by_cases hc1 : ((((TKeys.wt x.fKeys) + (TKeys.wt x.fHeirs)) : Nat) : Int) ≤ left
    · have hr1 : szR (TKeys.wt x.fHeirs) (left - ((TKeys.wt x.fKeys) : Nat)) = (left - ((TKeys.wt x.fKeys) + (TKeys.wt x.fHeirs) : Nat)) := by have h9 := szR_pos (n := (TKeys.wt x.fHeirs)) (left := (left - ((TKeys.wt x.fKeys) : Nat))) (by omega); omega
      have hn1 : ¬ ((left - ((TKeys.wt x.fKeys) + (TKeys.wt x.fHeirs) : Nat)) < 0) := by omega
      simp only [hr1, hn1, go_sem, brS_dec, brS_beq, brS_bne, brK_dec, brK_beq, brK_bne, Nat.reduceLT, Nat.reduceLeDiff, Nat.reduceAdd, Nat.reduceMul, Nat.reduceSub, Nat.reduceEqDiff, Nat.reduceBEq, Nat.reduceDiv, reduceCtorEq, Int.reduceToNat]
      refine call_by (szKeys x.fJudge (left - ((TKeys.wt x.fKeys) + (TKeys.wt x.fHeirs) : Nat)) (by omega) (by omega) (hx.2.2.2.2.2.2.2.2.2.2.2.1)) rfl ?_
      by_cases hc2 : ((((TKeys.wt x.fKeys) + (TKeys.wt x.fHeirs) + (TKeys.wt x.fJudge)) : Nat) : Int) ≤ left
      · have hr2 : szR (TKeys.wt x.fJudge) (left - ((TKeys.wt x.fKeys) + (TKeys.wt x.fHeirs) : Nat)) = (left - ((TKeys.wt x.fKeys) + (TKeys.wt x.fHeirs) + (TKeys.wt x.fJudge) : Nat)) := by have h9 := szR_pos (n := (TKeys.wt x.fJudge)) (left := (left - ((TKeys.wt x.fKeys) + (TKeys.wt x.fHeirs) : Nat))) (by omega); omega
        have hn2 : ¬ ((left - ((TKeys.wt x.fKeys) + (TKeys.wt x.fHeirs) + (TKeys.wt x.fJudge) : Nat)) < 0) := by omega
        simp only [hr2, hn2, go_sem, brS_dec, brS_beq, brS_bne, brK_dec, brK_beq, brK_bne, Nat.reduceLT, Nat.reduceLeDiff, Nat.reduceAdd, Nat.reduceMul, Nat.reduceSub, Nat.reduceEqDiff, Nat.reduceBEq, Nat.reduceDiv, reduceCtorEq, Int.reduceToNat]
        rw [szR_pos (by omega), hw]
      · have hr2 : szR (TKeys.wt x.fJudge) (left - ((TKeys.wt x.fKeys) + (TKeys.wt x.fHeirs) : Nat)) = -1 := szR_neg (by omega)
        simp only [hr2, hm1, go_sem, brS_dec, brS_beq, brS_bne, brK_dec, brK_beq, brK_bne, Nat.reduceLT, Nat.reduceLeDiff, Nat.reduceAdd, Nat.reduceMul, Nat.reduceSub, Nat.reduceEqDiff, Nat.reduceBEq, Nat.reduceDiv, reduceCtorEq, Int.reduceToNat]
        rw [szR_neg (by omega)]
    · have hr1 : szR (TKeys.wt x.fHeirs) (left - ((TKeys.wt x.fKeys) : Nat)) = -1 := szR_neg (by omega)
      simp only [hr1, hm1, go_sem, brS_dec, brS_beq, brS_bne, brK_dec, brK_beq, brK_bne, Nat.reduceLT, Nat.reduceLeDiff, Nat.reduceAdd, Nat.reduceMul, Nat.reduceSub, Nat.reduceEqDiff, Nat.reduceBEq, Nat.reduceDiv, reduceCtorEq, Int.reduceToNat]
      rw [szR_neg (by omega)]
  · have hr0 : szR (TKeys.wt x.fKeys) left = -1 := szR_neg (by omega)
    simp only [hr0, hm1, go_sem, brS_dec, brS_beq, brS_bne, brK_dec, brK_beq, brK_bne, Nat.reduceLT, Nat.reduceLeDiff, Nat.reduceAdd, Nat.reduceMul, Nat.reduceSub, Nat.reduceEqDiff, Nat.reduceBEq, Nat.reduceDiv, reduceCtorEq, Int.reduceToNat]
    rw [szR_neg (by omega)]
theorem szSigS (xs : List TSig) (left : Int) (h0 : 0 ≤ left) (h1 : left ≤ 1048576) (hx : fitL (TSig.fit) xs) : Sat Tryd.prog G 100 [.val false [.l none 2 (xs.map (TSig.row none))], .val false [.v (.int .i64 left)]] (.val false [.v (.int .i64 (szR (xs.length) left))]) := by
  refine sat_of_go (L := tiOf Tryd.prog) (fun T ti h => h) false [[0, 1], [1], [1, 10], [4], [4]] mx Tryd.func100 (by decide) rfl (by show 2 ≤ Tryd.f100.ntmps; decide) ?_
  have hl := wrap_sub h0 h1 hx.1
  by_cases hc : (xs.length : Int) ≤ left
  · have hn : ¬ (left - (xs.length : Int) < 0) := by omega
    simp only [hl, hn, go_sem, brS_dec, brS_beq, brS_bne, brK_dec, brK_beq, brK_bne, Nat.reduceLT, Nat.reduceLeDiff, Nat.reduceAdd, Nat.reduceMul, Nat.reduceSub, Nat.reduceEqDiff, Nat.reduceBEq, Nat.reduceDiv, reduceCtorEq, Int.reduceToNat]
    rw [szR_pos hc]
  · have hn : left - (xs.length : Int) < 0 := by omega
    simp only [hl, hn, go_sem, brS_dec, brS_beq, brS_bne, brK_dec, brK_beq, brK_bne, Nat.reduceLT, Nat.reduceLeDiff, Nat.reduceAdd, Nat.reduceMul, Nat.reduceSub, Nat.reduceEqDiff, Nat.reduceBEq, Nat.reduceDiv, reduceCtorEq, Int.reduceToNat]
    rw [szR_neg (by omega)]
theorem szSigned (x : TSigned) (left : Int) (h0 : 0 ≤ left) (h1 : left ≤ 1048576) (hx : TSigned.fit x) : Sat Tryd.prog G 93 [.val true (TSigned.row none x), .val false [.v (.int .i64 left)]] (.val false [.v (.int .i64 (szR (TSigned.wt x) left))]) := by
  refine sat_of_go (L := tiOf Tryd.prog) (fun T ti h => h) false [[1, 2], [1, 2], [1, 2, 10], [4], [1], [1, 16], [4], [4]] mx Tryd.func93 (by decide) rfl (by show 2 ≤ Tryd.f93.ntmps; decide) ?_
  have hmx := maxLen_eq
  have hm1 : ((-1 : Int) < 0) := by decide
  have hw : TSigned.wt x = (THead.wt x.fHead) + (x.fSigs.length) := rfl
  simp only [go_sem, brS_dec, brS_beq, brS_bne, brK_dec, brK_beq, brK_bne, Nat.reduceLT, Nat.reduceLeDiff, Nat.reduceAdd, Nat.reduceMul, Nat.reduceSub, Nat.reduceEqDiff, Nat.reduceBEq, Nat.reduceDiv, reduceCtorEq, Int.reduceToNat]
  refine call_by (szHead x.fHead left (by omega) (by omega) (hx.1)) rfl ?_
  by_cases hc0 : ((((THead.wt x.fHead)) : Nat) : Int) ≤ left
  · have hr0 : szR (THead.wt x.fHead) left = (left - ((THead.wt x.fHead) : Nat)) := by have h9 := szR_pos (n := (THead.wt x.fHead)) (left := left) (by omega); omega
    have hn0 : ¬ ((left - ((THead.wt x.fHead) : Nat)) < 0) := by omega
    simp only [hr0, hn0, go_sem, brS_dec, brS_beq, brS_bne, brK_dec, brK_beq, brK_bne, Nat.reduceLT, Nat.reduceLeDiff, Nat.reduceAdd, Nat.reduceMul, Nat.reduceSub, Nat.reduceEqDiff, Nat.reduceBEq, Nat.reduceDiv, reduceCtorEq, Int.reduceToNat]
    refine call_by (szSigS x.fSigs (left - ((THead.wt x.fHead) : Nat)) (by omega) (by omega) (hx.2)) rfl ?_
    by_cases hc1 : ((((THead.wt x.fHead) + (x.fSigs.length)) : Nat) : Int) ≤ left
    · have hr1 : szR (x.fSigs.length) (left - ((THead.wt x.fHead) : Nat)) = (left - ((THead.wt x.fHead) + (x.fSigs.length) : Nat)) := by have h9 := szR_pos (n := (x.fSigs.length)) (left := (left - ((THead.wt x.fHead) : Nat))) (by omega); omega
      have hn1 : ¬ ((left - ((THead.wt x.fHead) + (x.fSigs.length) : Nat)) < 0) := by omega
      simp only [hr1, hn1, go_sem, brS_dec, brS_beq, brS_bne, brK_dec, brK_beq, brK_bne, Nat.reduceLT, Nat.reduceLeDiff, Nat.reduceAdd, Nat.reduceMul, Nat.reduceSub, Nat.reduceEqDiff, Nat.reduceBEq, Nat.reduceDiv, reduceCtorEq, Int.reduceToNat]
      rw [szR_pos (by omega), hw]
    · have hr1 : szR (x.fSigs.length) (left - ((THead.wt x.fHead) : Nat)) = -1 := szR_neg (by omega)
      simp only [hr1, hm1, go_sem, brS_dec, brS_beq, brS_bne, brK_dec, brK_beq, brK_bne, Nat.reduceLT, Nat.reduceLeDiff, Nat.reduceAdd, Nat.reduceMul, Nat.reduceSub, Nat.reduceEqDiff, Nat.reduceBEq, Nat.reduceDiv, reduceCtorEq, Int.reduceToNat]
      rw [szR_neg (by omega)]
  · have hr0 : szR (THead.wt x.fHead) left = -1 := szR_neg (by omega)
    simp only [hr0, hm1, go_sem, brS_dec, brS_beq, brS_bne, brK_dec, brK_beq, brK_bne, Nat.reduceLT, Nat.reduceLeDiff, Nat.reduceAdd, Nat.reduceMul, Nat.reduceSub, Nat.reduceEqDiff, Nat.reduceBEq, Nat.reduceDiv, reduceCtorEq, Int.reduceToNat]
    rw [szR_neg (by omega)]
theorem szFork (x : TFork) (left : Int) (h0 : 0 ≤ left) (h1 : left ≤ 1048576) (hx : TFork.fit x) : Sat Tryd.prog G 84 [.val true (TFork.row none x), .val false [.v (.int .i64 left)]] (.val false [.v (.int .i64 (szR (TFork.wt x) left))]) := by
  refine sat_of_go (L := tiOf Tryd.prog) (fun T ti h => h) false [[1, 2], [1, 2], [1, 2, 10], [4], [1, 2], [1, 2, 16], [4], [1], [1, 22], [4], [4]] mx Tryd.func84 (by decide) rfl (by show 2 ≤ Tryd.f84.ntmps; decide) ?_
  have hmx := maxLen_eq
  have hm1 : ((-1 : Int) < 0) := by decide
  have hw : TFork.wt x = (TSigned.wt x.fBefore) + (TSigned.wt x.fA) + (TSigned.wt x.fB) := rfl
  simp only [go_sem, brS_dec, brS_beq, brS_bne, brK_dec, brK_beq, brK_bne, Nat.reduceLT, Nat.reduceLeDiff, Nat.reduceAdd, Nat.reduceMul, Nat.reduceSub, Nat.reduceEqDiff, Nat.reduceBEq, Nat.reduceDiv, reduceCtorEq, Int.reduceToNat]
  refine call_by (szSigned x.fBefore left (by omega) (by omega) (hx.1)) rfl ?_
  by_cases hc0 : ((((TSigned.wt x.fBefore)) : Nat) : Int) ≤ left
  · have hr0 : szR (TSigned.wt x.fBefore) left = (left - ((TSigned.wt x.fBefore) : Nat)) := by have h9 := szR_pos (n := (TSigned.wt x.fBefore)) (left := left) (by omega); omega
    have hn0 : ¬ ((left - ((TSigned.wt x.fBefore) : Nat)) < 0) := by omega
    simp only [hr0, hn0, go_sem, brS_dec, brS_beq, brS_bne, brK_dec, brK_beq, brK_bne, Nat.reduceLT, Nat.reduceLeDiff, Nat.reduceAdd, Nat.reduceMul, Nat.reduceSub, Nat.reduceEqDiff, Nat.reduceBEq, Nat.reduceDiv, reduceCtorEq, Int.reduceToNat]
    refine call_by (szSigned x.fA (left - ((TSigned.wt x.fBefore) : Nat)) (by omega) (by omega) (hx.2.1)) rfl ?_
    by_cases hc1 : ((((TSigned.wt x.fBefore) + (TSigned.wt x.fA)) : Nat) : Int) ≤ left
    · have hr1 : szR (TSigned.wt x.fA) (left - ((TSigned.wt x.fBefore) : Nat)) = (left - ((TSigned.wt x.fBefore) + (TSigned.wt x.fA) : Nat)) := by have h9 := szR_pos (n := (TSigned.wt x.fA)) (left := (left - ((TSigned.wt x.fBefore) : Nat))) (by omega); omega
      have hn1 : ¬ ((left - ((TSigned.wt x.fBefore) + (TSigned.wt x.fA) : Nat)) < 0) := by omega
      simp only [hr1, hn1, go_sem, brS_dec, brS_beq, brS_bne, brK_dec, brK_beq, brK_bne, Nat.reduceLT, Nat.reduceLeDiff, Nat.reduceAdd, Nat.reduceMul, Nat.reduceSub, Nat.reduceEqDiff, Nat.reduceBEq, Nat.reduceDiv, reduceCtorEq, Int.reduceToNat]
      refine call_by (szSigned x.fB (left - ((TSigned.wt x.fBefore) + (TSigned.wt x.fA) : Nat)) (by omega) (by omega) (hx.2.2)) rfl ?_
      by_cases hc2 : ((((TSigned.wt x.fBefore) + (TSigned.wt x.fA) + (TSigned.wt x.fB)) : Nat) : Int) ≤ left
      · have hr2 : szR (TSigned.wt x.fB) (left - ((TSigned.wt x.fBefore) + (TSigned.wt x.fA) : Nat)) = (left - ((TSigned.wt x.fBefore) + (TSigned.wt x.fA) + (TSigned.wt x.fB) : Nat)) := by have h9 := szR_pos (n := (TSigned.wt x.fB)) (left := (left - ((TSigned.wt x.fBefore) + (TSigned.wt x.fA) : Nat))) (by omega); omega
        have hn2 : ¬ ((left - ((TSigned.wt x.fBefore) + (TSigned.wt x.fA) + (TSigned.wt x.fB) : Nat)) < 0) := by omega
        simp only [hr2, hn2, go_sem, brS_dec, brS_beq, brS_bne, brK_dec, brK_beq, brK_bne, Nat.reduceLT, Nat.reduceLeDiff, Nat.reduceAdd, Nat.reduceMul, Nat.reduceSub, Nat.reduceEqDiff, Nat.reduceBEq, Nat.reduceDiv, reduceCtorEq, Int.reduceToNat]
        rw [szR_pos (by omega), hw]
      · have hr2 : szR (TSigned.wt x.fB) (left - ((TSigned.wt x.fBefore) + (TSigned.wt x.fA) : Nat)) = -1 := szR_neg (by omega)
        simp only [hr2, hm1, go_sem, brS_dec, brS_beq, brS_bne, brK_dec, brK_beq, brK_bne, Nat.reduceLT, Nat.reduceLeDiff, Nat.reduceAdd, Nat.reduceMul, Nat.reduceSub, Nat.reduceEqDiff, Nat.reduceBEq, Nat.reduceDiv, reduceCtorEq, Int.reduceToNat]
        rw [szR_neg (by omega)]
    · have hr1 : szR (TSigned.wt x.fA) (left - ((TSigned.wt x.fBefore) : Nat)) = -1 := szR_neg (by omega)
      simp only [hr1, hm1, go_sem, brS_dec, brS_beq, brS_bne, brK_dec, brK_beq, brK_bne, Nat.reduceLT, Nat.reduceLeDiff, Nat.reduceAdd, Nat.reduceMul, Nat.reduceSub, Nat.reduceEqDiff, Nat.reduceBEq, Nat.reduceDiv, reduceCtorEq, Int.reduceToNat]
      rw [szR_neg (by omega)]
  · have hr0 : szR (TSigned.wt x.fBefore) left = -1 := szR_neg (by omega)
    simp only [hr0, hm1, go_sem, brS_dec, brS_beq, brS_bne, brK_dec, brK_beq, brK_bne, Nat.reduceLT, Nat.reduceLeDiff, Nat.reduceAdd, Nat.reduceMul, Nat.reduceSub, Nat.reduceEqDiff, Nat.reduceBEq, Nat.reduceDiv, reduceCtorEq, Int.reduceToNat]
    rw [szR_neg (by omega)]
theorem szSignedS (xs : List TSigned) (left : Int) (h0 : 0 ≤ left) (h1 : left ≤ 1048576) (hx : fitL (TSigned.fit) xs) : Sat Tryd.prog G 83 [.val false [.l none 17 (xs.map (TSigned.row none))], .val false [.v (.int .i64 left)]] (.val false [.v (.int .i64 (szR (wtL TSigned.wt xs) left))]) := by
  refine sat_of_go (L := tiOf Tryd.prog) (fun T ti h => h) false [[0, 1], [0, 1], [0, 1, 11], [4], [0, 1, 5], [0, 1, 5, 15], [0, 1, 5], [0, 1, 5], [0, 1, 5, 25], [4], [4]] mx Tryd.func83 (by decide) rfl (by show 2 ≤ Tryd.f83.ntmps; decide) ?_
  have hl := wrap_sub h0 h1 hx.1
  have hp0 := preL_zero TSigned.wt xs
  have hpn := preL_all TSigned.wt xs
  have hmx := maxLen_eq
  have hlx := hx.1
  by_cases hc : (xs.length : Int) ≤ left
  · have hn : ¬ (left - (xs.length : Int) < 0) := by omega
    simp only [hl, hn, go_sem, brS_dec, brS_beq, brS_bne, brK_dec, brK_beq, brK_bne, Nat.reduceLT, Nat.reduceLeDiff, Nat.reduceAdd, Nat.reduceMul, Nat.reduceSub, Nat.reduceEqDiff, Nat.reduceBEq, Nat.reduceDiv, reduceCtorEq, Int.reduceToNat]
    refine loop_n [0, 1, 5] xs.length (fun i => [(1, .val false [.v (.int .i64 (left - (preL TSigned.wt xs i : Nat)))]), (5, .val false [.v (.int .i64 (i : Int))])]) (fun i => (preL TSigned.wt xs i : Int) ≤ left) ?_ ?_ ?_ ?_
    · simp only [hp0, go_sem, brS_dec, brS_beq, brS_bne, brK_dec, brK_beq, brK_bne, Nat.reduceLT, Nat.reduceLeDiff, Nat.reduceAdd, Nat.reduceMul, Nat.reduceSub, Nat.reduceEqDiff, Nat.reduceBEq, Nat.reduceDiv, reduceCtorEq, Int.reduceToNat]
      try rfl
    · rw [hp0]; exact hc
    · intro i hi hq F hF
      have hlt : ((i : Int) < (xs.length : Int)) := by omega
      have hsu := preL_succ TSigned.wt xs hi
      have hup := wrap_up (i := i) (by omega)
      simp only [hlt, map_getD (TSigned.row none) xs hi, hup, go_sem, brS_dec, brS_beq, brS_bne, brK_dec, brK_beq, brK_bne, Nat.reduceLT, Nat.reduceLeDiff, Nat.reduceAdd, Nat.reduceMul, Nat.reduceSub, Nat.reduceEqDiff, Nat.reduceBEq, Nat.reduceDiv, reduceCtorEq, Int.reduceToNat]
      refine call_by (szSigned (xs.getD i default) (left - (preL TSigned.wt xs i : Nat)) (by omega) (by omega) (fitL_at hx hi default)) rfl ?_
      by_cases hc2 : (preL TSigned.wt xs (i + 1) : Int) ≤ left
      · have hn2 : ¬ (left - (preL TSigned.wt xs (i + 1) : Nat) < 0) := by omega
        have hr : szR (TSigned.wt (xs.getD i default)) (left - (preL TSigned.wt xs i : Nat)) = left - (preL TSigned.wt xs (i + 1) : Nat) := by have h9 := szR_pos (n := (TSigned.wt (xs.getD i default))) (left := left - (preL TSigned.wt xs i : Nat)) (by omega); omega
        simp only [hr, hn2, hup, go_sem, brS_dec, brS_beq, brS_bne, brK_dec, brK_beq, brK_bne, Nat.reduceLT, Nat.reduceLeDiff, Nat.reduceAdd, Nat.reduceMul, Nat.reduceSub, Nat.reduceEqDiff, Nat.reduceBEq, Nat.reduceDiv, reduceCtorEq, Int.reduceToNat]
        refine hF _ ?_ hc2
        simp only [go_sem, brS_dec, brS_beq, brS_bne, brK_dec, brK_beq, brK_bne, Nat.reduceLT, Nat.reduceLeDiff, Nat.reduceAdd, Nat.reduceMul, Nat.reduceSub, Nat.reduceEqDiff, Nat.reduceBEq, Nat.reduceDiv, reduceCtorEq, Int.reduceToNat]
      · have hr : szR (TSigned.wt (xs.getD i default)) (left - (preL TSigned.wt xs i : Nat)) = -1 := szR_neg (by omega)
        have hle := preL_le TSigned.wt xs (i + 1)
        have hm1 : ((-1 : Int) < 0) := by decide
        simp only [hr, hm1, hup, go_sem, brS_dec, brS_beq, brS_bne, brK_dec, brK_beq, brK_bne, Nat.reduceLT, Nat.reduceLeDiff, Nat.reduceAdd, Nat.reduceMul, Nat.reduceSub, Nat.reduceEqDiff, Nat.reduceBEq, Nat.reduceDiv, reduceCtorEq, Int.reduceToNat]
        rw [szR_neg (by omega)]
    · intro hq F
      rw [hpn] at hq
      simp only [hpn, go_sem, brS_dec, brS_beq, brS_bne, brK_dec, brK_beq, brK_bne, Nat.reduceLT, Nat.reduceLeDiff, Nat.reduceAdd, Nat.reduceMul, Nat.reduceSub, Nat.reduceEqDiff, Nat.reduceBEq, Nat.reduceDiv, reduceCtorEq, Int.reduceToNat]
      rw [szR_pos hq]
  · have hn : left - (xs.length : Int) < 0 := by omega
    have hle : xs.length ≤ wtL TSigned.wt xs := wtL_len
    simp only [hl, hn, go_sem, brS_dec, brS_beq, brS_bne, brK_dec, brK_beq, brK_bne, Nat.reduceLT, Nat.reduceLeDiff, Nat.reduceAdd, Nat.reduceMul, Nat.reduceSub, Nat.reduceEqDiff, Nat.reduceBEq, Nat.reduceDiv, reduceCtorEq, Int.reduceToNat]
    rw [szR_neg (by omega)]
theorem szSignedSS (xs : List (List TSigned)) (left : Int) (h0 : 0 ≤ left) (h1 : left ≤ 1048576) (hx : fitL (fitL (TSigned.fit)) xs) : Sat Tryd.prog G 70 [.val false [.l none 1 (xs.map (rowLSignedS none))], .val false [.v (.int .i64 left)]] (.val false [.v (.int .i64 (szR (wtL (wtL TSigned.wt) xs) left))]) := by
  refine sat_of_go (L := tiOf Tryd.prog) (fun T ti h => h) false [[0, 1], [0, 1], [0, 1, 11], [4], [0, 1, 5], [0, 1, 5, 15], [0, 1, 5], [0, 1, 5], [0, 1, 5, 25], [4], [4]] mx Tryd.func70 (by decide) rfl (by show 2 ≤ Tryd.f70.ntmps; decide) ?_
  have hl := wrap_sub h0 h1 hx.1
  have hp0 := preL_zero (wtL TSigned.wt) xs
  have hpn := preL_all (wtL TSigned.wt) xs
  have hmx := maxLen_eq
  have hlx := hx.1
  by_cases hc : (xs.length : Int) ≤ left
  · have hn : ¬ (left - (xs.length : Int) < 0) := by omega
    simp only [hl, hn, go_sem, brS_dec, brS_beq, brS_bne, brK_dec, brK_beq, brK_bne, Nat.reduceLT, Nat.reduceLeDiff, Nat.reduceAdd, Nat.reduceMul, Nat.reduceSub, Nat.reduceEqDiff, Nat.reduceBEq, Nat.reduceDiv, reduceCtorEq, Int.reduceToNat]
    refine loop_n [0, 1, 5] xs.length (fun i => [(1, .val false [.v (.int .i64 (left - (preL (wtL TSigned.wt) xs i : Nat)))]), (5, .val false [.v (.int .i64 (i : Int))])]) (fun i => (preL (wtL TSigned.wt) xs i : Int) ≤ left) ?_ ?_ ?_ ?_
    · simp only [hp0, go_sem, brS_dec, brS_beq, brS_bne, brK_dec, brK_beq, brK_bne, Nat.reduceLT, Nat.reduceLeDiff, Nat.reduceAdd, Nat.reduceMul, Nat.reduceSub, Nat.reduceEqDiff, Nat.reduceBEq, Nat.reduceDiv, reduceCtorEq, Int.reduceToNat]
      try rfl
    · rw [hp0]; exact hc
    · intro i hi hq F hF
      have hlt : ((i : Int) < (xs.length : Int)) := by omega
      have hsu := preL_succ (wtL TSigned.wt) xs hi
      have hup := wrap_up (i := i) (by omega)
      simp only [hlt, map_getD (rowLSignedS none) xs hi, hup, go_sem, brS_dec, brS_beq, brS_bne, brK_dec, brK_beq, brK_bne, Nat.reduceLT, Nat.reduceLeDiff, Nat.reduceAdd, Nat.reduceMul, Nat.reduceSub, Nat.reduceEqDiff, Nat.reduceBEq, Nat.reduceDiv, reduceCtorEq, Int.reduceToNat]
      refine call_by (szSignedS (xs.getD i default) (left - (preL (wtL TSigned.wt) xs i : Nat)) (by omega) (by omega) (fitL_at hx hi default)) rfl ?_
      by_cases hc2 : (preL (wtL TSigned.wt) xs (i + 1) : Int) ≤ left
      · have hn2 : ¬ (left - (preL (wtL TSigned.wt) xs (i + 1) : Nat) < 0) := by omega
        have hr : szR (wtL TSigned.wt (xs.getD i default)) (left - (preL (wtL TSigned.wt) xs i : Nat)) = left - (preL (wtL TSigned.wt) xs (i + 1) : Nat) := by have h9 := szR_pos (n := (wtL TSigned.wt (xs.getD i default))) (left := left - (preL (wtL TSigned.wt) xs i : Nat)) (by omega); omega
        simp only [hr, hn2, hup, go_sem, brS_dec, brS_beq, brS_bne, brK_dec, brK_beq, brK_bne, Nat.reduceLT, Nat.reduceLeDiff, Nat.reduceAdd, Nat.reduceMul, Nat.reduceSub, Nat.reduceEqDiff, Nat.reduceBEq, Nat.reduceDiv, reduceCtorEq, Int.reduceToNat]
        refine hF _ ?_ hc2
        simp only [go_sem, brS_dec, brS_beq, brS_bne, brK_dec, brK_beq, brK_bne, Nat.reduceLT, Nat.reduceLeDiff, Nat.reduceAdd, Nat.reduceMul, Nat.reduceSub, Nat.reduceEqDiff, Nat.reduceBEq, Nat.reduceDiv, reduceCtorEq, Int.reduceToNat]
      · have hr : szR (wtL TSigned.wt (xs.getD i default)) (left - (preL (wtL TSigned.wt) xs i : Nat)) = -1 := szR_neg (by omega)
        have hle := preL_le (wtL TSigned.wt) xs (i + 1)
        have hm1 : ((-1 : Int) < 0) := by decide
        simp only [hr, hm1, hup, go_sem, brS_dec, brS_beq, brS_bne, brK_dec, brK_beq, brK_bne, Nat.reduceLT, Nat.reduceLeDiff, Nat.reduceAdd, Nat.reduceMul, Nat.reduceSub, Nat.reduceEqDiff, Nat.reduceBEq, Nat.reduceDiv, reduceCtorEq, Int.reduceToNat]
        rw [szR_neg (by omega)]
    · intro hq F
      rw [hpn] at hq
      simp only [hpn, go_sem, brS_dec, brS_beq, brS_bne, brK_dec, brK_beq, brK_bne, Nat.reduceLT, Nat.reduceLeDiff, Nat.reduceAdd, Nat.reduceMul, Nat.reduceSub, Nat.reduceEqDiff, Nat.reduceBEq, Nat.reduceDiv, reduceCtorEq, Int.reduceToNat]
      rw [szR_pos hq]
  · have hn : left - (xs.length : Int) < 0 := by omega
    have hle : xs.length ≤ wtL (wtL TSigned.wt) xs := wtL_len
    simp only [hl, hn, go_sem, brS_dec, brS_beq, brS_bne, brK_dec, brK_beq, brK_bne, Nat.reduceLT, Nat.reduceLeDiff, Nat.reduceAdd, Nat.reduceMul, Nat.reduceSub, Nat.reduceEqDiff, Nat.reduceBEq, Nat.reduceDiv, reduceCtorEq, Int.reduceToNat]
    rw [szR_neg (by omega)]
theorem szForkS (xs : List TFork) (left : Int) (h0 : 0 ≤ left) (h1 : left ≤ 1048576) (hx : fitL (TFork.fit) xs) : Sat Tryd.prog G 71 [.val false [.l none 51 (xs.map (TFork.row none))], .val false [.v (.int .i64 left)]] (.val false [.v (.int .i64 (szR (wtL TFork.wt xs) left))]) := by
  refine sat_of_go (L := tiOf Tryd.prog) (fun T ti h => h) false [[0, 1], [0, 1], [0, 1, 11], [4], [0, 1, 5], [0, 1, 5, 15], [0, 1, 5], [0, 1, 5], [0, 1, 5, 25], [4], [4]] mx Tryd.func71 (by decide) rfl (by show 2 ≤ Tryd.f71.ntmps; decide) ?_
  have hl := wrap_sub h0 h1 hx.1
  have hp0 := preL_zero TFork.wt xs
  have hpn := preL_all TFork.wt xs
  have hmx := maxLen_eq
  have hlx := hx.1
  by_cases hc : (xs.length : Int) ≤ left
  · have hn : ¬ (left - (xs.length : Int) < 0) := by omega
    simp only [hl, hn, go_sem, brS_dec, brS_beq, brS_bne, brK_dec, brK_beq, brK_bne, Nat.reduceLT, Nat.reduceLeDiff, Nat.reduceAdd, Nat.reduceMul, Nat.reduceSub, Nat.reduceEqDiff, Nat.reduceBEq, Nat.reduceDiv, reduceCtorEq, Int.reduceToNat]
    refine loop_n [0, 1, 5] xs.length (fun i => [(1, .val false [.v (.int .i64 (left - (preL TFork.wt xs i : Nat)))]), (5, .val false [.v (.int .i64 (i : Int))])]) (fun i => (preL TFork.wt xs i : Int) ≤ left) ?_ ?_ ?_ ?_
    · simp only [hp0, go_sem, brS_dec, brS_beq, brS_bne, brK_dec, brK_beq, brK_bne, Nat.reduceLT, Nat.reduceLeDiff, Nat.reduceAdd, Nat.reduceMul, Nat.reduceSub, Nat.reduceEqDiff, Nat.reduceBEq, Nat.reduceDiv, reduceCtorEq, Int.reduceToNat]
      try rfl
    · rw [hp0]; exact hc
    · intro i hi hq F hF
      have hlt : ((i : Int) < (xs.length : Int)) := by omega
      have hsu := preL_succ TFork.wt xs hi
      have hup := wrap_up (i := i) (by omega)
      simp only [hlt, map_getD (TFork.row none) xs hi, hup, go_sem, brS_dec, brS_beq, brS_bne, brK_dec, brK_beq, brK_bne, Nat.reduceLT, Nat.reduceLeDiff, Nat.reduceAdd, Nat.reduceMul, Nat.reduceSub, Nat.reduceEqDiff, Nat.reduceBEq, Nat.reduceDiv, reduceCtorEq, Int.reduceToNat]
      refine call_by (szFork (xs.getD i default) (left - (preL TFork.wt xs i : Nat)) (by omega) (by omega) (fitL_at hx hi default)) rfl ?_
      by_cases hc2 : (preL TFork.wt xs (i + 1) : Int) ≤ left
      · have hn2 : ¬ (left - (preL TFork.wt xs (i + 1) : Nat) < 0) := by omega
        have hr : szR (TFork.wt (xs.getD i default)) (left - (preL TFork.wt xs i : Nat)) = left - (preL TFork.wt xs (i + 1) : Nat) := by have h9 := szR_pos (n := (TFork.wt (xs.getD i default))) (left := left - (preL TFork.wt xs i : Nat)) (by omega); omega
        simp only [hr, hn2, hup, go_sem, brS_dec, brS_beq, brS_bne, brK_dec, brK_beq, brK_bne, Nat.reduceLT, Nat.reduceLeDiff, Nat.reduceAdd, Nat.reduceMul, Nat.reduceSub, Nat.reduceEqDiff, Nat.reduceBEq, Nat.reduceDiv, reduceCtorEq, Int.reduceToNat]
        refine hF _ ?_ hc2
        simp only [go_sem, brS_dec, brS_beq, brS_bne, brK_dec, brK_beq, brK_bne, Nat.reduceLT, Nat.reduceLeDiff, Nat.reduceAdd, Nat.reduceMul, Nat.reduceSub, Nat.reduceEqDiff, Nat.reduceBEq, Nat.reduceDiv, reduceCtorEq, Int.reduceToNat]
      · have hr : szR (TFork.wt (xs.getD i default)) (left - (preL TFork.wt xs i : Nat)) = -1 := szR_neg (by omega)
        have hle := preL_le TFork.wt xs (i + 1)
        have hm1 : ((-1 : Int) < 0) := by decide
        simp only [hr, hm1, hup, go_sem, brS_dec, brS_beq, brS_bne, brK_dec, brK_beq, brK_bne, Nat.reduceLT, Nat.reduceLeDiff, Nat.reduceAdd, Nat.reduceMul, Nat.reduceSub, Nat.reduceEqDiff, Nat.reduceBEq, Nat.reduceDiv, reduceCtorEq, Int.reduceToNat]
        rw [szR_neg (by omega)]
    · intro hq F
      rw [hpn] at hq
      simp only [hpn, go_sem, brS_dec, brS_beq, brS_bne, brK_dec, brK_beq, brK_bne, Nat.reduceLT, Nat.reduceLeDiff, Nat.reduceAdd, Nat.reduceMul, Nat.reduceSub, Nat.reduceEqDiff, Nat.reduceBEq, Nat.reduceDiv, reduceCtorEq, Int.reduceToNat]
      rw [szR_pos hq]
  · have hn : left - (xs.length : Int) < 0 := by omega
    have hle : xs.length ≤ wtL TFork.wt xs := wtL_len
    simp only [hl, hn, go_sem, brS_dec, brS_beq, brS_bne, brK_dec, brK_beq, brK_bne, Nat.reduceLT, Nat.reduceLeDiff, Nat.reduceAdd, Nat.reduceMul, Nat.reduceSub, Nat.reduceEqDiff, Nat.reduceBEq, Nat.reduceDiv, reduceCtorEq, Int.reduceToNat]
    rw [szR_neg (by omega)]
theorem szKnown (x : TKnown) (left : Int) (h0 : 0 ≤ left) (h1 : left ≤ 1048576) (hx : TKnown.fit x) : Sat Tryd.prog G 56 [.val true (TKnown.row none x), .val false [.v (.int .i64 left)]] (.val false [.v (.int .i64 (szR (TKnown.wt x) left))]) := by
  refine sat_of_go (L := tiOf Tryd.prog) (fun T ti h => h) false [[1, 2], [1, 2], [1, 2, 10], [4], [1], [1, 16], [4], [4]] mx Tryd.func56 (by decide) rfl (by show 2 ≤ Tryd.f56.ntmps; decide) ?_
  have hmx := maxLen_eq
  have hm1 : ((-1 : Int) < 0) := by decide
  have hw : TKnown.wt x = (wtL (wtL TSigned.wt) x.fChains) + (wtL TFork.wt x.fForks) := rfl
  simp only [go_sem, brS_dec, brS_beq, brS_bne, brK_dec, brK_beq, brK_bne, Nat.reduceLT, Nat.reduceLeDiff, Nat.reduceAdd, Nat.reduceMul, Nat.reduceSub, Nat.reduceEqDiff, Nat.reduceBEq, Nat.reduceDiv, reduceCtorEq, Int.reduceToNat]
  refine call_by (szSignedSS x.fChains left (by omega) (by omega) (hx.1)) rfl ?_
  by_cases hc0 : ((((wtL (wtL TSigned.wt) x.fChains)) : Nat) : Int) ≤ left
  · have hr0 : szR (wtL (wtL TSigned.wt) x.fChains) left = (left - ((wtL (wtL TSigned.wt) x.fChains) : Nat)) := by have h9 := szR_pos (n := (wtL (wtL TSigned.wt) x.fChains)) (left := left) (by omega); omega
    have hn0 : ¬ ((left - ((wtL (wtL TSigned.wt) x.fChains) : Nat)) < 0) := by omega
    simp only [hr0, hn0, go_sem, brS_dec, brS_beq, brS_bne, brK_dec, brK_beq, brK_bne, Nat.reduceLT, Nat.reduceLeDiff, Nat.reduceAdd, Nat.reduceMul, Nat.reduceSub, Nat.reduceEqDiff, Nat.reduceBEq, Nat.reduceDiv, reduceCtorEq, Int.reduceToNat]
    refine call_by (szForkS x.fForks (left - ((wtL (wtL TSigned.wt) x.fChains) : Nat)) (by omega) (by omega) (hx.2)) rfl ?_
    by_cases hc1 : ((((wtL (wtL TSigned.wt) x.fChains) + (wtL TFork.wt x.fForks)) : Nat) : Int) ≤ left
    · have hr1 : szR (wtL TFork.wt x.fForks) (left - ((wtL (wtL TSigned.wt) x.fChains) : Nat)) = (left - ((wtL (wtL TSigned.wt) x.fChains) + (wtL TFork.wt x.fForks) : Nat)) := by have h9 := szR_pos (n := (wtL TFork.wt x.fForks)) (left := (left - ((wtL (wtL TSigned.wt) x.fChains) : Nat))) (by omega); omega
      have hn1 : ¬ ((left - ((wtL (wtL TSigned.wt) x.fChains) + (wtL TFork.wt x.fForks) : Nat)) < 0) := by omega
      simp only [hr1, hn1, go_sem, brS_dec, brS_beq, brS_bne, brK_dec, brK_beq, brK_bne, Nat.reduceLT, Nat.reduceLeDiff, Nat.reduceAdd, Nat.reduceMul, Nat.reduceSub, Nat.reduceEqDiff, Nat.reduceBEq, Nat.reduceDiv, reduceCtorEq, Int.reduceToNat]
      rw [szR_pos (by omega), hw]
    · have hr1 : szR (wtL TFork.wt x.fForks) (left - ((wtL (wtL TSigned.wt) x.fChains) : Nat)) = -1 := szR_neg (by omega)
      simp only [hr1, hm1, go_sem, brS_dec, brS_beq, brS_bne, brK_dec, brK_beq, brK_bne, Nat.reduceLT, Nat.reduceLeDiff, Nat.reduceAdd, Nat.reduceMul, Nat.reduceSub, Nat.reduceEqDiff, Nat.reduceBEq, Nat.reduceDiv, reduceCtorEq, Int.reduceToNat]
      rw [szR_neg (by omega)]
  · have hr0 : szR (wtL (wtL TSigned.wt) x.fChains) left = -1 := szR_neg (by omega)
    simp only [hr0, hm1, go_sem, brS_dec, brS_beq, brS_bne, brK_dec, brK_beq, brK_bne, Nat.reduceLT, Nat.reduceLeDiff, Nat.reduceAdd, Nat.reduceMul, Nat.reduceSub, Nat.reduceEqDiff, Nat.reduceBEq, Nat.reduceDiv, reduceCtorEq, Int.reduceToNat]
    rw [szR_neg (by omega)]
theorem szTrace (x : TTrace) (left : Int) (h0 : 0 ≤ left) (h1 : left ≤ 1048576) (hx : TTrace.fit x) : Sat Tryd.prog G 28 [.val true (TTrace.row none x), .val false [.v (.int .i64 left)]] (.val false [.v (.int .i64 (szR (TTrace.wt x) left))]) := by
  refine sat_of_go (L := tiOf Tryd.prog) (fun T ti h => h) false [[1, 2], [1, 2], [1, 2, 10], [4], [1, 2], [1, 2, 16], [4], [1], [1, 22], [4], [4]] mx Tryd.func28 (by decide) rfl (by show 2 ≤ Tryd.f28.ntmps; decide) ?_
  have hmx := maxLen_eq
  have hm1 : ((-1 : Int) < 0) := by decide
  have hw : TTrace.wt x = (TKnown.wt x.fKnown) + (TEntry.wt x.fEntry) + (x.fZones.length) := rfl
  simp only [go_sem, brS_dec, brS_beq, brS_bne, brK_dec, brK_beq, brK_bne, Nat.reduceLT, Nat.reduceLeDiff, Nat.reduceAdd, Nat.reduceMul, Nat.reduceSub, Nat.reduceEqDiff, Nat.reduceBEq, Nat.reduceDiv, reduceCtorEq, Int.reduceToNat]
  refine call_by (szKnown x.fKnown left (by omega) (by omega) (hx.1)) rfl ?_
  by_cases hc0 : ((((TKnown.wt x.fKnown)) : Nat) : Int) ≤ left
  · have hr0 : szR (TKnown.wt x.fKnown) left = (left - ((TKnown.wt x.fKnown) : Nat)) := by have h9 := szR_pos (n := (TKnown.wt x.fKnown)) (left := left) (by omega); omega
    have hn0 : ¬ ((left - ((TKnown.wt x.fKnown) : Nat)) < 0) := by omega
    simp only [hr0, hn0, go_sem, brS_dec, brS_beq, brS_bne, brK_dec, brK_beq, brK_bne, Nat.reduceLT, Nat.reduceLeDiff, Nat.reduceAdd, Nat.reduceMul, Nat.reduceSub, Nat.reduceEqDiff, Nat.reduceBEq, Nat.reduceDiv, reduceCtorEq, Int.reduceToNat]
    refine call_by (szEntry x.fEntry (left - ((TKnown.wt x.fKnown) : Nat)) (by omega) (by omega) (hx.2.2.1)) rfl ?_
    by_cases hc1 : ((((TKnown.wt x.fKnown) + (TEntry.wt x.fEntry)) : Nat) : Int) ≤ left
    · have hr1 : szR (TEntry.wt x.fEntry) (left - ((TKnown.wt x.fKnown) : Nat)) = (left - ((TKnown.wt x.fKnown) + (TEntry.wt x.fEntry) : Nat)) := by have h9 := szR_pos (n := (TEntry.wt x.fEntry)) (left := (left - ((TKnown.wt x.fKnown) : Nat))) (by omega); omega
      have hn1 : ¬ ((left - ((TKnown.wt x.fKnown) + (TEntry.wt x.fEntry) : Nat)) < 0) := by omega
      simp only [hr1, hn1, go_sem, brS_dec, brS_beq, brS_bne, brK_dec, brK_beq, brK_bne, Nat.reduceLT, Nat.reduceLeDiff, Nat.reduceAdd, Nat.reduceMul, Nat.reduceSub, Nat.reduceEqDiff, Nat.reduceBEq, Nat.reduceDiv, reduceCtorEq, Int.reduceToNat]
      refine call_by (szIntS x.fZones (left - ((TKnown.wt x.fKnown) + (TEntry.wt x.fEntry) : Nat)) (by omega) (by omega) (hx.2.2.2.1)) rfl ?_
      by_cases hc2 : ((((TKnown.wt x.fKnown) + (TEntry.wt x.fEntry) + (x.fZones.length)) : Nat) : Int) ≤ left
      · have hr2 : szR (x.fZones.length) (left - ((TKnown.wt x.fKnown) + (TEntry.wt x.fEntry) : Nat)) = (left - ((TKnown.wt x.fKnown) + (TEntry.wt x.fEntry) + (x.fZones.length) : Nat)) := by have h9 := szR_pos (n := (x.fZones.length)) (left := (left - ((TKnown.wt x.fKnown) + (TEntry.wt x.fEntry) : Nat))) (by omega); omega
        have hn2 : ¬ ((left - ((TKnown.wt x.fKnown) + (TEntry.wt x.fEntry) + (x.fZones.length) : Nat)) < 0) := by omega
        simp only [hr2, hn2, go_sem, brS_dec, brS_beq, brS_bne, brK_dec, brK_beq, brK_bne, Nat.reduceLT, Nat.reduceLeDiff, Nat.reduceAdd, Nat.reduceMul, Nat.reduceSub, Nat.reduceEqDiff, Nat.reduceBEq, Nat.reduceDiv, reduceCtorEq, Int.reduceToNat]
        rw [szR_pos (by omega), hw]
      · have hr2 : szR (x.fZones.length) (left - ((TKnown.wt x.fKnown) + (TEntry.wt x.fEntry) : Nat)) = -1 := szR_neg (by omega)
        simp only [hr2, hm1, go_sem, brS_dec, brS_beq, brS_bne, brK_dec, brK_beq, brK_bne, Nat.reduceLT, Nat.reduceLeDiff, Nat.reduceAdd, Nat.reduceMul, Nat.reduceSub, Nat.reduceEqDiff, Nat.reduceBEq, Nat.reduceDiv, reduceCtorEq, Int.reduceToNat]
        rw [szR_neg (by omega)]
    · have hr1 : szR (TEntry.wt x.fEntry) (left - ((TKnown.wt x.fKnown) : Nat)) = -1 := szR_neg (by omega)
      simp only [hr1, hm1, go_sem, brS_dec, brS_beq, brS_bne, brK_dec, brK_beq, brK_bne, Nat.reduceLT, Nat.reduceLeDiff, Nat.reduceAdd, Nat.reduceMul, Nat.reduceSub, Nat.reduceEqDiff, Nat.reduceBEq, Nat.reduceDiv, reduceCtorEq, Int.reduceToNat]
      rw [szR_neg (by omega)]
  · have hr0 : szR (TKnown.wt x.fKnown) left = -1 := szR_neg (by omega)
    simp only [hr0, hm1, go_sem, brS_dec, brS_beq, brS_bne, brK_dec, brK_beq, brK_bne, Nat.reduceLT, Nat.reduceLeDiff, Nat.reduceAdd, Nat.reduceMul, Nat.reduceSub, Nat.reduceEqDiff, Nat.reduceBEq, Nat.reduceDiv, reduceCtorEq, Int.reduceToNat]
    rw [szR_neg (by omega)]
theorem szEntryS (xs : List TEntry) (left : Int) (h0 : 0 ≤ left) (h1 : left ≤ 1048576) (hx : fitL (TEntry.fit) xs) : Sat Tryd.prog G 49 [.val false [.l none 4 (xs.map (TEntry.row none))], .val false [.v (.int .i64 left)]] (.val false [.v (.int .i64 (szR (wtL TEntry.wt xs) left))]) := by
  refine sat_of_go (L := tiOf Tryd.prog) (fun T ti h => h) false [[0, 1], [0, 1], [0, 1, 11], [4], [0, 1, 5], [0, 1, 5, 15], [0, 1, 5], [0, 1, 5], [0, 1, 5, 25], [4], [4]] mx Tryd.func49 (by decide) rfl (by show 2 ≤ Tryd.f49.ntmps; decide) ?_
  have hl := wrap_sub h0 h1 hx.1
  have hp0 := preL_zero TEntry.wt xs
  have hpn := preL_all TEntry.wt xs
  have hmx := maxLen_eq
  have hlx := hx.1
  by_cases hc : (xs.length : Int) ≤ left
  · have hn : ¬ (left - (xs.length : Int) < 0) := by omega
    simp only [hl, hn, go_sem, brS_dec, brS_beq, brS_bne, brK_dec, brK_beq, brK_bne, Nat.reduceLT, Nat.reduceLeDiff, Nat.reduceAdd, Nat.reduceMul, Nat.reduceSub, Nat.reduceEqDiff, Nat.reduceBEq, Nat.reduceDiv, reduceCtorEq, Int.reduceToNat]
    refine loop_n [0, 1, 5] xs.length (fun i => [(1, .val false [.v (.int .i64 (left - (preL TEntry.wt xs i : Nat)))]), (5, .val false [.v (.int .i64 (i : Int))])]) (fun i => (preL TEntry.wt xs i : Int) ≤ left) ?_ ?_ ?_ ?_
    · simp only [hp0, go_sem, brS_dec, brS_beq, brS_bne, brK_dec, brK_beq, brK_bne, Nat.reduceLT, Nat.reduceLeDiff, Nat.reduceAdd, Nat.reduceMul, Nat.reduceSub, Nat.reduceEqDiff, Nat.reduceBEq, Nat.reduceDiv, reduceCtorEq, Int.reduceToNat]
      try rfl
    · rw [hp0]; exact hc
    · intro i hi hq F hF
      have hlt : ((i : Int) < (xs.length : Int)) := by omega
      have hsu := preL_succ TEntry.wt xs hi
      have hup := wrap_up (i := i) (by omega)
      simp only [hlt, map_getD (TEntry.row none) xs hi, hup, go_sem, brS_dec, brS_beq, brS_bne, brK_dec, brK_beq, brK_bne, Nat.reduceLT, Nat.reduceLeDiff, Nat.reduceAdd, Nat.reduceMul, Nat.reduceSub, Nat.reduceEqDiff, Nat.reduceBEq, Nat.reduceDiv, reduceCtorEq, Int.reduceToNat]
      refine call_by (szEntry (xs.getD i default) (left - (preL TEntry.wt xs i : Nat)) (by omega) (by omega) (fitL_at hx hi default)) rfl ?_
      by_cases hc2 : (preL TEntry.wt xs (i + 1) : Int) ≤ left
      · have hn2 : ¬ (left - (preL TEntry.wt xs (i + 1) : Nat) < 0) := by omega
        have hr : szR (TEntry.wt (xs.getD i default)) (left - (preL TEntry.wt xs i : Nat)) = left - (preL TEntry.wt xs (i + 1) : Nat) := by have h9 := szR_pos (n := (TEntry.wt (xs.getD i default))) (left := left - (preL TEntry.wt xs i : Nat)) (by omega); omega
        simp only [hr, hn2, hup, go_sem, brS_dec, brS_beq, brS_bne, brK_dec, brK_beq, brK_bne, Nat.reduceLT, Nat.reduceLeDiff, Nat.reduceAdd, Nat.reduceMul, Nat.reduceSub, Nat.reduceEqDiff, Nat.reduceBEq, Nat.reduceDiv, reduceCtorEq, Int.reduceToNat]
        refine hF _ ?_ hc2
        simp only [go_sem, brS_dec, brS_beq, brS_bne, brK_dec, brK_beq, brK_bne, Nat.reduceLT, Nat.reduceLeDiff, Nat.reduceAdd, Nat.reduceMul, Nat.reduceSub, Nat.reduceEqDiff, Nat.reduceBEq, Nat.reduceDiv, reduceCtorEq, Int.reduceToNat]
      · have hr : szR (TEntry.wt (xs.getD i default)) (left - (preL TEntry.wt xs i : Nat)) = -1 := szR_neg (by omega)
        have hle := preL_le TEntry.wt xs (i + 1)
        have hm1 : ((-1 : Int) < 0) := by decide
        simp only [hr, hm1, hup, go_sem, brS_dec, brS_beq, brS_bne, brK_dec, brK_beq, brK_bne, Nat.reduceLT, Nat.reduceLeDiff, Nat.reduceAdd, Nat.reduceMul, Nat.reduceSub, Nat.reduceEqDiff, Nat.reduceBEq, Nat.reduceDiv, reduceCtorEq, Int.reduceToNat]
        rw [szR_neg (by omega)]
    · intro hq F
      rw [hpn] at hq
      simp only [hpn, go_sem, brS_dec, brS_beq, brS_bne, brK_dec, brK_beq, brK_bne, Nat.reduceLT, Nat.reduceLeDiff, Nat.reduceAdd, Nat.reduceMul, Nat.reduceSub, Nat.reduceEqDiff, Nat.reduceBEq, Nat.reduceDiv, reduceCtorEq, Int.reduceToNat]
      rw [szR_pos hq]
  · have hn : left - (xs.length : Int) < 0 := by omega
    have hle : xs.length ≤ wtL TEntry.wt xs := wtL_len
    simp only [hl, hn, go_sem, brS_dec, brS_beq, brS_bne, brK_dec, brK_beq, brK_bne, Nat.reduceLT, Nat.reduceLeDiff, Nat.reduceAdd, Nat.reduceMul, Nat.reduceSub, Nat.reduceEqDiff, Nat.reduceBEq, Nat.reduceDiv, reduceCtorEq, Int.reduceToNat]
    rw [szR_neg (by omega)]
theorem szDecision (x : TDecision) (left : Int) (h0 : 0 ≤ left) (h1 : left ≤ 1048576) (hx : TDecision.fit x) : Sat Tryd.prog G 23 [.val true (TDecision.row none x), .val false [.v (.int .i64 left)]] (.val false [.v (.int .i64 (szR (TDecision.wt x) left))]) := by
  refine sat_of_go (L := tiOf Tryd.prog) (fun T ti h => h) false [[1, 2], [1, 2], [1, 2, 10], [4], [1], [1, 16], [4], [4]] mx Tryd.func23 (by decide) rfl (by show 2 ≤ Tryd.f23.ntmps; decide) ?_
  have hmx := maxLen_eq
  have hm1 : ((-1 : Int) < 0) := by decide
  have hw : TDecision.wt x = (TEntry.wt x.fEntry) + (wtL TEntry.wt x.fOthers) := rfl
  simp only [go_sem, brS_dec, brS_beq, brS_bne, brK_dec, brK_beq, brK_bne, Nat.reduceLT, Nat.reduceLeDiff, Nat.reduceAdd, Nat.reduceMul, Nat.reduceSub, Nat.reduceEqDiff, Nat.reduceBEq, Nat.reduceDiv, reduceCtorEq, Int.reduceToNat]
  refine call_by (szEntry x.fEntry left (by omega) (by omega) (hx.2.1)) rfl ?_
  by_cases hc0 : ((((TEntry.wt x.fEntry)) : Nat) : Int) ≤ left
  · have hr0 : szR (TEntry.wt x.fEntry) left = (left - ((TEntry.wt x.fEntry) : Nat)) := by have h9 := szR_pos (n := (TEntry.wt x.fEntry)) (left := left) (by omega); omega
    have hn0 : ¬ ((left - ((TEntry.wt x.fEntry) : Nat)) < 0) := by omega
    simp only [hr0, hn0, go_sem, brS_dec, brS_beq, brS_bne, brK_dec, brK_beq, brK_bne, Nat.reduceLT, Nat.reduceLeDiff, Nat.reduceAdd, Nat.reduceMul, Nat.reduceSub, Nat.reduceEqDiff, Nat.reduceBEq, Nat.reduceDiv, reduceCtorEq, Int.reduceToNat]
    refine call_by (szEntryS x.fOthers (left - ((TEntry.wt x.fEntry) : Nat)) (by omega) (by omega) (hx.2.2)) rfl ?_
    by_cases hc1 : ((((TEntry.wt x.fEntry) + (wtL TEntry.wt x.fOthers)) : Nat) : Int) ≤ left
    · have hr1 : szR (wtL TEntry.wt x.fOthers) (left - ((TEntry.wt x.fEntry) : Nat)) = (left - ((TEntry.wt x.fEntry) + (wtL TEntry.wt x.fOthers) : Nat)) := by have h9 := szR_pos (n := (wtL TEntry.wt x.fOthers)) (left := (left - ((TEntry.wt x.fEntry) : Nat))) (by omega); omega
      have hn1 : ¬ ((left - ((TEntry.wt x.fEntry) + (wtL TEntry.wt x.fOthers) : Nat)) < 0) := by omega
      simp only [hr1, hn1, go_sem, brS_dec, brS_beq, brS_bne, brK_dec, brK_beq, brK_bne, Nat.reduceLT, Nat.reduceLeDiff, Nat.reduceAdd, Nat.reduceMul, Nat.reduceSub, Nat.reduceEqDiff, Nat.reduceBEq, Nat.reduceDiv, reduceCtorEq, Int.reduceToNat]
      rw [szR_pos (by omega), hw]
    · have hr1 : szR (wtL TEntry.wt x.fOthers) (left - ((TEntry.wt x.fEntry) : Nat)) = -1 := szR_neg (by omega)
      simp only [hr1, hm1, go_sem, brS_dec, brS_beq, brS_bne, brK_dec, brK_beq, brK_bne, Nat.reduceLT, Nat.reduceLeDiff, Nat.reduceAdd, Nat.reduceMul, Nat.reduceSub, Nat.reduceEqDiff, Nat.reduceBEq, Nat.reduceDiv, reduceCtorEq, Int.reduceToNat]
      rw [szR_neg (by omega)]
  · have hr0 : szR (TEntry.wt x.fEntry) left = -1 := szR_neg (by omega)
    simp only [hr0, hm1, go_sem, brS_dec, brS_beq, brS_bne, brK_dec, brK_beq, brK_bne, Nat.reduceLT, Nat.reduceLeDiff, Nat.reduceAdd, Nat.reduceMul, Nat.reduceSub, Nat.reduceEqDiff, Nat.reduceBEq, Nat.reduceDiv, reduceCtorEq, Int.reduceToNat]
    rw [szR_neg (by omega)]
end Go.Proofs.Vt
