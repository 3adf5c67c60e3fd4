/- A part of the proof of the card: lemmas that the text with the card leans on (see there for what is proved, and under which conditions). -/
import Derived.Test.YtgjdionnbbnmpaaGreatDoorVfac
namespace Go.Proofs.Vt
open Go Go.RowKit Go.Proofs.Vm Go.Proofs
set_option maxRecDepth 10000
set_option linter.unusedVariables false
set_option linter.unusedSimpArgs false
attribute [local go_sem] go_skip go_region go_draw go_seq go_if go_block go_loop go_exit go_ret seqK_normal seqK_exit seqK_ret blockK_normal blockK_exit blockK_ret endK_ret endK_normal runK_at keepK_at St.only onlyF inside_ptr inside_al inside_eo inside_dead inside_val inside_box inside_ep inside_tup inside_fn memN goRun_nil goRun_free goRun_if opK_at skK_at mvK_at goOp_call goOp_callFn goOp_pick goOp_builtin goOp_move goOp_assign goOp_alloc goOp_box goOp_build goOp_buildSlice goOp_load goOp_store goOp_nilCheck goOp_binOp goOp_unOp goOp_convert goOp_makeFunc goOp_makeSlice goOp_slice goOp_fieldAddr goOp_field goOp_indexAddr goOp_index goOp_extract quietB buildOk partsOk ownless plainK evOp evMoveOp evLoadMove evLoadFreeze C.frz frzR initFrom goMove evAssign evMove evNil evFunc capOf capsOf Cap.arg ptOf SV.step evFieldAddr evField evLoad evStore evIndexAddr evIndex evAlloc evBox evBuild evBuildSlice evMake evLen evAppend evExtract evBin evUn unV evConvert evBuiltin takeAll placesOf placeParts partRows newsOf rowsOwn LS.width LS.rows fieldOf zeroOk splice goneR skipTo yieldOf argOf argsOf SV.isRes St.copy get_nil get_step put_step St.puts set_nil set_step St.forget kill_nil kill_step killAt_nil killAt_step cond_true cond_false St.killSeg St.cell St.setCell SV.setCell SV.root SV.names SV.namesAt rowOwn C.own constOk Value.cells Value.oneCell' St.list lsOf St.flat binV intV strV boolV shiftV isShift resOf resAll St.take drawDsts dstsQ quietOp takeRes Option.map_some Option.map_none Option.bind_some Option.getD_some Option.getD_none Nat.zero_add Nat.add_zero if_true if_false ite_true ite_false dite_true List.length_map List.length_nil List.length_cons List.map_cons List.map_nil List.all_cons List.all_nil List.getElem?_cons_zero List.getElem?_cons_succ List.getElem?_nil List.getElem?_toArray List.set_cons_zero List.set_cons_succ List.take_succ_cons List.take_zero List.drop_succ_cons List.drop_zero List.drop_nil List.nil_append List.cons_append List.append_nil List.getD_cons_zero List.getD_cons_succ List.all_eq_true true_and and_true or_true true_or or_false false_or Bool.or_false Bool.false_or Bool.or_self Bool.or_true Bool.true_or Bool.and_true Bool.true_and Bool.and_self Bool.and_false Bool.false_and Bool.not_true Bool.not_false Bool.false_eq_true decide_eq_true_eq decide_eq_false_iff_not decide_true decide_false beq_self_eq_true true_implies false_implies forall_const implies_true not_true not_false_iff ne_eq Int.toNat_natCast Int.natCast_nonneg eq_self exists_const if_pos Nat.succ_ne_zero
attribute [local go_sem high] brS_true brS_false brS_not brK_true brK_false brK_not
attribute [local go_sem] ti3 ti4 ti5 ti9 ti22 ti23 ti24 ti25 ti26 ti27 ti29 ti30 ti32 ti34 ti37 ti38 ti39 ti40 ti41 ti42 ti44 ti45 ti47 ti49 ti53 ti54 ti56 ti59 ti60 ti62 ti72 ti90 ti92 ti98 ti100 ti108 ti111 ti114 ti118 ti119 ti122 ti125 ti138 ti140 ti141 ti143 ti145 ti148 ti150 ti163 ti166 ti168 ti170 ti172 ti175 ti177 ti179 ti181 ti183 ti228 ti230 ti282 Tryz.ntmps5 Tryz.results5 Tryz.ntmps10 Tryz.results10 Tryz.ntmps15 Tryz.results15 Tryz.ntmps16 Tryz.results16 Tryz.ntmps17 Tryz.results17 Tryz.ntmps18 Tryz.results18 Tryz.ntmps19 Tryz.results19 Tryz.ntmps20 Tryz.results20 Tryz.ntmps36 Tryz.results36 Tryz.ntmps37 Tryz.results37 Tryz.ntmps50 Tryz.results50 Tryz.ntmps51 Tryz.results51 Tryz.ntmps52 Tryz.results52 Tryz.ntmps53 Tryz.results53 Tryz.ntmps54 Tryz.results54 Tryz.ntmps55 Tryz.results55 Tryz.ntmps70 Tryz.results70 Tryz.ntmps71 Tryz.results71 Tryz.ntmps87 Tryz.results87 Tryz.ntmps88 Tryz.results88 Tryz.ntmps89 Tryz.results89 Tryz.ntmps100 Tryz.results100 Tryz.ntmps101 Tryz.results101 Tryz.ntmps102 Tryz.results102 Tryz.ntmps121 Tryz.results121 Tryz.ntmps127 Tryz.results127 Tryz.ntmps150 Tryz.results150 Tryz.ntmps151 Tryz.results151
attribute [local go_sem] rowsI_length rowsS_length rowsI_frz rowsS_frz rowsI_own rowsS_own Option.map_none Option.map_some bs_size bs_toList Int.lt_irrefl tys_tInt tys_tString tys_tSig tys_tSigned tys_tEntry tys_tSignedS tys_tFork tys_tZone tys_tStored tys_tActor tys_tSaid tys_tServer TKeys_len TKeys_at0 TKeys_get0 TKeys_at1 TKeys_get1 TKeys_drop TKeys_full TKeys_frz TKeys_own TKeys_owns TKeys_noImm TSig_len TSig_at0 TSig_get0 TSig_at1 TSig_get1 TSig_drop TSig_full TSig_frz TSig_own TSig_owno TSig_noImm TEntry_len TEntry_at0 TEntry_get0 TEntry_at1 TEntry_get1 TEntry_at2 TEntry_get2 TEntry_at3 TEntry_get3 TEntry_drop TEntry_full TEntry_frz TEntry_own TEntry_owns TEntry_noImm TProof_len TProof_at0 TProof_get0 TProof_at1 TProof_get1 TProof_drop TProof_full TProof_frz TProof_own TProof_owns TProof_noImm TGap_len TGap_at0 TGap_get0 TGap_sub1_Entry TGap_at1 TGap_get1 TGap_at2 TGap_get2 TGap_at3 TGap_get3 TGap_at4 TGap_get4 TGap_sub5_Entry TGap_at5 TGap_get5 TGap_at6 TGap_get6 TGap_at7 TGap_get7 TGap_at8 TGap_get8 TGap_sub9_Proof TGap_at9 TGap_get9 TGap_at10 TGap_get10 TGap_sub11_Proof TGap_at11 TGap_get11 TGap_at12 TGap_get12 TGap_drop TGap_full TGap_frz TGap_own TGap_owns TGap_noImm THead_len THead_at0 THead_get0 THead_at1 THead_get1 THead_at2 THead_get2 THead_at3 THead_get3 THead_at4 THead_get4 THead_at5 THead_get5 THead_at6 THead_get6 THead_at7 THead_get7 THead_sub8_Keys THead_at8 THead_get8 THead_at9 THead_get9 THead_sub10_Keys THead_at10 THead_get10 THead_at11 THead_get11 THead_at12 THead_get12 THead_sub13_Keys THead_at13 THead_get13 THead_at14 THead_get14 THead_at15 THead_get15 THead_drop THead_full THead_frz THead_own THead_owns THead_noImm TSigned_len TSigned_sub0_Head TSigned_at0 TSigned_get0 TSigned_at1 TSigned_get1 TSigned_at2 TSigned_get2 TSigned_at3 TSigned_get3 TSigned_at4 TSigned_get4 TSigned_at5 TSigned_get5 TSigned_at6 TSigned_get6 TSigned_at7 TSigned_get7 TSigned_sub8_Keys TSigned_at8 TSigned_get8 TSigned_at9 TSigned_get9 TSigned_sub10_Keys TSigned_at10 TSigned_get10 TSigned_at11 TSigned_get11 TSigned_at12 TSigned_get12 TSigned_sub13_Keys TSigned_at13 TSigned_get13 TSigned_at14 TSigned_get14 TSigned_at15 TSigned_get15 TSigned_at16 TSigned_get16 TSigned_drop TSigned_full TSigned_frz TSigned_own TSigned_owns TSigned_noImm TFork_len TFork_sub0_Signed TFork_sub0_Head TFork_at0 TFork_get0 TFork_at1 TFork_get1 TFork_at2 TFork_get2 TFork_at3 TFork_get3 TFork_at4 TFork_get4 TFork_at5 TFork_get5 TFork_at6 TFork_get6 TFork_at7 TFork_get7 TFork_sub8_Keys TFork_at8 TFork_get8 TFork_at9 TFork_get9 TFork_sub10_Keys TFork_at10 TFork_get10 TFork_at11 TFork_get11 TFork_at12 TFork_get12 TFork_sub13_Keys TFork_at13 TFork_get13 TFork_at14 TFork_get14 TFork_at15 TFork_get15 TFork_at16 TFork_get16 TFork_sub17_Signed TFork_sub17_Head TFork_at17 TFork_get17 TFork_at18 TFork_get18 TFork_at19 TFork_get19 TFork_at20 TFork_get20 TFork_at21 TFork_get21 TFork_at22 TFork_get22 TFork_at23 TFork_get23 TFork_at24 TFork_get24 TFork_sub25_Keys TFork_at25 TFork_get25 TFork_at26 TFork_get26 TFork_sub27_Keys TFork_at27 TFork_get27 TFork_at28 TFork_get28 TFork_at29 TFork_get29 TFork_sub30_Keys TFork_at30 TFork_get30 TFork_at31 TFork_get31 TFork_at32 TFork_get32 TFork_at33 TFork_get33 TFork_sub34_Signed TFork_sub34_Head TFork_at34 TFork_get34 TFork_at35 TFork_get35 TFork_at36 TFork_get36 TFork_at37 TFork_get37 TFork_at38 TFork_get38 TFork_at39 TFork_get39 TFork_at40 TFork_get40 TFork_at41 TFork_get41 TFork_sub42_Keys TFork_at42 TFork_get42 TFork_at43 TFork_get43 TFork_sub44_Keys TFork_at44 TFork_get44 TFork_at45 TFork_get45 TFork_at46 TFork_get46 TFork_sub47_Keys TFork_at47 TFork_get47 TFork_at48 TFork_get48 TFork_at49 TFork_get49 TFork_at50 TFork_get50 TFork_drop TFork_full TFork_frz TFork_own TFork_owns TFork_noImm TZone_len TZone_at0 TZone_get0 TZone_at1 TZone_get1 TZone_drop TZone_full TZone_frz TZone_own TZone_owns TZone_noImm TAnswer_len TAnswer_at0 TAnswer_get0 TAnswer_at1 TAnswer_get1 TAnswer_sub2_Entry TAnswer_at2 TAnswer_get2 TAnswer_at3 TAnswer_get3 TAnswer_at4 TAnswer_get4 TAnswer_at5 TAnswer_get5 TAnswer_sub6_Proof TAnswer_at6 TAnswer_get6 TAnswer_at7 TAnswer_get7 TAnswer_sub8_Gap TAnswer_at8 TAnswer_get8 TAnswer_sub9_Entry TAnswer_at9 TAnswer_get9 TAnswer_at10 TAnswer_get10 TAnswer_at11 TAnswer_get11 TAnswer_at12 TAnswer_get12 TAnswer_sub13_Entry TAnswer_at13 TAnswer_get13 TAnswer_at14 TAnswer_get14 TAnswer_at15 TAnswer_get15 TAnswer_at16 TAnswer_get16 TAnswer_sub17_Proof TAnswer_at17 TAnswer_get17 TAnswer_at18 TAnswer_get18 TAnswer_sub19_Proof TAnswer_at19 TAnswer_get19 TAnswer_at20 TAnswer_get20 TAnswer_drop TAnswer_full TAnswer_frz TAnswer_own TAnswer_owns TAnswer_noImm rowLSignedS_len rowLSignedS_at rowLSignedS_get rowLSignedS_frz rowLSignedS_own rowLSignedS_noImm TKnown_len TKnown_at0 TKnown_get0 TKnown_at1 TKnown_get1 TKnown_drop TKnown_full TKnown_frz TKnown_own TKnown_owns TKnown_noImm TServer_len TServer_at0 TServer_get0 TServer_at1 TServer_get1 TServer_drop TServer_full TServer_frz TServer_own TServer_owns TServer_noImm TStored_len TStored_at0 TStored_get0 TStored_at1 TStored_get1 TStored_sub2_Answer TStored_at2 TStored_get2 TStored_at3 TStored_get3 TStored_sub4_Entry TStored_at4 TStored_get4 TStored_at5 TStored_get5 TStored_at6 TStored_get6 TStored_at7 TStored_get7 TStored_sub8_Proof TStored_at8 TStored_get8 TStored_at9 TStored_get9 TStored_sub10_Gap TStored_at10 TStored_get10 TStored_sub11_Entry TStored_at11 TStored_get11 TStored_at12 TStored_get12 TStored_at13 TStored_get13 TStored_at14 TStored_get14 TStored_sub15_Entry TStored_at15 TStored_get15 TStored_at16 TStored_get16 TStored_at17 TStored_get17 TStored_at18 TStored_get18 TStored_sub19_Proof TStored_at19 TStored_get19 TStored_at20 TStored_get20 TStored_sub21_Proof TStored_at21 TStored_get21 TStored_at22 TStored_get22 TStored_drop TStored_full TStored_frz TStored_own TStored_owns TStored_noImm TCache_len TCache_at0 TCache_get0 TCache_drop TCache_full TCache_frz TCache_own TCache_owns TCache_noImm TActor_len TActor_at0 TActor_get0 TActor_drop TActor_full TActor_frz TActor_own TActor_owns TActor_noImm TSaid_len TSaid_sub0_Zone TSaid_at0 TSaid_get0 TSaid_at1 TSaid_get1 TSaid_at2 TSaid_get2 TSaid_drop TSaid_full TSaid_frz TSaid_own TSaid_owns TSaid_noImm TWorld_len TWorld_at0 TWorld_get0 TWorld_at1 TWorld_get1 TWorld_at2 TWorld_get2 TWorld_at3 TWorld_get3 TWorld_at4 TWorld_get4 TWorld_sub5_Known TWorld_at5 TWorld_get5 TWorld_at6 TWorld_get6 TWorld_sub7_Cache TWorld_at7 TWorld_get7 TWorld_drop TWorld_full TWorld_frz TWorld_own TWorld_owns TWorld_noImm
variable {G : Glob}
theorem szIntS (xs : List Int) (left : Int) (h0 : 0 ≤ left) (h1 : left ≤ 1048576) (hx : fitL (inI) xs) : Sat Tryz.prog G 87 [.val false [.l none 1 (rowsI xs)], .val false [.v (.int .i64 left)]] (.val false [.v (.int .i64 (szR (xs.length) left))]) := by
  refine sat_of_go (L := tiOf Tryz.prog) (fun T ti h => h) false [[0, 1], [1], [1, 10], [4], [4]] mx Tryz.func87 (by decide) rfl (by show 2 ≤ Tryz.f87.ntmps; decide) ?_
  have hl := wrap_sub h0 h1 hx.1
  by_cases hc : (xs.length : Int) ≤ left
  · have hn : ¬ (left - (xs.length : Int) < 0) := by omega
    simp only [hl, hn, go_sem, brS_dec, brS_beq, brS_bne, brK_dec, brK_beq, brK_bne, Nat.reduceLT, Nat.reduceLeDiff, Nat.reduceAdd, Nat.reduceMul, Nat.reduceSub, Nat.reduceEqDiff, Nat.reduceBEq, Nat.reduceDiv, reduceCtorEq, Int.reduceToNat]
    rw [szR_pos hc]
  · have hn : left - (xs.length : Int) < 0 := by omega
    simp only [hl, hn, go_sem, brS_dec, brS_beq, brS_bne, brK_dec, brK_beq, brK_bne, Nat.reduceLT, Nat.reduceLeDiff, Nat.reduceAdd, Nat.reduceMul, Nat.reduceSub, Nat.reduceEqDiff, Nat.reduceBEq, Nat.reduceDiv, reduceCtorEq, Int.reduceToNat]
    rw [szR_neg (by omega)]
theorem szKeys (x : TKeys) (left : Int) (h0 : 0 ≤ left) (h1 : left ≤ 1048576) (hx : TKeys.fit x) : Sat Tryz.prog G 127 [.val true (TKeys.row none x), .val false [.v (.int .i64 left)]] (.val false [.v (.int .i64 (szR (TKeys.wt x) left))]) := by
  refine sat_of_go (L := tiOf Tryz.prog) (fun T ti h => h) false [[1, 2], [1], [1, 10], [4], [4]] mx Tryz.func127 (by decide) rfl (by show 2 ≤ Tryz.f127.ntmps; decide) ?_
  have hmx := maxLen_eq
  have hm1 : ((-1 : Int) < 0) := by decide
  have hw : TKeys.wt x = (x.fList.length) := rfl
  simp only [go_sem, brS_dec, brS_beq, brS_bne, brK_dec, brK_beq, brK_bne, Nat.reduceLT, Nat.reduceLeDiff, Nat.reduceAdd, Nat.reduceMul, Nat.reduceSub, Nat.reduceEqDiff, Nat.reduceBEq, Nat.reduceDiv, reduceCtorEq, Int.reduceToNat]
  refine call_by (szIntS x.fList left (by omega) (by omega) (hx.1)) rfl ?_
  by_cases hc0 : ((((x.fList.length)) : Nat) : Int) ≤ left
  · have hr0 : szR (x.fList.length) left = (left - ((x.fList.length) : Nat)) := by have h9 := szR_pos (n := (x.fList.length)) (left := left) (by omega); omega
    have hn0 : ¬ ((left - ((x.fList.length) : Nat)) < 0) := by omega
    simp only [hr0, hn0, go_sem, brS_dec, brS_beq, brS_bne, brK_dec, brK_beq, brK_bne, Nat.reduceLT, Nat.reduceLeDiff, Nat.reduceAdd, Nat.reduceMul, Nat.reduceSub, Nat.reduceEqDiff, Nat.reduceBEq, Nat.reduceDiv, reduceCtorEq, Int.reduceToNat]
    rw [szR_pos (by omega), hw]
  · have hr0 : szR (x.fList.length) left = -1 := szR_neg (by omega)
    simp only [hr0, hm1, go_sem, brS_dec, brS_beq, brS_bne, brK_dec, brK_beq, brK_bne, Nat.reduceLT, Nat.reduceLeDiff, Nat.reduceAdd, Nat.reduceMul, Nat.reduceSub, Nat.reduceEqDiff, Nat.reduceBEq, Nat.reduceDiv, reduceCtorEq, Int.reduceToNat]
    rw [szR_neg (by omega)]
theorem szStringS (xs : List (List UInt8)) (left : Int) (h0 : 0 ≤ left) (h1 : left ≤ 1048576) (hx : fitL (fun t => t.length ≤ maxLen) xs) : Sat Tryz.prog G 102 [.val false [.l none 1 (rowsS xs)], .val false [.v (.int .i64 left)]] (.val false [.v (.int .i64 (szR (wtL List.length xs) left))]) := by
  refine sat_of_go (L := tiOf Tryz.prog) (fun T ti h => h) false [[0, 1], [0, 1], [0, 1, 11], [4], [0, 1, 5], [0, 1, 5, 15], [0, 1, 5], [0, 1, 5], [0, 1, 5, 26], [4], [4]] mx Tryz.func102 (by decide) rfl (by show 2 ≤ Tryz.f102.ntmps; decide) ?_
  have hl := wrap_sub h0 h1 hx.1
  have hp0 := preL_zero List.length xs
  have hpn := preL_all List.length xs
  have hmx := maxLen_eq
  have hlx := hx.1
  by_cases hc : (xs.length : Int) ≤ left
  · have hn : ¬ (left - (xs.length : Int) < 0) := by omega
    simp only [hl, hn, go_sem, brS_dec, brS_beq, brS_bne, brK_dec, brK_beq, brK_bne, Nat.reduceLT, Nat.reduceLeDiff, Nat.reduceAdd, Nat.reduceMul, Nat.reduceSub, Nat.reduceEqDiff, Nat.reduceBEq, Nat.reduceDiv, reduceCtorEq, Int.reduceToNat]
    refine loop_n [0, 1, 5] xs.length (fun i => [(1, .val false [.v (.int .i64 (left - (preL List.length xs i : Nat)))]), (5, .val false [.v (.int .i64 (i : Int))])]) (fun i => (preL List.length xs i : Int) ≤ left) ?_ ?_ ?_ ?_
    · simp only [hp0, go_sem, brS_dec, brS_beq, brS_bne, brK_dec, brK_beq, brK_bne, Nat.reduceLT, Nat.reduceLeDiff, Nat.reduceAdd, Nat.reduceMul, Nat.reduceSub, Nat.reduceEqDiff, Nat.reduceBEq, Nat.reduceDiv, reduceCtorEq, Int.reduceToNat]
      try rfl
    · rw [hp0]; exact hc
    · intro i hi hq F hF
      have hlt : ((i : Int) < (xs.length : Int)) := by omega
      have hsu := preL_succ List.length xs hi
      have hup := wrap_up (i := i) (by omega)
      have hfit := fitL_at hx hi default
      have hel : xs.getD i default = xs.getD i [] := rfl
      have hw := wrap_sub (left := left - (preL List.length xs i : Nat)) (n := (xs.getD i []).length) (by omega) (by omega) hfit
      have hw2 : left - (preL List.length xs i : Nat) - ((xs.getD i []).length : Int) = left - (preL List.length xs (i + 1) : Nat) := by rw [hel] at hsu; omega
      have hle := preL_le List.length xs (i + 1)
      have hw3 := hw.trans hw2
      clear hw hw2
      simp only [hlt, rowsS_at xs hi, hw3, hup, go_sem, brS_dec, brS_beq, brS_bne, brK_dec, brK_beq, brK_bne, Nat.reduceLT, Nat.reduceLeDiff, Nat.reduceAdd, Nat.reduceMul, Nat.reduceSub, Nat.reduceEqDiff, Nat.reduceBEq, Nat.reduceDiv, reduceCtorEq, Int.reduceToNat]
      refine ⟨fun hn2 => ?_, fun hn2 => ?_⟩
      · rw [szR_neg (by omega)]
      · refine hF _ ?_ (by omega)
        simp only [go_sem, brS_dec, brS_beq, brS_bne, brK_dec, brK_beq, brK_bne, Nat.reduceLT, Nat.reduceLeDiff, Nat.reduceAdd, Nat.reduceMul, Nat.reduceSub, Nat.reduceEqDiff, Nat.reduceBEq, Nat.reduceDiv, reduceCtorEq, Int.reduceToNat]
    · intro hq F
      rw [hpn] at hq
      simp only [hpn, go_sem, brS_dec, brS_beq, brS_bne, brK_dec, brK_beq, brK_bne, Nat.reduceLT, Nat.reduceLeDiff, Nat.reduceAdd, Nat.reduceMul, Nat.reduceSub, Nat.reduceEqDiff, Nat.reduceBEq, Nat.reduceDiv, reduceCtorEq, Int.reduceToNat]
      rw [szR_pos hq]
  · have hn : left - (xs.length : Int) < 0 := by omega
    have hle : xs.length ≤ wtL List.length xs := wtL_len
    simp only [hl, hn, go_sem, brS_dec, brS_beq, brS_bne, brK_dec, brK_beq, brK_bne, Nat.reduceLT, Nat.reduceLeDiff, Nat.reduceAdd, Nat.reduceMul, Nat.reduceSub, Nat.reduceEqDiff, Nat.reduceBEq, Nat.reduceDiv, reduceCtorEq, Int.reduceToNat]
    rw [szR_neg (by omega)]
theorem szEntry (x : TEntry) (left : Int) (h0 : 0 ≤ left) (h1 : left ≤ 1048576) (hx : TEntry.fit x) : Sat Tryz.prog G 71 [.val true (TEntry.row none x), .val false [.v (.int .i64 left)]] (.val false [.v (.int .i64 (szR (TEntry.wt x) left))]) := by
  refine sat_of_go (L := tiOf Tryz.prog) (fun T ti h => h) false [[1, 2], [1, 2], [1, 2, 11], [4], [1], [1, 17], [4], [4]] mx Tryz.func71 (by decide) rfl (by show 2 ≤ Tryz.f71.ntmps; decide) ?_
  have hmx := maxLen_eq
  have hm1 : ((-1 : Int) < 0) := by decide
  have hw : TEntry.wt x = (x.fLabel.length) + (wtL List.length x.fPath) := rfl
  have hl0 := wrap_sub (left := left) (n := x.fLabel.length) (by omega) (by omega) (hx.1)
  have hl0 := hl0.trans (show left - (x.fLabel.length : Int) = (left - ((x.fLabel.length) : Nat)) by omega)
  by_cases hc0 : ((((x.fLabel.length)) : Nat) : Int) ≤ left
  · have hn0 : ¬ ((left - ((x.fLabel.length) : Nat)) < 0) := by omega
    simp only [hl0, hn0, go_sem, brS_dec, brS_beq, brS_bne, brK_dec, brK_beq, brK_bne, Nat.reduceLT, Nat.reduceLeDiff, Nat.reduceAdd, Nat.reduceMul, Nat.reduceSub, Nat.reduceEqDiff, Nat.reduceBEq, Nat.reduceDiv, reduceCtorEq, Int.reduceToNat]
    refine call_by (szStringS x.fPath (left - ((x.fLabel.length) : Nat)) (by omega) (by omega) (hx.2.2.2)) rfl ?_
    by_cases hc1 : ((((x.fLabel.length) + (wtL List.length x.fPath)) : Nat) : Int) ≤ left
    · have hr1 : szR (wtL List.length x.fPath) (left - ((x.fLabel.length) : Nat)) = (left - ((x.fLabel.length) + (wtL List.length x.fPath) : Nat)) := by have h9 := szR_pos (n := (wtL List.length x.fPath)) (left := (left - ((x.fLabel.length) : Nat))) (by omega); omega
      have hn1 : ¬ ((left - ((x.fLabel.length) + (wtL List.length x.fPath) : Nat)) < 0) := by omega
      simp only [hr1, hn1, go_sem, brS_dec, brS_beq, brS_bne, brK_dec, brK_beq, brK_bne, Nat.reduceLT, Nat.reduceLeDiff, Nat.reduceAdd, Nat.reduceMul, Nat.reduceSub, Nat.reduceEqDiff, Nat.reduceBEq, Nat.reduceDiv, reduceCtorEq, Int.reduceToNat]
      rw [szR_pos (by omega), hw]
    · have hr1 : szR (wtL List.length x.fPath) (left - ((x.fLabel.length) : Nat)) = -1 := szR_neg (by omega)
      simp only [hr1, hm1, go_sem, brS_dec, brS_beq, brS_bne, brK_dec, brK_beq, brK_bne, Nat.reduceLT, Nat.reduceLeDiff, Nat.reduceAdd, Nat.reduceMul, Nat.reduceSub, Nat.reduceEqDiff, Nat.reduceBEq, Nat.reduceDiv, reduceCtorEq, Int.reduceToNat]
      rw [szR_neg (by omega)]
  · have hn0 : (left - ((x.fLabel.length) : Nat)) < 0 := by omega
    simp only [hl0, hn0, go_sem, brS_dec, brS_beq, brS_bne, brK_dec, brK_beq, brK_bne, Nat.reduceLT, Nat.reduceLeDiff, Nat.reduceAdd, Nat.reduceMul, Nat.reduceSub, Nat.reduceEqDiff, Nat.reduceBEq, Nat.reduceDiv, reduceCtorEq, Int.reduceToNat]
    rw [szR_neg (by omega)]
theorem szProof (x : TProof) (left : Int) (h0 : 0 ≤ left) (h1 : left ≤ 1048576) (hx : TProof.fit x) : Sat Tryz.prog G 150 [.val true (TProof.row none x), .val false [.v (.int .i64 left)]] (.val false [.v (.int .i64 (szR (TProof.wt x) left))]) := by
  refine sat_of_go (L := tiOf Tryz.prog) (fun T ti h => h) false [[1, 2], [1], [1, 10], [4], [4]] mx Tryz.func150 (by decide) rfl (by show 2 ≤ Tryz.f150.ntmps; decide) ?_
  have hmx := maxLen_eq
  have hm1 : ((-1 : Int) < 0) := by decide
  have hw : TProof.wt x = (x.fPath.length) := rfl
  simp only [go_sem, brS_dec, brS_beq, brS_bne, brK_dec, brK_beq, brK_bne, Nat.reduceLT, Nat.reduceLeDiff, Nat.reduceAdd, Nat.reduceMul, Nat.reduceSub, Nat.reduceEqDiff, Nat.reduceBEq, Nat.reduceDiv, reduceCtorEq, Int.reduceToNat]
  refine call_by (szIntS x.fPath left (by omega) (by omega) (hx.2)) rfl ?_
  by_cases hc0 : ((((x.fPath.length)) : Nat) : Int) ≤ left
  · have hr0 : szR (x.fPath.length) left = (left - ((x.fPath.length) : Nat)) := by have h9 := szR_pos (n := (x.fPath.length)) (left := left) (by omega); omega
    have hn0 : ¬ ((left - ((x.fPath.length) : Nat)) < 0) := by omega
    simp only [hr0, hn0, go_sem, brS_dec, brS_beq, brS_bne, brK_dec, brK_beq, brK_bne, Nat.reduceLT, Nat.reduceLeDiff, Nat.reduceAdd, Nat.reduceMul, Nat.reduceSub, Nat.reduceEqDiff, Nat.reduceBEq, Nat.reduceDiv, reduceCtorEq, Int.reduceToNat]
    rw [szR_pos (by omega), hw]
  · have hr0 : szR (x.fPath.length) left = -1 := szR_neg (by omega)
    simp only [hr0, hm1, go_sem, brS_dec, brS_beq, brS_bne, brK_dec, brK_beq, brK_bne, Nat.reduceLT, Nat.reduceLeDiff, Nat.reduceAdd, Nat.reduceMul, Nat.reduceSub, Nat.reduceEqDiff, Nat.reduceBEq, Nat.reduceDiv, reduceCtorEq, Int.reduceToNat]
    rw [szR_neg (by omega)]
theorem szGap (x : TGap) (left : Int) (h0 : 0 ≤ left) (h1 : left ≤ 1048576) (hx : TGap.fit x) : Sat Tryz.prog G 151 [.val true (TGap.row none x), .val false [.v (.int .i64 left)]] (.val false [.v (.int .i64 (szR (TGap.wt x) left))]) := by
  refine sat_of_go (L := tiOf Tryz.prog) (fun T ti h => h) false [[1, 2], [1, 2], [1, 2, 10], [4], [1, 2], [1, 2, 16], [4], [1, 2], [1, 2, 22], [4], [1], [1, 28], [4], [4]] mx Tryz.func151 (by decide) rfl (by show 2 ≤ Tryz.f151.ntmps; decide) ?_
  have hmx := maxLen_eq
  have hm1 : ((-1 : Int) < 0) := by decide
  have hw : TGap.wt x = (TEntry.wt x.fBefore) + (TEntry.wt x.fAfter) + (TProof.wt x.fLeft) + (TProof.wt x.fRight) := rfl
  simp only [go_sem, brS_dec, brS_beq, brS_bne, brK_dec, brK_beq, brK_bne, Nat.reduceLT, Nat.reduceLeDiff, Nat.reduceAdd, Nat.reduceMul, Nat.reduceSub, Nat.reduceEqDiff, Nat.reduceBEq, Nat.reduceDiv, reduceCtorEq, Int.reduceToNat]
  refine call_by (szEntry x.fBefore left (by omega) (by omega) (hx.2.1)) rfl ?_
  by_cases hc0 : ((((TEntry.wt x.fBefore)) : Nat) : Int) ≤ left
  · have hr0 : szR (TEntry.wt x.fBefore) left = (left - ((TEntry.wt x.fBefore) : Nat)) := by have h9 := szR_pos (n := (TEntry.wt x.fBefore)) (left := left) (by omega); omega
    have hn0 : ¬ ((left - ((TEntry.wt x.fBefore) : Nat)) < 0) := by omega
    simp only [hr0, hn0, go_sem, brS_dec, brS_beq, brS_bne, brK_dec, brK_beq, brK_bne, Nat.reduceLT, Nat.reduceLeDiff, Nat.reduceAdd, Nat.reduceMul, Nat.reduceSub, Nat.reduceEqDiff, Nat.reduceBEq, Nat.reduceDiv, reduceCtorEq, Int.reduceToNat]
    refine call_by (szEntry x.fAfter (left - ((TEntry.wt x.fBefore) : Nat)) (by omega) (by omega) (hx.2.2.1)) rfl ?_
    by_cases hc1 : ((((TEntry.wt x.fBefore) + (TEntry.wt x.fAfter)) : Nat) : Int) ≤ left
    · have hr1 : szR (TEntry.wt x.fAfter) (left - ((TEntry.wt x.fBefore) : Nat)) = (left - ((TEntry.wt x.fBefore) + (TEntry.wt x.fAfter) : Nat)) := by have h9 := szR_pos (n := (TEntry.wt x.fAfter)) (left := (left - ((TEntry.wt x.fBefore) : Nat))) (by omega); omega
      have hn1 : ¬ ((left - ((TEntry.wt x.fBefore) + (TEntry.wt x.fAfter) : Nat)) < 0) := by omega
      simp only [hr1, hn1, go_sem, brS_dec, brS_beq, brS_bne, brK_dec, brK_beq, brK_bne, Nat.reduceLT, Nat.reduceLeDiff, Nat.reduceAdd, Nat.reduceMul, Nat.reduceSub, Nat.reduceEqDiff, Nat.reduceBEq, Nat.reduceDiv, reduceCtorEq, Int.reduceToNat]
      refine call_by (szProof x.fLeft (left - ((TEntry.wt x.fBefore) + (TEntry.wt x.fAfter) : Nat)) (by omega) (by omega) (hx.2.2.2.1)) rfl ?_
      by_cases hc2 : ((((TEntry.wt x.fBefore) + (TEntry.wt x.fAfter) + (TProof.wt x.fLeft)) : Nat) : Int) ≤ left
      · have hr2 : szR (TProof.wt x.fLeft) (left - ((TEntry.wt x.fBefore) + (TEntry.wt x.fAfter) : Nat)) = (left - ((TEntry.wt x.fBefore) + (TEntry.wt x.fAfter) + (TProof.wt x.fLeft) : Nat)) := by have h9 := szR_pos (n := (TProof.wt x.fLeft)) (left := (left - ((TEntry.wt x.fBefore) + (TEntry.wt x.fAfter) : Nat))) (by omega); omega
        have hn2 : ¬ ((left - ((TEntry.wt x.fBefore) + (TEntry.wt x.fAfter) + (TProof.wt x.fLeft) : Nat)) < 0) := by omega
        simp only [hr2, hn2, go_sem, brS_dec, brS_beq, brS_bne, brK_dec, brK_beq, brK_bne, Nat.reduceLT, Nat.reduceLeDiff, Nat.reduceAdd, Nat.reduceMul, Nat.reduceSub, Nat.reduceEqDiff, Nat.reduceBEq, Nat.reduceDiv, reduceCtorEq, Int.reduceToNat]
        refine call_by (szProof x.fRight (left - ((TEntry.wt x.fBefore) + (TEntry.wt x.fAfter) + (TProof.wt x.fLeft) : Nat)) (by omega) (by omega) (hx.2.2.2.2)) rfl ?_
        by_cases hc3 : ((((TEntry.wt x.fBefore) + (TEntry.wt x.fAfter) + (TProof.wt x.fLeft) + (TProof.wt x.fRight)) : Nat) : Int) ≤ left
        · have hr3 : szR (TProof.wt x.fRight) (left - ((TEntry.wt x.fBefore) + (TEntry.wt x.fAfter) + (TProof.wt x.fLeft) : Nat)) = (left - ((TEntry.wt x.fBefore) + (TEntry.wt x.fAfter) + (TProof.wt x.fLeft) + (TProof.wt x.fRight) : Nat)) := by have h9 := szR_pos (n := (TProof.wt x.fRight)) (left := (left - ((TEntry.wt x.fBefore) + (TEntry.wt x.fAfter) + (TProof.wt x.fLeft) : Nat))) (by omega); omega
          have hn3 : ¬ ((left - ((TEntry.wt x.fBefore) + (TEntry.wt x.fAfter) + (TProof.wt x.fLeft) + (TProof.wt x.fRight) : Nat)) < 0) := by omega
          simp only [hr3, hn3, go_sem, brS_dec, brS_beq, brS_bne, brK_dec, brK_beq, brK_bne, Nat.reduceLT, Nat.reduceLeDiff, Nat.reduceAdd, Nat.reduceMul, Nat.reduceSub, Nat.reduceEqDiff, Nat.reduceBEq, Nat.reduceDiv, reduceCtorEq, Int.reduceToNat]
          rw [szR_pos (by omega), hw]
        · have hr3 : szR (TProof.wt x.fRight) (left - ((TEntry.wt x.fBefore) + (TEntry.wt x.fAfter) + (TProof.wt x.fLeft) : Nat)) = -1 := szR_neg (by omega)
          simp only [hr3, hm1, go_sem, brS_dec, brS_beq, brS_bne, brK_dec, brK_beq, brK_bne, Nat.reduceLT, Nat.reduceLeDiff, Nat.reduceAdd, Nat.reduceMul, Nat.reduceSub, Nat.reduceEqDiff, Nat.reduceBEq, Nat.reduceDiv, reduceCtorEq, Int.reduceToNat]
          rw [szR_neg (by omega)]
      · have hr2 : szR (TProof.wt x.fLeft) (left - ((TEntry.wt x.fBefore) + (TEntry.wt x.fAfter) : Nat)) = -1 := szR_neg (by omega)
        simp only [hr2, hm1, go_sem, brS_dec, brS_beq, brS_bne, brK_dec, brK_beq, brK_bne, Nat.reduceLT, Nat.reduceLeDiff, Nat.reduceAdd, Nat.reduceMul, Nat.reduceSub, Nat.reduceEqDiff, Nat.reduceBEq, Nat.reduceDiv, reduceCtorEq, Int.reduceToNat]
        rw [szR_neg (by omega)]
    · have hr1 : szR (TEntry.wt x.fAfter) (left - ((TEntry.wt x.fBefore) : Nat)) = -1 := szR_neg (by omega)
      simp only [hr1, hm1, go_sem, brS_dec, brS_beq, brS_bne, brK_dec, brK_beq, brK_bne, Nat.reduceLT, Nat.reduceLeDiff, Nat.reduceAdd, Nat.reduceMul, Nat.reduceSub, Nat.reduceEqDiff, Nat.reduceBEq, Nat.reduceDiv, reduceCtorEq, Int.reduceToNat]
      rw [szR_neg (by omega)]
  · have hr0 : szR (TEntry.wt x.fBefore) left = -1 := szR_neg (by omega)
    simp only [hr0, hm1, go_sem, brS_dec, brS_beq, brS_bne, brK_dec, brK_beq, brK_bne, Nat.reduceLT, Nat.reduceLeDiff, Nat.reduceAdd, Nat.reduceMul, Nat.reduceSub, Nat.reduceEqDiff, Nat.reduceBEq, Nat.reduceDiv, reduceCtorEq, Int.reduceToNat]
    rw [szR_neg (by omega)]
theorem szHead (x : THead) (left : Int) (h0 : 0 ≤ left) (h1 : left ≤ 1048576) (hx : THead.fit x) : Sat Tryz.prog G 100 [.val true (THead.row none x), .val false [.v (.int .i64 left)]] (.val false [.v (.int .i64 (szR (THead.wt x) left))]) := by
  refine sat_of_go (L := tiOf Tryz.prog) (fun T ti h => h) false [[1, 2], [1, 2], [1, 2, 10], [4], [1, 2], [1, 2, 16], [4], [1], [1, 22], [4], [4]] mx Tryz.func100 (by decide) rfl (by show 2 ≤ Tryz.f100.ntmps; decide) ?_
  have hmx := maxLen_eq
  have hm1 : ((-1 : Int) < 0) := by decide
  have hw : THead.wt x = (TKeys.wt x.fKeys) + (TKeys.wt x.fHeirs) + (TKeys.wt x.fJudge) := rfl
  simp only [go_sem, brS_dec, brS_beq, brS_bne, brK_dec, brK_beq, brK_bne, Nat.reduceLT, Nat.reduceLeDiff, Nat.reduceAdd, Nat.reduceMul, Nat.reduceSub, Nat.reduceEqDiff, Nat.reduceBEq, Nat.reduceDiv, reduceCtorEq, Int.reduceToNat]
  refine call_by (szKeys x.fKeys left (by omega) (by omega) (hx.2.2.2.2.2.2.2.2.1)) rfl ?_
  by_cases hc0 : ((((TKeys.wt x.fKeys)) : Nat) : Int) ≤ left
  · have hr0 : szR (TKeys.wt x.fKeys) left = (left - ((TKeys.wt x.fKeys) : Nat)) := by have h9 := szR_pos (n := (TKeys.wt x.fKeys)) (left := left) (by omega); omega
    have hn0 : ¬ ((left - ((TKeys.wt x.fKeys) : Nat)) < 0) := by omega
    simp only [hr0, hn0, go_sem, brS_dec, brS_beq, brS_bne, brK_dec, brK_beq, brK_bne, Nat.reduceLT, Nat.reduceLeDiff, Nat.reduceAdd, Nat.reduceMul, Nat.reduceSub, Nat.reduceEqDiff, Nat.reduceBEq, Nat.reduceDiv, reduceCtorEq, Int.reduceToNat]
    refine call_by (szKeys x.fHeirs (left - ((TKeys.wt x.fKeys) : Nat)) (by omega) (by omega) (hx.2.2.2.2.2.2.2.2.2.1)) rfl ?_
    by_cases hc1 : ((((TKeys.wt x.fKeys) + (TKeys.wt x.fHeirs)) : Nat) : Int) ≤ left
    · have hr1 : szR (TKeys.wt x.fHeirs) (left - ((TKeys.wt x.fKeys) : Nat)) = (left - ((TKeys.wt x.fKeys) + (TKeys.wt x.fHeirs) : Nat)) := by have h9 := szR_pos (n := (TKeys.wt x.fHeirs)) (left := (left - ((TKeys.wt x.fKeys) : Nat))) (by omega); omega
      have hn1 : ¬ ((left - ((TKeys.wt x.fKeys) + (TKeys.wt x.fHeirs) : Nat)) < 0) := by omega
      simp only [hr1, hn1, go_sem, brS_dec, brS_beq, brS_bne, brK_dec, brK_beq, brK_bne, Nat.reduceLT, Nat.reduceLeDiff, Nat.reduceAdd, Nat.reduceMul, Nat.reduceSub, Nat.reduceEqDiff, Nat.reduceBEq, Nat.reduceDiv, reduceCtorEq, Int.reduceToNat]
      refine call_by (szKeys x.fJudge (left - ((TKeys.wt x.fKeys) + (TKeys.wt x.fHeirs) : Nat)) (by omega) (by omega) (hx.2.2.2.2.2.2.2.2.2.2.2.1)) rfl ?_
      by_cases hc2 : ((((TKeys.wt x.fKeys) + (TKeys.wt x.fHeirs) + (TKeys.wt x.fJudge)) : Nat) : Int) ≤ left
      · have hr2 : szR (TKeys.wt x.fJudge) (left - ((TKeys.wt x.fKeys) + (TKeys.wt x.fHeirs) : Nat)) = (left - ((TKeys.wt x.fKeys) + (TKeys.wt x.fHeirs) + (TKeys.wt x.fJudge) : Nat)) := by have h9 := szR_pos (n := (TKeys.wt x.fJudge)) (left := (left - ((TKeys.wt x.fKeys) + (TKeys.wt x.fHeirs) : Nat))) (by omega); omega
        have hn2 : ¬ ((left - ((TKeys.wt x.fKeys) + (TKeys.wt x.fHeirs) + (TKeys.wt x.fJudge) : Nat)) < 0) := by omega
        simp only [hr2, hn2, go_sem, brS_dec, brS_beq, brS_bne, brK_dec, brK_beq, brK_bne, Nat.reduceLT, Nat.reduceLeDiff, Nat.reduceAdd, Nat.reduceMul, Nat.reduceSub, Nat.reduceEqDiff, Nat.reduceBEq, Nat.reduceDiv, reduceCtorEq, Int.reduceToNat]
        rw [szR_pos (by omega), hw]
      · have hr2 : szR (TKeys.wt x.fJudge) (left - ((TKeys.wt x.fKeys) + (TKeys.wt x.fHeirs) : Nat)) = -1 := szR_neg (by omega)
        simp only [hr2, hm1, go_sem, brS_dec, brS_beq, brS_bne, brK_dec, brK_beq, brK_bne, Nat.reduceLT, Nat.reduceLeDiff, Nat.reduceAdd, Nat.reduceMul, Nat.reduceSub, Nat.reduceEqDiff, Nat.reduceBEq, Nat.reduceDiv, reduceCtorEq, Int.reduceToNat]
        rw [szR_neg (by omega)]
    · have hr1 : szR (TKeys.wt x.fHeirs) (left - ((TKeys.wt x.fKeys) : Nat)) = -1 := szR_neg (by omega)
      simp only [hr1, hm1, go_sem, brS_dec, brS_beq, brS_bne, brK_dec, brK_beq, brK_bne, Nat.reduceLT, Nat.reduceLeDiff, Nat.reduceAdd, Nat.reduceMul, Nat.reduceSub, Nat.reduceEqDiff, Nat.reduceBEq, Nat.reduceDiv, reduceCtorEq, Int.reduceToNat]
      rw [szR_neg (by omega)]
  · have hr0 : szR (TKeys.wt x.fKeys) left = -1 := szR_neg (by omega)
    simp only [hr0, hm1, go_sem, brS_dec, brS_beq, brS_bne, brK_dec, brK_beq, brK_bne, Nat.reduceLT, Nat.reduceLeDiff, Nat.reduceAdd, Nat.reduceMul, Nat.reduceSub, Nat.reduceEqDiff, Nat.reduceBEq, Nat.reduceDiv, reduceCtorEq, Int.reduceToNat]
    rw [szR_neg (by omega)]
theorem szSigS (xs : List TSig) (left : Int) (h0 : 0 ≤ left) (h1 : left ≤ 1048576) (hx : fitL (TSig.fit) xs) : Sat Tryz.prog G 101 [.val false [.l none 2 (xs.map (TSig.row none))], .val false [.v (.int .i64 left)]] (.val false [.v (.int .i64 (szR (xs.length) left))]) := by
  refine sat_of_go (L := tiOf Tryz.prog) (fun T ti h => h) false [[0, 1], [1], [1, 10], [4], [4]] mx Tryz.func101 (by decide) rfl (by show 2 ≤ Tryz.f101.ntmps; decide) ?_
  have hl := wrap_sub h0 h1 hx.1
  by_cases hc : (xs.length : Int) ≤ left
  · have hn : ¬ (left - (xs.length : Int) < 0) := by omega
    simp only [hl, hn, go_sem, brS_dec, brS_beq, brS_bne, brK_dec, brK_beq, brK_bne, Nat.reduceLT, Nat.reduceLeDiff, Nat.reduceAdd, Nat.reduceMul, Nat.reduceSub, Nat.reduceEqDiff, Nat.reduceBEq, Nat.reduceDiv, reduceCtorEq, Int.reduceToNat]
    rw [szR_pos hc]
  · have hn : left - (xs.length : Int) < 0 := by omega
    simp only [hl, hn, go_sem, brS_dec, brS_beq, brS_bne, brK_dec, brK_beq, brK_bne, Nat.reduceLT, Nat.reduceLeDiff, Nat.reduceAdd, Nat.reduceMul, Nat.reduceSub, Nat.reduceEqDiff, Nat.reduceBEq, Nat.reduceDiv, reduceCtorEq, Int.reduceToNat]
    rw [szR_neg (by omega)]
theorem szSigned (x : TSigned) (left : Int) (h0 : 0 ≤ left) (h1 : left ≤ 1048576) (hx : TSigned.fit x) : Sat Tryz.prog G 70 [.val true (TSigned.row none x), .val false [.v (.int .i64 left)]] (.val false [.v (.int .i64 (szR (TSigned.wt x) left))]) := by
  refine sat_of_go (L := tiOf Tryz.prog) (fun T ti h => h) false [[1, 2], [1, 2], [1, 2, 10], [4], [1], [1, 16], [4], [4]] mx Tryz.func70 (by decide) rfl (by show 2 ≤ Tryz.f70.ntmps; decide) ?_
  have hmx := maxLen_eq
  have hm1 : ((-1 : Int) < 0) := by decide
  have hw : TSigned.wt x = (THead.wt x.fHead) + (x.fSigs.length) := rfl
  simp only [go_sem, brS_dec, brS_beq, brS_bne, brK_dec, brK_beq, brK_bne, Nat.reduceLT, Nat.reduceLeDiff, Nat.reduceAdd, Nat.reduceMul, Nat.reduceSub, Nat.reduceEqDiff, Nat.reduceBEq, Nat.reduceDiv, reduceCtorEq, Int.reduceToNat]
  refine call_by (szHead x.fHead left (by omega) (by omega) (hx.1)) rfl ?_
  by_cases hc0 : ((((THead.wt x.fHead)) : Nat) : Int) ≤ left
  · have hr0 : szR (THead.wt x.fHead) left = (left - ((THead.wt x.fHead) : Nat)) := by have h9 := szR_pos (n := (THead.wt x.fHead)) (left := left) (by omega); omega
    have hn0 : ¬ ((left - ((THead.wt x.fHead) : Nat)) < 0) := by omega
    simp only [hr0, hn0, go_sem, brS_dec, brS_beq, brS_bne, brK_dec, brK_beq, brK_bne, Nat.reduceLT, Nat.reduceLeDiff, Nat.reduceAdd, Nat.reduceMul, Nat.reduceSub, Nat.reduceEqDiff, Nat.reduceBEq, Nat.reduceDiv, reduceCtorEq, Int.reduceToNat]
    refine call_by (szSigS x.fSigs (left - ((THead.wt x.fHead) : Nat)) (by omega) (by omega) (hx.2)) rfl ?_
    by_cases hc1 : ((((THead.wt x.fHead) + (x.fSigs.length)) : Nat) : Int) ≤ left
    · have hr1 : szR (x.fSigs.length) (left - ((THead.wt x.fHead) : Nat)) = (left - ((THead.wt x.fHead) + (x.fSigs.length) : Nat)) := by have h9 := szR_pos (n := (x.fSigs.length)) (left := (left - ((THead.wt x.fHead) : Nat))) (by omega); omega
      have hn1 : ¬ ((left - ((THead.wt x.fHead) + (x.fSigs.length) : Nat)) < 0) := by omega
      simp only [hr1, hn1, go_sem, brS_dec, brS_beq, brS_bne, brK_dec, brK_beq, brK_bne, Nat.reduceLT, Nat.reduceLeDiff, Nat.reduceAdd, Nat.reduceMul, Nat.reduceSub, Nat.reduceEqDiff, Nat.reduceBEq, Nat.reduceDiv, reduceCtorEq, Int.reduceToNat]
      rw [szR_pos (by omega), hw]
    · have hr1 : szR (x.fSigs.length) (left - ((THead.wt x.fHead) : Nat)) = -1 := szR_neg (by omega)
      simp only [hr1, hm1, go_sem, brS_dec, brS_beq, brS_bne, brK_dec, brK_beq, brK_bne, Nat.reduceLT, Nat.reduceLeDiff, Nat.reduceAdd, Nat.reduceMul, Nat.reduceSub, Nat.reduceEqDiff, Nat.reduceBEq, Nat.reduceDiv, reduceCtorEq, Int.reduceToNat]
      rw [szR_neg (by omega)]
  · have hr0 : szR (THead.wt x.fHead) left = -1 := szR_neg (by omega)
    simp only [hr0, hm1, go_sem, brS_dec, brS_beq, brS_bne, brK_dec, brK_beq, brK_bne, Nat.reduceLT, Nat.reduceLeDiff, Nat.reduceAdd, Nat.reduceMul, Nat.reduceSub, Nat.reduceEqDiff, Nat.reduceBEq, Nat.reduceDiv, reduceCtorEq, Int.reduceToNat]
    rw [szR_neg (by omega)]
theorem szFork (x : TFork) (left : Int) (h0 : 0 ≤ left) (h1 : left ≤ 1048576) (hx : TFork.fit x) : Sat Tryz.prog G 88 [.val true (TFork.row none x), .val false [.v (.int .i64 left)]] (.val false [.v (.int .i64 (szR (TFork.wt x) left))]) := by
  refine sat_of_go (L := tiOf Tryz.prog) (fun T ti h => h) false [[1, 2], [1, 2], [1, 2, 10], [4], [1, 2], [1, 2, 16], [4], [1], [1, 22], [4], [4]] mx Tryz.func88 (by decide) rfl (by show 2 ≤ Tryz.f88.ntmps; decide) ?_
  have hmx := maxLen_eq
  have hm1 : ((-1 : Int) < 0) := by decide
  have hw : TFork.wt x = (TSigned.wt x.fBefore) + (TSigned.wt x.fA) + (TSigned.wt x.fB) := rfl
  simp only [go_sem, brS_dec, brS_beq, brS_bne, brK_dec, brK_beq, brK_bne, Nat.reduceLT, Nat.reduceLeDiff, Nat.reduceAdd, Nat.reduceMul, Nat.reduceSub, Nat.reduceEqDiff, Nat.reduceBEq, Nat.reduceDiv, reduceCtorEq, Int.reduceToNat]
  refine call_by (szSigned x.fBefore left (by omega) (by omega) (hx.1)) rfl ?_
  by_cases hc0 : ((((TSigned.wt x.fBefore)) : Nat) : Int) ≤ left
  · have hr0 : szR (TSigned.wt x.fBefore) left = (left - ((TSigned.wt x.fBefore) : Nat)) := by have h9 := szR_pos (n := (TSigned.wt x.fBefore)) (left := left) (by omega); omega
    have hn0 : ¬ ((left - ((TSigned.wt x.fBefore) : Nat)) < 0) := by omega
    simp only [hr0, hn0, go_sem, brS_dec, brS_beq, brS_bne, brK_dec, brK_beq, brK_bne, Nat.reduceLT, Nat.reduceLeDiff, Nat.reduceAdd, Nat.reduceMul, Nat.reduceSub, Nat.reduceEqDiff, Nat.reduceBEq, Nat.reduceDiv, reduceCtorEq, Int.reduceToNat]
    refine call_by (szSigned x.fA (left - ((TSigned.wt x.fBefore) : Nat)) (by omega) (by omega) (hx.2.1)) rfl ?_
    by_cases hc1 : ((((TSigned.wt x.fBefore) + (TSigned.wt x.fA)) : Nat) : Int) ≤ left
    · have hr1 : szR (TSigned.wt x.fA) (left - ((TSigned.wt x.fBefore) : Nat)) = (left - ((TSigned.wt x.fBefore) + (TSigned.wt x.fA) : Nat)) := by have h9 := szR_pos (n := (TSigned.wt x.fA)) (left := (left - ((TSigned.wt x.fBefore) : Nat))) (by omega); omega
      have hn1 : ¬ ((left - ((TSigned.wt x.fBefore) + (TSigned.wt x.fA) : Nat)) < 0) := by omega
      simp only [hr1, hn1, go_sem, brS_dec, brS_beq, brS_bne, brK_dec, brK_beq, brK_bne, Nat.reduceLT, Nat.reduceLeDiff, Nat.reduceAdd, Nat.reduceMul, Nat.reduceSub, Nat.reduceEqDiff, Nat.reduceBEq, Nat.reduceDiv, reduceCtorEq, Int.reduceToNat]
      refine call_by (szSigned x.fB (left - ((TSigned.wt x.fBefore) + (TSigned.wt x.fA) : Nat)) (by omega) (by omega) (hx.2.2)) rfl ?_
      by_cases hc2 : ((((TSigned.wt x.fBefore) + (TSigned.wt x.fA) + (TSigned.wt x.fB)) : Nat) : Int) ≤ left
      · have hr2 : szR (TSigned.wt x.fB) (left - ((TSigned.wt x.fBefore) + (TSigned.wt x.fA) : Nat)) = (left - ((TSigned.wt x.fBefore) + (TSigned.wt x.fA) + (TSigned.wt x.fB) : Nat)) := by have h9 := szR_pos (n := (TSigned.wt x.fB)) (left := (left - ((TSigned.wt x.fBefore) + (TSigned.wt x.fA) : Nat))) (by omega); omega
        have hn2 : ¬ ((left - ((TSigned.wt x.fBefore) + (TSigned.wt x.fA) + (TSigned.wt x.fB) : Nat)) < 0) := by omega
        simp only [hr2, hn2, go_sem, brS_dec, brS_beq, brS_bne, brK_dec, brK_beq, brK_bne, Nat.reduceLT, Nat.reduceLeDiff, Nat.reduceAdd, Nat.reduceMul, Nat.reduceSub, Nat.reduceEqDiff, Nat.reduceBEq, Nat.reduceDiv, reduceCtorEq, Int.reduceToNat]
        rw [szR_pos (by omega), hw]
      · have hr2 : szR (TSigned.wt x.fB) (left - ((TSigned.wt x.fBefore) + (TSigned.wt x.fA) : Nat)) = -1 := szR_neg (by omega)
        simp only [hr2, hm1, go_sem, brS_dec, brS_beq, brS_bne, brK_dec, brK_beq, brK_bne, Nat.reduceLT, Nat.reduceLeDiff, Nat.reduceAdd, Nat.reduceMul, Nat.reduceSub, Nat.reduceEqDiff, Nat.reduceBEq, Nat.reduceDiv, reduceCtorEq, Int.reduceToNat]
        rw [szR_neg (by omega)]
    · have hr1 : szR (TSigned.wt x.fA) (left - ((TSigned.wt x.fBefore) : Nat)) = -1 := szR_neg (by omega)
      simp only [hr1, hm1, go_sem, brS_dec, brS_beq, brS_bne, brK_dec, brK_beq, brK_bne, Nat.reduceLT, Nat.reduceLeDiff, Nat.reduceAdd, Nat.reduceMul, Nat.reduceSub, Nat.reduceEqDiff, Nat.reduceBEq, Nat.reduceDiv, reduceCtorEq, Int.reduceToNat]
      rw [szR_neg (by omega)]
  · have hr0 : szR (TSigned.wt x.fBefore) left = -1 := szR_neg (by omega)
    simp only [hr0, hm1, go_sem, brS_dec, brS_beq, brS_bne, brK_dec, brK_beq, brK_bne, Nat.reduceLT, Nat.reduceLeDiff, Nat.reduceAdd, Nat.reduceMul, Nat.reduceSub, Nat.reduceEqDiff, Nat.reduceBEq, Nat.reduceDiv, reduceCtorEq, Int.reduceToNat]
    rw [szR_neg (by omega)]
theorem szSignedS (xs : List TSigned) (left : Int) (h0 : 0 ≤ left) (h1 : left ≤ 1048576) (hx : fitL (TSigned.fit) xs) : Sat Tryz.prog G 36 [.val false [.l none 17 (xs.map (TSigned.row none))], .val false [.v (.int .i64 left)]] (.val false [.v (.int .i64 (szR (wtL TSigned.wt xs) left))]) := by
  refine sat_of_go (L := tiOf Tryz.prog) (fun T ti h => h) false [[0, 1], [0, 1], [0, 1, 11], [4], [0, 1, 5], [0, 1, 5, 15], [0, 1, 5], [0, 1, 5], [0, 1, 5, 25], [4], [4]] mx Tryz.func36 (by decide) rfl (by show 2 ≤ Tryz.f36.ntmps; decide) ?_
  have hl := wrap_sub h0 h1 hx.1
  have hp0 := preL_zero TSigned.wt xs
  have hpn := preL_all TSigned.wt xs
  have hmx := maxLen_eq
  have hlx := hx.1
  by_cases hc : (xs.length : Int) ≤ left
  · have hn : ¬ (left - (xs.length : Int) < 0) := by omega
    simp only [hl, hn, go_sem, brS_dec, brS_beq, brS_bne, brK_dec, brK_beq, brK_bne, Nat.reduceLT, Nat.reduceLeDiff, Nat.reduceAdd, Nat.reduceMul, Nat.reduceSub, Nat.reduceEqDiff, Nat.reduceBEq, Nat.reduceDiv, reduceCtorEq, Int.reduceToNat]
    refine loop_n [0, 1, 5] xs.length (fun i => [(1, .val false [.v (.int .i64 (left - (preL TSigned.wt xs i : Nat)))]), (5, .val false [.v (.int .i64 (i : Int))])]) (fun i => (preL TSigned.wt xs i : Int) ≤ left) ?_ ?_ ?_ ?_
    · simp only [hp0, go_sem, brS_dec, brS_beq, brS_bne, brK_dec, brK_beq, brK_bne, Nat.reduceLT, Nat.reduceLeDiff, Nat.reduceAdd, Nat.reduceMul, Nat.reduceSub, Nat.reduceEqDiff, Nat.reduceBEq, Nat.reduceDiv, reduceCtorEq, Int.reduceToNat]
      try rfl
    · rw [hp0]; exact hc
    · intro i hi hq F hF
      have hlt : ((i : Int) < (xs.length : Int)) := by omega
      have hsu := preL_succ TSigned.wt xs hi
      have hup := wrap_up (i := i) (by omega)
      simp only [hlt, map_getD (TSigned.row none) xs hi, hup, go_sem, brS_dec, brS_beq, brS_bne, brK_dec, brK_beq, brK_bne, Nat.reduceLT, Nat.reduceLeDiff, Nat.reduceAdd, Nat.reduceMul, Nat.reduceSub, Nat.reduceEqDiff, Nat.reduceBEq, Nat.reduceDiv, reduceCtorEq, Int.reduceToNat]
      refine call_by (szSigned (xs.getD i default) (left - (preL TSigned.wt xs i : Nat)) (by omega) (by omega) (fitL_at hx hi default)) rfl ?_
      by_cases hc2 : (preL TSigned.wt xs (i + 1) : Int) ≤ left
      · have hn2 : ¬ (left - (preL TSigned.wt xs (i + 1) : Nat) < 0) := by omega
        have hr : szR (TSigned.wt (xs.getD i default)) (left - (preL TSigned.wt xs i : Nat)) = left - (preL TSigned.wt xs (i + 1) : Nat) := by have h9 := szR_pos (n := (TSigned.wt (xs.getD i default))) (left := left - (preL TSigned.wt xs i : Nat)) (by omega); omega
        simp only [hr, hn2, hup, go_sem, brS_dec, brS_beq, brS_bne, brK_dec, brK_beq, brK_bne, Nat.reduceLT, Nat.reduceLeDiff, Nat.reduceAdd, Nat.reduceMul, Nat.reduceSub, Nat.reduceEqDiff, Nat.reduceBEq, Nat.reduceDiv, reduceCtorEq, Int.reduceToNat]
        refine hF _ ?_ hc2
        simp only [go_sem, brS_dec, brS_beq, brS_bne, brK_dec, brK_beq, brK_bne, Nat.reduceLT, Nat.reduceLeDiff, Nat.reduceAdd, Nat.reduceMul, Nat.reduceSub, Nat.reduceEqDiff, Nat.reduceBEq, Nat.reduceDiv, reduceCtorEq, Int.reduceToNat]
      · have hr : szR (TSigned.wt (xs.getD i default)) (left - (preL TSigned.wt xs i : Nat)) = -1 := szR_neg (by omega)
        have hle := preL_le TSigned.wt xs (i + 1)
        have hm1 : ((-1 : Int) < 0) := by decide
        simp only [hr, hm1, hup, go_sem, brS_dec, brS_beq, brS_bne, brK_dec, brK_beq, brK_bne, Nat.reduceLT, Nat.reduceLeDiff, Nat.reduceAdd, Nat.reduceMul, Nat.reduceSub, Nat.reduceEqDiff, Nat.reduceBEq, Nat.reduceDiv, reduceCtorEq, Int.reduceToNat]
        rw [szR_neg (by omega)]
    · intro hq F
      rw [hpn] at hq
      simp only [hpn, go_sem, brS_dec, brS_beq, brS_bne, brK_dec, brK_beq, brK_bne, Nat.reduceLT, Nat.reduceLeDiff, Nat.reduceAdd, Nat.reduceMul, Nat.reduceSub, Nat.reduceEqDiff, Nat.reduceBEq, Nat.reduceDiv, reduceCtorEq, Int.reduceToNat]
      rw [szR_pos hq]
  · have hn : left - (xs.length : Int) < 0 := by omega
    have hle : xs.length ≤ wtL TSigned.wt xs := wtL_len
    simp only [hl, hn, go_sem, brS_dec, brS_beq, brS_bne, brK_dec, brK_beq, brK_bne, Nat.reduceLT, Nat.reduceLeDiff, Nat.reduceAdd, Nat.reduceMul, Nat.reduceSub, Nat.reduceEqDiff, Nat.reduceBEq, Nat.reduceDiv, reduceCtorEq, Int.reduceToNat]
    rw [szR_neg (by omega)]
theorem szEntryS (xs : List TEntry) (left : Int) (h0 : 0 ≤ left) (h1 : left ≤ 1048576) (hx : fitL (TEntry.fit) xs) : Sat Tryz.prog G 37 [.val false [.l none 4 (xs.map (TEntry.row none))], .val false [.v (.int .i64 left)]] (.val false [.v (.int .i64 (szR (wtL TEntry.wt xs) left))]) := by
  refine sat_of_go (L := tiOf Tryz.prog) (fun T ti h => h) false [[0, 1], [0, 1], [0, 1, 11], [4], [0, 1, 5], [0, 1, 5, 15], [0, 1, 5], [0, 1, 5], [0, 1, 5, 25], [4], [4]] mx Tryz.func37 (by decide) rfl (by show 2 ≤ Tryz.f37.ntmps; decide) ?_
  have hl := wrap_sub h0 h1 hx.1
  have hp0 := preL_zero TEntry.wt xs
  have hpn := preL_all TEntry.wt xs
  have hmx := maxLen_eq
  have hlx := hx.1
  by_cases hc : (xs.length : Int) ≤ left
  · have hn : ¬ (left - (xs.length : Int) < 0) := by omega
    simp only [hl, hn, go_sem, brS_dec, brS_beq, brS_bne, brK_dec, brK_beq, brK_bne, Nat.reduceLT, Nat.reduceLeDiff, Nat.reduceAdd, Nat.reduceMul, Nat.reduceSub, Nat.reduceEqDiff, Nat.reduceBEq, Nat.reduceDiv, reduceCtorEq, Int.reduceToNat]
    refine loop_n [0, 1, 5] xs.length (fun i => [(1, .val false [.v (.int .i64 (left - (preL TEntry.wt xs i : Nat)))]), (5, .val false [.v (.int .i64 (i : Int))])]) (fun i => (preL TEntry.wt xs i : Int) ≤ left) ?_ ?_ ?_ ?_
    · simp only [hp0, go_sem, brS_dec, brS_beq, brS_bne, brK_dec, brK_beq, brK_bne, Nat.reduceLT, Nat.reduceLeDiff, Nat.reduceAdd, Nat.reduceMul, Nat.reduceSub, Nat.reduceEqDiff, Nat.reduceBEq, Nat.reduceDiv, reduceCtorEq, Int.reduceToNat]
      try rfl
    · rw [hp0]; exact hc
    · intro i hi hq F hF
      have hlt : ((i : Int) < (xs.length : Int)) := by omega
      have hsu := preL_succ TEntry.wt xs hi
      have hup := wrap_up (i := i) (by omega)
      simp only [hlt, map_getD (TEntry.row none) xs hi, hup, go_sem, brS_dec, brS_beq, brS_bne, brK_dec, brK_beq, brK_bne, Nat.reduceLT, Nat.reduceLeDiff, Nat.reduceAdd, Nat.reduceMul, Nat.reduceSub, Nat.reduceEqDiff, Nat.reduceBEq, Nat.reduceDiv, reduceCtorEq, Int.reduceToNat]
      refine call_by (szEntry (xs.getD i default) (left - (preL TEntry.wt xs i : Nat)) (by omega) (by omega) (fitL_at hx hi default)) rfl ?_
      by_cases hc2 : (preL TEntry.wt xs (i + 1) : Int) ≤ left
      · have hn2 : ¬ (left - (preL TEntry.wt xs (i + 1) : Nat) < 0) := by omega
        have hr : szR (TEntry.wt (xs.getD i default)) (left - (preL TEntry.wt xs i : Nat)) = left - (preL TEntry.wt xs (i + 1) : Nat) := by have h9 := szR_pos (n := (TEntry.wt (xs.getD i default))) (left := left - (preL TEntry.wt xs i : Nat)) (by omega); omega
        simp only [hr, hn2, hup, go_sem, brS_dec, brS_beq, brS_bne, brK_dec, brK_beq, brK_bne, Nat.reduceLT, Nat.reduceLeDiff, Nat.reduceAdd, Nat.reduceMul, Nat.reduceSub, Nat.reduceEqDiff, Nat.reduceBEq, Nat.reduceDiv, reduceCtorEq, Int.reduceToNat]
        refine hF _ ?_ hc2
        simp only [go_sem, brS_dec, brS_beq, brS_bne, brK_dec, brK_beq, brK_bne, Nat.reduceLT, Nat.reduceLeDiff, Nat.reduceAdd, Nat.reduceMul, Nat.reduceSub, Nat.reduceEqDiff, Nat.reduceBEq, Nat.reduceDiv, reduceCtorEq, Int.reduceToNat]
      · have hr : szR (TEntry.wt (xs.getD i default)) (left - (preL TEntry.wt xs i : Nat)) = -1 := szR_neg (by omega)
        have hle := preL_le TEntry.wt xs (i + 1)
        have hm1 : ((-1 : Int) < 0) := by decide
        simp only [hr, hm1, hup, go_sem, brS_dec, brS_beq, brS_bne, brK_dec, brK_beq, brK_bne, Nat.reduceLT, Nat.reduceLeDiff, Nat.reduceAdd, Nat.reduceMul, Nat.reduceSub, Nat.reduceEqDiff, Nat.reduceBEq, Nat.reduceDiv, reduceCtorEq, Int.reduceToNat]
        rw [szR_neg (by omega)]
    · intro hq F
      rw [hpn] at hq
      simp only [hpn, go_sem, brS_dec, brS_beq, brS_bne, brK_dec, brK_beq, brK_bne, Nat.reduceLT, Nat.reduceLeDiff, Nat.reduceAdd, Nat.reduceMul, Nat.reduceSub, Nat.reduceEqDiff, Nat.reduceBEq, Nat.reduceDiv, reduceCtorEq, Int.reduceToNat]
      rw [szR_pos hq]
  · have hn : left - (xs.length : Int) < 0 := by omega
    have hle : xs.length ≤ wtL TEntry.wt xs := wtL_len
    simp only [hl, hn, go_sem, brS_dec, brS_beq, brS_bne, brK_dec, brK_beq, brK_bne, Nat.reduceLT, Nat.reduceLeDiff, Nat.reduceAdd, Nat.reduceMul, Nat.reduceSub, Nat.reduceEqDiff, Nat.reduceBEq, Nat.reduceDiv, reduceCtorEq, Int.reduceToNat]
    rw [szR_neg (by omega)]
theorem szZone (x : TZone) (left : Int) (h0 : 0 ≤ left) (h1 : left ≤ 1048576) (hx : TZone.fit x) : Sat Tryz.prog G 10 [.val true (TZone.row none x), .val false [.v (.int .i64 left)]] (.val false [.v (.int .i64 (szR (TZone.wt x) left))]) := by
  refine sat_of_go (L := tiOf Tryz.prog) (fun T ti h => h) false [[1, 2], [1, 2], [1, 2, 10], [4], [1], [1, 16], [4], [4]] mx Tryz.func10 (by decide) rfl (by show 2 ≤ Tryz.f10.ntmps; decide) ?_
  have hmx := maxLen_eq
  have hm1 : ((-1 : Int) < 0) := by decide
  have hw : TZone.wt x = (wtL TSigned.wt x.fChain) + (wtL TEntry.wt x.fEntries) := rfl
  simp only [go_sem, brS_dec, brS_beq, brS_bne, brK_dec, brK_beq, brK_bne, Nat.reduceLT, Nat.reduceLeDiff, Nat.reduceAdd, Nat.reduceMul, Nat.reduceSub, Nat.reduceEqDiff, Nat.reduceBEq, Nat.reduceDiv, reduceCtorEq, Int.reduceToNat]
  refine call_by (szSignedS x.fChain left (by omega) (by omega) (hx.1)) rfl ?_
  by_cases hc0 : ((((wtL TSigned.wt x.fChain)) : Nat) : Int) ≤ left
  · have hr0 : szR (wtL TSigned.wt x.fChain) left = (left - ((wtL TSigned.wt x.fChain) : Nat)) := by have h9 := szR_pos (n := (wtL TSigned.wt x.fChain)) (left := left) (by omega); omega
    have hn0 : ¬ ((left - ((wtL TSigned.wt x.fChain) : Nat)) < 0) := by omega
    simp only [hr0, hn0, go_sem, brS_dec, brS_beq, brS_bne, brK_dec, brK_beq, brK_bne, Nat.reduceLT, Nat.reduceLeDiff, Nat.reduceAdd, Nat.reduceMul, Nat.reduceSub, Nat.reduceEqDiff, Nat.reduceBEq, Nat.reduceDiv, reduceCtorEq, Int.reduceToNat]
    refine call_by (szEntryS x.fEntries (left - ((wtL TSigned.wt x.fChain) : Nat)) (by omega) (by omega) (hx.2)) rfl ?_
    by_cases hc1 : ((((wtL TSigned.wt x.fChain) + (wtL TEntry.wt x.fEntries)) : Nat) : Int) ≤ left
    · have hr1 : szR (wtL TEntry.wt x.fEntries) (left - ((wtL TSigned.wt x.fChain) : Nat)) = (left - ((wtL TSigned.wt x.fChain) + (wtL TEntry.wt x.fEntries) : Nat)) := by have h9 := szR_pos (n := (wtL TEntry.wt x.fEntries)) (left := (left - ((wtL TSigned.wt x.fChain) : Nat))) (by omega); omega
      have hn1 : ¬ ((left - ((wtL TSigned.wt x.fChain) + (wtL TEntry.wt x.fEntries) : Nat)) < 0) := by omega
      simp only [hr1, hn1, go_sem, brS_dec, brS_beq, brS_bne, brK_dec, brK_beq, brK_bne, Nat.reduceLT, Nat.reduceLeDiff, Nat.reduceAdd, Nat.reduceMul, Nat.reduceSub, Nat.reduceEqDiff, Nat.reduceBEq, Nat.reduceDiv, reduceCtorEq, Int.reduceToNat]
      rw [szR_pos (by omega), hw]
    · have hr1 : szR (wtL TEntry.wt x.fEntries) (left - ((wtL TSigned.wt x.fChain) : Nat)) = -1 := szR_neg (by omega)
      simp only [hr1, hm1, go_sem, brS_dec, brS_beq, brS_bne, brK_dec, brK_beq, brK_bne, Nat.reduceLT, Nat.reduceLeDiff, Nat.reduceAdd, Nat.reduceMul, Nat.reduceSub, Nat.reduceEqDiff, Nat.reduceBEq, Nat.reduceDiv, reduceCtorEq, Int.reduceToNat]
      rw [szR_neg (by omega)]
  · have hr0 : szR (wtL TSigned.wt x.fChain) left = -1 := szR_neg (by omega)
    simp only [hr0, hm1, go_sem, brS_dec, brS_beq, brS_bne, brK_dec, brK_beq, brK_bne, Nat.reduceLT, Nat.reduceLeDiff, Nat.reduceAdd, Nat.reduceMul, Nat.reduceSub, Nat.reduceEqDiff, Nat.reduceBEq, Nat.reduceDiv, reduceCtorEq, Int.reduceToNat]
    rw [szR_neg (by omega)]
theorem szAnswer (x : TAnswer) (left : Int) (h0 : 0 ≤ left) (h1 : left ≤ 1048576) (hx : TAnswer.fit x) : Sat Tryz.prog G 121 [.val true (TAnswer.row none x), .val false [.v (.int .i64 left)]] (.val false [.v (.int .i64 (szR (TAnswer.wt x) left))]) := by
  refine sat_of_go (L := tiOf Tryz.prog) (fun T ti h => h) false [[1, 2], [1, 2], [1, 2, 10], [4], [1, 2], [1, 2, 16], [4], [1, 2], [1, 2, 22], [4], [1], [1, 28], [4], [4]] mx Tryz.func121 (by decide) rfl (by show 2 ≤ Tryz.f121.ntmps; decide) ?_
  have hmx := maxLen_eq
  have hm1 : ((-1 : Int) < 0) := by decide
  have hw : TAnswer.wt x = (wtL TSigned.wt x.fChain) + (TEntry.wt x.fEntry) + (TProof.wt x.fProof) + (TGap.wt x.fGap) := rfl
  simp only [go_sem, brS_dec, brS_beq, brS_bne, brK_dec, brK_beq, brK_bne, Nat.reduceLT, Nat.reduceLeDiff, Nat.reduceAdd, Nat.reduceMul, Nat.reduceSub, Nat.reduceEqDiff, Nat.reduceBEq, Nat.reduceDiv, reduceCtorEq, Int.reduceToNat]
  refine call_by (szSignedS x.fChain left (by omega) (by omega) (hx.1)) rfl ?_
  by_cases hc0 : ((((wtL TSigned.wt x.fChain)) : Nat) : Int) ≤ left
  · have hr0 : szR (wtL TSigned.wt x.fChain) left = (left - ((wtL TSigned.wt x.fChain) : Nat)) := by have h9 := szR_pos (n := (wtL TSigned.wt x.fChain)) (left := left) (by omega); omega
    have hn0 : ¬ ((left - ((wtL TSigned.wt x.fChain) : Nat)) < 0) := by omega
    simp only [hr0, hn0, go_sem, brS_dec, brS_beq, brS_bne, brK_dec, brK_beq, brK_bne, Nat.reduceLT, Nat.reduceLeDiff, Nat.reduceAdd, Nat.reduceMul, Nat.reduceSub, Nat.reduceEqDiff, Nat.reduceBEq, Nat.reduceDiv, reduceCtorEq, Int.reduceToNat]
    refine call_by (szEntry x.fEntry (left - ((wtL TSigned.wt x.fChain) : Nat)) (by omega) (by omega) (hx.2.2.1)) rfl ?_
    by_cases hc1 : ((((wtL TSigned.wt x.fChain) + (TEntry.wt x.fEntry)) : Nat) : Int) ≤ left
    · have hr1 : szR (TEntry.wt x.fEntry) (left - ((wtL TSigned.wt x.fChain) : Nat)) = (left - ((wtL TSigned.wt x.fChain) + (TEntry.wt x.fEntry) : Nat)) := by have h9 := szR_pos (n := (TEntry.wt x.fEntry)) (left := (left - ((wtL TSigned.wt x.fChain) : Nat))) (by omega); omega
      have hn1 : ¬ ((left - ((wtL TSigned.wt x.fChain) + (TEntry.wt x.fEntry) : Nat)) < 0) := by omega
      simp only [hr1, hn1, go_sem, brS_dec, brS_beq, brS_bne, brK_dec, brK_beq, brK_bne, Nat.reduceLT, Nat.reduceLeDiff, Nat.reduceAdd, Nat.reduceMul, Nat.reduceSub, Nat.reduceEqDiff, Nat.reduceBEq, Nat.reduceDiv, reduceCtorEq, Int.reduceToNat]
      refine call_by (szProof x.fProof (left - ((wtL TSigned.wt x.fChain) + (TEntry.wt x.fEntry) : Nat)) (by omega) (by omega) (hx.2.2.2.1)) rfl ?_
      by_cases hc2 : ((((wtL TSigned.wt x.fChain) + (TEntry.wt x.fEntry) + (TProof.wt x.fProof)) : Nat) : Int) ≤ left
      · have hr2 : szR (TProof.wt x.fProof) (left - ((wtL TSigned.wt x.fChain) + (TEntry.wt x.fEntry) : Nat)) = (left - ((wtL TSigned.wt x.fChain) + (TEntry.wt x.fEntry) + (TProof.wt x.fProof) : Nat)) := by have h9 := szR_pos (n := (TProof.wt x.fProof)) (left := (left - ((wtL TSigned.wt x.fChain) + (TEntry.wt x.fEntry) : Nat))) (by omega); omega
        have hn2 : ¬ ((left - ((wtL TSigned.wt x.fChain) + (TEntry.wt x.fEntry) + (TProof.wt x.fProof) : Nat)) < 0) := by omega
        simp only [hr2, hn2, go_sem, brS_dec, brS_beq, brS_bne, brK_dec, brK_beq, brK_bne, Nat.reduceLT, Nat.reduceLeDiff, Nat.reduceAdd, Nat.reduceMul, Nat.reduceSub, Nat.reduceEqDiff, Nat.reduceBEq, Nat.reduceDiv, reduceCtorEq, Int.reduceToNat]
        refine call_by (szGap x.fGap (left - ((wtL TSigned.wt x.fChain) + (TEntry.wt x.fEntry) + (TProof.wt x.fProof) : Nat)) (by omega) (by omega) (hx.2.2.2.2)) rfl ?_
        by_cases hc3 : ((((wtL TSigned.wt x.fChain) + (TEntry.wt x.fEntry) + (TProof.wt x.fProof) + (TGap.wt x.fGap)) : Nat) : Int) ≤ left
        · have hr3 : szR (TGap.wt x.fGap) (left - ((wtL TSigned.wt x.fChain) + (TEntry.wt x.fEntry) + (TProof.wt x.fProof) : Nat)) = (left - ((wtL TSigned.wt x.fChain) + (TEntry.wt x.fEntry) + (TProof.wt x.fProof) + (TGap.wt x.fGap) : Nat)) := by have h9 := szR_pos (n := (TGap.wt x.fGap)) (left := (left - ((wtL TSigned.wt x.fChain) + (TEntry.wt x.fEntry) + (TProof.wt x.fProof) : Nat))) (by omega); omega
          have hn3 : ¬ ((left - ((wtL TSigned.wt x.fChain) + (TEntry.wt x.fEntry) + (TProof.wt x.fProof) + (TGap.wt x.fGap) : Nat)) < 0) := by omega
          simp only [hr3, hn3, go_sem, brS_dec, brS_beq, brS_bne, brK_dec, brK_beq, brK_bne, Nat.reduceLT, Nat.reduceLeDiff, Nat.reduceAdd, Nat.reduceMul, Nat.reduceSub, Nat.reduceEqDiff, Nat.reduceBEq, Nat.reduceDiv, reduceCtorEq, Int.reduceToNat]
          rw [szR_pos (by omega), hw]
        · have hr3 : szR (TGap.wt x.fGap) (left - ((wtL TSigned.wt x.fChain) + (TEntry.wt x.fEntry) + (TProof.wt x.fProof) : Nat)) = -1 := szR_neg (by omega)
          simp only [hr3, hm1, go_sem, brS_dec, brS_beq, brS_bne, brK_dec, brK_beq, brK_bne, Nat.reduceLT, Nat.reduceLeDiff, Nat.reduceAdd, Nat.reduceMul, Nat.reduceSub, Nat.reduceEqDiff, Nat.reduceBEq, Nat.reduceDiv, reduceCtorEq, Int.reduceToNat]
          rw [szR_neg (by omega)]
      · have hr2 : szR (TProof.wt x.fProof) (left - ((wtL TSigned.wt x.fChain) + (TEntry.wt x.fEntry) : Nat)) = -1 := szR_neg (by omega)
        simp only [hr2, hm1, go_sem, brS_dec, brS_beq, brS_bne, brK_dec, brK_beq, brK_bne, Nat.reduceLT, Nat.reduceLeDiff, Nat.reduceAdd, Nat.reduceMul, Nat.reduceSub, Nat.reduceEqDiff, Nat.reduceBEq, Nat.reduceDiv, reduceCtorEq, Int.reduceToNat]
        rw [szR_neg (by omega)]
    · have hr1 : szR (TEntry.wt x.fEntry) (left - ((wtL TSigned.wt x.fChain) : Nat)) = -1 := szR_neg (by omega)
      simp only [hr1, hm1, go_sem, brS_dec, brS_beq, brS_bne, brK_dec, brK_beq, brK_bne, Nat.reduceLT, Nat.reduceLeDiff, Nat.reduceAdd, Nat.reduceMul, Nat.reduceSub, Nat.reduceEqDiff, Nat.reduceBEq, Nat.reduceDiv, reduceCtorEq, Int.reduceToNat]
      rw [szR_neg (by omega)]
  · have hr0 : szR (wtL TSigned.wt x.fChain) left = -1 := szR_neg (by omega)
    simp only [hr0, hm1, go_sem, brS_dec, brS_beq, brS_bne, brK_dec, brK_beq, brK_bne, Nat.reduceLT, Nat.reduceLeDiff, Nat.reduceAdd, Nat.reduceMul, Nat.reduceSub, Nat.reduceEqDiff, Nat.reduceBEq, Nat.reduceDiv, reduceCtorEq, Int.reduceToNat]
    rw [szR_neg (by omega)]
theorem szSignedSS (xs : List (List TSigned)) (left : Int) (h0 : 0 ≤ left) (h1 : left ≤ 1048576) (hx : fitL (fitL (TSigned.fit)) xs) : Sat Tryz.prog G 53 [.val false [.l none 1 (xs.map (rowLSignedS none))], .val false [.v (.int .i64 left)]] (.val false [.v (.int .i64 (szR (wtL (wtL TSigned.wt) xs) left))]) := by
  refine sat_of_go (L := tiOf Tryz.prog) (fun T ti h => h) false [[0, 1], [0, 1], [0, 1, 11], [4], [0, 1, 5], [0, 1, 5, 15], [0, 1, 5], [0, 1, 5], [0, 1, 5, 25], [4], [4]] mx Tryz.func53 (by decide) rfl (by show 2 ≤ Tryz.f53.ntmps; decide) ?_
  have hl := wrap_sub h0 h1 hx.1
  have hp0 := preL_zero (wtL TSigned.wt) xs
  have hpn := preL_all (wtL TSigned.wt) xs
  have hmx := maxLen_eq
  have hlx := hx.1
  by_cases hc : (xs.length : Int) ≤ left
  · have hn : ¬ (left - (xs.length : Int) < 0) := by omega
    simp only [hl, hn, go_sem, brS_dec, brS_beq, brS_bne, brK_dec, brK_beq, brK_bne, Nat.reduceLT, Nat.reduceLeDiff, Nat.reduceAdd, Nat.reduceMul, Nat.reduceSub, Nat.reduceEqDiff, Nat.reduceBEq, Nat.reduceDiv, reduceCtorEq, Int.reduceToNat]
    refine loop_n [0, 1, 5] xs.length (fun i => [(1, .val false [.v (.int .i64 (left - (preL (wtL TSigned.wt) xs i : Nat)))]), (5, .val false [.v (.int .i64 (i : Int))])]) (fun i => (preL (wtL TSigned.wt) xs i : Int) ≤ left) ?_ ?_ ?_ ?_
    · simp only [hp0, go_sem, brS_dec, brS_beq, brS_bne, brK_dec, brK_beq, brK_bne, Nat.reduceLT, Nat.reduceLeDiff, Nat.reduceAdd, Nat.reduceMul, Nat.reduceSub, Nat.reduceEqDiff, Nat.reduceBEq, Nat.reduceDiv, reduceCtorEq, Int.reduceToNat]
      try rfl
    · rw [hp0]; exact hc
    · intro i hi hq F hF
      have hlt : ((i : Int) < (xs.length : Int)) := by omega
      have hsu := preL_succ (wtL TSigned.wt) xs hi
      have hup := wrap_up (i := i) (by omega)
      simp only [hlt, map_getD (rowLSignedS none) xs hi, hup, go_sem, brS_dec, brS_beq, brS_bne, brK_dec, brK_beq, brK_bne, Nat.reduceLT, Nat.reduceLeDiff, Nat.reduceAdd, Nat.reduceMul, Nat.reduceSub, Nat.reduceEqDiff, Nat.reduceBEq, Nat.reduceDiv, reduceCtorEq, Int.reduceToNat]
      refine call_by (szSignedS (xs.getD i default) (left - (preL (wtL TSigned.wt) xs i : Nat)) (by omega) (by omega) (fitL_at hx hi default)) rfl ?_
      by_cases hc2 : (preL (wtL TSigned.wt) xs (i + 1) : Int) ≤ left
      · have hn2 : ¬ (left - (preL (wtL TSigned.wt) xs (i + 1) : Nat) < 0) := by omega
        have hr : szR (wtL TSigned.wt (xs.getD i default)) (left - (preL (wtL TSigned.wt) xs i : Nat)) = left - (preL (wtL TSigned.wt) xs (i + 1) : Nat) := by have h9 := szR_pos (n := (wtL TSigned.wt (xs.getD i default))) (left := left - (preL (wtL TSigned.wt) xs i : Nat)) (by omega); omega
        simp only [hr, hn2, hup, go_sem, brS_dec, brS_beq, brS_bne, brK_dec, brK_beq, brK_bne, Nat.reduceLT, Nat.reduceLeDiff, Nat.reduceAdd, Nat.reduceMul, Nat.reduceSub, Nat.reduceEqDiff, Nat.reduceBEq, Nat.reduceDiv, reduceCtorEq, Int.reduceToNat]
        refine hF _ ?_ hc2
        simp only [go_sem, brS_dec, brS_beq, brS_bne, brK_dec, brK_beq, brK_bne, Nat.reduceLT, Nat.reduceLeDiff, Nat.reduceAdd, Nat.reduceMul, Nat.reduceSub, Nat.reduceEqDiff, Nat.reduceBEq, Nat.reduceDiv, reduceCtorEq, Int.reduceToNat]
      · have hr : szR (wtL TSigned.wt (xs.getD i default)) (left - (preL (wtL TSigned.wt) xs i : Nat)) = -1 := szR_neg (by omega)
        have hle := preL_le (wtL TSigned.wt) xs (i + 1)
        have hm1 : ((-1 : Int) < 0) := by decide
        simp only [hr, hm1, hup, go_sem, brS_dec, brS_beq, brS_bne, brK_dec, brK_beq, brK_bne, Nat.reduceLT, Nat.reduceLeDiff, Nat.reduceAdd, Nat.reduceMul, Nat.reduceSub, Nat.reduceEqDiff, Nat.reduceBEq, Nat.reduceDiv, reduceCtorEq, Int.reduceToNat]
        rw [szR_neg (by omega)]
    · intro hq F
      rw [hpn] at hq
      simp only [hpn, go_sem, brS_dec, brS_beq, brS_bne, brK_dec, brK_beq, brK_bne, Nat.reduceLT, Nat.reduceLeDiff, Nat.reduceAdd, Nat.reduceMul, Nat.reduceSub, Nat.reduceEqDiff, Nat.reduceBEq, Nat.reduceDiv, reduceCtorEq, Int.reduceToNat]
      rw [szR_pos hq]
  · have hn : left - (xs.length : Int) < 0 := by omega
    have hle : xs.length ≤ wtL (wtL TSigned.wt) xs := wtL_len
    simp only [hl, hn, go_sem, brS_dec, brS_beq, brS_bne, brK_dec, brK_beq, brK_bne, Nat.reduceLT, Nat.reduceLeDiff, Nat.reduceAdd, Nat.reduceMul, Nat.reduceSub, Nat.reduceEqDiff, Nat.reduceBEq, Nat.reduceDiv, reduceCtorEq, Int.reduceToNat]
    rw [szR_neg (by omega)]
theorem szForkS (xs : List TFork) (left : Int) (h0 : 0 ≤ left) (h1 : left ≤ 1048576) (hx : fitL (TFork.fit) xs) : Sat Tryz.prog G 54 [.val false [.l none 51 (xs.map (TFork.row none))], .val false [.v (.int .i64 left)]] (.val false [.v (.int .i64 (szR (wtL TFork.wt xs) left))]) := by
  refine sat_of_go (L := tiOf Tryz.prog) (fun T ti h => h) false [[0, 1], [0, 1], [0, 1, 11], [4], [0, 1, 5], [0, 1, 5, 15], [0, 1, 5], [0, 1, 5], [0, 1, 5, 25], [4], [4]] mx Tryz.func54 (by decide) rfl (by show 2 ≤ Tryz.f54.ntmps; decide) ?_
  have hl := wrap_sub h0 h1 hx.1
  have hp0 := preL_zero TFork.wt xs
  have hpn := preL_all TFork.wt xs
  have hmx := maxLen_eq
  have hlx := hx.1
  by_cases hc : (xs.length : Int) ≤ left
  · have hn : ¬ (left - (xs.length : Int) < 0) := by omega
    simp only [hl, hn, go_sem, brS_dec, brS_beq, brS_bne, brK_dec, brK_beq, brK_bne, Nat.reduceLT, Nat.reduceLeDiff, Nat.reduceAdd, Nat.reduceMul, Nat.reduceSub, Nat.reduceEqDiff, Nat.reduceBEq, Nat.reduceDiv, reduceCtorEq, Int.reduceToNat]
    refine loop_n [0, 1, 5] xs.length (fun i => [(1, .val false [.v (.int .i64 (left - (preL TFork.wt xs i : Nat)))]), (5, .val false [.v (.int .i64 (i : Int))])]) (fun i => (preL TFork.wt xs i : Int) ≤ left) ?_ ?_ ?_ ?_
    · simp only [hp0, go_sem, brS_dec, brS_beq, brS_bne, brK_dec, brK_beq, brK_bne, Nat.reduceLT, Nat.reduceLeDiff, Nat.reduceAdd, Nat.reduceMul, Nat.reduceSub, Nat.reduceEqDiff, Nat.reduceBEq, Nat.reduceDiv, reduceCtorEq, Int.reduceToNat]
      try rfl
    · rw [hp0]; exact hc
    · intro i hi hq F hF
      have hlt : ((i : Int) < (xs.length : Int)) := by omega
      have hsu := preL_succ TFork.wt xs hi
      have hup := wrap_up (i := i) (by omega)
      simp only [hlt, map_getD (TFork.row none) xs hi, hup, go_sem, brS_dec, brS_beq, brS_bne, brK_dec, brK_beq, brK_bne, Nat.reduceLT, Nat.reduceLeDiff, Nat.reduceAdd, Nat.reduceMul, Nat.reduceSub, Nat.reduceEqDiff, Nat.reduceBEq, Nat.reduceDiv, reduceCtorEq, Int.reduceToNat]
      refine call_by (szFork (xs.getD i default) (left - (preL TFork.wt xs i : Nat)) (by omega) (by omega) (fitL_at hx hi default)) rfl ?_
      by_cases hc2 : (preL TFork.wt xs (i + 1) : Int) ≤ left
      · have hn2 : ¬ (left - (preL TFork.wt xs (i + 1) : Nat) < 0) := by omega
        have hr : szR (TFork.wt (xs.getD i default)) (left - (preL TFork.wt xs i : Nat)) = left - (preL TFork.wt xs (i + 1) : Nat) := by have h9 := szR_pos (n := (TFork.wt (xs.getD i default))) (left := left - (preL TFork.wt xs i : Nat)) (by omega); omega
        simp only [hr, hn2, hup, go_sem, brS_dec, brS_beq, brS_bne, brK_dec, brK_beq, brK_bne, Nat.reduceLT, Nat.reduceLeDiff, Nat.reduceAdd, Nat.reduceMul, Nat.reduceSub, Nat.reduceEqDiff, Nat.reduceBEq, Nat.reduceDiv, reduceCtorEq, Int.reduceToNat]
        refine hF _ ?_ hc2
        simp only [go_sem, brS_dec, brS_beq, brS_bne, brK_dec, brK_beq, brK_bne, Nat.reduceLT, Nat.reduceLeDiff, Nat.reduceAdd, Nat.reduceMul, Nat.reduceSub, Nat.reduceEqDiff, Nat.reduceBEq, Nat.reduceDiv, reduceCtorEq, Int.reduceToNat]
      · have hr : szR (TFork.wt (xs.getD i default)) (left - (preL TFork.wt xs i : Nat)) = -1 := szR_neg (by omega)
        have hle := preL_le TFork.wt xs (i + 1)
        have hm1 : ((-1 : Int) < 0) := by decide
        simp only [hr, hm1, hup, go_sem, brS_dec, brS_beq, brS_bne, brK_dec, brK_beq, brK_bne, Nat.reduceLT, Nat.reduceLeDiff, Nat.reduceAdd, Nat.reduceMul, Nat.reduceSub, Nat.reduceEqDiff, Nat.reduceBEq, Nat.reduceDiv, reduceCtorEq, Int.reduceToNat]
        rw [szR_neg (by omega)]
    · intro hq F
      rw [hpn] at hq
      simp only [hpn, go_sem, brS_dec, brS_beq, brS_bne, brK_dec, brK_beq, brK_bne, Nat.reduceLT, Nat.reduceLeDiff, Nat.reduceAdd, Nat.reduceMul, Nat.reduceSub, Nat.reduceEqDiff, Nat.reduceBEq, Nat.reduceDiv, reduceCtorEq, Int.reduceToNat]
      rw [szR_pos hq]
  · have hn : left - (xs.length : Int) < 0 := by omega
    have hle : xs.length ≤ wtL TFork.wt xs := wtL_len
    simp only [hl, hn, go_sem, brS_dec, brS_beq, brS_bne, brK_dec, brK_beq, brK_bne, Nat.reduceLT, Nat.reduceLeDiff, Nat.reduceAdd, Nat.reduceMul, Nat.reduceSub, Nat.reduceEqDiff, Nat.reduceBEq, Nat.reduceDiv, reduceCtorEq, Int.reduceToNat]
    rw [szR_neg (by omega)]
theorem szKnown (x : TKnown) (left : Int) (h0 : 0 ≤ left) (h1 : left ≤ 1048576) (hx : TKnown.fit x) : Sat Tryz.prog G 19 [.val true (TKnown.row none x), .val false [.v (.int .i64 left)]] (.val false [.v (.int .i64 (szR (TKnown.wt x) left))]) := by
  refine sat_of_go (L := tiOf Tryz.prog) (fun T ti h => h) false [[1, 2], [1, 2], [1, 2, 10], [4], [1], [1, 16], [4], [4]] mx Tryz.func19 (by decide) rfl (by show 2 ≤ Tryz.f19.ntmps; decide) ?_
  have hmx := maxLen_eq
  have hm1 : ((-1 : Int) < 0) := by decide
  have hw : TKnown.wt x = (wtL (wtL TSigned.wt) x.fChains) + (wtL TFork.wt x.fForks) := rfl
  simp only [go_sem, brS_dec, brS_beq, brS_bne, brK_dec, brK_beq, brK_bne, Nat.reduceLT, Nat.reduceLeDiff, Nat.reduceAdd, Nat.reduceMul, Nat.reduceSub, Nat.reduceEqDiff, Nat.reduceBEq, Nat.reduceDiv, reduceCtorEq, Int.reduceToNat]
  refine call_by (szSignedSS x.fChains left (by omega) (by omega) (hx.1)) rfl ?_
  by_cases hc0 : ((((wtL (wtL TSigned.wt) x.fChains)) : Nat) : Int) ≤ left
  · have hr0 : szR (wtL (wtL TSigned.wt) x.fChains) left = (left - ((wtL (wtL TSigned.wt) x.fChains) : Nat)) := by have h9 := szR_pos (n := (wtL (wtL TSigned.wt) x.fChains)) (left := left) (by omega); omega
    have hn0 : ¬ ((left - ((wtL (wtL TSigned.wt) x.fChains) : Nat)) < 0) := by omega
    simp only [hr0, hn0, go_sem, brS_dec, brS_beq, brS_bne, brK_dec, brK_beq, brK_bne, Nat.reduceLT, Nat.reduceLeDiff, Nat.reduceAdd, Nat.reduceMul, Nat.reduceSub, Nat.reduceEqDiff, Nat.reduceBEq, Nat.reduceDiv, reduceCtorEq, Int.reduceToNat]
    refine call_by (szForkS x.fForks (left - ((wtL (wtL TSigned.wt) x.fChains) : Nat)) (by omega) (by omega) (hx.2)) rfl ?_
    by_cases hc1 : ((((wtL (wtL TSigned.wt) x.fChains) + (wtL TFork.wt x.fForks)) : Nat) : Int) ≤ left
    · have hr1 : szR (wtL TFork.wt x.fForks) (left - ((wtL (wtL TSigned.wt) x.fChains) : Nat)) = (left - ((wtL (wtL TSigned.wt) x.fChains) + (wtL TFork.wt x.fForks) : Nat)) := by have h9 := szR_pos (n := (wtL TFork.wt x.fForks)) (left := (left - ((wtL (wtL TSigned.wt) x.fChains) : Nat))) (by omega); omega
      have hn1 : ¬ ((left - ((wtL (wtL TSigned.wt) x.fChains) + (wtL TFork.wt x.fForks) : Nat)) < 0) := by omega
      simp only [hr1, hn1, go_sem, brS_dec, brS_beq, brS_bne, brK_dec, brK_beq, brK_bne, Nat.reduceLT, Nat.reduceLeDiff, Nat.reduceAdd, Nat.reduceMul, Nat.reduceSub, Nat.reduceEqDiff, Nat.reduceBEq, Nat.reduceDiv, reduceCtorEq, Int.reduceToNat]
      rw [szR_pos (by omega), hw]
    · have hr1 : szR (wtL TFork.wt x.fForks) (left - ((wtL (wtL TSigned.wt) x.fChains) : Nat)) = -1 := szR_neg (by omega)
      simp only [hr1, hm1, go_sem, brS_dec, brS_beq, brS_bne, brK_dec, brK_beq, brK_bne, Nat.reduceLT, Nat.reduceLeDiff, Nat.reduceAdd, Nat.reduceMul, Nat.reduceSub, Nat.reduceEqDiff, Nat.reduceBEq, Nat.reduceDiv, reduceCtorEq, Int.reduceToNat]
      rw [szR_neg (by omega)]
  · have hr0 : szR (wtL (wtL TSigned.wt) x.fChains) left = -1 := szR_neg (by omega)
    simp only [hr0, hm1, go_sem, brS_dec, brS_beq, brS_bne, brK_dec, brK_beq, brK_bne, Nat.reduceLT, Nat.reduceLeDiff, Nat.reduceAdd, Nat.reduceMul, Nat.reduceSub, Nat.reduceEqDiff, Nat.reduceBEq, Nat.reduceDiv, reduceCtorEq, Int.reduceToNat]
    rw [szR_neg (by omega)]
theorem szZoneS (xs : List TZone) (left : Int) (h0 : 0 ≤ left) (h1 : left ≤ 1048576) (hx : fitL (TZone.fit) xs) : Sat Tryz.prog G 16 [.val false [.l none 2 (xs.map (TZone.row none))], .val false [.v (.int .i64 left)]] (.val false [.v (.int .i64 (szR (wtL TZone.wt xs) left))]) := by
  refine sat_of_go (L := tiOf Tryz.prog) (fun T ti h => h) false [[0, 1], [0, 1], [0, 1, 11], [4], [0, 1, 5], [0, 1, 5, 15], [0, 1, 5], [0, 1, 5], [0, 1, 5, 25], [4], [4]] mx Tryz.func16 (by decide) rfl (by show 2 ≤ Tryz.f16.ntmps; decide) ?_
  have hl := wrap_sub h0 h1 hx.1
  have hp0 := preL_zero TZone.wt xs
  have hpn := preL_all TZone.wt xs
  have hmx := maxLen_eq
  have hlx := hx.1
  by_cases hc : (xs.length : Int) ≤ left
  · have hn : ¬ (left - (xs.length : Int) < 0) := by omega
    simp only [hl, hn, go_sem, brS_dec, brS_beq, brS_bne, brK_dec, brK_beq, brK_bne, Nat.reduceLT, Nat.reduceLeDiff, Nat.reduceAdd, Nat.reduceMul, Nat.reduceSub, Nat.reduceEqDiff, Nat.reduceBEq, Nat.reduceDiv, reduceCtorEq, Int.reduceToNat]
    refine loop_n [0, 1, 5] xs.length (fun i => [(1, .val false [.v (.int .i64 (left - (preL TZone.wt xs i : Nat)))]), (5, .val false [.v (.int .i64 (i : Int))])]) (fun i => (preL TZone.wt xs i : Int) ≤ left) ?_ ?_ ?_ ?_
    · simp only [hp0, go_sem, brS_dec, brS_beq, brS_bne, brK_dec, brK_beq, brK_bne, Nat.reduceLT, Nat.reduceLeDiff, Nat.reduceAdd, Nat.reduceMul, Nat.reduceSub, Nat.reduceEqDiff, Nat.reduceBEq, Nat.reduceDiv, reduceCtorEq, Int.reduceToNat]
      try rfl
    · rw [hp0]; exact hc
    · intro i hi hq F hF
      have hlt : ((i : Int) < (xs.length : Int)) := by omega
      have hsu := preL_succ TZone.wt xs hi
      have hup := wrap_up (i := i) (by omega)
      simp only [hlt, map_getD (TZone.row none) xs hi, hup, go_sem, brS_dec, brS_beq, brS_bne, brK_dec, brK_beq, brK_bne, Nat.reduceLT, Nat.reduceLeDiff, Nat.reduceAdd, Nat.reduceMul, Nat.reduceSub, Nat.reduceEqDiff, Nat.reduceBEq, Nat.reduceDiv, reduceCtorEq, Int.reduceToNat]
      refine call_by (szZone (xs.getD i default) (left - (preL TZone.wt xs i : Nat)) (by omega) (by omega) (fitL_at hx hi default)) rfl ?_
      by_cases hc2 : (preL TZone.wt xs (i + 1) : Int) ≤ left
      · have hn2 : ¬ (left - (preL TZone.wt xs (i + 1) : Nat) < 0) := by omega
        have hr : szR (TZone.wt (xs.getD i default)) (left - (preL TZone.wt xs i : Nat)) = left - (preL TZone.wt xs (i + 1) : Nat) := by have h9 := szR_pos (n := (TZone.wt (xs.getD i default))) (left := left - (preL TZone.wt xs i : Nat)) (by omega); omega
        simp only [hr, hn2, hup, go_sem, brS_dec, brS_beq, brS_bne, brK_dec, brK_beq, brK_bne, Nat.reduceLT, Nat.reduceLeDiff, Nat.reduceAdd, Nat.reduceMul, Nat.reduceSub, Nat.reduceEqDiff, Nat.reduceBEq, Nat.reduceDiv, reduceCtorEq, Int.reduceToNat]
        refine hF _ ?_ hc2
        simp only [go_sem, brS_dec, brS_beq, brS_bne, brK_dec, brK_beq, brK_bne, Nat.reduceLT, Nat.reduceLeDiff, Nat.reduceAdd, Nat.reduceMul, Nat.reduceSub, Nat.reduceEqDiff, Nat.reduceBEq, Nat.reduceDiv, reduceCtorEq, Int.reduceToNat]
      · have hr : szR (TZone.wt (xs.getD i default)) (left - (preL TZone.wt xs i : Nat)) = -1 := szR_neg (by omega)
        have hle := preL_le TZone.wt xs (i + 1)
        have hm1 : ((-1 : Int) < 0) := by decide
        simp only [hr, hm1, hup, go_sem, brS_dec, brS_beq, brS_bne, brK_dec, brK_beq, brK_bne, Nat.reduceLT, Nat.reduceLeDiff, Nat.reduceAdd, Nat.reduceMul, Nat.reduceSub, Nat.reduceEqDiff, Nat.reduceBEq, Nat.reduceDiv, reduceCtorEq, Int.reduceToNat]
        rw [szR_neg (by omega)]
    · intro hq F
      rw [hpn] at hq
      simp only [hpn, go_sem, brS_dec, brS_beq, brS_bne, brK_dec, brK_beq, brK_bne, Nat.reduceLT, Nat.reduceLeDiff, Nat.reduceAdd, Nat.reduceMul, Nat.reduceSub, Nat.reduceEqDiff, Nat.reduceBEq, Nat.reduceDiv, reduceCtorEq, Int.reduceToNat]
      rw [szR_pos hq]
  · have hn : left - (xs.length : Int) < 0 := by omega
    have hle : xs.length ≤ wtL TZone.wt xs := wtL_len
    simp only [hl, hn, go_sem, brS_dec, brS_beq, brS_bne, brK_dec, brK_beq, brK_bne, Nat.reduceLT, Nat.reduceLeDiff, Nat.reduceAdd, Nat.reduceMul, Nat.reduceSub, Nat.reduceEqDiff, Nat.reduceBEq, Nat.reduceDiv, reduceCtorEq, Int.reduceToNat]
    rw [szR_neg (by omega)]
theorem szServer (x : TServer) (left : Int) (h0 : 0 ≤ left) (h1 : left ≤ 1048576) (hx : TServer.fit x) : Sat Tryz.prog G 52 [.val true (TServer.row none x), .val false [.v (.int .i64 left)]] (.val false [.v (.int .i64 (szR (TServer.wt x) left))]) := by
  refine sat_of_go (L := tiOf Tryz.prog) (fun T ti h => h) false [[1, 2], [1], [1, 10], [4], [4]] mx Tryz.func52 (by decide) rfl (by show 2 ≤ Tryz.f52.ntmps; decide) ?_
  have hmx := maxLen_eq
  have hm1 : ((-1 : Int) < 0) := by decide
  have hw : TServer.wt x = (wtL TZone.wt x.fZones) := rfl
  simp only [go_sem, brS_dec, brS_beq, brS_bne, brK_dec, brK_beq, brK_bne, Nat.reduceLT, Nat.reduceLeDiff, Nat.reduceAdd, Nat.reduceMul, Nat.reduceSub, Nat.reduceEqDiff, Nat.reduceBEq, Nat.reduceDiv, reduceCtorEq, Int.reduceToNat]
  refine call_by (szZoneS x.fZones left (by omega) (by omega) (hx.1)) rfl ?_
  by_cases hc0 : ((((wtL TZone.wt x.fZones)) : Nat) : Int) ≤ left
  · have hr0 : szR (wtL TZone.wt x.fZones) left = (left - ((wtL TZone.wt x.fZones) : Nat)) := by have h9 := szR_pos (n := (wtL TZone.wt x.fZones)) (left := left) (by omega); omega
    have hn0 : ¬ ((left - ((wtL TZone.wt x.fZones) : Nat)) < 0) := by omega
    simp only [hr0, hn0, go_sem, brS_dec, brS_beq, brS_bne, brK_dec, brK_beq, brK_bne, Nat.reduceLT, Nat.reduceLeDiff, Nat.reduceAdd, Nat.reduceMul, Nat.reduceSub, Nat.reduceEqDiff, Nat.reduceBEq, Nat.reduceDiv, reduceCtorEq, Int.reduceToNat]
    rw [szR_pos (by omega), hw]
  · have hr0 : szR (wtL TZone.wt x.fZones) left = -1 := szR_neg (by omega)
    simp only [hr0, hm1, go_sem, brS_dec, brS_beq, brS_bne, brK_dec, brK_beq, brK_bne, Nat.reduceLT, Nat.reduceLeDiff, Nat.reduceAdd, Nat.reduceMul, Nat.reduceSub, Nat.reduceEqDiff, Nat.reduceBEq, Nat.reduceDiv, reduceCtorEq, Int.reduceToNat]
    rw [szR_neg (by omega)]
theorem szStored (x : TStored) (left : Int) (h0 : 0 ≤ left) (h1 : left ≤ 1048576) (hx : TStored.fit x) : Sat Tryz.prog G 89 [.val true (TStored.row none x), .val false [.v (.int .i64 left)]] (.val false [.v (.int .i64 (szR (TStored.wt x) left))]) := by
  refine sat_of_go (L := tiOf Tryz.prog) (fun T ti h => h) false [[1, 2], [1, 2], [1, 2, 11], [4], [1], [1, 17], [4], [4]] mx Tryz.func89 (by decide) rfl (by show 2 ≤ Tryz.f89.ntmps; decide) ?_
  have hmx := maxLen_eq
  have hm1 : ((-1 : Int) < 0) := by decide
  have hw : TStored.wt x = (x.fLabel.length) + (TAnswer.wt x.fAnswer) := rfl
  have hl0 := wrap_sub (left := left) (n := x.fLabel.length) (by omega) (by omega) (hx.2.1)
  have hl0 := hl0.trans (show left - (x.fLabel.length : Int) = (left - ((x.fLabel.length) : Nat)) by omega)
  by_cases hc0 : ((((x.fLabel.length)) : Nat) : Int) ≤ left
  · have hn0 : ¬ ((left - ((x.fLabel.length) : Nat)) < 0) := by omega
    simp only [hl0, hn0, go_sem, brS_dec, brS_beq, brS_bne, brK_dec, brK_beq, brK_bne, Nat.reduceLT, Nat.reduceLeDiff, Nat.reduceAdd, Nat.reduceMul, Nat.reduceSub, Nat.reduceEqDiff, Nat.reduceBEq, Nat.reduceDiv, reduceCtorEq, Int.reduceToNat]
    refine call_by (szAnswer x.fAnswer (left - ((x.fLabel.length) : Nat)) (by omega) (by omega) (hx.2.2)) rfl ?_
    by_cases hc1 : ((((x.fLabel.length) + (TAnswer.wt x.fAnswer)) : Nat) : Int) ≤ left
    · have hr1 : szR (TAnswer.wt x.fAnswer) (left - ((x.fLabel.length) : Nat)) = (left - ((x.fLabel.length) + (TAnswer.wt x.fAnswer) : Nat)) := by have h9 := szR_pos (n := (TAnswer.wt x.fAnswer)) (left := (left - ((x.fLabel.length) : Nat))) (by omega); omega
      have hn1 : ¬ ((left - ((x.fLabel.length) + (TAnswer.wt x.fAnswer) : Nat)) < 0) := by omega
      simp only [hr1, hn1, go_sem, brS_dec, brS_beq, brS_bne, brK_dec, brK_beq, brK_bne, Nat.reduceLT, Nat.reduceLeDiff, Nat.reduceAdd, Nat.reduceMul, Nat.reduceSub, Nat.reduceEqDiff, Nat.reduceBEq, Nat.reduceDiv, reduceCtorEq, Int.reduceToNat]
      rw [szR_pos (by omega), hw]
    · have hr1 : szR (TAnswer.wt x.fAnswer) (left - ((x.fLabel.length) : Nat)) = -1 := szR_neg (by omega)
      simp only [hr1, hm1, go_sem, brS_dec, brS_beq, brS_bne, brK_dec, brK_beq, brK_bne, Nat.reduceLT, Nat.reduceLeDiff, Nat.reduceAdd, Nat.reduceMul, Nat.reduceSub, Nat.reduceEqDiff, Nat.reduceBEq, Nat.reduceDiv, reduceCtorEq, Int.reduceToNat]
      rw [szR_neg (by omega)]
  · have hn0 : (left - ((x.fLabel.length) : Nat)) < 0 := by omega
    simp only [hl0, hn0, go_sem, brS_dec, brS_beq, brS_bne, brK_dec, brK_beq, brK_bne, Nat.reduceLT, Nat.reduceLeDiff, Nat.reduceAdd, Nat.reduceMul, Nat.reduceSub, Nat.reduceEqDiff, Nat.reduceBEq, Nat.reduceDiv, reduceCtorEq, Int.reduceToNat]
    rw [szR_neg (by omega)]
theorem szStoredS (xs : List TStored) (left : Int) (h0 : 0 ≤ left) (h1 : left ≤ 1048576) (hx : fitL (TStored.fit) xs) : Sat Tryz.prog G 55 [.val false [.l none 23 (xs.map (TStored.row none))], .val false [.v (.int .i64 left)]] (.val false [.v (.int .i64 (szR (wtL TStored.wt xs) left))]) := by
  refine sat_of_go (L := tiOf Tryz.prog) (fun T ti h => h) false [[0, 1], [0, 1], [0, 1, 11], [4], [0, 1, 5], [0, 1, 5, 15], [0, 1, 5], [0, 1, 5], [0, 1, 5, 25], [4], [4]] mx Tryz.func55 (by decide) rfl (by show 2 ≤ Tryz.f55.ntmps; decide) ?_
  have hl := wrap_sub h0 h1 hx.1
  have hp0 := preL_zero TStored.wt xs
  have hpn := preL_all TStored.wt xs
  have hmx := maxLen_eq
  have hlx := hx.1
  by_cases hc : (xs.length : Int) ≤ left
  · have hn : ¬ (left - (xs.length : Int) < 0) := by omega
    simp only [hl, hn, go_sem, brS_dec, brS_beq, brS_bne, brK_dec, brK_beq, brK_bne, Nat.reduceLT, Nat.reduceLeDiff, Nat.reduceAdd, Nat.reduceMul, Nat.reduceSub, Nat.reduceEqDiff, Nat.reduceBEq, Nat.reduceDiv, reduceCtorEq, Int.reduceToNat]
    refine loop_n [0, 1, 5] xs.length (fun i => [(1, .val false [.v (.int .i64 (left - (preL TStored.wt xs i : Nat)))]), (5, .val false [.v (.int .i64 (i : Int))])]) (fun i => (preL TStored.wt xs i : Int) ≤ left) ?_ ?_ ?_ ?_
    · simp only [hp0, go_sem, brS_dec, brS_beq, brS_bne, brK_dec, brK_beq, brK_bne, Nat.reduceLT, Nat.reduceLeDiff, Nat.reduceAdd, Nat.reduceMul, Nat.reduceSub, Nat.reduceEqDiff, Nat.reduceBEq, Nat.reduceDiv, reduceCtorEq, Int.reduceToNat]
      try rfl
    · rw [hp0]; exact hc
    · intro i hi hq F hF
      have hlt : ((i : Int) < (xs.length : Int)) := by omega
      have hsu := preL_succ TStored.wt xs hi
      have hup := wrap_up (i := i) (by omega)
      simp only [hlt, map_getD (TStored.row none) xs hi, hup, go_sem, brS_dec, brS_beq, brS_bne, brK_dec, brK_beq, brK_bne, Nat.reduceLT, Nat.reduceLeDiff, Nat.reduceAdd, Nat.reduceMul, Nat.reduceSub, Nat.reduceEqDiff, Nat.reduceBEq, Nat.reduceDiv, reduceCtorEq, Int.reduceToNat]
      refine call_by (szStored (xs.getD i default) (left - (preL TStored.wt xs i : Nat)) (by omega) (by omega) (fitL_at hx hi default)) rfl ?_
      by_cases hc2 : (preL TStored.wt xs (i + 1) : Int) ≤ left
      · have hn2 : ¬ (left - (preL TStored.wt xs (i + 1) : Nat) < 0) := by omega
        have hr : szR (TStored.wt (xs.getD i default)) (left - (preL TStored.wt xs i : Nat)) = left - (preL TStored.wt xs (i + 1) : Nat) := by have h9 := szR_pos (n := (TStored.wt (xs.getD i default))) (left := left - (preL TStored.wt xs i : Nat)) (by omega); omega
        simp only [hr, hn2, hup, go_sem, brS_dec, brS_beq, brS_bne, brK_dec, brK_beq, brK_bne, Nat.reduceLT, Nat.reduceLeDiff, Nat.reduceAdd, Nat.reduceMul, Nat.reduceSub, Nat.reduceEqDiff, Nat.reduceBEq, Nat.reduceDiv, reduceCtorEq, Int.reduceToNat]
        refine hF _ ?_ hc2
        simp only [go_sem, brS_dec, brS_beq, brS_bne, brK_dec, brK_beq, brK_bne, Nat.reduceLT, Nat.reduceLeDiff, Nat.reduceAdd, Nat.reduceMul, Nat.reduceSub, Nat.reduceEqDiff, Nat.reduceBEq, Nat.reduceDiv, reduceCtorEq, Int.reduceToNat]
      · have hr : szR (TStored.wt (xs.getD i default)) (left - (preL TStored.wt xs i : Nat)) = -1 := szR_neg (by omega)
        have hle := preL_le TStored.wt xs (i + 1)
        have hm1 : ((-1 : Int) < 0) := by decide
        simp only [hr, hm1, hup, go_sem, brS_dec, brS_beq, brS_bne, brK_dec, brK_beq, brK_bne, Nat.reduceLT, Nat.reduceLeDiff, Nat.reduceAdd, Nat.reduceMul, Nat.reduceSub, Nat.reduceEqDiff, Nat.reduceBEq, Nat.reduceDiv, reduceCtorEq, Int.reduceToNat]
        rw [szR_neg (by omega)]
    · intro hq F
      rw [hpn] at hq
      simp only [hpn, go_sem, brS_dec, brS_beq, brS_bne, brK_dec, brK_beq, brK_bne, Nat.reduceLT, Nat.reduceLeDiff, Nat.reduceAdd, Nat.reduceMul, Nat.reduceSub, Nat.reduceEqDiff, Nat.reduceBEq, Nat.reduceDiv, reduceCtorEq, Int.reduceToNat]
      rw [szR_pos hq]
  · have hn : left - (xs.length : Int) < 0 := by omega
    have hle : xs.length ≤ wtL TStored.wt xs := wtL_len
    simp only [hl, hn, go_sem, brS_dec, brS_beq, brS_bne, brK_dec, brK_beq, brK_bne, Nat.reduceLT, Nat.reduceLeDiff, Nat.reduceAdd, Nat.reduceMul, Nat.reduceSub, Nat.reduceEqDiff, Nat.reduceBEq, Nat.reduceDiv, reduceCtorEq, Int.reduceToNat]
    rw [szR_neg (by omega)]
theorem szCache (x : TCache) (left : Int) (h0 : 0 ≤ left) (h1 : left ≤ 1048576) (hx : TCache.fit x) : Sat Tryz.prog G 20 [.val true (TCache.row none x), .val false [.v (.int .i64 left)]] (.val false [.v (.int .i64 (szR (TCache.wt x) left))]) := by
  refine sat_of_go (L := tiOf Tryz.prog) (fun T ti h => h) false [[1, 2], [1], [1, 10], [4], [4]] mx Tryz.func20 (by decide) rfl (by show 2 ≤ Tryz.f20.ntmps; decide) ?_
  have hmx := maxLen_eq
  have hm1 : ((-1 : Int) < 0) := by decide
  have hw : TCache.wt x = (wtL TStored.wt x.fList) := rfl
  simp only [go_sem, brS_dec, brS_beq, brS_bne, brK_dec, brK_beq, brK_bne, Nat.reduceLT, Nat.reduceLeDiff, Nat.reduceAdd, Nat.reduceMul, Nat.reduceSub, Nat.reduceEqDiff, Nat.reduceBEq, Nat.reduceDiv, reduceCtorEq, Int.reduceToNat]
  refine call_by (szStoredS x.fList left (by omega) (by omega) (hx)) rfl ?_
  by_cases hc0 : ((((wtL TStored.wt x.fList)) : Nat) : Int) ≤ left
  · have hr0 : szR (wtL TStored.wt x.fList) left = (left - ((wtL TStored.wt x.fList) : Nat)) := by have h9 := szR_pos (n := (wtL TStored.wt x.fList)) (left := left) (by omega); omega
    have hn0 : ¬ ((left - ((wtL TStored.wt x.fList) : Nat)) < 0) := by omega
    simp only [hr0, hn0, go_sem, brS_dec, brS_beq, brS_bne, brK_dec, brK_beq, brK_bne, Nat.reduceLT, Nat.reduceLeDiff, Nat.reduceAdd, Nat.reduceMul, Nat.reduceSub, Nat.reduceEqDiff, Nat.reduceBEq, Nat.reduceDiv, reduceCtorEq, Int.reduceToNat]
    rw [szR_pos (by omega), hw]
  · have hr0 : szR (wtL TStored.wt x.fList) left = -1 := szR_neg (by omega)
    simp only [hr0, hm1, go_sem, brS_dec, brS_beq, brS_bne, brK_dec, brK_beq, brK_bne, Nat.reduceLT, Nat.reduceLeDiff, Nat.reduceAdd, Nat.reduceMul, Nat.reduceSub, Nat.reduceEqDiff, Nat.reduceBEq, Nat.reduceDiv, reduceCtorEq, Int.reduceToNat]
    rw [szR_neg (by omega)]
theorem szActor (x : TActor) (left : Int) (h0 : 0 ≤ left) (h1 : left ≤ 1048576) (hx : TActor.fit x) : Sat Tryz.prog G 50 [.val true (TActor.row none x), .val false [.v (.int .i64 left)]] (.val false [.v (.int .i64 (szR (TActor.wt x) left))]) := by
  refine sat_of_go (L := tiOf Tryz.prog) (fun T ti h => h) false [[1, 2], [1], [1, 10], [4], [4]] mx Tryz.func50 (by decide) rfl (by show 2 ≤ Tryz.f50.ntmps; decide) ?_
  have hmx := maxLen_eq
  have hm1 : ((-1 : Int) < 0) := by decide
  have hw : TActor.wt x = (x.fHeld.length) := rfl
  simp only [go_sem, brS_dec, brS_beq, brS_bne, brK_dec, brK_beq, brK_bne, Nat.reduceLT, Nat.reduceLeDiff, Nat.reduceAdd, Nat.reduceMul, Nat.reduceSub, Nat.reduceEqDiff, Nat.reduceBEq, Nat.reduceDiv, reduceCtorEq, Int.reduceToNat]
  refine call_by (szIntS x.fHeld left (by omega) (by omega) (hx)) rfl ?_
  by_cases hc0 : ((((x.fHeld.length)) : Nat) : Int) ≤ left
  · have hr0 : szR (x.fHeld.length) left = (left - ((x.fHeld.length) : Nat)) := by have h9 := szR_pos (n := (x.fHeld.length)) (left := left) (by omega); omega
    have hn0 : ¬ ((left - ((x.fHeld.length) : Nat)) < 0) := by omega
    simp only [hr0, hn0, go_sem, brS_dec, brS_beq, brS_bne, brK_dec, brK_beq, brK_bne, Nat.reduceLT, Nat.reduceLeDiff, Nat.reduceAdd, Nat.reduceMul, Nat.reduceSub, Nat.reduceEqDiff, Nat.reduceBEq, Nat.reduceDiv, reduceCtorEq, Int.reduceToNat]
    rw [szR_pos (by omega), hw]
  · have hr0 : szR (x.fHeld.length) left = -1 := szR_neg (by omega)
    simp only [hr0, hm1, go_sem, brS_dec, brS_beq, brS_bne, brK_dec, brK_beq, brK_bne, Nat.reduceLT, Nat.reduceLeDiff, Nat.reduceAdd, Nat.reduceMul, Nat.reduceSub, Nat.reduceEqDiff, Nat.reduceBEq, Nat.reduceDiv, reduceCtorEq, Int.reduceToNat]
    rw [szR_neg (by omega)]
theorem szSaid (x : TSaid) (left : Int) (h0 : 0 ≤ left) (h1 : left ≤ 1048576) (hx : TSaid.fit x) : Sat Tryz.prog G 51 [.val true (TSaid.row none x), .val false [.v (.int .i64 left)]] (.val false [.v (.int .i64 (szR (TSaid.wt x) left))]) := by
  refine sat_of_go (L := tiOf Tryz.prog) (fun T ti h => h) false [[1, 2], [1, 2], [1, 2, 10], [4], [1], [1, 16], [4], [4]] mx Tryz.func51 (by decide) rfl (by show 2 ≤ Tryz.f51.ntmps; decide) ?_
  have hmx := maxLen_eq
  have hm1 : ((-1 : Int) < 0) := by decide
  have hw : TSaid.wt x = (TZone.wt x.fZone) + (x.fHeld.length) := rfl
  simp only [go_sem, brS_dec, brS_beq, brS_bne, brK_dec, brK_beq, brK_bne, Nat.reduceLT, Nat.reduceLeDiff, Nat.reduceAdd, Nat.reduceMul, Nat.reduceSub, Nat.reduceEqDiff, Nat.reduceBEq, Nat.reduceDiv, reduceCtorEq, Int.reduceToNat]
  refine call_by (szZone x.fZone left (by omega) (by omega) (hx.1)) rfl ?_
  by_cases hc0 : ((((TZone.wt x.fZone)) : Nat) : Int) ≤ left
  · have hr0 : szR (TZone.wt x.fZone) left = (left - ((TZone.wt x.fZone) : Nat)) := by have h9 := szR_pos (n := (TZone.wt x.fZone)) (left := left) (by omega); omega
    have hn0 : ¬ ((left - ((TZone.wt x.fZone) : Nat)) < 0) := by omega
    simp only [hr0, hn0, go_sem, brS_dec, brS_beq, brS_bne, brK_dec, brK_beq, brK_bne, Nat.reduceLT, Nat.reduceLeDiff, Nat.reduceAdd, Nat.reduceMul, Nat.reduceSub, Nat.reduceEqDiff, Nat.reduceBEq, Nat.reduceDiv, reduceCtorEq, Int.reduceToNat]
    refine call_by (szIntS x.fHeld (left - ((TZone.wt x.fZone) : Nat)) (by omega) (by omega) (hx.2)) rfl ?_
    by_cases hc1 : ((((TZone.wt x.fZone) + (x.fHeld.length)) : Nat) : Int) ≤ left
    · have hr1 : szR (x.fHeld.length) (left - ((TZone.wt x.fZone) : Nat)) = (left - ((TZone.wt x.fZone) + (x.fHeld.length) : Nat)) := by have h9 := szR_pos (n := (x.fHeld.length)) (left := (left - ((TZone.wt x.fZone) : Nat))) (by omega); omega
      have hn1 : ¬ ((left - ((TZone.wt x.fZone) + (x.fHeld.length) : Nat)) < 0) := by omega
      simp only [hr1, hn1, go_sem, brS_dec, brS_beq, brS_bne, brK_dec, brK_beq, brK_bne, Nat.reduceLT, Nat.reduceLeDiff, Nat.reduceAdd, Nat.reduceMul, Nat.reduceSub, Nat.reduceEqDiff, Nat.reduceBEq, Nat.reduceDiv, reduceCtorEq, Int.reduceToNat]
      rw [szR_pos (by omega), hw]
    · have hr1 : szR (x.fHeld.length) (left - ((TZone.wt x.fZone) : Nat)) = -1 := szR_neg (by omega)
      simp only [hr1, hm1, go_sem, brS_dec, brS_beq, brS_bne, brK_dec, brK_beq, brK_bne, Nat.reduceLT, Nat.reduceLeDiff, Nat.reduceAdd, Nat.reduceMul, Nat.reduceSub, Nat.reduceEqDiff, Nat.reduceBEq, Nat.reduceDiv, reduceCtorEq, Int.reduceToNat]
      rw [szR_neg (by omega)]
  · have hr0 : szR (TZone.wt x.fZone) left = -1 := szR_neg (by omega)
    simp only [hr0, hm1, go_sem, brS_dec, brS_beq, brS_bne, brK_dec, brK_beq, brK_bne, Nat.reduceLT, Nat.reduceLeDiff, Nat.reduceAdd, Nat.reduceMul, Nat.reduceSub, Nat.reduceEqDiff, Nat.reduceBEq, Nat.reduceDiv, reduceCtorEq, Int.reduceToNat]
    rw [szR_neg (by omega)]
theorem szActorS (xs : List TActor) (left : Int) (h0 : 0 ≤ left) (h1 : left ≤ 1048576) (hx : fitL (TActor.fit) xs) : Sat Tryz.prog G 15 [.val false [.l none 1 (xs.map (TActor.row none))], .val false [.v (.int .i64 left)]] (.val false [.v (.int .i64 (szR (wtL TActor.wt xs) left))]) := by
  refine sat_of_go (L := tiOf Tryz.prog) (fun T ti h => h) false [[0, 1], [0, 1], [0, 1, 11], [4], [0, 1, 5], [0, 1, 5, 15], [0, 1, 5], [0, 1, 5], [0, 1, 5, 25], [4], [4]] mx Tryz.func15 (by decide) rfl (by show 2 ≤ Tryz.f15.ntmps; decide) ?_
  have hl := wrap_sub h0 h1 hx.1
  have hp0 := preL_zero TActor.wt xs
  have hpn := preL_all TActor.wt xs
  have hmx := maxLen_eq
  have hlx := hx.1
  by_cases hc : (xs.length : Int) ≤ left
  · have hn : ¬ (left - (xs.length : Int) < 0) := by omega
    simp only [hl, hn, go_sem, brS_dec, brS_beq, brS_bne, brK_dec, brK_beq, brK_bne, Nat.reduceLT, Nat.reduceLeDiff, Nat.reduceAdd, Nat.reduceMul, Nat.reduceSub, Nat.reduceEqDiff, Nat.reduceBEq, Nat.reduceDiv, reduceCtorEq, Int.reduceToNat]
    refine loop_n [0, 1, 5] xs.length (fun i => [(1, .val false [.v (.int .i64 (left - (preL TActor.wt xs i : Nat)))]), (5, .val false [.v (.int .i64 (i : Int))])]) (fun i => (preL TActor.wt xs i : Int) ≤ left) ?_ ?_ ?_ ?_
    · simp only [hp0, go_sem, brS_dec, brS_beq, brS_bne, brK_dec, brK_beq, brK_bne, Nat.reduceLT, Nat.reduceLeDiff, Nat.reduceAdd, Nat.reduceMul, Nat.reduceSub, Nat.reduceEqDiff, Nat.reduceBEq, Nat.reduceDiv, reduceCtorEq, Int.reduceToNat]
      try rfl
    · rw [hp0]; exact hc
    · intro i hi hq F hF
      have hlt : ((i : Int) < (xs.length : Int)) := by omega
      have hsu := preL_succ TActor.wt xs hi
      have hup := wrap_up (i := i) (by omega)
      simp only [hlt, map_getD (TActor.row none) xs hi, hup, go_sem, brS_dec, brS_beq, brS_bne, brK_dec, brK_beq, brK_bne, Nat.reduceLT, Nat.reduceLeDiff, Nat.reduceAdd, Nat.reduceMul, Nat.reduceSub, Nat.reduceEqDiff, Nat.reduceBEq, Nat.reduceDiv, reduceCtorEq, Int.reduceToNat]
      refine call_by (szActor (xs.getD i default) (left - (preL TActor.wt xs i : Nat)) (by omega) (by omega) (fitL_at hx hi default)) rfl ?_
      by_cases hc2 : (preL TActor.wt xs (i + 1) : Int) ≤ left
      · have hn2 : ¬ (left - (preL TActor.wt xs (i + 1) : Nat) < 0) := by omega
        have hr : szR (TActor.wt (xs.getD i default)) (left - (preL TActor.wt xs i : Nat)) = left - (preL TActor.wt xs (i + 1) : Nat) := by have h9 := szR_pos (n := (TActor.wt (xs.getD i default))) (left := left - (preL TActor.wt xs i : Nat)) (by omega); omega
        simp only [hr, hn2, hup, go_sem, brS_dec, brS_beq, brS_bne, brK_dec, brK_beq, brK_bne, Nat.reduceLT, Nat.reduceLeDiff, Nat.reduceAdd, Nat.reduceMul, Nat.reduceSub, Nat.reduceEqDiff, Nat.reduceBEq, Nat.reduceDiv, reduceCtorEq, Int.reduceToNat]
        refine hF _ ?_ hc2
        simp only [go_sem, brS_dec, brS_beq, brS_bne, brK_dec, brK_beq, brK_bne, Nat.reduceLT, Nat.reduceLeDiff, Nat.reduceAdd, Nat.reduceMul, Nat.reduceSub, Nat.reduceEqDiff, Nat.reduceBEq, Nat.reduceDiv, reduceCtorEq, Int.reduceToNat]
      · have hr : szR (TActor.wt (xs.getD i default)) (left - (preL TActor.wt xs i : Nat)) = -1 := szR_neg (by omega)
        have hle := preL_le TActor.wt xs (i + 1)
        have hm1 : ((-1 : Int) < 0) := by decide
        simp only [hr, hm1, hup, go_sem, brS_dec, brS_beq, brS_bne, brK_dec, brK_beq, brK_bne, Nat.reduceLT, Nat.reduceLeDiff, Nat.reduceAdd, Nat.reduceMul, Nat.reduceSub, Nat.reduceEqDiff, Nat.reduceBEq, Nat.reduceDiv, reduceCtorEq, Int.reduceToNat]
        rw [szR_neg (by omega)]
    · intro hq F
      rw [hpn] at hq
      simp only [hpn, go_sem, brS_dec, brS_beq, brS_bne, brK_dec, brK_beq, brK_bne, Nat.reduceLT, Nat.reduceLeDiff, Nat.reduceAdd, Nat.reduceMul, Nat.reduceSub, Nat.reduceEqDiff, Nat.reduceBEq, Nat.reduceDiv, reduceCtorEq, Int.reduceToNat]
      rw [szR_pos hq]
  · have hn : left - (xs.length : Int) < 0 := by omega
    have hle : xs.length ≤ wtL TActor.wt xs := wtL_len
    simp only [hl, hn, go_sem, brS_dec, brS_beq, brS_bne, brK_dec, brK_beq, brK_bne, Nat.reduceLT, Nat.reduceLeDiff, Nat.reduceAdd, Nat.reduceMul, Nat.reduceSub, Nat.reduceEqDiff, Nat.reduceBEq, Nat.reduceDiv, reduceCtorEq, Int.reduceToNat]
    rw [szR_neg (by omega)]
theorem szSaidS (xs : List TSaid) (left : Int) (h0 : 0 ≤ left) (h1 : left ≤ 1048576) (hx : fitL (TSaid.fit) xs) : Sat Tryz.prog G 17 [.val false [.l none 3 (xs.map (TSaid.row none))], .val false [.v (.int .i64 left)]] (.val false [.v (.int .i64 (szR (wtL TSaid.wt xs) left))]) := by
  refine sat_of_go (L := tiOf Tryz.prog) (fun T ti h => h) false [[0, 1], [0, 1], [0, 1, 11], [4], [0, 1, 5], [0, 1, 5, 15], [0, 1, 5], [0, 1, 5], [0, 1, 5, 25], [4], [4]] mx Tryz.func17 (by decide) rfl (by show 2 ≤ Tryz.f17.ntmps; decide) ?_
  have hl := wrap_sub h0 h1 hx.1
  have hp0 := preL_zero TSaid.wt xs
  have hpn := preL_all TSaid.wt xs
  have hmx := maxLen_eq
  have hlx := hx.1
  by_cases hc : (xs.length : Int) ≤ left
  · have hn : ¬ (left - (xs.length : Int) < 0) := by omega
    simp only [hl, hn, go_sem, brS_dec, brS_beq, brS_bne, brK_dec, brK_beq, brK_bne, Nat.reduceLT, Nat.reduceLeDiff, Nat.reduceAdd, Nat.reduceMul, Nat.reduceSub, Nat.reduceEqDiff, Nat.reduceBEq, Nat.reduceDiv, reduceCtorEq, Int.reduceToNat]
    refine loop_n [0, 1, 5] xs.length (fun i => [(1, .val false [.v (.int .i64 (left - (preL TSaid.wt xs i : Nat)))]), (5, .val false [.v (.int .i64 (i : Int))])]) (fun i => (preL TSaid.wt xs i : Int) ≤ left) ?_ ?_ ?_ ?_
    · simp only [hp0, go_sem, brS_dec, brS_beq, brS_bne, brK_dec, brK_beq, brK_bne, Nat.reduceLT, Nat.reduceLeDiff, Nat.reduceAdd, Nat.reduceMul, Nat.reduceSub, Nat.reduceEqDiff, Nat.reduceBEq, Nat.reduceDiv, reduceCtorEq, Int.reduceToNat]
      try rfl
    · rw [hp0]; exact hc
    · intro i hi hq F hF
      have hlt : ((i : Int) < (xs.length : Int)) := by omega
      have hsu := preL_succ TSaid.wt xs hi
      have hup := wrap_up (i := i) (by omega)
      simp only [hlt, map_getD (TSaid.row none) xs hi, hup, go_sem, brS_dec, brS_beq, brS_bne, brK_dec, brK_beq, brK_bne, Nat.reduceLT, Nat.reduceLeDiff, Nat.reduceAdd, Nat.reduceMul, Nat.reduceSub, Nat.reduceEqDiff, Nat.reduceBEq, Nat.reduceDiv, reduceCtorEq, Int.reduceToNat]
      refine call_by (szSaid (xs.getD i default) (left - (preL TSaid.wt xs i : Nat)) (by omega) (by omega) (fitL_at hx hi default)) rfl ?_
      by_cases hc2 : (preL TSaid.wt xs (i + 1) : Int) ≤ left
      · have hn2 : ¬ (left - (preL TSaid.wt xs (i + 1) : Nat) < 0) := by omega
        have hr : szR (TSaid.wt (xs.getD i default)) (left - (preL TSaid.wt xs i : Nat)) = left - (preL TSaid.wt xs (i + 1) : Nat) := by have h9 := szR_pos (n := (TSaid.wt (xs.getD i default))) (left := left - (preL TSaid.wt xs i : Nat)) (by omega); omega
        simp only [hr, hn2, hup, go_sem, brS_dec, brS_beq, brS_bne, brK_dec, brK_beq, brK_bne, Nat.reduceLT, Nat.reduceLeDiff, Nat.reduceAdd, Nat.reduceMul, Nat.reduceSub, Nat.reduceEqDiff, Nat.reduceBEq, Nat.reduceDiv, reduceCtorEq, Int.reduceToNat]
        refine hF _ ?_ hc2
        simp only [go_sem, brS_dec, brS_beq, brS_bne, brK_dec, brK_beq, brK_bne, Nat.reduceLT, Nat.reduceLeDiff, Nat.reduceAdd, Nat.reduceMul, Nat.reduceSub, Nat.reduceEqDiff, Nat.reduceBEq, Nat.reduceDiv, reduceCtorEq, Int.reduceToNat]
      · have hr : szR (TSaid.wt (xs.getD i default)) (left - (preL TSaid.wt xs i : Nat)) = -1 := szR_neg (by omega)
        have hle := preL_le TSaid.wt xs (i + 1)
        have hm1 : ((-1 : Int) < 0) := by decide
        simp only [hr, hm1, hup, go_sem, brS_dec, brS_beq, brS_bne, brK_dec, brK_beq, brK_bne, Nat.reduceLT, Nat.reduceLeDiff, Nat.reduceAdd, Nat.reduceMul, Nat.reduceSub, Nat.reduceEqDiff, Nat.reduceBEq, Nat.reduceDiv, reduceCtorEq, Int.reduceToNat]
        rw [szR_neg (by omega)]
    · intro hq F
      rw [hpn] at hq
      simp only [hpn, go_sem, brS_dec, brS_beq, brS_bne, brK_dec, brK_beq, brK_bne, Nat.reduceLT, Nat.reduceLeDiff, Nat.reduceAdd, Nat.reduceMul, Nat.reduceSub, Nat.reduceEqDiff, Nat.reduceBEq, Nat.reduceDiv, reduceCtorEq, Int.reduceToNat]
      rw [szR_pos hq]
  · have hn : left - (xs.length : Int) < 0 := by omega
    have hle : xs.length ≤ wtL TSaid.wt xs := wtL_len
    simp only [hl, hn, go_sem, brS_dec, brS_beq, brS_bne, brK_dec, brK_beq, brK_bne, Nat.reduceLT, Nat.reduceLeDiff, Nat.reduceAdd, Nat.reduceMul, Nat.reduceSub, Nat.reduceEqDiff, Nat.reduceBEq, Nat.reduceDiv, reduceCtorEq, Int.reduceToNat]
    rw [szR_neg (by omega)]
theorem szServerS (xs : List TServer) (left : Int) (h0 : 0 ≤ left) (h1 : left ≤ 1048576) (hx : fitL (TServer.fit) xs) : Sat Tryz.prog G 18 [.val false [.l none 2 (xs.map (TServer.row none))], .val false [.v (.int .i64 left)]] (.val false [.v (.int .i64 (szR (wtL TServer.wt xs) left))]) := by
  refine sat_of_go (L := tiOf Tryz.prog) (fun T ti h => h) false [[0, 1], [0, 1], [0, 1, 11], [4], [0, 1, 5], [0, 1, 5, 15], [0, 1, 5], [0, 1, 5], [0, 1, 5, 25], [4], [4]] mx Tryz.func18 (by decide) rfl (by show 2 ≤ Tryz.f18.ntmps; decide) ?_
  have hl := wrap_sub h0 h1 hx.1
  have hp0 := preL_zero TServer.wt xs
  have hpn := preL_all TServer.wt xs
  have hmx := maxLen_eq
  have hlx := hx.1
  by_cases hc : (xs.length : Int) ≤ left
  · have hn : ¬ (left - (xs.length : Int) < 0) := by omega
    simp only [hl, hn, go_sem, brS_dec, brS_beq, brS_bne, brK_dec, brK_beq, brK_bne, Nat.reduceLT, Nat.reduceLeDiff, Nat.reduceAdd, Nat.reduceMul, Nat.reduceSub, Nat.reduceEqDiff, Nat.reduceBEq, Nat.reduceDiv, reduceCtorEq, Int.reduceToNat]
    refine loop_n [0, 1, 5] xs.length (fun i => [(1, .val false [.v (.int .i64 (left - (preL TServer.wt xs i : Nat)))]), (5, .val false [.v (.int .i64 (i : Int))])]) (fun i => (preL TServer.wt xs i : Int) ≤ left) ?_ ?_ ?_ ?_
    · simp only [hp0, go_sem, brS_dec, brS_beq, brS_bne, brK_dec, brK_beq, brK_bne, Nat.reduceLT, Nat.reduceLeDiff, Nat.reduceAdd, Nat.reduceMul, Nat.reduceSub, Nat.reduceEqDiff, Nat.reduceBEq, Nat.reduceDiv, reduceCtorEq, Int.reduceToNat]
      try rfl
    · rw [hp0]; exact hc
    · intro i hi hq F hF
      have hlt : ((i : Int) < (xs.length : Int)) := by omega
      have hsu := preL_succ TServer.wt xs hi
      have hup := wrap_up (i := i) (by omega)
      simp only [hlt, map_getD (TServer.row none) xs hi, hup, go_sem, brS_dec, brS_beq, brS_bne, brK_dec, brK_beq, brK_bne, Nat.reduceLT, Nat.reduceLeDiff, Nat.reduceAdd, Nat.reduceMul, Nat.reduceSub, Nat.reduceEqDiff, Nat.reduceBEq, Nat.reduceDiv, reduceCtorEq, Int.reduceToNat]
      refine call_by (szServer (xs.getD i default) (left - (preL TServer.wt xs i : Nat)) (by omega) (by omega) (fitL_at hx hi default)) rfl ?_
      by_cases hc2 : (preL TServer.wt xs (i + 1) : Int) ≤ left
      · have hn2 : ¬ (left - (preL TServer.wt xs (i + 1) : Nat) < 0) := by omega
        have hr : szR (TServer.wt (xs.getD i default)) (left - (preL TServer.wt xs i : Nat)) = left - (preL TServer.wt xs (i + 1) : Nat) := by have h9 := szR_pos (n := (TServer.wt (xs.getD i default))) (left := left - (preL TServer.wt xs i : Nat)) (by omega); omega
        simp only [hr, hn2, hup, go_sem, brS_dec, brS_beq, brS_bne, brK_dec, brK_beq, brK_bne, Nat.reduceLT, Nat.reduceLeDiff, Nat.reduceAdd, Nat.reduceMul, Nat.reduceSub, Nat.reduceEqDiff, Nat.reduceBEq, Nat.reduceDiv, reduceCtorEq, Int.reduceToNat]
        refine hF _ ?_ hc2
        simp only [go_sem, brS_dec, brS_beq, brS_bne, brK_dec, brK_beq, brK_bne, Nat.reduceLT, Nat.reduceLeDiff, Nat.reduceAdd, Nat.reduceMul, Nat.reduceSub, Nat.reduceEqDiff, Nat.reduceBEq, Nat.reduceDiv, reduceCtorEq, Int.reduceToNat]
      · have hr : szR (TServer.wt (xs.getD i default)) (left - (preL TServer.wt xs i : Nat)) = -1 := szR_neg (by omega)
        have hle := preL_le TServer.wt xs (i + 1)
        have hm1 : ((-1 : Int) < 0) := by decide
        simp only [hr, hm1, hup, go_sem, brS_dec, brS_beq, brS_bne, brK_dec, brK_beq, brK_bne, Nat.reduceLT, Nat.reduceLeDiff, Nat.reduceAdd, Nat.reduceMul, Nat.reduceSub, Nat.reduceEqDiff, Nat.reduceBEq, Nat.reduceDiv, reduceCtorEq, Int.reduceToNat]
        rw [szR_neg (by omega)]
    · intro hq F
      rw [hpn] at hq
      simp only [hpn, go_sem, brS_dec, brS_beq, brS_bne, brK_dec, brK_beq, brK_bne, Nat.reduceLT, Nat.reduceLeDiff, Nat.reduceAdd, Nat.reduceMul, Nat.reduceSub, Nat.reduceEqDiff, Nat.reduceBEq, Nat.reduceDiv, reduceCtorEq, Int.reduceToNat]
      rw [szR_pos hq]
  · have hn : left - (xs.length : Int) < 0 := by omega
    have hle : xs.length ≤ wtL TServer.wt xs := wtL_len
    simp only [hl, hn, go_sem, brS_dec, brS_beq, brS_bne, brK_dec, brK_beq, brK_bne, Nat.reduceLT, Nat.reduceLeDiff, Nat.reduceAdd, Nat.reduceMul, Nat.reduceSub, Nat.reduceEqDiff, Nat.reduceBEq, Nat.reduceDiv, reduceCtorEq, Int.reduceToNat]
    rw [szR_neg (by omega)]
theorem szWorld (x : TWorld) (left : Int) (h0 : 0 ≤ left) (h1 : left ≤ 1048576) (hx : TWorld.fit x) : Sat Tryz.prog G 5 [.val true (TWorld.row none x), .val false [.v (.int .i64 left)]] (.val false [.v (.int .i64 (szR (TWorld.wt x) left))]) := by
  refine sat_of_go (L := tiOf Tryz.prog) (fun T ti h => h) false [[1, 2], [1, 2], [1, 2, 10], [4], [1, 2], [1, 2, 16], [4], [1, 2], [1, 2, 22], [4], [1, 2], [1, 2, 28], [4], [1, 2], [1, 2, 34], [4], [1], [1, 40], [4], [4]] mx Tryz.func5 (by decide) rfl (by show 2 ≤ Tryz.f5.ntmps; decide) ?_
  have hmx := maxLen_eq
  have hm1 : ((-1 : Int) < 0) := by decide
  have hw : TWorld.wt x = (wtL TActor.wt x.fActors) + (wtL TZone.wt x.fZones) + (wtL TSaid.wt x.fSaid) + (wtL TServer.wt x.fServers) + (TKnown.wt x.fKnown) + (TCache.wt x.fCache) := rfl
  simp only [go_sem, brS_dec, brS_beq, brS_bne, brK_dec, brK_beq, brK_bne, Nat.reduceLT, Nat.reduceLeDiff, Nat.reduceAdd, Nat.reduceMul, Nat.reduceSub, Nat.reduceEqDiff, Nat.reduceBEq, Nat.reduceDiv, reduceCtorEq, Int.reduceToNat]
  refine call_by (szActorS x.fActors left (by omega) (by omega) (hx.2.1)) rfl ?_
  by_cases hc0 : ((((wtL TActor.wt x.fActors)) : Nat) : Int) ≤ left
  · have hr0 : szR (wtL TActor.wt x.fActors) left = (left - ((wtL TActor.wt x.fActors) : Nat)) := by have h9 := szR_pos (n := (wtL TActor.wt x.fActors)) (left := left) (by omega); omega
    have hn0 : ¬ ((left - ((wtL TActor.wt x.fActors) : Nat)) < 0) := by omega
    simp only [hr0, hn0, go_sem, brS_dec, brS_beq, brS_bne, brK_dec, brK_beq, brK_bne, Nat.reduceLT, Nat.reduceLeDiff, Nat.reduceAdd, Nat.reduceMul, Nat.reduceSub, Nat.reduceEqDiff, Nat.reduceBEq, Nat.reduceDiv, reduceCtorEq, Int.reduceToNat]
    refine call_by (szZoneS x.fZones (left - ((wtL TActor.wt x.fActors) : Nat)) (by omega) (by omega) (hx.2.2.1)) rfl ?_
    by_cases hc1 : ((((wtL TActor.wt x.fActors) + (wtL TZone.wt x.fZones)) : Nat) : Int) ≤ left
    · have hr1 : szR (wtL TZone.wt x.fZones) (left - ((wtL TActor.wt x.fActors) : Nat)) = (left - ((wtL TActor.wt x.fActors) + (wtL TZone.wt x.fZones) : Nat)) := by have h9 := szR_pos (n := (wtL TZone.wt x.fZones)) (left := (left - ((wtL TActor.wt x.fActors) : Nat))) (by omega); omega
      have hn1 : ¬ ((left - ((wtL TActor.wt x.fActors) + (wtL TZone.wt x.fZones) : Nat)) < 0) := by omega
      simp only [hr1, hn1, go_sem, brS_dec, brS_beq, brS_bne, brK_dec, brK_beq, brK_bne, Nat.reduceLT, Nat.reduceLeDiff, Nat.reduceAdd, Nat.reduceMul, Nat.reduceSub, Nat.reduceEqDiff, Nat.reduceBEq, Nat.reduceDiv, reduceCtorEq, Int.reduceToNat]
      refine call_by (szSaidS x.fSaid (left - ((wtL TActor.wt x.fActors) + (wtL TZone.wt x.fZones) : Nat)) (by omega) (by omega) (hx.2.2.2.1)) rfl ?_
      by_cases hc2 : ((((wtL TActor.wt x.fActors) + (wtL TZone.wt x.fZones) + (wtL TSaid.wt x.fSaid)) : Nat) : Int) ≤ left
      · have hr2 : szR (wtL TSaid.wt x.fSaid) (left - ((wtL TActor.wt x.fActors) + (wtL TZone.wt x.fZones) : Nat)) = (left - ((wtL TActor.wt x.fActors) + (wtL TZone.wt x.fZones) + (wtL TSaid.wt x.fSaid) : Nat)) := by have h9 := szR_pos (n := (wtL TSaid.wt x.fSaid)) (left := (left - ((wtL TActor.wt x.fActors) + (wtL TZone.wt x.fZones) : Nat))) (by omega); omega
        have hn2 : ¬ ((left - ((wtL TActor.wt x.fActors) + (wtL TZone.wt x.fZones) + (wtL TSaid.wt x.fSaid) : Nat)) < 0) := by omega
        simp only [hr2, hn2, go_sem, brS_dec, brS_beq, brS_bne, brK_dec, brK_beq, brK_bne, Nat.reduceLT, Nat.reduceLeDiff, Nat.reduceAdd, Nat.reduceMul, Nat.reduceSub, Nat.reduceEqDiff, Nat.reduceBEq, Nat.reduceDiv, reduceCtorEq, Int.reduceToNat]
        refine call_by (szServerS x.fServers (left - ((wtL TActor.wt x.fActors) + (wtL TZone.wt x.fZones) + (wtL TSaid.wt x.fSaid) : Nat)) (by omega) (by omega) (hx.2.2.2.2.1)) rfl ?_
        by_cases hc3 : ((((wtL TActor.wt x.fActors) + (wtL TZone.wt x.fZones) + (wtL TSaid.wt x.fSaid) + (wtL TServer.wt x.fServers)) : Nat) : Int) ≤ left
        · have hr3 : szR (wtL TServer.wt x.fServers) (left - ((wtL TActor.wt x.fActors) + (wtL TZone.wt x.fZones) + (wtL TSaid.wt x.fSaid) : Nat)) = (left - ((wtL TActor.wt x.fActors) + (wtL TZone.wt x.fZones) + (wtL TSaid.wt x.fSaid) + (wtL TServer.wt x.fServers) : Nat)) := by have h9 := szR_pos (n := (wtL TServer.wt x.fServers)) (left := (left - ((wtL TActor.wt x.fActors) + (wtL TZone.wt x.fZones) + (wtL TSaid.wt x.fSaid) : Nat))) (by omega); omega
          have hn3 : ¬ ((left - ((wtL TActor.wt x.fActors) + (wtL TZone.wt x.fZones) + (wtL TSaid.wt x.fSaid) + (wtL TServer.wt x.fServers) : Nat)) < 0) := by omega
          simp only [hr3, hn3, go_sem, brS_dec, brS_beq, brS_bne, brK_dec, brK_beq, brK_bne, Nat.reduceLT, Nat.reduceLeDiff, Nat.reduceAdd, Nat.reduceMul, Nat.reduceSub, Nat.reduceEqDiff, Nat.reduceBEq, Nat.reduceDiv, reduceCtorEq, Int.reduceToNat]
          refine call_by (szKnown x.fKnown (left - ((wtL TActor.wt x.fActors) + (wtL TZone.wt x.fZones) + (wtL TSaid.wt x.fSaid) + (wtL TServer.wt x.fServers) : Nat)) (by omega) (by omega) (hx.2.2.2.2.2.1)) rfl ?_
          by_cases hc4 : ((((wtL TActor.wt x.fActors) + (wtL TZone.wt x.fZones) + (wtL TSaid.wt x.fSaid) + (wtL TServer.wt x.fServers) + (TKnown.wt x.fKnown)) : Nat) : Int) ≤ left
          · have hr4 : szR (TKnown.wt x.fKnown) (left - ((wtL TActor.wt x.fActors) + (wtL TZone.wt x.fZones) + (wtL TSaid.wt x.fSaid) + (wtL TServer.wt x.fServers) : Nat)) = (left - ((wtL TActor.wt x.fActors) + (wtL TZone.wt x.fZones) + (wtL TSaid.wt x.fSaid) + (wtL TServer.wt x.fServers) + (TKnown.wt x.fKnown) : Nat)) := by have h9 := szR_pos (n := (TKnown.wt x.fKnown)) (left := (left - ((wtL TActor.wt x.fActors) + (wtL TZone.wt x.fZones) + (wtL TSaid.wt x.fSaid) + (wtL TServer.wt x.fServers) : Nat))) (by omega); omega
            have hn4 : ¬ ((left - ((wtL TActor.wt x.fActors) + (wtL TZone.wt x.fZones) + (wtL TSaid.wt x.fSaid) + (wtL TServer.wt x.fServers) + (TKnown.wt x.fKnown) : Nat)) < 0) := by omega
            simp only [hr4, hn4, go_sem, brS_dec, brS_beq, brS_bne, brK_dec, brK_beq, brK_bne, Nat.reduceLT, Nat.reduceLeDiff, Nat.reduceAdd, Nat.reduceMul, Nat.reduceSub, Nat.reduceEqDiff, Nat.reduceBEq, Nat.reduceDiv, reduceCtorEq, Int.reduceToNat]
            refine call_by (szCache x.fCache (left - ((wtL TActor.wt x.fActors) + (wtL TZone.wt x.fZones) + (wtL TSaid.wt x.fSaid) + (wtL TServer.wt x.fServers) + (TKnown.wt x.fKnown) : Nat)) (by omega) (by omega) (hx.2.2.2.2.2.2)) rfl ?_
            by_cases hc5 : ((((wtL TActor.wt x.fActors) + (wtL TZone.wt x.fZones) + (wtL TSaid.wt x.fSaid) + (wtL TServer.wt x.fServers) + (TKnown.wt x.fKnown) + (TCache.wt x.fCache)) : Nat) : Int) ≤ left
            · have hr5 : szR (TCache.wt x.fCache) (left - ((wtL TActor.wt x.fActors) + (wtL TZone.wt x.fZones) + (wtL TSaid.wt x.fSaid) + (wtL TServer.wt x.fServers) + (TKnown.wt x.fKnown) : Nat)) = (left - ((wtL TActor.wt x.fActors) + (wtL TZone.wt x.fZones) + (wtL TSaid.wt x.fSaid) + (wtL TServer.wt x.fServers) + (TKnown.wt x.fKnown) + (TCache.wt x.fCache) : Nat)) := by have h9 := szR_pos (n := (TCache.wt x.fCache)) (left := (left - ((wtL TActor.wt x.fActors) + (wtL TZone.wt x.fZones) + (wtL TSaid.wt x.fSaid) + (wtL TServer.wt x.fServers) + (TKnown.wt x.fKnown) : Nat))) (by omega); omega
              have hn5 : ¬ ((left - ((wtL TActor.wt x.fActors) + (wtL TZone.wt x.fZones) + (wtL TSaid.wt x.fSaid) + (wtL TServer.wt x.fServers) + (TKnown.wt x.fKnown) + (TCache.wt x.fCache) : Nat)) < 0) := by omega
              simp only [hr5, hn5, go_sem, brS_dec, brS_beq, brS_bne, brK_dec, brK_beq, brK_bne, Nat.reduceLT, Nat.reduceLeDiff, Nat.reduceAdd, Nat.reduceMul, Nat.reduceSub, Nat.reduceEqDiff, Nat.reduceBEq, Nat.reduceDiv, reduceCtorEq, Int.reduceToNat]
              rw [szR_pos (by omega), hw]
            · have hr5 : szR (TCache.wt x.fCache) (left - ((wtL TActor.wt x.fActors) + (wtL TZone.wt x.fZones) + (wtL TSaid.wt x.fSaid) + (wtL TServer.wt x.fServers) + (TKnown.wt x.fKnown) : Nat)) = -1 := szR_neg (by omega)
              simp only [hr5, hm1, go_sem, brS_dec, brS_beq, brS_bne, brK_dec, brK_beq, brK_bne, Nat.reduceLT, Nat.reduceLeDiff, Nat.reduceAdd, Nat.reduceMul, Nat.reduceSub, Nat.reduceEqDiff, Nat.reduceBEq, Nat.reduceDiv, reduceCtorEq, Int.reduceToNat]
              rw [szR_neg (by omega)]
          · have hr4 : szR (TKnown.wt x.fKnown) (left - ((wtL TActor.wt x.fActors) + (wtL TZone.wt x.fZones) + (wtL TSaid.wt x.fSaid) + (wtL TServer.wt x.fServers) : Nat)) = -1 := szR_neg (by omega)
            simp only [hr4, hm1, go_sem, brS_dec, brS_beq, brS_bne, brK_dec, brK_beq, brK_bne, Nat.reduceLT, Nat.reduceLeDiff, Nat.reduceAdd, Nat.reduceMul, Nat.reduceSub, Nat.reduceEqDiff, Nat.reduceBEq, Nat.reduceDiv, reduceCtorEq, Int.reduceToNat]
            rw [szR_neg (by omega)]
        · have hr3 : szR (wtL TServer.wt x.fServers) (left - ((wtL TActor.wt x.fActors) + (wtL TZone.wt x.fZones) + (wtL TSaid.wt x.fSaid) : Nat)) = -1 := szR_neg (by omega)
          simp only [hr3, hm1, go_sem, brS_dec, brS_beq, brS_bne, brK_dec, brK_beq, brK_bne, Nat.reduceLT, Nat.reduceLeDiff, Nat.reduceAdd, Nat.reduceMul, Nat.reduceSub, Nat.reduceEqDiff, Nat.reduceBEq, Nat.reduceDiv, reduceCtorEq, Int.reduceToNat]
          rw [szR_neg (by omega)]
      · have hr2 : szR (wtL TSaid.wt x.fSaid) (left - ((wtL TActor.wt x.fActors) + (wtL TZone.wt x.fZones) : Nat)) = -1 := szR_neg (by omega)
        simp only [hr2, hm1, go_sem, brS_dec, brS_beq, brS_bne, brK_dec, brK_beq, brK_bne, Nat.reduceLT, Nat.reduceLeDiff, Nat.reduceAdd, Nat.reduceMul, Nat.reduceSub, Nat.reduceEqDiff, Nat.reduceBEq, Nat.reduceDiv, reduceCtorEq, Int.reduceToNat]
        rw [szR_neg (by omega)]
    · have hr1 : szR (wtL TZone.wt x.fZones) (left - ((wtL TActor.wt x.fActors) : Nat)) = -1 := szR_neg (by omega)
      simp only [hr1, hm1, go_sem, brS_dec, brS_beq, brS_bne, brK_dec, brK_beq, brK_bne, Nat.reduceLT, Nat.reduceLeDiff, Nat.reduceAdd, Nat.reduceMul, Nat.reduceSub, Nat.reduceEqDiff, Nat.reduceBEq, Nat.reduceDiv, reduceCtorEq, Int.reduceToNat]
      rw [szR_neg (by omega)]
  · have hr0 : szR (wtL TActor.wt x.fActors) left = -1 := szR_neg (by omega)
    simp only [hr0, hm1, go_sem, brS_dec, brS_beq, brS_bne, brK_dec, brK_beq, brK_bne, Nat.reduceLT, Nat.reduceLeDiff, Nat.reduceAdd, Nat.reduceMul, Nat.reduceSub, Nat.reduceEqDiff, Nat.reduceBEq, Nat.reduceDiv, reduceCtorEq, Int.reduceToNat]
    rw [szR_neg (by omega)]
end Go.Proofs.Vt
