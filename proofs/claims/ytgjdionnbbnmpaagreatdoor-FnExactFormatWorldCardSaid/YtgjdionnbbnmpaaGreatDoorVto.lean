/- A part of the proof of the card: lemmas that the text with the card leans on (see there for what is proved, and under which conditions). -/
import Derived.Test.YtgjdionnbbnmpaaGreatDoorVfac
namespace Go.Proofs.Vt
open Go Go.RowKit Go.Proofs.Vm Go.Proofs
set_option maxRecDepth 10000
set_option linter.unusedVariables false
set_option linter.unusedSimpArgs false
attribute [local go_sem] go_skip go_region go_draw go_seq go_if go_block go_loop go_exit go_ret seqK_normal seqK_exit seqK_ret blockK_normal blockK_exit blockK_ret endK_ret endK_normal runK_at keepK_at St.only onlyF inside_ptr inside_al inside_eo inside_dead inside_val inside_box inside_ep inside_tup inside_fn memN goRun_nil goRun_free goRun_if opK_at skK_at mvK_at goOp_call goOp_callFn goOp_pick goOp_builtin goOp_move goOp_assign goOp_alloc goOp_box goOp_build goOp_buildSlice goOp_load goOp_store goOp_nilCheck goOp_binOp goOp_unOp goOp_convert goOp_makeFunc goOp_makeSlice goOp_slice goOp_fieldAddr goOp_field goOp_indexAddr goOp_index goOp_extract quietB buildOk partsOk ownless plainK evOp evMoveOp evLoadMove evLoadFreeze C.frz frzR initFrom goMove evAssign evMove evNil evFunc capOf capsOf Cap.arg ptOf SV.step evFieldAddr evField evLoad evStore evIndexAddr evIndex evAlloc evBox evBuild evBuildSlice evMake evLen evAppend evExtract evBin evUn unV evConvert evBuiltin takeAll placesOf placeParts partRows newsOf rowsOwn LS.width LS.rows fieldOf zeroOk splice goneR skipTo yieldOf argOf argsOf SV.isRes St.copy get_nil get_step put_step St.puts set_nil set_step St.forget kill_nil kill_step killAt_nil killAt_step cond_true cond_false St.killSeg St.cell St.setCell SV.setCell SV.root SV.names SV.namesAt rowOwn C.own constOk Value.cells Value.oneCell' St.list lsOf St.flat binV intV strV boolV shiftV isShift resOf resAll St.take drawDsts dstsQ quietOp takeRes Option.map_some Option.map_none Option.bind_some Option.getD_some Option.getD_none Nat.zero_add Nat.add_zero if_true if_false ite_true ite_false dite_true List.length_map List.length_nil List.length_cons List.map_cons List.map_nil List.all_cons List.all_nil List.getElem?_cons_zero List.getElem?_cons_succ List.getElem?_nil List.getElem?_toArray List.set_cons_zero List.set_cons_succ List.take_succ_cons List.take_zero List.drop_succ_cons List.drop_zero List.drop_nil List.nil_append List.cons_append List.append_nil List.getD_cons_zero List.getD_cons_succ List.all_eq_true true_and and_true or_true true_or or_false false_or Bool.or_false Bool.false_or Bool.or_self Bool.or_true Bool.true_or Bool.and_true Bool.true_and Bool.and_self Bool.and_false Bool.false_and Bool.not_true Bool.not_false Bool.false_eq_true decide_eq_true_eq decide_eq_false_iff_not decide_true decide_false beq_self_eq_true true_implies false_implies forall_const implies_true not_true not_false_iff ne_eq Int.toNat_natCast Int.natCast_nonneg eq_self exists_const if_pos Nat.succ_ne_zero
attribute [local go_sem high] brS_true brS_false brS_not brK_true brK_false brK_not
attribute [local go_sem] ti3 ti4 ti5 ti9 ti22 ti23 ti24 ti25 ti26 ti27 ti29 ti30 ti32 ti34 ti37 ti38 ti39 ti40 ti41 ti42 ti44 ti45 ti47 ti49 ti53 ti54 ti56 ti59 ti60 ti62 ti72 ti90 ti92 ti98 ti100 ti108 ti111 ti114 ti118 ti119 ti122 ti125 ti138 ti140 ti141 ti143 ti145 ti148 ti150 ti163 ti166 ti168 ti170 ti172 ti175 ti177 ti179 ti181 ti183 ti228 ti230 ti282 Tryz.ntmps7 Tryz.results7 Tryz.ntmps12 Tryz.results12 Tryz.ntmps22 Tryz.results22 Tryz.ntmps23 Tryz.results23 Tryz.ntmps24 Tryz.results24 Tryz.ntmps25 Tryz.results25 Tryz.ntmps26 Tryz.results26 Tryz.ntmps27 Tryz.results27 Tryz.ntmps42 Tryz.results42 Tryz.ntmps43 Tryz.results43 Tryz.ntmps56 Tryz.results56 Tryz.ntmps57 Tryz.results57 Tryz.ntmps58 Tryz.results58 Tryz.ntmps59 Tryz.results59 Tryz.ntmps60 Tryz.results60 Tryz.ntmps61 Tryz.results61 Tryz.ntmps78 Tryz.results78 Tryz.ntmps79 Tryz.results79 Tryz.ntmps90 Tryz.results90 Tryz.ntmps91 Tryz.results91 Tryz.ntmps92 Tryz.results92 Tryz.ntmps109 Tryz.results109 Tryz.ntmps110 Tryz.results110 Tryz.ntmps111 Tryz.results111 Tryz.ntmps122 Tryz.results122 Tryz.ntmps136 Tryz.results136 Tryz.ntmps137 Tryz.results137 Tryz.ntmps152 Tryz.results152 Tryz.ntmps153 Tryz.results153
attribute [local go_sem] rowsI_length rowsS_length rowsI_frz rowsS_frz rowsI_own rowsS_own Option.map_none Option.map_some bs_size bs_toList Int.lt_irrefl tys_tInt tys_tString tys_tSig tys_tSigned tys_tEntry tys_tSignedS tys_tFork tys_tZone tys_tStored tys_tActor tys_tSaid tys_tServer TKeys_len TKeys_at0 TKeys_get0 TKeys_at1 TKeys_get1 TKeys_drop TKeys_full TKeys_frz TKeys_own TKeys_owns TKeys_noImm TSig_len TSig_at0 TSig_get0 TSig_at1 TSig_get1 TSig_drop TSig_full TSig_frz TSig_own TSig_owno TSig_noImm TEntry_len TEntry_at0 TEntry_get0 TEntry_at1 TEntry_get1 TEntry_at2 TEntry_get2 TEntry_at3 TEntry_get3 TEntry_drop TEntry_full TEntry_frz TEntry_own TEntry_owns TEntry_noImm TProof_len TProof_at0 TProof_get0 TProof_at1 TProof_get1 TProof_drop TProof_full TProof_frz TProof_own TProof_owns TProof_noImm TGap_len TGap_at0 TGap_get0 TGap_sub1_Entry TGap_at1 TGap_get1 TGap_at2 TGap_get2 TGap_at3 TGap_get3 TGap_at4 TGap_get4 TGap_sub5_Entry TGap_at5 TGap_get5 TGap_at6 TGap_get6 TGap_at7 TGap_get7 TGap_at8 TGap_get8 TGap_sub9_Proof TGap_at9 TGap_get9 TGap_at10 TGap_get10 TGap_sub11_Proof TGap_at11 TGap_get11 TGap_at12 TGap_get12 TGap_drop TGap_full TGap_frz TGap_own TGap_owns TGap_noImm THead_len THead_at0 THead_get0 THead_at1 THead_get1 THead_at2 THead_get2 THead_at3 THead_get3 THead_at4 THead_get4 THead_at5 THead_get5 THead_at6 THead_get6 THead_at7 THead_get7 THead_sub8_Keys THead_at8 THead_get8 THead_at9 THead_get9 THead_sub10_Keys THead_at10 THead_get10 THead_at11 THead_get11 THead_at12 THead_get12 THead_sub13_Keys THead_at13 THead_get13 THead_at14 THead_get14 THead_at15 THead_get15 THead_drop THead_full THead_frz THead_own THead_owns THead_noImm TSigned_len TSigned_sub0_Head TSigned_at0 TSigned_get0 TSigned_at1 TSigned_get1 TSigned_at2 TSigned_get2 TSigned_at3 TSigned_get3 TSigned_at4 TSigned_get4 TSigned_at5 TSigned_get5 TSigned_at6 TSigned_get6 TSigned_at7 TSigned_get7 TSigned_sub8_Keys TSigned_at8 TSigned_get8 TSigned_at9 TSigned_get9 TSigned_sub10_Keys TSigned_at10 TSigned_get10 TSigned_at11 TSigned_get11 TSigned_at12 TSigned_get12 TSigned_sub13_Keys TSigned_at13 TSigned_get13 TSigned_at14 TSigned_get14 TSigned_at15 TSigned_get15 TSigned_at16 TSigned_get16 TSigned_drop TSigned_full TSigned_frz TSigned_own TSigned_owns TSigned_noImm TFork_len TFork_sub0_Signed TFork_sub0_Head TFork_at0 TFork_get0 TFork_at1 TFork_get1 TFork_at2 TFork_get2 TFork_at3 TFork_get3 TFork_at4 TFork_get4 TFork_at5 TFork_get5 TFork_at6 TFork_get6 TFork_at7 TFork_get7 TFork_sub8_Keys TFork_at8 TFork_get8 TFork_at9 TFork_get9 TFork_sub10_Keys TFork_at10 TFork_get10 TFork_at11 TFork_get11 TFork_at12 TFork_get12 TFork_sub13_Keys TFork_at13 TFork_get13 TFork_at14 TFork_get14 TFork_at15 TFork_get15 TFork_at16 TFork_get16 TFork_sub17_Signed TFork_sub17_Head TFork_at17 TFork_get17 TFork_at18 TFork_get18 TFork_at19 TFork_get19 TFork_at20 TFork_get20 TFork_at21 TFork_get21 TFork_at22 TFork_get22 TFork_at23 TFork_get23 TFork_at24 TFork_get24 TFork_sub25_Keys TFork_at25 TFork_get25 TFork_at26 TFork_get26 TFork_sub27_Keys TFork_at27 TFork_get27 TFork_at28 TFork_get28 TFork_at29 TFork_get29 TFork_sub30_Keys TFork_at30 TFork_get30 TFork_at31 TFork_get31 TFork_at32 TFork_get32 TFork_at33 TFork_get33 TFork_sub34_Signed TFork_sub34_Head TFork_at34 TFork_get34 TFork_at35 TFork_get35 TFork_at36 TFork_get36 TFork_at37 TFork_get37 TFork_at38 TFork_get38 TFork_at39 TFork_get39 TFork_at40 TFork_get40 TFork_at41 TFork_get41 TFork_sub42_Keys TFork_at42 TFork_get42 TFork_at43 TFork_get43 TFork_sub44_Keys TFork_at44 TFork_get44 TFork_at45 TFork_get45 TFork_at46 TFork_get46 TFork_sub47_Keys TFork_at47 TFork_get47 TFork_at48 TFork_get48 TFork_at49 TFork_get49 TFork_at50 TFork_get50 TFork_drop TFork_full TFork_frz TFork_own TFork_owns TFork_noImm TZone_len TZone_at0 TZone_get0 TZone_at1 TZone_get1 TZone_drop TZone_full TZone_frz TZone_own TZone_owns TZone_noImm TAnswer_len TAnswer_at0 TAnswer_get0 TAnswer_at1 TAnswer_get1 TAnswer_sub2_Entry TAnswer_at2 TAnswer_get2 TAnswer_at3 TAnswer_get3 TAnswer_at4 TAnswer_get4 TAnswer_at5 TAnswer_get5 TAnswer_sub6_Proof TAnswer_at6 TAnswer_get6 TAnswer_at7 TAnswer_get7 TAnswer_sub8_Gap TAnswer_at8 TAnswer_get8 TAnswer_sub9_Entry TAnswer_at9 TAnswer_get9 TAnswer_at10 TAnswer_get10 TAnswer_at11 TAnswer_get11 TAnswer_at12 TAnswer_get12 TAnswer_sub13_Entry TAnswer_at13 TAnswer_get13 TAnswer_at14 TAnswer_get14 TAnswer_at15 TAnswer_get15 TAnswer_at16 TAnswer_get16 TAnswer_sub17_Proof TAnswer_at17 TAnswer_get17 TAnswer_at18 TAnswer_get18 TAnswer_sub19_Proof TAnswer_at19 TAnswer_get19 TAnswer_at20 TAnswer_get20 TAnswer_drop TAnswer_full TAnswer_frz TAnswer_own TAnswer_owns TAnswer_noImm rowLSignedS_len rowLSignedS_at rowLSignedS_get rowLSignedS_frz rowLSignedS_own rowLSignedS_noImm TKnown_len TKnown_at0 TKnown_get0 TKnown_at1 TKnown_get1 TKnown_drop TKnown_full TKnown_frz TKnown_own TKnown_owns TKnown_noImm TServer_len TServer_at0 TServer_get0 TServer_at1 TServer_get1 TServer_drop TServer_full TServer_frz TServer_own TServer_owns TServer_noImm TStored_len TStored_at0 TStored_get0 TStored_at1 TStored_get1 TStored_sub2_Answer TStored_at2 TStored_get2 TStored_at3 TStored_get3 TStored_sub4_Entry TStored_at4 TStored_get4 TStored_at5 TStored_get5 TStored_at6 TStored_get6 TStored_at7 TStored_get7 TStored_sub8_Proof TStored_at8 TStored_get8 TStored_at9 TStored_get9 TStored_sub10_Gap TStored_at10 TStored_get10 TStored_sub11_Entry TStored_at11 TStored_get11 TStored_at12 TStored_get12 TStored_at13 TStored_get13 TStored_at14 TStored_get14 TStored_sub15_Entry TStored_at15 TStored_get15 TStored_at16 TStored_get16 TStored_at17 TStored_get17 TStored_at18 TStored_get18 TStored_sub19_Proof TStored_at19 TStored_get19 TStored_at20 TStored_get20 TStored_sub21_Proof TStored_at21 TStored_get21 TStored_at22 TStored_get22 TStored_drop TStored_full TStored_frz TStored_own TStored_owns TStored_noImm TCache_len TCache_at0 TCache_get0 TCache_drop TCache_full TCache_frz TCache_own TCache_owns TCache_noImm TActor_len TActor_at0 TActor_get0 TActor_drop TActor_full TActor_frz TActor_own TActor_owns TActor_noImm TSaid_len TSaid_sub0_Zone TSaid_at0 TSaid_get0 TSaid_at1 TSaid_get1 TSaid_at2 TSaid_get2 TSaid_drop TSaid_full TSaid_frz TSaid_own TSaid_owns TSaid_noImm TWorld_len TWorld_at0 TWorld_get0 TWorld_at1 TWorld_get1 TWorld_at2 TWorld_get2 TWorld_at3 TWorld_get3 TWorld_at4 TWorld_get4 TWorld_sub5_Known TWorld_at5 TWorld_get5 TWorld_at6 TWorld_get6 TWorld_sub7_Cache TWorld_at7 TWorld_get7 TWorld_drop TWorld_full TWorld_frz TWorld_own TWorld_owns TWorld_noImm
variable {G : Glob}
theorem toIntS (xs : List Int) (hx : xs.length ≤ 1048576) : Sat Tryz.prog G 90 [.val false [.l none 1 (rowsI xs)]] (.val false [.l (some tys.tInt) 1 (rowsI xs)]) := by
  refine sat_of_go (L := tiOf Tryz.prog) (fun T ti h => h) false [[0], [0, 3], [0, 3, 4], [0, 3, 4, 11], [0, 3, 4], [0, 3, 4], [2, 3]] mx Tryz.func90 (by decide) rfl (by show 1 ≤ Tryz.f90.ntmps; decide) ?_
  have hlen : xs.length ≤ xs.length := Nat.le_refl _
  have hp0 := toPart_zero (fun x : Int => [C.v (.int .i64 x)]) [C.v (.int .i64 0)] xs
  have hpn := toPart_all (fun x : Int => [C.v (.int .i64 x)]) [C.v (.int .i64 0)] xs
  simp only [go_sem, brS_dec, brS_beq, brS_bne, brK_dec, brK_beq, brK_bne, Nat.reduceLT, Nat.reduceLeDiff, Nat.reduceAdd, Nat.reduceMul, Nat.reduceSub, Nat.reduceEqDiff, Nat.reduceBEq, Nat.reduceDiv, reduceCtorEq, Int.reduceToNat]
  refine ⟨⟨by omega, by omega⟩, ?_⟩
  refine loop_n [0, 3, 4] xs.length (fun i => [(3, .val false [.l (some 3) 1 (toPart (fun x : Int => [C.v (.int .i64 x)]) [C.v (.int .i64 0)] xs i)]), (4, .val false [.v (.int .i64 (i : Int))])]) (fun _ => True) ?_ trivial ?_ ?_
  · simp only [hp0, go_sem, brS_dec, brS_beq, brS_bne, brK_dec, brK_beq, brK_bne, Nat.reduceLT, Nat.reduceLeDiff, Nat.reduceAdd, Nat.reduceMul, Nat.reduceSub, Nat.reduceEqDiff, Nat.reduceBEq, Nat.reduceDiv, reduceCtorEq, Int.reduceToNat]
    try rfl
  · intro i hi _ F hF
    have hlt : ((i : Int) < (xs.length : Int)) := by omega
    have hup := wrap_up (i := i) (by omega)
    have hpl := toPart_length (fun x : Int => [C.v (.int .i64 x)]) [C.v (.int .i64 0)] xs (Nat.le_of_lt hi)
    have hpa := toPart_at (fun x : Int => [C.v (.int .i64 x)]) [C.v (.int .i64 0)] xs hi
    have hps := toPart_set (fun x : Int => [C.v (.int .i64 x)]) [C.v (.int .i64 0)] xs hi
    have hps2 : (toPart (fun x : Int => [C.v (.int .i64 x)]) [C.v (.int .i64 0)] xs i).set i [C.v (.int .i64 (xs.getD i 0))] = toPart (fun x : Int => [C.v (.int .i64 x)]) [C.v (.int .i64 0)] xs (i + 1) := hps
    simp only [hlt, rowsI_at xs hi, hup, hpl, hpa, go_sem, brS_dec, brS_beq, brS_bne, brK_dec, brK_beq, brK_bne, Nat.reduceLT, Nat.reduceLeDiff, Nat.reduceAdd, Nat.reduceMul, Nat.reduceSub, Nat.reduceEqDiff, Nat.reduceBEq, Nat.reduceDiv, reduceCtorEq, Int.reduceToNat]
    try simp only [hps2, go_sem, brS_dec, brS_beq, brS_bne, brK_dec, brK_beq, brK_bne, Nat.reduceLT, Nat.reduceLeDiff, Nat.reduceAdd, Nat.reduceMul, Nat.reduceSub, Nat.reduceEqDiff, Nat.reduceBEq, Nat.reduceDiv, reduceCtorEq, Int.reduceToNat]
    refine hF _ ?_ trivial
    simp only [hps2, hup, go_sem, brS_dec, brS_beq, brS_bne, brK_dec, brK_beq, brK_bne, Nat.reduceLT, Nat.reduceLeDiff, Nat.reduceAdd, Nat.reduceMul, Nat.reduceSub, Nat.reduceEqDiff, Nat.reduceBEq, Nat.reduceDiv, reduceCtorEq, Int.reduceToNat]
  · intro _ F
    simp only [hpn, go_sem, brS_dec, brS_beq, brS_bne, brK_dec, brK_beq, brK_bne, Nat.reduceLT, Nat.reduceLeDiff, Nat.reduceAdd, Nat.reduceMul, Nat.reduceSub, Nat.reduceEqDiff, Nat.reduceBEq, Nat.reduceDiv, reduceCtorEq, Int.reduceToNat]
    try rfl
theorem toKeys (x : TKeys) (hx : TKeys.wt x ≤ 1048576) : Sat Tryz.prog G 136 [.val true (TKeys.row none x)] (.val true (TKeys.row (some tys) x)) := by
  refine sat_of_go (L := tiOf Tryz.prog) (fun T ti h => h) false [[1, 2], [1, 2, 3], [1, 2, 3], [2, 3], [2]] mx Tryz.func136 (by decide) rfl (by show 1 ≤ Tryz.f136.ntmps; decide) ?_
  have hw : TKeys.wt x = (x.fList.length) := rfl
  simp only [go_sem, brS_dec, brS_beq, brS_bne, brK_dec, brK_beq, brK_bne, Nat.reduceLT, Nat.reduceLeDiff, Nat.reduceAdd, Nat.reduceMul, Nat.reduceSub, Nat.reduceEqDiff, Nat.reduceBEq, Nat.reduceDiv, reduceCtorEq, Int.reduceToNat]
  refine call_by (toIntS x.fList (by omega)) rfl ?_
  simp only [go_sem, brS_dec, brS_beq, brS_bne, brK_dec, brK_beq, brK_bne, Nat.reduceLT, Nat.reduceLeDiff, Nat.reduceAdd, Nat.reduceMul, Nat.reduceSub, Nat.reduceEqDiff, Nat.reduceBEq, Nat.reduceDiv, reduceCtorEq, Int.reduceToNat]
  all_goals rfl
theorem toSig (x : TSig) : Sat Tryz.prog G 137 [.val true (TSig.row none x)] (.val true (TSig.row (some tys) x)) := by
  refine sat_of_go (L := tiOf Tryz.prog) (fun T ti h => h) false [[1, 2], [1, 2, 3], [1, 2, 3], [2, 3], [2]] mx Tryz.func137 (by decide) rfl (by show 1 ≤ Tryz.f137.ntmps; decide) ?_
  simp only [go_sem, brS_dec, brS_beq, brS_bne, brK_dec, brK_beq, brK_bne, Nat.reduceLT, Nat.reduceLeDiff, Nat.reduceAdd, Nat.reduceMul, Nat.reduceSub, Nat.reduceEqDiff, Nat.reduceBEq, Nat.reduceDiv, reduceCtorEq, Int.reduceToNat]
  all_goals rfl
theorem toStringS (xs : List (List UInt8)) (hx : wtL List.length xs ≤ 1048576) : Sat Tryz.prog G 111 [.val false [.l none 1 (rowsS xs)]] (.val false [.l (some tys.tString) 1 (rowsS xs)]) := by
  refine sat_of_go (L := tiOf Tryz.prog) (fun T ti h => h) false [[0], [0, 3], [0, 3, 4], [0, 3, 4, 11], [0, 3, 4], [0, 3, 4], [2, 3]] mx Tryz.func111 (by decide) rfl (by show 1 ≤ Tryz.f111.ntmps; decide) ?_
  have hlen : xs.length ≤ wtL List.length xs := wtL_len
  have hp0 := toPart_zero (fun t : List UInt8 => [C.v (.string (bs t))]) [C.v (.string ByteArray.empty)] xs
  have hpn := toPart_all (fun t : List UInt8 => [C.v (.string (bs t))]) [C.v (.string ByteArray.empty)] xs
  simp only [go_sem, brS_dec, brS_beq, brS_bne, brK_dec, brK_beq, brK_bne, Nat.reduceLT, Nat.reduceLeDiff, Nat.reduceAdd, Nat.reduceMul, Nat.reduceSub, Nat.reduceEqDiff, Nat.reduceBEq, Nat.reduceDiv, reduceCtorEq, Int.reduceToNat]
  refine ⟨⟨by omega, by omega⟩, ?_⟩
  refine loop_n [0, 3, 4] xs.length (fun i => [(3, .val false [.l (some 9) 1 (toPart (fun t : List UInt8 => [C.v (.string (bs t))]) [C.v (.string ByteArray.empty)] xs i)]), (4, .val false [.v (.int .i64 (i : Int))])]) (fun _ => True) ?_ trivial ?_ ?_
  · simp only [hp0, go_sem, brS_dec, brS_beq, brS_bne, brK_dec, brK_beq, brK_bne, Nat.reduceLT, Nat.reduceLeDiff, Nat.reduceAdd, Nat.reduceMul, Nat.reduceSub, Nat.reduceEqDiff, Nat.reduceBEq, Nat.reduceDiv, reduceCtorEq, Int.reduceToNat]
    try rfl
  · intro i hi _ F hF
    have hlt : ((i : Int) < (xs.length : Int)) := by omega
    have hup := wrap_up (i := i) (by omega)
    have hpl := toPart_length (fun t : List UInt8 => [C.v (.string (bs t))]) [C.v (.string ByteArray.empty)] xs (Nat.le_of_lt hi)
    have hpa := toPart_at (fun t : List UInt8 => [C.v (.string (bs t))]) [C.v (.string ByteArray.empty)] xs hi
    have hps := toPart_set (fun t : List UInt8 => [C.v (.string (bs t))]) [C.v (.string ByteArray.empty)] xs hi
    have hps2 : (toPart (fun t : List UInt8 => [C.v (.string (bs t))]) [C.v (.string ByteArray.empty)] xs i).set i [C.v (.string (bs (xs.getD i [])))] = toPart (fun t : List UInt8 => [C.v (.string (bs t))]) [C.v (.string ByteArray.empty)] xs (i + 1) := hps
    simp only [hlt, rowsS_at xs hi, hup, hpl, hpa, go_sem, brS_dec, brS_beq, brS_bne, brK_dec, brK_beq, brK_bne, Nat.reduceLT, Nat.reduceLeDiff, Nat.reduceAdd, Nat.reduceMul, Nat.reduceSub, Nat.reduceEqDiff, Nat.reduceBEq, Nat.reduceDiv, reduceCtorEq, Int.reduceToNat]
    try simp only [hps2, go_sem, brS_dec, brS_beq, brS_bne, brK_dec, brK_beq, brK_bne, Nat.reduceLT, Nat.reduceLeDiff, Nat.reduceAdd, Nat.reduceMul, Nat.reduceSub, Nat.reduceEqDiff, Nat.reduceBEq, Nat.reduceDiv, reduceCtorEq, Int.reduceToNat]
    refine hF _ ?_ trivial
    simp only [hps2, hup, go_sem, brS_dec, brS_beq, brS_bne, brK_dec, brK_beq, brK_bne, Nat.reduceLT, Nat.reduceLeDiff, Nat.reduceAdd, Nat.reduceMul, Nat.reduceSub, Nat.reduceEqDiff, Nat.reduceBEq, Nat.reduceDiv, reduceCtorEq, Int.reduceToNat]
  · intro _ F
    simp only [hpn, go_sem, brS_dec, brS_beq, brS_bne, brK_dec, brK_beq, brK_bne, Nat.reduceLT, Nat.reduceLeDiff, Nat.reduceAdd, Nat.reduceMul, Nat.reduceSub, Nat.reduceEqDiff, Nat.reduceBEq, Nat.reduceDiv, reduceCtorEq, Int.reduceToNat]
    try rfl
theorem toEntry (x : TEntry) (hx : TEntry.wt x ≤ 1048576) : Sat Tryz.prog G 79 [.val true (TEntry.row none x)] (.val true (TEntry.row (some tys) x)) := by
  refine sat_of_go (L := tiOf Tryz.prog) (fun T ti h => h) false [[1, 2], [1, 2, 3], [1, 2, 3], [1, 2, 3], [1, 2, 3], [2, 3], [2]] mx Tryz.func79 (by decide) rfl (by show 1 ≤ Tryz.f79.ntmps; decide) ?_
  have hw : TEntry.wt x = (x.fLabel.length) + (wtL List.length x.fPath) := rfl
  simp only [go_sem, brS_dec, brS_beq, brS_bne, brK_dec, brK_beq, brK_bne, Nat.reduceLT, Nat.reduceLeDiff, Nat.reduceAdd, Nat.reduceMul, Nat.reduceSub, Nat.reduceEqDiff, Nat.reduceBEq, Nat.reduceDiv, reduceCtorEq, Int.reduceToNat]
  refine call_by (toStringS x.fPath (by omega)) rfl ?_
  simp only [go_sem, brS_dec, brS_beq, brS_bne, brK_dec, brK_beq, brK_bne, Nat.reduceLT, Nat.reduceLeDiff, Nat.reduceAdd, Nat.reduceMul, Nat.reduceSub, Nat.reduceEqDiff, Nat.reduceBEq, Nat.reduceDiv, reduceCtorEq, Int.reduceToNat]
  all_goals rfl
theorem toProof (x : TProof) (hx : TProof.wt x ≤ 1048576) : Sat Tryz.prog G 152 [.val true (TProof.row none x)] (.val true (TProof.row (some tys) x)) := by
  refine sat_of_go (L := tiOf Tryz.prog) (fun T ti h => h) false [[1, 2], [1, 2, 3], [1, 2, 3], [2, 3], [2]] mx Tryz.func152 (by decide) rfl (by show 1 ≤ Tryz.f152.ntmps; decide) ?_
  have hw : TProof.wt x = (x.fPath.length) := rfl
  simp only [go_sem, brS_dec, brS_beq, brS_bne, brK_dec, brK_beq, brK_bne, Nat.reduceLT, Nat.reduceLeDiff, Nat.reduceAdd, Nat.reduceMul, Nat.reduceSub, Nat.reduceEqDiff, Nat.reduceBEq, Nat.reduceDiv, reduceCtorEq, Int.reduceToNat]
  refine call_by (toIntS x.fPath (by omega)) rfl ?_
  simp only [go_sem, brS_dec, brS_beq, brS_bne, brK_dec, brK_beq, brK_bne, Nat.reduceLT, Nat.reduceLeDiff, Nat.reduceAdd, Nat.reduceMul, Nat.reduceSub, Nat.reduceEqDiff, Nat.reduceBEq, Nat.reduceDiv, reduceCtorEq, Int.reduceToNat]
  all_goals rfl
theorem toGap (x : TGap) (hx : TGap.wt x ≤ 1048576) : Sat Tryz.prog G 153 [.val true (TGap.row none x)] (.val true (TGap.row (some tys) x)) := by
  refine sat_of_go (L := tiOf Tryz.prog) (fun T ti h => h) false [[1, 2], [1, 2, 3], [1, 2, 3], [1, 2, 3], [1, 2, 3], [1, 2, 3], [2, 3], [2]] mx Tryz.func153 (by decide) rfl (by show 1 ≤ Tryz.f153.ntmps; decide) ?_
  have hw : TGap.wt x = (TEntry.wt x.fBefore) + (TEntry.wt x.fAfter) + (TProof.wt x.fLeft) + (TProof.wt x.fRight) := rfl
  simp only [go_sem, brS_dec, brS_beq, brS_bne, brK_dec, brK_beq, brK_bne, Nat.reduceLT, Nat.reduceLeDiff, Nat.reduceAdd, Nat.reduceMul, Nat.reduceSub, Nat.reduceEqDiff, Nat.reduceBEq, Nat.reduceDiv, reduceCtorEq, Int.reduceToNat]
  refine call_by (toEntry x.fBefore (by omega)) rfl ?_
  simp only [TEntry.row, go_sem, brS_dec, brS_beq, brS_bne, brK_dec, brK_beq, brK_bne, Nat.reduceLT, Nat.reduceLeDiff, Nat.reduceAdd, Nat.reduceMul, Nat.reduceSub, Nat.reduceEqDiff, Nat.reduceBEq, Nat.reduceDiv, reduceCtorEq, Int.reduceToNat]
  refine call_by (toEntry x.fAfter (by omega)) rfl ?_
  simp only [TEntry.row, go_sem, brS_dec, brS_beq, brS_bne, brK_dec, brK_beq, brK_bne, Nat.reduceLT, Nat.reduceLeDiff, Nat.reduceAdd, Nat.reduceMul, Nat.reduceSub, Nat.reduceEqDiff, Nat.reduceBEq, Nat.reduceDiv, reduceCtorEq, Int.reduceToNat]
  refine call_by (toProof x.fLeft (by omega)) rfl ?_
  simp only [TProof.row, go_sem, brS_dec, brS_beq, brS_bne, brK_dec, brK_beq, brK_bne, Nat.reduceLT, Nat.reduceLeDiff, Nat.reduceAdd, Nat.reduceMul, Nat.reduceSub, Nat.reduceEqDiff, Nat.reduceBEq, Nat.reduceDiv, reduceCtorEq, Int.reduceToNat]
  refine call_by (toProof x.fRight (by omega)) rfl ?_
  simp only [TProof.row, go_sem, brS_dec, brS_beq, brS_bne, brK_dec, brK_beq, brK_bne, Nat.reduceLT, Nat.reduceLeDiff, Nat.reduceAdd, Nat.reduceMul, Nat.reduceSub, Nat.reduceEqDiff, Nat.reduceBEq, Nat.reduceDiv, reduceCtorEq, Int.reduceToNat]
  all_goals rfl
theorem toHead (x : THead) (hx : THead.wt x ≤ 1048576) : Sat Tryz.prog G 109 [.val true (THead.row none x)] (.val true (THead.row (some tys) x)) := by
  refine sat_of_go (L := tiOf Tryz.prog) (fun T ti h => h) false [[1, 2], [1, 2, 3], [1, 2, 3], [1, 2, 3], [1, 2, 3], [1, 2, 3], [1, 2, 3], [1, 2, 3], [1, 2, 3], [1, 2, 3], [1, 2, 3], [1, 2, 3], [1, 2, 3], [1, 2, 3], [2, 3], [2]] mx Tryz.func109 (by decide) rfl (by show 1 ≤ Tryz.f109.ntmps; decide) ?_
  have hw : THead.wt x = (TKeys.wt x.fKeys) + (TKeys.wt x.fHeirs) + (TKeys.wt x.fJudge) := rfl
  simp only [go_sem, brS_dec, brS_beq, brS_bne, brK_dec, brK_beq, brK_bne, Nat.reduceLT, Nat.reduceLeDiff, Nat.reduceAdd, Nat.reduceMul, Nat.reduceSub, Nat.reduceEqDiff, Nat.reduceBEq, Nat.reduceDiv, reduceCtorEq, Int.reduceToNat]
  refine call_by (toKeys x.fKeys (by omega)) rfl ?_
  simp only [TKeys.row, go_sem, brS_dec, brS_beq, brS_bne, brK_dec, brK_beq, brK_bne, Nat.reduceLT, Nat.reduceLeDiff, Nat.reduceAdd, Nat.reduceMul, Nat.reduceSub, Nat.reduceEqDiff, Nat.reduceBEq, Nat.reduceDiv, reduceCtorEq, Int.reduceToNat]
  refine call_by (toKeys x.fHeirs (by omega)) rfl ?_
  simp only [TKeys.row, go_sem, brS_dec, brS_beq, brS_bne, brK_dec, brK_beq, brK_bne, Nat.reduceLT, Nat.reduceLeDiff, Nat.reduceAdd, Nat.reduceMul, Nat.reduceSub, Nat.reduceEqDiff, Nat.reduceBEq, Nat.reduceDiv, reduceCtorEq, Int.reduceToNat]
  refine call_by (toKeys x.fJudge (by omega)) rfl ?_
  simp only [TKeys.row, go_sem, brS_dec, brS_beq, brS_bne, brK_dec, brK_beq, brK_bne, Nat.reduceLT, Nat.reduceLeDiff, Nat.reduceAdd, Nat.reduceMul, Nat.reduceSub, Nat.reduceEqDiff, Nat.reduceBEq, Nat.reduceDiv, reduceCtorEq, Int.reduceToNat]
  all_goals rfl
theorem toSigS (xs : List TSig) (hx : xs.length ≤ 1048576) : Sat Tryz.prog G 110 [.val false [.l none 2 (xs.map (TSig.row none))]] (.val false [.l (some tys.tSig) 2 (xs.map (TSig.row (some tys)))]) := by
  refine sat_of_go (L := tiOf Tryz.prog) (fun T ti h => h) false [[0], [0, 3], [0, 3, 4], [0, 3, 4, 11], [0, 3, 4], [0, 3, 4], [2, 3]] mx Tryz.func110 (by decide) rfl (by show 1 ≤ Tryz.f110.ntmps; decide) ?_
  have hlen : xs.length ≤ xs.length := Nat.le_refl _
  have hp0 := toPart_zero (TSig.row (some tys)) [C.v (.int .i64 0), C.v (.int .i64 0)] xs
  have hpn := toPart_all (TSig.row (some tys)) [C.v (.int .i64 0), C.v (.int .i64 0)] xs
  simp only [go_sem, brS_dec, brS_beq, brS_bne, brK_dec, brK_beq, brK_bne, Nat.reduceLT, Nat.reduceLeDiff, Nat.reduceAdd, Nat.reduceMul, Nat.reduceSub, Nat.reduceEqDiff, Nat.reduceBEq, Nat.reduceDiv, reduceCtorEq, Int.reduceToNat]
  refine ⟨⟨by omega, by omega⟩, ?_⟩
  refine loop_n [0, 3, 4] xs.length (fun i => [(3, .val false [.l (some 228) 2 (toPart (TSig.row (some tys)) [C.v (.int .i64 0), C.v (.int .i64 0)] xs i)]), (4, .val false [.v (.int .i64 (i : Int))])]) (fun _ => True) ?_ trivial ?_ ?_
  · simp only [hp0, go_sem, brS_dec, brS_beq, brS_bne, brK_dec, brK_beq, brK_bne, Nat.reduceLT, Nat.reduceLeDiff, Nat.reduceAdd, Nat.reduceMul, Nat.reduceSub, Nat.reduceEqDiff, Nat.reduceBEq, Nat.reduceDiv, reduceCtorEq, Int.reduceToNat]
    try rfl
  · intro i hi _ F hF
    have hlt : ((i : Int) < (xs.length : Int)) := by omega
    have hup := wrap_up (i := i) (by omega)
    have hpl := toPart_length (TSig.row (some tys)) [C.v (.int .i64 0), C.v (.int .i64 0)] xs (Nat.le_of_lt hi)
    have hpa := toPart_at (TSig.row (some tys)) [C.v (.int .i64 0), C.v (.int .i64 0)] xs hi
    have hps := toPart_set (TSig.row (some tys)) [C.v (.int .i64 0), C.v (.int .i64 0)] xs hi
    simp only [hlt, map_getD (TSig.row none) xs hi, hup, go_sem, brS_dec, brS_beq, brS_bne, brK_dec, brK_beq, brK_bne, Nat.reduceLT, Nat.reduceLeDiff, Nat.reduceAdd, Nat.reduceMul, Nat.reduceSub, Nat.reduceEqDiff, Nat.reduceBEq, Nat.reduceDiv, reduceCtorEq, Int.reduceToNat]
    refine call_by (toSig (xs.getD i default)) rfl ?_
    have hps2 := hps
    simp only [hlt, hup, hpl, hpa, hps2, go_sem, brS_dec, brS_beq, brS_bne, brK_dec, brK_beq, brK_bne, Nat.reduceLT, Nat.reduceLeDiff, Nat.reduceAdd, Nat.reduceMul, Nat.reduceSub, Nat.reduceEqDiff, Nat.reduceBEq, Nat.reduceDiv, reduceCtorEq, Int.reduceToNat]
    refine hF _ ?_ trivial
    simp only [hps2, hup, go_sem, brS_dec, brS_beq, brS_bne, brK_dec, brK_beq, brK_bne, Nat.reduceLT, Nat.reduceLeDiff, Nat.reduceAdd, Nat.reduceMul, Nat.reduceSub, Nat.reduceEqDiff, Nat.reduceBEq, Nat.reduceDiv, reduceCtorEq, Int.reduceToNat]
  · intro _ F
    simp only [hpn, go_sem, brS_dec, brS_beq, brS_bne, brK_dec, brK_beq, brK_bne, Nat.reduceLT, Nat.reduceLeDiff, Nat.reduceAdd, Nat.reduceMul, Nat.reduceSub, Nat.reduceEqDiff, Nat.reduceBEq, Nat.reduceDiv, reduceCtorEq, Int.reduceToNat]
    try rfl
theorem toSigned (x : TSigned) (hx : TSigned.wt x ≤ 1048576) : Sat Tryz.prog G 78 [.val true (TSigned.row none x)] (.val true (TSigned.row (some tys) x)) := by
  refine sat_of_go (L := tiOf Tryz.prog) (fun T ti h => h) false [[1, 2], [1, 2, 3], [1, 2, 3], [2, 3], [2]] mx Tryz.func78 (by decide) rfl (by show 1 ≤ Tryz.f78.ntmps; decide) ?_
  have hw : TSigned.wt x = (THead.wt x.fHead) + (x.fSigs.length) := rfl
  simp only [go_sem, brS_dec, brS_beq, brS_bne, brK_dec, brK_beq, brK_bne, Nat.reduceLT, Nat.reduceLeDiff, Nat.reduceAdd, Nat.reduceMul, Nat.reduceSub, Nat.reduceEqDiff, Nat.reduceBEq, Nat.reduceDiv, reduceCtorEq, Int.reduceToNat]
  refine call_by (toHead x.fHead (by omega)) rfl ?_
  simp only [THead.row, go_sem, brS_dec, brS_beq, brS_bne, brK_dec, brK_beq, brK_bne, Nat.reduceLT, Nat.reduceLeDiff, Nat.reduceAdd, Nat.reduceMul, Nat.reduceSub, Nat.reduceEqDiff, Nat.reduceBEq, Nat.reduceDiv, reduceCtorEq, Int.reduceToNat]
  refine call_by (toSigS x.fSigs (by omega)) rfl ?_
  simp only [go_sem, brS_dec, brS_beq, brS_bne, brK_dec, brK_beq, brK_bne, Nat.reduceLT, Nat.reduceLeDiff, Nat.reduceAdd, Nat.reduceMul, Nat.reduceSub, Nat.reduceEqDiff, Nat.reduceBEq, Nat.reduceDiv, reduceCtorEq, Int.reduceToNat]
  all_goals rfl
theorem toFork (x : TFork) (hx : TFork.wt x ≤ 1048576) : Sat Tryz.prog G 91 [.val true (TFork.row none x)] (.val true (TFork.row (some tys) x)) := by
  refine sat_of_go (L := tiOf Tryz.prog) (fun T ti h => h) false [[1, 2], [1, 2, 3], [1, 2, 3], [1, 2, 3], [2, 3], [2]] mx Tryz.func91 (by decide) rfl (by show 1 ≤ Tryz.f91.ntmps; decide) ?_
  have hw : TFork.wt x = (TSigned.wt x.fBefore) + (TSigned.wt x.fA) + (TSigned.wt x.fB) := rfl
  simp only [go_sem, brS_dec, brS_beq, brS_bne, brK_dec, brK_beq, brK_bne, Nat.reduceLT, Nat.reduceLeDiff, Nat.reduceAdd, Nat.reduceMul, Nat.reduceSub, Nat.reduceEqDiff, Nat.reduceBEq, Nat.reduceDiv, reduceCtorEq, Int.reduceToNat]
  refine call_by (toSigned x.fBefore (by omega)) rfl ?_
  simp only [TSigned.row, go_sem, brS_dec, brS_beq, brS_bne, brK_dec, brK_beq, brK_bne, Nat.reduceLT, Nat.reduceLeDiff, Nat.reduceAdd, Nat.reduceMul, Nat.reduceSub, Nat.reduceEqDiff, Nat.reduceBEq, Nat.reduceDiv, reduceCtorEq, Int.reduceToNat]
  refine call_by (toSigned x.fA (by omega)) rfl ?_
  simp only [TSigned.row, go_sem, brS_dec, brS_beq, brS_bne, brK_dec, brK_beq, brK_bne, Nat.reduceLT, Nat.reduceLeDiff, Nat.reduceAdd, Nat.reduceMul, Nat.reduceSub, Nat.reduceEqDiff, Nat.reduceBEq, Nat.reduceDiv, reduceCtorEq, Int.reduceToNat]
  refine call_by (toSigned x.fB (by omega)) rfl ?_
  simp only [TSigned.row, go_sem, brS_dec, brS_beq, brS_bne, brK_dec, brK_beq, brK_bne, Nat.reduceLT, Nat.reduceLeDiff, Nat.reduceAdd, Nat.reduceMul, Nat.reduceSub, Nat.reduceEqDiff, Nat.reduceBEq, Nat.reduceDiv, reduceCtorEq, Int.reduceToNat]
  all_goals rfl
theorem toSignedS (xs : List TSigned) (hx : wtL TSigned.wt xs ≤ 1048576) : Sat Tryz.prog G 42 [.val false [.l none 17 (xs.map (TSigned.row none))]] (.val false [.l (some tys.tSigned) 17 (xs.map (TSigned.row (some tys)))]) := by
  refine sat_of_go (L := tiOf Tryz.prog) (fun T ti h => h) false [[0], [0, 3], [0, 3, 4], [0, 3, 4, 11], [0, 3, 4], [0, 3, 4], [2, 3]] mx Tryz.func42 (by decide) rfl (by show 1 ≤ Tryz.f42.ntmps; decide) ?_
  have hlen : xs.length ≤ wtL TSigned.wt xs := wtL_len
  have hp0 := toPart_zero (TSigned.row (some tys)) [C.v (.int .i64 0), C.v (.int .i64 0), C.v (.int .i64 0), C.v (.int .i64 0), C.v (.int .i64 0), C.v (.int .i64 0), C.v (.int .i64 0), C.v (.int .i64 0), C.v (.slice none 0 0), C.v (.int .i64 0), C.v (.slice none 0 0), C.v (.int .i64 0), C.v (.int .i64 0), C.v (.slice none 0 0), C.v (.int .i64 0), C.v (.bool false), C.v (.slice none 0 0)] xs
  have hpn := toPart_all (TSigned.row (some tys)) [C.v (.int .i64 0), C.v (.int .i64 0), C.v (.int .i64 0), C.v (.int .i64 0), C.v (.int .i64 0), C.v (.int .i64 0), C.v (.int .i64 0), C.v (.int .i64 0), C.v (.slice none 0 0), C.v (.int .i64 0), C.v (.slice none 0 0), C.v (.int .i64 0), C.v (.int .i64 0), C.v (.slice none 0 0), C.v (.int .i64 0), C.v (.bool false), C.v (.slice none 0 0)] xs
  simp only [go_sem, brS_dec, brS_beq, brS_bne, brK_dec, brK_beq, brK_bne, Nat.reduceLT, Nat.reduceLeDiff, Nat.reduceAdd, Nat.reduceMul, Nat.reduceSub, Nat.reduceEqDiff, Nat.reduceBEq, Nat.reduceDiv, reduceCtorEq, Int.reduceToNat]
  refine ⟨⟨by omega, by omega⟩, ?_⟩
  refine loop_n [0, 3, 4] xs.length (fun i => [(3, .val false [.l (some 150) 17 (toPart (TSigned.row (some tys)) [C.v (.int .i64 0), C.v (.int .i64 0), C.v (.int .i64 0), C.v (.int .i64 0), C.v (.int .i64 0), C.v (.int .i64 0), C.v (.int .i64 0), C.v (.int .i64 0), C.v (.slice none 0 0), C.v (.int .i64 0), C.v (.slice none 0 0), C.v (.int .i64 0), C.v (.int .i64 0), C.v (.slice none 0 0), C.v (.int .i64 0), C.v (.bool false), C.v (.slice none 0 0)] xs i)]), (4, .val false [.v (.int .i64 (i : Int))])]) (fun _ => True) ?_ trivial ?_ ?_
  · simp only [hp0, go_sem, brS_dec, brS_beq, brS_bne, brK_dec, brK_beq, brK_bne, Nat.reduceLT, Nat.reduceLeDiff, Nat.reduceAdd, Nat.reduceMul, Nat.reduceSub, Nat.reduceEqDiff, Nat.reduceBEq, Nat.reduceDiv, reduceCtorEq, Int.reduceToNat]
    try rfl
  · intro i hi _ F hF
    have hlt : ((i : Int) < (xs.length : Int)) := by omega
    have hup := wrap_up (i := i) (by omega)
    have hpl := toPart_length (TSigned.row (some tys)) [C.v (.int .i64 0), C.v (.int .i64 0), C.v (.int .i64 0), C.v (.int .i64 0), C.v (.int .i64 0), C.v (.int .i64 0), C.v (.int .i64 0), C.v (.int .i64 0), C.v (.slice none 0 0), C.v (.int .i64 0), C.v (.slice none 0 0), C.v (.int .i64 0), C.v (.int .i64 0), C.v (.slice none 0 0), C.v (.int .i64 0), C.v (.bool false), C.v (.slice none 0 0)] xs (Nat.le_of_lt hi)
    have hpa := toPart_at (TSigned.row (some tys)) [C.v (.int .i64 0), C.v (.int .i64 0), C.v (.int .i64 0), C.v (.int .i64 0), C.v (.int .i64 0), C.v (.int .i64 0), C.v (.int .i64 0), C.v (.int .i64 0), C.v (.slice none 0 0), C.v (.int .i64 0), C.v (.slice none 0 0), C.v (.int .i64 0), C.v (.int .i64 0), C.v (.slice none 0 0), C.v (.int .i64 0), C.v (.bool false), C.v (.slice none 0 0)] xs hi
    have hps := toPart_set (TSigned.row (some tys)) [C.v (.int .i64 0), C.v (.int .i64 0), C.v (.int .i64 0), C.v (.int .i64 0), C.v (.int .i64 0), C.v (.int .i64 0), C.v (.int .i64 0), C.v (.int .i64 0), C.v (.slice none 0 0), C.v (.int .i64 0), C.v (.slice none 0 0), C.v (.int .i64 0), C.v (.int .i64 0), C.v (.slice none 0 0), C.v (.int .i64 0), C.v (.bool false), C.v (.slice none 0 0)] xs hi
    simp only [hlt, map_getD (TSigned.row none) xs hi, hup, go_sem, brS_dec, brS_beq, brS_bne, brK_dec, brK_beq, brK_bne, Nat.reduceLT, Nat.reduceLeDiff, Nat.reduceAdd, Nat.reduceMul, Nat.reduceSub, Nat.reduceEqDiff, Nat.reduceBEq, Nat.reduceDiv, reduceCtorEq, Int.reduceToNat]
    refine call_by (toSigned (xs.getD i default) (by have := wtL_at (f := TSigned.wt) hi default; omega)) rfl ?_
    have hps2 := hps
    simp only [hlt, hup, hpl, hpa, hps2, go_sem, brS_dec, brS_beq, brS_bne, brK_dec, brK_beq, brK_bne, Nat.reduceLT, Nat.reduceLeDiff, Nat.reduceAdd, Nat.reduceMul, Nat.reduceSub, Nat.reduceEqDiff, Nat.reduceBEq, Nat.reduceDiv, reduceCtorEq, Int.reduceToNat]
    refine hF _ ?_ trivial
    simp only [hps2, hup, go_sem, brS_dec, brS_beq, brS_bne, brK_dec, brK_beq, brK_bne, Nat.reduceLT, Nat.reduceLeDiff, Nat.reduceAdd, Nat.reduceMul, Nat.reduceSub, Nat.reduceEqDiff, Nat.reduceBEq, Nat.reduceDiv, reduceCtorEq, Int.reduceToNat]
  · intro _ F
    simp only [hpn, go_sem, brS_dec, brS_beq, brS_bne, brK_dec, brK_beq, brK_bne, Nat.reduceLT, Nat.reduceLeDiff, Nat.reduceAdd, Nat.reduceMul, Nat.reduceSub, Nat.reduceEqDiff, Nat.reduceBEq, Nat.reduceDiv, reduceCtorEq, Int.reduceToNat]
    try rfl
theorem toEntryS (xs : List TEntry) (hx : wtL TEntry.wt xs ≤ 1048576) : Sat Tryz.prog G 43 [.val false [.l none 4 (xs.map (TEntry.row none))]] (.val false [.l (some tys.tEntry) 4 (xs.map (TEntry.row (some tys)))]) := by
  refine sat_of_go (L := tiOf Tryz.prog) (fun T ti h => h) false [[0], [0, 3], [0, 3, 4], [0, 3, 4, 11], [0, 3, 4], [0, 3, 4], [2, 3]] mx Tryz.func43 (by decide) rfl (by show 1 ≤ Tryz.f43.ntmps; decide) ?_
  have hlen : xs.length ≤ wtL TEntry.wt xs := wtL_len
  have hp0 := toPart_zero (TEntry.row (some tys)) [C.v (.string ByteArray.empty), C.v (.int .i64 0), C.v (.int .i64 0), C.v (.slice none 0 0)] xs
  have hpn := toPart_all (TEntry.row (some tys)) [C.v (.string ByteArray.empty), C.v (.int .i64 0), C.v (.int .i64 0), C.v (.slice none 0 0)] xs
  simp only [go_sem, brS_dec, brS_beq, brS_bne, brK_dec, brK_beq, brK_bne, Nat.reduceLT, Nat.reduceLeDiff, Nat.reduceAdd, Nat.reduceMul, Nat.reduceSub, Nat.reduceEqDiff, Nat.reduceBEq, Nat.reduceDiv, reduceCtorEq, Int.reduceToNat]
  refine ⟨⟨by omega, by omega⟩, ?_⟩
  refine loop_n [0, 3, 4] xs.length (fun i => [(3, .val false [.l (some 100) 4 (toPart (TEntry.row (some tys)) [C.v (.string ByteArray.empty), C.v (.int .i64 0), C.v (.int .i64 0), C.v (.slice none 0 0)] xs i)]), (4, .val false [.v (.int .i64 (i : Int))])]) (fun _ => True) ?_ trivial ?_ ?_
  · simp only [hp0, go_sem, brS_dec, brS_beq, brS_bne, brK_dec, brK_beq, brK_bne, Nat.reduceLT, Nat.reduceLeDiff, Nat.reduceAdd, Nat.reduceMul, Nat.reduceSub, Nat.reduceEqDiff, Nat.reduceBEq, Nat.reduceDiv, reduceCtorEq, Int.reduceToNat]
    try rfl
  · intro i hi _ F hF
    have hlt : ((i : Int) < (xs.length : Int)) := by omega
    have hup := wrap_up (i := i) (by omega)
    have hpl := toPart_length (TEntry.row (some tys)) [C.v (.string ByteArray.empty), C.v (.int .i64 0), C.v (.int .i64 0), C.v (.slice none 0 0)] xs (Nat.le_of_lt hi)
    have hpa := toPart_at (TEntry.row (some tys)) [C.v (.string ByteArray.empty), C.v (.int .i64 0), C.v (.int .i64 0), C.v (.slice none 0 0)] xs hi
    have hps := toPart_set (TEntry.row (some tys)) [C.v (.string ByteArray.empty), C.v (.int .i64 0), C.v (.int .i64 0), C.v (.slice none 0 0)] xs hi
    simp only [hlt, map_getD (TEntry.row none) xs hi, hup, go_sem, brS_dec, brS_beq, brS_bne, brK_dec, brK_beq, brK_bne, Nat.reduceLT, Nat.reduceLeDiff, Nat.reduceAdd, Nat.reduceMul, Nat.reduceSub, Nat.reduceEqDiff, Nat.reduceBEq, Nat.reduceDiv, reduceCtorEq, Int.reduceToNat]
    refine call_by (toEntry (xs.getD i default) (by have := wtL_at (f := TEntry.wt) hi default; omega)) rfl ?_
    have hps2 := hps
    simp only [hlt, hup, hpl, hpa, hps2, go_sem, brS_dec, brS_beq, brS_bne, brK_dec, brK_beq, brK_bne, Nat.reduceLT, Nat.reduceLeDiff, Nat.reduceAdd, Nat.reduceMul, Nat.reduceSub, Nat.reduceEqDiff, Nat.reduceBEq, Nat.reduceDiv, reduceCtorEq, Int.reduceToNat]
    refine hF _ ?_ trivial
    simp only [hps2, hup, go_sem, brS_dec, brS_beq, brS_bne, brK_dec, brK_beq, brK_bne, Nat.reduceLT, Nat.reduceLeDiff, Nat.reduceAdd, Nat.reduceMul, Nat.reduceSub, Nat.reduceEqDiff, Nat.reduceBEq, Nat.reduceDiv, reduceCtorEq, Int.reduceToNat]
  · intro _ F
    simp only [hpn, go_sem, brS_dec, brS_beq, brS_bne, brK_dec, brK_beq, brK_bne, Nat.reduceLT, Nat.reduceLeDiff, Nat.reduceAdd, Nat.reduceMul, Nat.reduceSub, Nat.reduceEqDiff, Nat.reduceBEq, Nat.reduceDiv, reduceCtorEq, Int.reduceToNat]
    try rfl
theorem toZone (x : TZone) (hx : TZone.wt x ≤ 1048576) : Sat Tryz.prog G 12 [.val true (TZone.row none x)] (.val true (TZone.row (some tys) x)) := by
  refine sat_of_go (L := tiOf Tryz.prog) (fun T ti h => h) false [[1, 2], [1, 2, 3], [1, 2, 3], [2, 3], [2]] mx Tryz.func12 (by decide) rfl (by show 1 ≤ Tryz.f12.ntmps; decide) ?_
  have hw : TZone.wt x = (wtL TSigned.wt x.fChain) + (wtL TEntry.wt x.fEntries) := rfl
  simp only [go_sem, brS_dec, brS_beq, brS_bne, brK_dec, brK_beq, brK_bne, Nat.reduceLT, Nat.reduceLeDiff, Nat.reduceAdd, Nat.reduceMul, Nat.reduceSub, Nat.reduceEqDiff, Nat.reduceBEq, Nat.reduceDiv, reduceCtorEq, Int.reduceToNat]
  refine call_by (toSignedS x.fChain (by omega)) rfl ?_
  simp only [go_sem, brS_dec, brS_beq, brS_bne, brK_dec, brK_beq, brK_bne, Nat.reduceLT, Nat.reduceLeDiff, Nat.reduceAdd, Nat.reduceMul, Nat.reduceSub, Nat.reduceEqDiff, Nat.reduceBEq, Nat.reduceDiv, reduceCtorEq, Int.reduceToNat]
  refine call_by (toEntryS x.fEntries (by omega)) rfl ?_
  simp only [go_sem, brS_dec, brS_beq, brS_bne, brK_dec, brK_beq, brK_bne, Nat.reduceLT, Nat.reduceLeDiff, Nat.reduceAdd, Nat.reduceMul, Nat.reduceSub, Nat.reduceEqDiff, Nat.reduceBEq, Nat.reduceDiv, reduceCtorEq, Int.reduceToNat]
  all_goals rfl
theorem toAnswer (x : TAnswer) (hx : TAnswer.wt x ≤ 1048576) : Sat Tryz.prog G 122 [.val true (TAnswer.row none x)] (.val true (TAnswer.row (some tys) x)) := by
  refine sat_of_go (L := tiOf Tryz.prog) (fun T ti h => h) false [[1, 2], [1, 2, 3], [1, 2, 3], [1, 2, 3], [1, 2, 3], [1, 2, 3], [2, 3], [2]] mx Tryz.func122 (by decide) rfl (by show 1 ≤ Tryz.f122.ntmps; decide) ?_
  have hw : TAnswer.wt x = (wtL TSigned.wt x.fChain) + (TEntry.wt x.fEntry) + (TProof.wt x.fProof) + (TGap.wt x.fGap) := rfl
  simp only [go_sem, brS_dec, brS_beq, brS_bne, brK_dec, brK_beq, brK_bne, Nat.reduceLT, Nat.reduceLeDiff, Nat.reduceAdd, Nat.reduceMul, Nat.reduceSub, Nat.reduceEqDiff, Nat.reduceBEq, Nat.reduceDiv, reduceCtorEq, Int.reduceToNat]
  refine call_by (toSignedS x.fChain (by omega)) rfl ?_
  simp only [go_sem, brS_dec, brS_beq, brS_bne, brK_dec, brK_beq, brK_bne, Nat.reduceLT, Nat.reduceLeDiff, Nat.reduceAdd, Nat.reduceMul, Nat.reduceSub, Nat.reduceEqDiff, Nat.reduceBEq, Nat.reduceDiv, reduceCtorEq, Int.reduceToNat]
  refine call_by (toEntry x.fEntry (by omega)) rfl ?_
  simp only [TEntry.row, go_sem, brS_dec, brS_beq, brS_bne, brK_dec, brK_beq, brK_bne, Nat.reduceLT, Nat.reduceLeDiff, Nat.reduceAdd, Nat.reduceMul, Nat.reduceSub, Nat.reduceEqDiff, Nat.reduceBEq, Nat.reduceDiv, reduceCtorEq, Int.reduceToNat]
  refine call_by (toProof x.fProof (by omega)) rfl ?_
  simp only [TProof.row, go_sem, brS_dec, brS_beq, brS_bne, brK_dec, brK_beq, brK_bne, Nat.reduceLT, Nat.reduceLeDiff, Nat.reduceAdd, Nat.reduceMul, Nat.reduceSub, Nat.reduceEqDiff, Nat.reduceBEq, Nat.reduceDiv, reduceCtorEq, Int.reduceToNat]
  refine call_by (toGap x.fGap (by omega)) rfl ?_
  simp only [TGap.row, go_sem, brS_dec, brS_beq, brS_bne, brK_dec, brK_beq, brK_bne, Nat.reduceLT, Nat.reduceLeDiff, Nat.reduceAdd, Nat.reduceMul, Nat.reduceSub, Nat.reduceEqDiff, Nat.reduceBEq, Nat.reduceDiv, reduceCtorEq, Int.reduceToNat]
  all_goals rfl
theorem toSignedSS (xs : List (List TSigned)) (hx : wtL (wtL TSigned.wt) xs ≤ 1048576) : Sat Tryz.prog G 59 [.val false [.l none 1 (xs.map (rowLSignedS none))]] (.val false [.l (some tys.tSignedS) 1 (xs.map (rowLSignedS (some tys)))]) := by
  refine sat_of_go (L := tiOf Tryz.prog) (fun T ti h => h) false [[0], [0, 3], [0, 3, 4], [0, 3, 4, 11], [0, 3, 4], [0, 3, 4], [2, 3]] mx Tryz.func59 (by decide) rfl (by show 1 ≤ Tryz.f59.ntmps; decide) ?_
  have hlen : xs.length ≤ wtL (wtL TSigned.wt) xs := wtL_len
  have hp0 := toPart_zero (rowLSignedS (some tys)) [C.v (.slice none 0 0)] xs
  have hpn := toPart_all (rowLSignedS (some tys)) [C.v (.slice none 0 0)] xs
  simp only [go_sem, brS_dec, brS_beq, brS_bne, brK_dec, brK_beq, brK_bne, Nat.reduceLT, Nat.reduceLeDiff, Nat.reduceAdd, Nat.reduceMul, Nat.reduceSub, Nat.reduceEqDiff, Nat.reduceBEq, Nat.reduceDiv, reduceCtorEq, Int.reduceToNat]
  refine ⟨⟨by omega, by omega⟩, ?_⟩
  refine loop_n [0, 3, 4] xs.length (fun i => [(3, .val false [.l (some 59) 1 (toPart (rowLSignedS (some tys)) [C.v (.slice none 0 0)] xs i)]), (4, .val false [.v (.int .i64 (i : Int))])]) (fun _ => True) ?_ trivial ?_ ?_
  · simp only [hp0, go_sem, brS_dec, brS_beq, brS_bne, brK_dec, brK_beq, brK_bne, Nat.reduceLT, Nat.reduceLeDiff, Nat.reduceAdd, Nat.reduceMul, Nat.reduceSub, Nat.reduceEqDiff, Nat.reduceBEq, Nat.reduceDiv, reduceCtorEq, Int.reduceToNat]
    try rfl
  · intro i hi _ F hF
    have hlt : ((i : Int) < (xs.length : Int)) := by omega
    have hup := wrap_up (i := i) (by omega)
    have hpl := toPart_length (rowLSignedS (some tys)) [C.v (.slice none 0 0)] xs (Nat.le_of_lt hi)
    have hpa := toPart_at (rowLSignedS (some tys)) [C.v (.slice none 0 0)] xs hi
    have hps := toPart_set (rowLSignedS (some tys)) [C.v (.slice none 0 0)] xs hi
    simp only [hlt, map_getD (rowLSignedS none) xs hi, hup, go_sem, brS_dec, brS_beq, brS_bne, brK_dec, brK_beq, brK_bne, Nat.reduceLT, Nat.reduceLeDiff, Nat.reduceAdd, Nat.reduceMul, Nat.reduceSub, Nat.reduceEqDiff, Nat.reduceBEq, Nat.reduceDiv, reduceCtorEq, Int.reduceToNat]
    refine call_by (toSignedS (xs.getD i default) (by have := wtL_at (f := (wtL TSigned.wt)) hi default; omega)) rfl ?_
    have hps2 : (toPart (rowLSignedS (some tys)) [C.v (.slice none 0 0)] xs i).set i [.l (some tys.tSigned) 17 ((xs.getD i default).map (TSigned.row (some tys)))] = toPart (rowLSignedS (some tys)) [C.v (.slice none 0 0)] xs (i + 1) := hps
    simp only [go_sem, brS_dec, brS_beq, brS_bne, brK_dec, brK_beq, brK_bne, Nat.reduceLT, Nat.reduceLeDiff, Nat.reduceAdd, Nat.reduceMul, Nat.reduceSub, Nat.reduceEqDiff, Nat.reduceBEq, Nat.reduceDiv, reduceCtorEq, Int.reduceToNat] at hps2
    simp only [hlt, hup, hpl, hpa, hps2, go_sem, brS_dec, brS_beq, brS_bne, brK_dec, brK_beq, brK_bne, Nat.reduceLT, Nat.reduceLeDiff, Nat.reduceAdd, Nat.reduceMul, Nat.reduceSub, Nat.reduceEqDiff, Nat.reduceBEq, Nat.reduceDiv, reduceCtorEq, Int.reduceToNat]
    refine hF _ ?_ trivial
    simp only [hps2, hup, go_sem, brS_dec, brS_beq, brS_bne, brK_dec, brK_beq, brK_bne, Nat.reduceLT, Nat.reduceLeDiff, Nat.reduceAdd, Nat.reduceMul, Nat.reduceSub, Nat.reduceEqDiff, Nat.reduceBEq, Nat.reduceDiv, reduceCtorEq, Int.reduceToNat]
  · intro _ F
    simp only [hpn, go_sem, brS_dec, brS_beq, brS_bne, brK_dec, brK_beq, brK_bne, Nat.reduceLT, Nat.reduceLeDiff, Nat.reduceAdd, Nat.reduceMul, Nat.reduceSub, Nat.reduceEqDiff, Nat.reduceBEq, Nat.reduceDiv, reduceCtorEq, Int.reduceToNat]
    try rfl
theorem toForkS (xs : List TFork) (hx : wtL TFork.wt xs ≤ 1048576) : Sat Tryz.prog G 60 [.val false [.l none 51 (xs.map (TFork.row none))]] (.val false [.l (some tys.tFork) 51 (xs.map (TFork.row (some tys)))]) := by
  refine sat_of_go (L := tiOf Tryz.prog) (fun T ti h => h) false [[0], [0, 3], [0, 3, 4], [0, 3, 4, 11], [0, 3, 4], [0, 3, 4], [2, 3]] mx Tryz.func60 (by decide) rfl (by show 1 ≤ Tryz.f60.ntmps; decide) ?_
  have hlen : xs.length ≤ wtL TFork.wt xs := wtL_len
  have hp0 := toPart_zero (TFork.row (some tys)) [C.v (.int .i64 0), C.v (.int .i64 0), C.v (.int .i64 0), C.v (.int .i64 0), C.v (.int .i64 0), C.v (.int .i64 0), C.v (.int .i64 0), C.v (.int .i64 0), C.v (.slice none 0 0), C.v (.int .i64 0), C.v (.slice none 0 0), C.v (.int .i64 0), C.v (.int .i64 0), C.v (.slice none 0 0), C.v (.int .i64 0), C.v (.bool false), C.v (.slice none 0 0), C.v (.int .i64 0), C.v (.int .i64 0), C.v (.int .i64 0), C.v (.int .i64 0), C.v (.int .i64 0), C.v (.int .i64 0), C.v (.int .i64 0), C.v (.int .i64 0), C.v (.slice none 0 0), C.v (.int .i64 0), C.v (.slice none 0 0), C.v (.int .i64 0), C.v (.int .i64 0), C.v (.slice none 0 0), C.v (.int .i64 0), C.v (.bool false), C.v (.slice none 0 0), C.v (.int .i64 0), C.v (.int .i64 0), C.v (.int .i64 0), C.v (.int .i64 0), C.v (.int .i64 0), C.v (.int .i64 0), C.v (.int .i64 0), C.v (.int .i64 0), C.v (.slice none 0 0), C.v (.int .i64 0), C.v (.slice none 0 0), C.v (.int .i64 0), C.v (.int .i64 0), C.v (.slice none 0 0), C.v (.int .i64 0), C.v (.bool false), C.v (.slice none 0 0)] xs
  have hpn := toPart_all (TFork.row (some tys)) [C.v (.int .i64 0), C.v (.int .i64 0), C.v (.int .i64 0), C.v (.int .i64 0), C.v (.int .i64 0), C.v (.int .i64 0), C.v (.int .i64 0), C.v (.int .i64 0), C.v (.slice none 0 0), C.v (.int .i64 0), C.v (.slice none 0 0), C.v (.int .i64 0), C.v (.int .i64 0), C.v (.slice none 0 0), C.v (.int .i64 0), C.v (.bool false), C.v (.slice none 0 0), C.v (.int .i64 0), C.v (.int .i64 0), C.v (.int .i64 0), C.v (.int .i64 0), C.v (.int .i64 0), C.v (.int .i64 0), C.v (.int .i64 0), C.v (.int .i64 0), C.v (.slice none 0 0), C.v (.int .i64 0), C.v (.slice none 0 0), C.v (.int .i64 0), C.v (.int .i64 0), C.v (.slice none 0 0), C.v (.int .i64 0), C.v (.bool false), C.v (.slice none 0 0), C.v (.int .i64 0), C.v (.int .i64 0), C.v (.int .i64 0), C.v (.int .i64 0), C.v (.int .i64 0), C.v (.int .i64 0), C.v (.int .i64 0), C.v (.int .i64 0), C.v (.slice none 0 0), C.v (.int .i64 0), C.v (.slice none 0 0), C.v (.int .i64 0), C.v (.int .i64 0), C.v (.slice none 0 0), C.v (.int .i64 0), C.v (.bool false), C.v (.slice none 0 0)] xs
  simp only [go_sem, brS_dec, brS_beq, brS_bne, brK_dec, brK_beq, brK_bne, Nat.reduceLT, Nat.reduceLeDiff, Nat.reduceAdd, Nat.reduceMul, Nat.reduceSub, Nat.reduceEqDiff, Nat.reduceBEq, Nat.reduceDiv, reduceCtorEq, Int.reduceToNat]
  refine ⟨⟨by omega, by omega⟩, ?_⟩
  refine loop_n [0, 3, 4] xs.length (fun i => [(3, .val false [.l (some 175) 51 (toPart (TFork.row (some tys)) [C.v (.int .i64 0), C.v (.int .i64 0), C.v (.int .i64 0), C.v (.int .i64 0), C.v (.int .i64 0), C.v (.int .i64 0), C.v (.int .i64 0), C.v (.int .i64 0), C.v (.slice none 0 0), C.v (.int .i64 0), C.v (.slice none 0 0), C.v (.int .i64 0), C.v (.int .i64 0), C.v (.slice none 0 0), C.v (.int .i64 0), C.v (.bool false), C.v (.slice none 0 0), C.v (.int .i64 0), C.v (.int .i64 0), C.v (.int .i64 0), C.v (.int .i64 0), C.v (.int .i64 0), C.v (.int .i64 0), C.v (.int .i64 0), C.v (.int .i64 0), C.v (.slice none 0 0), C.v (.int .i64 0), C.v (.slice none 0 0), C.v (.int .i64 0), C.v (.int .i64 0), C.v (.slice none 0 0), C.v (.int .i64 0), C.v (.bool false), C.v (.slice none 0 0), C.v (.int .i64 0), C.v (.int .i64 0), C.v (.int .i64 0), C.v (.int .i64 0), C.v (.int .i64 0), C.v (.int .i64 0), C.v (.int .i64 0), C.v (.int .i64 0), C.v (.slice none 0 0), C.v (.int .i64 0), C.v (.slice none 0 0), C.v (.int .i64 0), C.v (.int .i64 0), C.v (.slice none 0 0), C.v (.int .i64 0), C.v (.bool false), C.v (.slice none 0 0)] xs i)]), (4, .val false [.v (.int .i64 (i : Int))])]) (fun _ => True) ?_ trivial ?_ ?_
  · simp only [hp0, go_sem, brS_dec, brS_beq, brS_bne, brK_dec, brK_beq, brK_bne, Nat.reduceLT, Nat.reduceLeDiff, Nat.reduceAdd, Nat.reduceMul, Nat.reduceSub, Nat.reduceEqDiff, Nat.reduceBEq, Nat.reduceDiv, reduceCtorEq, Int.reduceToNat]
    try rfl
  · intro i hi _ F hF
    have hlt : ((i : Int) < (xs.length : Int)) := by omega
    have hup := wrap_up (i := i) (by omega)
    have hpl := toPart_length (TFork.row (some tys)) [C.v (.int .i64 0), C.v (.int .i64 0), C.v (.int .i64 0), C.v (.int .i64 0), C.v (.int .i64 0), C.v (.int .i64 0), C.v (.int .i64 0), C.v (.int .i64 0), C.v (.slice none 0 0), C.v (.int .i64 0), C.v (.slice none 0 0), C.v (.int .i64 0), C.v (.int .i64 0), C.v (.slice none 0 0), C.v (.int .i64 0), C.v (.bool false), C.v (.slice none 0 0), C.v (.int .i64 0), C.v (.int .i64 0), C.v (.int .i64 0), C.v (.int .i64 0), C.v (.int .i64 0), C.v (.int .i64 0), C.v (.int .i64 0), C.v (.int .i64 0), C.v (.slice none 0 0), C.v (.int .i64 0), C.v (.slice none 0 0), C.v (.int .i64 0), C.v (.int .i64 0), C.v (.slice none 0 0), C.v (.int .i64 0), C.v (.bool false), C.v (.slice none 0 0), C.v (.int .i64 0), C.v (.int .i64 0), C.v (.int .i64 0), C.v (.int .i64 0), C.v (.int .i64 0), C.v (.int .i64 0), C.v (.int .i64 0), C.v (.int .i64 0), C.v (.slice none 0 0), C.v (.int .i64 0), C.v (.slice none 0 0), C.v (.int .i64 0), C.v (.int .i64 0), C.v (.slice none 0 0), C.v (.int .i64 0), C.v (.bool false), C.v (.slice none 0 0)] xs (Nat.le_of_lt hi)
    have hpa := toPart_at (TFork.row (some tys)) [C.v (.int .i64 0), C.v (.int .i64 0), C.v (.int .i64 0), C.v (.int .i64 0), C.v (.int .i64 0), C.v (.int .i64 0), C.v (.int .i64 0), C.v (.int .i64 0), C.v (.slice none 0 0), C.v (.int .i64 0), C.v (.slice none 0 0), C.v (.int .i64 0), C.v (.int .i64 0), C.v (.slice none 0 0), C.v (.int .i64 0), C.v (.bool false), C.v (.slice none 0 0), C.v (.int .i64 0), C.v (.int .i64 0), C.v (.int .i64 0), C.v (.int .i64 0), C.v (.int .i64 0), C.v (.int .i64 0), C.v (.int .i64 0), C.v (.int .i64 0), C.v (.slice none 0 0), C.v (.int .i64 0), C.v (.slice none 0 0), C.v (.int .i64 0), C.v (.int .i64 0), C.v (.slice none 0 0), C.v (.int .i64 0), C.v (.bool false), C.v (.slice none 0 0), C.v (.int .i64 0), C.v (.int .i64 0), C.v (.int .i64 0), C.v (.int .i64 0), C.v (.int .i64 0), C.v (.int .i64 0), C.v (.int .i64 0), C.v (.int .i64 0), C.v (.slice none 0 0), C.v (.int .i64 0), C.v (.slice none 0 0), C.v (.int .i64 0), C.v (.int .i64 0), C.v (.slice none 0 0), C.v (.int .i64 0), C.v (.bool false), C.v (.slice none 0 0)] xs hi
    have hps := toPart_set (TFork.row (some tys)) [C.v (.int .i64 0), C.v (.int .i64 0), C.v (.int .i64 0), C.v (.int .i64 0), C.v (.int .i64 0), C.v (.int .i64 0), C.v (.int .i64 0), C.v (.int .i64 0), C.v (.slice none 0 0), C.v (.int .i64 0), C.v (.slice none 0 0), C.v (.int .i64 0), C.v (.int .i64 0), C.v (.slice none 0 0), C.v (.int .i64 0), C.v (.bool false), C.v (.slice none 0 0), C.v (.int .i64 0), C.v (.int .i64 0), C.v (.int .i64 0), C.v (.int .i64 0), C.v (.int .i64 0), C.v (.int .i64 0), C.v (.int .i64 0), C.v (.int .i64 0), C.v (.slice none 0 0), C.v (.int .i64 0), C.v (.slice none 0 0), C.v (.int .i64 0), C.v (.int .i64 0), C.v (.slice none 0 0), C.v (.int .i64 0), C.v (.bool false), C.v (.slice none 0 0), C.v (.int .i64 0), C.v (.int .i64 0), C.v (.int .i64 0), C.v (.int .i64 0), C.v (.int .i64 0), C.v (.int .i64 0), C.v (.int .i64 0), C.v (.int .i64 0), C.v (.slice none 0 0), C.v (.int .i64 0), C.v (.slice none 0 0), C.v (.int .i64 0), C.v (.int .i64 0), C.v (.slice none 0 0), C.v (.int .i64 0), C.v (.bool false), C.v (.slice none 0 0)] xs hi
    simp only [hlt, map_getD (TFork.row none) xs hi, hup, go_sem, brS_dec, brS_beq, brS_bne, brK_dec, brK_beq, brK_bne, Nat.reduceLT, Nat.reduceLeDiff, Nat.reduceAdd, Nat.reduceMul, Nat.reduceSub, Nat.reduceEqDiff, Nat.reduceBEq, Nat.reduceDiv, reduceCtorEq, Int.reduceToNat]
    refine call_by (toFork (xs.getD i default) (by have := wtL_at (f := TFork.wt) hi default; omega)) rfl ?_
    have hps2 := hps
    simp only [hlt, hup, hpl, hpa, hps2, go_sem, brS_dec, brS_beq, brS_bne, brK_dec, brK_beq, brK_bne, Nat.reduceLT, Nat.reduceLeDiff, Nat.reduceAdd, Nat.reduceMul, Nat.reduceSub, Nat.reduceEqDiff, Nat.reduceBEq, Nat.reduceDiv, reduceCtorEq, Int.reduceToNat]
    refine hF _ ?_ trivial
    simp only [hps2, hup, go_sem, brS_dec, brS_beq, brS_bne, brK_dec, brK_beq, brK_bne, Nat.reduceLT, Nat.reduceLeDiff, Nat.reduceAdd, Nat.reduceMul, Nat.reduceSub, Nat.reduceEqDiff, Nat.reduceBEq, Nat.reduceDiv, reduceCtorEq, Int.reduceToNat]
  · intro _ F
    simp only [hpn, go_sem, brS_dec, brS_beq, brS_bne, brK_dec, brK_beq, brK_bne, Nat.reduceLT, Nat.reduceLeDiff, Nat.reduceAdd, Nat.reduceMul, Nat.reduceSub, Nat.reduceEqDiff, Nat.reduceBEq, Nat.reduceDiv, reduceCtorEq, Int.reduceToNat]
    try rfl
theorem toKnown (x : TKnown) (hx : TKnown.wt x ≤ 1048576) : Sat Tryz.prog G 26 [.val true (TKnown.row none x)] (.val true (TKnown.row (some tys) x)) := by
  refine sat_of_go (L := tiOf Tryz.prog) (fun T ti h => h) false [[1, 2], [1, 2, 3], [1, 2, 3], [2, 3], [2]] mx Tryz.func26 (by decide) rfl (by show 1 ≤ Tryz.f26.ntmps; decide) ?_
  have hw : TKnown.wt x = (wtL (wtL TSigned.wt) x.fChains) + (wtL TFork.wt x.fForks) := rfl
  simp only [go_sem, brS_dec, brS_beq, brS_bne, brK_dec, brK_beq, brK_bne, Nat.reduceLT, Nat.reduceLeDiff, Nat.reduceAdd, Nat.reduceMul, Nat.reduceSub, Nat.reduceEqDiff, Nat.reduceBEq, Nat.reduceDiv, reduceCtorEq, Int.reduceToNat]
  refine call_by (toSignedSS x.fChains (by omega)) rfl ?_
  simp only [go_sem, brS_dec, brS_beq, brS_bne, brK_dec, brK_beq, brK_bne, Nat.reduceLT, Nat.reduceLeDiff, Nat.reduceAdd, Nat.reduceMul, Nat.reduceSub, Nat.reduceEqDiff, Nat.reduceBEq, Nat.reduceDiv, reduceCtorEq, Int.reduceToNat]
  refine call_by (toForkS x.fForks (by omega)) rfl ?_
  simp only [go_sem, brS_dec, brS_beq, brS_bne, brK_dec, brK_beq, brK_bne, Nat.reduceLT, Nat.reduceLeDiff, Nat.reduceAdd, Nat.reduceMul, Nat.reduceSub, Nat.reduceEqDiff, Nat.reduceBEq, Nat.reduceDiv, reduceCtorEq, Int.reduceToNat]
  all_goals rfl
theorem toZoneS (xs : List TZone) (hx : wtL TZone.wt xs ≤ 1048576) : Sat Tryz.prog G 23 [.val false [.l none 2 (xs.map (TZone.row none))]] (.val false [.l (some tys.tZone) 2 (xs.map (TZone.row (some tys)))]) := by
  refine sat_of_go (L := tiOf Tryz.prog) (fun T ti h => h) false [[0], [0, 3], [0, 3, 4], [0, 3, 4, 11], [0, 3, 4], [0, 3, 4], [2, 3]] mx Tryz.func23 (by decide) rfl (by show 1 ≤ Tryz.f23.ntmps; decide) ?_
  have hlen : xs.length ≤ wtL TZone.wt xs := wtL_len
  have hp0 := toPart_zero (TZone.row (some tys)) [C.v (.slice none 0 0), C.v (.slice none 0 0)] xs
  have hpn := toPart_all (TZone.row (some tys)) [C.v (.slice none 0 0), C.v (.slice none 0 0)] xs
  simp only [go_sem, brS_dec, brS_beq, brS_bne, brK_dec, brK_beq, brK_bne, Nat.reduceLT, Nat.reduceLeDiff, Nat.reduceAdd, Nat.reduceMul, Nat.reduceSub, Nat.reduceEqDiff, Nat.reduceBEq, Nat.reduceDiv, reduceCtorEq, Int.reduceToNat]
  refine ⟨⟨by omega, by omega⟩, ?_⟩
  refine loop_n [0, 3, 4] xs.length (fun i => [(3, .val false [.l (some 62) 2 (toPart (TZone.row (some tys)) [C.v (.slice none 0 0), C.v (.slice none 0 0)] xs i)]), (4, .val false [.v (.int .i64 (i : Int))])]) (fun _ => True) ?_ trivial ?_ ?_
  · simp only [hp0, go_sem, brS_dec, brS_beq, brS_bne, brK_dec, brK_beq, brK_bne, Nat.reduceLT, Nat.reduceLeDiff, Nat.reduceAdd, Nat.reduceMul, Nat.reduceSub, Nat.reduceEqDiff, Nat.reduceBEq, Nat.reduceDiv, reduceCtorEq, Int.reduceToNat]
    try rfl
  · intro i hi _ F hF
    have hlt : ((i : Int) < (xs.length : Int)) := by omega
    have hup := wrap_up (i := i) (by omega)
    have hpl := toPart_length (TZone.row (some tys)) [C.v (.slice none 0 0), C.v (.slice none 0 0)] xs (Nat.le_of_lt hi)
    have hpa := toPart_at (TZone.row (some tys)) [C.v (.slice none 0 0), C.v (.slice none 0 0)] xs hi
    have hps := toPart_set (TZone.row (some tys)) [C.v (.slice none 0 0), C.v (.slice none 0 0)] xs hi
    simp only [hlt, map_getD (TZone.row none) xs hi, hup, go_sem, brS_dec, brS_beq, brS_bne, brK_dec, brK_beq, brK_bne, Nat.reduceLT, Nat.reduceLeDiff, Nat.reduceAdd, Nat.reduceMul, Nat.reduceSub, Nat.reduceEqDiff, Nat.reduceBEq, Nat.reduceDiv, reduceCtorEq, Int.reduceToNat]
    refine call_by (toZone (xs.getD i default) (by have := wtL_at (f := TZone.wt) hi default; omega)) rfl ?_
    have hps2 := hps
    simp only [hlt, hup, hpl, hpa, hps2, go_sem, brS_dec, brS_beq, brS_bne, brK_dec, brK_beq, brK_bne, Nat.reduceLT, Nat.reduceLeDiff, Nat.reduceAdd, Nat.reduceMul, Nat.reduceSub, Nat.reduceEqDiff, Nat.reduceBEq, Nat.reduceDiv, reduceCtorEq, Int.reduceToNat]
    refine hF _ ?_ trivial
    simp only [hps2, hup, go_sem, brS_dec, brS_beq, brS_bne, brK_dec, brK_beq, brK_bne, Nat.reduceLT, Nat.reduceLeDiff, Nat.reduceAdd, Nat.reduceMul, Nat.reduceSub, Nat.reduceEqDiff, Nat.reduceBEq, Nat.reduceDiv, reduceCtorEq, Int.reduceToNat]
  · intro _ F
    simp only [hpn, go_sem, brS_dec, brS_beq, brS_bne, brK_dec, brK_beq, brK_bne, Nat.reduceLT, Nat.reduceLeDiff, Nat.reduceAdd, Nat.reduceMul, Nat.reduceSub, Nat.reduceEqDiff, Nat.reduceBEq, Nat.reduceDiv, reduceCtorEq, Int.reduceToNat]
    try rfl
theorem toServer (x : TServer) (hx : TServer.wt x ≤ 1048576) : Sat Tryz.prog G 58 [.val true (TServer.row none x)] (.val true (TServer.row (some tys) x)) := by
  refine sat_of_go (L := tiOf Tryz.prog) (fun T ti h => h) false [[1, 2], [1, 2, 3], [1, 2, 3], [2, 3], [2]] mx Tryz.func58 (by decide) rfl (by show 1 ≤ Tryz.f58.ntmps; decide) ?_
  have hw : TServer.wt x = (wtL TZone.wt x.fZones) := rfl
  simp only [go_sem, brS_dec, brS_beq, brS_bne, brK_dec, brK_beq, brK_bne, Nat.reduceLT, Nat.reduceLeDiff, Nat.reduceAdd, Nat.reduceMul, Nat.reduceSub, Nat.reduceEqDiff, Nat.reduceBEq, Nat.reduceDiv, reduceCtorEq, Int.reduceToNat]
  refine call_by (toZoneS x.fZones (by omega)) rfl ?_
  simp only [go_sem, brS_dec, brS_beq, brS_bne, brK_dec, brK_beq, brK_bne, Nat.reduceLT, Nat.reduceLeDiff, Nat.reduceAdd, Nat.reduceMul, Nat.reduceSub, Nat.reduceEqDiff, Nat.reduceBEq, Nat.reduceDiv, reduceCtorEq, Int.reduceToNat]
  all_goals rfl
theorem toStored (x : TStored) (hx : TStored.wt x ≤ 1048576) : Sat Tryz.prog G 92 [.val true (TStored.row none x)] (.val true (TStored.row (some tys) x)) := by
  refine sat_of_go (L := tiOf Tryz.prog) (fun T ti h => h) false [[1, 2], [1, 2, 3], [1, 2, 3], [1, 2, 3], [2, 3], [2]] mx Tryz.func92 (by decide) rfl (by show 1 ≤ Tryz.f92.ntmps; decide) ?_
  have hw : TStored.wt x = (x.fLabel.length) + (TAnswer.wt x.fAnswer) := rfl
  simp only [go_sem, brS_dec, brS_beq, brS_bne, brK_dec, brK_beq, brK_bne, Nat.reduceLT, Nat.reduceLeDiff, Nat.reduceAdd, Nat.reduceMul, Nat.reduceSub, Nat.reduceEqDiff, Nat.reduceBEq, Nat.reduceDiv, reduceCtorEq, Int.reduceToNat]
  refine call_by (toAnswer x.fAnswer (by omega)) rfl ?_
  simp only [TAnswer.row, go_sem, brS_dec, brS_beq, brS_bne, brK_dec, brK_beq, brK_bne, Nat.reduceLT, Nat.reduceLeDiff, Nat.reduceAdd, Nat.reduceMul, Nat.reduceSub, Nat.reduceEqDiff, Nat.reduceBEq, Nat.reduceDiv, reduceCtorEq, Int.reduceToNat]
  all_goals rfl
theorem toStoredS (xs : List TStored) (hx : wtL TStored.wt xs ≤ 1048576) : Sat Tryz.prog G 61 [.val false [.l none 23 (xs.map (TStored.row none))]] (.val false [.l (some tys.tStored) 23 (xs.map (TStored.row (some tys)))]) := by
  refine sat_of_go (L := tiOf Tryz.prog) (fun T ti h => h) false [[0], [0, 3], [0, 3, 4], [0, 3, 4, 11], [0, 3, 4], [0, 3, 4], [2, 3]] mx Tryz.func61 (by decide) rfl (by show 1 ≤ Tryz.f61.ntmps; decide) ?_
  have hlen : xs.length ≤ wtL TStored.wt xs := wtL_len
  have hp0 := toPart_zero (TStored.row (some tys)) [C.v (.int .i64 0), C.v (.string ByteArray.empty), C.v (.slice none 0 0), C.v (.bool false), C.v (.string ByteArray.empty), C.v (.int .i64 0), C.v (.int .i64 0), C.v (.slice none 0 0), C.v (.int .i64 0), C.v (.slice none 0 0), C.v (.int .i64 0), C.v (.string ByteArray.empty), C.v (.int .i64 0), C.v (.int .i64 0), C.v (.slice none 0 0), C.v (.string ByteArray.empty), C.v (.int .i64 0), C.v (.int .i64 0), C.v (.slice none 0 0), C.v (.int .i64 0), C.v (.slice none 0 0), C.v (.int .i64 0), C.v (.slice none 0 0)] xs
  have hpn := toPart_all (TStored.row (some tys)) [C.v (.int .i64 0), C.v (.string ByteArray.empty), C.v (.slice none 0 0), C.v (.bool false), C.v (.string ByteArray.empty), C.v (.int .i64 0), C.v (.int .i64 0), C.v (.slice none 0 0), C.v (.int .i64 0), C.v (.slice none 0 0), C.v (.int .i64 0), C.v (.string ByteArray.empty), C.v (.int .i64 0), C.v (.int .i64 0), C.v (.slice none 0 0), C.v (.string ByteArray.empty), C.v (.int .i64 0), C.v (.int .i64 0), C.v (.slice none 0 0), C.v (.int .i64 0), C.v (.slice none 0 0), C.v (.int .i64 0), C.v (.slice none 0 0)] xs
  simp only [go_sem, brS_dec, brS_beq, brS_bne, brK_dec, brK_beq, brK_bne, Nat.reduceLT, Nat.reduceLeDiff, Nat.reduceAdd, Nat.reduceMul, Nat.reduceSub, Nat.reduceEqDiff, Nat.reduceBEq, Nat.reduceDiv, reduceCtorEq, Int.reduceToNat]
  refine ⟨⟨by omega, by omega⟩, ?_⟩
  refine loop_n [0, 3, 4] xs.length (fun i => [(3, .val false [.l (some 183) 23 (toPart (TStored.row (some tys)) [C.v (.int .i64 0), C.v (.string ByteArray.empty), C.v (.slice none 0 0), C.v (.bool false), C.v (.string ByteArray.empty), C.v (.int .i64 0), C.v (.int .i64 0), C.v (.slice none 0 0), C.v (.int .i64 0), C.v (.slice none 0 0), C.v (.int .i64 0), C.v (.string ByteArray.empty), C.v (.int .i64 0), C.v (.int .i64 0), C.v (.slice none 0 0), C.v (.string ByteArray.empty), C.v (.int .i64 0), C.v (.int .i64 0), C.v (.slice none 0 0), C.v (.int .i64 0), C.v (.slice none 0 0), C.v (.int .i64 0), C.v (.slice none 0 0)] xs i)]), (4, .val false [.v (.int .i64 (i : Int))])]) (fun _ => True) ?_ trivial ?_ ?_
  · simp only [hp0, go_sem, brS_dec, brS_beq, brS_bne, brK_dec, brK_beq, brK_bne, Nat.reduceLT, Nat.reduceLeDiff, Nat.reduceAdd, Nat.reduceMul, Nat.reduceSub, Nat.reduceEqDiff, Nat.reduceBEq, Nat.reduceDiv, reduceCtorEq, Int.reduceToNat]
    try rfl
  · intro i hi _ F hF
    have hlt : ((i : Int) < (xs.length : Int)) := by omega
    have hup := wrap_up (i := i) (by omega)
    have hpl := toPart_length (TStored.row (some tys)) [C.v (.int .i64 0), C.v (.string ByteArray.empty), C.v (.slice none 0 0), C.v (.bool false), C.v (.string ByteArray.empty), C.v (.int .i64 0), C.v (.int .i64 0), C.v (.slice none 0 0), C.v (.int .i64 0), C.v (.slice none 0 0), C.v (.int .i64 0), C.v (.string ByteArray.empty), C.v (.int .i64 0), C.v (.int .i64 0), C.v (.slice none 0 0), C.v (.string ByteArray.empty), C.v (.int .i64 0), C.v (.int .i64 0), C.v (.slice none 0 0), C.v (.int .i64 0), C.v (.slice none 0 0), C.v (.int .i64 0), C.v (.slice none 0 0)] xs (Nat.le_of_lt hi)
    have hpa := toPart_at (TStored.row (some tys)) [C.v (.int .i64 0), C.v (.string ByteArray.empty), C.v (.slice none 0 0), C.v (.bool false), C.v (.string ByteArray.empty), C.v (.int .i64 0), C.v (.int .i64 0), C.v (.slice none 0 0), C.v (.int .i64 0), C.v (.slice none 0 0), C.v (.int .i64 0), C.v (.string ByteArray.empty), C.v (.int .i64 0), C.v (.int .i64 0), C.v (.slice none 0 0), C.v (.string ByteArray.empty), C.v (.int .i64 0), C.v (.int .i64 0), C.v (.slice none 0 0), C.v (.int .i64 0), C.v (.slice none 0 0), C.v (.int .i64 0), C.v (.slice none 0 0)] xs hi
    have hps := toPart_set (TStored.row (some tys)) [C.v (.int .i64 0), C.v (.string ByteArray.empty), C.v (.slice none 0 0), C.v (.bool false), C.v (.string ByteArray.empty), C.v (.int .i64 0), C.v (.int .i64 0), C.v (.slice none 0 0), C.v (.int .i64 0), C.v (.slice none 0 0), C.v (.int .i64 0), C.v (.string ByteArray.empty), C.v (.int .i64 0), C.v (.int .i64 0), C.v (.slice none 0 0), C.v (.string ByteArray.empty), C.v (.int .i64 0), C.v (.int .i64 0), C.v (.slice none 0 0), C.v (.int .i64 0), C.v (.slice none 0 0), C.v (.int .i64 0), C.v (.slice none 0 0)] xs hi
    simp only [hlt, map_getD (TStored.row none) xs hi, hup, go_sem, brS_dec, brS_beq, brS_bne, brK_dec, brK_beq, brK_bne, Nat.reduceLT, Nat.reduceLeDiff, Nat.reduceAdd, Nat.reduceMul, Nat.reduceSub, Nat.reduceEqDiff, Nat.reduceBEq, Nat.reduceDiv, reduceCtorEq, Int.reduceToNat]
    refine call_by (toStored (xs.getD i default) (by have := wtL_at (f := TStored.wt) hi default; omega)) rfl ?_
    have hps2 := hps
    simp only [hlt, hup, hpl, hpa, hps2, go_sem, brS_dec, brS_beq, brS_bne, brK_dec, brK_beq, brK_bne, Nat.reduceLT, Nat.reduceLeDiff, Nat.reduceAdd, Nat.reduceMul, Nat.reduceSub, Nat.reduceEqDiff, Nat.reduceBEq, Nat.reduceDiv, reduceCtorEq, Int.reduceToNat]
    refine hF _ ?_ trivial
    simp only [hps2, hup, go_sem, brS_dec, brS_beq, brS_bne, brK_dec, brK_beq, brK_bne, Nat.reduceLT, Nat.reduceLeDiff, Nat.reduceAdd, Nat.reduceMul, Nat.reduceSub, Nat.reduceEqDiff, Nat.reduceBEq, Nat.reduceDiv, reduceCtorEq, Int.reduceToNat]
  · intro _ F
    simp only [hpn, go_sem, brS_dec, brS_beq, brS_bne, brK_dec, brK_beq, brK_bne, Nat.reduceLT, Nat.reduceLeDiff, Nat.reduceAdd, Nat.reduceMul, Nat.reduceSub, Nat.reduceEqDiff, Nat.reduceBEq, Nat.reduceDiv, reduceCtorEq, Int.reduceToNat]
    try rfl
theorem toCache (x : TCache) (hx : TCache.wt x ≤ 1048576) : Sat Tryz.prog G 27 [.val true (TCache.row none x)] (.val true (TCache.row (some tys) x)) := by
  refine sat_of_go (L := tiOf Tryz.prog) (fun T ti h => h) false [[1, 2], [1, 2, 3], [2, 3], [2]] mx Tryz.func27 (by decide) rfl (by show 1 ≤ Tryz.f27.ntmps; decide) ?_
  have hw : TCache.wt x = (wtL TStored.wt x.fList) := rfl
  simp only [go_sem, brS_dec, brS_beq, brS_bne, brK_dec, brK_beq, brK_bne, Nat.reduceLT, Nat.reduceLeDiff, Nat.reduceAdd, Nat.reduceMul, Nat.reduceSub, Nat.reduceEqDiff, Nat.reduceBEq, Nat.reduceDiv, reduceCtorEq, Int.reduceToNat]
  refine call_by (toStoredS x.fList (by omega)) rfl ?_
  simp only [go_sem, brS_dec, brS_beq, brS_bne, brK_dec, brK_beq, brK_bne, Nat.reduceLT, Nat.reduceLeDiff, Nat.reduceAdd, Nat.reduceMul, Nat.reduceSub, Nat.reduceEqDiff, Nat.reduceBEq, Nat.reduceDiv, reduceCtorEq, Int.reduceToNat]
  all_goals rfl
theorem toActor (x : TActor) (hx : TActor.wt x ≤ 1048576) : Sat Tryz.prog G 56 [.val true (TActor.row none x)] (.val true (TActor.row (some tys) x)) := by
  refine sat_of_go (L := tiOf Tryz.prog) (fun T ti h => h) false [[1, 2], [1, 2, 3], [2, 3], [2]] mx Tryz.func56 (by decide) rfl (by show 1 ≤ Tryz.f56.ntmps; decide) ?_
  have hw : TActor.wt x = (x.fHeld.length) := rfl
  simp only [go_sem, brS_dec, brS_beq, brS_bne, brK_dec, brK_beq, brK_bne, Nat.reduceLT, Nat.reduceLeDiff, Nat.reduceAdd, Nat.reduceMul, Nat.reduceSub, Nat.reduceEqDiff, Nat.reduceBEq, Nat.reduceDiv, reduceCtorEq, Int.reduceToNat]
  refine call_by (toIntS x.fHeld (by omega)) rfl ?_
  simp only [go_sem, brS_dec, brS_beq, brS_bne, brK_dec, brK_beq, brK_bne, Nat.reduceLT, Nat.reduceLeDiff, Nat.reduceAdd, Nat.reduceMul, Nat.reduceSub, Nat.reduceEqDiff, Nat.reduceBEq, Nat.reduceDiv, reduceCtorEq, Int.reduceToNat]
  all_goals rfl
theorem toSaid (x : TSaid) (hx : TSaid.wt x ≤ 1048576) : Sat Tryz.prog G 57 [.val true (TSaid.row none x)] (.val true (TSaid.row (some tys) x)) := by
  refine sat_of_go (L := tiOf Tryz.prog) (fun T ti h => h) false [[1, 2], [1, 2, 3], [1, 2, 3], [2, 3], [2]] mx Tryz.func57 (by decide) rfl (by show 1 ≤ Tryz.f57.ntmps; decide) ?_
  have hw : TSaid.wt x = (TZone.wt x.fZone) + (x.fHeld.length) := rfl
  simp only [go_sem, brS_dec, brS_beq, brS_bne, brK_dec, brK_beq, brK_bne, Nat.reduceLT, Nat.reduceLeDiff, Nat.reduceAdd, Nat.reduceMul, Nat.reduceSub, Nat.reduceEqDiff, Nat.reduceBEq, Nat.reduceDiv, reduceCtorEq, Int.reduceToNat]
  refine call_by (toZone x.fZone (by omega)) rfl ?_
  simp only [TZone.row, go_sem, brS_dec, brS_beq, brS_bne, brK_dec, brK_beq, brK_bne, Nat.reduceLT, Nat.reduceLeDiff, Nat.reduceAdd, Nat.reduceMul, Nat.reduceSub, Nat.reduceEqDiff, Nat.reduceBEq, Nat.reduceDiv, reduceCtorEq, Int.reduceToNat]
  refine call_by (toIntS x.fHeld (by omega)) rfl ?_
  simp only [go_sem, brS_dec, brS_beq, brS_bne, brK_dec, brK_beq, brK_bne, Nat.reduceLT, Nat.reduceLeDiff, Nat.reduceAdd, Nat.reduceMul, Nat.reduceSub, Nat.reduceEqDiff, Nat.reduceBEq, Nat.reduceDiv, reduceCtorEq, Int.reduceToNat]
  all_goals rfl
theorem toActorS (xs : List TActor) (hx : wtL TActor.wt xs ≤ 1048576) : Sat Tryz.prog G 22 [.val false [.l none 1 (xs.map (TActor.row none))]] (.val false [.l (some tys.tActor) 1 (xs.map (TActor.row (some tys)))]) := by
  refine sat_of_go (L := tiOf Tryz.prog) (fun T ti h => h) false [[0], [0, 3], [0, 3, 4], [0, 3, 4, 11], [0, 3, 4], [0, 3, 4], [2, 3]] mx Tryz.func22 (by decide) rfl (by show 1 ≤ Tryz.f22.ntmps; decide) ?_
  have hlen : xs.length ≤ wtL TActor.wt xs := wtL_len
  have hp0 := toPart_zero (TActor.row (some tys)) [C.v (.slice none 0 0)] xs
  have hpn := toPart_all (TActor.row (some tys)) [C.v (.slice none 0 0)] xs
  simp only [go_sem, brS_dec, brS_beq, brS_bne, brK_dec, brK_beq, brK_bne, Nat.reduceLT, Nat.reduceLeDiff, Nat.reduceAdd, Nat.reduceMul, Nat.reduceSub, Nat.reduceEqDiff, Nat.reduceBEq, Nat.reduceDiv, reduceCtorEq, Int.reduceToNat]
  refine ⟨⟨by omega, by omega⟩, ?_⟩
  refine loop_n [0, 3, 4] xs.length (fun i => [(3, .val false [.l (some 119) 1 (toPart (TActor.row (some tys)) [C.v (.slice none 0 0)] xs i)]), (4, .val false [.v (.int .i64 (i : Int))])]) (fun _ => True) ?_ trivial ?_ ?_
  · simp only [hp0, go_sem, brS_dec, brS_beq, brS_bne, brK_dec, brK_beq, brK_bne, Nat.reduceLT, Nat.reduceLeDiff, Nat.reduceAdd, Nat.reduceMul, Nat.reduceSub, Nat.reduceEqDiff, Nat.reduceBEq, Nat.reduceDiv, reduceCtorEq, Int.reduceToNat]
    try rfl
  · intro i hi _ F hF
    have hlt : ((i : Int) < (xs.length : Int)) := by omega
    have hup := wrap_up (i := i) (by omega)
    have hpl := toPart_length (TActor.row (some tys)) [C.v (.slice none 0 0)] xs (Nat.le_of_lt hi)
    have hpa := toPart_at (TActor.row (some tys)) [C.v (.slice none 0 0)] xs hi
    have hps := toPart_set (TActor.row (some tys)) [C.v (.slice none 0 0)] xs hi
    simp only [hlt, map_getD (TActor.row none) xs hi, hup, go_sem, brS_dec, brS_beq, brS_bne, brK_dec, brK_beq, brK_bne, Nat.reduceLT, Nat.reduceLeDiff, Nat.reduceAdd, Nat.reduceMul, Nat.reduceSub, Nat.reduceEqDiff, Nat.reduceBEq, Nat.reduceDiv, reduceCtorEq, Int.reduceToNat]
    refine call_by (toActor (xs.getD i default) (by have := wtL_at (f := TActor.wt) hi default; omega)) rfl ?_
    have hps2 := hps
    simp only [hlt, hup, hpl, hpa, hps2, go_sem, brS_dec, brS_beq, brS_bne, brK_dec, brK_beq, brK_bne, Nat.reduceLT, Nat.reduceLeDiff, Nat.reduceAdd, Nat.reduceMul, Nat.reduceSub, Nat.reduceEqDiff, Nat.reduceBEq, Nat.reduceDiv, reduceCtorEq, Int.reduceToNat]
    refine hF _ ?_ trivial
    simp only [hps2, hup, go_sem, brS_dec, brS_beq, brS_bne, brK_dec, brK_beq, brK_bne, Nat.reduceLT, Nat.reduceLeDiff, Nat.reduceAdd, Nat.reduceMul, Nat.reduceSub, Nat.reduceEqDiff, Nat.reduceBEq, Nat.reduceDiv, reduceCtorEq, Int.reduceToNat]
  · intro _ F
    simp only [hpn, go_sem, brS_dec, brS_beq, brS_bne, brK_dec, brK_beq, brK_bne, Nat.reduceLT, Nat.reduceLeDiff, Nat.reduceAdd, Nat.reduceMul, Nat.reduceSub, Nat.reduceEqDiff, Nat.reduceBEq, Nat.reduceDiv, reduceCtorEq, Int.reduceToNat]
    try rfl
theorem toSaidS (xs : List TSaid) (hx : wtL TSaid.wt xs ≤ 1048576) : Sat Tryz.prog G 24 [.val false [.l none 3 (xs.map (TSaid.row none))]] (.val false [.l (some tys.tSaid) 3 (xs.map (TSaid.row (some tys)))]) := by
  refine sat_of_go (L := tiOf Tryz.prog) (fun T ti h => h) false [[0], [0, 3], [0, 3, 4], [0, 3, 4, 11], [0, 3, 4], [0, 3, 4], [2, 3]] mx Tryz.func24 (by decide) rfl (by show 1 ≤ Tryz.f24.ntmps; decide) ?_
  have hlen : xs.length ≤ wtL TSaid.wt xs := wtL_len
  have hp0 := toPart_zero (TSaid.row (some tys)) [C.v (.slice none 0 0), C.v (.slice none 0 0), C.v (.slice none 0 0)] xs
  have hpn := toPart_all (TSaid.row (some tys)) [C.v (.slice none 0 0), C.v (.slice none 0 0), C.v (.slice none 0 0)] xs
  simp only [go_sem, brS_dec, brS_beq, brS_bne, brK_dec, brK_beq, brK_bne, Nat.reduceLT, Nat.reduceLeDiff, Nat.reduceAdd, Nat.reduceMul, Nat.reduceSub, Nat.reduceEqDiff, Nat.reduceBEq, Nat.reduceDiv, reduceCtorEq, Int.reduceToNat]
  refine ⟨⟨by omega, by omega⟩, ?_⟩
  refine loop_n [0, 3, 4] xs.length (fun i => [(3, .val false [.l (some 122) 3 (toPart (TSaid.row (some tys)) [C.v (.slice none 0 0), C.v (.slice none 0 0), C.v (.slice none 0 0)] xs i)]), (4, .val false [.v (.int .i64 (i : Int))])]) (fun _ => True) ?_ trivial ?_ ?_
  · simp only [hp0, go_sem, brS_dec, brS_beq, brS_bne, brK_dec, brK_beq, brK_bne, Nat.reduceLT, Nat.reduceLeDiff, Nat.reduceAdd, Nat.reduceMul, Nat.reduceSub, Nat.reduceEqDiff, Nat.reduceBEq, Nat.reduceDiv, reduceCtorEq, Int.reduceToNat]
    try rfl
  · intro i hi _ F hF
    have hlt : ((i : Int) < (xs.length : Int)) := by omega
    have hup := wrap_up (i := i) (by omega)
    have hpl := toPart_length (TSaid.row (some tys)) [C.v (.slice none 0 0), C.v (.slice none 0 0), C.v (.slice none 0 0)] xs (Nat.le_of_lt hi)
    have hpa := toPart_at (TSaid.row (some tys)) [C.v (.slice none 0 0), C.v (.slice none 0 0), C.v (.slice none 0 0)] xs hi
    have hps := toPart_set (TSaid.row (some tys)) [C.v (.slice none 0 0), C.v (.slice none 0 0), C.v (.slice none 0 0)] xs hi
    simp only [hlt, map_getD (TSaid.row none) xs hi, hup, go_sem, brS_dec, brS_beq, brS_bne, brK_dec, brK_beq, brK_bne, Nat.reduceLT, Nat.reduceLeDiff, Nat.reduceAdd, Nat.reduceMul, Nat.reduceSub, Nat.reduceEqDiff, Nat.reduceBEq, Nat.reduceDiv, reduceCtorEq, Int.reduceToNat]
    refine call_by (toSaid (xs.getD i default) (by have := wtL_at (f := TSaid.wt) hi default; omega)) rfl ?_
    have hps2 := hps
    simp only [hlt, hup, hpl, hpa, hps2, go_sem, brS_dec, brS_beq, brS_bne, brK_dec, brK_beq, brK_bne, Nat.reduceLT, Nat.reduceLeDiff, Nat.reduceAdd, Nat.reduceMul, Nat.reduceSub, Nat.reduceEqDiff, Nat.reduceBEq, Nat.reduceDiv, reduceCtorEq, Int.reduceToNat]
    refine hF _ ?_ trivial
    simp only [hps2, hup, go_sem, brS_dec, brS_beq, brS_bne, brK_dec, brK_beq, brK_bne, Nat.reduceLT, Nat.reduceLeDiff, Nat.reduceAdd, Nat.reduceMul, Nat.reduceSub, Nat.reduceEqDiff, Nat.reduceBEq, Nat.reduceDiv, reduceCtorEq, Int.reduceToNat]
  · intro _ F
    simp only [hpn, go_sem, brS_dec, brS_beq, brS_bne, brK_dec, brK_beq, brK_bne, Nat.reduceLT, Nat.reduceLeDiff, Nat.reduceAdd, Nat.reduceMul, Nat.reduceSub, Nat.reduceEqDiff, Nat.reduceBEq, Nat.reduceDiv, reduceCtorEq, Int.reduceToNat]
    try rfl
theorem toServerS (xs : List TServer) (hx : wtL TServer.wt xs ≤ 1048576) : Sat Tryz.prog G 25 [.val false [.l none 2 (xs.map (TServer.row none))]] (.val false [.l (some tys.tServer) 2 (xs.map (TServer.row (some tys)))]) := by
  refine sat_of_go (L := tiOf Tryz.prog) (fun T ti h => h) false [[0], [0, 3], [0, 3, 4], [0, 3, 4, 11], [0, 3, 4], [0, 3, 4], [2, 3]] mx Tryz.func25 (by decide) rfl (by show 1 ≤ Tryz.f25.ntmps; decide) ?_
  have hlen : xs.length ≤ wtL TServer.wt xs := wtL_len
  have hp0 := toPart_zero (TServer.row (some tys)) [C.v (.slice none 0 0), C.v (.int .i64 0)] xs
  have hpn := toPart_all (TServer.row (some tys)) [C.v (.slice none 0 0), C.v (.int .i64 0)] xs
  simp only [go_sem, brS_dec, brS_beq, brS_bne, brK_dec, brK_beq, brK_bne, Nat.reduceLT, Nat.reduceLeDiff, Nat.reduceAdd, Nat.reduceMul, Nat.reduceSub, Nat.reduceEqDiff, Nat.reduceBEq, Nat.reduceDiv, reduceCtorEq, Int.reduceToNat]
  refine ⟨⟨by omega, by omega⟩, ?_⟩
  refine loop_n [0, 3, 4] xs.length (fun i => [(3, .val false [.l (some 125) 2 (toPart (TServer.row (some tys)) [C.v (.slice none 0 0), C.v (.int .i64 0)] xs i)]), (4, .val false [.v (.int .i64 (i : Int))])]) (fun _ => True) ?_ trivial ?_ ?_
  · simp only [hp0, go_sem, brS_dec, brS_beq, brS_bne, brK_dec, brK_beq, brK_bne, Nat.reduceLT, Nat.reduceLeDiff, Nat.reduceAdd, Nat.reduceMul, Nat.reduceSub, Nat.reduceEqDiff, Nat.reduceBEq, Nat.reduceDiv, reduceCtorEq, Int.reduceToNat]
    try rfl
  · intro i hi _ F hF
    have hlt : ((i : Int) < (xs.length : Int)) := by omega
    have hup := wrap_up (i := i) (by omega)
    have hpl := toPart_length (TServer.row (some tys)) [C.v (.slice none 0 0), C.v (.int .i64 0)] xs (Nat.le_of_lt hi)
    have hpa := toPart_at (TServer.row (some tys)) [C.v (.slice none 0 0), C.v (.int .i64 0)] xs hi
    have hps := toPart_set (TServer.row (some tys)) [C.v (.slice none 0 0), C.v (.int .i64 0)] xs hi
    simp only [hlt, map_getD (TServer.row none) xs hi, hup, go_sem, brS_dec, brS_beq, brS_bne, brK_dec, brK_beq, brK_bne, Nat.reduceLT, Nat.reduceLeDiff, Nat.reduceAdd, Nat.reduceMul, Nat.reduceSub, Nat.reduceEqDiff, Nat.reduceBEq, Nat.reduceDiv, reduceCtorEq, Int.reduceToNat]
    refine call_by (toServer (xs.getD i default) (by have := wtL_at (f := TServer.wt) hi default; omega)) rfl ?_
    have hps2 := hps
    simp only [hlt, hup, hpl, hpa, hps2, go_sem, brS_dec, brS_beq, brS_bne, brK_dec, brK_beq, brK_bne, Nat.reduceLT, Nat.reduceLeDiff, Nat.reduceAdd, Nat.reduceMul, Nat.reduceSub, Nat.reduceEqDiff, Nat.reduceBEq, Nat.reduceDiv, reduceCtorEq, Int.reduceToNat]
    refine hF _ ?_ trivial
    simp only [hps2, hup, go_sem, brS_dec, brS_beq, brS_bne, brK_dec, brK_beq, brK_bne, Nat.reduceLT, Nat.reduceLeDiff, Nat.reduceAdd, Nat.reduceMul, Nat.reduceSub, Nat.reduceEqDiff, Nat.reduceBEq, Nat.reduceDiv, reduceCtorEq, Int.reduceToNat]
  · intro _ F
    simp only [hpn, go_sem, brS_dec, brS_beq, brS_bne, brK_dec, brK_beq, brK_bne, Nat.reduceLT, Nat.reduceLeDiff, Nat.reduceAdd, Nat.reduceMul, Nat.reduceSub, Nat.reduceEqDiff, Nat.reduceBEq, Nat.reduceDiv, reduceCtorEq, Int.reduceToNat]
    try rfl
theorem toWorld (x : TWorld) (hx : TWorld.wt x ≤ 1048576) : Sat Tryz.prog G 7 [.val true (TWorld.row none x)] (.val true (TWorld.row (some tys) x)) := by
  refine sat_of_go (L := tiOf Tryz.prog) (fun T ti h => h) false [[1, 2], [1, 2, 3], [1, 2, 3], [1, 2, 3], [1, 2, 3], [1, 2, 3], [1, 2, 3], [1, 2, 3], [2, 3], [2]] mx Tryz.func7 (by decide) rfl (by show 1 ≤ Tryz.f7.ntmps; decide) ?_
  have hw : TWorld.wt x = (wtL TActor.wt x.fActors) + (wtL TZone.wt x.fZones) + (wtL TSaid.wt x.fSaid) + (wtL TServer.wt x.fServers) + (TKnown.wt x.fKnown) + (TCache.wt x.fCache) := rfl
  simp only [go_sem, brS_dec, brS_beq, brS_bne, brK_dec, brK_beq, brK_bne, Nat.reduceLT, Nat.reduceLeDiff, Nat.reduceAdd, Nat.reduceMul, Nat.reduceSub, Nat.reduceEqDiff, Nat.reduceBEq, Nat.reduceDiv, reduceCtorEq, Int.reduceToNat]
  refine call_by (toActorS x.fActors (by omega)) rfl ?_
  simp only [go_sem, brS_dec, brS_beq, brS_bne, brK_dec, brK_beq, brK_bne, Nat.reduceLT, Nat.reduceLeDiff, Nat.reduceAdd, Nat.reduceMul, Nat.reduceSub, Nat.reduceEqDiff, Nat.reduceBEq, Nat.reduceDiv, reduceCtorEq, Int.reduceToNat]
  refine call_by (toZoneS x.fZones (by omega)) rfl ?_
  simp only [go_sem, brS_dec, brS_beq, brS_bne, brK_dec, brK_beq, brK_bne, Nat.reduceLT, Nat.reduceLeDiff, Nat.reduceAdd, Nat.reduceMul, Nat.reduceSub, Nat.reduceEqDiff, Nat.reduceBEq, Nat.reduceDiv, reduceCtorEq, Int.reduceToNat]
  refine call_by (toSaidS x.fSaid (by omega)) rfl ?_
  simp only [go_sem, brS_dec, brS_beq, brS_bne, brK_dec, brK_beq, brK_bne, Nat.reduceLT, Nat.reduceLeDiff, Nat.reduceAdd, Nat.reduceMul, Nat.reduceSub, Nat.reduceEqDiff, Nat.reduceBEq, Nat.reduceDiv, reduceCtorEq, Int.reduceToNat]
  refine call_by (toServerS x.fServers (by omega)) rfl ?_
  simp only [go_sem, brS_dec, brS_beq, brS_bne, brK_dec, brK_beq, brK_bne, Nat.reduceLT, Nat.reduceLeDiff, Nat.reduceAdd, Nat.reduceMul, Nat.reduceSub, Nat.reduceEqDiff, Nat.reduceBEq, Nat.reduceDiv, reduceCtorEq, Int.reduceToNat]
  refine call_by (toKnown x.fKnown (by omega)) rfl ?_
  simp only [TKnown.row, go_sem, brS_dec, brS_beq, brS_bne, brK_dec, brK_beq, brK_bne, Nat.reduceLT, Nat.reduceLeDiff, Nat.reduceAdd, Nat.reduceMul, Nat.reduceSub, Nat.reduceEqDiff, Nat.reduceBEq, Nat.reduceDiv, reduceCtorEq, Int.reduceToNat]
  refine call_by (toCache x.fCache (by omega)) rfl ?_
  simp only [TCache.row, go_sem, brS_dec, brS_beq, brS_bne, brK_dec, brK_beq, brK_bne, Nat.reduceLT, Nat.reduceLeDiff, Nat.reduceAdd, Nat.reduceMul, Nat.reduceSub, Nat.reduceEqDiff, Nat.reduceBEq, Nat.reduceDiv, reduceCtorEq, Int.reduceToNat]
  all_goals rfl
end Go.Proofs.Vt
