/- A part of the proof of the card: lemmas that the text with the card leans on (see there for what is proved, and under which conditions). -/
import Derived.Test.YtgjdionnbbnmpaaGreatDoorVfac
namespace Go.Proofs.Vt
open Go Go.RowKit Go.Proofs.Vm Go.Proofs
set_option maxRecDepth 10000
set_option linter.unusedVariables false
set_option linter.unusedSimpArgs false
attribute [local go_sem] go_skip go_region go_draw go_seq go_if go_block go_loop go_exit go_ret seqK_normal seqK_exit seqK_ret blockK_normal blockK_exit blockK_ret endK_ret endK_normal runK_at keepK_at St.only onlyF inside_ptr inside_al inside_eo inside_dead inside_val inside_box inside_ep inside_tup inside_fn memN goRun_nil goRun_free goRun_if opK_at skK_at mvK_at goOp_call goOp_callFn goOp_pick goOp_builtin goOp_move goOp_assign goOp_alloc goOp_box goOp_build goOp_buildSlice goOp_load goOp_store goOp_nilCheck goOp_binOp goOp_unOp goOp_convert goOp_makeFunc goOp_makeSlice goOp_slice goOp_fieldAddr goOp_field goOp_indexAddr goOp_index goOp_extract quietB buildOk partsOk ownless plainK evOp evMoveOp evLoadMove evLoadFreeze C.frz frzR initFrom goMove evAssign evMove evNil evFunc capOf capsOf Cap.arg ptOf SV.step evFieldAddr evField evLoad evStore evIndexAddr evIndex evAlloc evBox evBuild evBuildSlice evMake evLen evAppend evExtract evBin evUn unV evConvert evBuiltin takeAll placesOf placeParts partRows newsOf rowsOwn LS.width LS.rows fieldOf zeroOk splice goneR skipTo yieldOf argOf argsOf SV.isRes St.copy get_nil get_step put_step St.puts set_nil set_step St.forget kill_nil kill_step killAt_nil killAt_step cond_true cond_false St.killSeg St.cell St.setCell SV.setCell SV.root SV.names SV.namesAt rowOwn C.own constOk Value.cells Value.oneCell' St.list lsOf St.flat binV intV strV boolV shiftV isShift resOf resAll St.take drawDsts dstsQ quietOp takeRes Option.map_some Option.map_none Option.bind_some Option.getD_some Option.getD_none Nat.zero_add Nat.add_zero if_true if_false ite_true ite_false dite_true List.length_map List.length_nil List.length_cons List.map_cons List.map_nil List.all_cons List.all_nil List.getElem?_cons_zero List.getElem?_cons_succ List.getElem?_nil List.getElem?_toArray List.set_cons_zero List.set_cons_succ List.take_succ_cons List.take_zero List.drop_succ_cons List.drop_zero List.drop_nil List.nil_append List.cons_append List.append_nil List.getD_cons_zero List.getD_cons_succ List.all_eq_true true_and and_true or_true true_or or_false false_or Bool.or_false Bool.false_or Bool.or_self Bool.or_true Bool.true_or Bool.and_true Bool.true_and Bool.and_self Bool.and_false Bool.false_and Bool.not_true Bool.not_false Bool.false_eq_true decide_eq_true_eq decide_eq_false_iff_not decide_true decide_false beq_self_eq_true true_implies false_implies forall_const implies_true not_true not_false_iff ne_eq Int.toNat_natCast Int.natCast_nonneg eq_self exists_const if_pos Nat.succ_ne_zero
attribute [local go_sem high] brS_true brS_false brS_not brK_true brK_false brK_not
attribute [local go_sem] ti3 ti4 ti5 ti9 ti22 ti23 ti24 ti25 ti26 ti27 ti29 ti30 ti32 ti34 ti37 ti38 ti39 ti40 ti41 ti42 ti44 ti45 ti47 ti49 ti53 ti54 ti56 ti59 ti60 ti62 ti72 ti90 ti92 ti98 ti100 ti108 ti111 ti114 ti118 ti119 ti122 ti125 ti138 ti140 ti141 ti143 ti145 ti148 ti150 ti163 ti166 ti168 ti170 ti172 ti175 ti177 ti179 ti181 ti183 ti228 ti230 ti282 Tryz.ntmps9 Tryz.results9 Tryz.ntmps14 Tryz.results14 Tryz.ntmps30 Tryz.results30 Tryz.ntmps31 Tryz.results31 Tryz.ntmps32 Tryz.results32 Tryz.ntmps33 Tryz.results33 Tryz.ntmps34 Tryz.results34 Tryz.ntmps35 Tryz.results35 Tryz.ntmps48 Tryz.results48 Tryz.ntmps49 Tryz.results49 Tryz.ntmps64 Tryz.results64 Tryz.ntmps65 Tryz.results65 Tryz.ntmps66 Tryz.results66 Tryz.ntmps67 Tryz.results67 Tryz.ntmps68 Tryz.results68 Tryz.ntmps69 Tryz.results69 Tryz.ntmps85 Tryz.results85 Tryz.ntmps86 Tryz.results86 Tryz.ntmps97 Tryz.results97 Tryz.ntmps98 Tryz.results98 Tryz.ntmps99 Tryz.results99 Tryz.ntmps118 Tryz.results118 Tryz.ntmps119 Tryz.results119 Tryz.ntmps120 Tryz.results120 Tryz.ntmps126 Tryz.results126 Tryz.ntmps148 Tryz.results148 Tryz.ntmps149 Tryz.results149 Tryz.ntmps160 Tryz.results160 Tryz.ntmps161 Tryz.results161
attribute [local go_sem] rowsI_length rowsS_length rowsI_frz rowsS_frz rowsI_own rowsS_own Option.map_none Option.map_some bs_size bs_toList Int.lt_irrefl tys_tInt tys_tString tys_tSig tys_tSigned tys_tEntry tys_tSignedS tys_tFork tys_tZone tys_tStored tys_tActor tys_tSaid tys_tServer TKeys_len TKeys_at0 TKeys_get0 TKeys_at1 TKeys_get1 TKeys_drop TKeys_full TKeys_frz TKeys_own TKeys_owns TKeys_noImm TSig_len TSig_at0 TSig_get0 TSig_at1 TSig_get1 TSig_drop TSig_full TSig_frz TSig_own TSig_owno TSig_noImm TEntry_len TEntry_at0 TEntry_get0 TEntry_at1 TEntry_get1 TEntry_at2 TEntry_get2 TEntry_at3 TEntry_get3 TEntry_drop TEntry_full TEntry_frz TEntry_own TEntry_owns TEntry_noImm TProof_len TProof_at0 TProof_get0 TProof_at1 TProof_get1 TProof_drop TProof_full TProof_frz TProof_own TProof_owns TProof_noImm TGap_len TGap_at0 TGap_get0 TGap_sub1_Entry TGap_at1 TGap_get1 TGap_at2 TGap_get2 TGap_at3 TGap_get3 TGap_at4 TGap_get4 TGap_sub5_Entry TGap_at5 TGap_get5 TGap_at6 TGap_get6 TGap_at7 TGap_get7 TGap_at8 TGap_get8 TGap_sub9_Proof TGap_at9 TGap_get9 TGap_at10 TGap_get10 TGap_sub11_Proof TGap_at11 TGap_get11 TGap_at12 TGap_get12 TGap_drop TGap_full TGap_frz TGap_own TGap_owns TGap_noImm THead_len THead_at0 THead_get0 THead_at1 THead_get1 THead_at2 THead_get2 THead_at3 THead_get3 THead_at4 THead_get4 THead_at5 THead_get5 THead_at6 THead_get6 THead_at7 THead_get7 THead_sub8_Keys THead_at8 THead_get8 THead_at9 THead_get9 THead_sub10_Keys THead_at10 THead_get10 THead_at11 THead_get11 THead_at12 THead_get12 THead_sub13_Keys THead_at13 THead_get13 THead_at14 THead_get14 THead_at15 THead_get15 THead_drop THead_full THead_frz THead_own THead_owns THead_noImm TSigned_len TSigned_sub0_Head TSigned_at0 TSigned_get0 TSigned_at1 TSigned_get1 TSigned_at2 TSigned_get2 TSigned_at3 TSigned_get3 TSigned_at4 TSigned_get4 TSigned_at5 TSigned_get5 TSigned_at6 TSigned_get6 TSigned_at7 TSigned_get7 TSigned_sub8_Keys TSigned_at8 TSigned_get8 TSigned_at9 TSigned_get9 TSigned_sub10_Keys TSigned_at10 TSigned_get10 TSigned_at11 TSigned_get11 TSigned_at12 TSigned_get12 TSigned_sub13_Keys TSigned_at13 TSigned_get13 TSigned_at14 TSigned_get14 TSigned_at15 TSigned_get15 TSigned_at16 TSigned_get16 TSigned_drop TSigned_full TSigned_frz TSigned_own TSigned_owns TSigned_noImm TFork_len TFork_sub0_Signed TFork_sub0_Head TFork_at0 TFork_get0 TFork_at1 TFork_get1 TFork_at2 TFork_get2 TFork_at3 TFork_get3 TFork_at4 TFork_get4 TFork_at5 TFork_get5 TFork_at6 TFork_get6 TFork_at7 TFork_get7 TFork_sub8_Keys TFork_at8 TFork_get8 TFork_at9 TFork_get9 TFork_sub10_Keys TFork_at10 TFork_get10 TFork_at11 TFork_get11 TFork_at12 TFork_get12 TFork_sub13_Keys TFork_at13 TFork_get13 TFork_at14 TFork_get14 TFork_at15 TFork_get15 TFork_at16 TFork_get16 TFork_sub17_Signed TFork_sub17_Head TFork_at17 TFork_get17 TFork_at18 TFork_get18 TFork_at19 TFork_get19 TFork_at20 TFork_get20 TFork_at21 TFork_get21 TFork_at22 TFork_get22 TFork_at23 TFork_get23 TFork_at24 TFork_get24 TFork_sub25_Keys TFork_at25 TFork_get25 TFork_at26 TFork_get26 TFork_sub27_Keys TFork_at27 TFork_get27 TFork_at28 TFork_get28 TFork_at29 TFork_get29 TFork_sub30_Keys TFork_at30 TFork_get30 TFork_at31 TFork_get31 TFork_at32 TFork_get32 TFork_at33 TFork_get33 TFork_sub34_Signed TFork_sub34_Head TFork_at34 TFork_get34 TFork_at35 TFork_get35 TFork_at36 TFork_get36 TFork_at37 TFork_get37 TFork_at38 TFork_get38 TFork_at39 TFork_get39 TFork_at40 TFork_get40 TFork_at41 TFork_get41 TFork_sub42_Keys TFork_at42 TFork_get42 TFork_at43 TFork_get43 TFork_sub44_Keys TFork_at44 TFork_get44 TFork_at45 TFork_get45 TFork_at46 TFork_get46 TFork_sub47_Keys TFork_at47 TFork_get47 TFork_at48 TFork_get48 TFork_at49 TFork_get49 TFork_at50 TFork_get50 TFork_drop TFork_full TFork_frz TFork_own TFork_owns TFork_noImm TZone_len TZone_at0 TZone_get0 TZone_at1 TZone_get1 TZone_drop TZone_full TZone_frz TZone_own TZone_owns TZone_noImm TAnswer_len TAnswer_at0 TAnswer_get0 TAnswer_at1 TAnswer_get1 TAnswer_sub2_Entry TAnswer_at2 TAnswer_get2 TAnswer_at3 TAnswer_get3 TAnswer_at4 TAnswer_get4 TAnswer_at5 TAnswer_get5 TAnswer_sub6_Proof TAnswer_at6 TAnswer_get6 TAnswer_at7 TAnswer_get7 TAnswer_sub8_Gap TAnswer_at8 TAnswer_get8 TAnswer_sub9_Entry TAnswer_at9 TAnswer_get9 TAnswer_at10 TAnswer_get10 TAnswer_at11 TAnswer_get11 TAnswer_at12 TAnswer_get12 TAnswer_sub13_Entry TAnswer_at13 TAnswer_get13 TAnswer_at14 TAnswer_get14 TAnswer_at15 TAnswer_get15 TAnswer_at16 TAnswer_get16 TAnswer_sub17_Proof TAnswer_at17 TAnswer_get17 TAnswer_at18 TAnswer_get18 TAnswer_sub19_Proof TAnswer_at19 TAnswer_get19 TAnswer_at20 TAnswer_get20 TAnswer_drop TAnswer_full TAnswer_frz TAnswer_own TAnswer_owns TAnswer_noImm rowLSignedS_len rowLSignedS_at rowLSignedS_get rowLSignedS_frz rowLSignedS_own rowLSignedS_noImm TKnown_len TKnown_at0 TKnown_get0 TKnown_at1 TKnown_get1 TKnown_drop TKnown_full TKnown_frz TKnown_own TKnown_owns TKnown_noImm TServer_len TServer_at0 TServer_get0 TServer_at1 TServer_get1 TServer_drop TServer_full TServer_frz TServer_own TServer_owns TServer_noImm TStored_len TStored_at0 TStored_get0 TStored_at1 TStored_get1 TStored_sub2_Answer TStored_at2 TStored_get2 TStored_at3 TStored_get3 TStored_sub4_Entry TStored_at4 TStored_get4 TStored_at5 TStored_get5 TStored_at6 TStored_get6 TStored_at7 TStored_get7 TStored_sub8_Proof TStored_at8 TStored_get8 TStored_at9 TStored_get9 TStored_sub10_Gap TStored_at10 TStored_get10 TStored_sub11_Entry TStored_at11 TStored_get11 TStored_at12 TStored_get12 TStored_at13 TStored_get13 TStored_at14 TStored_get14 TStored_sub15_Entry TStored_at15 TStored_get15 TStored_at16 TStored_get16 TStored_at17 TStored_get17 TStored_at18 TStored_get18 TStored_sub19_Proof TStored_at19 TStored_get19 TStored_at20 TStored_get20 TStored_sub21_Proof TStored_at21 TStored_get21 TStored_at22 TStored_get22 TStored_drop TStored_full TStored_frz TStored_own TStored_owns TStored_noImm TCache_len TCache_at0 TCache_get0 TCache_drop TCache_full TCache_frz TCache_own TCache_owns TCache_noImm TActor_len TActor_at0 TActor_get0 TActor_drop TActor_full TActor_frz TActor_own TActor_owns TActor_noImm TSaid_len TSaid_sub0_Zone TSaid_at0 TSaid_get0 TSaid_at1 TSaid_get1 TSaid_at2 TSaid_get2 TSaid_drop TSaid_full TSaid_frz TSaid_own TSaid_owns TSaid_noImm TWorld_len TWorld_at0 TWorld_get0 TWorld_at1 TWorld_get1 TWorld_at2 TWorld_get2 TWorld_at3 TWorld_get3 TWorld_at4 TWorld_get4 TWorld_sub5_Known TWorld_at5 TWorld_get5 TWorld_at6 TWorld_get6 TWorld_sub7_Cache TWorld_at7 TWorld_get7 TWorld_drop TWorld_full TWorld_frz TWorld_own TWorld_owns TWorld_noImm
variable {G : Glob}
theorem eqIntS (xs ys : List Int) (hx : xs.length ≤ 1048576) (hy : ys.length ≤ 1048576) : Sat Tryz.prog G 97 [.val false [.l none 1 (rowsI xs)], .val false [.l none 1 (rowsI ys)]] (.val false [.v (.bool (decide (xs = ys)))]) := by
  refine sat_of_go (L := tiOf Tryz.prog) (fun T ti h => h) false [[0, 1], [0, 1, 10], [4], [0, 1, 5], [0, 1, 5, 14], [0, 1, 5], [0, 1, 5, 25], [4], [4]] mx Tryz.func97 (by decide) rfl (by show 2 ≤ Tryz.f97.ntmps; decide) ?_
  by_cases hlen : xs.length = ys.length
  · have hlen2 : ((xs.length : Int) != (ys.length : Int)) = false := by simp [hlen]
    simp only [hlen2, go_sem, brS_dec, brS_beq, brS_bne, brK_dec, brK_beq, brK_bne, Nat.reduceLT, Nat.reduceLeDiff, Nat.reduceAdd, Nat.reduceMul, Nat.reduceSub, Nat.reduceEqDiff, Nat.reduceBEq, Nat.reduceDiv, reduceCtorEq, Int.reduceToNat]
    refine loop_n [0, 1, 5] xs.length (fun i => [(5, .val false [.v (.int .i64 (i : Int))])]) (fun i => ∀ j, j < i → xs.getD j 0 = ys.getD j 0) ?_ (by simp) ?_ ?_
    · simp only [go_sem, brS_dec, brS_beq, brS_bne, brK_dec, brK_beq, brK_bne, Nat.reduceLT, Nat.reduceLeDiff, Nat.reduceAdd, Nat.reduceMul, Nat.reduceSub, Nat.reduceEqDiff, Nat.reduceBEq, Nat.reduceDiv, reduceCtorEq, Int.reduceToNat]
      try rfl
    · intro i hi hq F hF
      have hlt : ((i : Int) < (xs.length : Int)) := by omega
      have hi2 : i < ys.length := by omega
      have hlt2 : ((i : Int) < (ys.length : Int)) := by omega
      have hup := wrap_up (i := i) (by omega)
      simp only [hlt, hlt2, rowsI_at xs hi, rowsI_at ys hi2, hup, go_sem, brS_dec, brS_beq, brS_bne, brK_dec, brK_beq, brK_bne, Nat.reduceLT, Nat.reduceLeDiff, Nat.reduceAdd, Nat.reduceMul, Nat.reduceSub, Nat.reduceEqDiff, Nat.reduceBEq, Nat.reduceDiv, reduceCtorEq, Int.reduceToNat]
      refine ⟨rfl, fun hne => ?_, fun hee => ?_⟩
      · have hxy : ¬ (xs = ys) := by rintro rfl; simp at hne
        simp only [hxy, go_sem, brS_dec, brS_beq, brS_bne, brK_dec, brK_beq, brK_bne, Nat.reduceLT, Nat.reduceLeDiff, Nat.reduceAdd, Nat.reduceMul, Nat.reduceSub, Nat.reduceEqDiff, Nat.reduceBEq, Nat.reduceDiv, reduceCtorEq, Int.reduceToNat]
      · have hee2 : xs.getD i 0 = ys.getD i 0 := by simpa using hee
        refine hF _ ?_ ?_
        · simp only [hup, go_sem, brS_dec, brS_beq, brS_bne, brK_dec, brK_beq, brK_bne, Nat.reduceLT, Nat.reduceLeDiff, Nat.reduceAdd, Nat.reduceMul, Nat.reduceSub, Nat.reduceEqDiff, Nat.reduceBEq, Nat.reduceDiv, reduceCtorEq, Int.reduceToNat]
        · intro j hj
          rcases Nat.lt_or_ge j i with h | h
          · exact hq j h
          · obtain rfl : j = i := by omega
            exact hee2
    · intro hq F
      have he : xs = ys := by
        apply List.ext_getElem hlen
        intro j h1 h2
        have := hq j h1
        simpa [List.getD_eq_getElem?_getD, h1, h2] using this
      subst he
      simp only [go_sem, brS_dec, brS_beq, brS_bne, brK_dec, brK_beq, brK_bne, Nat.reduceLT, Nat.reduceLeDiff, Nat.reduceAdd, Nat.reduceMul, Nat.reduceSub, Nat.reduceEqDiff, Nat.reduceBEq, Nat.reduceDiv, reduceCtorEq, Int.reduceToNat]
  · have hne : ¬ (xs = ys) := fun h => hlen (by rw [h])
    have hlen2 : ((xs.length : Int) != (ys.length : Int)) = true := by simp; omega
    simp only [hlen2, hne, go_sem, brS_dec, brS_beq, brS_bne, brK_dec, brK_beq, brK_bne, Nat.reduceLT, Nat.reduceLeDiff, Nat.reduceAdd, Nat.reduceMul, Nat.reduceSub, Nat.reduceEqDiff, Nat.reduceBEq, Nat.reduceDiv, reduceCtorEq, Int.reduceToNat]
theorem eqKeys (x y : TKeys) (hx : TKeys.wt x ≤ 1048576) (hy : TKeys.wt y ≤ 1048576) : Sat Tryz.prog G 148 [.val true (TKeys.row none x), .val true (TKeys.row none y)] (.val false [.v (.bool (decide (x = y)))]) := by
  have hwx : TKeys.wt x = (x.fList.length) := rfl
  have hwy : TKeys.wt y = (y.fList.length) := rfl
  refine sat_of_go (L := tiOf Tryz.prog) (fun T ti h => h) false [[2, 3], [2, 3, 10], [4], [15], [4], [4]] mx Tryz.func148 (by decide) rfl (by show 2 ≤ Tryz.f148.ntmps; decide) ?_
  simp only [go_sem, brS_dec, brS_beq, brS_bne, brK_dec, brK_beq, brK_bne, Nat.reduceLT, Nat.reduceLeDiff, Nat.reduceAdd, Nat.reduceMul, Nat.reduceSub, Nat.reduceEqDiff, Nat.reduceBEq, Nat.reduceDiv, reduceCtorEq, Int.reduceToNat]
  refine call_by (eqIntS x.fList y.fList (by have h2 : x.fList.length ≤ x.fList.length := Nat.le_refl _; omega) (by have h2 : y.fList.length ≤ y.fList.length := Nat.le_refl _; omega)) rfl ?_
  by_cases heList : x.fList = y.fList
  · have hdList : decide (x.fList = y.fList) = true := decide_eq_true heList
    simp only [hdList, go_sem, brS_dec, brS_beq, brS_bne, brK_dec, brK_beq, brK_bne, Nat.reduceLT, Nat.reduceLeDiff, Nat.reduceAdd, Nat.reduceMul, Nat.reduceSub, Nat.reduceEqDiff, Nat.reduceBEq, Nat.reduceDiv, reduceCtorEq, Int.reduceToNat]
    by_cases heNeed : x.fNeed = y.fNeed
    · have hbNeed : (x.fNeed != y.fNeed) = false := by simp [heNeed]
      simp only [hbNeed, go_sem, brS_dec, brS_beq, brS_bne, brK_dec, brK_beq, brK_bne, Nat.reduceLT, Nat.reduceLeDiff, Nat.reduceAdd, Nat.reduceMul, Nat.reduceSub, Nat.reduceEqDiff, Nat.reduceBEq, Nat.reduceDiv, reduceCtorEq, Int.reduceToNat]
      have hxy : x = y := by cases x; cases y; simp_all
      simp only [hxy, go_sem, brS_dec, brS_beq, brS_bne, brK_dec, brK_beq, brK_bne, Nat.reduceLT, Nat.reduceLeDiff, Nat.reduceAdd, Nat.reduceMul, Nat.reduceSub, Nat.reduceEqDiff, Nat.reduceBEq, Nat.reduceDiv, reduceCtorEq, Int.reduceToNat]
      all_goals rfl
    · have hbNeed : (x.fNeed != y.fNeed) = true := by simp [heNeed]
      have hxy : ¬ (x = y) := fun h => heNeed (by rw [h])
      simp only [hbNeed, hxy, go_sem, brS_dec, brS_beq, brS_bne, brK_dec, brK_beq, brK_bne, Nat.reduceLT, Nat.reduceLeDiff, Nat.reduceAdd, Nat.reduceMul, Nat.reduceSub, Nat.reduceEqDiff, Nat.reduceBEq, Nat.reduceDiv, reduceCtorEq, Int.reduceToNat]
      all_goals rfl
  · have hdList : decide (x.fList = y.fList) = false := decide_eq_false heList
    have hxy : ¬ (x = y) := fun h => heList (by rw [h])
    simp only [hdList, hxy, go_sem, brS_dec, brS_beq, brS_bne, brK_dec, brK_beq, brK_bne, Nat.reduceLT, Nat.reduceLeDiff, Nat.reduceAdd, Nat.reduceMul, Nat.reduceSub, Nat.reduceEqDiff, Nat.reduceBEq, Nat.reduceDiv, reduceCtorEq, Int.reduceToNat]
    all_goals rfl
theorem eqSig (x y : TSig) : Sat Tryz.prog G 149 [.val true (TSig.row none x), .val true (TSig.row none y)] (.val false [.v (.bool (decide (x = y)))]) := by
  refine sat_of_go (L := tiOf Tryz.prog) (fun T ti h => h) false [[2, 3], [2, 3, 9], [4], [14], [4], [4]] mx Tryz.func149 (by decide) rfl (by show 2 ≤ Tryz.f149.ntmps; decide) ?_
  by_cases heKey : x.fKey = y.fKey
  · have hbKey : (x.fKey != y.fKey) = false := by simp [heKey]
    simp only [hbKey, go_sem, brS_dec, brS_beq, brS_bne, brK_dec, brK_beq, brK_bne, Nat.reduceLT, Nat.reduceLeDiff, Nat.reduceAdd, Nat.reduceMul, Nat.reduceSub, Nat.reduceEqDiff, Nat.reduceBEq, Nat.reduceDiv, reduceCtorEq, Int.reduceToNat]
    by_cases heTag : x.fTag = y.fTag
    · have hbTag : (x.fTag != y.fTag) = false := by simp [heTag]
      simp only [hbTag, go_sem, brS_dec, brS_beq, brS_bne, brK_dec, brK_beq, brK_bne, Nat.reduceLT, Nat.reduceLeDiff, Nat.reduceAdd, Nat.reduceMul, Nat.reduceSub, Nat.reduceEqDiff, Nat.reduceBEq, Nat.reduceDiv, reduceCtorEq, Int.reduceToNat]
      have hxy : x = y := by cases x; cases y; simp_all
      simp only [hxy, go_sem, brS_dec, brS_beq, brS_bne, brK_dec, brK_beq, brK_bne, Nat.reduceLT, Nat.reduceLeDiff, Nat.reduceAdd, Nat.reduceMul, Nat.reduceSub, Nat.reduceEqDiff, Nat.reduceBEq, Nat.reduceDiv, reduceCtorEq, Int.reduceToNat]
      all_goals rfl
    · have hbTag : (x.fTag != y.fTag) = true := by simp [heTag]
      have hxy : ¬ (x = y) := fun h => heTag (by rw [h])
      simp only [hbTag, hxy, go_sem, brS_dec, brS_beq, brS_bne, brK_dec, brK_beq, brK_bne, Nat.reduceLT, Nat.reduceLeDiff, Nat.reduceAdd, Nat.reduceMul, Nat.reduceSub, Nat.reduceEqDiff, Nat.reduceBEq, Nat.reduceDiv, reduceCtorEq, Int.reduceToNat]
      all_goals rfl
  · have hbKey : (x.fKey != y.fKey) = true := by simp [heKey]
    have hxy : ¬ (x = y) := fun h => heKey (by rw [h])
    simp only [hbKey, hxy, go_sem, brS_dec, brS_beq, brS_bne, brK_dec, brK_beq, brK_bne, Nat.reduceLT, Nat.reduceLeDiff, Nat.reduceAdd, Nat.reduceMul, Nat.reduceSub, Nat.reduceEqDiff, Nat.reduceBEq, Nat.reduceDiv, reduceCtorEq, Int.reduceToNat]
    all_goals rfl
theorem eqStringS (xs ys : List (List UInt8)) (hx : xs.length ≤ 1048576) (hy : ys.length ≤ 1048576) : Sat Tryz.prog G 120 [.val false [.l none 1 (rowsS xs)], .val false [.l none 1 (rowsS ys)]] (.val false [.v (.bool (decide (xs = ys)))]) := by
  refine sat_of_go (L := tiOf Tryz.prog) (fun T ti h => h) false [[0, 1], [0, 1, 10], [4], [0, 1, 5], [0, 1, 5, 14], [0, 1, 5], [0, 1, 5, 25], [4], [4]] mx Tryz.func120 (by decide) rfl (by show 2 ≤ Tryz.f120.ntmps; decide) ?_
  by_cases hlen : xs.length = ys.length
  · have hlen2 : ((xs.length : Int) != (ys.length : Int)) = false := by simp [hlen]
    simp only [hlen2, go_sem, brS_dec, brS_beq, brS_bne, brK_dec, brK_beq, brK_bne, Nat.reduceLT, Nat.reduceLeDiff, Nat.reduceAdd, Nat.reduceMul, Nat.reduceSub, Nat.reduceEqDiff, Nat.reduceBEq, Nat.reduceDiv, reduceCtorEq, Int.reduceToNat]
    refine loop_n [0, 1, 5] xs.length (fun i => [(5, .val false [.v (.int .i64 (i : Int))])]) (fun i => ∀ j, j < i → xs.getD j [] = ys.getD j []) ?_ (by simp) ?_ ?_
    · simp only [go_sem, brS_dec, brS_beq, brS_bne, brK_dec, brK_beq, brK_bne, Nat.reduceLT, Nat.reduceLeDiff, Nat.reduceAdd, Nat.reduceMul, Nat.reduceSub, Nat.reduceEqDiff, Nat.reduceBEq, Nat.reduceDiv, reduceCtorEq, Int.reduceToNat]
      try rfl
    · intro i hi hq F hF
      have hlt : ((i : Int) < (xs.length : Int)) := by omega
      have hi2 : i < ys.length := by omega
      have hlt2 : ((i : Int) < (ys.length : Int)) := by omega
      have hup := wrap_up (i := i) (by omega)
      simp only [hlt, hlt2, rowsS_at xs hi, rowsS_at ys hi2, hup, go_sem, brS_dec, brS_beq, brS_bne, brK_dec, brK_beq, brK_bne, Nat.reduceLT, Nat.reduceLeDiff, Nat.reduceAdd, Nat.reduceMul, Nat.reduceSub, Nat.reduceEqDiff, Nat.reduceBEq, Nat.reduceDiv, reduceCtorEq, Int.reduceToNat]
      refine ⟨rfl, fun hee => ?_, fun hne => ?_⟩
      · have hee2 : xs.getD i [] = ys.getD i [] := by simpa using hee
        refine hF _ ?_ ?_
        · simp only [hup, go_sem, brS_dec, brS_beq, brS_bne, brK_dec, brK_beq, brK_bne, Nat.reduceLT, Nat.reduceLeDiff, Nat.reduceAdd, Nat.reduceMul, Nat.reduceSub, Nat.reduceEqDiff, Nat.reduceBEq, Nat.reduceDiv, reduceCtorEq, Int.reduceToNat]
        · intro j hj
          rcases Nat.lt_or_ge j i with h | h
          · exact hq j h
          · obtain rfl : j = i := by omega
            exact hee2
      · have hxy : ¬ (xs = ys) := by rintro rfl; simp at hne
        simp only [hxy, go_sem, brS_dec, brS_beq, brS_bne, brK_dec, brK_beq, brK_bne, Nat.reduceLT, Nat.reduceLeDiff, Nat.reduceAdd, Nat.reduceMul, Nat.reduceSub, Nat.reduceEqDiff, Nat.reduceBEq, Nat.reduceDiv, reduceCtorEq, Int.reduceToNat]
    · intro hq F
      have he : xs = ys := by
        apply List.ext_getElem hlen
        intro j h1 h2
        have := hq j h1
        simpa [List.getD_eq_getElem?_getD, h1, h2] using this
      subst he
      simp only [go_sem, brS_dec, brS_beq, brS_bne, brK_dec, brK_beq, brK_bne, Nat.reduceLT, Nat.reduceLeDiff, Nat.reduceAdd, Nat.reduceMul, Nat.reduceSub, Nat.reduceEqDiff, Nat.reduceBEq, Nat.reduceDiv, reduceCtorEq, Int.reduceToNat]
  · have hne : ¬ (xs = ys) := fun h => hlen (by rw [h])
    have hlen2 : ((xs.length : Int) != (ys.length : Int)) = true := by simp; omega
    simp only [hlen2, hne, go_sem, brS_dec, brS_beq, brS_bne, brK_dec, brK_beq, brK_bne, Nat.reduceLT, Nat.reduceLeDiff, Nat.reduceAdd, Nat.reduceMul, Nat.reduceSub, Nat.reduceEqDiff, Nat.reduceBEq, Nat.reduceDiv, reduceCtorEq, Int.reduceToNat]
theorem eqEntry (x y : TEntry) (hx : TEntry.wt x ≤ 1048576) (hy : TEntry.wt y ≤ 1048576) : Sat Tryz.prog G 86 [.val true (TEntry.row none x), .val true (TEntry.row none y)] (.val false [.v (.bool (decide (x = y)))]) := by
  have hwx : TEntry.wt x = (x.fLabel.length) + (wtL List.length x.fPath) := rfl
  have hwy : TEntry.wt y = (y.fLabel.length) + (wtL List.length y.fPath) := rfl
  refine sat_of_go (L := tiOf Tryz.prog) (fun T ti h => h) false [[2, 3], [2, 3, 9], [4], [2, 3, 14], [4], [2, 3, 19], [4], [25], [4], [4]] mx Tryz.func86 (by decide) rfl (by show 2 ≤ Tryz.f86.ntmps; decide) ?_
  by_cases heLabel : x.fLabel = y.fLabel
  · have hbLabel : (x.fLabel == y.fLabel) = true := by simp [heLabel]
    simp only [hbLabel, go_sem, brS_dec, brS_beq, brS_bne, brK_dec, brK_beq, brK_bne, Nat.reduceLT, Nat.reduceLeDiff, Nat.reduceAdd, Nat.reduceMul, Nat.reduceSub, Nat.reduceEqDiff, Nat.reduceBEq, Nat.reduceDiv, reduceCtorEq, Int.reduceToNat]
    by_cases heKind : x.fKind = y.fKind
    · have hbKind : (x.fKind != y.fKind) = false := by simp [heKind]
      simp only [hbKind, go_sem, brS_dec, brS_beq, brS_bne, brK_dec, brK_beq, brK_bne, Nat.reduceLT, Nat.reduceLeDiff, Nat.reduceAdd, Nat.reduceMul, Nat.reduceSub, Nat.reduceEqDiff, Nat.reduceBEq, Nat.reduceDiv, reduceCtorEq, Int.reduceToNat]
      by_cases heValue : x.fValue = y.fValue
      · have hbValue : (x.fValue != y.fValue) = false := by simp [heValue]
        simp only [hbValue, go_sem, brS_dec, brS_beq, brS_bne, brK_dec, brK_beq, brK_bne, Nat.reduceLT, Nat.reduceLeDiff, Nat.reduceAdd, Nat.reduceMul, Nat.reduceSub, Nat.reduceEqDiff, Nat.reduceBEq, Nat.reduceDiv, reduceCtorEq, Int.reduceToNat]
        refine call_by (eqStringS x.fPath y.fPath (by have h2 : x.fPath.length ≤ wtL List.length x.fPath := wtL_len; omega) (by have h2 : y.fPath.length ≤ wtL List.length y.fPath := wtL_len; omega)) rfl ?_
        by_cases hePath : x.fPath = y.fPath
        · have hdPath : decide (x.fPath = y.fPath) = true := decide_eq_true hePath
          simp only [hdPath, go_sem, brS_dec, brS_beq, brS_bne, brK_dec, brK_beq, brK_bne, Nat.reduceLT, Nat.reduceLeDiff, Nat.reduceAdd, Nat.reduceMul, Nat.reduceSub, Nat.reduceEqDiff, Nat.reduceBEq, Nat.reduceDiv, reduceCtorEq, Int.reduceToNat]
          have hxy : x = y := by cases x; cases y; simp_all
          simp only [hxy, go_sem, brS_dec, brS_beq, brS_bne, brK_dec, brK_beq, brK_bne, Nat.reduceLT, Nat.reduceLeDiff, Nat.reduceAdd, Nat.reduceMul, Nat.reduceSub, Nat.reduceEqDiff, Nat.reduceBEq, Nat.reduceDiv, reduceCtorEq, Int.reduceToNat]
          all_goals rfl
        · have hdPath : decide (x.fPath = y.fPath) = false := decide_eq_false hePath
          have hxy : ¬ (x = y) := fun h => hePath (by rw [h])
          simp only [hdPath, hxy, go_sem, brS_dec, brS_beq, brS_bne, brK_dec, brK_beq, brK_bne, Nat.reduceLT, Nat.reduceLeDiff, Nat.reduceAdd, Nat.reduceMul, Nat.reduceSub, Nat.reduceEqDiff, Nat.reduceBEq, Nat.reduceDiv, reduceCtorEq, Int.reduceToNat]
          all_goals rfl
      · have hbValue : (x.fValue != y.fValue) = true := by simp [heValue]
        have hxy : ¬ (x = y) := fun h => heValue (by rw [h])
        simp only [hbValue, hxy, go_sem, brS_dec, brS_beq, brS_bne, brK_dec, brK_beq, brK_bne, Nat.reduceLT, Nat.reduceLeDiff, Nat.reduceAdd, Nat.reduceMul, Nat.reduceSub, Nat.reduceEqDiff, Nat.reduceBEq, Nat.reduceDiv, reduceCtorEq, Int.reduceToNat]
        all_goals rfl
    · have hbKind : (x.fKind != y.fKind) = true := by simp [heKind]
      have hxy : ¬ (x = y) := fun h => heKind (by rw [h])
      simp only [hbKind, hxy, go_sem, brS_dec, brS_beq, brS_bne, brK_dec, brK_beq, brK_bne, Nat.reduceLT, Nat.reduceLeDiff, Nat.reduceAdd, Nat.reduceMul, Nat.reduceSub, Nat.reduceEqDiff, Nat.reduceBEq, Nat.reduceDiv, reduceCtorEq, Int.reduceToNat]
      all_goals rfl
  · have hbLabel : (x.fLabel == y.fLabel) = false := by simp [heLabel]
    have hxy : ¬ (x = y) := fun h => heLabel (by rw [h])
    simp only [hbLabel, hxy, go_sem, brS_dec, brS_beq, brS_bne, brK_dec, brK_beq, brK_bne, Nat.reduceLT, Nat.reduceLeDiff, Nat.reduceAdd, Nat.reduceMul, Nat.reduceSub, Nat.reduceEqDiff, Nat.reduceBEq, Nat.reduceDiv, reduceCtorEq, Int.reduceToNat]
    all_goals rfl
theorem eqProof (x y : TProof) (hx : TProof.wt x ≤ 1048576) (hy : TProof.wt y ≤ 1048576) : Sat Tryz.prog G 160 [.val true (TProof.row none x), .val true (TProof.row none y)] (.val false [.v (.bool (decide (x = y)))]) := by
  have hwx : TProof.wt x = (x.fPath.length) := rfl
  have hwy : TProof.wt y = (y.fPath.length) := rfl
  refine sat_of_go (L := tiOf Tryz.prog) (fun T ti h => h) false [[2, 3], [2, 3, 9], [4], [15], [4], [4]] mx Tryz.func160 (by decide) rfl (by show 2 ≤ Tryz.f160.ntmps; decide) ?_
  by_cases heAt : x.fAt = y.fAt
  · have hbAt : (x.fAt != y.fAt) = false := by simp [heAt]
    simp only [hbAt, go_sem, brS_dec, brS_beq, brS_bne, brK_dec, brK_beq, brK_bne, Nat.reduceLT, Nat.reduceLeDiff, Nat.reduceAdd, Nat.reduceMul, Nat.reduceSub, Nat.reduceEqDiff, Nat.reduceBEq, Nat.reduceDiv, reduceCtorEq, Int.reduceToNat]
    refine call_by (eqIntS x.fPath y.fPath (by have h2 : x.fPath.length ≤ x.fPath.length := Nat.le_refl _; omega) (by have h2 : y.fPath.length ≤ y.fPath.length := Nat.le_refl _; omega)) rfl ?_
    by_cases hePath : x.fPath = y.fPath
    · have hdPath : decide (x.fPath = y.fPath) = true := decide_eq_true hePath
      simp only [hdPath, go_sem, brS_dec, brS_beq, brS_bne, brK_dec, brK_beq, brK_bne, Nat.reduceLT, Nat.reduceLeDiff, Nat.reduceAdd, Nat.reduceMul, Nat.reduceSub, Nat.reduceEqDiff, Nat.reduceBEq, Nat.reduceDiv, reduceCtorEq, Int.reduceToNat]
      have hxy : x = y := by cases x; cases y; simp_all
      simp only [hxy, go_sem, brS_dec, brS_beq, brS_bne, brK_dec, brK_beq, brK_bne, Nat.reduceLT, Nat.reduceLeDiff, Nat.reduceAdd, Nat.reduceMul, Nat.reduceSub, Nat.reduceEqDiff, Nat.reduceBEq, Nat.reduceDiv, reduceCtorEq, Int.reduceToNat]
      all_goals rfl
    · have hdPath : decide (x.fPath = y.fPath) = false := decide_eq_false hePath
      have hxy : ¬ (x = y) := fun h => hePath (by rw [h])
      simp only [hdPath, hxy, go_sem, brS_dec, brS_beq, brS_bne, brK_dec, brK_beq, brK_bne, Nat.reduceLT, Nat.reduceLeDiff, Nat.reduceAdd, Nat.reduceMul, Nat.reduceSub, Nat.reduceEqDiff, Nat.reduceBEq, Nat.reduceDiv, reduceCtorEq, Int.reduceToNat]
      all_goals rfl
  · have hbAt : (x.fAt != y.fAt) = true := by simp [heAt]
    have hxy : ¬ (x = y) := fun h => heAt (by rw [h])
    simp only [hbAt, hxy, go_sem, brS_dec, brS_beq, brS_bne, brK_dec, brK_beq, brK_bne, Nat.reduceLT, Nat.reduceLeDiff, Nat.reduceAdd, Nat.reduceMul, Nat.reduceSub, Nat.reduceEqDiff, Nat.reduceBEq, Nat.reduceDiv, reduceCtorEq, Int.reduceToNat]
    all_goals rfl
theorem eqGap (x y : TGap) (hx : TGap.wt x ≤ 1048576) (hy : TGap.wt y ≤ 1048576) : Sat Tryz.prog G 161 [.val true (TGap.row none x), .val true (TGap.row none y)] (.val false [.v (.bool (decide (x = y)))]) := by
  have hwx : TGap.wt x = (TEntry.wt x.fBefore) + (TEntry.wt x.fAfter) + (TProof.wt x.fLeft) + (TProof.wt x.fRight) := rfl
  have hwy : TGap.wt y = (TEntry.wt y.fBefore) + (TEntry.wt y.fAfter) + (TProof.wt y.fLeft) + (TProof.wt y.fRight) := rfl
  refine sat_of_go (L := tiOf Tryz.prog) (fun T ti h => h) false [[2, 3], [2, 3, 9], [4], [2, 3, 15], [4], [2, 3, 21], [4], [2, 3, 27], [4], [33], [4], [4]] mx Tryz.func161 (by decide) rfl (by show 2 ≤ Tryz.f161.ntmps; decide) ?_
  by_cases heAt : x.fAt = y.fAt
  · have hbAt : (x.fAt != y.fAt) = false := by simp [heAt]
    simp only [hbAt, go_sem, brS_dec, brS_beq, brS_bne, brK_dec, brK_beq, brK_bne, Nat.reduceLT, Nat.reduceLeDiff, Nat.reduceAdd, Nat.reduceMul, Nat.reduceSub, Nat.reduceEqDiff, Nat.reduceBEq, Nat.reduceDiv, reduceCtorEq, Int.reduceToNat]
    refine call_by (eqEntry x.fBefore y.fBefore (by omega) (by omega)) rfl ?_
    by_cases heBefore : x.fBefore = y.fBefore
    · have hdBefore : decide (x.fBefore = y.fBefore) = true := decide_eq_true heBefore
      simp only [hdBefore, go_sem, brS_dec, brS_beq, brS_bne, brK_dec, brK_beq, brK_bne, Nat.reduceLT, Nat.reduceLeDiff, Nat.reduceAdd, Nat.reduceMul, Nat.reduceSub, Nat.reduceEqDiff, Nat.reduceBEq, Nat.reduceDiv, reduceCtorEq, Int.reduceToNat]
      refine call_by (eqEntry x.fAfter y.fAfter (by omega) (by omega)) rfl ?_
      by_cases heAfter : x.fAfter = y.fAfter
      · have hdAfter : decide (x.fAfter = y.fAfter) = true := decide_eq_true heAfter
        simp only [hdAfter, go_sem, brS_dec, brS_beq, brS_bne, brK_dec, brK_beq, brK_bne, Nat.reduceLT, Nat.reduceLeDiff, Nat.reduceAdd, Nat.reduceMul, Nat.reduceSub, Nat.reduceEqDiff, Nat.reduceBEq, Nat.reduceDiv, reduceCtorEq, Int.reduceToNat]
        refine call_by (eqProof x.fLeft y.fLeft (by omega) (by omega)) rfl ?_
        by_cases heLeft : x.fLeft = y.fLeft
        · have hdLeft : decide (x.fLeft = y.fLeft) = true := decide_eq_true heLeft
          simp only [hdLeft, go_sem, brS_dec, brS_beq, brS_bne, brK_dec, brK_beq, brK_bne, Nat.reduceLT, Nat.reduceLeDiff, Nat.reduceAdd, Nat.reduceMul, Nat.reduceSub, Nat.reduceEqDiff, Nat.reduceBEq, Nat.reduceDiv, reduceCtorEq, Int.reduceToNat]
          refine call_by (eqProof x.fRight y.fRight (by omega) (by omega)) rfl ?_
          by_cases heRight : x.fRight = y.fRight
          · have hdRight : decide (x.fRight = y.fRight) = true := decide_eq_true heRight
            simp only [hdRight, go_sem, brS_dec, brS_beq, brS_bne, brK_dec, brK_beq, brK_bne, Nat.reduceLT, Nat.reduceLeDiff, Nat.reduceAdd, Nat.reduceMul, Nat.reduceSub, Nat.reduceEqDiff, Nat.reduceBEq, Nat.reduceDiv, reduceCtorEq, Int.reduceToNat]
            have hxy : x = y := by cases x; cases y; simp_all
            simp only [hxy, go_sem, brS_dec, brS_beq, brS_bne, brK_dec, brK_beq, brK_bne, Nat.reduceLT, Nat.reduceLeDiff, Nat.reduceAdd, Nat.reduceMul, Nat.reduceSub, Nat.reduceEqDiff, Nat.reduceBEq, Nat.reduceDiv, reduceCtorEq, Int.reduceToNat]
            all_goals rfl
          · have hdRight : decide (x.fRight = y.fRight) = false := decide_eq_false heRight
            have hxy : ¬ (x = y) := fun h => heRight (by rw [h])
            simp only [hdRight, hxy, go_sem, brS_dec, brS_beq, brS_bne, brK_dec, brK_beq, brK_bne, Nat.reduceLT, Nat.reduceLeDiff, Nat.reduceAdd, Nat.reduceMul, Nat.reduceSub, Nat.reduceEqDiff, Nat.reduceBEq, Nat.reduceDiv, reduceCtorEq, Int.reduceToNat]
            all_goals rfl
        · have hdLeft : decide (x.fLeft = y.fLeft) = false := decide_eq_false heLeft
          have hxy : ¬ (x = y) := fun h => heLeft (by rw [h])
          simp only [hdLeft, hxy, go_sem, brS_dec, brS_beq, brS_bne, brK_dec, brK_beq, brK_bne, Nat.reduceLT, Nat.reduceLeDiff, Nat.reduceAdd, Nat.reduceMul, Nat.reduceSub, Nat.reduceEqDiff, Nat.reduceBEq, Nat.reduceDiv, reduceCtorEq, Int.reduceToNat]
          all_goals rfl
      · have hdAfter : decide (x.fAfter = y.fAfter) = false := decide_eq_false heAfter
        have hxy : ¬ (x = y) := fun h => heAfter (by rw [h])
        simp only [hdAfter, hxy, go_sem, brS_dec, brS_beq, brS_bne, brK_dec, brK_beq, brK_bne, Nat.reduceLT, Nat.reduceLeDiff, Nat.reduceAdd, Nat.reduceMul, Nat.reduceSub, Nat.reduceEqDiff, Nat.reduceBEq, Nat.reduceDiv, reduceCtorEq, Int.reduceToNat]
        all_goals rfl
    · have hdBefore : decide (x.fBefore = y.fBefore) = false := decide_eq_false heBefore
      have hxy : ¬ (x = y) := fun h => heBefore (by rw [h])
      simp only [hdBefore, hxy, go_sem, brS_dec, brS_beq, brS_bne, brK_dec, brK_beq, brK_bne, Nat.reduceLT, Nat.reduceLeDiff, Nat.reduceAdd, Nat.reduceMul, Nat.reduceSub, Nat.reduceEqDiff, Nat.reduceBEq, Nat.reduceDiv, reduceCtorEq, Int.reduceToNat]
      all_goals rfl
  · have hbAt : (x.fAt != y.fAt) = true := by simp [heAt]
    have hxy : ¬ (x = y) := fun h => heAt (by rw [h])
    simp only [hbAt, hxy, go_sem, brS_dec, brS_beq, brS_bne, brK_dec, brK_beq, brK_bne, Nat.reduceLT, Nat.reduceLeDiff, Nat.reduceAdd, Nat.reduceMul, Nat.reduceSub, Nat.reduceEqDiff, Nat.reduceBEq, Nat.reduceDiv, reduceCtorEq, Int.reduceToNat]
    all_goals rfl
theorem eqHead (x y : THead) (hx : THead.wt x ≤ 1048576) (hy : THead.wt y ≤ 1048576) : Sat Tryz.prog G 118 [.val true (THead.row none x), .val true (THead.row none y)] (.val false [.v (.bool (decide (x = y)))]) := by
  have hwx : THead.wt x = (TKeys.wt x.fKeys) + (TKeys.wt x.fHeirs) + (TKeys.wt x.fJudge) := rfl
  have hwy : THead.wt y = (TKeys.wt y.fKeys) + (TKeys.wt y.fHeirs) + (TKeys.wt y.fJudge) := rfl
  refine sat_of_go (L := tiOf Tryz.prog) (fun T ti h => h) false [[2, 3], [2, 3, 9], [4], [2, 3, 14], [4], [2, 3, 19], [4], [2, 3, 24], [4], [2, 3, 29], [4], [2, 3, 34], [4], [2, 3, 39], [4], [2, 3, 44], [4], [2, 3, 50], [4], [2, 3, 56], [4], [2, 3, 61], [4], [2, 3, 67], [4], [72], [4], [4]] mx Tryz.func118 (by decide) rfl (by show 2 ≤ Tryz.f118.ntmps; decide) ?_
  by_cases heZone : x.fZone = y.fZone
  · have hbZone : (x.fZone != y.fZone) = false := by simp [heZone]
    simp only [hbZone, go_sem, brS_dec, brS_beq, brS_bne, brK_dec, brK_beq, brK_bne, Nat.reduceLT, Nat.reduceLeDiff, Nat.reduceAdd, Nat.reduceMul, Nat.reduceSub, Nat.reduceEqDiff, Nat.reduceBEq, Nat.reduceDiv, reduceCtorEq, Int.reduceToNat]
    by_cases heEpoch : x.fEpoch = y.fEpoch
    · have hbEpoch : (x.fEpoch != y.fEpoch) = false := by simp [heEpoch]
      simp only [hbEpoch, go_sem, brS_dec, brS_beq, brS_bne, brK_dec, brK_beq, brK_bne, Nat.reduceLT, Nat.reduceLeDiff, Nat.reduceAdd, Nat.reduceMul, Nat.reduceSub, Nat.reduceEqDiff, Nat.reduceBEq, Nat.reduceDiv, reduceCtorEq, Int.reduceToNat]
      by_cases heKind : x.fKind = y.fKind
      · have hbKind : (x.fKind != y.fKind) = false := by simp [heKind]
        simp only [hbKind, go_sem, brS_dec, brS_beq, brS_bne, brK_dec, brK_beq, brK_bne, Nat.reduceLT, Nat.reduceLeDiff, Nat.reduceAdd, Nat.reduceMul, Nat.reduceSub, Nat.reduceEqDiff, Nat.reduceBEq, Nat.reduceDiv, reduceCtorEq, Int.reduceToNat]
        by_cases heTime : x.fTime = y.fTime
        · have hbTime : (x.fTime != y.fTime) = false := by simp [heTime]
          simp only [hbTime, go_sem, brS_dec, brS_beq, brS_bne, brK_dec, brK_beq, brK_bne, Nat.reduceLT, Nat.reduceLeDiff, Nat.reduceAdd, Nat.reduceMul, Nat.reduceSub, Nat.reduceEqDiff, Nat.reduceBEq, Nat.reduceDiv, reduceCtorEq, Int.reduceToNat]
          by_cases heUntil : x.fUntil = y.fUntil
          · have hbUntil : (x.fUntil != y.fUntil) = false := by simp [heUntil]
            simp only [hbUntil, go_sem, brS_dec, brS_beq, brS_bne, brK_dec, brK_beq, brK_bne, Nat.reduceLT, Nat.reduceLeDiff, Nat.reduceAdd, Nat.reduceMul, Nat.reduceSub, Nat.reduceEqDiff, Nat.reduceBEq, Nat.reduceDiv, reduceCtorEq, Int.reduceToNat]
            by_cases heCount : x.fCount = y.fCount
            · have hbCount : (x.fCount != y.fCount) = false := by simp [heCount]
              simp only [hbCount, go_sem, brS_dec, brS_beq, brS_bne, brK_dec, brK_beq, brK_bne, Nat.reduceLT, Nat.reduceLeDiff, Nat.reduceAdd, Nat.reduceMul, Nat.reduceSub, Nat.reduceEqDiff, Nat.reduceBEq, Nat.reduceDiv, reduceCtorEq, Int.reduceToNat]
              by_cases heRoot : x.fRoot = y.fRoot
              · have hbRoot : (x.fRoot != y.fRoot) = false := by simp [heRoot]
                simp only [hbRoot, go_sem, brS_dec, brS_beq, brS_bne, brK_dec, brK_beq, brK_bne, Nat.reduceLT, Nat.reduceLeDiff, Nat.reduceAdd, Nat.reduceMul, Nat.reduceSub, Nat.reduceEqDiff, Nat.reduceBEq, Nat.reduceDiv, reduceCtorEq, Int.reduceToNat]
                by_cases hePrev : x.fPrev = y.fPrev
                · have hbPrev : (x.fPrev != y.fPrev) = false := by simp [hePrev]
                  simp only [hbPrev, go_sem, brS_dec, brS_beq, brS_bne, brK_dec, brK_beq, brK_bne, Nat.reduceLT, Nat.reduceLeDiff, Nat.reduceAdd, Nat.reduceMul, Nat.reduceSub, Nat.reduceEqDiff, Nat.reduceBEq, Nat.reduceDiv, reduceCtorEq, Int.reduceToNat]
                  refine call_by (eqKeys x.fKeys y.fKeys (by omega) (by omega)) rfl ?_
                  by_cases heKeys : x.fKeys = y.fKeys
                  · have hdKeys : decide (x.fKeys = y.fKeys) = true := decide_eq_true heKeys
                    simp only [hdKeys, go_sem, brS_dec, brS_beq, brS_bne, brK_dec, brK_beq, brK_bne, Nat.reduceLT, Nat.reduceLeDiff, Nat.reduceAdd, Nat.reduceMul, Nat.reduceSub, Nat.reduceEqDiff, Nat.reduceBEq, Nat.reduceDiv, reduceCtorEq, Int.reduceToNat]
                    refine call_by (eqKeys x.fHeirs y.fHeirs (by omega) (by omega)) rfl ?_
                    by_cases heHeirs : x.fHeirs = y.fHeirs
                    · have hdHeirs : decide (x.fHeirs = y.fHeirs) = true := decide_eq_true heHeirs
                      simp only [hdHeirs, go_sem, brS_dec, brS_beq, brS_bne, brK_dec, brK_beq, brK_bne, Nat.reduceLT, Nat.reduceLeDiff, Nat.reduceAdd, Nat.reduceMul, Nat.reduceSub, Nat.reduceEqDiff, Nat.reduceBEq, Nat.reduceDiv, reduceCtorEq, Int.reduceToNat]
                      by_cases heWait : x.fWait = y.fWait
                      · have hbWait : (x.fWait != y.fWait) = false := by simp [heWait]
                        simp only [hbWait, go_sem, brS_dec, brS_beq, brS_bne, brK_dec, brK_beq, brK_bne, Nat.reduceLT, Nat.reduceLeDiff, Nat.reduceAdd, Nat.reduceMul, Nat.reduceSub, Nat.reduceEqDiff, Nat.reduceBEq, Nat.reduceDiv, reduceCtorEq, Int.reduceToNat]
                        refine call_by (eqKeys x.fJudge y.fJudge (by omega) (by omega)) rfl ?_
                        by_cases heJudge : x.fJudge = y.fJudge
                        · have hdJudge : decide (x.fJudge = y.fJudge) = true := decide_eq_true heJudge
                          simp only [hdJudge, go_sem, brS_dec, brS_beq, brS_bne, brK_dec, brK_beq, brK_bne, Nat.reduceLT, Nat.reduceLeDiff, Nat.reduceAdd, Nat.reduceMul, Nat.reduceSub, Nat.reduceEqDiff, Nat.reduceBEq, Nat.reduceDiv, reduceCtorEq, Int.reduceToNat]
                          by_cases heFrozen : x.fFrozen = y.fFrozen
                          · have hbFrozen : (x.fFrozen == y.fFrozen) = true := by simp [heFrozen]
                            simp only [hbFrozen, go_sem, brS_dec, brS_beq, brS_bne, brK_dec, brK_beq, brK_bne, Nat.reduceLT, Nat.reduceLeDiff, Nat.reduceAdd, Nat.reduceMul, Nat.reduceSub, Nat.reduceEqDiff, Nat.reduceBEq, Nat.reduceDiv, reduceCtorEq, Int.reduceToNat]
                            have hxy : x = y := by cases x; cases y; simp_all
                            simp only [hxy, go_sem, brS_dec, brS_beq, brS_bne, brK_dec, brK_beq, brK_bne, Nat.reduceLT, Nat.reduceLeDiff, Nat.reduceAdd, Nat.reduceMul, Nat.reduceSub, Nat.reduceEqDiff, Nat.reduceBEq, Nat.reduceDiv, reduceCtorEq, Int.reduceToNat]
                            all_goals rfl
                          · have hbFrozen : (x.fFrozen == y.fFrozen) = false := by simp [heFrozen]
                            have hxy : ¬ (x = y) := fun h => heFrozen (by rw [h])
                            simp only [hbFrozen, hxy, go_sem, brS_dec, brS_beq, brS_bne, brK_dec, brK_beq, brK_bne, Nat.reduceLT, Nat.reduceLeDiff, Nat.reduceAdd, Nat.reduceMul, Nat.reduceSub, Nat.reduceEqDiff, Nat.reduceBEq, Nat.reduceDiv, reduceCtorEq, Int.reduceToNat]
                            all_goals rfl
                        · have hdJudge : decide (x.fJudge = y.fJudge) = false := decide_eq_false heJudge
                          have hxy : ¬ (x = y) := fun h => heJudge (by rw [h])
                          simp only [hdJudge, hxy, go_sem, brS_dec, brS_beq, brS_bne, brK_dec, brK_beq, brK_bne, Nat.reduceLT, Nat.reduceLeDiff, Nat.reduceAdd, Nat.reduceMul, Nat.reduceSub, Nat.reduceEqDiff, Nat.reduceBEq, Nat.reduceDiv, reduceCtorEq, Int.reduceToNat]
                          all_goals rfl
                      · have hbWait : (x.fWait != y.fWait) = true := by simp [heWait]
                        have hxy : ¬ (x = y) := fun h => heWait (by rw [h])
                        simp only [hbWait, hxy, go_sem, brS_dec, brS_beq, brS_bne, brK_dec, brK_beq, brK_bne, Nat.reduceLT, Nat.reduceLeDiff, Nat.reduceAdd, Nat.reduceMul, Nat.reduceSub, Nat.reduceEqDiff, Nat.reduceBEq, Nat.reduceDiv, reduceCtorEq, Int.reduceToNat]
                        all_goals rfl
                    · have hdHeirs : decide (x.fHeirs = y.fHeirs) = false := decide_eq_false heHeirs
                      have hxy : ¬ (x = y) := fun h => heHeirs (by rw [h])
                      simp only [hdHeirs, hxy, go_sem, brS_dec, brS_beq, brS_bne, brK_dec, brK_beq, brK_bne, Nat.reduceLT, Nat.reduceLeDiff, Nat.reduceAdd, Nat.reduceMul, Nat.reduceSub, Nat.reduceEqDiff, Nat.reduceBEq, Nat.reduceDiv, reduceCtorEq, Int.reduceToNat]
                      all_goals rfl
                  · have hdKeys : decide (x.fKeys = y.fKeys) = false := decide_eq_false heKeys
                    have hxy : ¬ (x = y) := fun h => heKeys (by rw [h])
                    simp only [hdKeys, hxy, go_sem, brS_dec, brS_beq, brS_bne, brK_dec, brK_beq, brK_bne, Nat.reduceLT, Nat.reduceLeDiff, Nat.reduceAdd, Nat.reduceMul, Nat.reduceSub, Nat.reduceEqDiff, Nat.reduceBEq, Nat.reduceDiv, reduceCtorEq, Int.reduceToNat]
                    all_goals rfl
                · have hbPrev : (x.fPrev != y.fPrev) = true := by simp [hePrev]
                  have hxy : ¬ (x = y) := fun h => hePrev (by rw [h])
                  simp only [hbPrev, hxy, go_sem, brS_dec, brS_beq, brS_bne, brK_dec, brK_beq, brK_bne, Nat.reduceLT, Nat.reduceLeDiff, Nat.reduceAdd, Nat.reduceMul, Nat.reduceSub, Nat.reduceEqDiff, Nat.reduceBEq, Nat.reduceDiv, reduceCtorEq, Int.reduceToNat]
                  all_goals rfl
              · have hbRoot : (x.fRoot != y.fRoot) = true := by simp [heRoot]
                have hxy : ¬ (x = y) := fun h => heRoot (by rw [h])
                simp only [hbRoot, hxy, go_sem, brS_dec, brS_beq, brS_bne, brK_dec, brK_beq, brK_bne, Nat.reduceLT, Nat.reduceLeDiff, Nat.reduceAdd, Nat.reduceMul, Nat.reduceSub, Nat.reduceEqDiff, Nat.reduceBEq, Nat.reduceDiv, reduceCtorEq, Int.reduceToNat]
                all_goals rfl
            · have hbCount : (x.fCount != y.fCount) = true := by simp [heCount]
              have hxy : ¬ (x = y) := fun h => heCount (by rw [h])
              simp only [hbCount, hxy, go_sem, brS_dec, brS_beq, brS_bne, brK_dec, brK_beq, brK_bne, Nat.reduceLT, Nat.reduceLeDiff, Nat.reduceAdd, Nat.reduceMul, Nat.reduceSub, Nat.reduceEqDiff, Nat.reduceBEq, Nat.reduceDiv, reduceCtorEq, Int.reduceToNat]
              all_goals rfl
          · have hbUntil : (x.fUntil != y.fUntil) = true := by simp [heUntil]
            have hxy : ¬ (x = y) := fun h => heUntil (by rw [h])
            simp only [hbUntil, hxy, go_sem, brS_dec, brS_beq, brS_bne, brK_dec, brK_beq, brK_bne, Nat.reduceLT, Nat.reduceLeDiff, Nat.reduceAdd, Nat.reduceMul, Nat.reduceSub, Nat.reduceEqDiff, Nat.reduceBEq, Nat.reduceDiv, reduceCtorEq, Int.reduceToNat]
            all_goals rfl
        · have hbTime : (x.fTime != y.fTime) = true := by simp [heTime]
          have hxy : ¬ (x = y) := fun h => heTime (by rw [h])
          simp only [hbTime, hxy, go_sem, brS_dec, brS_beq, brS_bne, brK_dec, brK_beq, brK_bne, Nat.reduceLT, Nat.reduceLeDiff, Nat.reduceAdd, Nat.reduceMul, Nat.reduceSub, Nat.reduceEqDiff, Nat.reduceBEq, Nat.reduceDiv, reduceCtorEq, Int.reduceToNat]
          all_goals rfl
      · have hbKind : (x.fKind != y.fKind) = true := by simp [heKind]
        have hxy : ¬ (x = y) := fun h => heKind (by rw [h])
        simp only [hbKind, hxy, go_sem, brS_dec, brS_beq, brS_bne, brK_dec, brK_beq, brK_bne, Nat.reduceLT, Nat.reduceLeDiff, Nat.reduceAdd, Nat.reduceMul, Nat.reduceSub, Nat.reduceEqDiff, Nat.reduceBEq, Nat.reduceDiv, reduceCtorEq, Int.reduceToNat]
        all_goals rfl
    · have hbEpoch : (x.fEpoch != y.fEpoch) = true := by simp [heEpoch]
      have hxy : ¬ (x = y) := fun h => heEpoch (by rw [h])
      simp only [hbEpoch, hxy, go_sem, brS_dec, brS_beq, brS_bne, brK_dec, brK_beq, brK_bne, Nat.reduceLT, Nat.reduceLeDiff, Nat.reduceAdd, Nat.reduceMul, Nat.reduceSub, Nat.reduceEqDiff, Nat.reduceBEq, Nat.reduceDiv, reduceCtorEq, Int.reduceToNat]
      all_goals rfl
  · have hbZone : (x.fZone != y.fZone) = true := by simp [heZone]
    have hxy : ¬ (x = y) := fun h => heZone (by rw [h])
    simp only [hbZone, hxy, go_sem, brS_dec, brS_beq, brS_bne, brK_dec, brK_beq, brK_bne, Nat.reduceLT, Nat.reduceLeDiff, Nat.reduceAdd, Nat.reduceMul, Nat.reduceSub, Nat.reduceEqDiff, Nat.reduceBEq, Nat.reduceDiv, reduceCtorEq, Int.reduceToNat]
    all_goals rfl
theorem eqSigS (xs ys : List TSig) (hx : xs.length ≤ 1048576) (hy : ys.length ≤ 1048576) : Sat Tryz.prog G 119 [.val false [.l none 2 (xs.map (TSig.row none))], .val false [.l none 2 (ys.map (TSig.row none))]] (.val false [.v (.bool (decide (xs = ys)))]) := by
  refine sat_of_go (L := tiOf Tryz.prog) (fun T ti h => h) false [[0, 1], [0, 1, 10], [4], [0, 1, 5], [0, 1, 5, 14], [0, 1, 5], [0, 1, 5, 26], [4], [4]] mx Tryz.func119 (by decide) rfl (by show 2 ≤ Tryz.f119.ntmps; decide) ?_
  by_cases hlen : xs.length = ys.length
  · have hlen2 : ((xs.length : Int) != (ys.length : Int)) = false := by simp [hlen]
    simp only [hlen2, go_sem, brS_dec, brS_beq, brS_bne, brK_dec, brK_beq, brK_bne, Nat.reduceLT, Nat.reduceLeDiff, Nat.reduceAdd, Nat.reduceMul, Nat.reduceSub, Nat.reduceEqDiff, Nat.reduceBEq, Nat.reduceDiv, reduceCtorEq, Int.reduceToNat]
    refine loop_n [0, 1, 5] xs.length (fun i => [(5, .val false [.v (.int .i64 (i : Int))])]) (fun i => ∀ j, j < i → xs.getD j default = ys.getD j default) ?_ (by simp) ?_ ?_
    · simp only [go_sem, brS_dec, brS_beq, brS_bne, brK_dec, brK_beq, brK_bne, Nat.reduceLT, Nat.reduceLeDiff, Nat.reduceAdd, Nat.reduceMul, Nat.reduceSub, Nat.reduceEqDiff, Nat.reduceBEq, Nat.reduceDiv, reduceCtorEq, Int.reduceToNat]
      try rfl
    · intro i hi hq F hF
      have hlt : ((i : Int) < (xs.length : Int)) := by omega
      have hi2 : i < ys.length := by omega
      have hlt2 : ((i : Int) < (ys.length : Int)) := by omega
      have hup := wrap_up (i := i) (by omega)
      simp only [hlt, hlt2, map_getD (TSig.row none) xs hi, map_getD (TSig.row none) ys hi2, hup, go_sem, brS_dec, brS_beq, brS_bne, brK_dec, brK_beq, brK_bne, Nat.reduceLT, Nat.reduceLeDiff, Nat.reduceAdd, Nat.reduceMul, Nat.reduceSub, Nat.reduceEqDiff, Nat.reduceBEq, Nat.reduceDiv, reduceCtorEq, Int.reduceToNat]
      refine ⟨rfl, call_by (eqSig (xs.getD i default) (ys.getD i default)) rfl ?_⟩
      by_cases hee : xs.getD i default = ys.getD i default
      · simp only [hee, hup, go_sem, brS_dec, brS_beq, brS_bne, brK_dec, brK_beq, brK_bne, Nat.reduceLT, Nat.reduceLeDiff, Nat.reduceAdd, Nat.reduceMul, Nat.reduceSub, Nat.reduceEqDiff, Nat.reduceBEq, Nat.reduceDiv, reduceCtorEq, Int.reduceToNat]
        refine hF _ ?_ ?_
        · simp only [hup, go_sem, brS_dec, brS_beq, brS_bne, brK_dec, brK_beq, brK_bne, Nat.reduceLT, Nat.reduceLeDiff, Nat.reduceAdd, Nat.reduceMul, Nat.reduceSub, Nat.reduceEqDiff, Nat.reduceBEq, Nat.reduceDiv, reduceCtorEq, Int.reduceToNat]
        · intro j hj
          rcases Nat.lt_or_ge j i with h | h
          · exact hq j h
          · obtain rfl : j = i := by omega
            exact hee
      · have hxy : ¬ (xs = ys) := by rintro rfl; exact hee rfl
        simp only [hee, hup, hxy, go_sem, brS_dec, brS_beq, brS_bne, brK_dec, brK_beq, brK_bne, Nat.reduceLT, Nat.reduceLeDiff, Nat.reduceAdd, Nat.reduceMul, Nat.reduceSub, Nat.reduceEqDiff, Nat.reduceBEq, Nat.reduceDiv, reduceCtorEq, Int.reduceToNat]
    · intro hq F
      have he : xs = ys := by
        apply List.ext_getElem hlen
        intro j h1 h2
        have := hq j h1
        simpa [List.getD_eq_getElem?_getD, h1, h2] using this
      subst he
      simp only [go_sem, brS_dec, brS_beq, brS_bne, brK_dec, brK_beq, brK_bne, Nat.reduceLT, Nat.reduceLeDiff, Nat.reduceAdd, Nat.reduceMul, Nat.reduceSub, Nat.reduceEqDiff, Nat.reduceBEq, Nat.reduceDiv, reduceCtorEq, Int.reduceToNat]
  · have hne : ¬ (xs = ys) := fun h => hlen (by rw [h])
    have hlen2 : ((xs.length : Int) != (ys.length : Int)) = true := by simp; omega
    simp only [hlen2, hne, go_sem, brS_dec, brS_beq, brS_bne, brK_dec, brK_beq, brK_bne, Nat.reduceLT, Nat.reduceLeDiff, Nat.reduceAdd, Nat.reduceMul, Nat.reduceSub, Nat.reduceEqDiff, Nat.reduceBEq, Nat.reduceDiv, reduceCtorEq, Int.reduceToNat]
theorem eqSigned (x y : TSigned) (hx : TSigned.wt x ≤ 1048576) (hy : TSigned.wt y ≤ 1048576) : Sat Tryz.prog G 85 [.val true (TSigned.row none x), .val true (TSigned.row none y)] (.val false [.v (.bool (decide (x = y)))]) := by
  have hwx : TSigned.wt x = (THead.wt x.fHead) + (x.fSigs.length) := rfl
  have hwy : TSigned.wt y = (THead.wt y.fHead) + (y.fSigs.length) := rfl
  refine sat_of_go (L := tiOf Tryz.prog) (fun T ti h => h) false [[2, 3], [2, 3, 10], [4], [16], [4], [4]] mx Tryz.func85 (by decide) rfl (by show 2 ≤ Tryz.f85.ntmps; decide) ?_
  simp only [go_sem, brS_dec, brS_beq, brS_bne, brK_dec, brK_beq, brK_bne, Nat.reduceLT, Nat.reduceLeDiff, Nat.reduceAdd, Nat.reduceMul, Nat.reduceSub, Nat.reduceEqDiff, Nat.reduceBEq, Nat.reduceDiv, reduceCtorEq, Int.reduceToNat]
  refine call_by (eqHead x.fHead y.fHead (by omega) (by omega)) rfl ?_
  by_cases heHead : x.fHead = y.fHead
  · have hdHead : decide (x.fHead = y.fHead) = true := decide_eq_true heHead
    simp only [hdHead, go_sem, brS_dec, brS_beq, brS_bne, brK_dec, brK_beq, brK_bne, Nat.reduceLT, Nat.reduceLeDiff, Nat.reduceAdd, Nat.reduceMul, Nat.reduceSub, Nat.reduceEqDiff, Nat.reduceBEq, Nat.reduceDiv, reduceCtorEq, Int.reduceToNat]
    refine call_by (eqSigS x.fSigs y.fSigs (by have h2 : x.fSigs.length ≤ x.fSigs.length := Nat.le_refl _; omega) (by have h2 : y.fSigs.length ≤ y.fSigs.length := Nat.le_refl _; omega)) rfl ?_
    by_cases heSigs : x.fSigs = y.fSigs
    · have hdSigs : decide (x.fSigs = y.fSigs) = true := decide_eq_true heSigs
      simp only [hdSigs, go_sem, brS_dec, brS_beq, brS_bne, brK_dec, brK_beq, brK_bne, Nat.reduceLT, Nat.reduceLeDiff, Nat.reduceAdd, Nat.reduceMul, Nat.reduceSub, Nat.reduceEqDiff, Nat.reduceBEq, Nat.reduceDiv, reduceCtorEq, Int.reduceToNat]
      have hxy : x = y := by cases x; cases y; simp_all
      simp only [hxy, go_sem, brS_dec, brS_beq, brS_bne, brK_dec, brK_beq, brK_bne, Nat.reduceLT, Nat.reduceLeDiff, Nat.reduceAdd, Nat.reduceMul, Nat.reduceSub, Nat.reduceEqDiff, Nat.reduceBEq, Nat.reduceDiv, reduceCtorEq, Int.reduceToNat]
      all_goals rfl
    · have hdSigs : decide (x.fSigs = y.fSigs) = false := decide_eq_false heSigs
      have hxy : ¬ (x = y) := fun h => heSigs (by rw [h])
      simp only [hdSigs, hxy, go_sem, brS_dec, brS_beq, brS_bne, brK_dec, brK_beq, brK_bne, Nat.reduceLT, Nat.reduceLeDiff, Nat.reduceAdd, Nat.reduceMul, Nat.reduceSub, Nat.reduceEqDiff, Nat.reduceBEq, Nat.reduceDiv, reduceCtorEq, Int.reduceToNat]
      all_goals rfl
  · have hdHead : decide (x.fHead = y.fHead) = false := decide_eq_false heHead
    have hxy : ¬ (x = y) := fun h => heHead (by rw [h])
    simp only [hdHead, hxy, go_sem, brS_dec, brS_beq, brS_bne, brK_dec, brK_beq, brK_bne, Nat.reduceLT, Nat.reduceLeDiff, Nat.reduceAdd, Nat.reduceMul, Nat.reduceSub, Nat.reduceEqDiff, Nat.reduceBEq, Nat.reduceDiv, reduceCtorEq, Int.reduceToNat]
    all_goals rfl
theorem eqFork (x y : TFork) (hx : TFork.wt x ≤ 1048576) (hy : TFork.wt y ≤ 1048576) : Sat Tryz.prog G 98 [.val true (TFork.row none x), .val true (TFork.row none y)] (.val false [.v (.bool (decide (x = y)))]) := by
  have hwx : TFork.wt x = (TSigned.wt x.fBefore) + (TSigned.wt x.fA) + (TSigned.wt x.fB) := rfl
  have hwy : TFork.wt y = (TSigned.wt y.fBefore) + (TSigned.wt y.fA) + (TSigned.wt y.fB) := rfl
  refine sat_of_go (L := tiOf Tryz.prog) (fun T ti h => h) false [[2, 3], [2, 3, 10], [4], [2, 3, 16], [4], [22], [4], [4]] mx Tryz.func98 (by decide) rfl (by show 2 ≤ Tryz.f98.ntmps; decide) ?_
  simp only [go_sem, brS_dec, brS_beq, brS_bne, brK_dec, brK_beq, brK_bne, Nat.reduceLT, Nat.reduceLeDiff, Nat.reduceAdd, Nat.reduceMul, Nat.reduceSub, Nat.reduceEqDiff, Nat.reduceBEq, Nat.reduceDiv, reduceCtorEq, Int.reduceToNat]
  refine call_by (eqSigned x.fBefore y.fBefore (by omega) (by omega)) rfl ?_
  by_cases heBefore : x.fBefore = y.fBefore
  · have hdBefore : decide (x.fBefore = y.fBefore) = true := decide_eq_true heBefore
    simp only [hdBefore, go_sem, brS_dec, brS_beq, brS_bne, brK_dec, brK_beq, brK_bne, Nat.reduceLT, Nat.reduceLeDiff, Nat.reduceAdd, Nat.reduceMul, Nat.reduceSub, Nat.reduceEqDiff, Nat.reduceBEq, Nat.reduceDiv, reduceCtorEq, Int.reduceToNat]
    refine call_by (eqSigned x.fA y.fA (by omega) (by omega)) rfl ?_
    by_cases heA : x.fA = y.fA
    · have hdA : decide (x.fA = y.fA) = true := decide_eq_true heA
      simp only [hdA, go_sem, brS_dec, brS_beq, brS_bne, brK_dec, brK_beq, brK_bne, Nat.reduceLT, Nat.reduceLeDiff, Nat.reduceAdd, Nat.reduceMul, Nat.reduceSub, Nat.reduceEqDiff, Nat.reduceBEq, Nat.reduceDiv, reduceCtorEq, Int.reduceToNat]
      refine call_by (eqSigned x.fB y.fB (by omega) (by omega)) rfl ?_
      by_cases heB : x.fB = y.fB
      · have hdB : decide (x.fB = y.fB) = true := decide_eq_true heB
        simp only [hdB, go_sem, brS_dec, brS_beq, brS_bne, brK_dec, brK_beq, brK_bne, Nat.reduceLT, Nat.reduceLeDiff, Nat.reduceAdd, Nat.reduceMul, Nat.reduceSub, Nat.reduceEqDiff, Nat.reduceBEq, Nat.reduceDiv, reduceCtorEq, Int.reduceToNat]
        have hxy : x = y := by cases x; cases y; simp_all
        simp only [hxy, go_sem, brS_dec, brS_beq, brS_bne, brK_dec, brK_beq, brK_bne, Nat.reduceLT, Nat.reduceLeDiff, Nat.reduceAdd, Nat.reduceMul, Nat.reduceSub, Nat.reduceEqDiff, Nat.reduceBEq, Nat.reduceDiv, reduceCtorEq, Int.reduceToNat]
        all_goals rfl
      · have hdB : decide (x.fB = y.fB) = false := decide_eq_false heB
        have hxy : ¬ (x = y) := fun h => heB (by rw [h])
        simp only [hdB, hxy, go_sem, brS_dec, brS_beq, brS_bne, brK_dec, brK_beq, brK_bne, Nat.reduceLT, Nat.reduceLeDiff, Nat.reduceAdd, Nat.reduceMul, Nat.reduceSub, Nat.reduceEqDiff, Nat.reduceBEq, Nat.reduceDiv, reduceCtorEq, Int.reduceToNat]
        all_goals rfl
    · have hdA : decide (x.fA = y.fA) = false := decide_eq_false heA
      have hxy : ¬ (x = y) := fun h => heA (by rw [h])
      simp only [hdA, hxy, go_sem, brS_dec, brS_beq, brS_bne, brK_dec, brK_beq, brK_bne, Nat.reduceLT, Nat.reduceLeDiff, Nat.reduceAdd, Nat.reduceMul, Nat.reduceSub, Nat.reduceEqDiff, Nat.reduceBEq, Nat.reduceDiv, reduceCtorEq, Int.reduceToNat]
      all_goals rfl
  · have hdBefore : decide (x.fBefore = y.fBefore) = false := decide_eq_false heBefore
    have hxy : ¬ (x = y) := fun h => heBefore (by rw [h])
    simp only [hdBefore, hxy, go_sem, brS_dec, brS_beq, brS_bne, brK_dec, brK_beq, brK_bne, Nat.reduceLT, Nat.reduceLeDiff, Nat.reduceAdd, Nat.reduceMul, Nat.reduceSub, Nat.reduceEqDiff, Nat.reduceBEq, Nat.reduceDiv, reduceCtorEq, Int.reduceToNat]
    all_goals rfl
theorem eqSignedS (xs ys : List TSigned) (hx : xs.length ≤ 1048576) (hy : ys.length ≤ 1048576) (hwx : wtL TSigned.wt xs ≤ 1048576) (hwy : wtL TSigned.wt ys ≤ 1048576) : Sat Tryz.prog G 48 [.val false [.l none 17 (xs.map (TSigned.row none))], .val false [.l none 17 (ys.map (TSigned.row none))]] (.val false [.v (.bool (decide (xs = ys)))]) := by
  refine sat_of_go (L := tiOf Tryz.prog) (fun T ti h => h) false [[0, 1], [0, 1, 10], [4], [0, 1, 5], [0, 1, 5, 14], [0, 1, 5], [0, 1, 5, 26], [4], [4]] mx Tryz.func48 (by decide) rfl (by show 2 ≤ Tryz.f48.ntmps; decide) ?_
  by_cases hlen : xs.length = ys.length
  · have hlen2 : ((xs.length : Int) != (ys.length : Int)) = false := by simp [hlen]
    simp only [hlen2, go_sem, brS_dec, brS_beq, brS_bne, brK_dec, brK_beq, brK_bne, Nat.reduceLT, Nat.reduceLeDiff, Nat.reduceAdd, Nat.reduceMul, Nat.reduceSub, Nat.reduceEqDiff, Nat.reduceBEq, Nat.reduceDiv, reduceCtorEq, Int.reduceToNat]
    refine loop_n [0, 1, 5] xs.length (fun i => [(5, .val false [.v (.int .i64 (i : Int))])]) (fun i => ∀ j, j < i → xs.getD j default = ys.getD j default) ?_ (by simp) ?_ ?_
    · simp only [go_sem, brS_dec, brS_beq, brS_bne, brK_dec, brK_beq, brK_bne, Nat.reduceLT, Nat.reduceLeDiff, Nat.reduceAdd, Nat.reduceMul, Nat.reduceSub, Nat.reduceEqDiff, Nat.reduceBEq, Nat.reduceDiv, reduceCtorEq, Int.reduceToNat]
      try rfl
    · intro i hi hq F hF
      have hlt : ((i : Int) < (xs.length : Int)) := by omega
      have hi2 : i < ys.length := by omega
      have hlt2 : ((i : Int) < (ys.length : Int)) := by omega
      have hup := wrap_up (i := i) (by omega)
      simp only [hlt, hlt2, map_getD (TSigned.row none) xs hi, map_getD (TSigned.row none) ys hi2, hup, go_sem, brS_dec, brS_beq, brS_bne, brK_dec, brK_beq, brK_bne, Nat.reduceLT, Nat.reduceLeDiff, Nat.reduceAdd, Nat.reduceMul, Nat.reduceSub, Nat.reduceEqDiff, Nat.reduceBEq, Nat.reduceDiv, reduceCtorEq, Int.reduceToNat]
      refine ⟨rfl, call_by (eqSigned (xs.getD i default) (ys.getD i default) (by have h1 := wtL_at (f := TSigned.wt) hi default; omega) (by have h1 := wtL_at (f := TSigned.wt) hi2 default; omega)) rfl ?_⟩
      by_cases hee : xs.getD i default = ys.getD i default
      · simp only [hee, hup, go_sem, brS_dec, brS_beq, brS_bne, brK_dec, brK_beq, brK_bne, Nat.reduceLT, Nat.reduceLeDiff, Nat.reduceAdd, Nat.reduceMul, Nat.reduceSub, Nat.reduceEqDiff, Nat.reduceBEq, Nat.reduceDiv, reduceCtorEq, Int.reduceToNat]
        refine hF _ ?_ ?_
        · simp only [hup, go_sem, brS_dec, brS_beq, brS_bne, brK_dec, brK_beq, brK_bne, Nat.reduceLT, Nat.reduceLeDiff, Nat.reduceAdd, Nat.reduceMul, Nat.reduceSub, Nat.reduceEqDiff, Nat.reduceBEq, Nat.reduceDiv, reduceCtorEq, Int.reduceToNat]
        · intro j hj
          rcases Nat.lt_or_ge j i with h | h
          · exact hq j h
          · obtain rfl : j = i := by omega
            exact hee
      · have hxy : ¬ (xs = ys) := by rintro rfl; exact hee rfl
        simp only [hee, hup, hxy, go_sem, brS_dec, brS_beq, brS_bne, brK_dec, brK_beq, brK_bne, Nat.reduceLT, Nat.reduceLeDiff, Nat.reduceAdd, Nat.reduceMul, Nat.reduceSub, Nat.reduceEqDiff, Nat.reduceBEq, Nat.reduceDiv, reduceCtorEq, Int.reduceToNat]
    · intro hq F
      have he : xs = ys := by
        apply List.ext_getElem hlen
        intro j h1 h2
        have := hq j h1
        simpa [List.getD_eq_getElem?_getD, h1, h2] using this
      subst he
      simp only [go_sem, brS_dec, brS_beq, brS_bne, brK_dec, brK_beq, brK_bne, Nat.reduceLT, Nat.reduceLeDiff, Nat.reduceAdd, Nat.reduceMul, Nat.reduceSub, Nat.reduceEqDiff, Nat.reduceBEq, Nat.reduceDiv, reduceCtorEq, Int.reduceToNat]
  · have hne : ¬ (xs = ys) := fun h => hlen (by rw [h])
    have hlen2 : ((xs.length : Int) != (ys.length : Int)) = true := by simp; omega
    simp only [hlen2, hne, go_sem, brS_dec, brS_beq, brS_bne, brK_dec, brK_beq, brK_bne, Nat.reduceLT, Nat.reduceLeDiff, Nat.reduceAdd, Nat.reduceMul, Nat.reduceSub, Nat.reduceEqDiff, Nat.reduceBEq, Nat.reduceDiv, reduceCtorEq, Int.reduceToNat]
theorem eqEntryS (xs ys : List TEntry) (hx : xs.length ≤ 1048576) (hy : ys.length ≤ 1048576) (hwx : wtL TEntry.wt xs ≤ 1048576) (hwy : wtL TEntry.wt ys ≤ 1048576) : Sat Tryz.prog G 49 [.val false [.l none 4 (xs.map (TEntry.row none))], .val false [.l none 4 (ys.map (TEntry.row none))]] (.val false [.v (.bool (decide (xs = ys)))]) := by
  refine sat_of_go (L := tiOf Tryz.prog) (fun T ti h => h) false [[0, 1], [0, 1, 10], [4], [0, 1, 5], [0, 1, 5, 14], [0, 1, 5], [0, 1, 5, 26], [4], [4]] mx Tryz.func49 (by decide) rfl (by show 2 ≤ Tryz.f49.ntmps; decide) ?_
  by_cases hlen : xs.length = ys.length
  · have hlen2 : ((xs.length : Int) != (ys.length : Int)) = false := by simp [hlen]
    simp only [hlen2, go_sem, brS_dec, brS_beq, brS_bne, brK_dec, brK_beq, brK_bne, Nat.reduceLT, Nat.reduceLeDiff, Nat.reduceAdd, Nat.reduceMul, Nat.reduceSub, Nat.reduceEqDiff, Nat.reduceBEq, Nat.reduceDiv, reduceCtorEq, Int.reduceToNat]
    refine loop_n [0, 1, 5] xs.length (fun i => [(5, .val false [.v (.int .i64 (i : Int))])]) (fun i => ∀ j, j < i → xs.getD j default = ys.getD j default) ?_ (by simp) ?_ ?_
    · simp only [go_sem, brS_dec, brS_beq, brS_bne, brK_dec, brK_beq, brK_bne, Nat.reduceLT, Nat.reduceLeDiff, Nat.reduceAdd, Nat.reduceMul, Nat.reduceSub, Nat.reduceEqDiff, Nat.reduceBEq, Nat.reduceDiv, reduceCtorEq, Int.reduceToNat]
      try rfl
    · intro i hi hq F hF
      have hlt : ((i : Int) < (xs.length : Int)) := by omega
      have hi2 : i < ys.length := by omega
      have hlt2 : ((i : Int) < (ys.length : Int)) := by omega
      have hup := wrap_up (i := i) (by omega)
      simp only [hlt, hlt2, map_getD (TEntry.row none) xs hi, map_getD (TEntry.row none) ys hi2, hup, go_sem, brS_dec, brS_beq, brS_bne, brK_dec, brK_beq, brK_bne, Nat.reduceLT, Nat.reduceLeDiff, Nat.reduceAdd, Nat.reduceMul, Nat.reduceSub, Nat.reduceEqDiff, Nat.reduceBEq, Nat.reduceDiv, reduceCtorEq, Int.reduceToNat]
      refine ⟨rfl, call_by (eqEntry (xs.getD i default) (ys.getD i default) (by have h1 := wtL_at (f := TEntry.wt) hi default; omega) (by have h1 := wtL_at (f := TEntry.wt) hi2 default; omega)) rfl ?_⟩
      by_cases hee : xs.getD i default = ys.getD i default
      · simp only [hee, hup, go_sem, brS_dec, brS_beq, brS_bne, brK_dec, brK_beq, brK_bne, Nat.reduceLT, Nat.reduceLeDiff, Nat.reduceAdd, Nat.reduceMul, Nat.reduceSub, Nat.reduceEqDiff, Nat.reduceBEq, Nat.reduceDiv, reduceCtorEq, Int.reduceToNat]
        refine hF _ ?_ ?_
        · simp only [hup, go_sem, brS_dec, brS_beq, brS_bne, brK_dec, brK_beq, brK_bne, Nat.reduceLT, Nat.reduceLeDiff, Nat.reduceAdd, Nat.reduceMul, Nat.reduceSub, Nat.reduceEqDiff, Nat.reduceBEq, Nat.reduceDiv, reduceCtorEq, Int.reduceToNat]
        · intro j hj
          rcases Nat.lt_or_ge j i with h | h
          · exact hq j h
          · obtain rfl : j = i := by omega
            exact hee
      · have hxy : ¬ (xs = ys) := by rintro rfl; exact hee rfl
        simp only [hee, hup, hxy, go_sem, brS_dec, brS_beq, brS_bne, brK_dec, brK_beq, brK_bne, Nat.reduceLT, Nat.reduceLeDiff, Nat.reduceAdd, Nat.reduceMul, Nat.reduceSub, Nat.reduceEqDiff, Nat.reduceBEq, Nat.reduceDiv, reduceCtorEq, Int.reduceToNat]
    · intro hq F
      have he : xs = ys := by
        apply List.ext_getElem hlen
        intro j h1 h2
        have := hq j h1
        simpa [List.getD_eq_getElem?_getD, h1, h2] using this
      subst he
      simp only [go_sem, brS_dec, brS_beq, brS_bne, brK_dec, brK_beq, brK_bne, Nat.reduceLT, Nat.reduceLeDiff, Nat.reduceAdd, Nat.reduceMul, Nat.reduceSub, Nat.reduceEqDiff, Nat.reduceBEq, Nat.reduceDiv, reduceCtorEq, Int.reduceToNat]
  · have hne : ¬ (xs = ys) := fun h => hlen (by rw [h])
    have hlen2 : ((xs.length : Int) != (ys.length : Int)) = true := by simp; omega
    simp only [hlen2, hne, go_sem, brS_dec, brS_beq, brS_bne, brK_dec, brK_beq, brK_bne, Nat.reduceLT, Nat.reduceLeDiff, Nat.reduceAdd, Nat.reduceMul, Nat.reduceSub, Nat.reduceEqDiff, Nat.reduceBEq, Nat.reduceDiv, reduceCtorEq, Int.reduceToNat]
theorem eqZone (x y : TZone) (hx : TZone.wt x ≤ 1048576) (hy : TZone.wt y ≤ 1048576) : Sat Tryz.prog G 14 [.val true (TZone.row none x), .val true (TZone.row none y)] (.val false [.v (.bool (decide (x = y)))]) := by
  have hwx : TZone.wt x = (wtL TSigned.wt x.fChain) + (wtL TEntry.wt x.fEntries) := rfl
  have hwy : TZone.wt y = (wtL TSigned.wt y.fChain) + (wtL TEntry.wt y.fEntries) := rfl
  refine sat_of_go (L := tiOf Tryz.prog) (fun T ti h => h) false [[2, 3], [2, 3, 10], [4], [16], [4], [4]] mx Tryz.func14 (by decide) rfl (by show 2 ≤ Tryz.f14.ntmps; decide) ?_
  simp only [go_sem, brS_dec, brS_beq, brS_bne, brK_dec, brK_beq, brK_bne, Nat.reduceLT, Nat.reduceLeDiff, Nat.reduceAdd, Nat.reduceMul, Nat.reduceSub, Nat.reduceEqDiff, Nat.reduceBEq, Nat.reduceDiv, reduceCtorEq, Int.reduceToNat]
  refine call_by (eqSignedS x.fChain y.fChain (by have h2 : x.fChain.length ≤ wtL TSigned.wt x.fChain := wtL_len; omega) (by have h2 : y.fChain.length ≤ wtL TSigned.wt y.fChain := wtL_len; omega) (by omega) (by omega)) rfl ?_
  by_cases heChain : x.fChain = y.fChain
  · have hdChain : decide (x.fChain = y.fChain) = true := decide_eq_true heChain
    simp only [hdChain, go_sem, brS_dec, brS_beq, brS_bne, brK_dec, brK_beq, brK_bne, Nat.reduceLT, Nat.reduceLeDiff, Nat.reduceAdd, Nat.reduceMul, Nat.reduceSub, Nat.reduceEqDiff, Nat.reduceBEq, Nat.reduceDiv, reduceCtorEq, Int.reduceToNat]
    refine call_by (eqEntryS x.fEntries y.fEntries (by have h2 : x.fEntries.length ≤ wtL TEntry.wt x.fEntries := wtL_len; omega) (by have h2 : y.fEntries.length ≤ wtL TEntry.wt y.fEntries := wtL_len; omega) (by omega) (by omega)) rfl ?_
    by_cases heEntries : x.fEntries = y.fEntries
    · have hdEntries : decide (x.fEntries = y.fEntries) = true := decide_eq_true heEntries
      simp only [hdEntries, go_sem, brS_dec, brS_beq, brS_bne, brK_dec, brK_beq, brK_bne, Nat.reduceLT, Nat.reduceLeDiff, Nat.reduceAdd, Nat.reduceMul, Nat.reduceSub, Nat.reduceEqDiff, Nat.reduceBEq, Nat.reduceDiv, reduceCtorEq, Int.reduceToNat]
      have hxy : x = y := by cases x; cases y; simp_all
      simp only [hxy, go_sem, brS_dec, brS_beq, brS_bne, brK_dec, brK_beq, brK_bne, Nat.reduceLT, Nat.reduceLeDiff, Nat.reduceAdd, Nat.reduceMul, Nat.reduceSub, Nat.reduceEqDiff, Nat.reduceBEq, Nat.reduceDiv, reduceCtorEq, Int.reduceToNat]
      all_goals rfl
    · have hdEntries : decide (x.fEntries = y.fEntries) = false := decide_eq_false heEntries
      have hxy : ¬ (x = y) := fun h => heEntries (by rw [h])
      simp only [hdEntries, hxy, go_sem, brS_dec, brS_beq, brS_bne, brK_dec, brK_beq, brK_bne, Nat.reduceLT, Nat.reduceLeDiff, Nat.reduceAdd, Nat.reduceMul, Nat.reduceSub, Nat.reduceEqDiff, Nat.reduceBEq, Nat.reduceDiv, reduceCtorEq, Int.reduceToNat]
      all_goals rfl
  · have hdChain : decide (x.fChain = y.fChain) = false := decide_eq_false heChain
    have hxy : ¬ (x = y) := fun h => heChain (by rw [h])
    simp only [hdChain, hxy, go_sem, brS_dec, brS_beq, brS_bne, brK_dec, brK_beq, brK_bne, Nat.reduceLT, Nat.reduceLeDiff, Nat.reduceAdd, Nat.reduceMul, Nat.reduceSub, Nat.reduceEqDiff, Nat.reduceBEq, Nat.reduceDiv, reduceCtorEq, Int.reduceToNat]
    all_goals rfl
theorem eqAnswer (x y : TAnswer) (hx : TAnswer.wt x ≤ 1048576) (hy : TAnswer.wt y ≤ 1048576) : Sat Tryz.prog G 126 [.val true (TAnswer.row none x), .val true (TAnswer.row none y)] (.val false [.v (.bool (decide (x = y)))]) := by
  have hwx : TAnswer.wt x = (wtL TSigned.wt x.fChain) + (TEntry.wt x.fEntry) + (TProof.wt x.fProof) + (TGap.wt x.fGap) := rfl
  have hwy : TAnswer.wt y = (wtL TSigned.wt y.fChain) + (TEntry.wt y.fEntry) + (TProof.wt y.fProof) + (TGap.wt y.fGap) := rfl
  refine sat_of_go (L := tiOf Tryz.prog) (fun T ti h => h) false [[2, 3], [2, 3, 10], [4], [2, 3, 15], [4], [2, 3, 21], [4], [2, 3, 27], [4], [33], [4], [4]] mx Tryz.func126 (by decide) rfl (by show 2 ≤ Tryz.f126.ntmps; decide) ?_
  simp only [go_sem, brS_dec, brS_beq, brS_bne, brK_dec, brK_beq, brK_bne, Nat.reduceLT, Nat.reduceLeDiff, Nat.reduceAdd, Nat.reduceMul, Nat.reduceSub, Nat.reduceEqDiff, Nat.reduceBEq, Nat.reduceDiv, reduceCtorEq, Int.reduceToNat]
  refine call_by (eqSignedS x.fChain y.fChain (by have h2 : x.fChain.length ≤ wtL TSigned.wt x.fChain := wtL_len; omega) (by have h2 : y.fChain.length ≤ wtL TSigned.wt y.fChain := wtL_len; omega) (by omega) (by omega)) rfl ?_
  by_cases heChain : x.fChain = y.fChain
  · have hdChain : decide (x.fChain = y.fChain) = true := decide_eq_true heChain
    simp only [hdChain, go_sem, brS_dec, brS_beq, brS_bne, brK_dec, brK_beq, brK_bne, Nat.reduceLT, Nat.reduceLeDiff, Nat.reduceAdd, Nat.reduceMul, Nat.reduceSub, Nat.reduceEqDiff, Nat.reduceBEq, Nat.reduceDiv, reduceCtorEq, Int.reduceToNat]
    by_cases heFound : x.fFound = y.fFound
    · have hbFound : (x.fFound == y.fFound) = true := by simp [heFound]
      simp only [hbFound, go_sem, brS_dec, brS_beq, brS_bne, brK_dec, brK_beq, brK_bne, Nat.reduceLT, Nat.reduceLeDiff, Nat.reduceAdd, Nat.reduceMul, Nat.reduceSub, Nat.reduceEqDiff, Nat.reduceBEq, Nat.reduceDiv, reduceCtorEq, Int.reduceToNat]
      refine call_by (eqEntry x.fEntry y.fEntry (by omega) (by omega)) rfl ?_
      by_cases heEntry : x.fEntry = y.fEntry
      · have hdEntry : decide (x.fEntry = y.fEntry) = true := decide_eq_true heEntry
        simp only [hdEntry, go_sem, brS_dec, brS_beq, brS_bne, brK_dec, brK_beq, brK_bne, Nat.reduceLT, Nat.reduceLeDiff, Nat.reduceAdd, Nat.reduceMul, Nat.reduceSub, Nat.reduceEqDiff, Nat.reduceBEq, Nat.reduceDiv, reduceCtorEq, Int.reduceToNat]
        refine call_by (eqProof x.fProof y.fProof (by omega) (by omega)) rfl ?_
        by_cases heProof : x.fProof = y.fProof
        · have hdProof : decide (x.fProof = y.fProof) = true := decide_eq_true heProof
          simp only [hdProof, go_sem, brS_dec, brS_beq, brS_bne, brK_dec, brK_beq, brK_bne, Nat.reduceLT, Nat.reduceLeDiff, Nat.reduceAdd, Nat.reduceMul, Nat.reduceSub, Nat.reduceEqDiff, Nat.reduceBEq, Nat.reduceDiv, reduceCtorEq, Int.reduceToNat]
          refine call_by (eqGap x.fGap y.fGap (by omega) (by omega)) rfl ?_
          by_cases heGap : x.fGap = y.fGap
          · have hdGap : decide (x.fGap = y.fGap) = true := decide_eq_true heGap
            simp only [hdGap, go_sem, brS_dec, brS_beq, brS_bne, brK_dec, brK_beq, brK_bne, Nat.reduceLT, Nat.reduceLeDiff, Nat.reduceAdd, Nat.reduceMul, Nat.reduceSub, Nat.reduceEqDiff, Nat.reduceBEq, Nat.reduceDiv, reduceCtorEq, Int.reduceToNat]
            have hxy : x = y := by cases x; cases y; simp_all
            simp only [hxy, go_sem, brS_dec, brS_beq, brS_bne, brK_dec, brK_beq, brK_bne, Nat.reduceLT, Nat.reduceLeDiff, Nat.reduceAdd, Nat.reduceMul, Nat.reduceSub, Nat.reduceEqDiff, Nat.reduceBEq, Nat.reduceDiv, reduceCtorEq, Int.reduceToNat]
            all_goals rfl
          · have hdGap : decide (x.fGap = y.fGap) = false := decide_eq_false heGap
            have hxy : ¬ (x = y) := fun h => heGap (by rw [h])
            simp only [hdGap, hxy, go_sem, brS_dec, brS_beq, brS_bne, brK_dec, brK_beq, brK_bne, Nat.reduceLT, Nat.reduceLeDiff, Nat.reduceAdd, Nat.reduceMul, Nat.reduceSub, Nat.reduceEqDiff, Nat.reduceBEq, Nat.reduceDiv, reduceCtorEq, Int.reduceToNat]
            all_goals rfl
        · have hdProof : decide (x.fProof = y.fProof) = false := decide_eq_false heProof
          have hxy : ¬ (x = y) := fun h => heProof (by rw [h])
          simp only [hdProof, hxy, go_sem, brS_dec, brS_beq, brS_bne, brK_dec, brK_beq, brK_bne, Nat.reduceLT, Nat.reduceLeDiff, Nat.reduceAdd, Nat.reduceMul, Nat.reduceSub, Nat.reduceEqDiff, Nat.reduceBEq, Nat.reduceDiv, reduceCtorEq, Int.reduceToNat]
          all_goals rfl
      · have hdEntry : decide (x.fEntry = y.fEntry) = false := decide_eq_false heEntry
        have hxy : ¬ (x = y) := fun h => heEntry (by rw [h])
        simp only [hdEntry, hxy, go_sem, brS_dec, brS_beq, brS_bne, brK_dec, brK_beq, brK_bne, Nat.reduceLT, Nat.reduceLeDiff, Nat.reduceAdd, Nat.reduceMul, Nat.reduceSub, Nat.reduceEqDiff, Nat.reduceBEq, Nat.reduceDiv, reduceCtorEq, Int.reduceToNat]
        all_goals rfl
    · have hbFound : (x.fFound == y.fFound) = false := by simp [heFound]
      have hxy : ¬ (x = y) := fun h => heFound (by rw [h])
      simp only [hbFound, hxy, go_sem, brS_dec, brS_beq, brS_bne, brK_dec, brK_beq, brK_bne, Nat.reduceLT, Nat.reduceLeDiff, Nat.reduceAdd, Nat.reduceMul, Nat.reduceSub, Nat.reduceEqDiff, Nat.reduceBEq, Nat.reduceDiv, reduceCtorEq, Int.reduceToNat]
      all_goals rfl
  · have hdChain : decide (x.fChain = y.fChain) = false := decide_eq_false heChain
    have hxy : ¬ (x = y) := fun h => heChain (by rw [h])
    simp only [hdChain, hxy, go_sem, brS_dec, brS_beq, brS_bne, brK_dec, brK_beq, brK_bne, Nat.reduceLT, Nat.reduceLeDiff, Nat.reduceAdd, Nat.reduceMul, Nat.reduceSub, Nat.reduceEqDiff, Nat.reduceBEq, Nat.reduceDiv, reduceCtorEq, Int.reduceToNat]
    all_goals rfl
theorem eqSignedSS (xs ys : List (List TSigned)) (hx : xs.length ≤ 1048576) (hy : ys.length ≤ 1048576) (hwx : wtL (wtL TSigned.wt) xs ≤ 1048576) (hwy : wtL (wtL TSigned.wt) ys ≤ 1048576) : Sat Tryz.prog G 67 [.val false [.l none 1 (xs.map (rowLSignedS none))], .val false [.l none 1 (ys.map (rowLSignedS none))]] (.val false [.v (.bool (decide (xs = ys)))]) := by
  refine sat_of_go (L := tiOf Tryz.prog) (fun T ti h => h) false [[0, 1], [0, 1, 10], [4], [0, 1, 5], [0, 1, 5, 14], [0, 1, 5], [0, 1, 5, 26], [4], [4]] mx Tryz.func67 (by decide) rfl (by show 2 ≤ Tryz.f67.ntmps; decide) ?_
  by_cases hlen : xs.length = ys.length
  · have hlen2 : ((xs.length : Int) != (ys.length : Int)) = false := by simp [hlen]
    simp only [hlen2, go_sem, brS_dec, brS_beq, brS_bne, brK_dec, brK_beq, brK_bne, Nat.reduceLT, Nat.reduceLeDiff, Nat.reduceAdd, Nat.reduceMul, Nat.reduceSub, Nat.reduceEqDiff, Nat.reduceBEq, Nat.reduceDiv, reduceCtorEq, Int.reduceToNat]
    refine loop_n [0, 1, 5] xs.length (fun i => [(5, .val false [.v (.int .i64 (i : Int))])]) (fun i => ∀ j, j < i → xs.getD j default = ys.getD j default) ?_ (by simp) ?_ ?_
    · simp only [go_sem, brS_dec, brS_beq, brS_bne, brK_dec, brK_beq, brK_bne, Nat.reduceLT, Nat.reduceLeDiff, Nat.reduceAdd, Nat.reduceMul, Nat.reduceSub, Nat.reduceEqDiff, Nat.reduceBEq, Nat.reduceDiv, reduceCtorEq, Int.reduceToNat]
      try rfl
    · intro i hi hq F hF
      have hlt : ((i : Int) < (xs.length : Int)) := by omega
      have hi2 : i < ys.length := by omega
      have hlt2 : ((i : Int) < (ys.length : Int)) := by omega
      have hup := wrap_up (i := i) (by omega)
      simp only [hlt, hlt2, map_getD (rowLSignedS none) xs hi, map_getD (rowLSignedS none) ys hi2, hup, go_sem, brS_dec, brS_beq, brS_bne, brK_dec, brK_beq, brK_bne, Nat.reduceLT, Nat.reduceLeDiff, Nat.reduceAdd, Nat.reduceMul, Nat.reduceSub, Nat.reduceEqDiff, Nat.reduceBEq, Nat.reduceDiv, reduceCtorEq, Int.reduceToNat]
      refine ⟨rfl, call_by (eqSignedS (xs.getD i default) (ys.getD i default) (by have h1 := wtL_at (f := (wtL TSigned.wt)) hi default; have h2 : (xs.getD i default).length ≤ wtL TSigned.wt (xs.getD i default) := wtL_len; omega) (by have h1 := wtL_at (f := (wtL TSigned.wt)) hi2 default; have h2 : (ys.getD i default).length ≤ wtL TSigned.wt (ys.getD i default) := wtL_len; omega) (by have h1 := wtL_at (f := (wtL TSigned.wt)) hi default; omega) (by have h1 := wtL_at (f := (wtL TSigned.wt)) hi2 default; omega)) rfl ?_⟩
      by_cases hee : xs.getD i default = ys.getD i default
      · simp only [hee, hup, go_sem, brS_dec, brS_beq, brS_bne, brK_dec, brK_beq, brK_bne, Nat.reduceLT, Nat.reduceLeDiff, Nat.reduceAdd, Nat.reduceMul, Nat.reduceSub, Nat.reduceEqDiff, Nat.reduceBEq, Nat.reduceDiv, reduceCtorEq, Int.reduceToNat]
        refine hF _ ?_ ?_
        · simp only [hup, go_sem, brS_dec, brS_beq, brS_bne, brK_dec, brK_beq, brK_bne, Nat.reduceLT, Nat.reduceLeDiff, Nat.reduceAdd, Nat.reduceMul, Nat.reduceSub, Nat.reduceEqDiff, Nat.reduceBEq, Nat.reduceDiv, reduceCtorEq, Int.reduceToNat]
        · intro j hj
          rcases Nat.lt_or_ge j i with h | h
          · exact hq j h
          · obtain rfl : j = i := by omega
            exact hee
      · have hxy : ¬ (xs = ys) := by rintro rfl; exact hee rfl
        simp only [hee, hup, hxy, go_sem, brS_dec, brS_beq, brS_bne, brK_dec, brK_beq, brK_bne, Nat.reduceLT, Nat.reduceLeDiff, Nat.reduceAdd, Nat.reduceMul, Nat.reduceSub, Nat.reduceEqDiff, Nat.reduceBEq, Nat.reduceDiv, reduceCtorEq, Int.reduceToNat]
    · intro hq F
      have he : xs = ys := by
        apply List.ext_getElem hlen
        intro j h1 h2
        have := hq j h1
        simpa [List.getD_eq_getElem?_getD, h1, h2] using this
      subst he
      simp only [go_sem, brS_dec, brS_beq, brS_bne, brK_dec, brK_beq, brK_bne, Nat.reduceLT, Nat.reduceLeDiff, Nat.reduceAdd, Nat.reduceMul, Nat.reduceSub, Nat.reduceEqDiff, Nat.reduceBEq, Nat.reduceDiv, reduceCtorEq, Int.reduceToNat]
  · have hne : ¬ (xs = ys) := fun h => hlen (by rw [h])
    have hlen2 : ((xs.length : Int) != (ys.length : Int)) = true := by simp; omega
    simp only [hlen2, hne, go_sem, brS_dec, brS_beq, brS_bne, brK_dec, brK_beq, brK_bne, Nat.reduceLT, Nat.reduceLeDiff, Nat.reduceAdd, Nat.reduceMul, Nat.reduceSub, Nat.reduceEqDiff, Nat.reduceBEq, Nat.reduceDiv, reduceCtorEq, Int.reduceToNat]
theorem eqForkS (xs ys : List TFork) (hx : xs.length ≤ 1048576) (hy : ys.length ≤ 1048576) (hwx : wtL TFork.wt xs ≤ 1048576) (hwy : wtL TFork.wt ys ≤ 1048576) : Sat Tryz.prog G 68 [.val false [.l none 51 (xs.map (TFork.row none))], .val false [.l none 51 (ys.map (TFork.row none))]] (.val false [.v (.bool (decide (xs = ys)))]) := by
  refine sat_of_go (L := tiOf Tryz.prog) (fun T ti h => h) false [[0, 1], [0, 1, 10], [4], [0, 1, 5], [0, 1, 5, 14], [0, 1, 5], [0, 1, 5, 26], [4], [4]] mx Tryz.func68 (by decide) rfl (by show 2 ≤ Tryz.f68.ntmps; decide) ?_
  by_cases hlen : xs.length = ys.length
  · have hlen2 : ((xs.length : Int) != (ys.length : Int)) = false := by simp [hlen]
    simp only [hlen2, go_sem, brS_dec, brS_beq, brS_bne, brK_dec, brK_beq, brK_bne, Nat.reduceLT, Nat.reduceLeDiff, Nat.reduceAdd, Nat.reduceMul, Nat.reduceSub, Nat.reduceEqDiff, Nat.reduceBEq, Nat.reduceDiv, reduceCtorEq, Int.reduceToNat]
    refine loop_n [0, 1, 5] xs.length (fun i => [(5, .val false [.v (.int .i64 (i : Int))])]) (fun i => ∀ j, j < i → xs.getD j default = ys.getD j default) ?_ (by simp) ?_ ?_
    · simp only [go_sem, brS_dec, brS_beq, brS_bne, brK_dec, brK_beq, brK_bne, Nat.reduceLT, Nat.reduceLeDiff, Nat.reduceAdd, Nat.reduceMul, Nat.reduceSub, Nat.reduceEqDiff, Nat.reduceBEq, Nat.reduceDiv, reduceCtorEq, Int.reduceToNat]
      try rfl
    · intro i hi hq F hF
      have hlt : ((i : Int) < (xs.length : Int)) := by omega
      have hi2 : i < ys.length := by omega
      have hlt2 : ((i : Int) < (ys.length : Int)) := by omega
      have hup := wrap_up (i := i) (by omega)
      simp only [hlt, hlt2, map_getD (TFork.row none) xs hi, map_getD (TFork.row none) ys hi2, hup, go_sem, brS_dec, brS_beq, brS_bne, brK_dec, brK_beq, brK_bne, Nat.reduceLT, Nat.reduceLeDiff, Nat.reduceAdd, Nat.reduceMul, Nat.reduceSub, Nat.reduceEqDiff, Nat.reduceBEq, Nat.reduceDiv, reduceCtorEq, Int.reduceToNat]
      refine ⟨rfl, call_by (eqFork (xs.getD i default) (ys.getD i default) (by have h1 := wtL_at (f := TFork.wt) hi default; omega) (by have h1 := wtL_at (f := TFork.wt) hi2 default; omega)) rfl ?_⟩
      by_cases hee : xs.getD i default = ys.getD i default
      · simp only [hee, hup, go_sem, brS_dec, brS_beq, brS_bne, brK_dec, brK_beq, brK_bne, Nat.reduceLT, Nat.reduceLeDiff, Nat.reduceAdd, Nat.reduceMul, Nat.reduceSub, Nat.reduceEqDiff, Nat.reduceBEq, Nat.reduceDiv, reduceCtorEq, Int.reduceToNat]
        refine hF _ ?_ ?_
        · simp only [hup, go_sem, brS_dec, brS_beq, brS_bne, brK_dec, brK_beq, brK_bne, Nat.reduceLT, Nat.reduceLeDiff, Nat.reduceAdd, Nat.reduceMul, Nat.reduceSub, Nat.reduceEqDiff, Nat.reduceBEq, Nat.reduceDiv, reduceCtorEq, Int.reduceToNat]
        · intro j hj
          rcases Nat.lt_or_ge j i with h | h
          · exact hq j h
          · obtain rfl : j = i := by omega
            exact hee
      · have hxy : ¬ (xs = ys) := by rintro rfl; exact hee rfl
        simp only [hee, hup, hxy, go_sem, brS_dec, brS_beq, brS_bne, brK_dec, brK_beq, brK_bne, Nat.reduceLT, Nat.reduceLeDiff, Nat.reduceAdd, Nat.reduceMul, Nat.reduceSub, Nat.reduceEqDiff, Nat.reduceBEq, Nat.reduceDiv, reduceCtorEq, Int.reduceToNat]
    · intro hq F
      have he : xs = ys := by
        apply List.ext_getElem hlen
        intro j h1 h2
        have := hq j h1
        simpa [List.getD_eq_getElem?_getD, h1, h2] using this
      subst he
      simp only [go_sem, brS_dec, brS_beq, brS_bne, brK_dec, brK_beq, brK_bne, Nat.reduceLT, Nat.reduceLeDiff, Nat.reduceAdd, Nat.reduceMul, Nat.reduceSub, Nat.reduceEqDiff, Nat.reduceBEq, Nat.reduceDiv, reduceCtorEq, Int.reduceToNat]
  · have hne : ¬ (xs = ys) := fun h => hlen (by rw [h])
    have hlen2 : ((xs.length : Int) != (ys.length : Int)) = true := by simp; omega
    simp only [hlen2, hne, go_sem, brS_dec, brS_beq, brS_bne, brK_dec, brK_beq, brK_bne, Nat.reduceLT, Nat.reduceLeDiff, Nat.reduceAdd, Nat.reduceMul, Nat.reduceSub, Nat.reduceEqDiff, Nat.reduceBEq, Nat.reduceDiv, reduceCtorEq, Int.reduceToNat]
theorem eqKnown (x y : TKnown) (hx : TKnown.wt x ≤ 1048576) (hy : TKnown.wt y ≤ 1048576) : Sat Tryz.prog G 34 [.val true (TKnown.row none x), .val true (TKnown.row none y)] (.val false [.v (.bool (decide (x = y)))]) := by
  have hwx : TKnown.wt x = (wtL (wtL TSigned.wt) x.fChains) + (wtL TFork.wt x.fForks) := rfl
  have hwy : TKnown.wt y = (wtL (wtL TSigned.wt) y.fChains) + (wtL TFork.wt y.fForks) := rfl
  refine sat_of_go (L := tiOf Tryz.prog) (fun T ti h => h) false [[2, 3], [2, 3, 10], [4], [16], [4], [4]] mx Tryz.func34 (by decide) rfl (by show 2 ≤ Tryz.f34.ntmps; decide) ?_
  simp only [go_sem, brS_dec, brS_beq, brS_bne, brK_dec, brK_beq, brK_bne, Nat.reduceLT, Nat.reduceLeDiff, Nat.reduceAdd, Nat.reduceMul, Nat.reduceSub, Nat.reduceEqDiff, Nat.reduceBEq, Nat.reduceDiv, reduceCtorEq, Int.reduceToNat]
  refine call_by (eqSignedSS x.fChains y.fChains (by have h2 : x.fChains.length ≤ wtL (wtL TSigned.wt) x.fChains := wtL_len; omega) (by have h2 : y.fChains.length ≤ wtL (wtL TSigned.wt) y.fChains := wtL_len; omega) (by omega) (by omega)) rfl ?_
  by_cases heChains : x.fChains = y.fChains
  · have hdChains : decide (x.fChains = y.fChains) = true := decide_eq_true heChains
    simp only [hdChains, go_sem, brS_dec, brS_beq, brS_bne, brK_dec, brK_beq, brK_bne, Nat.reduceLT, Nat.reduceLeDiff, Nat.reduceAdd, Nat.reduceMul, Nat.reduceSub, Nat.reduceEqDiff, Nat.reduceBEq, Nat.reduceDiv, reduceCtorEq, Int.reduceToNat]
    refine call_by (eqForkS x.fForks y.fForks (by have h2 : x.fForks.length ≤ wtL TFork.wt x.fForks := wtL_len; omega) (by have h2 : y.fForks.length ≤ wtL TFork.wt y.fForks := wtL_len; omega) (by omega) (by omega)) rfl ?_
    by_cases heForks : x.fForks = y.fForks
    · have hdForks : decide (x.fForks = y.fForks) = true := decide_eq_true heForks
      simp only [hdForks, go_sem, brS_dec, brS_beq, brS_bne, brK_dec, brK_beq, brK_bne, Nat.reduceLT, Nat.reduceLeDiff, Nat.reduceAdd, Nat.reduceMul, Nat.reduceSub, Nat.reduceEqDiff, Nat.reduceBEq, Nat.reduceDiv, reduceCtorEq, Int.reduceToNat]
      have hxy : x = y := by cases x; cases y; simp_all
      simp only [hxy, go_sem, brS_dec, brS_beq, brS_bne, brK_dec, brK_beq, brK_bne, Nat.reduceLT, Nat.reduceLeDiff, Nat.reduceAdd, Nat.reduceMul, Nat.reduceSub, Nat.reduceEqDiff, Nat.reduceBEq, Nat.reduceDiv, reduceCtorEq, Int.reduceToNat]
      all_goals rfl
    · have hdForks : decide (x.fForks = y.fForks) = false := decide_eq_false heForks
      have hxy : ¬ (x = y) := fun h => heForks (by rw [h])
      simp only [hdForks, hxy, go_sem, brS_dec, brS_beq, brS_bne, brK_dec, brK_beq, brK_bne, Nat.reduceLT, Nat.reduceLeDiff, Nat.reduceAdd, Nat.reduceMul, Nat.reduceSub, Nat.reduceEqDiff, Nat.reduceBEq, Nat.reduceDiv, reduceCtorEq, Int.reduceToNat]
      all_goals rfl
  · have hdChains : decide (x.fChains = y.fChains) = false := decide_eq_false heChains
    have hxy : ¬ (x = y) := fun h => heChains (by rw [h])
    simp only [hdChains, hxy, go_sem, brS_dec, brS_beq, brS_bne, brK_dec, brK_beq, brK_bne, Nat.reduceLT, Nat.reduceLeDiff, Nat.reduceAdd, Nat.reduceMul, Nat.reduceSub, Nat.reduceEqDiff, Nat.reduceBEq, Nat.reduceDiv, reduceCtorEq, Int.reduceToNat]
    all_goals rfl
theorem eqZoneS (xs ys : List TZone) (hx : xs.length ≤ 1048576) (hy : ys.length ≤ 1048576) (hwx : wtL TZone.wt xs ≤ 1048576) (hwy : wtL TZone.wt ys ≤ 1048576) : Sat Tryz.prog G 31 [.val false [.l none 2 (xs.map (TZone.row none))], .val false [.l none 2 (ys.map (TZone.row none))]] (.val false [.v (.bool (decide (xs = ys)))]) := by
  refine sat_of_go (L := tiOf Tryz.prog) (fun T ti h => h) false [[0, 1], [0, 1, 10], [4], [0, 1, 5], [0, 1, 5, 14], [0, 1, 5], [0, 1, 5, 26], [4], [4]] mx Tryz.func31 (by decide) rfl (by show 2 ≤ Tryz.f31.ntmps; decide) ?_
  by_cases hlen : xs.length = ys.length
  · have hlen2 : ((xs.length : Int) != (ys.length : Int)) = false := by simp [hlen]
    simp only [hlen2, go_sem, brS_dec, brS_beq, brS_bne, brK_dec, brK_beq, brK_bne, Nat.reduceLT, Nat.reduceLeDiff, Nat.reduceAdd, Nat.reduceMul, Nat.reduceSub, Nat.reduceEqDiff, Nat.reduceBEq, Nat.reduceDiv, reduceCtorEq, Int.reduceToNat]
    refine loop_n [0, 1, 5] xs.length (fun i => [(5, .val false [.v (.int .i64 (i : Int))])]) (fun i => ∀ j, j < i → xs.getD j default = ys.getD j default) ?_ (by simp) ?_ ?_
    · simp only [go_sem, brS_dec, brS_beq, brS_bne, brK_dec, brK_beq, brK_bne, Nat.reduceLT, Nat.reduceLeDiff, Nat.reduceAdd, Nat.reduceMul, Nat.reduceSub, Nat.reduceEqDiff, Nat.reduceBEq, Nat.reduceDiv, reduceCtorEq, Int.reduceToNat]
      try rfl
    · intro i hi hq F hF
      have hlt : ((i : Int) < (xs.length : Int)) := by omega
      have hi2 : i < ys.length := by omega
      have hlt2 : ((i : Int) < (ys.length : Int)) := by omega
      have hup := wrap_up (i := i) (by omega)
      simp only [hlt, hlt2, map_getD (TZone.row none) xs hi, map_getD (TZone.row none) ys hi2, hup, go_sem, brS_dec, brS_beq, brS_bne, brK_dec, brK_beq, brK_bne, Nat.reduceLT, Nat.reduceLeDiff, Nat.reduceAdd, Nat.reduceMul, Nat.reduceSub, Nat.reduceEqDiff, Nat.reduceBEq, Nat.reduceDiv, reduceCtorEq, Int.reduceToNat]
      refine ⟨rfl, call_by (eqZone (xs.getD i default) (ys.getD i default) (by have h1 := wtL_at (f := TZone.wt) hi default; omega) (by have h1 := wtL_at (f := TZone.wt) hi2 default; omega)) rfl ?_⟩
      by_cases hee : xs.getD i default = ys.getD i default
      · simp only [hee, hup, go_sem, brS_dec, brS_beq, brS_bne, brK_dec, brK_beq, brK_bne, Nat.reduceLT, Nat.reduceLeDiff, Nat.reduceAdd, Nat.reduceMul, Nat.reduceSub, Nat.reduceEqDiff, Nat.reduceBEq, Nat.reduceDiv, reduceCtorEq, Int.reduceToNat]
        refine hF _ ?_ ?_
        · simp only [hup, go_sem, brS_dec, brS_beq, brS_bne, brK_dec, brK_beq, brK_bne, Nat.reduceLT, Nat.reduceLeDiff, Nat.reduceAdd, Nat.reduceMul, Nat.reduceSub, Nat.reduceEqDiff, Nat.reduceBEq, Nat.reduceDiv, reduceCtorEq, Int.reduceToNat]
        · intro j hj
          rcases Nat.lt_or_ge j i with h | h
          · exact hq j h
          · obtain rfl : j = i := by omega
            exact hee
      · have hxy : ¬ (xs = ys) := by rintro rfl; exact hee rfl
        simp only [hee, hup, hxy, go_sem, brS_dec, brS_beq, brS_bne, brK_dec, brK_beq, brK_bne, Nat.reduceLT, Nat.reduceLeDiff, Nat.reduceAdd, Nat.reduceMul, Nat.reduceSub, Nat.reduceEqDiff, Nat.reduceBEq, Nat.reduceDiv, reduceCtorEq, Int.reduceToNat]
    · intro hq F
      have he : xs = ys := by
        apply List.ext_getElem hlen
        intro j h1 h2
        have := hq j h1
        simpa [List.getD_eq_getElem?_getD, h1, h2] using this
      subst he
      simp only [go_sem, brS_dec, brS_beq, brS_bne, brK_dec, brK_beq, brK_bne, Nat.reduceLT, Nat.reduceLeDiff, Nat.reduceAdd, Nat.reduceMul, Nat.reduceSub, Nat.reduceEqDiff, Nat.reduceBEq, Nat.reduceDiv, reduceCtorEq, Int.reduceToNat]
  · have hne : ¬ (xs = ys) := fun h => hlen (by rw [h])
    have hlen2 : ((xs.length : Int) != (ys.length : Int)) = true := by simp; omega
    simp only [hlen2, hne, go_sem, brS_dec, brS_beq, brS_bne, brK_dec, brK_beq, brK_bne, Nat.reduceLT, Nat.reduceLeDiff, Nat.reduceAdd, Nat.reduceMul, Nat.reduceSub, Nat.reduceEqDiff, Nat.reduceBEq, Nat.reduceDiv, reduceCtorEq, Int.reduceToNat]
theorem eqServer (x y : TServer) (hx : TServer.wt x ≤ 1048576) (hy : TServer.wt y ≤ 1048576) : Sat Tryz.prog G 66 [.val true (TServer.row none x), .val true (TServer.row none y)] (.val false [.v (.bool (decide (x = y)))]) := by
  have hwx : TServer.wt x = (wtL TZone.wt x.fZones) := rfl
  have hwy : TServer.wt y = (wtL TZone.wt y.fZones) := rfl
  refine sat_of_go (L := tiOf Tryz.prog) (fun T ti h => h) false [[2, 3], [2, 3, 10], [4], [15], [4], [4]] mx Tryz.func66 (by decide) rfl (by show 2 ≤ Tryz.f66.ntmps; decide) ?_
  simp only [go_sem, brS_dec, brS_beq, brS_bne, brK_dec, brK_beq, brK_bne, Nat.reduceLT, Nat.reduceLeDiff, Nat.reduceAdd, Nat.reduceMul, Nat.reduceSub, Nat.reduceEqDiff, Nat.reduceBEq, Nat.reduceDiv, reduceCtorEq, Int.reduceToNat]
  refine call_by (eqZoneS x.fZones y.fZones (by have h2 : x.fZones.length ≤ wtL TZone.wt x.fZones := wtL_len; omega) (by have h2 : y.fZones.length ≤ wtL TZone.wt y.fZones := wtL_len; omega) (by omega) (by omega)) rfl ?_
  by_cases heZones : x.fZones = y.fZones
  · have hdZones : decide (x.fZones = y.fZones) = true := decide_eq_true heZones
    simp only [hdZones, go_sem, brS_dec, brS_beq, brS_bne, brK_dec, brK_beq, brK_bne, Nat.reduceLT, Nat.reduceLeDiff, Nat.reduceAdd, Nat.reduceMul, Nat.reduceSub, Nat.reduceEqDiff, Nat.reduceBEq, Nat.reduceDiv, reduceCtorEq, Int.reduceToNat]
    by_cases heLie : x.fLie = y.fLie
    · have hbLie : (x.fLie != y.fLie) = false := by simp [heLie]
      simp only [hbLie, go_sem, brS_dec, brS_beq, brS_bne, brK_dec, brK_beq, brK_bne, Nat.reduceLT, Nat.reduceLeDiff, Nat.reduceAdd, Nat.reduceMul, Nat.reduceSub, Nat.reduceEqDiff, Nat.reduceBEq, Nat.reduceDiv, reduceCtorEq, Int.reduceToNat]
      have hxy : x = y := by cases x; cases y; simp_all
      simp only [hxy, go_sem, brS_dec, brS_beq, brS_bne, brK_dec, brK_beq, brK_bne, Nat.reduceLT, Nat.reduceLeDiff, Nat.reduceAdd, Nat.reduceMul, Nat.reduceSub, Nat.reduceEqDiff, Nat.reduceBEq, Nat.reduceDiv, reduceCtorEq, Int.reduceToNat]
      all_goals rfl
    · have hbLie : (x.fLie != y.fLie) = true := by simp [heLie]
      have hxy : ¬ (x = y) := fun h => heLie (by rw [h])
      simp only [hbLie, hxy, go_sem, brS_dec, brS_beq, brS_bne, brK_dec, brK_beq, brK_bne, Nat.reduceLT, Nat.reduceLeDiff, Nat.reduceAdd, Nat.reduceMul, Nat.reduceSub, Nat.reduceEqDiff, Nat.reduceBEq, Nat.reduceDiv, reduceCtorEq, Int.reduceToNat]
      all_goals rfl
  · have hdZones : decide (x.fZones = y.fZones) = false := decide_eq_false heZones
    have hxy : ¬ (x = y) := fun h => heZones (by rw [h])
    simp only [hdZones, hxy, go_sem, brS_dec, brS_beq, brS_bne, brK_dec, brK_beq, brK_bne, Nat.reduceLT, Nat.reduceLeDiff, Nat.reduceAdd, Nat.reduceMul, Nat.reduceSub, Nat.reduceEqDiff, Nat.reduceBEq, Nat.reduceDiv, reduceCtorEq, Int.reduceToNat]
    all_goals rfl
theorem eqStored (x y : TStored) (hx : TStored.wt x ≤ 1048576) (hy : TStored.wt y ≤ 1048576) : Sat Tryz.prog G 99 [.val true (TStored.row none x), .val true (TStored.row none y)] (.val false [.v (.bool (decide (x = y)))]) := by
  have hwx : TStored.wt x = (x.fLabel.length) + (TAnswer.wt x.fAnswer) := rfl
  have hwy : TStored.wt y = (y.fLabel.length) + (TAnswer.wt y.fAnswer) := rfl
  refine sat_of_go (L := tiOf Tryz.prog) (fun T ti h => h) false [[2, 3], [2, 3, 9], [4], [2, 3, 14], [4], [20], [4], [4]] mx Tryz.func99 (by decide) rfl (by show 2 ≤ Tryz.f99.ntmps; decide) ?_
  by_cases heZone : x.fZone = y.fZone
  · have hbZone : (x.fZone != y.fZone) = false := by simp [heZone]
    simp only [hbZone, go_sem, brS_dec, brS_beq, brS_bne, brK_dec, brK_beq, brK_bne, Nat.reduceLT, Nat.reduceLeDiff, Nat.reduceAdd, Nat.reduceMul, Nat.reduceSub, Nat.reduceEqDiff, Nat.reduceBEq, Nat.reduceDiv, reduceCtorEq, Int.reduceToNat]
    by_cases heLabel : x.fLabel = y.fLabel
    · have hbLabel : (x.fLabel == y.fLabel) = true := by simp [heLabel]
      simp only [hbLabel, go_sem, brS_dec, brS_beq, brS_bne, brK_dec, brK_beq, brK_bne, Nat.reduceLT, Nat.reduceLeDiff, Nat.reduceAdd, Nat.reduceMul, Nat.reduceSub, Nat.reduceEqDiff, Nat.reduceBEq, Nat.reduceDiv, reduceCtorEq, Int.reduceToNat]
      refine call_by (eqAnswer x.fAnswer y.fAnswer (by omega) (by omega)) rfl ?_
      by_cases heAnswer : x.fAnswer = y.fAnswer
      · have hdAnswer : decide (x.fAnswer = y.fAnswer) = true := decide_eq_true heAnswer
        simp only [hdAnswer, go_sem, brS_dec, brS_beq, brS_bne, brK_dec, brK_beq, brK_bne, Nat.reduceLT, Nat.reduceLeDiff, Nat.reduceAdd, Nat.reduceMul, Nat.reduceSub, Nat.reduceEqDiff, Nat.reduceBEq, Nat.reduceDiv, reduceCtorEq, Int.reduceToNat]
        have hxy : x = y := by cases x; cases y; simp_all
        simp only [hxy, go_sem, brS_dec, brS_beq, brS_bne, brK_dec, brK_beq, brK_bne, Nat.reduceLT, Nat.reduceLeDiff, Nat.reduceAdd, Nat.reduceMul, Nat.reduceSub, Nat.reduceEqDiff, Nat.reduceBEq, Nat.reduceDiv, reduceCtorEq, Int.reduceToNat]
        all_goals rfl
      · have hdAnswer : decide (x.fAnswer = y.fAnswer) = false := decide_eq_false heAnswer
        have hxy : ¬ (x = y) := fun h => heAnswer (by rw [h])
        simp only [hdAnswer, hxy, go_sem, brS_dec, brS_beq, brS_bne, brK_dec, brK_beq, brK_bne, Nat.reduceLT, Nat.reduceLeDiff, Nat.reduceAdd, Nat.reduceMul, Nat.reduceSub, Nat.reduceEqDiff, Nat.reduceBEq, Nat.reduceDiv, reduceCtorEq, Int.reduceToNat]
        all_goals rfl
    · have hbLabel : (x.fLabel == y.fLabel) = false := by simp [heLabel]
      have hxy : ¬ (x = y) := fun h => heLabel (by rw [h])
      simp only [hbLabel, hxy, go_sem, brS_dec, brS_beq, brS_bne, brK_dec, brK_beq, brK_bne, Nat.reduceLT, Nat.reduceLeDiff, Nat.reduceAdd, Nat.reduceMul, Nat.reduceSub, Nat.reduceEqDiff, Nat.reduceBEq, Nat.reduceDiv, reduceCtorEq, Int.reduceToNat]
      all_goals rfl
  · have hbZone : (x.fZone != y.fZone) = true := by simp [heZone]
    have hxy : ¬ (x = y) := fun h => heZone (by rw [h])
    simp only [hbZone, hxy, go_sem, brS_dec, brS_beq, brS_bne, brK_dec, brK_beq, brK_bne, Nat.reduceLT, Nat.reduceLeDiff, Nat.reduceAdd, Nat.reduceMul, Nat.reduceSub, Nat.reduceEqDiff, Nat.reduceBEq, Nat.reduceDiv, reduceCtorEq, Int.reduceToNat]
    all_goals rfl
theorem eqStoredS (xs ys : List TStored) (hx : xs.length ≤ 1048576) (hy : ys.length ≤ 1048576) (hwx : wtL TStored.wt xs ≤ 1048576) (hwy : wtL TStored.wt ys ≤ 1048576) : Sat Tryz.prog G 69 [.val false [.l none 23 (xs.map (TStored.row none))], .val false [.l none 23 (ys.map (TStored.row none))]] (.val false [.v (.bool (decide (xs = ys)))]) := by
  refine sat_of_go (L := tiOf Tryz.prog) (fun T ti h => h) false [[0, 1], [0, 1, 10], [4], [0, 1, 5], [0, 1, 5, 14], [0, 1, 5], [0, 1, 5, 26], [4], [4]] mx Tryz.func69 (by decide) rfl (by show 2 ≤ Tryz.f69.ntmps; decide) ?_
  by_cases hlen : xs.length = ys.length
  · have hlen2 : ((xs.length : Int) != (ys.length : Int)) = false := by simp [hlen]
    simp only [hlen2, go_sem, brS_dec, brS_beq, brS_bne, brK_dec, brK_beq, brK_bne, Nat.reduceLT, Nat.reduceLeDiff, Nat.reduceAdd, Nat.reduceMul, Nat.reduceSub, Nat.reduceEqDiff, Nat.reduceBEq, Nat.reduceDiv, reduceCtorEq, Int.reduceToNat]
    refine loop_n [0, 1, 5] xs.length (fun i => [(5, .val false [.v (.int .i64 (i : Int))])]) (fun i => ∀ j, j < i → xs.getD j default = ys.getD j default) ?_ (by simp) ?_ ?_
    · simp only [go_sem, brS_dec, brS_beq, brS_bne, brK_dec, brK_beq, brK_bne, Nat.reduceLT, Nat.reduceLeDiff, Nat.reduceAdd, Nat.reduceMul, Nat.reduceSub, Nat.reduceEqDiff, Nat.reduceBEq, Nat.reduceDiv, reduceCtorEq, Int.reduceToNat]
      try rfl
    · intro i hi hq F hF
      have hlt : ((i : Int) < (xs.length : Int)) := by omega
      have hi2 : i < ys.length := by omega
      have hlt2 : ((i : Int) < (ys.length : Int)) := by omega
      have hup := wrap_up (i := i) (by omega)
      simp only [hlt, hlt2, map_getD (TStored.row none) xs hi, map_getD (TStored.row none) ys hi2, hup, go_sem, brS_dec, brS_beq, brS_bne, brK_dec, brK_beq, brK_bne, Nat.reduceLT, Nat.reduceLeDiff, Nat.reduceAdd, Nat.reduceMul, Nat.reduceSub, Nat.reduceEqDiff, Nat.reduceBEq, Nat.reduceDiv, reduceCtorEq, Int.reduceToNat]
      refine ⟨rfl, call_by (eqStored (xs.getD i default) (ys.getD i default) (by have h1 := wtL_at (f := TStored.wt) hi default; omega) (by have h1 := wtL_at (f := TStored.wt) hi2 default; omega)) rfl ?_⟩
      by_cases hee : xs.getD i default = ys.getD i default
      · simp only [hee, hup, go_sem, brS_dec, brS_beq, brS_bne, brK_dec, brK_beq, brK_bne, Nat.reduceLT, Nat.reduceLeDiff, Nat.reduceAdd, Nat.reduceMul, Nat.reduceSub, Nat.reduceEqDiff, Nat.reduceBEq, Nat.reduceDiv, reduceCtorEq, Int.reduceToNat]
        refine hF _ ?_ ?_
        · simp only [hup, go_sem, brS_dec, brS_beq, brS_bne, brK_dec, brK_beq, brK_bne, Nat.reduceLT, Nat.reduceLeDiff, Nat.reduceAdd, Nat.reduceMul, Nat.reduceSub, Nat.reduceEqDiff, Nat.reduceBEq, Nat.reduceDiv, reduceCtorEq, Int.reduceToNat]
        · intro j hj
          rcases Nat.lt_or_ge j i with h | h
          · exact hq j h
          · obtain rfl : j = i := by omega
            exact hee
      · have hxy : ¬ (xs = ys) := by rintro rfl; exact hee rfl
        simp only [hee, hup, hxy, go_sem, brS_dec, brS_beq, brS_bne, brK_dec, brK_beq, brK_bne, Nat.reduceLT, Nat.reduceLeDiff, Nat.reduceAdd, Nat.reduceMul, Nat.reduceSub, Nat.reduceEqDiff, Nat.reduceBEq, Nat.reduceDiv, reduceCtorEq, Int.reduceToNat]
    · intro hq F
      have he : xs = ys := by
        apply List.ext_getElem hlen
        intro j h1 h2
        have := hq j h1
        simpa [List.getD_eq_getElem?_getD, h1, h2] using this
      subst he
      simp only [go_sem, brS_dec, brS_beq, brS_bne, brK_dec, brK_beq, brK_bne, Nat.reduceLT, Nat.reduceLeDiff, Nat.reduceAdd, Nat.reduceMul, Nat.reduceSub, Nat.reduceEqDiff, Nat.reduceBEq, Nat.reduceDiv, reduceCtorEq, Int.reduceToNat]
  · have hne : ¬ (xs = ys) := fun h => hlen (by rw [h])
    have hlen2 : ((xs.length : Int) != (ys.length : Int)) = true := by simp; omega
    simp only [hlen2, hne, go_sem, brS_dec, brS_beq, brS_bne, brK_dec, brK_beq, brK_bne, Nat.reduceLT, Nat.reduceLeDiff, Nat.reduceAdd, Nat.reduceMul, Nat.reduceSub, Nat.reduceEqDiff, Nat.reduceBEq, Nat.reduceDiv, reduceCtorEq, Int.reduceToNat]
theorem eqCache (x y : TCache) (hx : TCache.wt x ≤ 1048576) (hy : TCache.wt y ≤ 1048576) : Sat Tryz.prog G 35 [.val true (TCache.row none x), .val true (TCache.row none y)] (.val false [.v (.bool (decide (x = y)))]) := by
  have hwx : TCache.wt x = (wtL TStored.wt x.fList) := rfl
  have hwy : TCache.wt y = (wtL TStored.wt y.fList) := rfl
  refine sat_of_go (L := tiOf Tryz.prog) (fun T ti h => h) false [[2, 3], [10], [4], [4]] mx Tryz.func35 (by decide) rfl (by show 2 ≤ Tryz.f35.ntmps; decide) ?_
  simp only [go_sem, brS_dec, brS_beq, brS_bne, brK_dec, brK_beq, brK_bne, Nat.reduceLT, Nat.reduceLeDiff, Nat.reduceAdd, Nat.reduceMul, Nat.reduceSub, Nat.reduceEqDiff, Nat.reduceBEq, Nat.reduceDiv, reduceCtorEq, Int.reduceToNat]
  refine call_by (eqStoredS x.fList y.fList (by have h2 : x.fList.length ≤ wtL TStored.wt x.fList := wtL_len; omega) (by have h2 : y.fList.length ≤ wtL TStored.wt y.fList := wtL_len; omega) (by omega) (by omega)) rfl ?_
  by_cases heList : x.fList = y.fList
  · have hdList : decide (x.fList = y.fList) = true := decide_eq_true heList
    simp only [hdList, go_sem, brS_dec, brS_beq, brS_bne, brK_dec, brK_beq, brK_bne, Nat.reduceLT, Nat.reduceLeDiff, Nat.reduceAdd, Nat.reduceMul, Nat.reduceSub, Nat.reduceEqDiff, Nat.reduceBEq, Nat.reduceDiv, reduceCtorEq, Int.reduceToNat]
    have hxy : x = y := by cases x; cases y; simp_all
    simp only [hxy, go_sem, brS_dec, brS_beq, brS_bne, brK_dec, brK_beq, brK_bne, Nat.reduceLT, Nat.reduceLeDiff, Nat.reduceAdd, Nat.reduceMul, Nat.reduceSub, Nat.reduceEqDiff, Nat.reduceBEq, Nat.reduceDiv, reduceCtorEq, Int.reduceToNat]
    all_goals rfl
  · have hdList : decide (x.fList = y.fList) = false := decide_eq_false heList
    have hxy : ¬ (x = y) := fun h => heList (by rw [h])
    simp only [hdList, hxy, go_sem, brS_dec, brS_beq, brS_bne, brK_dec, brK_beq, brK_bne, Nat.reduceLT, Nat.reduceLeDiff, Nat.reduceAdd, Nat.reduceMul, Nat.reduceSub, Nat.reduceEqDiff, Nat.reduceBEq, Nat.reduceDiv, reduceCtorEq, Int.reduceToNat]
    all_goals rfl
theorem eqActor (x y : TActor) (hx : TActor.wt x ≤ 1048576) (hy : TActor.wt y ≤ 1048576) : Sat Tryz.prog G 64 [.val true (TActor.row none x), .val true (TActor.row none y)] (.val false [.v (.bool (decide (x = y)))]) := by
  have hwx : TActor.wt x = (x.fHeld.length) := rfl
  have hwy : TActor.wt y = (y.fHeld.length) := rfl
  refine sat_of_go (L := tiOf Tryz.prog) (fun T ti h => h) false [[2, 3], [10], [4], [4]] mx Tryz.func64 (by decide) rfl (by show 2 ≤ Tryz.f64.ntmps; decide) ?_
  simp only [go_sem, brS_dec, brS_beq, brS_bne, brK_dec, brK_beq, brK_bne, Nat.reduceLT, Nat.reduceLeDiff, Nat.reduceAdd, Nat.reduceMul, Nat.reduceSub, Nat.reduceEqDiff, Nat.reduceBEq, Nat.reduceDiv, reduceCtorEq, Int.reduceToNat]
  refine call_by (eqIntS x.fHeld y.fHeld (by have h2 : x.fHeld.length ≤ x.fHeld.length := Nat.le_refl _; omega) (by have h2 : y.fHeld.length ≤ y.fHeld.length := Nat.le_refl _; omega)) rfl ?_
  by_cases heHeld : x.fHeld = y.fHeld
  · have hdHeld : decide (x.fHeld = y.fHeld) = true := decide_eq_true heHeld
    simp only [hdHeld, go_sem, brS_dec, brS_beq, brS_bne, brK_dec, brK_beq, brK_bne, Nat.reduceLT, Nat.reduceLeDiff, Nat.reduceAdd, Nat.reduceMul, Nat.reduceSub, Nat.reduceEqDiff, Nat.reduceBEq, Nat.reduceDiv, reduceCtorEq, Int.reduceToNat]
    have hxy : x = y := by cases x; cases y; simp_all
    simp only [hxy, go_sem, brS_dec, brS_beq, brS_bne, brK_dec, brK_beq, brK_bne, Nat.reduceLT, Nat.reduceLeDiff, Nat.reduceAdd, Nat.reduceMul, Nat.reduceSub, Nat.reduceEqDiff, Nat.reduceBEq, Nat.reduceDiv, reduceCtorEq, Int.reduceToNat]
    all_goals rfl
  · have hdHeld : decide (x.fHeld = y.fHeld) = false := decide_eq_false heHeld
    have hxy : ¬ (x = y) := fun h => heHeld (by rw [h])
    simp only [hdHeld, hxy, go_sem, brS_dec, brS_beq, brS_bne, brK_dec, brK_beq, brK_bne, Nat.reduceLT, Nat.reduceLeDiff, Nat.reduceAdd, Nat.reduceMul, Nat.reduceSub, Nat.reduceEqDiff, Nat.reduceBEq, Nat.reduceDiv, reduceCtorEq, Int.reduceToNat]
    all_goals rfl
theorem eqSaid (x y : TSaid) (hx : TSaid.wt x ≤ 1048576) (hy : TSaid.wt y ≤ 1048576) : Sat Tryz.prog G 65 [.val true (TSaid.row none x), .val true (TSaid.row none y)] (.val false [.v (.bool (decide (x = y)))]) := by
  have hwx : TSaid.wt x = (TZone.wt x.fZone) + (x.fHeld.length) := rfl
  have hwy : TSaid.wt y = (TZone.wt y.fZone) + (y.fHeld.length) := rfl
  refine sat_of_go (L := tiOf Tryz.prog) (fun T ti h => h) false [[2, 3], [2, 3, 10], [4], [16], [4], [4]] mx Tryz.func65 (by decide) rfl (by show 2 ≤ Tryz.f65.ntmps; decide) ?_
  simp only [go_sem, brS_dec, brS_beq, brS_bne, brK_dec, brK_beq, brK_bne, Nat.reduceLT, Nat.reduceLeDiff, Nat.reduceAdd, Nat.reduceMul, Nat.reduceSub, Nat.reduceEqDiff, Nat.reduceBEq, Nat.reduceDiv, reduceCtorEq, Int.reduceToNat]
  refine call_by (eqZone x.fZone y.fZone (by omega) (by omega)) rfl ?_
  by_cases heZone : x.fZone = y.fZone
  · have hdZone : decide (x.fZone = y.fZone) = true := decide_eq_true heZone
    simp only [hdZone, go_sem, brS_dec, brS_beq, brS_bne, brK_dec, brK_beq, brK_bne, Nat.reduceLT, Nat.reduceLeDiff, Nat.reduceAdd, Nat.reduceMul, Nat.reduceSub, Nat.reduceEqDiff, Nat.reduceBEq, Nat.reduceDiv, reduceCtorEq, Int.reduceToNat]
    refine call_by (eqIntS x.fHeld y.fHeld (by have h2 : x.fHeld.length ≤ x.fHeld.length := Nat.le_refl _; omega) (by have h2 : y.fHeld.length ≤ y.fHeld.length := Nat.le_refl _; omega)) rfl ?_
    by_cases heHeld : x.fHeld = y.fHeld
    · have hdHeld : decide (x.fHeld = y.fHeld) = true := decide_eq_true heHeld
      simp only [hdHeld, go_sem, brS_dec, brS_beq, brS_bne, brK_dec, brK_beq, brK_bne, Nat.reduceLT, Nat.reduceLeDiff, Nat.reduceAdd, Nat.reduceMul, Nat.reduceSub, Nat.reduceEqDiff, Nat.reduceBEq, Nat.reduceDiv, reduceCtorEq, Int.reduceToNat]
      have hxy : x = y := by cases x; cases y; simp_all
      simp only [hxy, go_sem, brS_dec, brS_beq, brS_bne, brK_dec, brK_beq, brK_bne, Nat.reduceLT, Nat.reduceLeDiff, Nat.reduceAdd, Nat.reduceMul, Nat.reduceSub, Nat.reduceEqDiff, Nat.reduceBEq, Nat.reduceDiv, reduceCtorEq, Int.reduceToNat]
      all_goals rfl
    · have hdHeld : decide (x.fHeld = y.fHeld) = false := decide_eq_false heHeld
      have hxy : ¬ (x = y) := fun h => heHeld (by rw [h])
      simp only [hdHeld, hxy, go_sem, brS_dec, brS_beq, brS_bne, brK_dec, brK_beq, brK_bne, Nat.reduceLT, Nat.reduceLeDiff, Nat.reduceAdd, Nat.reduceMul, Nat.reduceSub, Nat.reduceEqDiff, Nat.reduceBEq, Nat.reduceDiv, reduceCtorEq, Int.reduceToNat]
      all_goals rfl
  · have hdZone : decide (x.fZone = y.fZone) = false := decide_eq_false heZone
    have hxy : ¬ (x = y) := fun h => heZone (by rw [h])
    simp only [hdZone, hxy, go_sem, brS_dec, brS_beq, brS_bne, brK_dec, brK_beq, brK_bne, Nat.reduceLT, Nat.reduceLeDiff, Nat.reduceAdd, Nat.reduceMul, Nat.reduceSub, Nat.reduceEqDiff, Nat.reduceBEq, Nat.reduceDiv, reduceCtorEq, Int.reduceToNat]
    all_goals rfl
theorem eqActorS (xs ys : List TActor) (hx : xs.length ≤ 1048576) (hy : ys.length ≤ 1048576) (hwx : wtL TActor.wt xs ≤ 1048576) (hwy : wtL TActor.wt ys ≤ 1048576) : Sat Tryz.prog G 30 [.val false [.l none 1 (xs.map (TActor.row none))], .val false [.l none 1 (ys.map (TActor.row none))]] (.val false [.v (.bool (decide (xs = ys)))]) := by
  refine sat_of_go (L := tiOf Tryz.prog) (fun T ti h => h) false [[0, 1], [0, 1, 10], [4], [0, 1, 5], [0, 1, 5, 14], [0, 1, 5], [0, 1, 5, 26], [4], [4]] mx Tryz.func30 (by decide) rfl (by show 2 ≤ Tryz.f30.ntmps; decide) ?_
  by_cases hlen : xs.length = ys.length
  · have hlen2 : ((xs.length : Int) != (ys.length : Int)) = false := by simp [hlen]
    simp only [hlen2, go_sem, brS_dec, brS_beq, brS_bne, brK_dec, brK_beq, brK_bne, Nat.reduceLT, Nat.reduceLeDiff, Nat.reduceAdd, Nat.reduceMul, Nat.reduceSub, Nat.reduceEqDiff, Nat.reduceBEq, Nat.reduceDiv, reduceCtorEq, Int.reduceToNat]
    refine loop_n [0, 1, 5] xs.length (fun i => [(5, .val false [.v (.int .i64 (i : Int))])]) (fun i => ∀ j, j < i → xs.getD j default = ys.getD j default) ?_ (by simp) ?_ ?_
    · simp only [go_sem, brS_dec, brS_beq, brS_bne, brK_dec, brK_beq, brK_bne, Nat.reduceLT, Nat.reduceLeDiff, Nat.reduceAdd, Nat.reduceMul, Nat.reduceSub, Nat.reduceEqDiff, Nat.reduceBEq, Nat.reduceDiv, reduceCtorEq, Int.reduceToNat]
      try rfl
    · intro i hi hq F hF
      have hlt : ((i : Int) < (xs.length : Int)) := by omega
      have hi2 : i < ys.length := by omega
      have hlt2 : ((i : Int) < (ys.length : Int)) := by omega
      have hup := wrap_up (i := i) (by omega)
      simp only [hlt, hlt2, map_getD (TActor.row none) xs hi, map_getD (TActor.row none) ys hi2, hup, go_sem, brS_dec, brS_beq, brS_bne, brK_dec, brK_beq, brK_bne, Nat.reduceLT, Nat.reduceLeDiff, Nat.reduceAdd, Nat.reduceMul, Nat.reduceSub, Nat.reduceEqDiff, Nat.reduceBEq, Nat.reduceDiv, reduceCtorEq, Int.reduceToNat]
      refine ⟨rfl, call_by (eqActor (xs.getD i default) (ys.getD i default) (by have h1 := wtL_at (f := TActor.wt) hi default; omega) (by have h1 := wtL_at (f := TActor.wt) hi2 default; omega)) rfl ?_⟩
      by_cases hee : xs.getD i default = ys.getD i default
      · simp only [hee, hup, go_sem, brS_dec, brS_beq, brS_bne, brK_dec, brK_beq, brK_bne, Nat.reduceLT, Nat.reduceLeDiff, Nat.reduceAdd, Nat.reduceMul, Nat.reduceSub, Nat.reduceEqDiff, Nat.reduceBEq, Nat.reduceDiv, reduceCtorEq, Int.reduceToNat]
        refine hF _ ?_ ?_
        · simp only [hup, go_sem, brS_dec, brS_beq, brS_bne, brK_dec, brK_beq, brK_bne, Nat.reduceLT, Nat.reduceLeDiff, Nat.reduceAdd, Nat.reduceMul, Nat.reduceSub, Nat.reduceEqDiff, Nat.reduceBEq, Nat.reduceDiv, reduceCtorEq, Int.reduceToNat]
        · intro j hj
          rcases Nat.lt_or_ge j i with h | h
          · exact hq j h
          · obtain rfl : j = i := by omega
            exact hee
      · have hxy : ¬ (xs = ys) := by rintro rfl; exact hee rfl
        simp only [hee, hup, hxy, go_sem, brS_dec, brS_beq, brS_bne, brK_dec, brK_beq, brK_bne, Nat.reduceLT, Nat.reduceLeDiff, Nat.reduceAdd, Nat.reduceMul, Nat.reduceSub, Nat.reduceEqDiff, Nat.reduceBEq, Nat.reduceDiv, reduceCtorEq, Int.reduceToNat]
    · intro hq F
      have he : xs = ys := by
        apply List.ext_getElem hlen
        intro j h1 h2
        have := hq j h1
        simpa [List.getD_eq_getElem?_getD, h1, h2] using this
      subst he
      simp only [go_sem, brS_dec, brS_beq, brS_bne, brK_dec, brK_beq, brK_bne, Nat.reduceLT, Nat.reduceLeDiff, Nat.reduceAdd, Nat.reduceMul, Nat.reduceSub, Nat.reduceEqDiff, Nat.reduceBEq, Nat.reduceDiv, reduceCtorEq, Int.reduceToNat]
  · have hne : ¬ (xs = ys) := fun h => hlen (by rw [h])
    have hlen2 : ((xs.length : Int) != (ys.length : Int)) = true := by simp; omega
    simp only [hlen2, hne, go_sem, brS_dec, brS_beq, brS_bne, brK_dec, brK_beq, brK_bne, Nat.reduceLT, Nat.reduceLeDiff, Nat.reduceAdd, Nat.reduceMul, Nat.reduceSub, Nat.reduceEqDiff, Nat.reduceBEq, Nat.reduceDiv, reduceCtorEq, Int.reduceToNat]
theorem eqSaidS (xs ys : List TSaid) (hx : xs.length ≤ 1048576) (hy : ys.length ≤ 1048576) (hwx : wtL TSaid.wt xs ≤ 1048576) (hwy : wtL TSaid.wt ys ≤ 1048576) : Sat Tryz.prog G 32 [.val false [.l none 3 (xs.map (TSaid.row none))], .val false [.l none 3 (ys.map (TSaid.row none))]] (.val false [.v (.bool (decide (xs = ys)))]) := by
  refine sat_of_go (L := tiOf Tryz.prog) (fun T ti h => h) false [[0, 1], [0, 1, 10], [4], [0, 1, 5], [0, 1, 5, 14], [0, 1, 5], [0, 1, 5, 26], [4], [4]] mx Tryz.func32 (by decide) rfl (by show 2 ≤ Tryz.f32.ntmps; decide) ?_
  by_cases hlen : xs.length = ys.length
  · have hlen2 : ((xs.length : Int) != (ys.length : Int)) = false := by simp [hlen]
    simp only [hlen2, go_sem, brS_dec, brS_beq, brS_bne, brK_dec, brK_beq, brK_bne, Nat.reduceLT, Nat.reduceLeDiff, Nat.reduceAdd, Nat.reduceMul, Nat.reduceSub, Nat.reduceEqDiff, Nat.reduceBEq, Nat.reduceDiv, reduceCtorEq, Int.reduceToNat]
    refine loop_n [0, 1, 5] xs.length (fun i => [(5, .val false [.v (.int .i64 (i : Int))])]) (fun i => ∀ j, j < i → xs.getD j default = ys.getD j default) ?_ (by simp) ?_ ?_
    · simp only [go_sem, brS_dec, brS_beq, brS_bne, brK_dec, brK_beq, brK_bne, Nat.reduceLT, Nat.reduceLeDiff, Nat.reduceAdd, Nat.reduceMul, Nat.reduceSub, Nat.reduceEqDiff, Nat.reduceBEq, Nat.reduceDiv, reduceCtorEq, Int.reduceToNat]
      try rfl
    · intro i hi hq F hF
      have hlt : ((i : Int) < (xs.length : Int)) := by omega
      have hi2 : i < ys.length := by omega
      have hlt2 : ((i : Int) < (ys.length : Int)) := by omega
      have hup := wrap_up (i := i) (by omega)
      simp only [hlt, hlt2, map_getD (TSaid.row none) xs hi, map_getD (TSaid.row none) ys hi2, hup, go_sem, brS_dec, brS_beq, brS_bne, brK_dec, brK_beq, brK_bne, Nat.reduceLT, Nat.reduceLeDiff, Nat.reduceAdd, Nat.reduceMul, Nat.reduceSub, Nat.reduceEqDiff, Nat.reduceBEq, Nat.reduceDiv, reduceCtorEq, Int.reduceToNat]
      refine ⟨rfl, call_by (eqSaid (xs.getD i default) (ys.getD i default) (by have h1 := wtL_at (f := TSaid.wt) hi default; omega) (by have h1 := wtL_at (f := TSaid.wt) hi2 default; omega)) rfl ?_⟩
      by_cases hee : xs.getD i default = ys.getD i default
      · simp only [hee, hup, go_sem, brS_dec, brS_beq, brS_bne, brK_dec, brK_beq, brK_bne, Nat.reduceLT, Nat.reduceLeDiff, Nat.reduceAdd, Nat.reduceMul, Nat.reduceSub, Nat.reduceEqDiff, Nat.reduceBEq, Nat.reduceDiv, reduceCtorEq, Int.reduceToNat]
        refine hF _ ?_ ?_
        · simp only [hup, go_sem, brS_dec, brS_beq, brS_bne, brK_dec, brK_beq, brK_bne, Nat.reduceLT, Nat.reduceLeDiff, Nat.reduceAdd, Nat.reduceMul, Nat.reduceSub, Nat.reduceEqDiff, Nat.reduceBEq, Nat.reduceDiv, reduceCtorEq, Int.reduceToNat]
        · intro j hj
          rcases Nat.lt_or_ge j i with h | h
          · exact hq j h
          · obtain rfl : j = i := by omega
            exact hee
      · have hxy : ¬ (xs = ys) := by rintro rfl; exact hee rfl
        simp only [hee, hup, hxy, go_sem, brS_dec, brS_beq, brS_bne, brK_dec, brK_beq, brK_bne, Nat.reduceLT, Nat.reduceLeDiff, Nat.reduceAdd, Nat.reduceMul, Nat.reduceSub, Nat.reduceEqDiff, Nat.reduceBEq, Nat.reduceDiv, reduceCtorEq, Int.reduceToNat]
    · intro hq F
      have he : xs = ys := by
        apply List.ext_getElem hlen
        intro j h1 h2
        have := hq j h1
        simpa [List.getD_eq_getElem?_getD, h1, h2] using this
      subst he
      simp only [go_sem, brS_dec, brS_beq, brS_bne, brK_dec, brK_beq, brK_bne, Nat.reduceLT, Nat.reduceLeDiff, Nat.reduceAdd, Nat.reduceMul, Nat.reduceSub, Nat.reduceEqDiff, Nat.reduceBEq, Nat.reduceDiv, reduceCtorEq, Int.reduceToNat]
  · have hne : ¬ (xs = ys) := fun h => hlen (by rw [h])
    have hlen2 : ((xs.length : Int) != (ys.length : Int)) = true := by simp; omega
    simp only [hlen2, hne, go_sem, brS_dec, brS_beq, brS_bne, brK_dec, brK_beq, brK_bne, Nat.reduceLT, Nat.reduceLeDiff, Nat.reduceAdd, Nat.reduceMul, Nat.reduceSub, Nat.reduceEqDiff, Nat.reduceBEq, Nat.reduceDiv, reduceCtorEq, Int.reduceToNat]
theorem eqServerS (xs ys : List TServer) (hx : xs.length ≤ 1048576) (hy : ys.length ≤ 1048576) (hwx : wtL TServer.wt xs ≤ 1048576) (hwy : wtL TServer.wt ys ≤ 1048576) : Sat Tryz.prog G 33 [.val false [.l none 2 (xs.map (TServer.row none))], .val false [.l none 2 (ys.map (TServer.row none))]] (.val false [.v (.bool (decide (xs = ys)))]) := by
  refine sat_of_go (L := tiOf Tryz.prog) (fun T ti h => h) false [[0, 1], [0, 1, 10], [4], [0, 1, 5], [0, 1, 5, 14], [0, 1, 5], [0, 1, 5, 26], [4], [4]] mx Tryz.func33 (by decide) rfl (by show 2 ≤ Tryz.f33.ntmps; decide) ?_
  by_cases hlen : xs.length = ys.length
  · have hlen2 : ((xs.length : Int) != (ys.length : Int)) = false := by simp [hlen]
    simp only [hlen2, go_sem, brS_dec, brS_beq, brS_bne, brK_dec, brK_beq, brK_bne, Nat.reduceLT, Nat.reduceLeDiff, Nat.reduceAdd, Nat.reduceMul, Nat.reduceSub, Nat.reduceEqDiff, Nat.reduceBEq, Nat.reduceDiv, reduceCtorEq, Int.reduceToNat]
    refine loop_n [0, 1, 5] xs.length (fun i => [(5, .val false [.v (.int .i64 (i : Int))])]) (fun i => ∀ j, j < i → xs.getD j default = ys.getD j default) ?_ (by simp) ?_ ?_
    · simp only [go_sem, brS_dec, brS_beq, brS_bne, brK_dec, brK_beq, brK_bne, Nat.reduceLT, Nat.reduceLeDiff, Nat.reduceAdd, Nat.reduceMul, Nat.reduceSub, Nat.reduceEqDiff, Nat.reduceBEq, Nat.reduceDiv, reduceCtorEq, Int.reduceToNat]
      try rfl
    · intro i hi hq F hF
      have hlt : ((i : Int) < (xs.length : Int)) := by omega
      have hi2 : i < ys.length := by omega
      have hlt2 : ((i : Int) < (ys.length : Int)) := by omega
      have hup := wrap_up (i := i) (by omega)
      simp only [hlt, hlt2, map_getD (TServer.row none) xs hi, map_getD (TServer.row none) ys hi2, hup, go_sem, brS_dec, brS_beq, brS_bne, brK_dec, brK_beq, brK_bne, Nat.reduceLT, Nat.reduceLeDiff, Nat.reduceAdd, Nat.reduceMul, Nat.reduceSub, Nat.reduceEqDiff, Nat.reduceBEq, Nat.reduceDiv, reduceCtorEq, Int.reduceToNat]
      refine ⟨rfl, call_by (eqServer (xs.getD i default) (ys.getD i default) (by have h1 := wtL_at (f := TServer.wt) hi default; omega) (by have h1 := wtL_at (f := TServer.wt) hi2 default; omega)) rfl ?_⟩
      by_cases hee : xs.getD i default = ys.getD i default
      · simp only [hee, hup, go_sem, brS_dec, brS_beq, brS_bne, brK_dec, brK_beq, brK_bne, Nat.reduceLT, Nat.reduceLeDiff, Nat.reduceAdd, Nat.reduceMul, Nat.reduceSub, Nat.reduceEqDiff, Nat.reduceBEq, Nat.reduceDiv, reduceCtorEq, Int.reduceToNat]
        refine hF _ ?_ ?_
        · simp only [hup, go_sem, brS_dec, brS_beq, brS_bne, brK_dec, brK_beq, brK_bne, Nat.reduceLT, Nat.reduceLeDiff, Nat.reduceAdd, Nat.reduceMul, Nat.reduceSub, Nat.reduceEqDiff, Nat.reduceBEq, Nat.reduceDiv, reduceCtorEq, Int.reduceToNat]
        · intro j hj
          rcases Nat.lt_or_ge j i with h | h
          · exact hq j h
          · obtain rfl : j = i := by omega
            exact hee
      · have hxy : ¬ (xs = ys) := by rintro rfl; exact hee rfl
        simp only [hee, hup, hxy, go_sem, brS_dec, brS_beq, brS_bne, brK_dec, brK_beq, brK_bne, Nat.reduceLT, Nat.reduceLeDiff, Nat.reduceAdd, Nat.reduceMul, Nat.reduceSub, Nat.reduceEqDiff, Nat.reduceBEq, Nat.reduceDiv, reduceCtorEq, Int.reduceToNat]
    · intro hq F
      have he : xs = ys := by
        apply List.ext_getElem hlen
        intro j h1 h2
        have := hq j h1
        simpa [List.getD_eq_getElem?_getD, h1, h2] using this
      subst he
      simp only [go_sem, brS_dec, brS_beq, brS_bne, brK_dec, brK_beq, brK_bne, Nat.reduceLT, Nat.reduceLeDiff, Nat.reduceAdd, Nat.reduceMul, Nat.reduceSub, Nat.reduceEqDiff, Nat.reduceBEq, Nat.reduceDiv, reduceCtorEq, Int.reduceToNat]
  · have hne : ¬ (xs = ys) := fun h => hlen (by rw [h])
    have hlen2 : ((xs.length : Int) != (ys.length : Int)) = true := by simp; omega
    simp only [hlen2, hne, go_sem, brS_dec, brS_beq, brS_bne, brK_dec, brK_beq, brK_bne, Nat.reduceLT, Nat.reduceLeDiff, Nat.reduceAdd, Nat.reduceMul, Nat.reduceSub, Nat.reduceEqDiff, Nat.reduceBEq, Nat.reduceDiv, reduceCtorEq, Int.reduceToNat]
theorem eqWorld (x y : TWorld) (hx : TWorld.wt x ≤ 1048576) (hy : TWorld.wt y ≤ 1048576) : Sat Tryz.prog G 9 [.val true (TWorld.row none x), .val true (TWorld.row none y)] (.val false [.v (.bool (decide (x = y)))]) := by
  have hwx : TWorld.wt x = (wtL TActor.wt x.fActors) + (wtL TZone.wt x.fZones) + (wtL TSaid.wt x.fSaid) + (wtL TServer.wt x.fServers) + (TKnown.wt x.fKnown) + (TCache.wt x.fCache) := rfl
  have hwy : TWorld.wt y = (wtL TActor.wt y.fActors) + (wtL TZone.wt y.fZones) + (wtL TSaid.wt y.fSaid) + (wtL TServer.wt y.fServers) + (TKnown.wt y.fKnown) + (TCache.wt y.fCache) := rfl
  refine sat_of_go (L := tiOf Tryz.prog) (fun T ti h => h) false [[2, 3], [2, 3, 9], [4], [2, 3, 15], [4], [2, 3, 21], [4], [2, 3, 27], [4], [2, 3, 33], [4], [2, 3, 39], [4], [45], [4], [4]] mx Tryz.func9 (by decide) rfl (by show 2 ≤ Tryz.f9.ntmps; decide) ?_
  by_cases heNow : x.fNow = y.fNow
  · have hbNow : (x.fNow != y.fNow) = false := by simp [heNow]
    simp only [hbNow, go_sem, brS_dec, brS_beq, brS_bne, brK_dec, brK_beq, brK_bne, Nat.reduceLT, Nat.reduceLeDiff, Nat.reduceAdd, Nat.reduceMul, Nat.reduceSub, Nat.reduceEqDiff, Nat.reduceBEq, Nat.reduceDiv, reduceCtorEq, Int.reduceToNat]
    refine call_by (eqActorS x.fActors y.fActors (by have h2 : x.fActors.length ≤ wtL TActor.wt x.fActors := wtL_len; omega) (by have h2 : y.fActors.length ≤ wtL TActor.wt y.fActors := wtL_len; omega) (by omega) (by omega)) rfl ?_
    by_cases heActors : x.fActors = y.fActors
    · have hdActors : decide (x.fActors = y.fActors) = true := decide_eq_true heActors
      simp only [hdActors, go_sem, brS_dec, brS_beq, brS_bne, brK_dec, brK_beq, brK_bne, Nat.reduceLT, Nat.reduceLeDiff, Nat.reduceAdd, Nat.reduceMul, Nat.reduceSub, Nat.reduceEqDiff, Nat.reduceBEq, Nat.reduceDiv, reduceCtorEq, Int.reduceToNat]
      refine call_by (eqZoneS x.fZones y.fZones (by have h2 : x.fZones.length ≤ wtL TZone.wt x.fZones := wtL_len; omega) (by have h2 : y.fZones.length ≤ wtL TZone.wt y.fZones := wtL_len; omega) (by omega) (by omega)) rfl ?_
      by_cases heZones : x.fZones = y.fZones
      · have hdZones : decide (x.fZones = y.fZones) = true := decide_eq_true heZones
        simp only [hdZones, go_sem, brS_dec, brS_beq, brS_bne, brK_dec, brK_beq, brK_bne, Nat.reduceLT, Nat.reduceLeDiff, Nat.reduceAdd, Nat.reduceMul, Nat.reduceSub, Nat.reduceEqDiff, Nat.reduceBEq, Nat.reduceDiv, reduceCtorEq, Int.reduceToNat]
        refine call_by (eqSaidS x.fSaid y.fSaid (by have h2 : x.fSaid.length ≤ wtL TSaid.wt x.fSaid := wtL_len; omega) (by have h2 : y.fSaid.length ≤ wtL TSaid.wt y.fSaid := wtL_len; omega) (by omega) (by omega)) rfl ?_
        by_cases heSaid : x.fSaid = y.fSaid
        · have hdSaid : decide (x.fSaid = y.fSaid) = true := decide_eq_true heSaid
          simp only [hdSaid, go_sem, brS_dec, brS_beq, brS_bne, brK_dec, brK_beq, brK_bne, Nat.reduceLT, Nat.reduceLeDiff, Nat.reduceAdd, Nat.reduceMul, Nat.reduceSub, Nat.reduceEqDiff, Nat.reduceBEq, Nat.reduceDiv, reduceCtorEq, Int.reduceToNat]
          refine call_by (eqServerS x.fServers y.fServers (by have h2 : x.fServers.length ≤ wtL TServer.wt x.fServers := wtL_len; omega) (by have h2 : y.fServers.length ≤ wtL TServer.wt y.fServers := wtL_len; omega) (by omega) (by omega)) rfl ?_
          by_cases heServers : x.fServers = y.fServers
          · have hdServers : decide (x.fServers = y.fServers) = true := decide_eq_true heServers
            simp only [hdServers, go_sem, brS_dec, brS_beq, brS_bne, brK_dec, brK_beq, brK_bne, Nat.reduceLT, Nat.reduceLeDiff, Nat.reduceAdd, Nat.reduceMul, Nat.reduceSub, Nat.reduceEqDiff, Nat.reduceBEq, Nat.reduceDiv, reduceCtorEq, Int.reduceToNat]
            refine call_by (eqKnown x.fKnown y.fKnown (by omega) (by omega)) rfl ?_
            by_cases heKnown : x.fKnown = y.fKnown
            · have hdKnown : decide (x.fKnown = y.fKnown) = true := decide_eq_true heKnown
              simp only [hdKnown, go_sem, brS_dec, brS_beq, brS_bne, brK_dec, brK_beq, brK_bne, Nat.reduceLT, Nat.reduceLeDiff, Nat.reduceAdd, Nat.reduceMul, Nat.reduceSub, Nat.reduceEqDiff, Nat.reduceBEq, Nat.reduceDiv, reduceCtorEq, Int.reduceToNat]
              refine call_by (eqCache x.fCache y.fCache (by omega) (by omega)) rfl ?_
              by_cases heCache : x.fCache = y.fCache
              · have hdCache : decide (x.fCache = y.fCache) = true := decide_eq_true heCache
                simp only [hdCache, go_sem, brS_dec, brS_beq, brS_bne, brK_dec, brK_beq, brK_bne, Nat.reduceLT, Nat.reduceLeDiff, Nat.reduceAdd, Nat.reduceMul, Nat.reduceSub, Nat.reduceEqDiff, Nat.reduceBEq, Nat.reduceDiv, reduceCtorEq, Int.reduceToNat]
                have hxy : x = y := by cases x; cases y; simp_all
                simp only [hxy, go_sem, brS_dec, brS_beq, brS_bne, brK_dec, brK_beq, brK_bne, Nat.reduceLT, Nat.reduceLeDiff, Nat.reduceAdd, Nat.reduceMul, Nat.reduceSub, Nat.reduceEqDiff, Nat.reduceBEq, Nat.reduceDiv, reduceCtorEq, Int.reduceToNat]
                all_goals rfl
              · have hdCache : decide (x.fCache = y.fCache) = false := decide_eq_false heCache
                have hxy : ¬ (x = y) := fun h => heCache (by rw [h])
                simp only [hdCache, hxy, go_sem, brS_dec, brS_beq, brS_bne, brK_dec, brK_beq, brK_bne, Nat.reduceLT, Nat.reduceLeDiff, Nat.reduceAdd, Nat.reduceMul, Nat.reduceSub, Nat.reduceEqDiff, Nat.reduceBEq, Nat.reduceDiv, reduceCtorEq, Int.reduceToNat]
                all_goals rfl
            · have hdKnown : decide (x.fKnown = y.fKnown) = false := decide_eq_false heKnown
              have hxy : ¬ (x = y) := fun h => heKnown (by rw [h])
              simp only [hdKnown, hxy, go_sem, brS_dec, brS_beq, brS_bne, brK_dec, brK_beq, brK_bne, Nat.reduceLT, Nat.reduceLeDiff, Nat.reduceAdd, Nat.reduceMul, Nat.reduceSub, Nat.reduceEqDiff, Nat.reduceBEq, Nat.reduceDiv, reduceCtorEq, Int.reduceToNat]
              all_goals rfl
          · have hdServers : decide (x.fServers = y.fServers) = false := decide_eq_false heServers
            have hxy : ¬ (x = y) := fun h => heServers (by rw [h])
            simp only [hdServers, hxy, go_sem, brS_dec, brS_beq, brS_bne, brK_dec, brK_beq, brK_bne, Nat.reduceLT, Nat.reduceLeDiff, Nat.reduceAdd, Nat.reduceMul, Nat.reduceSub, Nat.reduceEqDiff, Nat.reduceBEq, Nat.reduceDiv, reduceCtorEq, Int.reduceToNat]
            all_goals rfl
        · have hdSaid : decide (x.fSaid = y.fSaid) = false := decide_eq_false heSaid
          have hxy : ¬ (x = y) := fun h => heSaid (by rw [h])
          simp only [hdSaid, hxy, go_sem, brS_dec, brS_beq, brS_bne, brK_dec, brK_beq, brK_bne, Nat.reduceLT, Nat.reduceLeDiff, Nat.reduceAdd, Nat.reduceMul, Nat.reduceSub, Nat.reduceEqDiff, Nat.reduceBEq, Nat.reduceDiv, reduceCtorEq, Int.reduceToNat]
          all_goals rfl
      · have hdZones : decide (x.fZones = y.fZones) = false := decide_eq_false heZones
        have hxy : ¬ (x = y) := fun h => heZones (by rw [h])
        simp only [hdZones, hxy, go_sem, brS_dec, brS_beq, brS_bne, brK_dec, brK_beq, brK_bne, Nat.reduceLT, Nat.reduceLeDiff, Nat.reduceAdd, Nat.reduceMul, Nat.reduceSub, Nat.reduceEqDiff, Nat.reduceBEq, Nat.reduceDiv, reduceCtorEq, Int.reduceToNat]
        all_goals rfl
    · have hdActors : decide (x.fActors = y.fActors) = false := decide_eq_false heActors
      have hxy : ¬ (x = y) := fun h => heActors (by rw [h])
      simp only [hdActors, hxy, go_sem, brS_dec, brS_beq, brS_bne, brK_dec, brK_beq, brK_bne, Nat.reduceLT, Nat.reduceLeDiff, Nat.reduceAdd, Nat.reduceMul, Nat.reduceSub, Nat.reduceEqDiff, Nat.reduceBEq, Nat.reduceDiv, reduceCtorEq, Int.reduceToNat]
      all_goals rfl
  · have hbNow : (x.fNow != y.fNow) = true := by simp [heNow]
    have hxy : ¬ (x = y) := fun h => heNow (by rw [h])
    simp only [hbNow, hxy, go_sem, brS_dec, brS_beq, brS_bne, brK_dec, brK_beq, brK_bne, Nat.reduceLT, Nat.reduceLeDiff, Nat.reduceAdd, Nat.reduceMul, Nat.reduceSub, Nat.reduceEqDiff, Nat.reduceBEq, Nat.reduceDiv, reduceCtorEq, Int.reduceToNat]
    all_goals rfl
end Go.Proofs.Vt
