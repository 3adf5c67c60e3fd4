/- A part of the proof of the card: lemmas that the text with the card leans on (see there for what is proved, and under which conditions). -/
import Derived.Test.YtgjdionnbbnmpaaGreatDoorVfmt
namespace Go.Proofs.Vt
open Go Go.RowKit Go.Proofs.Vm Go.Proofs
set_option maxRecDepth 10000
set_option linter.unusedVariables false
set_option linter.unusedSimpArgs false
attribute [local go_sem] go_skip go_region go_draw go_seq go_if go_block go_loop go_exit go_ret seqK_normal seqK_exit seqK_ret blockK_normal blockK_exit blockK_ret endK_ret endK_normal runK_at keepK_at St.only onlyF inside_ptr inside_al inside_eo inside_dead inside_val inside_box inside_ep inside_tup inside_fn memN goRun_nil goRun_free goRun_if opK_at skK_at mvK_at goOp_call goOp_callFn goOp_pick goOp_builtin goOp_move goOp_assign goOp_alloc goOp_box goOp_build goOp_buildSlice goOp_load goOp_store goOp_nilCheck goOp_binOp goOp_unOp goOp_convert goOp_makeFunc goOp_makeSlice goOp_slice goOp_fieldAddr goOp_field goOp_indexAddr goOp_index goOp_extract quietB buildOk partsOk ownless plainK evOp evMoveOp evLoadMove evLoadFreeze C.frz frzR initFrom goMove evAssign evMove evNil evFunc capOf capsOf Cap.arg ptOf SV.step evFieldAddr evField evLoad evStore evIndexAddr evIndex evAlloc evBox evBuild evBuildSlice evMake evLen evAppend evExtract evBin evUn unV evConvert evBuiltin takeAll placesOf placeParts partRows newsOf rowsOwn LS.width LS.rows fieldOf zeroOk splice goneR skipTo yieldOf argOf argsOf SV.isRes St.copy get_nil get_step put_step St.puts set_nil set_step St.forget kill_nil kill_step killAt_nil killAt_step cond_true cond_false St.killSeg St.cell St.setCell SV.setCell SV.root SV.names SV.namesAt rowOwn C.own constOk Value.cells Value.oneCell' St.list lsOf St.flat binV intV strV boolV shiftV isShift resOf resAll St.take drawDsts dstsQ quietOp takeRes Option.map_some Option.map_none Option.bind_some Option.getD_some Option.getD_none Nat.zero_add Nat.add_zero if_true if_false ite_true ite_false dite_true List.length_map List.length_nil List.length_cons List.map_cons List.map_nil List.all_cons List.all_nil List.getElem?_cons_zero List.getElem?_cons_succ List.getElem?_nil List.getElem?_toArray List.set_cons_zero List.set_cons_succ List.take_succ_cons List.take_zero List.drop_succ_cons List.drop_zero List.drop_nil List.nil_append List.cons_append List.append_nil List.getD_cons_zero List.getD_cons_succ List.all_eq_true true_and and_true or_true true_or or_false false_or Bool.or_false Bool.false_or Bool.or_self Bool.or_true Bool.true_or Bool.and_true Bool.true_and Bool.and_self Bool.and_false Bool.false_and Bool.not_true Bool.not_false Bool.false_eq_true decide_eq_true_eq decide_eq_false_iff_not decide_true decide_false beq_self_eq_true true_implies false_implies forall_const implies_true not_true not_false_iff ne_eq Int.toNat_natCast Int.natCast_nonneg eq_self exists_const if_pos Nat.succ_ne_zero
attribute [local go_sem high] brS_true brS_false brS_not brK_true brK_false brK_not
attribute [local go_sem] ti3 ti4 ti5 ti9 ti22 ti23 ti24 ti25 ti26 ti27 ti29 ti30 ti32 ti34 ti37 ti38 ti39 ti40 ti41 ti42 ti44 ti45 ti47 ti49 ti53 ti54 ti56 ti59 ti60 ti62 ti72 ti90 ti92 ti98 ti100 ti108 ti111 ti114 ti118 ti119 ti122 ti125 ti138 ti140 ti141 ti143 ti145 ti148 ti150 ti163 ti166 ti168 ti170 ti172 ti175 ti177 ti179 ti181 ti183 ti228 ti230 ti282 Tryz.ntmps6 Tryz.results6 Tryz.ntmps8 Tryz.results8
attribute [local go_sem] rowsI_length rowsS_length rowsI_frz rowsS_frz rowsI_own rowsS_own Option.map_none Option.map_some bs_size bs_toList Int.lt_irrefl tys_tInt tys_tString tys_tSig tys_tSigned tys_tEntry tys_tSignedS tys_tFork tys_tZone tys_tStored tys_tActor tys_tSaid tys_tServer TKeys_len TKeys_at0 TKeys_get0 TKeys_at1 TKeys_get1 TKeys_drop TKeys_full TKeys_frz TKeys_own TKeys_owns TKeys_noImm TSig_len TSig_at0 TSig_get0 TSig_at1 TSig_get1 TSig_drop TSig_full TSig_frz TSig_own TSig_owno TSig_noImm TEntry_len TEntry_at0 TEntry_get0 TEntry_at1 TEntry_get1 TEntry_at2 TEntry_get2 TEntry_at3 TEntry_get3 TEntry_drop TEntry_full TEntry_frz TEntry_own TEntry_owns TEntry_noImm TProof_len TProof_at0 TProof_get0 TProof_at1 TProof_get1 TProof_drop TProof_full TProof_frz TProof_own TProof_owns TProof_noImm TGap_len TGap_at0 TGap_get0 TGap_sub1_Entry TGap_at1 TGap_get1 TGap_at2 TGap_get2 TGap_at3 TGap_get3 TGap_at4 TGap_get4 TGap_sub5_Entry TGap_at5 TGap_get5 TGap_at6 TGap_get6 TGap_at7 TGap_get7 TGap_at8 TGap_get8 TGap_sub9_Proof TGap_at9 TGap_get9 TGap_at10 TGap_get10 TGap_sub11_Proof TGap_at11 TGap_get11 TGap_at12 TGap_get12 TGap_drop TGap_full TGap_frz TGap_own TGap_owns TGap_noImm THead_len THead_at0 THead_get0 THead_at1 THead_get1 THead_at2 THead_get2 THead_at3 THead_get3 THead_at4 THead_get4 THead_at5 THead_get5 THead_at6 THead_get6 THead_at7 THead_get7 THead_sub8_Keys THead_at8 THead_get8 THead_at9 THead_get9 THead_sub10_Keys THead_at10 THead_get10 THead_at11 THead_get11 THead_at12 THead_get12 THead_sub13_Keys THead_at13 THead_get13 THead_at14 THead_get14 THead_at15 THead_get15 THead_drop THead_full THead_frz THead_own THead_owns THead_noImm TSigned_len TSigned_sub0_Head TSigned_at0 TSigned_get0 TSigned_at1 TSigned_get1 TSigned_at2 TSigned_get2 TSigned_at3 TSigned_get3 TSigned_at4 TSigned_get4 TSigned_at5 TSigned_get5 TSigned_at6 TSigned_get6 TSigned_at7 TSigned_get7 TSigned_sub8_Keys TSigned_at8 TSigned_get8 TSigned_at9 TSigned_get9 TSigned_sub10_Keys TSigned_at10 TSigned_get10 TSigned_at11 TSigned_get11 TSigned_at12 TSigned_get12 TSigned_sub13_Keys TSigned_at13 TSigned_get13 TSigned_at14 TSigned_get14 TSigned_at15 TSigned_get15 TSigned_at16 TSigned_get16 TSigned_drop TSigned_full TSigned_frz TSigned_own TSigned_owns TSigned_noImm TFork_len TFork_sub0_Signed TFork_sub0_Head TFork_at0 TFork_get0 TFork_at1 TFork_get1 TFork_at2 TFork_get2 TFork_at3 TFork_get3 TFork_at4 TFork_get4 TFork_at5 TFork_get5 TFork_at6 TFork_get6 TFork_at7 TFork_get7 TFork_sub8_Keys TFork_at8 TFork_get8 TFork_at9 TFork_get9 TFork_sub10_Keys TFork_at10 TFork_get10 TFork_at11 TFork_get11 TFork_at12 TFork_get12 TFork_sub13_Keys TFork_at13 TFork_get13 TFork_at14 TFork_get14 TFork_at15 TFork_get15 TFork_at16 TFork_get16 TFork_sub17_Signed TFork_sub17_Head TFork_at17 TFork_get17 TFork_at18 TFork_get18 TFork_at19 TFork_get19 TFork_at20 TFork_get20 TFork_at21 TFork_get21 TFork_at22 TFork_get22 TFork_at23 TFork_get23 TFork_at24 TFork_get24 TFork_sub25_Keys TFork_at25 TFork_get25 TFork_at26 TFork_get26 TFork_sub27_Keys TFork_at27 TFork_get27 TFork_at28 TFork_get28 TFork_at29 TFork_get29 TFork_sub30_Keys TFork_at30 TFork_get30 TFork_at31 TFork_get31 TFork_at32 TFork_get32 TFork_at33 TFork_get33 TFork_sub34_Signed TFork_sub34_Head TFork_at34 TFork_get34 TFork_at35 TFork_get35 TFork_at36 TFork_get36 TFork_at37 TFork_get37 TFork_at38 TFork_get38 TFork_at39 TFork_get39 TFork_at40 TFork_get40 TFork_at41 TFork_get41 TFork_sub42_Keys TFork_at42 TFork_get42 TFork_at43 TFork_get43 TFork_sub44_Keys TFork_at44 TFork_get44 TFork_at45 TFork_get45 TFork_at46 TFork_get46 TFork_sub47_Keys TFork_at47 TFork_get47 TFork_at48 TFork_get48 TFork_at49 TFork_get49 TFork_at50 TFork_get50 TFork_drop TFork_full TFork_frz TFork_own TFork_owns TFork_noImm TZone_len TZone_at0 TZone_get0 TZone_at1 TZone_get1 TZone_drop TZone_full TZone_frz TZone_own TZone_owns TZone_noImm TAnswer_len TAnswer_at0 TAnswer_get0 TAnswer_at1 TAnswer_get1 TAnswer_sub2_Entry TAnswer_at2 TAnswer_get2 TAnswer_at3 TAnswer_get3 TAnswer_at4 TAnswer_get4 TAnswer_at5 TAnswer_get5 TAnswer_sub6_Proof TAnswer_at6 TAnswer_get6 TAnswer_at7 TAnswer_get7 TAnswer_sub8_Gap TAnswer_at8 TAnswer_get8 TAnswer_sub9_Entry TAnswer_at9 TAnswer_get9 TAnswer_at10 TAnswer_get10 TAnswer_at11 TAnswer_get11 TAnswer_at12 TAnswer_get12 TAnswer_sub13_Entry TAnswer_at13 TAnswer_get13 TAnswer_at14 TAnswer_get14 TAnswer_at15 TAnswer_get15 TAnswer_at16 TAnswer_get16 TAnswer_sub17_Proof TAnswer_at17 TAnswer_get17 TAnswer_at18 TAnswer_get18 TAnswer_sub19_Proof TAnswer_at19 TAnswer_get19 TAnswer_at20 TAnswer_get20 TAnswer_drop TAnswer_full TAnswer_frz TAnswer_own TAnswer_owns TAnswer_noImm rowLSignedS_len rowLSignedS_at rowLSignedS_get rowLSignedS_frz rowLSignedS_own rowLSignedS_noImm TKnown_len TKnown_at0 TKnown_get0 TKnown_at1 TKnown_get1 TKnown_drop TKnown_full TKnown_frz TKnown_own TKnown_owns TKnown_noImm TServer_len TServer_at0 TServer_get0 TServer_at1 TServer_get1 TServer_drop TServer_full TServer_frz TServer_own TServer_owns TServer_noImm TStored_len TStored_at0 TStored_get0 TStored_at1 TStored_get1 TStored_sub2_Answer TStored_at2 TStored_get2 TStored_at3 TStored_get3 TStored_sub4_Entry TStored_at4 TStored_get4 TStored_at5 TStored_get5 TStored_at6 TStored_get6 TStored_at7 TStored_get7 TStored_sub8_Proof TStored_at8 TStored_get8 TStored_at9 TStored_get9 TStored_sub10_Gap TStored_at10 TStored_get10 TStored_sub11_Entry TStored_at11 TStored_get11 TStored_at12 TStored_get12 TStored_at13 TStored_get13 TStored_at14 TStored_get14 TStored_sub15_Entry TStored_at15 TStored_get15 TStored_at16 TStored_get16 TStored_at17 TStored_get17 TStored_at18 TStored_get18 TStored_sub19_Proof TStored_at19 TStored_get19 TStored_at20 TStored_get20 TStored_sub21_Proof TStored_at21 TStored_get21 TStored_at22 TStored_get22 TStored_drop TStored_full TStored_frz TStored_own TStored_owns TStored_noImm TCache_len TCache_at0 TCache_get0 TCache_drop TCache_full TCache_frz TCache_own TCache_owns TCache_noImm TActor_len TActor_at0 TActor_get0 TActor_drop TActor_full TActor_frz TActor_own TActor_owns TActor_noImm TSaid_len TSaid_sub0_Zone TSaid_at0 TSaid_get0 TSaid_at1 TSaid_get1 TSaid_at2 TSaid_get2 TSaid_drop TSaid_full TSaid_frz TSaid_own TSaid_owns TSaid_noImm TWorld_len TWorld_at0 TWorld_get0 TWorld_at1 TWorld_get1 TWorld_at2 TWorld_get2 TWorld_at3 TWorld_get3 TWorld_at4 TWorld_get4 TWorld_sub5_Known TWorld_at5 TWorld_get5 TWorld_at6 TWorld_get6 TWorld_sub7_Cache TWorld_at7 TWorld_get7 TWorld_drop TWorld_full TWorld_frz TWorld_own TWorld_owns TWorld_noImm
variable {G : Glob} (hT : ∀ w, G w → Gp w)
def lens (x : TWorld) : List Int := [(x.fZones.length : Int), (x.fSaid.length : Int), (x.fServers.length : Int), (x.fKnown.fChains.length : Int), (x.fKnown.fForks.length : Int), (x.fCache.fList.length : Int)]
def worldText (x : TWorld) : List UInt8 := Lib.itoa x.fNow ++ [32] ++ joinB [47] ((lens x).map Lib.itoa)
theorem lens_in {x : TWorld} (hx : x.wt ≤ 1048576) : ∀ n ∈ lens x, inI n := by
  unfold TWorld.wt TKnown.wt TCache.wt at hx
  have h1 := wtL_len (f := TZone.wt) (l := x.fZones)
  have h2 := wtL_len (f := TSaid.wt) (l := x.fSaid)
  have h3 := wtL_len (f := TServer.wt) (l := x.fServers)
  have h4 := wtL_len (f := wtL TSigned.wt) (l := x.fKnown.fChains)
  have h5 := wtL_len (f := TFork.wt) (l := x.fKnown.fForks)
  have h6 := wtL_len (f := TStored.wt) (l := x.fCache.fList)
  intro n hn
  simp only [lens, List.mem_cons, List.not_mem_nil, or_false] at hn
  unfold inI
  rcases hn with rfl | rfl | rfl | rfl | rfl | rfl <;> omega
theorem rowsI6 (a b c d e f : Int) : [[C.v (.int .i64 a)], [C.v (.int .i64 b)], [C.v (.int .i64 c)], [C.v (.int .i64 d)], [C.v (.int .i64 e)], [C.v (.int .i64 f)]] = rowsI [a, b, c, d, e, f] := rfl
set_option maxHeartbeats 2000000 in
theorem specFormatWorld (x : TWorld) (hx : x.wt ≤ 1048576) (hf : x.fit) : Sat Tryz.prog G 6 [.val true (TWorld.row none x)] (.val false [.v (.string (bs (worldText x)))]) := by
  refine sat_of_go (L := tiOf Tryz.prog) (fun T ti h => h) false [[1], [1, 3], [3, 4], [3, 4, 5], [3, 4, 5, 35], [3, 4, 5], [3, 4, 5, 39], [3, 4, 5], [3, 4, 5], [2]] mx Tryz.func6 (by decide) rfl (by show 1 ≤ Tryz.f6.ntmps; decide) ?_
  have hi := lens_in hx
  have e6 : [(x.fZones.length : Int), (x.fSaid.length : Int), (x.fServers.length : Int), (x.fKnown.fChains.length : Int), (x.fKnown.fForks.length : Int), (x.fCache.fList.length : Int)] = lens x := rfl
  have hl6 : (lens x).length = 6 := rfl
  have l0 := itoa_len hf.1
  simp only [rowsI6, e6, hl6, go_sem, brS_dec, brS_beq, brS_bne, brK_dec, brK_beq, brK_bne, Nat.reduceLT, Nat.reduceLeDiff, Nat.reduceAdd, Nat.reduceMul, Nat.reduceSub, Nat.reduceEqDiff, Nat.reduceBEq, Nat.reduceDiv, reduceCtorEq, Int.reduceToNat]
  refine call_by (specFormatInt x.fNow hf.1) rfl ?_
  simp only [lit_bs, bs_app, List.length_append, List.size_toArray, List.length_cons, List.length_nil, go_sem, brS_dec, brS_beq, brS_bne, brK_dec, brK_beq, brK_bne, Nat.reduceLT, Nat.reduceLeDiff, Nat.reduceAdd, Nat.reduceMul, Nat.reduceSub, Nat.reduceEqDiff, Nat.reduceBEq, Nat.reduceDiv, reduceCtorEq, Int.reduceToNat]
  refine ⟨by omega, ?_⟩
  have hil := itoas_len hi
  have htl : ∀ i, (joinB [47] (((lens x).map Lib.itoa).take i)).length ≤ 6 * 22 := fun i => Nat.le_trans (joinB_len_take [47] 21 _ hil i) (by rw [List.length_map, hl6]; simp only [List.length_cons, List.length_nil]; omega)
  refine loop_n [3, 4, 5] 6 (fun i => [(4, .val false [.v (.string (bs (Lib.itoa x.fNow ++ [32] ++ joinB [47] (((lens x).map Lib.itoa).take i))))]), (5, .val false [.v (.int .i64 (i : Int))])]) (fun _ => True) ?_ trivial ?_ ?_
  · simp only [List.take_zero, joinB, List.append_nil, go_sem, brS_dec, brS_beq, brS_bne, brK_dec, brK_beq, brK_bne, Nat.reduceLT, Nat.reduceLeDiff, Nat.reduceAdd, Nat.reduceMul, Nat.reduceSub, Nat.reduceEqDiff, Nat.reduceBEq, Nat.reduceDiv, reduceCtorEq, Int.reduceToNat]
    rfl
  · intro i hil2 _ F hF
    have hlt : ((i : Int) < ((6 : Nat) : Int)) := by omega
    have hup := wrap_up (i := i) (by omega)
    have hxi : inI ((lens x).getD i 0) := hi _ (getD_mem (by rw [hl6]; omega) 0)
    have hl2 := itoa_len hxi
    have hti := htl i
    have hnx := joinB_next [47] ((lens x).map Lib.itoa) (i := i) (by rw [List.length_map, hl6]; exact hil2)
    rw [map_getD' Lib.itoa (lens x) (by rw [hl6]; exact hil2)] at hnx
    simp only [hl6, hlt, rowsI_at (lens x) (i := i) (by rw [hl6]; exact hil2), hup, lit_bs, bs_app, List.length_append, List.size_toArray, List.length_cons, List.length_nil, go_sem, brS_dec, brS_beq, brS_bne, brK_dec, brK_beq, brK_bne, Nat.reduceLT, Nat.reduceLeDiff, Nat.reduceAdd, Nat.reduceMul, Nat.reduceSub, Nat.reduceEqDiff, Nat.reduceBEq, Nat.reduceDiv, reduceCtorEq, Int.reduceToNat]
    refine ⟨fun hpos => ⟨by omega, ?_⟩, fun hpos => ?_⟩
    · refine call_by (specFormatInt ((lens x).getD i 0) hxi) rfl ?_
      rw [if_neg (by omega)] at hnx
      have e1 : Lib.itoa x.fNow ++ [32] ++ joinB [47] (((lens x).map Lib.itoa).take i) ++ [47] ++ Lib.itoa ((lens x).getD i 0) = Lib.itoa x.fNow ++ [32] ++ joinB [47] (((lens x).map Lib.itoa).take (i + 1)) := by
        rw [hnx]; simp only [List.append_assoc]; rfl
      simp only [bs_app, List.length_append, List.length_cons, List.length_nil, e1, hup, go_sem, brS_dec, brS_beq, brS_bne, brK_dec, brK_beq, brK_bne, Nat.reduceLT, Nat.reduceLeDiff, Nat.reduceAdd, Nat.reduceMul, Nat.reduceSub, Nat.reduceEqDiff, Nat.reduceBEq, Nat.reduceDiv, reduceCtorEq, Int.reduceToNat]
      refine ⟨by omega, ?_⟩
      refine hF _ ?_ trivial
      simp only [go_sem, brS_dec, brS_beq, brS_bne, brK_dec, brK_beq, brK_bne, Nat.reduceLT, Nat.reduceLeDiff, Nat.reduceAdd, Nat.reduceMul, Nat.reduceSub, Nat.reduceEqDiff, Nat.reduceBEq, Nat.reduceDiv, reduceCtorEq, Int.reduceToNat]
    · refine call_by (specFormatInt ((lens x).getD i 0) hxi) rfl ?_
      have hi0 : i = 0 := by omega
      rw [if_pos hi0, List.nil_append] at hnx
      have e1 : Lib.itoa x.fNow ++ [32] ++ joinB [47] (((lens x).map Lib.itoa).take i) ++ Lib.itoa ((lens x).getD i 0) = Lib.itoa x.fNow ++ [32] ++ joinB [47] (((lens x).map Lib.itoa).take (i + 1)) := by
        rw [hnx, hi0]; simp only [List.take_zero, joinB, List.append_nil]; rfl
      simp only [bs_app, List.length_append, List.length_cons, List.length_nil, e1, hup, go_sem, brS_dec, brS_beq, brS_bne, brK_dec, brK_beq, brK_bne, Nat.reduceLT, Nat.reduceLeDiff, Nat.reduceAdd, Nat.reduceMul, Nat.reduceSub, Nat.reduceEqDiff, Nat.reduceBEq, Nat.reduceDiv, reduceCtorEq, Int.reduceToNat]
      refine ⟨by omega, ?_⟩
      refine hF _ ?_ trivial
      simp only [go_sem, brS_dec, brS_beq, brS_bne, brK_dec, brK_beq, brK_bne, Nat.reduceLT, Nat.reduceLeDiff, Nat.reduceAdd, Nat.reduceMul, Nat.reduceSub, Nat.reduceEqDiff, Nat.reduceBEq, Nat.reduceDiv, reduceCtorEq, Int.reduceToNat]
  · intro _ F
    have e2 : ((lens x).map Lib.itoa).take 6 = (lens x).map Lib.itoa := rfl
    simp only [hl6, e2, worldText, go_sem, brS_dec, brS_beq, brS_bne, brK_dec, brK_beq, brK_bne, Nat.reduceLT, Nat.reduceLeDiff, Nat.reduceAdd, Nat.reduceMul, Nat.reduceSub, Nat.reduceEqDiff, Nat.reduceBEq, Nat.reduceDiv, reduceCtorEq, Int.reduceToNat]
include hT in
set_option maxHeartbeats 2000000 in
theorem implFormatWorld (x : TWorld) (hx : x.wt ≤ 1048576) (hf : x.fit) : Sat Tryz.prog G 8 [.val true (TWorld.row none x)] (.val false [.v (.string (bs (worldText x)))]) := by
  refine sat_of_go (L := tiOf Tryz.prog) (fun T ti h => h) false [[1], [2]] mx Tryz.func8 (by decide) rfl (by show 1 ≤ Tryz.f8.ntmps; decide) ?_
  have hi := lens_in hx
  have e6 : [(x.fZones.length : Int), (x.fSaid.length : Int), (x.fServers.length : Int), (x.fKnown.fChains.length : Int), (x.fKnown.fForks.length : Int), (x.fCache.fList.length : Int)] = lens x := rfl
  have hl6 : (lens x).length = 6 := rfl
  have l0 := itoa_len hf.1
  simp only [go_sem, brS_dec, brS_beq, brS_bne, brK_dec, brK_beq, brK_bne, Nat.reduceLT, Nat.reduceLeDiff, Nat.reduceAdd, Nat.reduceMul, Nat.reduceSub, Nat.reduceEqDiff, Nat.reduceBEq, Nat.reduceDiv, reduceCtorEq, Int.reduceToNat]
  refine ⟨rfl, ?_⟩
  refine call_by (formatInt hT x.fNow hf.1) rfl ?_
  simp only [rowsI6, e6, hl6, lit_bs, bs_app, go_sem, brS_dec, brS_beq, brS_bne, brK_dec, brK_beq, brK_bne, Nat.reduceLT, Nat.reduceLeDiff, Nat.reduceAdd, Nat.reduceMul, Nat.reduceSub, Nat.reduceEqDiff, Nat.reduceBEq, Nat.reduceDiv, reduceCtorEq, Int.reduceToNat]
  have hil := itoas_len hi
  have hj := joinB_len [47] 21 _ hil
  rw [List.length_map, hl6] at hj
  simp only [List.length_cons, List.length_nil] at hj
  refine ⟨by omega, call_own (joined hT [47] (lens x) (by rw [hl6]; omega) hi (by decide)) rfl ⟨trivial, trivial⟩ ?_⟩
  simp only [worldText, lit_bs, bs_app, List.length_append, List.length_cons, List.length_nil, go_sem, brS_dec, brS_beq, brS_bne, brK_dec, brK_beq, brK_bne, Nat.reduceLT, Nat.reduceLeDiff, Nat.reduceAdd, Nat.reduceMul, Nat.reduceSub, Nat.reduceEqDiff, Nat.reduceBEq, Nat.reduceDiv, reduceCtorEq, Int.reduceToNat]
  omega
end Go.Proofs.Vt
