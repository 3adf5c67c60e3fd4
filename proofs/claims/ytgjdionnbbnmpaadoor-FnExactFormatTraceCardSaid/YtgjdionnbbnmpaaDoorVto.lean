/- A part of the proof of the card: lemmas that the text with the card leans on (see there for what is proved, and under which conditions). -/
import Derived.Test.YtgjdionnbbnmpaaDoorVfac
namespace Go.Proofs.Vt
open Go Go.RowKit Go.Proofs.Vm Go.Proofs
set_option maxRecDepth 10000
set_option linter.unusedVariables false
set_option linter.unusedSimpArgs false
attribute [local go_sem] go_skip go_region go_draw go_seq go_if go_block go_loop go_exit go_ret seqK_normal seqK_exit seqK_ret blockK_normal blockK_exit blockK_ret endK_ret endK_normal runK_at keepK_at St.only onlyF inside_ptr inside_al inside_eo inside_dead inside_val inside_box inside_ep inside_tup inside_fn memN goRun_nil goRun_free goRun_if opK_at skK_at mvK_at goOp_call goOp_callFn goOp_pick goOp_builtin goOp_move goOp_assign goOp_alloc goOp_box goOp_build goOp_buildSlice goOp_load goOp_store goOp_nilCheck goOp_binOp goOp_unOp goOp_convert goOp_makeFunc goOp_makeSlice goOp_slice goOp_fieldAddr goOp_field goOp_indexAddr goOp_index goOp_extract quietB buildOk partsOk ownless plainK evOp evMoveOp evLoadMove evLoadFreeze C.frz frzR initFrom goMove evAssign evMove evNil evFunc capOf capsOf Cap.arg ptOf SV.step evFieldAddr evField evLoad evStore evIndexAddr evIndex evAlloc evBox evBuild evBuildSlice evMake evLen evAppend evExtract evBin evUn unV evConvert evBuiltin takeAll placesOf placeParts partRows newsOf rowsOwn LS.width LS.rows fieldOf zeroOk splice goneR skipTo yieldOf argOf argsOf SV.isRes St.copy get_nil get_step put_step St.puts set_nil set_step St.forget kill_nil kill_step killAt_nil killAt_step cond_true cond_false St.killSeg St.cell St.setCell SV.setCell SV.root SV.names SV.namesAt rowOwn C.own constOk Value.cells Value.oneCell' St.list lsOf St.flat binV intV strV boolV shiftV isShift resOf resAll St.take drawDsts dstsQ quietOp takeRes Option.map_some Option.map_none Option.bind_some Option.getD_some Option.getD_none Nat.zero_add Nat.add_zero if_true if_false ite_true ite_false dite_true List.length_map List.length_nil List.length_cons List.map_cons List.map_nil List.all_cons List.all_nil List.getElem?_cons_zero List.getElem?_cons_succ List.getElem?_nil List.getElem?_toArray List.set_cons_zero List.set_cons_succ List.take_succ_cons List.take_zero List.drop_succ_cons List.drop_zero List.drop_nil List.nil_append List.cons_append List.append_nil List.getD_cons_zero List.getD_cons_succ List.all_eq_true true_and and_true or_true true_or or_false false_or Bool.or_false Bool.false_or Bool.or_self Bool.or_true Bool.true_or Bool.and_true Bool.true_and Bool.and_self Bool.and_false Bool.false_and Bool.not_true Bool.not_false Bool.false_eq_true decide_eq_true_eq decide_eq_false_iff_not decide_true decide_false beq_self_eq_true true_implies false_implies forall_const implies_true not_true not_false_iff ne_eq Int.toNat_natCast Int.natCast_nonneg eq_self exists_const if_pos Nat.succ_ne_zero
attribute [local go_sem high] brS_true brS_false brS_not brK_true brK_false brK_not
attribute [local go_sem] ti3 ti4 ti5 ti9 ti22 ti24 ti27 ti31 ti33 ti36 ti41 ti45 ti49 ti51 ti54 ti56 ti60 ti61 ti63 ti65 ti68 ti69 ti71 ti73 ti97 ti118 ti120 ti122 ti124 ti125 ti127 ti129 ti131 ti161 ti163 Tryd.ntmps10 Tryd.results10 Tryd.ntmps15 Tryd.results15 Tryd.ntmps20 Tryd.results20 Tryd.ntmps25 Tryd.results25 Tryd.ntmps30 Tryd.results30 Tryd.ntmps36 Tryd.results36 Tryd.ntmps43 Tryd.results43 Tryd.ntmps52 Tryd.results52 Tryd.ntmps59 Tryd.results59 Tryd.ntmps72 Tryd.results72 Tryd.ntmps73 Tryd.results73 Tryd.ntmps85 Tryd.results85 Tryd.ntmps86 Tryd.results86 Tryd.ntmps94 Tryd.results94 Tryd.ntmps101 Tryd.results101 Tryd.ntmps108 Tryd.results108
attribute [local go_sem] rowsI_length rowsS_length rowsI_frz rowsS_frz rowsI_own rowsS_own Option.map_none Option.map_some bs_size bs_toList Int.lt_irrefl tys_tInt tys_tString tys_tSig tys_tSigned tys_tEntry tys_tSignedS tys_tFork TKeys_len TKeys_at0 TKeys_get0 TKeys_at1 TKeys_get1 TKeys_drop TKeys_full TKeys_frz TKeys_own TKeys_owns TKeys_noImm TSig_len TSig_at0 TSig_get0 TSig_at1 TSig_get1 TSig_drop TSig_full TSig_frz TSig_own TSig_owno TSig_noImm TEntry_len TEntry_at0 TEntry_get0 TEntry_at1 TEntry_get1 TEntry_at2 TEntry_get2 TEntry_at3 TEntry_get3 TEntry_drop TEntry_full TEntry_frz TEntry_own TEntry_owns TEntry_noImm THead_len THead_at0 THead_get0 THead_at1 THead_get1 THead_at2 THead_get2 THead_at3 THead_get3 THead_at4 THead_get4 THead_at5 THead_get5 THead_at6 THead_get6 THead_at7 THead_get7 THead_sub8_Keys THead_at8 THead_get8 THead_at9 THead_get9 THead_sub10_Keys THead_at10 THead_get10 THead_at11 THead_get11 THead_at12 THead_get12 THead_sub13_Keys THead_at13 THead_get13 THead_at14 THead_get14 THead_at15 THead_get15 THead_drop THead_full THead_frz THead_own THead_owns THead_noImm TSigned_len TSigned_sub0_Head TSigned_at0 TSigned_get0 TSigned_at1 TSigned_get1 TSigned_at2 TSigned_get2 TSigned_at3 TSigned_get3 TSigned_at4 TSigned_get4 TSigned_at5 TSigned_get5 TSigned_at6 TSigned_get6 TSigned_at7 TSigned_get7 TSigned_sub8_Keys TSigned_at8 TSigned_get8 TSigned_at9 TSigned_get9 TSigned_sub10_Keys TSigned_at10 TSigned_get10 TSigned_at11 TSigned_get11 TSigned_at12 TSigned_get12 TSigned_sub13_Keys TSigned_at13 TSigned_get13 TSigned_at14 TSigned_get14 TSigned_at15 TSigned_get15 TSigned_at16 TSigned_get16 TSigned_drop TSigned_full TSigned_frz TSigned_own TSigned_owns TSigned_noImm TFork_len TFork_sub0_Signed TFork_sub0_Head TFork_at0 TFork_get0 TFork_at1 TFork_get1 TFork_at2 TFork_get2 TFork_at3 TFork_get3 TFork_at4 TFork_get4 TFork_at5 TFork_get5 TFork_at6 TFork_get6 TFork_at7 TFork_get7 TFork_sub8_Keys TFork_at8 TFork_get8 TFork_at9 TFork_get9 TFork_sub10_Keys TFork_at10 TFork_get10 TFork_at11 TFork_get11 TFork_at12 TFork_get12 TFork_sub13_Keys TFork_at13 TFork_get13 TFork_at14 TFork_get14 TFork_at15 TFork_get15 TFork_at16 TFork_get16 TFork_sub17_Signed TFork_sub17_Head TFork_at17 TFork_get17 TFork_at18 TFork_get18 TFork_at19 TFork_get19 TFork_at20 TFork_get20 TFork_at21 TFork_get21 TFork_at22 TFork_get22 TFork_at23 TFork_get23 TFork_at24 TFork_get24 TFork_sub25_Keys TFork_at25 TFork_get25 TFork_at26 TFork_get26 TFork_sub27_Keys TFork_at27 TFork_get27 TFork_at28 TFork_get28 TFork_at29 TFork_get29 TFork_sub30_Keys TFork_at30 TFork_get30 TFork_at31 TFork_get31 TFork_at32 TFork_get32 TFork_at33 TFork_get33 TFork_sub34_Signed TFork_sub34_Head TFork_at34 TFork_get34 TFork_at35 TFork_get35 TFork_at36 TFork_get36 TFork_at37 TFork_get37 TFork_at38 TFork_get38 TFork_at39 TFork_get39 TFork_at40 TFork_get40 TFork_at41 TFork_get41 TFork_sub42_Keys TFork_at42 TFork_get42 TFork_at43 TFork_get43 TFork_sub44_Keys TFork_at44 TFork_get44 TFork_at45 TFork_get45 TFork_at46 TFork_get46 TFork_sub47_Keys TFork_at47 TFork_get47 TFork_at48 TFork_get48 TFork_at49 TFork_get49 TFork_at50 TFork_get50 TFork_drop TFork_full TFork_frz TFork_own TFork_owns TFork_noImm rowLSignedS_len rowLSignedS_at rowLSignedS_get rowLSignedS_frz rowLSignedS_own rowLSignedS_noImm TKnown_len TKnown_at0 TKnown_get0 TKnown_at1 TKnown_get1 TKnown_drop TKnown_full TKnown_frz TKnown_own TKnown_owns TKnown_noImm TTrace_len TTrace_sub0_Known TTrace_at0 TTrace_get0 TTrace_at1 TTrace_get1 TTrace_at2 TTrace_get2 TTrace_sub3_Entry TTrace_at3 TTrace_get3 TTrace_at4 TTrace_get4 TTrace_at5 TTrace_get5 TTrace_at6 TTrace_get6 TTrace_at7 TTrace_get7 TTrace_at8 TTrace_get8 TTrace_drop TTrace_full TTrace_frz TTrace_own TTrace_owns TTrace_noImm TDecision_len TDecision_at0 TDecision_get0 TDecision_sub1_Entry TDecision_at1 TDecision_get1 TDecision_at2 TDecision_get2 TDecision_at3 TDecision_get3 TDecision_at4 TDecision_get4 TDecision_at5 TDecision_get5 TDecision_drop TDecision_full TDecision_frz TDecision_own TDecision_owns TDecision_noImm
variable {G : Glob}
theorem toIntS (xs : List Int) (hx : xs.length ≤ 1048576) : Sat Tryd.prog G 36 [.val false [.l none 1 (rowsI xs)]] (.val false [.l (some tys.tInt) 1 (rowsI xs)]) := by
  refine sat_of_go (L := tiOf Tryd.prog) (fun T ti h => h) false [[0], [0, 3], [0, 3, 4], [0, 3, 4, 11], [0, 3, 4], [0, 3, 4], [2, 3]] mx Tryd.func36 (by decide) rfl (by show 1 ≤ Tryd.f36.ntmps; decide) ?_
  have hlen : xs.length ≤ xs.length := Nat.le_refl _
  have hp0 := toPart_zero (fun x : Int => [C.v (.int .i64 x)]) [C.v (.int .i64 0)] xs
  have hpn := toPart_all (fun x : Int => [C.v (.int .i64 x)]) [C.v (.int .i64 0)] xs
  simp only [go_sem, brS_dec, brS_beq, brS_bne, brK_dec, brK_beq, brK_bne, Nat.reduceLT, Nat.reduceLeDiff, Nat.reduceAdd, Nat.reduceMul, Nat.reduceSub, Nat.reduceEqDiff, Nat.reduceBEq, Nat.reduceDiv, reduceCtorEq, Int.reduceToNat]
  refine ⟨⟨by omega, by omega⟩, ?_⟩
  refine loop_n [0, 3, 4] xs.length (fun i => [(3, .val false [.l (some 3) 1 (toPart (fun x : Int => [C.v (.int .i64 x)]) [C.v (.int .i64 0)] xs i)]), (4, .val false [.v (.int .i64 (i : Int))])]) (fun _ => True) ?_ trivial ?_ ?_
  · simp only [hp0, go_sem, brS_dec, brS_beq, brS_bne, brK_dec, brK_beq, brK_bne, Nat.reduceLT, Nat.reduceLeDiff, Nat.reduceAdd, Nat.reduceMul, Nat.reduceSub, Nat.reduceEqDiff, Nat.reduceBEq, Nat.reduceDiv, reduceCtorEq, Int.reduceToNat]
    try rfl
  · intro i hi _ F hF
    have hlt : ((i : Int) < (xs.length : Int)) := by omega
    have hup := wrap_up (i := i) (by omega)
    have hpl := toPart_length (fun x : Int => [C.v (.int .i64 x)]) [C.v (.int .i64 0)] xs (Nat.le_of_lt hi)
    have hpa := toPart_at (fun x : Int => [C.v (.int .i64 x)]) [C.v (.int .i64 0)] xs hi
    have hps := toPart_set (fun x : Int => [C.v (.int .i64 x)]) [C.v (.int .i64 0)] xs hi
    have hps2 : (toPart (fun x : Int => [C.v (.int .i64 x)]) [C.v (.int .i64 0)] xs i).set i [C.v (.int .i64 (xs.getD i 0))] = toPart (fun x : Int => [C.v (.int .i64 x)]) [C.v (.int .i64 0)] xs (i + 1) := hps
    simp only [hlt, rowsI_at xs hi, hup, hpl, hpa, go_sem, brS_dec, brS_beq, brS_bne, brK_dec, brK_beq, brK_bne, Nat.reduceLT, Nat.reduceLeDiff, Nat.reduceAdd, Nat.reduceMul, Nat.reduceSub, Nat.reduceEqDiff, Nat.reduceBEq, Nat.reduceDiv, reduceCtorEq, Int.reduceToNat]
    try simp only [hps2, go_sem, brS_dec, brS_beq, brS_bne, brK_dec, brK_beq, brK_bne, Nat.reduceLT, Nat.reduceLeDiff, Nat.reduceAdd, Nat.reduceMul, Nat.reduceSub, Nat.reduceEqDiff, Nat.reduceBEq, Nat.reduceDiv, reduceCtorEq, Int.reduceToNat]
    refine hF _ ?_ trivial
    simp only [hps2, hup, go_sem, brS_dec, brS_beq, brS_bne, brK_dec, brK_beq, brK_bne, Nat.reduceLT, Nat.reduceLeDiff, Nat.reduceAdd, Nat.reduceMul, Nat.reduceSub, Nat.reduceEqDiff, Nat.reduceBEq, Nat.reduceDiv, reduceCtorEq, Int.reduceToNat]
  · intro _ F
    simp only [hpn, go_sem, brS_dec, brS_beq, brS_bne, brK_dec, brK_beq, brK_bne, Nat.reduceLT, Nat.reduceLeDiff, Nat.reduceAdd, Nat.reduceMul, Nat.reduceSub, Nat.reduceEqDiff, Nat.reduceBEq, Nat.reduceDiv, reduceCtorEq, Int.reduceToNat]
    try rfl
theorem toKeys (x : TKeys) (hx : TKeys.wt x ≤ 1048576) : Sat Tryd.prog G 10 [.val true (TKeys.row none x)] (.val true (TKeys.row (some tys) x)) := by
  refine sat_of_go (L := tiOf Tryd.prog) (fun T ti h => h) false [[1, 2], [1, 2, 3], [1, 2, 3], [2, 3], [2]] mx Tryd.func10 (by decide) rfl (by show 1 ≤ Tryd.f10.ntmps; decide) ?_
  have hw : TKeys.wt x = (x.fList.length) := rfl
  simp only [go_sem, brS_dec, brS_beq, brS_bne, brK_dec, brK_beq, brK_bne, Nat.reduceLT, Nat.reduceLeDiff, Nat.reduceAdd, Nat.reduceMul, Nat.reduceSub, Nat.reduceEqDiff, Nat.reduceBEq, Nat.reduceDiv, reduceCtorEq, Int.reduceToNat]
  refine call_by (toIntS x.fList (by omega)) rfl ?_
  simp only [go_sem, brS_dec, brS_beq, brS_bne, brK_dec, brK_beq, brK_bne, Nat.reduceLT, Nat.reduceLeDiff, Nat.reduceAdd, Nat.reduceMul, Nat.reduceSub, Nat.reduceEqDiff, Nat.reduceBEq, Nat.reduceDiv, reduceCtorEq, Int.reduceToNat]
  all_goals rfl
theorem toSig (x : TSig) : Sat Tryd.prog G 108 [.val true (TSig.row none x)] (.val true (TSig.row (some tys) x)) := by
  refine sat_of_go (L := tiOf Tryd.prog) (fun T ti h => h) false [[1, 2], [1, 2, 3], [1, 2, 3], [2, 3], [2]] mx Tryd.func108 (by decide) rfl (by show 1 ≤ Tryd.f108.ntmps; decide) ?_
  simp only [go_sem, brS_dec, brS_beq, brS_bne, brK_dec, brK_beq, brK_bne, Nat.reduceLT, Nat.reduceLeDiff, Nat.reduceAdd, Nat.reduceMul, Nat.reduceSub, Nat.reduceEqDiff, Nat.reduceBEq, Nat.reduceDiv, reduceCtorEq, Int.reduceToNat]
  all_goals rfl
theorem toStringS (xs : List (List UInt8)) (hx : wtL List.length xs ≤ 1048576) : Sat Tryd.prog G 43 [.val false [.l none 1 (rowsS xs)]] (.val false [.l (some tys.tString) 1 (rowsS xs)]) := by
  refine sat_of_go (L := tiOf Tryd.prog) (fun T ti h => h) false [[0], [0, 3], [0, 3, 4], [0, 3, 4, 11], [0, 3, 4], [0, 3, 4], [2, 3]] mx Tryd.func43 (by decide) rfl (by show 1 ≤ Tryd.f43.ntmps; decide) ?_
  have hlen : xs.length ≤ wtL List.length xs := wtL_len
  have hp0 := toPart_zero (fun t : List UInt8 => [C.v (.string (bs t))]) [C.v (.string ByteArray.empty)] xs
  have hpn := toPart_all (fun t : List UInt8 => [C.v (.string (bs t))]) [C.v (.string ByteArray.empty)] xs
  simp only [go_sem, brS_dec, brS_beq, brS_bne, brK_dec, brK_beq, brK_bne, Nat.reduceLT, Nat.reduceLeDiff, Nat.reduceAdd, Nat.reduceMul, Nat.reduceSub, Nat.reduceEqDiff, Nat.reduceBEq, Nat.reduceDiv, reduceCtorEq, Int.reduceToNat]
  refine ⟨⟨by omega, by omega⟩, ?_⟩
  refine loop_n [0, 3, 4] xs.length (fun i => [(3, .val false [.l (some 9) 1 (toPart (fun t : List UInt8 => [C.v (.string (bs t))]) [C.v (.string ByteArray.empty)] xs i)]), (4, .val false [.v (.int .i64 (i : Int))])]) (fun _ => True) ?_ trivial ?_ ?_
  · simp only [hp0, go_sem, brS_dec, brS_beq, brS_bne, brK_dec, brK_beq, brK_bne, Nat.reduceLT, Nat.reduceLeDiff, Nat.reduceAdd, Nat.reduceMul, Nat.reduceSub, Nat.reduceEqDiff, Nat.reduceBEq, Nat.reduceDiv, reduceCtorEq, Int.reduceToNat]
    try rfl
  · intro i hi _ F hF
    have hlt : ((i : Int) < (xs.length : Int)) := by omega
    have hup := wrap_up (i := i) (by omega)
    have hpl := toPart_length (fun t : List UInt8 => [C.v (.string (bs t))]) [C.v (.string ByteArray.empty)] xs (Nat.le_of_lt hi)
    have hpa := toPart_at (fun t : List UInt8 => [C.v (.string (bs t))]) [C.v (.string ByteArray.empty)] xs hi
    have hps := toPart_set (fun t : List UInt8 => [C.v (.string (bs t))]) [C.v (.string ByteArray.empty)] xs hi
    have hps2 : (toPart (fun t : List UInt8 => [C.v (.string (bs t))]) [C.v (.string ByteArray.empty)] xs i).set i [C.v (.string (bs (xs.getD i [])))] = toPart (fun t : List UInt8 => [C.v (.string (bs t))]) [C.v (.string ByteArray.empty)] xs (i + 1) := hps
    simp only [hlt, rowsS_at xs hi, hup, hpl, hpa, go_sem, brS_dec, brS_beq, brS_bne, brK_dec, brK_beq, brK_bne, Nat.reduceLT, Nat.reduceLeDiff, Nat.reduceAdd, Nat.reduceMul, Nat.reduceSub, Nat.reduceEqDiff, Nat.reduceBEq, Nat.reduceDiv, reduceCtorEq, Int.reduceToNat]
    try simp only [hps2, go_sem, brS_dec, brS_beq, brS_bne, brK_dec, brK_beq, brK_bne, Nat.reduceLT, Nat.reduceLeDiff, Nat.reduceAdd, Nat.reduceMul, Nat.reduceSub, Nat.reduceEqDiff, Nat.reduceBEq, Nat.reduceDiv, reduceCtorEq, Int.reduceToNat]
    refine hF _ ?_ trivial
    simp only [hps2, hup, go_sem, brS_dec, brS_beq, brS_bne, brK_dec, brK_beq, brK_bne, Nat.reduceLT, Nat.reduceLeDiff, Nat.reduceAdd, Nat.reduceMul, Nat.reduceSub, Nat.reduceEqDiff, Nat.reduceBEq, Nat.reduceDiv, reduceCtorEq, Int.reduceToNat]
  · intro _ F
    simp only [hpn, go_sem, brS_dec, brS_beq, brS_bne, brK_dec, brK_beq, brK_bne, Nat.reduceLT, Nat.reduceLeDiff, Nat.reduceAdd, Nat.reduceMul, Nat.reduceSub, Nat.reduceEqDiff, Nat.reduceBEq, Nat.reduceDiv, reduceCtorEq, Int.reduceToNat]
    try rfl
theorem toEntry (x : TEntry) (hx : TEntry.wt x ≤ 1048576) : Sat Tryd.prog G 15 [.val true (TEntry.row none x)] (.val true (TEntry.row (some tys) x)) := by
  refine sat_of_go (L := tiOf Tryd.prog) (fun T ti h => h) false [[1, 2], [1, 2, 3], [1, 2, 3], [1, 2, 3], [1, 2, 3], [2, 3], [2]] mx Tryd.func15 (by decide) rfl (by show 1 ≤ Tryd.f15.ntmps; decide) ?_
  have hw : TEntry.wt x = (x.fLabel.length) + (wtL List.length x.fPath) := rfl
  simp only [go_sem, brS_dec, brS_beq, brS_bne, brK_dec, brK_beq, brK_bne, Nat.reduceLT, Nat.reduceLeDiff, Nat.reduceAdd, Nat.reduceMul, Nat.reduceSub, Nat.reduceEqDiff, Nat.reduceBEq, Nat.reduceDiv, reduceCtorEq, Int.reduceToNat]
  refine call_by (toStringS x.fPath (by omega)) rfl ?_
  simp only [go_sem, brS_dec, brS_beq, brS_bne, brK_dec, brK_beq, brK_bne, Nat.reduceLT, Nat.reduceLeDiff, Nat.reduceAdd, Nat.reduceMul, Nat.reduceSub, Nat.reduceEqDiff, Nat.reduceBEq, Nat.reduceDiv, reduceCtorEq, Int.reduceToNat]
  all_goals rfl
theorem toHead (x : THead) (hx : THead.wt x ≤ 1048576) : Sat Tryd.prog G 20 [.val true (THead.row none x)] (.val true (THead.row (some tys) x)) := by
  refine sat_of_go (L := tiOf Tryd.prog) (fun T ti h => h) false [[1, 2], [1, 2, 3], [1, 2, 3], [1, 2, 3], [1, 2, 3], [1, 2, 3], [1, 2, 3], [1, 2, 3], [1, 2, 3], [1, 2, 3], [1, 2, 3], [1, 2, 3], [1, 2, 3], [1, 2, 3], [2, 3], [2]] mx Tryd.func20 (by decide) rfl (by show 1 ≤ Tryd.f20.ntmps; decide) ?_
  have hw : THead.wt x = (TKeys.wt x.fKeys) + (TKeys.wt x.fHeirs) + (TKeys.wt x.fJudge) := rfl
  simp only [go_sem, brS_dec, brS_beq, brS_bne, brK_dec, brK_beq, brK_bne, Nat.reduceLT, Nat.reduceLeDiff, Nat.reduceAdd, Nat.reduceMul, Nat.reduceSub, Nat.reduceEqDiff, Nat.reduceBEq, Nat.reduceDiv, reduceCtorEq, Int.reduceToNat]
  refine call_by (toKeys x.fKeys (by omega)) rfl ?_
  simp only [TKeys.row, go_sem, brS_dec, brS_beq, brS_bne, brK_dec, brK_beq, brK_bne, Nat.reduceLT, Nat.reduceLeDiff, Nat.reduceAdd, Nat.reduceMul, Nat.reduceSub, Nat.reduceEqDiff, Nat.reduceBEq, Nat.reduceDiv, reduceCtorEq, Int.reduceToNat]
  refine call_by (toKeys x.fHeirs (by omega)) rfl ?_
  simp only [TKeys.row, go_sem, brS_dec, brS_beq, brS_bne, brK_dec, brK_beq, brK_bne, Nat.reduceLT, Nat.reduceLeDiff, Nat.reduceAdd, Nat.reduceMul, Nat.reduceSub, Nat.reduceEqDiff, Nat.reduceBEq, Nat.reduceDiv, reduceCtorEq, Int.reduceToNat]
  refine call_by (toKeys x.fJudge (by omega)) rfl ?_
  simp only [TKeys.row, go_sem, brS_dec, brS_beq, brS_bne, brK_dec, brK_beq, brK_bne, Nat.reduceLT, Nat.reduceLeDiff, Nat.reduceAdd, Nat.reduceMul, Nat.reduceSub, Nat.reduceEqDiff, Nat.reduceBEq, Nat.reduceDiv, reduceCtorEq, Int.reduceToNat]
  all_goals rfl
theorem toSigS (xs : List TSig) (hx : xs.length ≤ 1048576) : Sat Tryd.prog G 101 [.val false [.l none 2 (xs.map (TSig.row none))]] (.val false [.l (some tys.tSig) 2 (xs.map (TSig.row (some tys)))]) := by
  refine sat_of_go (L := tiOf Tryd.prog) (fun T ti h => h) false [[0], [0, 3], [0, 3, 4], [0, 3, 4, 11], [0, 3, 4], [0, 3, 4], [2, 3]] mx Tryd.func101 (by decide) rfl (by show 1 ≤ Tryd.f101.ntmps; decide) ?_
  have hlen : xs.length ≤ xs.length := Nat.le_refl _
  have hp0 := toPart_zero (TSig.row (some tys)) [C.v (.int .i64 0), C.v (.int .i64 0)] xs
  have hpn := toPart_all (TSig.row (some tys)) [C.v (.int .i64 0), C.v (.int .i64 0)] xs
  simp only [go_sem, brS_dec, brS_beq, brS_bne, brK_dec, brK_beq, brK_bne, Nat.reduceLT, Nat.reduceLeDiff, Nat.reduceAdd, Nat.reduceMul, Nat.reduceSub, Nat.reduceEqDiff, Nat.reduceBEq, Nat.reduceDiv, reduceCtorEq, Int.reduceToNat]
  refine ⟨⟨by omega, by omega⟩, ?_⟩
  refine loop_n [0, 3, 4] xs.length (fun i => [(3, .val false [.l (some 161) 2 (toPart (TSig.row (some tys)) [C.v (.int .i64 0), C.v (.int .i64 0)] xs i)]), (4, .val false [.v (.int .i64 (i : Int))])]) (fun _ => True) ?_ trivial ?_ ?_
  · simp only [hp0, go_sem, brS_dec, brS_beq, brS_bne, brK_dec, brK_beq, brK_bne, Nat.reduceLT, Nat.reduceLeDiff, Nat.reduceAdd, Nat.reduceMul, Nat.reduceSub, Nat.reduceEqDiff, Nat.reduceBEq, Nat.reduceDiv, reduceCtorEq, Int.reduceToNat]
    try rfl
  · intro i hi _ F hF
    have hlt : ((i : Int) < (xs.length : Int)) := by omega
    have hup := wrap_up (i := i) (by omega)
    have hpl := toPart_length (TSig.row (some tys)) [C.v (.int .i64 0), C.v (.int .i64 0)] xs (Nat.le_of_lt hi)
    have hpa := toPart_at (TSig.row (some tys)) [C.v (.int .i64 0), C.v (.int .i64 0)] xs hi
    have hps := toPart_set (TSig.row (some tys)) [C.v (.int .i64 0), C.v (.int .i64 0)] xs hi
    simp only [hlt, map_getD (TSig.row none) xs hi, hup, go_sem, brS_dec, brS_beq, brS_bne, brK_dec, brK_beq, brK_bne, Nat.reduceLT, Nat.reduceLeDiff, Nat.reduceAdd, Nat.reduceMul, Nat.reduceSub, Nat.reduceEqDiff, Nat.reduceBEq, Nat.reduceDiv, reduceCtorEq, Int.reduceToNat]
    refine call_by (toSig (xs.getD i default)) rfl ?_
    have hps2 := hps
    simp only [hlt, hup, hpl, hpa, hps2, go_sem, brS_dec, brS_beq, brS_bne, brK_dec, brK_beq, brK_bne, Nat.reduceLT, Nat.reduceLeDiff, Nat.reduceAdd, Nat.reduceMul, Nat.reduceSub, Nat.reduceEqDiff, Nat.reduceBEq, Nat.reduceDiv, reduceCtorEq, Int.reduceToNat]
    refine hF _ ?_ trivial
    simp only [hps2, hup, go_sem, brS_dec, brS_beq, brS_bne, brK_dec, brK_beq, brK_bne, Nat.reduceLT, Nat.reduceLeDiff, Nat.reduceAdd, Nat.reduceMul, Nat.reduceSub, Nat.reduceEqDiff, Nat.reduceBEq, Nat.reduceDiv, reduceCtorEq, Int.reduceToNat]
  · intro _ F
    simp only [hpn, go_sem, brS_dec, brS_beq, brS_bne, brK_dec, brK_beq, brK_bne, Nat.reduceLT, Nat.reduceLeDiff, Nat.reduceAdd, Nat.reduceMul, Nat.reduceSub, Nat.reduceEqDiff, Nat.reduceBEq, Nat.reduceDiv, reduceCtorEq, Int.reduceToNat]
    try rfl
theorem toSigned (x : TSigned) (hx : TSigned.wt x ≤ 1048576) : Sat Tryd.prog G 94 [.val true (TSigned.row none x)] (.val true (TSigned.row (some tys) x)) := by
  refine sat_of_go (L := tiOf Tryd.prog) (fun T ti h => h) false [[1, 2], [1, 2, 3], [1, 2, 3], [2, 3], [2]] mx Tryd.func94 (by decide) rfl (by show 1 ≤ Tryd.f94.ntmps; decide) ?_
  have hw : TSigned.wt x = (THead.wt x.fHead) + (x.fSigs.length) := rfl
  simp only [go_sem, brS_dec, brS_beq, brS_bne, brK_dec, brK_beq, brK_bne, Nat.reduceLT, Nat.reduceLeDiff, Nat.reduceAdd, Nat.reduceMul, Nat.reduceSub, Nat.reduceEqDiff, Nat.reduceBEq, Nat.reduceDiv, reduceCtorEq, Int.reduceToNat]
  refine call_by (toHead x.fHead (by omega)) rfl ?_
  simp only [THead.row, go_sem, brS_dec, brS_beq, brS_bne, brK_dec, brK_beq, brK_bne, Nat.reduceLT, Nat.reduceLeDiff, Nat.reduceAdd, Nat.reduceMul, Nat.reduceSub, Nat.reduceEqDiff, Nat.reduceBEq, Nat.reduceDiv, reduceCtorEq, Int.reduceToNat]
  refine call_by (toSigS x.fSigs (by omega)) rfl ?_
  simp only [go_sem, brS_dec, brS_beq, brS_bne, brK_dec, brK_beq, brK_bne, Nat.reduceLT, Nat.reduceLeDiff, Nat.reduceAdd, Nat.reduceMul, Nat.reduceSub, Nat.reduceEqDiff, Nat.reduceBEq, Nat.reduceDiv, reduceCtorEq, Int.reduceToNat]
  all_goals rfl
theorem toFork (x : TFork) (hx : TFork.wt x ≤ 1048576) : Sat Tryd.prog G 86 [.val true (TFork.row none x)] (.val true (TFork.row (some tys) x)) := by
  refine sat_of_go (L := tiOf Tryd.prog) (fun T ti h => h) false [[1, 2], [1, 2, 3], [1, 2, 3], [1, 2, 3], [2, 3], [2]] mx Tryd.func86 (by decide) rfl (by show 1 ≤ Tryd.f86.ntmps; decide) ?_
  have hw : TFork.wt x = (TSigned.wt x.fBefore) + (TSigned.wt x.fA) + (TSigned.wt x.fB) := rfl
  simp only [go_sem, brS_dec, brS_beq, brS_bne, brK_dec, brK_beq, brK_bne, Nat.reduceLT, Nat.reduceLeDiff, Nat.reduceAdd, Nat.reduceMul, Nat.reduceSub, Nat.reduceEqDiff, Nat.reduceBEq, Nat.reduceDiv, reduceCtorEq, Int.reduceToNat]
  refine call_by (toSigned x.fBefore (by omega)) rfl ?_
  simp only [TSigned.row, go_sem, brS_dec, brS_beq, brS_bne, brK_dec, brK_beq, brK_bne, Nat.reduceLT, Nat.reduceLeDiff, Nat.reduceAdd, Nat.reduceMul, Nat.reduceSub, Nat.reduceEqDiff, Nat.reduceBEq, Nat.reduceDiv, reduceCtorEq, Int.reduceToNat]
  refine call_by (toSigned x.fA (by omega)) rfl ?_
  simp only [TSigned.row, go_sem, brS_dec, brS_beq, brS_bne, brK_dec, brK_beq, brK_bne, Nat.reduceLT, Nat.reduceLeDiff, Nat.reduceAdd, Nat.reduceMul, Nat.reduceSub, Nat.reduceEqDiff, Nat.reduceBEq, Nat.reduceDiv, reduceCtorEq, Int.reduceToNat]
  refine call_by (toSigned x.fB (by omega)) rfl ?_
  simp only [TSigned.row, go_sem, brS_dec, brS_beq, brS_bne, brK_dec, brK_beq, brK_bne, Nat.reduceLT, Nat.reduceLeDiff, Nat.reduceAdd, Nat.reduceMul, Nat.reduceSub, Nat.reduceEqDiff, Nat.reduceBEq, Nat.reduceDiv, reduceCtorEq, Int.reduceToNat]
  all_goals rfl
theorem toSignedS (xs : List TSigned) (hx : wtL TSigned.wt xs ≤ 1048576) : Sat Tryd.prog G 85 [.val false [.l none 17 (xs.map (TSigned.row none))]] (.val false [.l (some tys.tSigned) 17 (xs.map (TSigned.row (some tys)))]) := by
  refine sat_of_go (L := tiOf Tryd.prog) (fun T ti h => h) false [[0], [0, 3], [0, 3, 4], [0, 3, 4, 11], [0, 3, 4], [0, 3, 4], [2, 3]] mx Tryd.func85 (by decide) rfl (by show 1 ≤ Tryd.f85.ntmps; decide) ?_
  have hlen : xs.length ≤ wtL TSigned.wt xs := wtL_len
  have hp0 := toPart_zero (TSigned.row (some tys)) [C.v (.int .i64 0), C.v (.int .i64 0), C.v (.int .i64 0), C.v (.int .i64 0), C.v (.int .i64 0), C.v (.int .i64 0), C.v (.int .i64 0), C.v (.int .i64 0), C.v (.slice none 0 0), C.v (.int .i64 0), C.v (.slice none 0 0), C.v (.int .i64 0), C.v (.int .i64 0), C.v (.slice none 0 0), C.v (.int .i64 0), C.v (.bool false), C.v (.slice none 0 0)] xs
  have hpn := toPart_all (TSigned.row (some tys)) [C.v (.int .i64 0), C.v (.int .i64 0), C.v (.int .i64 0), C.v (.int .i64 0), C.v (.int .i64 0), C.v (.int .i64 0), C.v (.int .i64 0), C.v (.int .i64 0), C.v (.slice none 0 0), C.v (.int .i64 0), C.v (.slice none 0 0), C.v (.int .i64 0), C.v (.int .i64 0), C.v (.slice none 0 0), C.v (.int .i64 0), C.v (.bool false), C.v (.slice none 0 0)] xs
  simp only [go_sem, brS_dec, brS_beq, brS_bne, brK_dec, brK_beq, brK_bne, Nat.reduceLT, Nat.reduceLeDiff, Nat.reduceAdd, Nat.reduceMul, Nat.reduceSub, Nat.reduceEqDiff, Nat.reduceBEq, Nat.reduceDiv, reduceCtorEq, Int.reduceToNat]
  refine ⟨⟨by omega, by omega⟩, ?_⟩
  refine loop_n [0, 3, 4] xs.length (fun i => [(3, .val false [.l (some 129) 17 (toPart (TSigned.row (some tys)) [C.v (.int .i64 0), C.v (.int .i64 0), C.v (.int .i64 0), C.v (.int .i64 0), C.v (.int .i64 0), C.v (.int .i64 0), C.v (.int .i64 0), C.v (.int .i64 0), C.v (.slice none 0 0), C.v (.int .i64 0), C.v (.slice none 0 0), C.v (.int .i64 0), C.v (.int .i64 0), C.v (.slice none 0 0), C.v (.int .i64 0), C.v (.bool false), C.v (.slice none 0 0)] xs i)]), (4, .val false [.v (.int .i64 (i : Int))])]) (fun _ => True) ?_ trivial ?_ ?_
  · simp only [hp0, go_sem, brS_dec, brS_beq, brS_bne, brK_dec, brK_beq, brK_bne, Nat.reduceLT, Nat.reduceLeDiff, Nat.reduceAdd, Nat.reduceMul, Nat.reduceSub, Nat.reduceEqDiff, Nat.reduceBEq, Nat.reduceDiv, reduceCtorEq, Int.reduceToNat]
    try rfl
  · intro i hi _ F hF
    have hlt : ((i : Int) < (xs.length : Int)) := by omega
    have hup := wrap_up (i := i) (by omega)
    have hpl := toPart_length (TSigned.row (some tys)) [C.v (.int .i64 0), C.v (.int .i64 0), C.v (.int .i64 0), C.v (.int .i64 0), C.v (.int .i64 0), C.v (.int .i64 0), C.v (.int .i64 0), C.v (.int .i64 0), C.v (.slice none 0 0), C.v (.int .i64 0), C.v (.slice none 0 0), C.v (.int .i64 0), C.v (.int .i64 0), C.v (.slice none 0 0), C.v (.int .i64 0), C.v (.bool false), C.v (.slice none 0 0)] xs (Nat.le_of_lt hi)
    have hpa := toPart_at (TSigned.row (some tys)) [C.v (.int .i64 0), C.v (.int .i64 0), C.v (.int .i64 0), C.v (.int .i64 0), C.v (.int .i64 0), C.v (.int .i64 0), C.v (.int .i64 0), C.v (.int .i64 0), C.v (.slice none 0 0), C.v (.int .i64 0), C.v (.slice none 0 0), C.v (.int .i64 0), C.v (.int .i64 0), C.v (.slice none 0 0), C.v (.int .i64 0), C.v (.bool false), C.v (.slice none 0 0)] xs hi
    have hps := toPart_set (TSigned.row (some tys)) [C.v (.int .i64 0), C.v (.int .i64 0), C.v (.int .i64 0), C.v (.int .i64 0), C.v (.int .i64 0), C.v (.int .i64 0), C.v (.int .i64 0), C.v (.int .i64 0), C.v (.slice none 0 0), C.v (.int .i64 0), C.v (.slice none 0 0), C.v (.int .i64 0), C.v (.int .i64 0), C.v (.slice none 0 0), C.v (.int .i64 0), C.v (.bool false), C.v (.slice none 0 0)] xs hi
    simp only [hlt, map_getD (TSigned.row none) xs hi, hup, go_sem, brS_dec, brS_beq, brS_bne, brK_dec, brK_beq, brK_bne, Nat.reduceLT, Nat.reduceLeDiff, Nat.reduceAdd, Nat.reduceMul, Nat.reduceSub, Nat.reduceEqDiff, Nat.reduceBEq, Nat.reduceDiv, reduceCtorEq, Int.reduceToNat]
    refine call_by (toSigned (xs.getD i default) (by have := wtL_at (f := TSigned.wt) hi default; omega)) rfl ?_
    have hps2 := hps
    simp only [hlt, hup, hpl, hpa, hps2, go_sem, brS_dec, brS_beq, brS_bne, brK_dec, brK_beq, brK_bne, Nat.reduceLT, Nat.reduceLeDiff, Nat.reduceAdd, Nat.reduceMul, Nat.reduceSub, Nat.reduceEqDiff, Nat.reduceBEq, Nat.reduceDiv, reduceCtorEq, Int.reduceToNat]
    refine hF _ ?_ trivial
    simp only [hps2, hup, go_sem, brS_dec, brS_beq, brS_bne, brK_dec, brK_beq, brK_bne, Nat.reduceLT, Nat.reduceLeDiff, Nat.reduceAdd, Nat.reduceMul, Nat.reduceSub, Nat.reduceEqDiff, Nat.reduceBEq, Nat.reduceDiv, reduceCtorEq, Int.reduceToNat]
  · intro _ F
    simp only [hpn, go_sem, brS_dec, brS_beq, brS_bne, brK_dec, brK_beq, brK_bne, Nat.reduceLT, Nat.reduceLeDiff, Nat.reduceAdd, Nat.reduceMul, Nat.reduceSub, Nat.reduceEqDiff, Nat.reduceBEq, Nat.reduceDiv, reduceCtorEq, Int.reduceToNat]
    try rfl
theorem toSignedSS (xs : List (List TSigned)) (hx : wtL (wtL TSigned.wt) xs ≤ 1048576) : Sat Tryd.prog G 72 [.val false [.l none 1 (xs.map (rowLSignedS none))]] (.val false [.l (some tys.tSignedS) 1 (xs.map (rowLSignedS (some tys)))]) := by
  refine sat_of_go (L := tiOf Tryd.prog) (fun T ti h => h) false [[0], [0, 3], [0, 3, 4], [0, 3, 4, 11], [0, 3, 4], [0, 3, 4], [2, 3]] mx Tryd.func72 (by decide) rfl (by show 1 ≤ Tryd.f72.ntmps; decide) ?_
  have hlen : xs.length ≤ wtL (wtL TSigned.wt) xs := wtL_len
  have hp0 := toPart_zero (rowLSignedS (some tys)) [C.v (.slice none 0 0)] xs
  have hpn := toPart_all (rowLSignedS (some tys)) [C.v (.slice none 0 0)] xs
  simp only [go_sem, brS_dec, brS_beq, brS_bne, brK_dec, brK_beq, brK_bne, Nat.reduceLT, Nat.reduceLeDiff, Nat.reduceAdd, Nat.reduceMul, Nat.reduceSub, Nat.reduceEqDiff, Nat.reduceBEq, Nat.reduceDiv, reduceCtorEq, Int.reduceToNat]
  refine ⟨⟨by omega, by omega⟩, ?_⟩
  refine loop_n [0, 3, 4] xs.length (fun i => [(3, .val false [.l (some 125) 1 (toPart (rowLSignedS (some tys)) [C.v (.slice none 0 0)] xs i)]), (4, .val false [.v (.int .i64 (i : Int))])]) (fun _ => True) ?_ trivial ?_ ?_
  · simp only [hp0, go_sem, brS_dec, brS_beq, brS_bne, brK_dec, brK_beq, brK_bne, Nat.reduceLT, Nat.reduceLeDiff, Nat.reduceAdd, Nat.reduceMul, Nat.reduceSub, Nat.reduceEqDiff, Nat.reduceBEq, Nat.reduceDiv, reduceCtorEq, Int.reduceToNat]
    try rfl
  · intro i hi _ F hF
    have hlt : ((i : Int) < (xs.length : Int)) := by omega
    have hup := wrap_up (i := i) (by omega)
    have hpl := toPart_length (rowLSignedS (some tys)) [C.v (.slice none 0 0)] xs (Nat.le_of_lt hi)
    have hpa := toPart_at (rowLSignedS (some tys)) [C.v (.slice none 0 0)] xs hi
    have hps := toPart_set (rowLSignedS (some tys)) [C.v (.slice none 0 0)] xs hi
    simp only [hlt, map_getD (rowLSignedS none) xs hi, hup, go_sem, brS_dec, brS_beq, brS_bne, brK_dec, brK_beq, brK_bne, Nat.reduceLT, Nat.reduceLeDiff, Nat.reduceAdd, Nat.reduceMul, Nat.reduceSub, Nat.reduceEqDiff, Nat.reduceBEq, Nat.reduceDiv, reduceCtorEq, Int.reduceToNat]
    refine call_by (toSignedS (xs.getD i default) (by have := wtL_at (f := (wtL TSigned.wt)) hi default; omega)) rfl ?_
    have hps2 : (toPart (rowLSignedS (some tys)) [C.v (.slice none 0 0)] xs i).set i [.l (some tys.tSigned) 17 ((xs.getD i default).map (TSigned.row (some tys)))] = toPart (rowLSignedS (some tys)) [C.v (.slice none 0 0)] xs (i + 1) := hps
    simp only [go_sem, brS_dec, brS_beq, brS_bne, brK_dec, brK_beq, brK_bne, Nat.reduceLT, Nat.reduceLeDiff, Nat.reduceAdd, Nat.reduceMul, Nat.reduceSub, Nat.reduceEqDiff, Nat.reduceBEq, Nat.reduceDiv, reduceCtorEq, Int.reduceToNat] at hps2
    simp only [hlt, hup, hpl, hpa, hps2, go_sem, brS_dec, brS_beq, brS_bne, brK_dec, brK_beq, brK_bne, Nat.reduceLT, Nat.reduceLeDiff, Nat.reduceAdd, Nat.reduceMul, Nat.reduceSub, Nat.reduceEqDiff, Nat.reduceBEq, Nat.reduceDiv, reduceCtorEq, Int.reduceToNat]
    refine hF _ ?_ trivial
    simp only [hps2, hup, go_sem, brS_dec, brS_beq, brS_bne, brK_dec, brK_beq, brK_bne, Nat.reduceLT, Nat.reduceLeDiff, Nat.reduceAdd, Nat.reduceMul, Nat.reduceSub, Nat.reduceEqDiff, Nat.reduceBEq, Nat.reduceDiv, reduceCtorEq, Int.reduceToNat]
  · intro _ F
    simp only [hpn, go_sem, brS_dec, brS_beq, brS_bne, brK_dec, brK_beq, brK_bne, Nat.reduceLT, Nat.reduceLeDiff, Nat.reduceAdd, Nat.reduceMul, Nat.reduceSub, Nat.reduceEqDiff, Nat.reduceBEq, Nat.reduceDiv, reduceCtorEq, Int.reduceToNat]
    try rfl
theorem toForkS (xs : List TFork) (hx : wtL TFork.wt xs ≤ 1048576) : Sat Tryd.prog G 73 [.val false [.l none 51 (xs.map (TFork.row none))]] (.val false [.l (some tys.tFork) 51 (xs.map (TFork.row (some tys)))]) := by
  refine sat_of_go (L := tiOf Tryd.prog) (fun T ti h => h) false [[0], [0, 3], [0, 3, 4], [0, 3, 4, 11], [0, 3, 4], [0, 3, 4], [2, 3]] mx Tryd.func73 (by decide) rfl (by show 1 ≤ Tryd.f73.ntmps; decide) ?_
  have hlen : xs.length ≤ wtL TFork.wt xs := wtL_len
  have hp0 := toPart_zero (TFork.row (some tys)) [C.v (.int .i64 0), C.v (.int .i64 0), C.v (.int .i64 0), C.v (.int .i64 0), C.v (.int .i64 0), C.v (.int .i64 0), C.v (.int .i64 0), C.v (.int .i64 0), C.v (.slice none 0 0), C.v (.int .i64 0), C.v (.slice none 0 0), C.v (.int .i64 0), C.v (.int .i64 0), C.v (.slice none 0 0), C.v (.int .i64 0), C.v (.bool false), C.v (.slice none 0 0), C.v (.int .i64 0), C.v (.int .i64 0), C.v (.int .i64 0), C.v (.int .i64 0), C.v (.int .i64 0), C.v (.int .i64 0), C.v (.int .i64 0), C.v (.int .i64 0), C.v (.slice none 0 0), C.v (.int .i64 0), C.v (.slice none 0 0), C.v (.int .i64 0), C.v (.int .i64 0), C.v (.slice none 0 0), C.v (.int .i64 0), C.v (.bool false), C.v (.slice none 0 0), C.v (.int .i64 0), C.v (.int .i64 0), C.v (.int .i64 0), C.v (.int .i64 0), C.v (.int .i64 0), C.v (.int .i64 0), C.v (.int .i64 0), C.v (.int .i64 0), C.v (.slice none 0 0), C.v (.int .i64 0), C.v (.slice none 0 0), C.v (.int .i64 0), C.v (.int .i64 0), C.v (.slice none 0 0), C.v (.int .i64 0), C.v (.bool false), C.v (.slice none 0 0)] xs
  have hpn := toPart_all (TFork.row (some tys)) [C.v (.int .i64 0), C.v (.int .i64 0), C.v (.int .i64 0), C.v (.int .i64 0), C.v (.int .i64 0), C.v (.int .i64 0), C.v (.int .i64 0), C.v (.int .i64 0), C.v (.slice none 0 0), C.v (.int .i64 0), C.v (.slice none 0 0), C.v (.int .i64 0), C.v (.int .i64 0), C.v (.slice none 0 0), C.v (.int .i64 0), C.v (.bool false), C.v (.slice none 0 0), C.v (.int .i64 0), C.v (.int .i64 0), C.v (.int .i64 0), C.v (.int .i64 0), C.v (.int .i64 0), C.v (.int .i64 0), C.v (.int .i64 0), C.v (.int .i64 0), C.v (.slice none 0 0), C.v (.int .i64 0), C.v (.slice none 0 0), C.v (.int .i64 0), C.v (.int .i64 0), C.v (.slice none 0 0), C.v (.int .i64 0), C.v (.bool false), C.v (.slice none 0 0), C.v (.int .i64 0), C.v (.int .i64 0), C.v (.int .i64 0), C.v (.int .i64 0), C.v (.int .i64 0), C.v (.int .i64 0), C.v (.int .i64 0), C.v (.int .i64 0), C.v (.slice none 0 0), C.v (.int .i64 0), C.v (.slice none 0 0), C.v (.int .i64 0), C.v (.int .i64 0), C.v (.slice none 0 0), C.v (.int .i64 0), C.v (.bool false), C.v (.slice none 0 0)] xs
  simp only [go_sem, brS_dec, brS_beq, brS_bne, brK_dec, brK_beq, brK_bne, Nat.reduceLT, Nat.reduceLeDiff, Nat.reduceAdd, Nat.reduceMul, Nat.reduceSub, Nat.reduceEqDiff, Nat.reduceBEq, Nat.reduceDiv, reduceCtorEq, Int.reduceToNat]
  refine ⟨⟨by omega, by omega⟩, ?_⟩
  refine loop_n [0, 3, 4] xs.length (fun i => [(3, .val false [.l (some 131) 51 (toPart (TFork.row (some tys)) [C.v (.int .i64 0), C.v (.int .i64 0), C.v (.int .i64 0), C.v (.int .i64 0), C.v (.int .i64 0), C.v (.int .i64 0), C.v (.int .i64 0), C.v (.int .i64 0), C.v (.slice none 0 0), C.v (.int .i64 0), C.v (.slice none 0 0), C.v (.int .i64 0), C.v (.int .i64 0), C.v (.slice none 0 0), C.v (.int .i64 0), C.v (.bool false), C.v (.slice none 0 0), C.v (.int .i64 0), C.v (.int .i64 0), C.v (.int .i64 0), C.v (.int .i64 0), C.v (.int .i64 0), C.v (.int .i64 0), C.v (.int .i64 0), C.v (.int .i64 0), C.v (.slice none 0 0), C.v (.int .i64 0), C.v (.slice none 0 0), C.v (.int .i64 0), C.v (.int .i64 0), C.v (.slice none 0 0), C.v (.int .i64 0), C.v (.bool false), C.v (.slice none 0 0), C.v (.int .i64 0), C.v (.int .i64 0), C.v (.int .i64 0), C.v (.int .i64 0), C.v (.int .i64 0), C.v (.int .i64 0), C.v (.int .i64 0), C.v (.int .i64 0), C.v (.slice none 0 0), C.v (.int .i64 0), C.v (.slice none 0 0), C.v (.int .i64 0), C.v (.int .i64 0), C.v (.slice none 0 0), C.v (.int .i64 0), C.v (.bool false), C.v (.slice none 0 0)] xs i)]), (4, .val false [.v (.int .i64 (i : Int))])]) (fun _ => True) ?_ trivial ?_ ?_
  · simp only [hp0, go_sem, brS_dec, brS_beq, brS_bne, brK_dec, brK_beq, brK_bne, Nat.reduceLT, Nat.reduceLeDiff, Nat.reduceAdd, Nat.reduceMul, Nat.reduceSub, Nat.reduceEqDiff, Nat.reduceBEq, Nat.reduceDiv, reduceCtorEq, Int.reduceToNat]
    try rfl
  · intro i hi _ F hF
    have hlt : ((i : Int) < (xs.length : Int)) := by omega
    have hup := wrap_up (i := i) (by omega)
    have hpl := toPart_length (TFork.row (some tys)) [C.v (.int .i64 0), C.v (.int .i64 0), C.v (.int .i64 0), C.v (.int .i64 0), C.v (.int .i64 0), C.v (.int .i64 0), C.v (.int .i64 0), C.v (.int .i64 0), C.v (.slice none 0 0), C.v (.int .i64 0), C.v (.slice none 0 0), C.v (.int .i64 0), C.v (.int .i64 0), C.v (.slice none 0 0), C.v (.int .i64 0), C.v (.bool false), C.v (.slice none 0 0), C.v (.int .i64 0), C.v (.int .i64 0), C.v (.int .i64 0), C.v (.int .i64 0), C.v (.int .i64 0), C.v (.int .i64 0), C.v (.int .i64 0), C.v (.int .i64 0), C.v (.slice none 0 0), C.v (.int .i64 0), C.v (.slice none 0 0), C.v (.int .i64 0), C.v (.int .i64 0), C.v (.slice none 0 0), C.v (.int .i64 0), C.v (.bool false), C.v (.slice none 0 0), C.v (.int .i64 0), C.v (.int .i64 0), C.v (.int .i64 0), C.v (.int .i64 0), C.v (.int .i64 0), C.v (.int .i64 0), C.v (.int .i64 0), C.v (.int .i64 0), C.v (.slice none 0 0), C.v (.int .i64 0), C.v (.slice none 0 0), C.v (.int .i64 0), C.v (.int .i64 0), C.v (.slice none 0 0), C.v (.int .i64 0), C.v (.bool false), C.v (.slice none 0 0)] xs (Nat.le_of_lt hi)
    have hpa := toPart_at (TFork.row (some tys)) [C.v (.int .i64 0), C.v (.int .i64 0), C.v (.int .i64 0), C.v (.int .i64 0), C.v (.int .i64 0), C.v (.int .i64 0), C.v (.int .i64 0), C.v (.int .i64 0), C.v (.slice none 0 0), C.v (.int .i64 0), C.v (.slice none 0 0), C.v (.int .i64 0), C.v (.int .i64 0), C.v (.slice none 0 0), C.v (.int .i64 0), C.v (.bool false), C.v (.slice none 0 0), C.v (.int .i64 0), C.v (.int .i64 0), C.v (.int .i64 0), C.v (.int .i64 0), C.v (.int .i64 0), C.v (.int .i64 0), C.v (.int .i64 0), C.v (.int .i64 0), C.v (.slice none 0 0), C.v (.int .i64 0), C.v (.slice none 0 0), C.v (.int .i64 0), C.v (.int .i64 0), C.v (.slice none 0 0), C.v (.int .i64 0), C.v (.bool false), C.v (.slice none 0 0), C.v (.int .i64 0), C.v (.int .i64 0), C.v (.int .i64 0), C.v (.int .i64 0), C.v (.int .i64 0), C.v (.int .i64 0), C.v (.int .i64 0), C.v (.int .i64 0), C.v (.slice none 0 0), C.v (.int .i64 0), C.v (.slice none 0 0), C.v (.int .i64 0), C.v (.int .i64 0), C.v (.slice none 0 0), C.v (.int .i64 0), C.v (.bool false), C.v (.slice none 0 0)] xs hi
    have hps := toPart_set (TFork.row (some tys)) [C.v (.int .i64 0), C.v (.int .i64 0), C.v (.int .i64 0), C.v (.int .i64 0), C.v (.int .i64 0), C.v (.int .i64 0), C.v (.int .i64 0), C.v (.int .i64 0), C.v (.slice none 0 0), C.v (.int .i64 0), C.v (.slice none 0 0), C.v (.int .i64 0), C.v (.int .i64 0), C.v (.slice none 0 0), C.v (.int .i64 0), C.v (.bool false), C.v (.slice none 0 0), C.v (.int .i64 0), C.v (.int .i64 0), C.v (.int .i64 0), C.v (.int .i64 0), C.v (.int .i64 0), C.v (.int .i64 0), C.v (.int .i64 0), C.v (.int .i64 0), C.v (.slice none 0 0), C.v (.int .i64 0), C.v (.slice none 0 0), C.v (.int .i64 0), C.v (.int .i64 0), C.v (.slice none 0 0), C.v (.int .i64 0), C.v (.bool false), C.v (.slice none 0 0), C.v (.int .i64 0), C.v (.int .i64 0), C.v (.int .i64 0), C.v (.int .i64 0), C.v (.int .i64 0), C.v (.int .i64 0), C.v (.int .i64 0), C.v (.int .i64 0), C.v (.slice none 0 0), C.v (.int .i64 0), C.v (.slice none 0 0), C.v (.int .i64 0), C.v (.int .i64 0), C.v (.slice none 0 0), C.v (.int .i64 0), C.v (.bool false), C.v (.slice none 0 0)] xs hi
    simp only [hlt, map_getD (TFork.row none) xs hi, hup, go_sem, brS_dec, brS_beq, brS_bne, brK_dec, brK_beq, brK_bne, Nat.reduceLT, Nat.reduceLeDiff, Nat.reduceAdd, Nat.reduceMul, Nat.reduceSub, Nat.reduceEqDiff, Nat.reduceBEq, Nat.reduceDiv, reduceCtorEq, Int.reduceToNat]
    refine call_by (toFork (xs.getD i default) (by have := wtL_at (f := TFork.wt) hi default; omega)) rfl ?_
    have hps2 := hps
    simp only [hlt, hup, hpl, hpa, hps2, go_sem, brS_dec, brS_beq, brS_bne, brK_dec, brK_beq, brK_bne, Nat.reduceLT, Nat.reduceLeDiff, Nat.reduceAdd, Nat.reduceMul, Nat.reduceSub, Nat.reduceEqDiff, Nat.reduceBEq, Nat.reduceDiv, reduceCtorEq, Int.reduceToNat]
    refine hF _ ?_ trivial
    simp only [hps2, hup, go_sem, brS_dec, brS_beq, brS_bne, brK_dec, brK_beq, brK_bne, Nat.reduceLT, Nat.reduceLeDiff, Nat.reduceAdd, Nat.reduceMul, Nat.reduceSub, Nat.reduceEqDiff, Nat.reduceBEq, Nat.reduceDiv, reduceCtorEq, Int.reduceToNat]
  · intro _ F
    simp only [hpn, go_sem, brS_dec, brS_beq, brS_bne, brK_dec, brK_beq, brK_bne, Nat.reduceLT, Nat.reduceLeDiff, Nat.reduceAdd, Nat.reduceMul, Nat.reduceSub, Nat.reduceEqDiff, Nat.reduceBEq, Nat.reduceDiv, reduceCtorEq, Int.reduceToNat]
    try rfl
theorem toKnown (x : TKnown) (hx : TKnown.wt x ≤ 1048576) : Sat Tryd.prog G 59 [.val true (TKnown.row none x)] (.val true (TKnown.row (some tys) x)) := by
  refine sat_of_go (L := tiOf Tryd.prog) (fun T ti h => h) false [[1, 2], [1, 2, 3], [1, 2, 3], [2, 3], [2]] mx Tryd.func59 (by decide) rfl (by show 1 ≤ Tryd.f59.ntmps; decide) ?_
  have hw : TKnown.wt x = (wtL (wtL TSigned.wt) x.fChains) + (wtL TFork.wt x.fForks) := rfl
  simp only [go_sem, brS_dec, brS_beq, brS_bne, brK_dec, brK_beq, brK_bne, Nat.reduceLT, Nat.reduceLeDiff, Nat.reduceAdd, Nat.reduceMul, Nat.reduceSub, Nat.reduceEqDiff, Nat.reduceBEq, Nat.reduceDiv, reduceCtorEq, Int.reduceToNat]
  refine call_by (toSignedSS x.fChains (by omega)) rfl ?_
  simp only [go_sem, brS_dec, brS_beq, brS_bne, brK_dec, brK_beq, brK_bne, Nat.reduceLT, Nat.reduceLeDiff, Nat.reduceAdd, Nat.reduceMul, Nat.reduceSub, Nat.reduceEqDiff, Nat.reduceBEq, Nat.reduceDiv, reduceCtorEq, Int.reduceToNat]
  refine call_by (toForkS x.fForks (by omega)) rfl ?_
  simp only [go_sem, brS_dec, brS_beq, brS_bne, brK_dec, brK_beq, brK_bne, Nat.reduceLT, Nat.reduceLeDiff, Nat.reduceAdd, Nat.reduceMul, Nat.reduceSub, Nat.reduceEqDiff, Nat.reduceBEq, Nat.reduceDiv, reduceCtorEq, Int.reduceToNat]
  all_goals rfl
theorem toTrace (x : TTrace) (hx : TTrace.wt x ≤ 1048576) : Sat Tryd.prog G 30 [.val true (TTrace.row none x)] (.val true (TTrace.row (some tys) x)) := by
  refine sat_of_go (L := tiOf Tryd.prog) (fun T ti h => h) false [[1, 2], [1, 2, 3], [1, 2, 3], [1, 2, 3], [1, 2, 3], [1, 2, 3], [2, 3], [2]] mx Tryd.func30 (by decide) rfl (by show 1 ≤ Tryd.f30.ntmps; decide) ?_
  have hw : TTrace.wt x = (TKnown.wt x.fKnown) + (TEntry.wt x.fEntry) + (x.fZones.length) := rfl
  simp only [go_sem, brS_dec, brS_beq, brS_bne, brK_dec, brK_beq, brK_bne, Nat.reduceLT, Nat.reduceLeDiff, Nat.reduceAdd, Nat.reduceMul, Nat.reduceSub, Nat.reduceEqDiff, Nat.reduceBEq, Nat.reduceDiv, reduceCtorEq, Int.reduceToNat]
  refine call_by (toKnown x.fKnown (by omega)) rfl ?_
  simp only [TKnown.row, go_sem, brS_dec, brS_beq, brS_bne, brK_dec, brK_beq, brK_bne, Nat.reduceLT, Nat.reduceLeDiff, Nat.reduceAdd, Nat.reduceMul, Nat.reduceSub, Nat.reduceEqDiff, Nat.reduceBEq, Nat.reduceDiv, reduceCtorEq, Int.reduceToNat]
  refine call_by (toEntry x.fEntry (by omega)) rfl ?_
  simp only [TEntry.row, go_sem, brS_dec, brS_beq, brS_bne, brK_dec, brK_beq, brK_bne, Nat.reduceLT, Nat.reduceLeDiff, Nat.reduceAdd, Nat.reduceMul, Nat.reduceSub, Nat.reduceEqDiff, Nat.reduceBEq, Nat.reduceDiv, reduceCtorEq, Int.reduceToNat]
  refine call_by (toIntS x.fZones (by omega)) rfl ?_
  simp only [go_sem, brS_dec, brS_beq, brS_bne, brK_dec, brK_beq, brK_bne, Nat.reduceLT, Nat.reduceLeDiff, Nat.reduceAdd, Nat.reduceMul, Nat.reduceSub, Nat.reduceEqDiff, Nat.reduceBEq, Nat.reduceDiv, reduceCtorEq, Int.reduceToNat]
  all_goals rfl
theorem toEntryS (xs : List TEntry) (hx : wtL TEntry.wt xs ≤ 1048576) : Sat Tryd.prog G 52 [.val false [.l none 4 (xs.map (TEntry.row none))]] (.val false [.l (some tys.tEntry) 4 (xs.map (TEntry.row (some tys)))]) := by
  refine sat_of_go (L := tiOf Tryd.prog) (fun T ti h => h) false [[0], [0, 3], [0, 3, 4], [0, 3, 4, 11], [0, 3, 4], [0, 3, 4], [2, 3]] mx Tryd.func52 (by decide) rfl (by show 1 ≤ Tryd.f52.ntmps; decide) ?_
  have hlen : xs.length ≤ wtL TEntry.wt xs := wtL_len
  have hp0 := toPart_zero (TEntry.row (some tys)) [C.v (.string ByteArray.empty), C.v (.int .i64 0), C.v (.int .i64 0), C.v (.slice none 0 0)] xs
  have hpn := toPart_all (TEntry.row (some tys)) [C.v (.string ByteArray.empty), C.v (.int .i64 0), C.v (.int .i64 0), C.v (.slice none 0 0)] xs
  simp only [go_sem, brS_dec, brS_beq, brS_bne, brK_dec, brK_beq, brK_bne, Nat.reduceLT, Nat.reduceLeDiff, Nat.reduceAdd, Nat.reduceMul, Nat.reduceSub, Nat.reduceEqDiff, Nat.reduceBEq, Nat.reduceDiv, reduceCtorEq, Int.reduceToNat]
  refine ⟨⟨by omega, by omega⟩, ?_⟩
  refine loop_n [0, 3, 4] xs.length (fun i => [(3, .val false [.l (some 36) 4 (toPart (TEntry.row (some tys)) [C.v (.string ByteArray.empty), C.v (.int .i64 0), C.v (.int .i64 0), C.v (.slice none 0 0)] xs i)]), (4, .val false [.v (.int .i64 (i : Int))])]) (fun _ => True) ?_ trivial ?_ ?_
  · simp only [hp0, go_sem, brS_dec, brS_beq, brS_bne, brK_dec, brK_beq, brK_bne, Nat.reduceLT, Nat.reduceLeDiff, Nat.reduceAdd, Nat.reduceMul, Nat.reduceSub, Nat.reduceEqDiff, Nat.reduceBEq, Nat.reduceDiv, reduceCtorEq, Int.reduceToNat]
    try rfl
  · intro i hi _ F hF
    have hlt : ((i : Int) < (xs.length : Int)) := by omega
    have hup := wrap_up (i := i) (by omega)
    have hpl := toPart_length (TEntry.row (some tys)) [C.v (.string ByteArray.empty), C.v (.int .i64 0), C.v (.int .i64 0), C.v (.slice none 0 0)] xs (Nat.le_of_lt hi)
    have hpa := toPart_at (TEntry.row (some tys)) [C.v (.string ByteArray.empty), C.v (.int .i64 0), C.v (.int .i64 0), C.v (.slice none 0 0)] xs hi
    have hps := toPart_set (TEntry.row (some tys)) [C.v (.string ByteArray.empty), C.v (.int .i64 0), C.v (.int .i64 0), C.v (.slice none 0 0)] xs hi
    simp only [hlt, map_getD (TEntry.row none) xs hi, hup, go_sem, brS_dec, brS_beq, brS_bne, brK_dec, brK_beq, brK_bne, Nat.reduceLT, Nat.reduceLeDiff, Nat.reduceAdd, Nat.reduceMul, Nat.reduceSub, Nat.reduceEqDiff, Nat.reduceBEq, Nat.reduceDiv, reduceCtorEq, Int.reduceToNat]
    refine call_by (toEntry (xs.getD i default) (by have := wtL_at (f := TEntry.wt) hi default; omega)) rfl ?_
    have hps2 := hps
    simp only [hlt, hup, hpl, hpa, hps2, go_sem, brS_dec, brS_beq, brS_bne, brK_dec, brK_beq, brK_bne, Nat.reduceLT, Nat.reduceLeDiff, Nat.reduceAdd, Nat.reduceMul, Nat.reduceSub, Nat.reduceEqDiff, Nat.reduceBEq, Nat.reduceDiv, reduceCtorEq, Int.reduceToNat]
    refine hF _ ?_ trivial
    simp only [hps2, hup, go_sem, brS_dec, brS_beq, brS_bne, brK_dec, brK_beq, brK_bne, Nat.reduceLT, Nat.reduceLeDiff, Nat.reduceAdd, Nat.reduceMul, Nat.reduceSub, Nat.reduceEqDiff, Nat.reduceBEq, Nat.reduceDiv, reduceCtorEq, Int.reduceToNat]
  · intro _ F
    simp only [hpn, go_sem, brS_dec, brS_beq, brS_bne, brK_dec, brK_beq, brK_bne, Nat.reduceLT, Nat.reduceLeDiff, Nat.reduceAdd, Nat.reduceMul, Nat.reduceSub, Nat.reduceEqDiff, Nat.reduceBEq, Nat.reduceDiv, reduceCtorEq, Int.reduceToNat]
    try rfl
theorem toDecision (x : TDecision) (hx : TDecision.wt x ≤ 1048576) : Sat Tryd.prog G 25 [.val true (TDecision.row none x)] (.val true (TDecision.row (some tys) x)) := by
  refine sat_of_go (L := tiOf Tryd.prog) (fun T ti h => h) false [[1, 2], [1, 2, 3], [1, 2, 3], [1, 2, 3], [2, 3], [2]] mx Tryd.func25 (by decide) rfl (by show 1 ≤ Tryd.f25.ntmps; decide) ?_
  have hw : TDecision.wt x = (TEntry.wt x.fEntry) + (wtL TEntry.wt x.fOthers) := rfl
  simp only [go_sem, brS_dec, brS_beq, brS_bne, brK_dec, brK_beq, brK_bne, Nat.reduceLT, Nat.reduceLeDiff, Nat.reduceAdd, Nat.reduceMul, Nat.reduceSub, Nat.reduceEqDiff, Nat.reduceBEq, Nat.reduceDiv, reduceCtorEq, Int.reduceToNat]
  refine call_by (toEntry x.fEntry (by omega)) rfl ?_
  simp only [TEntry.row, go_sem, brS_dec, brS_beq, brS_bne, brK_dec, brK_beq, brK_bne, Nat.reduceLT, Nat.reduceLeDiff, Nat.reduceAdd, Nat.reduceMul, Nat.reduceSub, Nat.reduceEqDiff, Nat.reduceBEq, Nat.reduceDiv, reduceCtorEq, Int.reduceToNat]
  refine call_by (toEntryS x.fOthers (by omega)) rfl ?_
  simp only [go_sem, brS_dec, brS_beq, brS_bne, brK_dec, brK_beq, brK_bne, Nat.reduceLT, Nat.reduceLeDiff, Nat.reduceAdd, Nat.reduceMul, Nat.reduceSub, Nat.reduceEqDiff, Nat.reduceBEq, Nat.reduceDiv, reduceCtorEq, Int.reduceToNat]
  all_goals rfl
end Go.Proofs.Vt
