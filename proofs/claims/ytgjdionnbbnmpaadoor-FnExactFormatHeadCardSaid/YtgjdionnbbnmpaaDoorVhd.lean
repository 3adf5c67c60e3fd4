/- A part of the proof of the card: lemmas that the text with the card leans on (see there for what is proved, and under which conditions). -/
import Derived.Test.YtgjdionnbbnmpaaDoorVnm
import Derived.Test.YtgjdionnbbnmpaaDoorVmTx3
namespace Go.Proofs.Vt
open Go Go.RowKit Go.Proofs.Vm Go.Proofs
set_option maxRecDepth 10000
set_option linter.unusedVariables false
set_option linter.unusedSimpArgs false
attribute [local go_sem] go_skip go_region go_draw go_seq go_if go_block go_loop go_exit go_ret seqK_normal seqK_exit seqK_ret blockK_normal blockK_exit blockK_ret endK_ret endK_normal runK_at keepK_at St.only onlyF inside_ptr inside_al inside_eo inside_dead inside_val inside_box inside_ep inside_tup inside_fn memN goRun_nil goRun_free goRun_if opK_at skK_at mvK_at goOp_call goOp_callFn goOp_pick goOp_builtin goOp_move goOp_assign goOp_alloc goOp_box goOp_build goOp_buildSlice goOp_load goOp_store goOp_nilCheck goOp_binOp goOp_unOp goOp_convert goOp_makeFunc goOp_makeSlice goOp_slice goOp_fieldAddr goOp_field goOp_indexAddr goOp_index goOp_extract quietB buildOk partsOk ownless plainK evOp evMoveOp evLoadMove evLoadFreeze C.frz frzR initFrom goMove evAssign evMove evNil evFunc capOf capsOf Cap.arg ptOf SV.step evFieldAddr evField evLoad evStore evIndexAddr evIndex evAlloc evBox evBuild evBuildSlice evMake evLen evAppend evExtract evBin evUn unV evConvert evBuiltin takeAll placesOf placeParts partRows newsOf rowsOwn LS.width LS.rows fieldOf zeroOk splice goneR skipTo yieldOf argOf argsOf SV.isRes St.copy get_nil get_step put_step St.puts set_nil set_step St.forget kill_nil kill_step killAt_nil killAt_step cond_true cond_false St.killSeg St.cell St.setCell SV.setCell SV.root SV.names SV.namesAt rowOwn C.own constOk Value.cells Value.oneCell' St.list lsOf St.flat binV intV strV boolV shiftV isShift resOf resAll St.take drawDsts dstsQ quietOp takeRes Option.map_some Option.map_none Option.bind_some Option.getD_some Option.getD_none Nat.zero_add Nat.add_zero if_true if_false ite_true ite_false dite_true List.length_map List.length_nil List.length_cons List.map_cons List.map_nil List.all_cons List.all_nil List.getElem?_cons_zero List.getElem?_cons_succ List.getElem?_nil List.getElem?_toArray List.set_cons_zero List.set_cons_succ List.take_succ_cons List.take_zero List.drop_succ_cons List.drop_zero List.drop_nil List.nil_append List.cons_append List.append_nil List.getD_cons_zero List.getD_cons_succ List.all_eq_true true_and and_true or_true true_or or_false false_or Bool.or_false Bool.false_or Bool.or_self Bool.or_true Bool.true_or Bool.and_true Bool.true_and Bool.and_self Bool.and_false Bool.false_and Bool.not_true Bool.not_false Bool.false_eq_true decide_eq_true_eq decide_eq_false_iff_not decide_true decide_false beq_self_eq_true true_implies false_implies forall_const implies_true not_true not_false_iff ne_eq Int.toNat_natCast Int.natCast_nonneg eq_self exists_const if_pos Nat.succ_ne_zero
attribute [local go_sem high] brS_true brS_false brS_not brK_true brK_false brK_not
attribute [local go_sem] ti3 ti4 ti5 ti9 ti22 ti24 ti27 ti31 ti33 ti36 ti41 ti45 ti49 ti51 ti54 ti56 ti60 ti61 ti63 ti65 ti68 ti69 ti71 ti73 ti97 ti118 ti120 ti122 ti124 ti125 ti127 ti129 ti131 ti161 ti163 Tryd.ntmps19 Tryd.results19 Tryd.ntmps21 Tryd.results21
attribute [local go_sem] rowsI_length rowsS_length rowsI_frz rowsS_frz rowsI_own rowsS_own Option.map_none Option.map_some bs_size bs_toList Int.lt_irrefl tys_tInt tys_tString tys_tSig tys_tSigned tys_tEntry tys_tSignedS tys_tFork TKeys_len TKeys_at0 TKeys_get0 TKeys_at1 TKeys_get1 TKeys_drop TKeys_full TKeys_frz TKeys_own TKeys_owns TKeys_noImm THead_len THead_at0 THead_get0 THead_at1 THead_get1 THead_at2 THead_get2 THead_at3 THead_get3 THead_at4 THead_get4 THead_at5 THead_get5 THead_at6 THead_get6 THead_at7 THead_get7 THead_sub8_Keys THead_at8 THead_get8 THead_at9 THead_get9 THead_sub10_Keys THead_at10 THead_get10 THead_at11 THead_get11 THead_at12 THead_get12 THead_sub13_Keys THead_at13 THead_get13 THead_at14 THead_get14 THead_at15 THead_get15 THead_drop THead_full THead_frz THead_own THead_owns THead_noImm
variable {G : Glob} (hT : ∀ w, G w → Gp w)
def names4 : List (List UInt8) := [] :: kindNames
set_option maxHeartbeats 2000000 in
theorem specFormatHead (x : THead) (hx : x.wt ≤ 1048576) (hf : x.fit) : Sat Tryd.prog G 19 [.val true (THead.row none x)] (.val false [.v (.string (bs (headText x)))]) := by
  refine sat_of_go (L := tiOf Tryd.prog) (fun T ti h => h) false [[1], [1, 3], [1, 3, 7], [1, 3], [1, 4], [4, 40], [2], [2]] mx Tryd.func19 (by decide) rfl (by show 1 ≤ Tryd.f19.ntmps; decide) ?_
  have hk : x.fKeys.fList.length ≤ 1048576 := by unfold THead.wt TKeys.wt at hx; omega
  obtain ⟨_, fE, fK, fT, fU, fC, _, _, fKeys, _, _, _, _⟩ := hf
  have lE := itoa_len fE
  have lT := itoa_len fT
  have lU := itoa_len fU
  have lC := itoa_len fC
  have lK := keysText_len fKeys hk
  have lN := kindName_len x.fKind
  have e0 : headText x = Lib.itoa x.fEpoch ++ [32] ++ kindName x.fKind ++ [32] ++ Lib.itoa x.fTime ++ [45] ++ Lib.itoa x.fUntil ++ [32] ++ Lib.itoa x.fCount ++ [32] ++ keysText x.fKeys ++ (if x.fFrozen then [32, 102, 114, 111, 122, 101, 110] else []) := by
    simp only [headText, joinB, List.append_assoc]
  have hns : [[C.v (.string { data := #[] })], [C.v (.string { data := #[111, 119, 110, 101, 114] })], [C.v (.string { data := #[104, 101, 105, 114] })], [C.v (.string { data := #[106, 117, 100, 103, 101] })]] = rowsS names4 := rfl
  have hn4 : names4.length = 4 := rfl
  have hl63 : ({ data := #[63] } : ByteArray) = bs [63] := rfl
  simp only [hl63, go_sem, brS_dec, brS_beq, brS_bne, brK_dec, brK_beq, brK_bne, Nat.reduceLT, Nat.reduceLeDiff, Nat.reduceAdd, Nat.reduceMul, Nat.reduceSub, Nat.reduceEqDiff, Nat.reduceBEq, Nat.reduceDiv, reduceCtorEq, Int.reduceToNat]
  refine call_by (specIn _ _ _) rfl ?_
  cases hr : inR x.fKind 1 3 with
  | false =>
    have e1 : kindName x.fKind = [63] := by simp [kindName, hr]
    simp only [hr, ← e1, go_sem, brS_dec, brS_beq, brS_bne, brK_dec, brK_beq, brK_bne, Nat.reduceLT, Nat.reduceLeDiff, Nat.reduceAdd, Nat.reduceMul, Nat.reduceSub, Nat.reduceEqDiff, Nat.reduceBEq, Nat.reduceDiv, reduceCtorEq, Int.reduceToNat]
    refine ⟨rfl, ?_⟩
    refine call_by (specFormatInt _ fE) rfl ?_
    simp only [lit_bs, bs_app, List.length_append, List.size_toArray, List.length_cons, List.length_nil, go_sem, brS_dec, brS_beq, brS_bne, brK_dec, brK_beq, brK_bne, Nat.reduceLT, Nat.reduceLeDiff, Nat.reduceAdd, Nat.reduceMul, Nat.reduceSub, Nat.reduceEqDiff, Nat.reduceBEq, Nat.reduceDiv, reduceCtorEq, Int.reduceToNat]
    refine ⟨by omega, by omega, by omega, call_by (specFormatInt _ fT) rfl ?_⟩
    simp only [lit_bs, bs_app, List.length_append, List.size_toArray, List.length_cons, List.length_nil, go_sem, brS_dec, brS_beq, brS_bne, brK_dec, brK_beq, brK_bne, Nat.reduceLT, Nat.reduceLeDiff, Nat.reduceAdd, Nat.reduceMul, Nat.reduceSub, Nat.reduceEqDiff, Nat.reduceBEq, Nat.reduceDiv, reduceCtorEq, Int.reduceToNat]
    refine ⟨by omega, by omega, call_by (specFormatInt _ fU) rfl ?_⟩
    simp only [lit_bs, bs_app, List.length_append, List.size_toArray, List.length_cons, List.length_nil, go_sem, brS_dec, brS_beq, brS_bne, brK_dec, brK_beq, brK_bne, Nat.reduceLT, Nat.reduceLeDiff, Nat.reduceAdd, Nat.reduceMul, Nat.reduceSub, Nat.reduceEqDiff, Nat.reduceBEq, Nat.reduceDiv, reduceCtorEq, Int.reduceToNat]
    refine ⟨by omega, by omega, call_by (specFormatInt _ fC) rfl ?_⟩
    simp only [lit_bs, bs_app, List.length_append, List.size_toArray, List.length_cons, List.length_nil, go_sem, brS_dec, brS_beq, brS_bne, brK_dec, brK_beq, brK_bne, Nat.reduceLT, Nat.reduceLeDiff, Nat.reduceAdd, Nat.reduceMul, Nat.reduceSub, Nat.reduceEqDiff, Nat.reduceBEq, Nat.reduceDiv, reduceCtorEq, Int.reduceToNat]
    refine ⟨by omega, by omega, call_by (specFormatKeys x.fKeys hk fKeys) rfl ?_⟩
    cases hfr : x.fFrozen with
    | true =>
      rw [hfr, if_pos rfl] at e0
      simp only [hfr, e0, lit_bs, bs_app, List.length_append, List.size_toArray, List.length_cons, List.length_nil, go_sem, brS_dec, brS_beq, brS_bne, brK_dec, brK_beq, brK_bne, Nat.reduceLT, Nat.reduceLeDiff, Nat.reduceAdd, Nat.reduceMul, Nat.reduceSub, Nat.reduceEqDiff, Nat.reduceBEq, Nat.reduceDiv, reduceCtorEq, Int.reduceToNat]
      refine ⟨by omega, by omega⟩
    | false =>
      rw [hfr, if_neg (by decide), List.append_nil] at e0
      simp only [hfr, e0, lit_bs, bs_app, List.length_append, List.size_toArray, List.length_cons, List.length_nil, go_sem, brS_dec, brS_beq, brS_bne, brK_dec, brK_beq, brK_bne, Nat.reduceLT, Nat.reduceLeDiff, Nat.reduceAdd, Nat.reduceMul, Nat.reduceSub, Nat.reduceEqDiff, Nat.reduceBEq, Nat.reduceDiv, reduceCtorEq, Int.reduceToNat]
      omega
  | true =>
    have hb : 1 ≤ x.fKind ∧ x.fKind ≤ 3 := by simpa [inR] using hr
    have h0 : (0 : Int) ≤ x.fKind := by omega
    have h1 : x.fKind < ((4 : Nat) : Int) := by omega
    have hra := rowsS_at names4 (i := x.fKind.toNat) (by rw [hn4]; omega)
    have e1 : names4.getD x.fKind.toNat [] = kindName x.fKind := by
      have : x.fKind = 1 ∨ x.fKind = 2 ∨ x.fKind = 3 := by omega
      rcases this with h | h | h <;> rw [h] <;> rfl
    rw [e1] at hra
    simp only [hr, hns, h0, h1, hra, hn4, go_sem, brS_dec, brS_beq, brS_bne, brK_dec, brK_beq, brK_bne, Nat.reduceLT, Nat.reduceLeDiff, Nat.reduceAdd, Nat.reduceMul, Nat.reduceSub, Nat.reduceEqDiff, Nat.reduceBEq, Nat.reduceDiv, reduceCtorEq, Int.reduceToNat]
    refine ⟨rfl, ?_⟩
    refine call_by (specFormatInt _ fE) rfl ?_
    simp only [lit_bs, bs_app, List.length_append, List.size_toArray, List.length_cons, List.length_nil, go_sem, brS_dec, brS_beq, brS_bne, brK_dec, brK_beq, brK_bne, Nat.reduceLT, Nat.reduceLeDiff, Nat.reduceAdd, Nat.reduceMul, Nat.reduceSub, Nat.reduceEqDiff, Nat.reduceBEq, Nat.reduceDiv, reduceCtorEq, Int.reduceToNat]
    refine ⟨by omega, by omega, by omega, call_by (specFormatInt _ fT) rfl ?_⟩
    simp only [lit_bs, bs_app, List.length_append, List.size_toArray, List.length_cons, List.length_nil, go_sem, brS_dec, brS_beq, brS_bne, brK_dec, brK_beq, brK_bne, Nat.reduceLT, Nat.reduceLeDiff, Nat.reduceAdd, Nat.reduceMul, Nat.reduceSub, Nat.reduceEqDiff, Nat.reduceBEq, Nat.reduceDiv, reduceCtorEq, Int.reduceToNat]
    refine ⟨by omega, by omega, call_by (specFormatInt _ fU) rfl ?_⟩
    simp only [lit_bs, bs_app, List.length_append, List.size_toArray, List.length_cons, List.length_nil, go_sem, brS_dec, brS_beq, brS_bne, brK_dec, brK_beq, brK_bne, Nat.reduceLT, Nat.reduceLeDiff, Nat.reduceAdd, Nat.reduceMul, Nat.reduceSub, Nat.reduceEqDiff, Nat.reduceBEq, Nat.reduceDiv, reduceCtorEq, Int.reduceToNat]
    refine ⟨by omega, by omega, call_by (specFormatInt _ fC) rfl ?_⟩
    simp only [lit_bs, bs_app, List.length_append, List.size_toArray, List.length_cons, List.length_nil, go_sem, brS_dec, brS_beq, brS_bne, brK_dec, brK_beq, brK_bne, Nat.reduceLT, Nat.reduceLeDiff, Nat.reduceAdd, Nat.reduceMul, Nat.reduceSub, Nat.reduceEqDiff, Nat.reduceBEq, Nat.reduceDiv, reduceCtorEq, Int.reduceToNat]
    refine ⟨by omega, by omega, call_by (specFormatKeys x.fKeys hk fKeys) rfl ?_⟩
    cases hfr : x.fFrozen with
    | true =>
      rw [hfr, if_pos rfl] at e0
      simp only [hfr, e0, lit_bs, bs_app, List.length_append, List.size_toArray, List.length_cons, List.length_nil, go_sem, brS_dec, brS_beq, brS_bne, brK_dec, brK_beq, brK_bne, Nat.reduceLT, Nat.reduceLeDiff, Nat.reduceAdd, Nat.reduceMul, Nat.reduceSub, Nat.reduceEqDiff, Nat.reduceBEq, Nat.reduceDiv, reduceCtorEq, Int.reduceToNat]
      refine ⟨by omega, by omega⟩
    | false =>
      rw [hfr, if_neg (by decide), List.append_nil] at e0
      simp only [hfr, e0, lit_bs, bs_app, List.length_append, List.size_toArray, List.length_cons, List.length_nil, go_sem, brS_dec, brS_beq, brS_bne, brK_dec, brK_beq, brK_bne, Nat.reduceLT, Nat.reduceLeDiff, Nat.reduceAdd, Nat.reduceMul, Nat.reduceSub, Nat.reduceEqDiff, Nat.reduceBEq, Nat.reduceDiv, reduceCtorEq, Int.reduceToNat]
      omega
theorem rowsS5 (a b c d e : List UInt8) : [[C.v (.string (bs a))], [C.v (.string (bs b))], [C.v (.string (bs c))], [C.v (.string (bs d))], [C.v (.string (bs e))]] = rowsS [a, b, c, d, e] := rfl
theorem rowsI2 (a b : Int) : [[C.v (.int .i64 a)], [C.v (.int .i64 b)]] = rowsI [a, b] := rfl
theorem nameAt_kind_none {k : Int} (h : (nameAt k kindNames == []) = true) : kindName k = [63] := by
  unfold kindName
  cases hr : inR k 1 3 with
  | false => rfl
  | true =>
    simp only [inR, Bool.and_eq_true, decide_eq_true_eq] at hr
    have : k = 1 ∨ k = 2 ∨ k = 3 := by omega
    rcases this with rfl | rfl | rfl <;> exact absurd h (by decide)
theorem nameAt_kind {k : Int} (h : (nameAt k kindNames == []) = false) : nameAt k kindNames = kindName k := by
  unfold kindName
  cases hr : inR k 1 3 with
  | false =>
    have : nameAt k kindNames = [] := by
      unfold nameAt
      have h2 : inR k 1 (kindNames.length : Int) = false := hr
      rw [h2]; rfl
    rw [this] at h
    exact absurd h (by decide)
  | true =>
    unfold nameAt
    have h2 : inR k 1 (kindNames.length : Int) = true := hr
    rw [h2]; rfl
include hT in
set_option maxHeartbeats 2000000 in
theorem implFormatHead (x : THead) (hx : x.wt ≤ 1048576) (hf : x.fit) : Sat Tryd.prog G 21 [.val true (THead.row none x)] (.val false [.v (.string (bs (headText x)))]) := by
  refine sat_of_go (L := tiOf Tryd.prog) (fun T ti h => h) false [[1], [1, 3], [1, 3, 10], [1, 3], [1, 4], [4, 30], [4], [2]] mx Tryd.func21 (by decide) rfl (by show 1 ≤ Tryd.f21.ntmps; decide) ?_
  have hk : x.fKeys.fList.length ≤ 1048576 := by unfold THead.wt TKeys.wt at hx; omega
  have hns : [[C.v (.string { data := #[111, 119, 110, 101, 114] })], [C.v (.string { data := #[104, 101, 105, 114] })], [C.v (.string { data := #[106, 117, 100, 103, 101] })]] = rowsS kindNames := rfl
  have hkn : kindNames.length = 3 := rfl
  simp only [hns, hkn, go_sem, brS_dec, brS_beq, brS_bne, brK_dec, brK_beq, brK_bne, Nat.reduceLT, Nat.reduceLeDiff, Nat.reduceAdd, Nat.reduceMul, Nat.reduceSub, Nat.reduceEqDiff, Nat.reduceBEq, Nat.reduceDiv, reduceCtorEq, Int.reduceToNat]
  obtain ⟨_, fE, fK, fT, fU, fC, _, _, fKeys, _, _, _, _⟩ := hf
  have lE := itoa_len fE
  have lT := itoa_len fT
  have lU := itoa_len fU
  have lC := itoa_len fC
  have lK := keysText_len fKeys hk
  have lN := kindName_len x.fKind
  refine call_own (nameOf x.fKind fK kindNames (by decide)) rfl ⟨trivial, trivial⟩ ?_
  simp only [lit_bs, go_sem, brS_dec, brS_beq, brS_bne, brK_dec, brK_beq, brK_bne, Nat.reduceLT, Nat.reduceLeDiff, Nat.reduceAdd, Nat.reduceMul, Nat.reduceSub, Nat.reduceEqDiff, Nat.reduceBEq, Nat.reduceDiv, reduceCtorEq, Int.reduceToNat]
  have e0 : headText x = joinB [32] [Lib.itoa x.fEpoch, kindName x.fKind, joinB [45] [Lib.itoa x.fTime, Lib.itoa x.fUntil], Lib.itoa x.fCount, keysText x.fKeys] ++ (if x.fFrozen then [32, 102, 114, 111, 122, 101, 110] else []) := rfl
  have l2 := joinB_len [45] 21 [Lib.itoa x.fTime, Lib.itoa x.fUntil] (by simp; omega)
  have l5 := joinB_len [32] 100000000 [Lib.itoa x.fEpoch, kindName x.fKind, joinB [45] [Lib.itoa x.fTime, Lib.itoa x.fUntil], Lib.itoa x.fCount, keysText x.fKeys] (by
    simp only [List.length_cons, List.length_nil] at l2
    intro t ht
    simp only [List.mem_cons, List.not_mem_nil, or_false] at ht
    rcases ht with rfl | rfl | rfl | rfl | rfl <;> omega)
  simp only [List.length_cons, List.length_nil] at l5
  refine ⟨fun hz => ?_, fun hz => ?_⟩
  · rw [← nameAt_kind_none hz]
    refine ⟨rfl, ?_⟩
    refine call_by (formatInt hT _ fE) rfl ?_
    simp only [rowsI2, go_sem, brS_dec, brS_beq, brS_bne, brK_dec, brK_beq, brK_bne, Nat.reduceLT, Nat.reduceLeDiff, Nat.reduceAdd, Nat.reduceMul, Nat.reduceSub, Nat.reduceEqDiff, Nat.reduceBEq, Nat.reduceDiv, reduceCtorEq, Int.reduceToNat]
    refine call_own (joined hT [45] [x.fTime, x.fUntil] (by simp) (by simp [fT, fU]) (by decide)) rfl ⟨trivial, trivial⟩ ?_
    simp only [rowsI2, go_sem, brS_dec, brS_beq, brS_bne, brK_dec, brK_beq, brK_bne, Nat.reduceLT, Nat.reduceLeDiff, Nat.reduceAdd, Nat.reduceMul, Nat.reduceSub, Nat.reduceEqDiff, Nat.reduceBEq, Nat.reduceDiv, reduceCtorEq, Int.reduceToNat]
    refine call_by (formatInt hT _ fC) rfl ?_
    simp only [rowsI2, go_sem, brS_dec, brS_beq, brS_bne, brK_dec, brK_beq, brK_bne, Nat.reduceLT, Nat.reduceLeDiff, Nat.reduceAdd, Nat.reduceMul, Nat.reduceSub, Nat.reduceEqDiff, Nat.reduceBEq, Nat.reduceDiv, reduceCtorEq, Int.reduceToNat]
    refine call_by (implFormatKeys hT x.fKeys hk fKeys) rfl ?_
    simp only [rowsI2, rowsS5, go_sem, brS_dec, brS_beq, brS_bne, brK_dec, brK_beq, brK_bne, Nat.reduceLT, Nat.reduceLeDiff, Nat.reduceAdd, Nat.reduceMul, Nat.reduceSub, Nat.reduceEqDiff, Nat.reduceBEq, Nat.reduceDiv, reduceCtorEq, Int.reduceToNat]
    refine call_own (join _ [32] (by simp only [List.length_cons, List.length_nil]; omega) (by omega)) rfl ⟨trivial, trivial⟩ ?_
    cases hfr : x.fFrozen with
    | true =>
      rw [hfr, if_pos rfl] at e0
      simp only [hfr, e0, lit_bs, bs_app, List.length_append, List.size_toArray, List.length_cons, List.length_nil, go_sem, brS_dec, brS_beq, brS_bne, brK_dec, brK_beq, brK_bne, Nat.reduceLT, Nat.reduceLeDiff, Nat.reduceAdd, Nat.reduceMul, Nat.reduceSub, Nat.reduceEqDiff, Nat.reduceBEq, Nat.reduceDiv, reduceCtorEq, Int.reduceToNat]
      omega
    | false =>
      rw [hfr, if_neg (by decide), List.append_nil] at e0
      simp only [hfr, e0, lit_bs, bs_app, go_sem, brS_dec, brS_beq, brS_bne, brK_dec, brK_beq, brK_bne, Nat.reduceLT, Nat.reduceLeDiff, Nat.reduceAdd, Nat.reduceMul, Nat.reduceSub, Nat.reduceEqDiff, Nat.reduceBEq, Nat.reduceDiv, reduceCtorEq, Int.reduceToNat]
  · rw [nameAt_kind hz]
    refine ⟨rfl, ?_⟩
    refine call_by (formatInt hT _ fE) rfl ?_
    simp only [rowsI2, go_sem, brS_dec, brS_beq, brS_bne, brK_dec, brK_beq, brK_bne, Nat.reduceLT, Nat.reduceLeDiff, Nat.reduceAdd, Nat.reduceMul, Nat.reduceSub, Nat.reduceEqDiff, Nat.reduceBEq, Nat.reduceDiv, reduceCtorEq, Int.reduceToNat]
    refine call_own (joined hT [45] [x.fTime, x.fUntil] (by simp) (by simp [fT, fU]) (by decide)) rfl ⟨trivial, trivial⟩ ?_
    simp only [rowsI2, go_sem, brS_dec, brS_beq, brS_bne, brK_dec, brK_beq, brK_bne, Nat.reduceLT, Nat.reduceLeDiff, Nat.reduceAdd, Nat.reduceMul, Nat.reduceSub, Nat.reduceEqDiff, Nat.reduceBEq, Nat.reduceDiv, reduceCtorEq, Int.reduceToNat]
    refine call_by (formatInt hT _ fC) rfl ?_
    simp only [rowsI2, go_sem, brS_dec, brS_beq, brS_bne, brK_dec, brK_beq, brK_bne, Nat.reduceLT, Nat.reduceLeDiff, Nat.reduceAdd, Nat.reduceMul, Nat.reduceSub, Nat.reduceEqDiff, Nat.reduceBEq, Nat.reduceDiv, reduceCtorEq, Int.reduceToNat]
    refine call_by (implFormatKeys hT x.fKeys hk fKeys) rfl ?_
    simp only [rowsI2, rowsS5, go_sem, brS_dec, brS_beq, brS_bne, brK_dec, brK_beq, brK_bne, Nat.reduceLT, Nat.reduceLeDiff, Nat.reduceAdd, Nat.reduceMul, Nat.reduceSub, Nat.reduceEqDiff, Nat.reduceBEq, Nat.reduceDiv, reduceCtorEq, Int.reduceToNat]
    refine call_own (join _ [32] (by simp only [List.length_cons, List.length_nil]; omega) (by omega)) rfl ⟨trivial, trivial⟩ ?_
    cases hfr : x.fFrozen with
    | true =>
      rw [hfr, if_pos rfl] at e0
      simp only [hfr, e0, lit_bs, bs_app, List.length_append, List.size_toArray, List.length_cons, List.length_nil, go_sem, brS_dec, brS_beq, brS_bne, brK_dec, brK_beq, brK_bne, Nat.reduceLT, Nat.reduceLeDiff, Nat.reduceAdd, Nat.reduceMul, Nat.reduceSub, Nat.reduceEqDiff, Nat.reduceBEq, Nat.reduceDiv, reduceCtorEq, Int.reduceToNat]
      omega
    | false =>
      rw [hfr, if_neg (by decide), List.append_nil] at e0
      simp only [hfr, e0, lit_bs, bs_app, go_sem, brS_dec, brS_beq, brS_bne, brK_dec, brK_beq, brK_bne, Nat.reduceLT, Nat.reduceLeDiff, Nat.reduceAdd, Nat.reduceMul, Nat.reduceSub, Nat.reduceEqDiff, Nat.reduceBEq, Nat.reduceDiv, reduceCtorEq, Int.reduceToNat]
end Go.Proofs.Vt
