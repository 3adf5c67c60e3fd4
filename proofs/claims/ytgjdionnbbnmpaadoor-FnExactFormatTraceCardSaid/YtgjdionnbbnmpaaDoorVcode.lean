/- A part of the proof of the card: lemmas that the text with the card leans on (see there for what is proved, and under which conditions). -/
import Derived.Test.YtgjdionnbbnmpaaDoorVnm
import Derived.Test.YtgjdionnbbnmpaaDoorVpth
namespace Go.Proofs.Vt
open Go Go.RowKit Go.Proofs.Vm Go.Proofs
set_option maxRecDepth 10000
set_option linter.unusedVariables false
set_option linter.unusedSimpArgs false
attribute [local go_sem] go_skip go_region go_draw go_seq go_if go_block go_loop go_exit go_ret seqK_normal seqK_exit seqK_ret blockK_normal blockK_exit blockK_ret endK_ret endK_normal runK_at keepK_at St.only onlyF inside_ptr inside_al inside_eo inside_dead inside_val inside_box inside_ep inside_tup inside_fn memN goRun_nil goRun_free goRun_if opK_at skK_at mvK_at goOp_call goOp_callFn goOp_pick goOp_builtin goOp_move goOp_assign goOp_alloc goOp_box goOp_build goOp_buildSlice goOp_load goOp_store goOp_nilCheck goOp_binOp goOp_unOp goOp_convert goOp_makeFunc goOp_makeSlice goOp_slice goOp_fieldAddr goOp_field goOp_indexAddr goOp_index goOp_extract quietB buildOk partsOk ownless plainK evOp evMoveOp evLoadMove evLoadFreeze C.frz frzR initFrom goMove evAssign evMove evNil evFunc capOf capsOf Cap.arg ptOf SV.step evFieldAddr evField evLoad evStore evIndexAddr evIndex evAlloc evBox evBuild evBuildSlice evMake evLen evAppend evExtract evBin evUn unV evConvert evBuiltin takeAll placesOf placeParts partRows newsOf rowsOwn LS.width LS.rows fieldOf zeroOk splice goneR skipTo yieldOf argOf argsOf SV.isRes St.copy get_nil get_step put_step St.puts set_nil set_step St.forget kill_nil kill_step killAt_nil killAt_step cond_true cond_false St.killSeg St.cell St.setCell SV.setCell SV.root SV.names SV.namesAt rowOwn C.own constOk Value.cells Value.oneCell' St.list lsOf St.flat binV intV strV boolV shiftV isShift resOf resAll St.take drawDsts dstsQ quietOp takeRes Option.map_some Option.map_none Option.bind_some Option.getD_some Option.getD_none Nat.zero_add Nat.add_zero if_true if_false ite_true ite_false dite_true List.length_map List.length_nil List.length_cons List.map_cons List.map_nil List.all_cons List.all_nil List.getElem?_cons_zero List.getElem?_cons_succ List.getElem?_nil List.getElem?_toArray List.set_cons_zero List.set_cons_succ List.take_succ_cons List.take_zero List.drop_succ_cons List.drop_zero List.drop_nil List.nil_append List.cons_append List.append_nil List.getD_cons_zero List.getD_cons_succ List.all_eq_true true_and and_true or_true true_or or_false false_or Bool.or_false Bool.false_or Bool.or_self Bool.or_true Bool.true_or Bool.and_true Bool.true_and Bool.and_self Bool.and_false Bool.false_and Bool.not_true Bool.not_false Bool.false_eq_true decide_eq_true_eq decide_eq_false_iff_not decide_true decide_false beq_self_eq_true true_implies false_implies forall_const implies_true not_true not_false_iff ne_eq Int.toNat_natCast Int.natCast_nonneg eq_self exists_const if_pos Nat.succ_ne_zero
attribute [local go_sem high] brS_true brS_false brS_not brK_true brK_false brK_not
attribute [local go_sem] ti3 ti4 ti5 ti9 ti22 ti24 ti27 ti31 ti33 ti36 ti41 ti45 ti49 ti51 ti54 ti56 ti60 ti61 ti63 ti65 ti68 ti69 ti71 ti73 ti97 ti118 ti120 ti122 ti124 ti125 ti127 ti129 ti131 ti161 ti163 Tryd.ntmps50 Tryd.results50 Tryd.ntmps51 Tryd.results51 Tryd.ntmps53 Tryd.results53 Tryd.ntmps54 Tryd.results54 Tryd.ntmps57 Tryd.results57 Tryd.ntmps60 Tryd.results60
attribute [local go_sem] rowsI_length rowsS_length rowsI_frz rowsS_frz rowsI_own rowsS_own Option.map_none Option.map_some bs_size bs_toList Int.lt_irrefl tys_tInt tys_tString tys_tSig tys_tSigned tys_tEntry tys_tSignedS tys_tFork TEntry_len TEntry_at0 TEntry_get0 TEntry_at1 TEntry_get1 TEntry_at2 TEntry_get2 TEntry_at3 TEntry_get3 TEntry_drop TEntry_full TEntry_frz TEntry_own TEntry_owns TEntry_noImm
variable {G : Glob} (hT : ∀ w, G w → Gp w)
def decNames : List (List UInt8) := [[115, 117, 114, 101], [97, 103, 114, 101, 101, 100], [97, 115, 107], [97, 98, 115, 101, 110, 116], [110, 111, 110, 101]]
theorem dec_len (k : Int) : (nameAt k decNames).length ≤ 6 := by
  unfold nameAt
  split
  · rename_i h
    simp only [inR, Bool.and_eq_true, decide_eq_true_eq] at h
    have h1 : (decNames.length : Int) = 5 := rfl
    rw [h1] at h
    have : k = 1 ∨ k = 2 ∨ k = 3 ∨ k = 4 ∨ k = 5 := by omega
    rcases this with rfl | rfl | rfl | rfl | rfl <;> decide
  · decide
theorem specDecisionName (k : Int) : Sat Tryd.prog G 50 [.val false [.v (.int .i64 k)]] (.val false [.v (.string (bs (nameAt k decNames)))]) := by
  refine sat_of_go (L := tiOf Tryd.prog) (fun T ti h => h) false [[0], [0, 5], [2], [2]] mx Tryd.func50 (by decide) rfl (by show 1 ≤ Tryd.f50.ntmps; decide) ?_
  have hns : [[C.v (.string { data := #[] })], [C.v (.string { data := #[115, 117, 114, 101] })], [C.v (.string { data := #[97, 103, 114, 101, 101, 100] })], [C.v (.string { data := #[97, 115, 107] })], [C.v (.string { data := #[97, 98, 115, 101, 110, 116] })], [C.v (.string { data := #[110, 111, 110, 101] })]] = rowsS ([] :: decNames) := rfl
  have hn : ([] :: decNames).length = 6 := rfl
  simp only [go_sem, brS_dec, brS_beq, brS_bne, brK_dec, brK_beq, brK_bne, Nat.reduceLT, Nat.reduceLeDiff, Nat.reduceAdd, Nat.reduceMul, Nat.reduceSub, Nat.reduceEqDiff, Nat.reduceBEq, Nat.reduceDiv, reduceCtorEq, Int.reduceToNat]
  refine call_by (specIn _ _ _) rfl ?_
  cases hr : inR k 1 5 with
  | false =>
    have e1 : nameAt k decNames = [] := by
      unfold nameAt
      have h2 : inR k 1 (decNames.length : Int) = false := hr
      rw [h2]; rfl
    simp only [hr, e1, go_sem, brS_dec, brS_beq, brS_bne, brK_dec, brK_beq, brK_bne, Nat.reduceLT, Nat.reduceLeDiff, Nat.reduceAdd, Nat.reduceMul, Nat.reduceSub, Nat.reduceEqDiff, Nat.reduceBEq, Nat.reduceDiv, reduceCtorEq, Int.reduceToNat]
    try rfl
  | true =>
    have hb : 1 ≤ k ∧ k ≤ 5 := by simpa [inR] using hr
    have h0 : (0 : Int) ≤ k := by omega
    have h1 : k < ((6 : Nat) : Int) := by omega
    have hra := rowsS_at ([] :: decNames) (i := k.toNat) (by rw [hn]; omega)
    have e1 : ([] :: decNames).getD k.toNat [] = nameAt k decNames := by
      have : k = 1 ∨ k = 2 ∨ k = 3 ∨ k = 4 ∨ k = 5 := by omega
      rcases this with h | h | h | h | h <;> rw [h] <;> rfl
    rw [e1] at hra
    simp only [hr, hns, h0, h1, hra, hn, go_sem, brS_dec, brS_beq, brS_bne, brK_dec, brK_beq, brK_bne, Nat.reduceLT, Nat.reduceLeDiff, Nat.reduceAdd, Nat.reduceMul, Nat.reduceSub, Nat.reduceEqDiff, Nat.reduceBEq, Nat.reduceDiv, reduceCtorEq, Int.reduceToNat]
theorem implDecisionName (k : Int) (hk : inI k) : Sat Tryd.prog G 53 [.val false [.v (.int .i64 k)]] (.val false [.v (.string (bs (nameAt k decNames)))]) := by
  refine sat_of_go (L := tiOf Tryd.prog) (fun T ti h => h) false [[0], [2]] mx Tryd.func53 (by decide) rfl (by show 1 ≤ Tryd.f53.ntmps; decide) ?_
  have hns : [[C.v (.string { data := #[115, 117, 114, 101] })], [C.v (.string { data := #[97, 103, 114, 101, 101, 100] })], [C.v (.string { data := #[97, 115, 107] })], [C.v (.string { data := #[97, 98, 115, 101, 110, 116] })], [C.v (.string { data := #[110, 111, 110, 101] })]] = rowsS decNames := rfl
  have hn : decNames.length = 5 := rfl
  simp only [hns, hn, go_sem, brS_dec, brS_beq, brS_bne, brK_dec, brK_beq, brK_bne, Nat.reduceLT, Nat.reduceLeDiff, Nat.reduceAdd, Nat.reduceMul, Nat.reduceSub, Nat.reduceEqDiff, Nat.reduceBEq, Nat.reduceDiv, reduceCtorEq, Int.reduceToNat]
  refine call_own (nameOf k hk decNames (by decide)) rfl ⟨trivial, trivial⟩ ?_
  simp only [go_sem, brS_dec, brS_beq, brS_bne, brK_dec, brK_beq, brK_bne, Nat.reduceLT, Nat.reduceLeDiff, Nat.reduceAdd, Nat.reduceMul, Nat.reduceSub, Nat.reduceEqDiff, Nat.reduceBEq, Nat.reduceDiv, reduceCtorEq, Int.reduceToNat]
def codeNames : List (List UInt8) := [[111, 107], [97, 98, 115, 101, 110, 116], [110, 111, 110, 101], [107, 105, 110, 100], [109, 111, 118, 101, 115], [112, 97, 116, 104]]
theorem code_len (k : Int) : (nameAt k codeNames).length ≤ 6 := by
  unfold nameAt
  split
  · rename_i h
    simp only [inR, Bool.and_eq_true, decide_eq_true_eq] at h
    have h1 : (codeNames.length : Int) = 6 := rfl
    rw [h1] at h
    have : k = 1 ∨ k = 2 ∨ k = 3 ∨ k = 4 ∨ k = 5 ∨ k = 6 := by omega
    rcases this with rfl | rfl | rfl | rfl | rfl | rfl <;> decide
  · decide
theorem specCodeText (k : Int) : Sat Tryd.prog G 57 [.val false [.v (.int .i64 k)]] (.val false [.v (.string (bs (nameAt k codeNames)))]) := by
  refine sat_of_go (L := tiOf Tryd.prog) (fun T ti h => h) false [[0], [0, 5], [2], [2]] mx Tryd.func57 (by decide) rfl (by show 1 ≤ Tryd.f57.ntmps; decide) ?_
  have hns : [[C.v (.string { data := #[] })], [C.v (.string { data := #[111, 107] })], [C.v (.string { data := #[97, 98, 115, 101, 110, 116] })], [C.v (.string { data := #[110, 111, 110, 101] })], [C.v (.string { data := #[107, 105, 110, 100] })], [C.v (.string { data := #[109, 111, 118, 101, 115] })], [C.v (.string { data := #[112, 97, 116, 104] })]] = rowsS ([] :: codeNames) := rfl
  have hn : ([] :: codeNames).length = 7 := rfl
  simp only [go_sem, brS_dec, brS_beq, brS_bne, brK_dec, brK_beq, brK_bne, Nat.reduceLT, Nat.reduceLeDiff, Nat.reduceAdd, Nat.reduceMul, Nat.reduceSub, Nat.reduceEqDiff, Nat.reduceBEq, Nat.reduceDiv, reduceCtorEq, Int.reduceToNat]
  refine call_by (specIn _ _ _) rfl ?_
  cases hr : inR k 1 6 with
  | false =>
    have e1 : nameAt k codeNames = [] := by
      unfold nameAt
      have h2 : inR k 1 (codeNames.length : Int) = false := hr
      rw [h2]; rfl
    simp only [hr, e1, go_sem, brS_dec, brS_beq, brS_bne, brK_dec, brK_beq, brK_bne, Nat.reduceLT, Nat.reduceLeDiff, Nat.reduceAdd, Nat.reduceMul, Nat.reduceSub, Nat.reduceEqDiff, Nat.reduceBEq, Nat.reduceDiv, reduceCtorEq, Int.reduceToNat]
    try rfl
  | true =>
    have hb : 1 ≤ k ∧ k ≤ 6 := by simpa [inR] using hr
    have h0 : (0 : Int) ≤ k := by omega
    have h1 : k < ((7 : Nat) : Int) := by omega
    have hra := rowsS_at ([] :: codeNames) (i := k.toNat) (by rw [hn]; omega)
    have e1 : ([] :: codeNames).getD k.toNat [] = nameAt k codeNames := by
      have : k = 1 ∨ k = 2 ∨ k = 3 ∨ k = 4 ∨ k = 5 ∨ k = 6 := by omega
      rcases this with h | h | h | h | h | h <;> rw [h] <;> rfl
    rw [e1] at hra
    simp only [hr, hns, h0, h1, hra, hn, go_sem, brS_dec, brS_beq, brS_bne, brK_dec, brK_beq, brK_bne, Nat.reduceLT, Nat.reduceLeDiff, Nat.reduceAdd, Nat.reduceMul, Nat.reduceSub, Nat.reduceEqDiff, Nat.reduceBEq, Nat.reduceDiv, reduceCtorEq, Int.reduceToNat]
theorem implCodeText (k : Int) (hk : inI k) : Sat Tryd.prog G 60 [.val false [.v (.int .i64 k)]] (.val false [.v (.string (bs (nameAt k codeNames)))]) := by
  refine sat_of_go (L := tiOf Tryd.prog) (fun T ti h => h) false [[0], [2]] mx Tryd.func60 (by decide) rfl (by show 1 ≤ Tryd.f60.ntmps; decide) ?_
  have hns : [[C.v (.string { data := #[111, 107] })], [C.v (.string { data := #[97, 98, 115, 101, 110, 116] })], [C.v (.string { data := #[110, 111, 110, 101] })], [C.v (.string { data := #[107, 105, 110, 100] })], [C.v (.string { data := #[109, 111, 118, 101, 115] })], [C.v (.string { data := #[112, 97, 116, 104] })]] = rowsS codeNames := rfl
  have hn : codeNames.length = 6 := rfl
  simp only [hns, hn, go_sem, brS_dec, brS_beq, brS_bne, brK_dec, brK_beq, brK_bne, Nat.reduceLT, Nat.reduceLeDiff, Nat.reduceAdd, Nat.reduceMul, Nat.reduceSub, Nat.reduceEqDiff, Nat.reduceBEq, Nat.reduceDiv, reduceCtorEq, Int.reduceToNat]
  refine call_own (nameOf k hk codeNames (by decide)) rfl ⟨trivial, trivial⟩ ?_
  simp only [go_sem, brS_dec, brS_beq, brS_bne, brK_dec, brK_beq, brK_bne, Nat.reduceLT, Nat.reduceLeDiff, Nat.reduceAdd, Nat.reduceMul, Nat.reduceSub, Nat.reduceEqDiff, Nat.reduceBEq, Nat.reduceDiv, reduceCtorEq, Int.reduceToNat]
def dashText (e : TEntry) : List UInt8 := if e.fKind = 0 then [45] else entryText e
theorem dash_len {e : TEntry} (h : e.fit) : (dashText e).length ≤ e.fLabel.length + 100 := by
  have := entryText_len h.2.2.1
  unfold dashText
  split
  · simp only [List.length_cons, List.length_nil]; omega
  · exact this
theorem specDash (x : TEntry) (hx : x.wt ≤ 1048576) (hf : x.fit) : Sat Tryd.prog G 51 [.val true (TEntry.row none x)] (.val false [.v (.string (bs (dashText x)))]) := by
  refine sat_of_go (L := tiOf Tryd.prog) (fun T ti h => h) false [[1], [1, 5], [2], [2]] mx Tryd.func51 (by decide) rfl (by show 1 ≤ Tryd.f51.ntmps; decide) ?_
  by_cases h : x.fKind = 0
  · have k0 : (x.fKind == 0) = true := by simpa using h
    have e : dashText x = [45] := by simp [dashText, h]
    simp only [k0, e, go_sem, brS_dec, brS_beq, brS_bne, brK_dec, brK_beq, brK_bne, Nat.reduceLT, Nat.reduceLeDiff, Nat.reduceAdd, Nat.reduceMul, Nat.reduceSub, Nat.reduceEqDiff, Nat.reduceBEq, Nat.reduceDiv, reduceCtorEq, Int.reduceToNat]
    try rfl
  · have k0 : (x.fKind == 0) = false := by simpa using h
    have e : dashText x = entryText x := by simp [dashText, h]
    simp only [k0, e, go_sem, brS_dec, brS_beq, brS_bne, brK_dec, brK_beq, brK_bne, Nat.reduceLT, Nat.reduceLeDiff, Nat.reduceAdd, Nat.reduceMul, Nat.reduceSub, Nat.reduceEqDiff, Nat.reduceBEq, Nat.reduceDiv, reduceCtorEq, Int.reduceToNat]
    refine call_by (specFormatEntry x hx hf) rfl ?_
    simp only [go_sem, brS_dec, brS_beq, brS_bne, brK_dec, brK_beq, brK_bne, Nat.reduceLT, Nat.reduceLeDiff, Nat.reduceAdd, Nat.reduceMul, Nat.reduceSub, Nat.reduceEqDiff, Nat.reduceBEq, Nat.reduceDiv, reduceCtorEq, Int.reduceToNat]
include hT in
theorem implDash (x : TEntry) (hx : x.wt ≤ 1048576) (hf : x.fit) : Sat Tryd.prog G 54 [.val true (TEntry.row none x)] (.val false [.v (.string (bs (dashText x)))]) := by
  refine sat_of_go (L := tiOf Tryd.prog) (fun T ti h => h) false [[1], [1, 5], [2], [2]] mx Tryd.func54 (by decide) rfl (by show 1 ≤ Tryd.f54.ntmps; decide) ?_
  by_cases h : x.fKind = 0
  · have k0 : (x.fKind == 0) = true := by simpa using h
    have e : dashText x = [45] := by simp [dashText, h]
    simp only [k0, e, go_sem, brS_dec, brS_beq, brS_bne, brK_dec, brK_beq, brK_bne, Nat.reduceLT, Nat.reduceLeDiff, Nat.reduceAdd, Nat.reduceMul, Nat.reduceSub, Nat.reduceEqDiff, Nat.reduceBEq, Nat.reduceDiv, reduceCtorEq, Int.reduceToNat]
    try rfl
  · have k0 : (x.fKind == 0) = false := by simpa using h
    have e : dashText x = entryText x := by simp [dashText, h]
    simp only [k0, e, go_sem, brS_dec, brS_beq, brS_bne, brK_dec, brK_beq, brK_bne, Nat.reduceLT, Nat.reduceLeDiff, Nat.reduceAdd, Nat.reduceMul, Nat.reduceSub, Nat.reduceEqDiff, Nat.reduceBEq, Nat.reduceDiv, reduceCtorEq, Int.reduceToNat]
    refine call_by (implFormatEntry hT x hx hf) rfl ?_
    simp only [go_sem, brS_dec, brS_beq, brS_bne, brK_dec, brK_beq, brK_bne, Nat.reduceLT, Nat.reduceLeDiff, Nat.reduceAdd, Nat.reduceMul, Nat.reduceSub, Nat.reduceEqDiff, Nat.reduceBEq, Nat.reduceDiv, reduceCtorEq, Int.reduceToNat]
end Go.Proofs.Vt
