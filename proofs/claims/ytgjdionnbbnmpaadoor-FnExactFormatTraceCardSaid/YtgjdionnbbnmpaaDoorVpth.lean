/- A part of the proof of the card: lemmas that the text with the card leans on (see there for what is proved, and under which conditions). -/
import Derived.Test.YtgjdionnbbnmpaaDoorVent
namespace Go.Proofs.Vt
open Go Go.RowKit Go.Proofs.Vm Go.Proofs
set_option maxRecDepth 10000
set_option linter.unusedVariables false
set_option linter.unusedSimpArgs false
attribute [local go_sem] go_skip go_region go_draw go_seq go_if go_block go_loop go_exit go_ret seqK_normal seqK_exit seqK_ret blockK_normal blockK_exit blockK_ret endK_ret endK_normal runK_at keepK_at St.only onlyF inside_ptr inside_al inside_eo inside_dead inside_val inside_box inside_ep inside_tup inside_fn memN goRun_nil goRun_free goRun_if opK_at skK_at mvK_at goOp_call goOp_callFn goOp_pick goOp_builtin goOp_move goOp_assign goOp_alloc goOp_box goOp_build goOp_buildSlice goOp_load goOp_store goOp_nilCheck goOp_binOp goOp_unOp goOp_convert goOp_makeFunc goOp_makeSlice goOp_slice goOp_fieldAddr goOp_field goOp_indexAddr goOp_index goOp_extract quietB buildOk partsOk ownless plainK evOp evMoveOp evLoadMove evLoadFreeze C.frz frzR initFrom goMove evAssign evMove evNil evFunc capOf capsOf Cap.arg ptOf SV.step evFieldAddr evField evLoad evStore evIndexAddr evIndex evAlloc evBox evBuild evBuildSlice evMake evLen evAppend evExtract evBin evUn unV evConvert evBuiltin takeAll placesOf placeParts partRows newsOf rowsOwn LS.width LS.rows fieldOf zeroOk splice goneR skipTo yieldOf argOf argsOf SV.isRes St.copy get_nil get_step put_step St.puts set_nil set_step St.forget kill_nil kill_step killAt_nil killAt_step cond_true cond_false St.killSeg St.cell St.setCell SV.setCell SV.root SV.names SV.namesAt rowOwn C.own constOk Value.cells Value.oneCell' St.list lsOf St.flat binV intV strV boolV shiftV isShift resOf resAll St.take drawDsts dstsQ quietOp takeRes Option.map_some Option.map_none Option.bind_some Option.getD_some Option.getD_none Nat.zero_add Nat.add_zero if_true if_false ite_true ite_false dite_true List.length_map List.length_nil List.length_cons List.map_cons List.map_nil List.all_cons List.all_nil List.getElem?_cons_zero List.getElem?_cons_succ List.getElem?_nil List.getElem?_toArray List.set_cons_zero List.set_cons_succ List.take_succ_cons List.take_zero List.drop_succ_cons List.drop_zero List.drop_nil List.nil_append List.cons_append List.append_nil List.getD_cons_zero List.getD_cons_succ List.all_eq_true true_and and_true or_true true_or or_false false_or Bool.or_false Bool.false_or Bool.or_self Bool.or_true Bool.true_or Bool.and_true Bool.true_and Bool.and_self Bool.and_false Bool.false_and Bool.not_true Bool.not_false Bool.false_eq_true decide_eq_true_eq decide_eq_false_iff_not decide_true decide_false beq_self_eq_true true_implies false_implies forall_const implies_true not_true not_false_iff ne_eq Int.toNat_natCast Int.natCast_nonneg eq_self exists_const if_pos Nat.succ_ne_zero
attribute [local go_sem high] brS_true brS_false brS_not brK_true brK_false brK_not
attribute [local go_sem] ti3 ti4 ti5 ti9 ti22 ti24 ti27 ti31 ti33 ti36 ti41 ti45 ti49 ti51 ti54 ti56 ti60 ti61 ti63 ti65 ti68 ti69 ti71 ti73 ti97 ti118 ti120 ti122 ti124 ti125 ti127 ti129 ti131 ti161 ti163 Tryd.ntmps14 Tryd.results14 Tryd.ntmps16 Tryd.results16 Tryd.ntmps42 Tryd.results42 Tryd.ntmps44 Tryd.results44
attribute [local go_sem] rowsI_length rowsS_length rowsI_frz rowsS_frz rowsI_own rowsS_own Option.map_none Option.map_some bs_size bs_toList Int.lt_irrefl tys_tInt tys_tString tys_tSig tys_tSigned tys_tEntry tys_tSignedS tys_tFork TEntry_len TEntry_at0 TEntry_get0 TEntry_at1 TEntry_get1 TEntry_at2 TEntry_get2 TEntry_at3 TEntry_get3 TEntry_drop TEntry_full TEntry_frz TEntry_own TEntry_owns TEntry_noImm
variable {G : Glob} (hT : ∀ w, G w → Gp w)
set_option maxHeartbeats 2000000 in
theorem specFormatPath (p : List (List UInt8)) (hp : fitL (fun t => t.length ≤ maxLen) p) : Sat Tryd.prog G 42 [.val false [.l none 1 (rowsS p)]] (.val false [.v (.string (bs (pathText p)))]) := by
  refine sat_of_go (L := tiOf Tryd.prog) (fun T ti h => h) false [[0], [0, 7], [2], [0, 3], [0, 3, 4], [0, 3, 4, 14], [0, 3, 4], [0, 3, 4], [2]] mx Tryd.func42 (by decide) rfl (by show 1 ≤ Tryd.f42.ntmps; decide) ?_
  have hmx := maxLen_eq
  have hpl := hp.1
  simp only [go_sem, brS_dec, brS_beq, brS_bne, brK_dec, brK_beq, brK_bne, Nat.reduceLT, Nat.reduceLeDiff, Nat.reduceAdd, Nat.reduceMul, Nat.reduceSub, Nat.reduceEqDiff, Nat.reduceBEq, Nat.reduceDiv, reduceCtorEq, Int.reduceToNat]
  refine call_by (specIsPath p hp) rfl ?_
  cases hb : isPathB p with
  | false =>
    have e : pathText p = [] := by simp [pathText, hb]
    simp only [hb, e, go_sem, brS_dec, brS_beq, brS_bne, brK_dec, brK_beq, brK_bne, Nat.reduceLT, Nat.reduceLeDiff, Nat.reduceAdd, Nat.reduceMul, Nat.reduceSub, Nat.reduceEqDiff, Nat.reduceBEq, Nat.reduceDiv, reduceCtorEq, Int.reduceToNat]
    try rfl
  | true =>
    obtain ⟨h4, h1, h8⟩ := isPathB_len hb
    have e : pathText p = joinB [47] p := by simp [pathText, hb]
    have h0 : (0 : Int) < (p.length : Int) := by omega
    have hr0 := rowsS_at p (i := 0) (by omega)
    have e0 : joinB [47] (p.take 1) = p.getD 0 [] := by
      have := joinB_next [47] p (i := 0) (by omega)
      rw [if_pos rfl, List.nil_append] at this
      exact this
    simp only [hb, h0, hr0, Int.le_refl, go_sem, brS_dec, brS_beq, brS_bne, brK_dec, brK_beq, brK_bne, Nat.reduceLT, Nat.reduceLeDiff, Nat.reduceAdd, Nat.reduceMul, Nat.reduceSub, Nat.reduceEqDiff, Nat.reduceBEq, Nat.reduceDiv, reduceCtorEq, Int.reduceToNat]
    refine loop_n [0, 3, 4] (p.length - 1) (fun i => [(3, .val false [.v (.string (bs (joinB [47] (p.take (i + 1)))))]), (4, .val false [.v (.int .i64 ((i + 1 : Nat) : Int))])]) (fun _ => True) ?_ trivial ?_ ?_
    · simp only [Nat.zero_add, e0, go_sem, brS_dec, brS_beq, brS_bne, brK_dec, brK_beq, brK_bne, Nat.reduceLT, Nat.reduceLeDiff, Nat.reduceAdd, Nat.reduceMul, Nat.reduceSub, Nat.reduceEqDiff, Nat.reduceBEq, Nat.reduceDiv, reduceCtorEq, Int.reduceToNat]
      try rfl
    · intro i hi _ F hF
      have hlt : (((i + 1 : Nat) : Int) < (p.length : Int)) := by omega
      have hup := wrap_up (i := i + 1) (by omega)
      have hra := rowsS_at p (i := i + 1) (by omega)
      have hnx : joinB [47] (p.take (i + 1)) ++ [47] ++ p.getD (i + 1) [] = joinB [47] (p.take (i + 1 + 1)) := by
        have := joinB_next [47] p (i := i + 1) (by omega)
        rw [if_neg (by omega)] at this
        exact this.symm
      have hl1 := joinB_len_take [47] 8 p h8 (i + 1)
      have hl2 : p.length * (8 + [(47 : UInt8)].length) ≤ 4 * 9 := Nat.mul_le_mul h4 (by decide)
      have hl3 := h8 _ (getD_mem (l := p) (i := i + 1) (by omega) [])
      simp only [hlt, hra, hup, lit_bs, bs_app, hnx, List.length_append, go_sem, brS_dec, brS_beq, brS_bne, brK_dec, brK_beq, brK_bne, Nat.reduceLT, Nat.reduceLeDiff, Nat.reduceAdd, Nat.reduceMul, Nat.reduceSub, Nat.reduceEqDiff, Nat.reduceBEq, Nat.reduceDiv, reduceCtorEq, Int.reduceToNat]
      refine ⟨by omega, by omega, ?_⟩
      refine hF _ ?_ trivial
      simp only [go_sem, brS_dec, brS_beq, brS_bne, brK_dec, brK_beq, brK_bne, Nat.reduceLT, Nat.reduceLeDiff, Nat.reduceAdd, Nat.reduceMul, Nat.reduceSub, Nat.reduceEqDiff, Nat.reduceBEq, Nat.reduceDiv, reduceCtorEq, Int.reduceToNat]
    · intro _ F
      have hend : ¬ (((p.length - 1 + 1 : Nat) : Int) < (p.length : Int)) := by omega
      have ht : p.take (p.length - 1 + 1) = p := List.take_of_length_le (by omega)
      simp only [hend, ht, e, go_sem, brS_dec, brS_beq, brS_bne, brK_dec, brK_beq, brK_bne, Nat.reduceLT, Nat.reduceLeDiff, Nat.reduceAdd, Nat.reduceMul, Nat.reduceSub, Nat.reduceEqDiff, Nat.reduceBEq, Nat.reduceDiv, reduceCtorEq, Int.reduceToNat]
theorem implFormatPath (p : List (List UInt8)) (hp : fitL (fun t => t.length ≤ maxLen) p) : Sat Tryd.prog G 44 [.val false [.l none 1 (rowsS p)]] (.val false [.v (.string (bs (pathText p)))]) := by
  refine sat_of_go (L := tiOf Tryd.prog) (fun T ti h => h) false [[0], [0, 5], [2], [2]] mx Tryd.func44 (by decide) rfl (by show 1 ≤ Tryd.f44.ntmps; decide) ?_
  have hmx := maxLen_eq
  simp only [go_sem, brS_dec, brS_beq, brS_bne, brK_dec, brK_beq, brK_bne, Nat.reduceLT, Nat.reduceLeDiff, Nat.reduceAdd, Nat.reduceMul, Nat.reduceSub, Nat.reduceEqDiff, Nat.reduceBEq, Nat.reduceDiv, reduceCtorEq, Int.reduceToNat]
  refine call_by (implIsPath p hp) rfl ?_
  cases hb : isPathB p with
  | false =>
    have e : pathText p = [] := by simp [pathText, hb]
    simp only [hb, e, go_sem, brS_dec, brS_beq, brS_bne, brK_dec, brK_beq, brK_bne, Nat.reduceLT, Nat.reduceLeDiff, Nat.reduceAdd, Nat.reduceMul, Nat.reduceSub, Nat.reduceEqDiff, Nat.reduceBEq, Nat.reduceDiv, reduceCtorEq, Int.reduceToNat]
    try rfl
  | true =>
    obtain ⟨h4, h1, h8⟩ := isPathB_len hb
    have e : pathText p = joinB [47] p := by simp [pathText, hb]
    have hl := joinB_len [47] 8 p h8
    have hl2 : p.length * (8 + [(47 : UInt8)].length) ≤ 4 * 9 := Nat.mul_le_mul h4 (by decide)
    simp only [hb, e, lit_bs, go_sem, brS_dec, brS_beq, brS_bne, brK_dec, brK_beq, brK_bne, Nat.reduceLT, Nat.reduceLeDiff, Nat.reduceAdd, Nat.reduceMul, Nat.reduceSub, Nat.reduceEqDiff, Nat.reduceBEq, Nat.reduceDiv, reduceCtorEq, Int.reduceToNat]
    refine call_by (join p [47] (by omega) (by omega)) rfl ?_
    simp only [go_sem, brS_dec, brS_beq, brS_bne, brK_dec, brK_beq, brK_bne, Nat.reduceLT, Nat.reduceLeDiff, Nat.reduceAdd, Nat.reduceMul, Nat.reduceSub, Nat.reduceEqDiff, Nat.reduceBEq, Nat.reduceDiv, reduceCtorEq, Int.reduceToNat]
theorem wt_path {l : List (List UInt8)} : l.length ≤ wtL List.length l := wtL_len
set_option maxHeartbeats 2000000 in
theorem specFormatEntry (x : TEntry) (hx : x.wt ≤ 1048576) (hf : x.fit) : Sat Tryd.prog G 14 [.val true (TEntry.row none x)] (.val false [.v (.string (bs (entryText x)))]) := by
  refine sat_of_go (L := tiOf Tryd.prog) (fun T ti h => h) false [[1], [1, 4], [1, 4, 5], [2], [1, 14], [2], [2]] mx Tryd.func14 (by decide) rfl (by show 1 ≤ Tryd.f14.ntmps; decide) ?_
  have hl : x.fLabel.length ≤ 1048576 := by unfold TEntry.wt at hx; omega
  have hi := itoa_len hf.2.2.1
  have hp := pathText_len x.fPath
  by_cases h2 : x.fKind = 2
  · have k2 : (x.fKind == 2) = true := by simpa using h2
    have e : entryText x = x.fLabel ++ [61, 35] ++ Lib.itoa x.fValue := by simp [entryText, h2]
    simp only [k2, go_sem, brS_dec, brS_beq, brS_bne, brK_dec, brK_beq, brK_bne, Nat.reduceLT, Nat.reduceLeDiff, Nat.reduceAdd, Nat.reduceMul, Nat.reduceSub, Nat.reduceEqDiff, Nat.reduceBEq, Nat.reduceDiv, reduceCtorEq, Int.reduceToNat]
    refine ⟨rfl, ?_⟩
    simp only [lit_bs, bs_app, go_sem, brS_dec, brS_beq, brS_bne, brK_dec, brK_beq, brK_bne, Nat.reduceLT, Nat.reduceLeDiff, Nat.reduceAdd, Nat.reduceMul, Nat.reduceSub, Nat.reduceEqDiff, Nat.reduceBEq, Nat.reduceDiv, reduceCtorEq, Int.reduceToNat]
    refine ⟨by simp only [List.size_toArray, List.length_cons, List.length_nil]; omega, call_by (specFormatInt x.fValue hf.2.2.1) rfl ?_⟩
    simp only [e, lit_bs, bs_app, List.length_append, go_sem, brS_dec, brS_beq, brS_bne, brK_dec, brK_beq, brK_bne, Nat.reduceLT, Nat.reduceLeDiff, Nat.reduceAdd, Nat.reduceMul, Nat.reduceSub, Nat.reduceEqDiff, Nat.reduceBEq, Nat.reduceDiv, reduceCtorEq, Int.reduceToNat]
    omega
  · have k2 : (x.fKind == 2) = false := by simpa using h2
    by_cases h3 : x.fKind = 3
    · have k3 : (x.fKind == 3) = true := by simpa using h3
      have e : entryText x = x.fLabel ++ [61, 62] ++ Lib.itoa x.fValue ++ [58] ++ pathText x.fPath := by simp [entryText, h3]
      simp only [k2, k3, go_sem, brS_dec, brS_beq, brS_bne, brK_dec, brK_beq, brK_bne, Nat.reduceLT, Nat.reduceLeDiff, Nat.reduceAdd, Nat.reduceMul, Nat.reduceSub, Nat.reduceEqDiff, Nat.reduceBEq, Nat.reduceDiv, reduceCtorEq, Int.reduceToNat]
      refine ⟨rfl, ?_⟩
      simp only [lit_bs, bs_app, go_sem, brS_dec, brS_beq, brS_bne, brK_dec, brK_beq, brK_bne, Nat.reduceLT, Nat.reduceLeDiff, Nat.reduceAdd, Nat.reduceMul, Nat.reduceSub, Nat.reduceEqDiff, Nat.reduceBEq, Nat.reduceDiv, reduceCtorEq, Int.reduceToNat]
      refine ⟨by simp only [List.size_toArray, List.length_cons, List.length_nil]; omega, call_by (specFormatInt x.fValue hf.2.2.1) rfl ?_⟩
      simp only [lit_bs, bs_app, List.length_append, go_sem, brS_dec, brS_beq, brS_bne, brK_dec, brK_beq, brK_bne, Nat.reduceLT, Nat.reduceLeDiff, Nat.reduceAdd, Nat.reduceMul, Nat.reduceSub, Nat.reduceEqDiff, Nat.reduceBEq, Nat.reduceDiv, reduceCtorEq, Int.reduceToNat]
      refine ⟨by omega, by omega, call_by (specFormatPath x.fPath hf.2.2.2) rfl ?_⟩
      simp only [e, lit_bs, bs_app, List.length_append, go_sem, brS_dec, brS_beq, brS_bne, brK_dec, brK_beq, brK_bne, Nat.reduceLT, Nat.reduceLeDiff, Nat.reduceAdd, Nat.reduceMul, Nat.reduceSub, Nat.reduceEqDiff, Nat.reduceBEq, Nat.reduceDiv, reduceCtorEq, Int.reduceToNat]
      omega
    · have k3 : (x.fKind == 3) = false := by simpa using h3
      have e : entryText x = x.fLabel ++ [61] ++ Lib.itoa x.fValue := by simp [entryText, h2, h3]
      simp only [k2, k3, go_sem, brS_dec, brS_beq, brS_bne, brK_dec, brK_beq, brK_bne, Nat.reduceLT, Nat.reduceLeDiff, Nat.reduceAdd, Nat.reduceMul, Nat.reduceSub, Nat.reduceEqDiff, Nat.reduceBEq, Nat.reduceDiv, reduceCtorEq, Int.reduceToNat]
      refine ⟨rfl, ?_⟩
      simp only [lit_bs, bs_app, go_sem, brS_dec, brS_beq, brS_bne, brK_dec, brK_beq, brK_bne, Nat.reduceLT, Nat.reduceLeDiff, Nat.reduceAdd, Nat.reduceMul, Nat.reduceSub, Nat.reduceEqDiff, Nat.reduceBEq, Nat.reduceDiv, reduceCtorEq, Int.reduceToNat]
      refine ⟨by simp only [List.size_toArray, List.length_cons, List.length_nil]; omega, call_by (specFormatInt x.fValue hf.2.2.1) rfl ?_⟩
      simp only [e, lit_bs, bs_app, List.length_append, go_sem, brS_dec, brS_beq, brS_bne, brK_dec, brK_beq, brK_bne, Nat.reduceLT, Nat.reduceLeDiff, Nat.reduceAdd, Nat.reduceMul, Nat.reduceSub, Nat.reduceEqDiff, Nat.reduceBEq, Nat.reduceDiv, reduceCtorEq, Int.reduceToNat]
      omega
include hT in
set_option maxHeartbeats 2000000 in
theorem implFormatEntry (x : TEntry) (hx : x.wt ≤ 1048576) (hf : x.fit) : Sat Tryd.prog G 16 [.val true (TEntry.row none x)] (.val false [.v (.string (bs (entryText x)))]) := by
  refine sat_of_go (L := tiOf Tryd.prog) (fun T ti h => h) false [[1], [1, 3], [1, 3, 8], [1, 3, 8, 9], [1, 3], [1, 3, 13], [1, 3], [2]] mx Tryd.func16 (by decide) rfl (by show 1 ≤ Tryd.f16.ntmps; decide) ?_
  have hl : x.fLabel.length ≤ 1048576 := by unfold TEntry.wt at hx; omega
  have hi := itoa_len hf.2.2.1
  have hp := pathText_len x.fPath
  simp only [go_sem, brS_dec, brS_beq, brS_bne, brK_dec, brK_beq, brK_bne, Nat.reduceLT, Nat.reduceLeDiff, Nat.reduceAdd, Nat.reduceMul, Nat.reduceSub, Nat.reduceEqDiff, Nat.reduceBEq, Nat.reduceDiv, reduceCtorEq, Int.reduceToNat]
  refine call_by (formatInt hT x.fValue hf.2.2.1) rfl ?_
  by_cases h2 : x.fKind = 2
  · have k2 : (x.fKind == 2) = true := by simpa using h2
    have e : entryText x = x.fLabel ++ [61] ++ ([35] ++ Lib.itoa x.fValue) := by simp [entryText, h2]
    simp only [k2, e, lit_bs, bs_app, List.length_append, go_sem, brS_dec, brS_beq, brS_bne, brK_dec, brK_beq, brK_bne, Nat.reduceLT, Nat.reduceLeDiff, Nat.reduceAdd, Nat.reduceMul, Nat.reduceSub, Nat.reduceEqDiff, Nat.reduceBEq, Nat.reduceDiv, reduceCtorEq, Int.reduceToNat]
    omega
  · have k2 : (x.fKind == 2) = false := by simpa using h2
    by_cases h3 : x.fKind = 3
    · have k3 : (x.fKind == 3) = true := by simpa using h3
      have e : entryText x = x.fLabel ++ [61] ++ ([62] ++ Lib.itoa x.fValue ++ [58] ++ pathText x.fPath) := by simp [entryText, h3]
      simp only [k2, k3, lit_bs, bs_app, List.length_append, go_sem, brS_dec, brS_beq, brS_bne, brK_dec, brK_beq, brK_bne, Nat.reduceLT, Nat.reduceLeDiff, Nat.reduceAdd, Nat.reduceMul, Nat.reduceSub, Nat.reduceEqDiff, Nat.reduceBEq, Nat.reduceDiv, reduceCtorEq, Int.reduceToNat]
      refine ⟨by omega, by omega, call_by (implFormatPath x.fPath hf.2.2.2) rfl ?_⟩
      simp only [e, lit_bs, bs_app, List.length_append, go_sem, brS_dec, brS_beq, brS_bne, brK_dec, brK_beq, brK_bne, Nat.reduceLT, Nat.reduceLeDiff, Nat.reduceAdd, Nat.reduceMul, Nat.reduceSub, Nat.reduceEqDiff, Nat.reduceBEq, Nat.reduceDiv, reduceCtorEq, Int.reduceToNat]
      omega
    · have k3 : (x.fKind == 3) = false := by simpa using h3
      have e : entryText x = x.fLabel ++ [61] ++ Lib.itoa x.fValue := by simp [entryText, h2, h3]
      simp only [k2, k3, e, lit_bs, bs_app, List.length_append, go_sem, brS_dec, brS_beq, brS_bne, brK_dec, brK_beq, brK_bne, Nat.reduceLT, Nat.reduceLeDiff, Nat.reduceAdd, Nat.reduceMul, Nat.reduceSub, Nat.reduceEqDiff, Nat.reduceBEq, Nat.reduceDiv, reduceCtorEq, Int.reduceToNat]
      omega
end Go.Proofs.Vt
