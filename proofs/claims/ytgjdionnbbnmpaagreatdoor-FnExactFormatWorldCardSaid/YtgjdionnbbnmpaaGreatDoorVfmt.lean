/- A part of the proof of the card: lemmas that the text with the card leans on (see there for what is proved, and under which conditions). -/
import Derived.Test.YtgjdionnbbnmpaaGreatDoorVlib
import Derived.Test.YtgjdionnbbnmpaaGreatDoorVmTxt
namespace Go.Proofs.Vt
open Go Go.RowKit Go.Proofs.Vm Go.Proofs
set_option maxRecDepth 10000
set_option linter.unusedVariables false
set_option linter.unusedSimpArgs false
attribute [local go_sem] go_skip go_region go_draw go_seq go_if go_block go_loop go_exit go_ret seqK_normal seqK_exit seqK_ret blockK_normal blockK_exit blockK_ret endK_ret endK_normal runK_at keepK_at St.only onlyF inside_ptr inside_al inside_eo inside_dead inside_val inside_box inside_ep inside_tup inside_fn memN goRun_nil goRun_free goRun_if opK_at skK_at mvK_at goOp_call goOp_callFn goOp_pick goOp_builtin goOp_move goOp_assign goOp_alloc goOp_box goOp_build goOp_buildSlice goOp_load goOp_store goOp_nilCheck goOp_binOp goOp_unOp goOp_convert goOp_makeFunc goOp_makeSlice goOp_slice goOp_fieldAddr goOp_field goOp_indexAddr goOp_index goOp_extract quietB buildOk partsOk ownless plainK evOp evMoveOp evLoadMove evLoadFreeze C.frz frzR initFrom goMove evAssign evMove evNil evFunc capOf capsOf Cap.arg ptOf SV.step evFieldAddr evField evLoad evStore evIndexAddr evIndex evAlloc evBox evBuild evBuildSlice evMake evLen evAppend evExtract evBin evUn unV evConvert evBuiltin takeAll placesOf placeParts partRows newsOf rowsOwn LS.width LS.rows fieldOf zeroOk splice goneR skipTo yieldOf argOf argsOf SV.isRes St.copy get_nil get_step put_step St.puts set_nil set_step St.forget kill_nil kill_step killAt_nil killAt_step cond_true cond_false St.killSeg St.cell St.setCell SV.setCell SV.root SV.names SV.namesAt rowOwn C.own constOk Value.cells Value.oneCell' St.list lsOf St.flat binV intV strV boolV shiftV isShift resOf resAll St.take drawDsts dstsQ quietOp takeRes Option.map_some Option.map_none Option.bind_some Option.getD_some Option.getD_none Nat.zero_add Nat.add_zero if_true if_false ite_true ite_false dite_true List.length_map List.length_nil List.length_cons List.map_cons List.map_nil List.all_cons List.all_nil List.getElem?_cons_zero List.getElem?_cons_succ List.getElem?_nil List.getElem?_toArray List.set_cons_zero List.set_cons_succ List.take_succ_cons List.take_zero List.drop_succ_cons List.drop_zero List.drop_nil List.nil_append List.cons_append List.append_nil List.getD_cons_zero List.getD_cons_succ List.all_eq_true true_and and_true or_true true_or or_false false_or Bool.or_false Bool.false_or Bool.or_self Bool.or_true Bool.true_or Bool.and_true Bool.true_and Bool.and_self Bool.and_false Bool.false_and Bool.not_true Bool.not_false Bool.false_eq_true decide_eq_true_eq decide_eq_false_iff_not decide_true decide_false beq_self_eq_true true_implies false_implies forall_const implies_true not_true not_false_iff ne_eq Int.toNat_natCast Int.natCast_nonneg eq_self exists_const if_pos Nat.succ_ne_zero
attribute [local go_sem high] brS_true brS_false brS_not brK_true brK_false brK_not
attribute [local go_sem] ti3 ti4 ti5 ti9 ti22 ti23 ti24 ti25 ti26 ti27 ti29 ti30 ti32 ti34 ti37 ti38 ti39 ti40 ti41 ti42 ti44 ti45 ti47 ti49 ti53 ti54 ti56 ti59 ti60 ti62 ti72 ti90 ti92 ti98 ti100 ti108 ti111 ti114 ti118 ti119 ti122 ti125 ti138 ti140 ti141 ti143 ti145 ti148 ti150 ti163 ti166 ti168 ti170 ti172 ti175 ti177 ti179 ti181 ti183 ti228 ti230 ti282 Tryz.ntmps21 Tryz.results21 Tryz.ntmps28 Tryz.results28 Tryz.ntmps29 Tryz.results29 Tryz.ntmps76 Tryz.results76 Tryz.ntmps83 Tryz.results83 Tryz.ntmps107 Tryz.results107 Tryz.ntmps116 Tryz.results116
attribute [local go_sem] rowsI_length rowsS_length rowsI_frz rowsS_frz rowsI_own rowsS_own Option.map_none Option.map_some bs_size bs_toList Int.lt_irrefl tys_tInt tys_tString tys_tSig tys_tSigned tys_tEntry tys_tSignedS tys_tFork tys_tZone tys_tStored tys_tActor tys_tSaid tys_tServer TKeys_len TKeys_at0 TKeys_get0 TKeys_at1 TKeys_get1 TKeys_drop TKeys_full TKeys_frz TKeys_own TKeys_owns TKeys_noImm
variable {G : Glob} (hT : ∀ w, G w → Gp w)
theorem noKeys (k : TKeys) : Sat Tryz.prog G 116 [.val true (TKeys.row none k)] (.val false [.v (.bool (keysNone k))]) := by
  refine sat_of_go (L := tiOf Tryz.prog) (fun T ti h => h) false [[1], [2]] mx Tryz.func116 (by decide) rfl (by show 1 ≤ Tryz.f116.ntmps; decide) ?_
  cases hn : (k.fNeed == 0) <;> simp only [hn, keysNone, go_sem, brS_dec, brS_beq, brS_bne, brK_dec, brK_beq, brK_bne, Nat.reduceLT, Nat.reduceLeDiff, Nat.reduceAdd, Nat.reduceMul, Nat.reduceSub, Nat.reduceEqDiff, Nat.reduceBEq, Nat.reduceDiv, reduceCtorEq, Int.reduceToNat]
theorem specNoKeys (k : TKeys) : Sat Tryz.prog G 107 [.val true (TKeys.row none k)] (.val false [.v (.bool (keysNone k))]) := by
  refine sat_of_go (L := tiOf Tryz.prog) (fun T ti h => h) false [[1], [2]] mx Tryz.func107 (by decide) rfl (by show 1 ≤ Tryz.f107.ntmps; decide) ?_
  cases hn : (k.fNeed == 0) <;> simp only [hn, keysNone, go_sem, brS_dec, brS_beq, brS_bne, brK_dec, brK_beq, brK_bne, Nat.reduceLT, Nat.reduceLeDiff, Nat.reduceAdd, Nat.reduceMul, Nat.reduceSub, Nat.reduceEqDiff, Nat.reduceBEq, Nat.reduceDiv, reduceCtorEq, Int.reduceToNat]
include hT in
theorem formatInt (n : Int) (h : inI n) : Sat Tryz.prog G 28 [.val false [.v (.int .i64 n)]] (.val false [.v (.string (bs (Lib.itoa n)))]) := by
  refine sat_of_go (L := tiOf Tryz.prog) (fun T ti h => h) false [[0], [2]] mx Tryz.func28 (by decide) rfl (by show 1 ≤ Tryz.f28.ntmps; decide) ?_
  simp only [go_sem, brS_dec, brS_beq, brS_bne, brK_dec, brK_beq, brK_bne, Nat.reduceLT, Nat.reduceLeDiff, Nat.reduceAdd, Nat.reduceMul, Nat.reduceSub, Nat.reduceEqDiff, Nat.reduceBEq, Nat.reduceDiv, reduceCtorEq, Int.reduceToNat]
  refine call_by (itoa hT n h) rfl ?_
  simp only [go_sem, brS_dec, brS_beq, brS_bne, brK_dec, brK_beq, brK_bne, Nat.reduceLT, Nat.reduceLeDiff, Nat.reduceAdd, Nat.reduceMul, Nat.reduceSub, Nat.reduceEqDiff, Nat.reduceBEq, Nat.reduceDiv, reduceCtorEq, Int.reduceToNat]
theorem specFormatInt (n : Int) (h : inI n) : Sat Tryz.prog G 21 [.val false [.v (.int .i64 n)]] (.val false [.v (.string (bs (Lib.itoa n)))]) := by
  refine sat_of_go (L := tiOf Tryz.prog) (fun T ti h => h) false [[0], [0, 7], [2], [0, 3], [0, 3, 4], [0, 3, 4, 10], [0, 3, 4], [0, 3, 4, 5], [0, 3, 4, 5, 16], [0, 3, 4, 5], [0, 3, 4], [3, 27], [2], [2]] mx Tryz.func21 (by decide) rfl (by show 1 ≤ Tryz.f21.ntmps; decide) ?_
  have h1 := h.1
  have h2 := h.2
  by_cases hn : n = 0
  · subst hn
    have he : (0 == (0 : Int)) = true := rfl
    simp only [he, itoa_zero, go_sem, brS_dec, brS_beq, brS_bne, brK_dec, brK_beq, brK_bne, Nat.reduceLT, Nat.reduceLeDiff, Nat.reduceAdd, Nat.reduceMul, Nat.reduceSub, Nat.reduceEqDiff, Nat.reduceBEq, Nat.reduceDiv, reduceCtorEq, Int.reduceToNat]
  · have he : (n == 0) = false := by simpa using hn
    simp only [he, go_sem, brS_dec, brS_beq, brS_bne, brK_dec, brK_beq, brK_bne, Nat.reduceLT, Nat.reduceLeDiff, Nat.reduceAdd, Nat.reduceMul, Nat.reduceSub, Nat.reduceEqDiff, Nat.reduceBEq, Nat.reduceDiv, reduceCtorEq, Int.reduceToNat]
    refine loop_m [0, 3, 4] (fun a : Int × List UInt8 => [(3, .val false [.v (.string (bs a.2))]), (4, .val false [.v (.int .i64 a.1)])])
      (fun a => a.1.natAbs) (fun a => a.2.length ≤ 19 ∧ a.1.natAbs * 10 ^ a.2.length ≤ n.natAbs ∧ (if a.1 = 0 then a.2 else Lib.decDigits a.1.natAbs ++ a.2) = Lib.decDigits n.natAbs) (n, []) ?_ ?_ ?_
    · simp only [go_sem, brS_dec, brS_beq, brS_bne, brK_dec, brK_beq, brK_bne, Nat.reduceLT, Nat.reduceLeDiff, Nat.reduceAdd, Nat.reduceMul, Nat.reduceSub, Nat.reduceEqDiff, Nat.reduceBEq, Nat.reduceDiv, reduceCtorEq, Int.reduceToNat]
      rfl
    · refine ⟨by simp, by simp, ?_⟩
      simp only [if_neg hn, List.append_nil]
    · intro a hq F hF
      obtain ⟨x, l⟩ := a
      have hq0 := hq.1
      have hq1 := hq.2.1
      have hq2 := hq.2.2
      clear hq
      simp only at hq0 hq1 hq2 hF
      have hten : ¬ (10 : Int) = 0 := by decide
      simp only [hten, go_sem, brS_dec, brS_beq, brS_bne, brK_dec, brK_beq, brK_bne, Nat.reduceLT, Nat.reduceLeDiff, Nat.reduceAdd, Nat.reduceMul, Nat.reduceSub, Nat.reduceEqDiff, Nat.reduceBEq, Nat.reduceDiv, reduceCtorEq, Int.reduceToNat]
      have hdv := div_natAbs x
      have hab : n.natAbs ≤ 9223372036854775808 := by omega
      have hxb : x.natAbs ≤ n.natAbs := Nat.le_trans (Nat.le_mul_of_pos_right _ (Nat.pow_pos (by decide))) hq1
      have hdiv : IntKind.i64.wrap (x.tdiv 10) = x.tdiv 10 := wrap_id (by omega) (by omega)
      have ham := abs_mod x
      have hm10 : x.natAbs % 10 < 10 := Nat.mod_lt _ (by decide)
      have fin : ∀ v : Int, v = ((48 + x.natAbs % 10 : Nat) : Int) → strOfNums (bytesR [[C.v (Value.int IntKind.u8 (IntKind.u8.wrap (IntKind.i64.wrap v)))]]) ++ bs l = bs (dig x :: l) := by
        rintro v rfl
        rw [wrap_id (by omega) (by omega), wrap8_id (by omega) (by omega)]
        exact cat_dig x l
      have hlen : x ≠ 0 → l.length ≤ 18 := by
        intro hx
        have h3 : 10 ^ l.length ≤ n.natAbs := Nat.le_trans (Nat.le_mul_of_pos_left _ (by omega)) hq1
        by_cases hh : l.length ≤ 18
        · exact hh
        · have h8 : 10 ^ 19 ≤ 10 ^ l.length := Nat.pow_le_pow_right (by decide) (by omega)
          have h9 : (10 : Nat) ^ 19 = 10000000000000000000 := by decide
          omega
      have hsz : ∀ v : Int, (strOfNums (bytesR [[C.v (Value.int IntKind.u8 v)]])).size + l.length ≤ 9223372036854775807 := by
        intro v
        have h6 : (strOfNums (bytesR [[C.v (Value.int IntKind.u8 v)]])).size = 1 := by rw [strOfNums_size]; rfl
        rw [h6]; omega
      have hgo : x ≠ 0 → (x.tdiv 10).natAbs < x.natAbs ∧ ((dig x :: l).length ≤ 19 ∧ (x.tdiv 10).natAbs * 10 ^ (dig x :: l).length ≤ n.natAbs ∧ (if x.tdiv 10 = 0 then dig x :: l else Lib.decDigits (x.tdiv 10).natAbs ++ dig x :: l) = Lib.decDigits n.natAbs) := by
        intro hx
        have hl18 := hlen hx
        refine ⟨by omega, by rw [List.length_cons]; omega, ?_, ?_⟩
        · rw [hdv, List.length_cons, Nat.pow_succ, ← Nat.mul_assoc, Nat.mul_right_comm]
          refine Nat.le_trans (Nat.mul_le_mul_right _ ?_) hq1
          omega
        · rw [dec_step hx, ← hq2, if_neg hx]
      refine ⟨fun hx => ⟨fun hneg => ⟨?_, hsz _, ?_⟩, fun hneg => ⟨?_, hsz _, ?_⟩⟩, fun hx => ?_⟩
      · intro r hr
        rw [List.mem_singleton.1 hr]
        exact ⟨_, rfl⟩
      · have hw : IntKind.i64.wrap (0 - x.tmod 10) = ((x.natAbs % 10 : Nat) : Int) := by
          rw [if_pos hneg] at ham
          rw [wrap_id (by omega) (by omega)]; omega
        have hcat := fin (48 + IntKind.i64.wrap (0 - x.tmod 10)) (by rw [hw]; rfl)
        obtain ⟨g1, g2⟩ := hgo (by simpa using hx)
        refine hF (x.tdiv 10, dig x :: l) _ g1 g2 ?_
        simp only [hcat, hdiv, go_sem, brS_dec, brS_beq, brS_bne, brK_dec, brK_beq, brK_bne, Nat.reduceLT, Nat.reduceLeDiff, Nat.reduceAdd, Nat.reduceMul, Nat.reduceSub, Nat.reduceEqDiff, Nat.reduceBEq, Nat.reduceDiv, reduceCtorEq, Int.reduceToNat]
      · intro r hr
        rw [List.mem_singleton.1 hr]
        exact ⟨_, rfl⟩
      · have hw : x.tmod 10 = ((x.natAbs % 10 : Nat) : Int) := by
          rw [if_neg hneg] at ham
          exact ham
        have hcat := fin (48 + x.tmod 10) (by rw [hw]; rfl)
        obtain ⟨g1, g2⟩ := hgo (by simpa using hx)
        refine hF (x.tdiv 10, dig x :: l) _ g1 g2 ?_
        simp only [hcat, hdiv, go_sem, brS_dec, brS_beq, brS_bne, brK_dec, brK_beq, brK_bne, Nat.reduceLT, Nat.reduceLeDiff, Nat.reduceAdd, Nat.reduceMul, Nat.reduceSub, Nat.reduceEqDiff, Nat.reduceBEq, Nat.reduceDiv, reduceCtorEq, Int.reduceToNat]
      · have hx0 : x = 0 := by simpa using hx
        rw [if_pos hx0] at hq2
        have hminus : ({ data := #[45] } : ByteArray) ++ bs l = bs (45 :: l) := by
          apply ByteArray.ext
          simp [bs, ByteArray.data_append]
        refine ⟨fun hneg => ⟨?_, ?_⟩, fun hneg => ?_⟩
        · show 1 + l.length ≤ _
          omega
        · rw [hminus, hq2, Lib.itoa, if_pos hneg]
        · rw [hq2, Lib.itoa, if_neg hneg, show n.natAbs = n.toNat from by omega]
include hT in
theorem joined (sep : List UInt8) (xs : List Int) (hx : xs.length ≤ 1048576) (hi : ∀ x ∈ xs, inI x) (hs : sep.length ≤ 21) : Sat Tryz.prog G 29 [.val false [.v (.string (bs sep))], .val false [.l none 1 (rowsI xs)]] (.val false [.v (.string (bs (joinB sep (xs.map Lib.itoa))))]) := by
  refine sat_of_go (L := tiOf Tryz.prog) (fun T ti h => h) false [[0, 1], [0, 1, 5], [0, 1, 5, 9, 10, 11], [0, 1, 5, 9, 10, 11, 12], [0, 1, 5, 7, 9, 10, 11], [0, 1, 5, 9, 10, 11], [0, 1, 5, 9, 10, 11], [4]] mx Tryz.func29 (by decide) rfl (by show 2 ≤ Tryz.f29.ntmps; decide) ?_
  simp only [go_sem, brS_dec, brS_beq, brS_bne, brK_dec, brK_beq, brK_bne, Nat.reduceLT, Nat.reduceLeDiff, Nat.reduceAdd, Nat.reduceMul, Nat.reduceSub, Nat.reduceEqDiff, Nat.reduceBEq, Nat.reduceDiv, reduceCtorEq, Int.reduceToNat]
  refine loop_n [0, 1, 5, 9, 10, 11] xs.length (fun i => [(5, .val false [.l (some 9) 1 (rowsS ((xs.take i).map Lib.itoa))]), (11, .val false [.v (.int .i64 (i : Int))])]) (fun _ => True) ?_ trivial ?_ ?_
  · simp only [List.take_zero, go_sem, brS_dec, brS_beq, brS_bne, brK_dec, brK_beq, brK_bne, Nat.reduceLT, Nat.reduceLeDiff, Nat.reduceAdd, Nat.reduceMul, Nat.reduceSub, Nat.reduceEqDiff, Nat.reduceBEq, Nat.reduceDiv, reduceCtorEq, Int.reduceToNat]
    try rfl
  · intro i hil _ F hF
    have hlt : ((i : Int) < (xs.length : Int)) := by omega
    have hup := wrap_up (i := i) (by omega)
    have hxi : inI (xs.getD i 0) := hi _ (getD_mem hil 0)
    simp only [hlt, rowsI_at xs hil, hup, go_sem, brS_dec, brS_beq, brS_bne, brK_dec, brK_beq, brK_bne, Nat.reduceLT, Nat.reduceLeDiff, Nat.reduceAdd, Nat.reduceMul, Nat.reduceSub, Nat.reduceEqDiff, Nat.reduceBEq, Nat.reduceDiv, reduceCtorEq, Int.reduceToNat]
    refine call_by (formatInt hT (xs.getD i 0) hxi) rfl ?_
    have e1 : rowsS ((xs.take i).map Lib.itoa) ++ [[C.v (Value.string (bs (Lib.itoa (xs.getD i 0))))]] = rowsS ((xs.take (i + 1)).map Lib.itoa) := by
      rw [take_succ_at xs hil, List.map_append, ← rowsS_app]
      rfl
    have hl : (xs.take i).length ≤ 1048576 := by rw [List.length_take]; omega
    simp only [e1, hup, go_sem, brS_dec, brS_beq, brS_bne, brK_dec, brK_beq, brK_bne, Nat.reduceLT, Nat.reduceLeDiff, Nat.reduceAdd, Nat.reduceMul, Nat.reduceSub, Nat.reduceEqDiff, Nat.reduceBEq, Nat.reduceDiv, reduceCtorEq, Int.reduceToNat]
    refine ⟨⟨by omega, by omega⟩, ?_⟩
    refine hF _ ?_ trivial
    simp only [go_sem, brS_dec, brS_beq, brS_bne, brK_dec, brK_beq, brK_bne, Nat.reduceLT, Nat.reduceLeDiff, Nat.reduceAdd, Nat.reduceMul, Nat.reduceSub, Nat.reduceEqDiff, Nat.reduceBEq, Nat.reduceDiv, reduceCtorEq, Int.reduceToNat]
  · intro _ F
    simp only [List.take_length, go_sem, brS_dec, brS_beq, brS_bne, brK_dec, brK_beq, brK_bne, Nat.reduceLT, Nat.reduceLeDiff, Nat.reduceAdd, Nat.reduceMul, Nat.reduceSub, Nat.reduceEqDiff, Nat.reduceBEq, Nat.reduceDiv, reduceCtorEq, Int.reduceToNat]
    refine call_own (join (xs.map Lib.itoa) sep (by rw [List.length_map]; omega) ?_) rfl ?_ ?_
    · have := joinB_len sep 21 (xs.map Lib.itoa) (itoas_len hi)
      rw [List.length_map] at this
      have h2 : xs.length * (21 + sep.length) ≤ 1048576 * 42 := Nat.mul_le_mul hx (by omega)
      omega
    · exact ⟨trivial, trivial⟩
    · simp only [go_sem, brS_dec, brS_beq, brS_bne, brK_dec, brK_beq, brK_bne, Nat.reduceLT, Nat.reduceLeDiff, Nat.reduceAdd, Nat.reduceMul, Nat.reduceSub, Nat.reduceEqDiff, Nat.reduceBEq, Nat.reduceDiv, reduceCtorEq, Int.reduceToNat]
theorem specFormatKeys (k : TKeys) (hx : k.fList.length ≤ 1048576) (hf : k.fit) : Sat Tryz.prog G 76 [.val true (TKeys.row none k)] (.val false [.v (.string (bs (keysText k)))]) := by
  refine sat_of_go (L := tiOf Tryz.prog) (fun T ti h => h) false [[1], [1, 6], [2], [1, 3], [1, 3, 4], [1, 3, 4, 15], [1, 3, 4], [1, 3, 4, 19], [1, 3, 4], [1, 3, 4], [2]] mx Tryz.func76 (by decide) rfl (by show 1 ≤ Tryz.f76.ntmps; decide) ?_
  have hi := hf.1.2
  simp only [go_sem, brS_dec, brS_beq, brS_bne, brK_dec, brK_beq, brK_bne, Nat.reduceLT, Nat.reduceLeDiff, Nat.reduceAdd, Nat.reduceMul, Nat.reduceSub, Nat.reduceEqDiff, Nat.reduceBEq, Nat.reduceDiv, reduceCtorEq, Int.reduceToNat]
  refine call_by (specNoKeys k) rfl ?_
  cases hno : keysNone k with
  | true =>
    have e : keysText k = [45] := by simp [keysText, hno]
    simp only [hno, e, go_sem, brS_dec, brS_beq, brS_bne, brK_dec, brK_beq, brK_bne, Nat.reduceLT, Nat.reduceLeDiff, Nat.reduceAdd, Nat.reduceMul, Nat.reduceSub, Nat.reduceEqDiff, Nat.reduceBEq, Nat.reduceDiv, reduceCtorEq, Int.reduceToNat]
    rfl
  | false =>
    simp only [hno, go_sem, brS_dec, brS_beq, brS_bne, brK_dec, brK_beq, brK_bne, Nat.reduceLT, Nat.reduceLeDiff, Nat.reduceAdd, Nat.reduceMul, Nat.reduceSub, Nat.reduceEqDiff, Nat.reduceBEq, Nat.reduceDiv, reduceCtorEq, Int.reduceToNat]
    refine call_by (specFormatInt k.fNeed hf.2) rfl ?_
    have hlen0 := itoa_len hf.2
    simp only [lit_bs, bs_app, go_sem, brS_dec, brS_beq, brS_bne, brK_dec, brK_beq, brK_bne, Nat.reduceLT, Nat.reduceLeDiff, Nat.reduceAdd, Nat.reduceMul, Nat.reduceSub, Nat.reduceEqDiff, Nat.reduceBEq, Nat.reduceDiv, reduceCtorEq, Int.reduceToNat]
    refine ⟨by omega, ?_⟩
    have hil := itoas_len hi
    have htl : ∀ i, (joinB [43] ((k.fList.map Lib.itoa).take i)).length ≤ 1048576 * 22 := fun i => Nat.le_trans (joinB_len_take [43] 21 _ hil i) (by rw [List.length_map]; simp only [List.length_cons, List.length_nil]; omega)
    refine loop_n [1, 3, 4] k.fList.length (fun i => [(3, .val false [.v (.string (bs (Lib.itoa k.fNeed ++ [47] ++ joinB [43] ((k.fList.map Lib.itoa).take i))))]), (4, .val false [.v (.int .i64 (i : Int))])]) (fun _ => True) ?_ trivial ?_ ?_
    · simp only [List.take_zero, joinB, List.append_nil, go_sem, brS_dec, brS_beq, brS_bne, brK_dec, brK_beq, brK_bne, Nat.reduceLT, Nat.reduceLeDiff, Nat.reduceAdd, Nat.reduceMul, Nat.reduceSub, Nat.reduceEqDiff, Nat.reduceBEq, Nat.reduceDiv, reduceCtorEq, Int.reduceToNat]
      rfl
    · intro i hil2 _ F hF
      have hlt : ((i : Int) < (k.fList.length : Int)) := by omega
      have hup := wrap_up (i := i) (by omega)
      have hxi : inI (k.fList.getD i 0) := hi _ (getD_mem hil2 0)
      have hl2 := itoa_len hxi
      have hti := htl i
      have hnx := joinB_next [43] (k.fList.map Lib.itoa) (i := i) (by rw [List.length_map]; exact hil2)
      rw [map_getD' Lib.itoa k.fList hil2] at hnx
      simp only [hlt, rowsI_at k.fList hil2, hup, lit_bs, bs_app, List.length_append, go_sem, brS_dec, brS_beq, brS_bne, brK_dec, brK_beq, brK_bne, Nat.reduceLT, Nat.reduceLeDiff, Nat.reduceAdd, Nat.reduceMul, Nat.reduceSub, Nat.reduceEqDiff, Nat.reduceBEq, Nat.reduceDiv, reduceCtorEq, Int.reduceToNat]
      refine ⟨fun hpos => ⟨by omega, ?_⟩, fun hpos => ?_⟩
      · refine call_by (specFormatInt (k.fList.getD i 0) hxi) rfl ?_
        rw [if_neg (by omega)] at hnx
        have e1 : Lib.itoa k.fNeed ++ [47] ++ joinB [43] ((k.fList.map Lib.itoa).take i) ++ [43] ++ Lib.itoa (k.fList.getD i 0) = Lib.itoa k.fNeed ++ [47] ++ joinB [43] ((k.fList.map Lib.itoa).take (i + 1)) := by
          rw [hnx]; simp only [List.append_assoc]; rfl
        simp only [bs_app, List.length_append, e1, hup, go_sem, brS_dec, brS_beq, brS_bne, brK_dec, brK_beq, brK_bne, Nat.reduceLT, Nat.reduceLeDiff, Nat.reduceAdd, Nat.reduceMul, Nat.reduceSub, Nat.reduceEqDiff, Nat.reduceBEq, Nat.reduceDiv, reduceCtorEq, Int.reduceToNat]
        refine ⟨by omega, ?_⟩
        refine hF _ ?_ trivial
        simp only [go_sem, brS_dec, brS_beq, brS_bne, brK_dec, brK_beq, brK_bne, Nat.reduceLT, Nat.reduceLeDiff, Nat.reduceAdd, Nat.reduceMul, Nat.reduceSub, Nat.reduceEqDiff, Nat.reduceBEq, Nat.reduceDiv, reduceCtorEq, Int.reduceToNat]
      · refine call_by (specFormatInt (k.fList.getD i 0) hxi) rfl ?_
        have hi0 : i = 0 := by omega
        rw [if_pos hi0, List.nil_append] at hnx
        have e1 : Lib.itoa k.fNeed ++ [47] ++ joinB [43] ((k.fList.map Lib.itoa).take i) ++ Lib.itoa (k.fList.getD i 0) = Lib.itoa k.fNeed ++ [47] ++ joinB [43] ((k.fList.map Lib.itoa).take (i + 1)) := by
          rw [hnx, hi0]; simp only [List.take_zero, joinB, List.append_nil]; rfl
        simp only [bs_app, List.length_append, e1, hup, go_sem, brS_dec, brS_beq, brS_bne, brK_dec, brK_beq, brK_bne, Nat.reduceLT, Nat.reduceLeDiff, Nat.reduceAdd, Nat.reduceMul, Nat.reduceSub, Nat.reduceEqDiff, Nat.reduceBEq, Nat.reduceDiv, reduceCtorEq, Int.reduceToNat]
        refine ⟨by omega, ?_⟩
        refine hF _ ?_ trivial
        simp only [go_sem, brS_dec, brS_beq, brS_bne, brK_dec, brK_beq, brK_bne, Nat.reduceLT, Nat.reduceLeDiff, Nat.reduceAdd, Nat.reduceMul, Nat.reduceSub, Nat.reduceEqDiff, Nat.reduceBEq, Nat.reduceDiv, reduceCtorEq, Int.reduceToNat]
    · intro _ F
      have e : keysText k = Lib.itoa k.fNeed ++ [47] ++ joinB [43] (k.fList.map Lib.itoa) := by simp [keysText, hno]
      have e2 : (k.fList.map Lib.itoa).take k.fList.length = k.fList.map Lib.itoa := by rw [← List.length_map (f := Lib.itoa), List.take_length]
      simp only [e, e2, go_sem, brS_dec, brS_beq, brS_bne, brK_dec, brK_beq, brK_bne, Nat.reduceLT, Nat.reduceLeDiff, Nat.reduceAdd, Nat.reduceMul, Nat.reduceSub, Nat.reduceEqDiff, Nat.reduceBEq, Nat.reduceDiv, reduceCtorEq, Int.reduceToNat]
include hT in
theorem implFormatKeys (k : TKeys) (hx : k.fList.length ≤ 1048576) (hf : k.fit) : Sat Tryz.prog G 83 [.val true (TKeys.row none k)] (.val false [.v (.string (bs (keysText k)))]) := by
  refine sat_of_go (L := tiOf Tryz.prog) (fun T ti h => h) false [[1], [1, 4], [2], [2]] mx Tryz.func83 (by decide) rfl (by show 1 ≤ Tryz.f83.ntmps; decide) ?_
  have hi := hf.1.2
  simp only [go_sem, brS_dec, brS_beq, brS_bne, brK_dec, brK_beq, brK_bne, Nat.reduceLT, Nat.reduceLeDiff, Nat.reduceAdd, Nat.reduceMul, Nat.reduceSub, Nat.reduceEqDiff, Nat.reduceBEq, Nat.reduceDiv, reduceCtorEq, Int.reduceToNat]
  refine call_by (noKeys k) rfl ?_
  cases hno : keysNone k with
  | true =>
    have e : keysText k = [45] := by simp [keysText, hno]
    simp only [hno, e, go_sem, brS_dec, brS_beq, brS_bne, brK_dec, brK_beq, brK_bne, Nat.reduceLT, Nat.reduceLeDiff, Nat.reduceAdd, Nat.reduceMul, Nat.reduceSub, Nat.reduceEqDiff, Nat.reduceBEq, Nat.reduceDiv, reduceCtorEq, Int.reduceToNat]
    rfl
  | false =>
    simp only [hno, go_sem, brS_dec, brS_beq, brS_bne, brK_dec, brK_beq, brK_bne, Nat.reduceLT, Nat.reduceLeDiff, Nat.reduceAdd, Nat.reduceMul, Nat.reduceSub, Nat.reduceEqDiff, Nat.reduceBEq, Nat.reduceDiv, reduceCtorEq, Int.reduceToNat]
    refine ⟨rfl, ?_⟩
    refine call_by (formatInt hT k.fNeed hf.2) rfl ?_
    have hlen0 := itoa_len hf.2
    simp only [lit_bs, bs_app, go_sem, brS_dec, brS_beq, brS_bne, brK_dec, brK_beq, brK_bne, Nat.reduceLT, Nat.reduceLeDiff, Nat.reduceAdd, Nat.reduceMul, Nat.reduceSub, Nat.reduceEqDiff, Nat.reduceBEq, Nat.reduceDiv, reduceCtorEq, Int.reduceToNat]
    refine ⟨by omega, ?_⟩
    refine call_by (joined hT [43] k.fList hx hi (by decide)) rfl ?_
    have hl3 := joinB_len [43] 21 (k.fList.map Lib.itoa) (itoas_len hi)
    rw [List.length_map] at hl3
    simp only [List.length_cons, List.length_nil] at hl3
    have e : keysText k = Lib.itoa k.fNeed ++ [47] ++ joinB [43] (k.fList.map Lib.itoa) := by simp [keysText, hno]
    simp only [lit_bs, bs_app, List.length_append, e, go_sem, brS_dec, brS_beq, brS_bne, brK_dec, brK_beq, brK_bne, Nat.reduceLT, Nat.reduceLeDiff, Nat.reduceAdd, Nat.reduceMul, Nat.reduceSub, Nat.reduceEqDiff, Nat.reduceBEq, Nat.reduceDiv, reduceCtorEq, Int.reduceToNat]
    omega
end Go.Proofs.Vt
