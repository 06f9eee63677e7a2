/- What the functions of chapter 5 and its reference hand back: what may be, and what is moved. -/
import Derived.Test.YtngmoidenkfgdaaEng16
import Derived.Test.YtngmoidenkfgdaaC05
set_option linter.unusedSimpArgs false
set_option linter.unusedVariables false
set_option maxRecDepth 100000
set_option maxHeartbeats 4000000
namespace Go.Proofs.Ytngmoidenkfgdaa
open Go
theorem sbt {p : Prop} [Decidable p] (h : p) : some (LV.v (.bool true)) = some (LV.v (.bool (decide p))) := by rw [decide_eq_true h]
theorem sbf {p : Prop} [Decidable p] (h : ¬ p) : some (LV.v (.bool false)) = some (LV.v (.bool (decide p))) := by rw [decide_eq_false h]
theorem sbe {p q : Prop} [Decidable p] [Decidable q] (h : p ↔ q) : some (LV.v (.bool (decide p))) = some (LV.v (.bool (decide q))) := by rw [decide_eq_decide.2 h]
def wi (n m : Int) : Bool := decide (-m ≤ n ∧ n ≤ m)
theorem e25 (k : Nat) (n m : Int) (hm : 0 ≤ m ∧ m ≤ 1099511627776) : evP (evF cm (k + 1)) 25 [.i n, .i m] = some (.b (wi n m)) := by
  rw [evP_fun (m := c25) rfl _ _ rfl]
  simp -implicitDefEqProofs only [c25, Ops_nil, Ops_cons, putS_mk, gate_t, gate_ff, gate_tf, gate_ft, gate_u, MI_none, MI_some, toNrm_mk, C_skip, C_ret, C_exit, C_reg, seqE_nrm, seqE_ret, seqE_exit, C_seq, condE_t, condE_f, C_cond, blockE_nrm, blockE_ret, blockE_exit, C_block, A_mv, A_pick, A_box, A_ld, A_st, A_fa, A_fld, A_ixa, A_ixs, A_ix, A_bin, A_eqv, A_eqn, A_un, A_conv, A_ext, A_bld, A_bsl, A_mkf, A_ifc, A_nilc, A_len, A_mm, A_call, pickE_t, pickE_f, pickE_bb, withH_mk, ldE_p, ldE_pi, stE_p, faE_p, faE_pi, fldE_agg, ixaE_p, ixaE_pi, ixsE_sl, ixsE_im, ixE_agg, bin_add, bin_sub, bin_mul, bin_quo, bin_rem, bin_and, bin_or, bin_xor, bin_andNot, bin_shl, bin_shr, bin_eql, bin_neq, bin_lss, bin_leq, bin_gtr, bin_geq, eqvE, ofB_mk, eqCells_CB, eqCB, eqAtom, nilQ, evUn, convE_i, extE_0, extE_1, extE_s, aggH_mk, imH_mk, nilc_p, nilc_pi, nilc_f, nilc_ifc, lenE_sl, lenE_im, lenE_nil, mmInt, R_nil, R_t, R_cell, cellE_p, out_ret, out_nrm, finP_mk, ev, getT, setT, putD, LV.cells, closedL, closed, frz, frzL, rowOf_0, rowOf_s, rdAt, putR, fillP, repC, tupOf, atomB, Value.oneCell', List.map_cons, List.map_nil, List.cons_append, List.nil_append, List.append_nil, List.length_cons, List.length_nil, List.set_cons_zero, List.set_cons_succ, List.getElem?_cons_zero, List.getElem?_cons_succ, List.drop_zero, List.drop_succ_cons, List.take_zero, List.take_succ_cons, List.drop_nil, List.take_nil, List.all_cons, List.all_nil, List.replicate_succ, List.replicate_zero, Option.bind_some, Option.map_some, Option.bind_none, Option.map_none, Bool.and_true, Bool.true_and, Bool.and_self, Bool.not_true, Bool.not_false, gate_bt, gate_bf, runMI_mk, condE_b, bind_ite, map_ite, out_ite, decide_eq_true_eq, Bool.false_eq_true, if_true, if_false, Nat.reduceAdd, Nat.reduceMul, Nat.reduceSub, Nat.reduceLT, Nat.reduceLeDiff, Nat.reduceEqDiff, Nat.reducePow, Int.reduceToNat, Int.reduceLT, Int.reduceLE, Int.reduceNeg, Int.reduceEq, Int.reducePow, Nat.add_zero, Nat.zero_add, Nat.mul_one, Nat.mul_zero, Nat.zero_mul, and_self, and_true, true_and, reduceIte, reduceCtorEq, Nat.le_refl, Nat.not_lt_zero, Nat.lt_irrefl, Int.toNat_natCast, Int.cast_ofNat_Int, call_P, mb64, mbu64, Int.reduceMul, Int.reduceAdd, Int.reduceSub, beq_self_eq_true, Bool.true_beq, Bool.false_beq, Bool.not_not, C_loop, iter_s, iterE_nrm, iterE_ret, iterE_exit, clean_mk, forget, purge, purgeL, w64, false_and, and_false, Int.reduceMod, Int.reduceDiv, Int.reduceTDiv, Int.reduceTMod, decide_true, decide_false, ite_self, out_none, orE_some, orE_none, orE_ite, A_app, appV_im, appE_nil, appE_sl, appRow_some, appE_im, C_loopK, cleanK_mk, cleanS_mk, rowK_eq, kpurge, kpurgeL, posn, srefsL, trefs, rrefs, keepK, memN, Option.getD_some, Bool.true_or, Bool.or_true, Bool.false_or, Bool.or_false, srefs_sl, srefs_v, srefs_p, srefs_f, srefs_im, srefs_agg, srefs_bad, srefs_ifc, C_regS, HS_nil, HS_cons, hsK_mk, poisA, rows_p, rows_nil, isSt, stIn]
  rw [w64 (0 - m) (by omega) (by omega)]
  unfold wi
  split
  · exact sbe (by omega)
  · exact sbf (by omega)
theorem e15 (k : Nat) (n m : Int) (hm : 0 ≤ m ∧ m ≤ 1099511627776) : evP (evF cm (k + 1)) 15 [.i n, .i m] = some (.b (wi n m)) := by
  rw [evP_fun (m := c15) rfl _ _ rfl]
  simp -implicitDefEqProofs only [c15, Ops_nil, Ops_cons, putS_mk, gate_t, gate_ff, gate_tf, gate_ft, gate_u, MI_none, MI_some, toNrm_mk, C_skip, C_ret, C_exit, C_reg, seqE_nrm, seqE_ret, seqE_exit, C_seq, condE_t, condE_f, C_cond, blockE_nrm, blockE_ret, blockE_exit, C_block, A_mv, A_pick, A_box, A_ld, A_st, A_fa, A_fld, A_ixa, A_ixs, A_ix, A_bin, A_eqv, A_eqn, A_un, A_conv, A_ext, A_bld, A_bsl, A_mkf, A_ifc, A_nilc, A_len, A_mm, A_call, pickE_t, pickE_f, pickE_bb, withH_mk, ldE_p, ldE_pi, stE_p, faE_p, faE_pi, fldE_agg, ixaE_p, ixaE_pi, ixsE_sl, ixsE_im, ixE_agg, bin_add, bin_sub, bin_mul, bin_quo, bin_rem, bin_and, bin_or, bin_xor, bin_andNot, bin_shl, bin_shr, bin_eql, bin_neq, bin_lss, bin_leq, bin_gtr, bin_geq, eqvE, ofB_mk, eqCells_CB, eqCB, eqAtom, nilQ, evUn, convE_i, extE_0, extE_1, extE_s, aggH_mk, imH_mk, nilc_p, nilc_pi, nilc_f, nilc_ifc, lenE_sl, lenE_im, lenE_nil, mmInt, R_nil, R_t, R_cell, cellE_p, out_ret, out_nrm, finP_mk, ev, getT, setT, putD, LV.cells, closedL, closed, frz, frzL, rowOf_0, rowOf_s, rdAt, putR, fillP, repC, tupOf, atomB, Value.oneCell', List.map_cons, List.map_nil, List.cons_append, List.nil_append, List.append_nil, List.length_cons, List.length_nil, List.set_cons_zero, List.set_cons_succ, List.getElem?_cons_zero, List.getElem?_cons_succ, List.drop_zero, List.drop_succ_cons, List.take_zero, List.take_succ_cons, List.drop_nil, List.take_nil, List.all_cons, List.all_nil, List.replicate_succ, List.replicate_zero, Option.bind_some, Option.map_some, Option.bind_none, Option.map_none, Bool.and_true, Bool.true_and, Bool.and_self, Bool.not_true, Bool.not_false, gate_bt, gate_bf, runMI_mk, condE_b, bind_ite, map_ite, out_ite, decide_eq_true_eq, Bool.false_eq_true, if_true, if_false, Nat.reduceAdd, Nat.reduceMul, Nat.reduceSub, Nat.reduceLT, Nat.reduceLeDiff, Nat.reduceEqDiff, Nat.reducePow, Int.reduceToNat, Int.reduceLT, Int.reduceLE, Int.reduceNeg, Int.reduceEq, Int.reducePow, Nat.add_zero, Nat.zero_add, Nat.mul_one, Nat.mul_zero, Nat.zero_mul, and_self, and_true, true_and, reduceIte, reduceCtorEq, Nat.le_refl, Nat.not_lt_zero, Nat.lt_irrefl, Int.toNat_natCast, Int.cast_ofNat_Int, call_P, mb64, mbu64, Int.reduceMul, Int.reduceAdd, Int.reduceSub, beq_self_eq_true, Bool.true_beq, Bool.false_beq, Bool.not_not, C_loop, iter_s, iterE_nrm, iterE_ret, iterE_exit, clean_mk, forget, purge, purgeL, w64, false_and, and_false, Int.reduceMod, Int.reduceDiv, Int.reduceTDiv, Int.reduceTMod, decide_true, decide_false, ite_self, out_none, orE_some, orE_none, orE_ite, A_app, appV_im, appE_nil, appE_sl, appRow_some, appE_im, C_loopK, cleanK_mk, cleanS_mk, rowK_eq, kpurge, kpurgeL, posn, srefsL, trefs, rrefs, keepK, memN, Option.getD_some, Bool.true_or, Bool.or_true, Bool.false_or, Bool.or_false, srefs_sl, srefs_v, srefs_p, srefs_f, srefs_im, srefs_agg, srefs_bad, srefs_ifc, C_regS, HS_nil, HS_cons, hsK_mk, poisA, rows_p, rows_nil, isSt, stIn]
  rw [w64 (0 - m) (by omega) (by omega)]
  unfold wi
  split
  · exact sbe (by omega)
  · exact sbf (by omega)
def may (l : List Int) : Bool := l.all fun n => wi n 16777216
theorem e8 (k : Nat) (m0 m1 m2 m3 m4 m5 m6 m7 m8 m9 m10 m11 m12 m13 m14 m15 : Int) : evP (evF cm (k + 30)) 8 [.agg [.i m0, .i m1, .i m2, .i m3, .i m4, .i m5, .i m6, .i m7, .i m8, .i m9, .i m10, .i m11, .i m12, .i m13, .i m14, .i m15]] = some (.b (may [m0, m1, m2, m3, m4, m5, m6, m7, m8, m9, m10, m11, m12, m13, m14, m15])) := by
  rw [evP_fun (m := c8) rfl _ _ rfl]
  simp -implicitDefEqProofs only [c8, c8b0, e15 _ _ 16777216 (by omega), Ops_nil, Ops_cons, putS_mk, gate_t, gate_ff, gate_tf, gate_ft, gate_u, MI_none, MI_some, toNrm_mk, C_skip, C_ret, C_exit, C_reg, seqE_nrm, seqE_ret, seqE_exit, C_seq, condE_t, condE_f, C_cond, blockE_nrm, blockE_ret, blockE_exit, C_block, A_mv, A_pick, A_box, A_ld, A_st, A_fa, A_fld, A_ixa, A_ixs, A_ix, A_bin, A_eqv, A_eqn, A_un, A_conv, A_ext, A_bld, A_bsl, A_mkf, A_ifc, A_nilc, A_len, A_mm, A_call, pickE_t, pickE_f, pickE_bb, withH_mk, ldE_p, ldE_pi, stE_p, faE_p, faE_pi, fldE_agg, ixaE_p, ixaE_pi, ixsE_sl, ixsE_im, ixE_agg, bin_add, bin_sub, bin_mul, bin_quo, bin_rem, bin_and, bin_or, bin_xor, bin_andNot, bin_shl, bin_shr, bin_eql, bin_neq, bin_lss, bin_leq, bin_gtr, bin_geq, eqvE, ofB_mk, eqCells_CB, eqCB, eqAtom, nilQ, evUn, convE_i, extE_0, extE_1, extE_s, aggH_mk, imH_mk, nilc_p, nilc_pi, nilc_f, nilc_ifc, lenE_sl, lenE_im, lenE_nil, mmInt, R_nil, R_t, R_cell, cellE_p, out_ret, out_nrm, finP_mk, ev, getT, setT, putD, LV.cells, closedL, closed, frz, frzL, rowOf_0, rowOf_s, rdAt, putR, fillP, repC, tupOf, atomB, Value.oneCell', List.map_cons, List.map_nil, List.cons_append, List.nil_append, List.append_nil, List.length_cons, List.length_nil, List.set_cons_zero, List.set_cons_succ, List.getElem?_cons_zero, List.getElem?_cons_succ, List.drop_zero, List.drop_succ_cons, List.take_zero, List.take_succ_cons, List.drop_nil, List.take_nil, List.all_cons, List.all_nil, List.replicate_succ, List.replicate_zero, Option.bind_some, Option.map_some, Option.bind_none, Option.map_none, Bool.and_true, Bool.true_and, Bool.and_self, Bool.not_true, Bool.not_false, gate_bt, gate_bf, runMI_mk, condE_b, bind_ite, map_ite, out_ite, decide_eq_true_eq, Bool.false_eq_true, if_true, if_false, Nat.reduceAdd, Nat.reduceMul, Nat.reduceSub, Nat.reduceLT, Nat.reduceLeDiff, Nat.reduceEqDiff, Nat.reducePow, Int.reduceToNat, Int.reduceLT, Int.reduceLE, Int.reduceNeg, Int.reduceEq, Int.reducePow, Nat.add_zero, Nat.zero_add, Nat.mul_one, Nat.mul_zero, Nat.zero_mul, and_self, and_true, true_and, reduceIte, reduceCtorEq, Nat.le_refl, Nat.not_lt_zero, Nat.lt_irrefl, Int.toNat_natCast, Int.cast_ofNat_Int, call_P, mb64, mbu64, Int.reduceMul, Int.reduceAdd, Int.reduceSub, beq_self_eq_true, Bool.true_beq, Bool.false_beq, Bool.not_not, C_loop, iter_s, iterE_nrm, iterE_ret, iterE_exit, clean_mk, forget, purge, purgeL, w64, false_and, and_false, Int.reduceMod, Int.reduceDiv, Int.reduceTDiv, Int.reduceTMod, decide_true, decide_false, ite_self, out_none, orE_some, orE_none, orE_ite, A_app, appV_im, appE_nil, appE_sl, appRow_some, appE_im, C_loopK, cleanK_mk, cleanS_mk, rowK_eq, kpurge, kpurgeL, posn, srefsL, trefs, rrefs, keepK, memN, Option.getD_some, Bool.true_or, Bool.or_true, Bool.false_or, Bool.or_false, srefs_sl, srefs_v, srefs_p, srefs_f, srefs_im, srefs_agg, srefs_bad, srefs_ifc, C_regS, HS_nil, HS_cons, hsK_mk, poisA, rows_p, rows_nil, isSt, stIn]
  simp only [may, List.all_cons, List.all_nil]
  cases wi m0 16777216
  · rfl
  cases wi m1 16777216
  · rfl
  cases wi m2 16777216
  · rfl
  cases wi m3 16777216
  · rfl
  cases wi m4 16777216
  · rfl
  cases wi m5 16777216
  · rfl
  cases wi m6 16777216
  · rfl
  cases wi m7 16777216
  · rfl
  cases wi m8 16777216
  · rfl
  cases wi m9 16777216
  · rfl
  cases wi m10 16777216
  · rfl
  cases wi m11 16777216
  · rfl
  cases wi m12 16777216
  · rfl
  cases wi m13 16777216
  · rfl
  cases wi m14 16777216
  · rfl
  cases wi m15 16777216
  · rfl
  rfl
theorem e24 (k : Nat) (m0 m1 m2 m3 m4 m5 m6 m7 m8 m9 m10 m11 m12 m13 m14 m15 : Int) : evP (evF cm (k + 30)) 24 [.agg [.i m0, .i m1, .i m2, .i m3, .i m4, .i m5, .i m6, .i m7, .i m8, .i m9, .i m10, .i m11, .i m12, .i m13, .i m14, .i m15]] = some (.b (may [m0, m1, m2, m3, m4, m5, m6, m7, m8, m9, m10, m11, m12, m13, m14, m15])) := by
  rw [evP_fun (m := c24) rfl _ _ rfl]
  simp -implicitDefEqProofs only [c24, c24b0, e25 _ _ 16777216 (by omega), Ops_nil, Ops_cons, putS_mk, gate_t, gate_ff, gate_tf, gate_ft, gate_u, MI_none, MI_some, toNrm_mk, C_skip, C_ret, C_exit, C_reg, seqE_nrm, seqE_ret, seqE_exit, C_seq, condE_t, condE_f, C_cond, blockE_nrm, blockE_ret, blockE_exit, C_block, A_mv, A_pick, A_box, A_ld, A_st, A_fa, A_fld, A_ixa, A_ixs, A_ix, A_bin, A_eqv, A_eqn, A_un, A_conv, A_ext, A_bld, A_bsl, A_mkf, A_ifc, A_nilc, A_len, A_mm, A_call, pickE_t, pickE_f, pickE_bb, withH_mk, ldE_p, ldE_pi, stE_p, faE_p, faE_pi, fldE_agg, ixaE_p, ixaE_pi, ixsE_sl, ixsE_im, ixE_agg, bin_add, bin_sub, bin_mul, bin_quo, bin_rem, bin_and, bin_or, bin_xor, bin_andNot, bin_shl, bin_shr, bin_eql, bin_neq, bin_lss, bin_leq, bin_gtr, bin_geq, eqvE, ofB_mk, eqCells_CB, eqCB, eqAtom, nilQ, evUn, convE_i, extE_0, extE_1, extE_s, aggH_mk, imH_mk, nilc_p, nilc_pi, nilc_f, nilc_ifc, lenE_sl, lenE_im, lenE_nil, mmInt, R_nil, R_t, R_cell, cellE_p, out_ret, out_nrm, finP_mk, ev, getT, setT, putD, LV.cells, closedL, closed, frz, frzL, rowOf_0, rowOf_s, rdAt, putR, fillP, repC, tupOf, atomB, Value.oneCell', List.map_cons, List.map_nil, List.cons_append, List.nil_append, List.append_nil, List.length_cons, List.length_nil, List.set_cons_zero, List.set_cons_succ, List.getElem?_cons_zero, List.getElem?_cons_succ, List.drop_zero, List.drop_succ_cons, List.take_zero, List.take_succ_cons, List.drop_nil, List.take_nil, List.all_cons, List.all_nil, List.replicate_succ, List.replicate_zero, Option.bind_some, Option.map_some, Option.bind_none, Option.map_none, Bool.and_true, Bool.true_and, Bool.and_self, Bool.not_true, Bool.not_false, gate_bt, gate_bf, runMI_mk, condE_b, bind_ite, map_ite, out_ite, decide_eq_true_eq, Bool.false_eq_true, if_true, if_false, Nat.reduceAdd, Nat.reduceMul, Nat.reduceSub, Nat.reduceLT, Nat.reduceLeDiff, Nat.reduceEqDiff, Nat.reducePow, Int.reduceToNat, Int.reduceLT, Int.reduceLE, Int.reduceNeg, Int.reduceEq, Int.reducePow, Nat.add_zero, Nat.zero_add, Nat.mul_one, Nat.mul_zero, Nat.zero_mul, and_self, and_true, true_and, reduceIte, reduceCtorEq, Nat.le_refl, Nat.not_lt_zero, Nat.lt_irrefl, Int.toNat_natCast, Int.cast_ofNat_Int, call_P, mb64, mbu64, Int.reduceMul, Int.reduceAdd, Int.reduceSub, beq_self_eq_true, Bool.true_beq, Bool.false_beq, Bool.not_not, C_loop, iter_s, iterE_nrm, iterE_ret, iterE_exit, clean_mk, forget, purge, purgeL, w64, false_and, and_false, Int.reduceMod, Int.reduceDiv, Int.reduceTDiv, Int.reduceTMod, decide_true, decide_false, ite_self, out_none, orE_some, orE_none, orE_ite, A_app, appV_im, appE_nil, appE_sl, appRow_some, appE_im, C_loopK, cleanK_mk, cleanS_mk, rowK_eq, kpurge, kpurgeL, posn, srefsL, trefs, rrefs, keepK, memN, Option.getD_some, Bool.true_or, Bool.or_true, Bool.false_or, Bool.or_false, srefs_sl, srefs_v, srefs_p, srefs_f, srefs_im, srefs_agg, srefs_bad, srefs_ifc, C_regS, HS_nil, HS_cons, hsK_mk, poisA, rows_p, rows_nil, isSt, stIn]
  simp only [may, List.all_cons, List.all_nil]
  cases wi m0 16777216
  · rfl
  cases wi m1 16777216
  · rfl
  cases wi m2 16777216
  · rfl
  cases wi m3 16777216
  · rfl
  cases wi m4 16777216
  · rfl
  cases wi m5 16777216
  · rfl
  cases wi m6 16777216
  · rfl
  cases wi m7 16777216
  · rfl
  cases wi m8 16777216
  · rfl
  cases wi m9 16777216
  · rfl
  cases wi m10 16777216
  · rfl
  cases wi m11 16777216
  · rfl
  cases wi m12 16777216
  · rfl
  cases wi m13 16777216
  · rfl
  cases wi m14 16777216
  · rfl
  cases wi m15 16777216
  · rfl
  rfl
def fits (x y z w : Int) : Bool := wi x 1073741824 && (wi y 1073741824 && (wi z 1073741824 && wi w 1073741824))
theorem e9 (k : Nat) (x y z w : Int) : evP (evF cm (k + 2)) 9 [.agg [.i x, .i y, .i z, .i w]] = some (.b (fits x y z w)) := by
  rw [evP_fun (m := c9) rfl _ _ rfl]
  simp -implicitDefEqProofs only [c9, e15 _ _ 1073741824 (by omega), Ops_nil, Ops_cons, putS_mk, gate_t, gate_ff, gate_tf, gate_ft, gate_u, MI_none, MI_some, toNrm_mk, C_skip, C_ret, C_exit, C_reg, seqE_nrm, seqE_ret, seqE_exit, C_seq, condE_t, condE_f, C_cond, blockE_nrm, blockE_ret, blockE_exit, C_block, A_mv, A_pick, A_box, A_ld, A_st, A_fa, A_fld, A_ixa, A_ixs, A_ix, A_bin, A_eqv, A_eqn, A_un, A_conv, A_ext, A_bld, A_bsl, A_mkf, A_ifc, A_nilc, A_len, A_mm, A_call, pickE_t, pickE_f, pickE_bb, withH_mk, ldE_p, ldE_pi, stE_p, faE_p, faE_pi, fldE_agg, ixaE_p, ixaE_pi, ixsE_sl, ixsE_im, ixE_agg, bin_add, bin_sub, bin_mul, bin_quo, bin_rem, bin_and, bin_or, bin_xor, bin_andNot, bin_shl, bin_shr, bin_eql, bin_neq, bin_lss, bin_leq, bin_gtr, bin_geq, eqvE, ofB_mk, eqCells_CB, eqCB, eqAtom, nilQ, evUn, convE_i, extE_0, extE_1, extE_s, aggH_mk, imH_mk, nilc_p, nilc_pi, nilc_f, nilc_ifc, lenE_sl, lenE_im, lenE_nil, mmInt, R_nil, R_t, R_cell, cellE_p, out_ret, out_nrm, finP_mk, ev, getT, setT, putD, LV.cells, closedL, closed, frz, frzL, rowOf_0, rowOf_s, rdAt, putR, fillP, repC, tupOf, atomB, Value.oneCell', List.map_cons, List.map_nil, List.cons_append, List.nil_append, List.append_nil, List.length_cons, List.length_nil, List.set_cons_zero, List.set_cons_succ, List.getElem?_cons_zero, List.getElem?_cons_succ, List.drop_zero, List.drop_succ_cons, List.take_zero, List.take_succ_cons, List.drop_nil, List.take_nil, List.all_cons, List.all_nil, List.replicate_succ, List.replicate_zero, Option.bind_some, Option.map_some, Option.bind_none, Option.map_none, Bool.and_true, Bool.true_and, Bool.and_self, Bool.not_true, Bool.not_false, gate_bt, gate_bf, runMI_mk, condE_b, bind_ite, map_ite, out_ite, decide_eq_true_eq, Bool.false_eq_true, if_true, if_false, Nat.reduceAdd, Nat.reduceMul, Nat.reduceSub, Nat.reduceLT, Nat.reduceLeDiff, Nat.reduceEqDiff, Nat.reducePow, Int.reduceToNat, Int.reduceLT, Int.reduceLE, Int.reduceNeg, Int.reduceEq, Int.reducePow, Nat.add_zero, Nat.zero_add, Nat.mul_one, Nat.mul_zero, Nat.zero_mul, and_self, and_true, true_and, reduceIte, reduceCtorEq, Nat.le_refl, Nat.not_lt_zero, Nat.lt_irrefl, Int.toNat_natCast, Int.cast_ofNat_Int, call_P, mb64, mbu64, Int.reduceMul, Int.reduceAdd, Int.reduceSub, beq_self_eq_true, Bool.true_beq, Bool.false_beq, Bool.not_not, C_loop, iter_s, iterE_nrm, iterE_ret, iterE_exit, clean_mk, forget, purge, purgeL, w64, false_and, and_false, Int.reduceMod, Int.reduceDiv, Int.reduceTDiv, Int.reduceTMod, decide_true, decide_false, ite_self, out_none, orE_some, orE_none, orE_ite, A_app, appV_im, appE_nil, appE_sl, appRow_some, appE_im, C_loopK, cleanK_mk, cleanS_mk, rowK_eq, kpurge, kpurgeL, posn, srefsL, trefs, rrefs, keepK, memN, Option.getD_some, Bool.true_or, Bool.or_true, Bool.false_or, Bool.or_false, srefs_sl, srefs_v, srefs_p, srefs_f, srefs_im, srefs_agg, srefs_bad, srefs_ifc, C_regS, HS_nil, HS_cons, hsK_mk, poisA, rows_p, rows_nil, isSt, stIn]
  unfold fits
  cases wi x 1073741824 <;> cases wi y 1073741824 <;> cases wi z 1073741824 <;> rfl
theorem e23 (k : Nat) (x y z w : Int) : evP (evF cm (k + 1)) 23 [.agg [.i x, .i y, .i z, .i w]] = some (.agg [.i x, .i y, .i z, .i w]) := by
  rw [evP_fun (m := c23) rfl _ _ rfl]
  simp -implicitDefEqProofs only [c23, Ops_nil, Ops_cons, putS_mk, gate_t, gate_ff, gate_tf, gate_ft, gate_u, MI_none, MI_some, toNrm_mk, C_skip, C_ret, C_exit, C_reg, seqE_nrm, seqE_ret, seqE_exit, C_seq, condE_t, condE_f, C_cond, blockE_nrm, blockE_ret, blockE_exit, C_block, A_mv, A_pick, A_box, A_ld, A_st, A_fa, A_fld, A_ixa, A_ixs, A_ix, A_bin, A_eqv, A_eqn, A_un, A_conv, A_ext, A_bld, A_bsl, A_mkf, A_ifc, A_nilc, A_len, A_mm, A_call, pickE_t, pickE_f, pickE_bb, withH_mk, ldE_p, ldE_pi, stE_p, faE_p, faE_pi, fldE_agg, ixaE_p, ixaE_pi, ixsE_sl, ixsE_im, ixE_agg, bin_add, bin_sub, bin_mul, bin_quo, bin_rem, bin_and, bin_or, bin_xor, bin_andNot, bin_shl, bin_shr, bin_eql, bin_neq, bin_lss, bin_leq, bin_gtr, bin_geq, eqvE, ofB_mk, eqCells_CB, eqCB, eqAtom, nilQ, evUn, convE_i, extE_0, extE_1, extE_s, aggH_mk, imH_mk, nilc_p, nilc_pi, nilc_f, nilc_ifc, lenE_sl, lenE_im, lenE_nil, mmInt, R_nil, R_t, R_cell, cellE_p, out_ret, out_nrm, finP_mk, ev, getT, setT, putD, LV.cells, closedL, closed, frz, frzL, rowOf_0, rowOf_s, rdAt, putR, fillP, repC, tupOf, atomB, Value.oneCell', List.map_cons, List.map_nil, List.cons_append, List.nil_append, List.append_nil, List.length_cons, List.length_nil, List.set_cons_zero, List.set_cons_succ, List.getElem?_cons_zero, List.getElem?_cons_succ, List.drop_zero, List.drop_succ_cons, List.take_zero, List.take_succ_cons, List.drop_nil, List.take_nil, List.all_cons, List.all_nil, List.replicate_succ, List.replicate_zero, Option.bind_some, Option.map_some, Option.bind_none, Option.map_none, Bool.and_true, Bool.true_and, Bool.and_self, Bool.not_true, Bool.not_false, gate_bt, gate_bf, runMI_mk, condE_b, bind_ite, map_ite, out_ite, decide_eq_true_eq, Bool.false_eq_true, if_true, if_false, Nat.reduceAdd, Nat.reduceMul, Nat.reduceSub, Nat.reduceLT, Nat.reduceLeDiff, Nat.reduceEqDiff, Nat.reducePow, Int.reduceToNat, Int.reduceLT, Int.reduceLE, Int.reduceNeg, Int.reduceEq, Int.reducePow, Nat.add_zero, Nat.zero_add, Nat.mul_one, Nat.mul_zero, Nat.zero_mul, and_self, and_true, true_and, reduceIte, reduceCtorEq, Nat.le_refl, Nat.not_lt_zero, Nat.lt_irrefl, Int.toNat_natCast, Int.cast_ofNat_Int, call_P, mb64, mbu64, Int.reduceMul, Int.reduceAdd, Int.reduceSub, beq_self_eq_true, Bool.true_beq, Bool.false_beq, Bool.not_not, C_loop, iter_s, iterE_nrm, iterE_ret, iterE_exit, clean_mk, forget, purge, purgeL, w64, false_and, and_false, Int.reduceMod, Int.reduceDiv, Int.reduceTDiv, Int.reduceTMod, decide_true, decide_false, ite_self, out_none, orE_some, orE_none, orE_ite, A_app, appV_im, appE_nil, appE_sl, appRow_some, appE_im, C_loopK, cleanK_mk, cleanS_mk, rowK_eq, kpurge, kpurgeL, posn, srefsL, trefs, rrefs, keepK, memN, Option.getD_some, Bool.true_or, Bool.or_true, Bool.false_or, Bool.or_false, srefs_sl, srefs_v, srefs_p, srefs_f, srefs_im, srefs_agg, srefs_bad, srefs_ifc, C_regS, HS_nil, HS_cons, hsK_mk, poisA, rows_p, rows_nil, isSt, stIn]
end Go.Proofs.Ytngmoidenkfgdaa
