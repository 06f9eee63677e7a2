/- Samples, hard and soft, by the program and by the reference. -/
import Derived.Test.YtmbhpgknkemgeaaJ14
set_option linter.unusedSimpArgs false
set_option linter.unusedVariables false
set_option maxRecDepth 100000
set_option maxHeartbeats 16000000
namespace Go.Proofs.Ytmbhpgknkemgeaa
open Go
theorem chs {n : Int} (h : okt n) : ch (n / 16777216) ∧ ch (n / 65536 % 256) ∧ ch (n / 256 % 256) ∧ ch (n % 256) := by unfold okt ch at *; omega
theorem frx (n : Int) : fr (n % 256) := by unfold fr; omega
def mixcol (n1 n2 n3 n4 x y : Int) : LV := .agg [.i (mixc (n1 / 16777216) (n2 / 16777216) (n3 / 16777216) (n4 / 16777216) x y), .i (mixc (n1 / 65536 % 256) (n2 / 65536 % 256) (n3 / 65536 % 256) (n4 / 65536 % 256) x y), .i (mixc (n1 / 256 % 256) (n2 / 256 % 256) (n3 / 256 % 256) (n4 / 256 % 256) x y), .i (mixc (n1 % 256) (n2 % 256) (n3 % 256) (n4 % 256) x y)]
def colv (n : Int) : LV := .agg [.i (n / 16777216), .i (n / 65536 % 256), .i (n / 256 % 256), .i (n % 256)]
def hot (u v : Int) : Prop := (-65536 ≤ u ∧ u ≤ 65536) ∧ (-65536 ≤ v ∧ v ≤ 65536)
theorem e11c (k : Nat) (hk : 5000 ≤ k) (W H : Int) (l : List Int) (S : LV) (hS : SlI l S) (hl : l.length ≤ 5000) (c w u v : Int) (b : Bool) (hc : Tc W H l c) (h0 : c ≠ 0) : evP (evF cm (k + 50)) 11 [.agg [.i W, .i H, S], .i u, .i v, .i w, .b b] = some (.tup [z4, .i c]) := by
  rw [evP_fun (m := c11) rfl _ _ rfl]
  have hat := hS.atm
  simp only [atomB, Value.oneCell'] at hat
  have f : evP (evF cm (k + 49)) 22 [.agg [.i W, .i H, S], .i w] = some (.i c) := e22 (k + 9) (by omega) W H l S hS hl c w hc h0
  simp -implicitDefEqProofs only [c11, z4, hat, hS.cl, f, h0, Ops_nil, Ops_cons, putS_mk, gate_t, gate_ff, gate_tf, gate_ft, gate_u, MI_none, MI_some, toNrm_mk, C_skip, C_ret, C_exit, C_reg, seqE_nrm, seqE_ret, seqE_exit, C_seq, condE_t, condE_f, C_cond, blockE_nrm, blockE_ret, blockE_exit, C_block, A_mv, A_pick, A_box, A_ld, A_st, A_fa, A_fld, A_ixa, A_ixs, A_ix, A_bin, A_eqv, A_eqn, A_un, A_conv, A_ext, A_bld, A_bsl, A_mkf, A_ifc, A_nilc, A_len, A_mm, A_call, pickE_t, pickE_f, pickE_bb, withH_mk, ldE_p, ldE_pi, stE_p, faE_p, faE_pi, fldE_agg, ixaE_p, ixaE_pi, ixsE_sl, ixsE_im, ixE_agg, bin_add, bin_sub, bin_mul, bin_quo, bin_rem, bin_and, bin_or, bin_xor, bin_andNot, bin_shl, bin_shr, bin_eql, bin_neq, bin_lss, bin_leq, bin_gtr, bin_geq, eqvE, ofB_mk, eqCells_CB, eqCB, eqAtom, nilQ, evUn, convE_i, extE_0, extE_1, extE_s, aggH_mk, imH_mk, nilc_p, nilc_pi, nilc_f, nilc_ifc, lenE_sl, lenE_im, lenE_nil, mmInt, R_nil, R_t, R_cell, cellE_p, out_ret, out_nrm, finP_mk, ev, getT, setT, putD, LV.cells, closedL, closed, frz, frzL, rowOf_0, rowOf_s, rdAt, putR, fillP, repC, tupOf, atomB, Value.oneCell', List.map_cons, List.map_nil, List.cons_append, List.nil_append, List.append_nil, List.length_cons, List.length_nil, List.set_cons_zero, List.set_cons_succ, List.getElem?_cons_zero, List.getElem?_cons_succ, List.drop_zero, List.drop_succ_cons, List.take_zero, List.take_succ_cons, List.drop_nil, List.take_nil, List.all_cons, List.all_nil, List.replicate_succ, List.replicate_zero, Option.bind_some, Option.map_some, Option.bind_none, Option.map_none, Bool.and_true, Bool.true_and, Bool.and_self, Bool.not_true, Bool.not_false, gate_bt, gate_bf, runMI_mk, condE_b, bind_ite, map_ite, out_ite, decide_eq_true_eq, Bool.false_eq_true, if_true, if_false, Nat.reduceAdd, Nat.reduceMul, Nat.reduceSub, Nat.reduceLT, Nat.reduceLeDiff, Nat.reduceEqDiff, Nat.reducePow, Int.reduceToNat, Int.reduceLT, Int.reduceLE, Int.reduceNeg, Int.reduceEq, Int.reducePow, Nat.add_zero, Nat.zero_add, Nat.mul_one, Nat.mul_zero, Nat.zero_mul, and_self, and_true, true_and, reduceIte, reduceCtorEq, Nat.le_refl, Nat.not_lt_zero, Nat.lt_irrefl, Int.toNat_natCast, Int.cast_ofNat_Int, call_P, mb64, mbu64, Int.reduceMul, Int.reduceAdd, Int.reduceSub, beq_self_eq_true, Bool.true_beq, Bool.false_beq, Bool.not_not, C_loop, iter_s, iterE_nrm, iterE_ret, iterE_exit, clean_mk, forget, purge, purgeL, w64, false_and, and_false, Int.reduceMod, Int.reduceDiv, Int.reduceTDiv, Int.reduceTMod, decide_true, decide_false, ite_self, out_none, orE_some, orE_none, orE_ite, A_app, appV_im, appE_nil, appE_sl, appRow_some, appE_im, C_loopK, cleanK_mk, cleanS_mk, rowK_eq, kpurge, kpurgeL, posn, srefsL, trefs, rrefs, keepK, memN, Option.getD_some, Bool.true_or, Bool.or_true, Bool.false_or, Bool.or_false, srefs_sl, srefs_v, srefs_p, srefs_f, srefs_im, srefs_agg, srefs_bad, srefs_ifc]
theorem e11w (k : Nat) (hk : 5000 ≤ k) {W H : Int} {l : List Int} {S : LV} (h : Rtx W H l S) (w u v : Int) (b : Bool) (hw : ¬ kd w) : evP (evF cm (k + 50)) 11 [.agg [.i W, .i H, S], .i u, .i v, .i w, .b b] = some (.tup [z4, .i 9]) := by
  rw [evP_fun (m := c11) rfl _ _ rfl]
  have hat := h.sl.atm
  simp only [atomB, Value.oneCell'] at hat
  have f : evP (evF cm (k + 49)) 22 [.agg [.i W, .i H, S], .i w] = some (.i 9) := e22w (k + 9) (by omega) h w hw
  simp -implicitDefEqProofs only [c11, z4, hat, h.sl.cl, f, Ops_nil, Ops_cons, putS_mk, gate_t, gate_ff, gate_tf, gate_ft, gate_u, MI_none, MI_some, toNrm_mk, C_skip, C_ret, C_exit, C_reg, seqE_nrm, seqE_ret, seqE_exit, C_seq, condE_t, condE_f, C_cond, blockE_nrm, blockE_ret, blockE_exit, C_block, A_mv, A_pick, A_box, A_ld, A_st, A_fa, A_fld, A_ixa, A_ixs, A_ix, A_bin, A_eqv, A_eqn, A_un, A_conv, A_ext, A_bld, A_bsl, A_mkf, A_ifc, A_nilc, A_len, A_mm, A_call, pickE_t, pickE_f, pickE_bb, withH_mk, ldE_p, ldE_pi, stE_p, faE_p, faE_pi, fldE_agg, ixaE_p, ixaE_pi, ixsE_sl, ixsE_im, ixE_agg, bin_add, bin_sub, bin_mul, bin_quo, bin_rem, bin_and, bin_or, bin_xor, bin_andNot, bin_shl, bin_shr, bin_eql, bin_neq, bin_lss, bin_leq, bin_gtr, bin_geq, eqvE, ofB_mk, eqCells_CB, eqCB, eqAtom, nilQ, evUn, convE_i, extE_0, extE_1, extE_s, aggH_mk, imH_mk, nilc_p, nilc_pi, nilc_f, nilc_ifc, lenE_sl, lenE_im, lenE_nil, mmInt, R_nil, R_t, R_cell, cellE_p, out_ret, out_nrm, finP_mk, ev, getT, setT, putD, LV.cells, closedL, closed, frz, frzL, rowOf_0, rowOf_s, rdAt, putR, fillP, repC, tupOf, atomB, Value.oneCell', List.map_cons, List.map_nil, List.cons_append, List.nil_append, List.append_nil, List.length_cons, List.length_nil, List.set_cons_zero, List.set_cons_succ, List.getElem?_cons_zero, List.getElem?_cons_succ, List.drop_zero, List.drop_succ_cons, List.take_zero, List.take_succ_cons, List.drop_nil, List.take_nil, List.all_cons, List.all_nil, List.replicate_succ, List.replicate_zero, Option.bind_some, Option.map_some, Option.bind_none, Option.map_none, Bool.and_true, Bool.true_and, Bool.and_self, Bool.not_true, Bool.not_false, gate_bt, gate_bf, runMI_mk, condE_b, bind_ite, map_ite, out_ite, decide_eq_true_eq, Bool.false_eq_true, if_true, if_false, Nat.reduceAdd, Nat.reduceMul, Nat.reduceSub, Nat.reduceLT, Nat.reduceLeDiff, Nat.reduceEqDiff, Nat.reducePow, Int.reduceToNat, Int.reduceLT, Int.reduceLE, Int.reduceNeg, Int.reduceEq, Int.reducePow, Nat.add_zero, Nat.zero_add, Nat.mul_one, Nat.mul_zero, Nat.zero_mul, and_self, and_true, true_and, reduceIte, reduceCtorEq, Nat.le_refl, Nat.not_lt_zero, Nat.lt_irrefl, Int.toNat_natCast, Int.cast_ofNat_Int, call_P, mb64, mbu64, Int.reduceMul, Int.reduceAdd, Int.reduceSub, beq_self_eq_true, Bool.true_beq, Bool.false_beq, Bool.not_not, C_loop, iter_s, iterE_nrm, iterE_ret, iterE_exit, clean_mk, forget, purge, purgeL, w64, false_and, and_false, Int.reduceMod, Int.reduceDiv, Int.reduceTDiv, Int.reduceTMod, decide_true, decide_false, ite_self, out_none, orE_some, orE_none, orE_ite, A_app, appV_im, appE_nil, appE_sl, appRow_some, appE_im, C_loopK, cleanK_mk, cleanS_mk, rowK_eq, kpurge, kpurgeL, posn, srefsL, trefs, rrefs, keepK, memN, Option.getD_some, Bool.true_or, Bool.or_true, Bool.false_or, Bool.or_false, srefs_sl, srefs_v, srefs_p, srefs_f, srefs_im, srefs_agg, srefs_bad, srefs_ifc]
theorem e11r (k : Nat) (hk : 5000 ≤ k) {W H : Int} {l : List Int} {S : LV} (h : Rtx W H l S) (w u v : Int) (b : Bool) (hw : kd w) (hxy : ¬ hot u v) : evP (evF cm (k + 50)) 11 [.agg [.i W, .i H, S], .i u, .i v, .i w, .b b] = some (.tup [z4, .i 3]) := by
  rw [evP_fun (m := c11) rfl _ _ rfl]
  have hat := h.sl.atm
  simp only [atomB, Value.oneCell'] at hat
  have f : evP (evF cm (k + 49)) 22 [.agg [.i W, .i H, S], .i w] = some (.i 0) := e22g (k + 9) (by omega) h w hw
  unfold hot at hxy
  by_cases hx : -65536 ≤ u ∧ u ≤ 65536
  · have q1 := fun k => e18 k u 65536 (by omega)
    have q2 := fun k => e18 k v 65536 (by omega)
    rw [decide_eq_true (by omega)] at q1
    rw [decide_eq_false (fun h => hxy ⟨hx, by omega⟩)] at q2
    simp -implicitDefEqProofs only [c11, z4, hat, h.sl.cl, f, q1, q2, Ops_nil, Ops_cons, putS_mk, gate_t, gate_ff, gate_tf, gate_ft, gate_u, MI_none, MI_some, toNrm_mk, C_skip, C_ret, C_exit, C_reg, seqE_nrm, seqE_ret, seqE_exit, C_seq, condE_t, condE_f, C_cond, blockE_nrm, blockE_ret, blockE_exit, C_block, A_mv, A_pick, A_box, A_ld, A_st, A_fa, A_fld, A_ixa, A_ixs, A_ix, A_bin, A_eqv, A_eqn, A_un, A_conv, A_ext, A_bld, A_bsl, A_mkf, A_ifc, A_nilc, A_len, A_mm, A_call, pickE_t, pickE_f, pickE_bb, withH_mk, ldE_p, ldE_pi, stE_p, faE_p, faE_pi, fldE_agg, ixaE_p, ixaE_pi, ixsE_sl, ixsE_im, ixE_agg, bin_add, bin_sub, bin_mul, bin_quo, bin_rem, bin_and, bin_or, bin_xor, bin_andNot, bin_shl, bin_shr, bin_eql, bin_neq, bin_lss, bin_leq, bin_gtr, bin_geq, eqvE, ofB_mk, eqCells_CB, eqCB, eqAtom, nilQ, evUn, convE_i, extE_0, extE_1, extE_s, aggH_mk, imH_mk, nilc_p, nilc_pi, nilc_f, nilc_ifc, lenE_sl, lenE_im, lenE_nil, mmInt, R_nil, R_t, R_cell, cellE_p, out_ret, out_nrm, finP_mk, ev, getT, setT, putD, LV.cells, closedL, closed, frz, frzL, rowOf_0, rowOf_s, rdAt, putR, fillP, repC, tupOf, atomB, Value.oneCell', List.map_cons, List.map_nil, List.cons_append, List.nil_append, List.append_nil, List.length_cons, List.length_nil, List.set_cons_zero, List.set_cons_succ, List.getElem?_cons_zero, List.getElem?_cons_succ, List.drop_zero, List.drop_succ_cons, List.take_zero, List.take_succ_cons, List.drop_nil, List.take_nil, List.all_cons, List.all_nil, List.replicate_succ, List.replicate_zero, Option.bind_some, Option.map_some, Option.bind_none, Option.map_none, Bool.and_true, Bool.true_and, Bool.and_self, Bool.not_true, Bool.not_false, gate_bt, gate_bf, runMI_mk, condE_b, bind_ite, map_ite, out_ite, decide_eq_true_eq, Bool.false_eq_true, if_true, if_false, Nat.reduceAdd, Nat.reduceMul, Nat.reduceSub, Nat.reduceLT, Nat.reduceLeDiff, Nat.reduceEqDiff, Nat.reducePow, Int.reduceToNat, Int.reduceLT, Int.reduceLE, Int.reduceNeg, Int.reduceEq, Int.reducePow, Nat.add_zero, Nat.zero_add, Nat.mul_one, Nat.mul_zero, Nat.zero_mul, and_self, and_true, true_and, reduceIte, reduceCtorEq, Nat.le_refl, Nat.not_lt_zero, Nat.lt_irrefl, Int.toNat_natCast, Int.cast_ofNat_Int, call_P, mb64, mbu64, Int.reduceMul, Int.reduceAdd, Int.reduceSub, beq_self_eq_true, Bool.true_beq, Bool.false_beq, Bool.not_not, C_loop, iter_s, iterE_nrm, iterE_ret, iterE_exit, clean_mk, forget, purge, purgeL, w64, false_and, and_false, Int.reduceMod, Int.reduceDiv, Int.reduceTDiv, Int.reduceTMod, decide_true, decide_false, ite_self, out_none, orE_some, orE_none, orE_ite, A_app, appV_im, appE_nil, appE_sl, appRow_some, appE_im, C_loopK, cleanK_mk, cleanS_mk, rowK_eq, kpurge, kpurgeL, posn, srefsL, trefs, rrefs, keepK, memN, Option.getD_some, Bool.true_or, Bool.or_true, Bool.false_or, Bool.or_false, srefs_sl, srefs_v, srefs_p, srefs_f, srefs_im, srefs_agg, srefs_bad, srefs_ifc]
  · have q1 := fun k => e18 k u 65536 (by omega)
    rw [decide_eq_false (by omega)] at q1
    simp -implicitDefEqProofs only [c11, z4, hat, h.sl.cl, f, q1, Ops_nil, Ops_cons, putS_mk, gate_t, gate_ff, gate_tf, gate_ft, gate_u, MI_none, MI_some, toNrm_mk, C_skip, C_ret, C_exit, C_reg, seqE_nrm, seqE_ret, seqE_exit, C_seq, condE_t, condE_f, C_cond, blockE_nrm, blockE_ret, blockE_exit, C_block, A_mv, A_pick, A_box, A_ld, A_st, A_fa, A_fld, A_ixa, A_ixs, A_ix, A_bin, A_eqv, A_eqn, A_un, A_conv, A_ext, A_bld, A_bsl, A_mkf, A_ifc, A_nilc, A_len, A_mm, A_call, pickE_t, pickE_f, pickE_bb, withH_mk, ldE_p, ldE_pi, stE_p, faE_p, faE_pi, fldE_agg, ixaE_p, ixaE_pi, ixsE_sl, ixsE_im, ixE_agg, bin_add, bin_sub, bin_mul, bin_quo, bin_rem, bin_and, bin_or, bin_xor, bin_andNot, bin_shl, bin_shr, bin_eql, bin_neq, bin_lss, bin_leq, bin_gtr, bin_geq, eqvE, ofB_mk, eqCells_CB, eqCB, eqAtom, nilQ, evUn, convE_i, extE_0, extE_1, extE_s, aggH_mk, imH_mk, nilc_p, nilc_pi, nilc_f, nilc_ifc, lenE_sl, lenE_im, lenE_nil, mmInt, R_nil, R_t, R_cell, cellE_p, out_ret, out_nrm, finP_mk, ev, getT, setT, putD, LV.cells, closedL, closed, frz, frzL, rowOf_0, rowOf_s, rdAt, putR, fillP, repC, tupOf, atomB, Value.oneCell', List.map_cons, List.map_nil, List.cons_append, List.nil_append, List.append_nil, List.length_cons, List.length_nil, List.set_cons_zero, List.set_cons_succ, List.getElem?_cons_zero, List.getElem?_cons_succ, List.drop_zero, List.drop_succ_cons, List.take_zero, List.take_succ_cons, List.drop_nil, List.take_nil, List.all_cons, List.all_nil, List.replicate_succ, List.replicate_zero, Option.bind_some, Option.map_some, Option.bind_none, Option.map_none, Bool.and_true, Bool.true_and, Bool.and_self, Bool.not_true, Bool.not_false, gate_bt, gate_bf, runMI_mk, condE_b, bind_ite, map_ite, out_ite, decide_eq_true_eq, Bool.false_eq_true, if_true, if_false, Nat.reduceAdd, Nat.reduceMul, Nat.reduceSub, Nat.reduceLT, Nat.reduceLeDiff, Nat.reduceEqDiff, Nat.reducePow, Int.reduceToNat, Int.reduceLT, Int.reduceLE, Int.reduceNeg, Int.reduceEq, Int.reducePow, Nat.add_zero, Nat.zero_add, Nat.mul_one, Nat.mul_zero, Nat.zero_mul, and_self, and_true, true_and, reduceIte, reduceCtorEq, Nat.le_refl, Nat.not_lt_zero, Nat.lt_irrefl, Int.toNat_natCast, Int.cast_ofNat_Int, call_P, mb64, mbu64, Int.reduceMul, Int.reduceAdd, Int.reduceSub, beq_self_eq_true, Bool.true_beq, Bool.false_beq, Bool.not_not, C_loop, iter_s, iterE_nrm, iterE_ret, iterE_exit, clean_mk, forget, purge, purgeL, w64, false_and, and_false, Int.reduceMod, Int.reduceDiv, Int.reduceTDiv, Int.reduceTMod, decide_true, decide_false, ite_self, out_none, orE_some, orE_none, orE_ite, A_app, appV_im, appE_nil, appE_sl, appRow_some, appE_im, C_loopK, cleanK_mk, cleanS_mk, rowK_eq, kpurge, kpurgeL, posn, srefsL, trefs, rrefs, keepK, memN, Option.getD_some, Bool.true_or, Bool.or_true, Bool.false_or, Bool.or_false, srefs_sl, srefs_v, srefs_p, srefs_f, srefs_im, srefs_agg, srefs_bad, srefs_ifc]
theorem e11h (k : Nat) (hk : 5000 ≤ k) {W H : Int} {l : List Int} {S : LV} (h : Rtx W H l S) (w u v : Int) (hw : kd w) (hxy : hot u v) : evP (evF cm (k + 50)) 11 [.agg [.i W, .i H, S], .i u, .i v, .i w, .b false] = some (.tup [colv (tex W H l w (u / 256) (v / 256)), .i 0]) := by
  rw [evP_fun (m := c11) rfl _ _ rfl]
  have hat := h.sl.atm
  simp only [atomB, Value.oneCell'] at hat
  have f : evP (evF cm (k + 49)) 22 [.agg [.i W, .i H, S], .i w] = some (.i 0) := e22g (k + 9) (by omega) h w hw
  unfold hot at hxy
  have q1 := fun k => e18 k u 65536 (by omega)
  have q2 := fun k => e18 k v 65536 (by omega)
  rw [decide_eq_true (by omega)] at q1
  rw [decide_eq_true (by omega)] at q2
  have g := fun k => e24 k h w (u / 256) (v / 256) hw (by omega) (by omega)
  simp -implicitDefEqProofs only [c11, colv, hat, h.sl.cl, f, g, q1, q2, e23, Ops_nil, Ops_cons, putS_mk, gate_t, gate_ff, gate_tf, gate_ft, gate_u, MI_none, MI_some, toNrm_mk, C_skip, C_ret, C_exit, C_reg, seqE_nrm, seqE_ret, seqE_exit, C_seq, condE_t, condE_f, C_cond, blockE_nrm, blockE_ret, blockE_exit, C_block, A_mv, A_pick, A_box, A_ld, A_st, A_fa, A_fld, A_ixa, A_ixs, A_ix, A_bin, A_eqv, A_eqn, A_un, A_conv, A_ext, A_bld, A_bsl, A_mkf, A_ifc, A_nilc, A_len, A_mm, A_call, pickE_t, pickE_f, pickE_bb, withH_mk, ldE_p, ldE_pi, stE_p, faE_p, faE_pi, fldE_agg, ixaE_p, ixaE_pi, ixsE_sl, ixsE_im, ixE_agg, bin_add, bin_sub, bin_mul, bin_quo, bin_rem, bin_and, bin_or, bin_xor, bin_andNot, bin_shl, bin_shr, bin_eql, bin_neq, bin_lss, bin_leq, bin_gtr, bin_geq, eqvE, ofB_mk, eqCells_CB, eqCB, eqAtom, nilQ, evUn, convE_i, extE_0, extE_1, extE_s, aggH_mk, imH_mk, nilc_p, nilc_pi, nilc_f, nilc_ifc, lenE_sl, lenE_im, lenE_nil, mmInt, R_nil, R_t, R_cell, cellE_p, out_ret, out_nrm, finP_mk, ev, getT, setT, putD, LV.cells, closedL, closed, frz, frzL, rowOf_0, rowOf_s, rdAt, putR, fillP, repC, tupOf, atomB, Value.oneCell', List.map_cons, List.map_nil, List.cons_append, List.nil_append, List.append_nil, List.length_cons, List.length_nil, List.set_cons_zero, List.set_cons_succ, List.getElem?_cons_zero, List.getElem?_cons_succ, List.drop_zero, List.drop_succ_cons, List.take_zero, List.take_succ_cons, List.drop_nil, List.take_nil, List.all_cons, List.all_nil, List.replicate_succ, List.replicate_zero, Option.bind_some, Option.map_some, Option.bind_none, Option.map_none, Bool.and_true, Bool.true_and, Bool.and_self, Bool.not_true, Bool.not_false, gate_bt, gate_bf, runMI_mk, condE_b, bind_ite, map_ite, out_ite, decide_eq_true_eq, Bool.false_eq_true, if_true, if_false, Nat.reduceAdd, Nat.reduceMul, Nat.reduceSub, Nat.reduceLT, Nat.reduceLeDiff, Nat.reduceEqDiff, Nat.reducePow, Int.reduceToNat, Int.reduceLT, Int.reduceLE, Int.reduceNeg, Int.reduceEq, Int.reducePow, Nat.add_zero, Nat.zero_add, Nat.mul_one, Nat.mul_zero, Nat.zero_mul, and_self, and_true, true_and, reduceIte, reduceCtorEq, Nat.le_refl, Nat.not_lt_zero, Nat.lt_irrefl, Int.toNat_natCast, Int.cast_ofNat_Int, call_P, mb64, mbu64, Int.reduceMul, Int.reduceAdd, Int.reduceSub, beq_self_eq_true, Bool.true_beq, Bool.false_beq, Bool.not_not, C_loop, iter_s, iterE_nrm, iterE_ret, iterE_exit, clean_mk, forget, purge, purgeL, w64, false_and, and_false, Int.reduceMod, Int.reduceDiv, Int.reduceTDiv, Int.reduceTMod, decide_true, decide_false, ite_self, out_none, orE_some, orE_none, orE_ite, A_app, appV_im, appE_nil, appE_sl, appRow_some, appE_im, C_loopK, cleanK_mk, cleanS_mk, rowK_eq, kpurge, kpurgeL, posn, srefsL, trefs, rrefs, keepK, memN, Option.getD_some, Bool.true_or, Bool.or_true, Bool.false_or, Bool.or_false, srefs_sl, srefs_v, srefs_p, srefs_f, srefs_im, srefs_agg, srefs_bad, srefs_ifc]
theorem e11s (k : Nat) (hk : 5000 ≤ k) {W H : Int} {l : List Int} {S : LV} (h : Rtx W H l S) (w u v : Int) (hw : kd w) (hxy : hot u v) : evP (evF cm (k + 50)) 11 [.agg [.i W, .i H, S], .i u, .i v, .i w, .b true] =
    some (.tup [mixcol (tex W H l w ((u - 128) / 256) ((v - 128) / 256)) (tex W H l w ((u - 128) / 256 + 1) ((v - 128) / 256)) (tex W H l w ((u - 128) / 256) ((v - 128) / 256 + 1)) (tex W H l w ((u - 128) / 256 + 1) ((v - 128) / 256 + 1)) ((u - 128) % 256) ((v - 128) % 256), .i 0]) := by
  rw [evP_fun (m := c11) rfl _ _ rfl]
  have hat := h.sl.atm
  simp only [atomB, Value.oneCell'] at hat
  have f : evP (evF cm (k + 49)) 22 [.agg [.i W, .i H, S], .i w] = some (.i 0) := e22g (k + 9) (by omega) h w hw
  unfold hot at hxy
  have q1 := fun k => e18 k u 65536 (by omega)
  have q2 := fun k => e18 k v 65536 (by omega)
  rw [decide_eq_true (by omega)] at q1
  rw [decide_eq_true (by omega)] at q2
  have g1 := fun k => e24 k h w ((u - 128) / 256) ((v - 128) / 256) hw (by omega) (by omega)
  have g2 := fun k => e24 k h w ((u - 128) / 256 + 1) ((v - 128) / 256) hw (by omega) (by omega)
  have g3 := fun k => e24 k h w ((u - 128) / 256) ((v - 128) / 256 + 1) hw (by omega) (by omega)
  have g4 := fun k => e24 k h w ((u - 128) / 256 + 1) ((v - 128) / 256 + 1) hw (by omega) (by omega)
  have o1 := tex_ok h w ((u - 128) / 256) ((v - 128) / 256)
  have o2 := tex_ok h w ((u - 128) / 256 + 1) ((v - 128) / 256)
  have o3 := tex_ok h w ((u - 128) / 256) ((v - 128) / 256 + 1)
  have o4 := tex_ok h w ((u - 128) / 256 + 1) ((v - 128) / 256 + 1)
  have w1 : IntKind.i64.wrap (u - 128) = u - 128 := w64 _ (by omega) (by omega)
  have w2 : IntKind.i64.wrap (v - 128) = v - 128 := w64 _ (by omega) (by omega)
  have w3 : IntKind.i64.wrap ((u - 128) / 256 + 1) = (u - 128) / 256 + 1 := w64 _ (by omega) (by omega)
  have w4 : IntKind.i64.wrap ((v - 128) / 256 + 1) = (v - 128) / 256 + 1 := w64 _ (by omega) (by omega)
  generalize tex W H l w ((u - 128) / 256) ((v - 128) / 256) = n1 at *
  generalize tex W H l w ((u - 128) / 256 + 1) ((v - 128) / 256) = n2 at *
  generalize tex W H l w ((u - 128) / 256) ((v - 128) / 256 + 1) = n3 at *
  generalize tex W H l w ((u - 128) / 256 + 1) ((v - 128) / 256 + 1) = n4 at *
  have hx := frx (u - 128)
  have hy := frx (v - 128)
  generalize hX : (u - 128) % 256 = x at *
  generalize hY : (v - 128) % 256 = y at *
  obtain ⟨p1, p2, p3, p4, p5⟩ := wts hx hy
  have x1 : IntKind.i64.wrap (256 - x) = 256 - x := by unfold fr at hx; exact w64 _ (by omega) (by omega)
  have x2 : IntKind.i64.wrap (256 - y) = 256 - y := by unfold fr at hy; exact w64 _ (by omega) (by omega)
  have x3 : IntKind.i64.wrap ((256 - x) * (256 - y)) = pa x y := by unfold wt pa at *; exact w64 _ (by omega) (by omega)
  have x4 : IntKind.i64.wrap (x * (256 - y)) = pb x y := by unfold wt pb at *; exact w64 _ (by omega) (by omega)
  have x5 : IntKind.i64.wrap ((256 - x) * y) = pc x y := by unfold wt pc at *; exact w64 _ (by omega) (by omega)
  have x6 : IntKind.i64.wrap (x * y) = pd x y := by unfold wt pd at *; exact w64 _ (by omega) (by omega)
  obtain ⟨r1, b1, c1, a1⟩ := chs o1
  obtain ⟨r2, b2, c2, a2⟩ := chs o2
  obtain ⟨r3, b3, c3, a3⟩ := chs o3
  obtain ⟨r4, b4, c4, a4⟩ := chs o4
  obtain ⟨_, mr⟩ := mixc_ch r1 r2 r3 r4 hx hy
  obtain ⟨_, mb⟩ := mixc_ch b1 b2 b3 b4 hx hy
  obtain ⟨_, mc⟩ := mixc_ch c1 c2 c3 c4 hx hy
  obtain ⟨_, ma⟩ := mixc_ch a1 a2 a3 a4 hx hy
  unfold mixcol mixc
  generalize n1 / 16777216 = R1 at *
  generalize n1 / 65536 % 256 = B1 at *
  generalize n1 / 256 % 256 = C1 at *
  generalize n1 % 256 = A1 at *
  generalize n2 / 16777216 = R2 at *
  generalize n2 / 65536 % 256 = B2 at *
  generalize n2 / 256 % 256 = C2 at *
  generalize n2 % 256 = A2 at *
  generalize n3 / 16777216 = R3 at *
  generalize n3 / 65536 % 256 = B3 at *
  generalize n3 / 256 % 256 = C3 at *
  generalize n3 % 256 = A3 at *
  generalize n4 / 16777216 = R4 at *
  generalize n4 / 65536 % 256 = B4 at *
  generalize n4 / 256 % 256 = C4 at *
  generalize n4 % 256 = A4 at *
  have s0 : sm 0 := by unfold sm; omega
  have sr1 := pw r1 p1; have sb1 := pw b1 p1; have sc1 := pw c1 p1; have sa1 := pw a1 p1
  have sr2 := pw r2 p2; have sb2 := pw b2 p2; have sc2 := pw c2 p2; have sa2 := pw a2 p2
  have sr3 := pw r3 p3; have sb3 := pw b3 p3; have sc3 := pw c3 p3; have sa3 := pw a3 p3
  have f0 := fun k A B => e25_0 k A B 0 0 0 0 R1 B1 C1 A1 (pa x y) s0 s0 s0 s0 r1 b1 c1 a1 p1
  simp only [Int.zero_add] at f0
  have f1 := fun k A B X => e25_1 k A B X (R1 * pa x y) (B1 * pa x y) (C1 * pa x y) (A1 * pa x y) R2 B2 C2 A2 (pb x y) (by unfold sm; omega) (by unfold sm; omega) (by unfold sm; omega) (by unfold sm; omega) r2 b2 c2 a2 p2
  have f2 := fun k A B X Y => e25_2 k A B X Y (R1 * pa x y + R2 * pb x y) (B1 * pa x y + B2 * pb x y) (C1 * pa x y + C2 * pb x y) (A1 * pa x y + A2 * pb x y) R3 B3 C3 A3 (pc x y) (by unfold sm; omega) (by unfold sm; omega) (by unfold sm; omega) (by unfold sm; omega) r3 b3 c3 a3 p3
  have f3 := fun k A B X Y Z => e25_3 k A B X Y Z (R1 * pa x y + R2 * pb x y + R3 * pc x y) (B1 * pa x y + B2 * pb x y + B3 * pc x y) (C1 * pa x y + C2 * pb x y + C3 * pc x y) (A1 * pa x y + A2 * pb x y + A3 * pc x y) R4 B4 C4 A4 (pd x y) (by unfold sm; omega) (by unfold sm; omega) (by unfold sm; omega) (by unfold sm; omega) r4 b4 c4 a4 p4
  have d1 := fun k => e26 k (R1 * pa x y + R2 * pb x y + R3 * pc x y + R4 * pd x y) (by omega)
  have d2 := fun k => e26 k (B1 * pa x y + B2 * pb x y + B3 * pc x y + B4 * pd x y) (by omega)
  have d3 := fun k => e26 k (C1 * pa x y + C2 * pb x y + C3 * pc x y + C4 * pd x y) (by omega)
  have d4 := fun k => e26 k (A1 * pa x y + A2 * pb x y + A3 * pc x y + A4 * pd x y) (by omega)
  have t23u := fun k => e23 k (u - 128)
  have t23v := fun k => e23 k (v - 128)
  rw [hX] at t23u
  rw [hY] at t23v
  simp -implicitDefEqProofs (maxSteps := 8000000) only [c11, hat, h.sl.cl, f, g1, g2, g3, g4, q1, q2, w1, w2, w3, w4, t23u, t23v, x1, x2, x3, x4, x5, x6, f0, f1, f2, f3, d1, d2, d3, d4, call_S, Ops_nil, Ops_cons, putS_mk, gate_t, gate_ff, gate_tf, gate_ft, gate_u, MI_none, MI_some, toNrm_mk, C_skip, C_ret, C_exit, C_reg, seqE_nrm, seqE_ret, seqE_exit, C_seq, condE_t, condE_f, C_cond, blockE_nrm, blockE_ret, blockE_exit, C_block, A_mv, A_pick, A_box, A_ld, A_st, A_fa, A_fld, A_ixa, A_ixs, A_ix, A_bin, A_eqv, A_eqn, A_un, A_conv, A_ext, A_bld, A_bsl, A_mkf, A_ifc, A_nilc, A_len, A_mm, A_call, pickE_t, pickE_f, pickE_bb, withH_mk, ldE_p, ldE_pi, stE_p, faE_p, faE_pi, fldE_agg, ixaE_p, ixaE_pi, ixsE_sl, ixsE_im, ixE_agg, bin_add, bin_sub, bin_mul, bin_quo, bin_rem, bin_and, bin_or, bin_xor, bin_andNot, bin_shl, bin_shr, bin_eql, bin_neq, bin_lss, bin_leq, bin_gtr, bin_geq, eqvE, ofB_mk, eqCells_CB, eqCB, eqAtom, nilQ, evUn, convE_i, extE_0, extE_1, extE_s, aggH_mk, imH_mk, nilc_p, nilc_pi, nilc_f, nilc_ifc, lenE_sl, lenE_im, lenE_nil, mmInt, R_nil, R_t, R_cell, cellE_p, out_ret, out_nrm, finP_mk, ev, getT, setT, putD, LV.cells, closedL, closed, frz, frzL, rowOf_0, rowOf_s, rdAt, putR, fillP, repC, tupOf, atomB, Value.oneCell', List.map_cons, List.map_nil, List.cons_append, List.nil_append, List.append_nil, List.length_cons, List.length_nil, List.set_cons_zero, List.set_cons_succ, List.getElem?_cons_zero, List.getElem?_cons_succ, List.drop_zero, List.drop_succ_cons, List.take_zero, List.take_succ_cons, List.drop_nil, List.take_nil, List.all_cons, List.all_nil, List.replicate_succ, List.replicate_zero, Option.bind_some, Option.map_some, Option.bind_none, Option.map_none, Bool.and_true, Bool.true_and, Bool.and_self, Bool.not_true, Bool.not_false, gate_bt, gate_bf, runMI_mk, condE_b, bind_ite, map_ite, out_ite, decide_eq_true_eq, Bool.false_eq_true, if_true, if_false, Nat.reduceAdd, Nat.reduceMul, Nat.reduceSub, Nat.reduceLT, Nat.reduceLeDiff, Nat.reduceEqDiff, Nat.reducePow, Int.reduceToNat, Int.reduceLT, Int.reduceLE, Int.reduceNeg, Int.reduceEq, Int.reducePow, Nat.add_zero, Nat.zero_add, Nat.mul_one, Nat.mul_zero, Nat.zero_mul, and_self, and_true, true_and, reduceIte, reduceCtorEq, Nat.le_refl, Nat.not_lt_zero, Nat.lt_irrefl, Int.toNat_natCast, Int.cast_ofNat_Int, call_P, mb64, mbu64, Int.reduceMul, Int.reduceAdd, Int.reduceSub, beq_self_eq_true, Bool.true_beq, Bool.false_beq, Bool.not_not, C_loop, iter_s, iterE_nrm, iterE_ret, iterE_exit, clean_mk, forget, purge, purgeL, w64, false_and, and_false, Int.reduceMod, Int.reduceDiv, Int.reduceTDiv, Int.reduceTMod, decide_true, decide_false, ite_self, out_none, orE_some, orE_none, orE_ite, A_app, appV_im, appE_nil, appE_sl, appRow_some, appE_im, C_loopK, cleanK_mk, cleanS_mk, rowK_eq, kpurge, kpurgeL, posn, srefsL, trefs, rrefs, keepK, memN, Option.getD_some, Bool.true_or, Bool.or_true, Bool.false_or, Bool.or_false, srefs_sl, srefs_v, srefs_p, srefs_f, srefs_im, srefs_agg, srefs_bad, srefs_ifc]
theorem e16h (k : Nat) {W H : Int} {l : List Int} {S : LV} (h : Rtx W H l S) (w u v : Int) (hw : kd w) (hxy : hot u v) : evP (evF cm (k + 50)) 16 [.agg [.i W, .i H, S], .i u, .i v, .i w, .b false] = some (colv (tex W H l w (u / 256) (v / 256))) := by
  rw [evP_fun (m := c16) rfl _ _ rfl]
  have hat := h.sl.atm
  simp only [atomB, Value.oneCell'] at hat
  unfold hot at hxy
  have g := fun k => e15 k h w (u / 256) (v / 256) hw (by omega) (by omega)
  have d1 := fun k => e10 k u 256 (by omega) (by omega) (by omega)
  have d2 := fun k => e10 k v 256 (by omega) (by omega) (by omega)
  simp -implicitDefEqProofs only [c16, colv, hat, h.sl.cl, g, d1, d2, Ops_nil, Ops_cons, putS_mk, gate_t, gate_ff, gate_tf, gate_ft, gate_u, MI_none, MI_some, toNrm_mk, C_skip, C_ret, C_exit, C_reg, seqE_nrm, seqE_ret, seqE_exit, C_seq, condE_t, condE_f, C_cond, blockE_nrm, blockE_ret, blockE_exit, C_block, A_mv, A_pick, A_box, A_ld, A_st, A_fa, A_fld, A_ixa, A_ixs, A_ix, A_bin, A_eqv, A_eqn, A_un, A_conv, A_ext, A_bld, A_bsl, A_mkf, A_ifc, A_nilc, A_len, A_mm, A_call, pickE_t, pickE_f, pickE_bb, withH_mk, ldE_p, ldE_pi, stE_p, faE_p, faE_pi, fldE_agg, ixaE_p, ixaE_pi, ixsE_sl, ixsE_im, ixE_agg, bin_add, bin_sub, bin_mul, bin_quo, bin_rem, bin_and, bin_or, bin_xor, bin_andNot, bin_shl, bin_shr, bin_eql, bin_neq, bin_lss, bin_leq, bin_gtr, bin_geq, eqvE, ofB_mk, eqCells_CB, eqCB, eqAtom, nilQ, evUn, convE_i, extE_0, extE_1, extE_s, aggH_mk, imH_mk, nilc_p, nilc_pi, nilc_f, nilc_ifc, lenE_sl, lenE_im, lenE_nil, mmInt, R_nil, R_t, R_cell, cellE_p, out_ret, out_nrm, finP_mk, ev, getT, setT, putD, LV.cells, closedL, closed, frz, frzL, rowOf_0, rowOf_s, rdAt, putR, fillP, repC, tupOf, atomB, Value.oneCell', List.map_cons, List.map_nil, List.cons_append, List.nil_append, List.append_nil, List.length_cons, List.length_nil, List.set_cons_zero, List.set_cons_succ, List.getElem?_cons_zero, List.getElem?_cons_succ, List.drop_zero, List.drop_succ_cons, List.take_zero, List.take_succ_cons, List.drop_nil, List.take_nil, List.all_cons, List.all_nil, List.replicate_succ, List.replicate_zero, Option.bind_some, Option.map_some, Option.bind_none, Option.map_none, Bool.and_true, Bool.true_and, Bool.and_self, Bool.not_true, Bool.not_false, gate_bt, gate_bf, runMI_mk, condE_b, bind_ite, map_ite, out_ite, decide_eq_true_eq, Bool.false_eq_true, if_true, if_false, Nat.reduceAdd, Nat.reduceMul, Nat.reduceSub, Nat.reduceLT, Nat.reduceLeDiff, Nat.reduceEqDiff, Nat.reducePow, Int.reduceToNat, Int.reduceLT, Int.reduceLE, Int.reduceNeg, Int.reduceEq, Int.reducePow, Nat.add_zero, Nat.zero_add, Nat.mul_one, Nat.mul_zero, Nat.zero_mul, and_self, and_true, true_and, reduceIte, reduceCtorEq, Nat.le_refl, Nat.not_lt_zero, Nat.lt_irrefl, Int.toNat_natCast, Int.cast_ofNat_Int, call_P, mb64, mbu64, Int.reduceMul, Int.reduceAdd, Int.reduceSub, beq_self_eq_true, Bool.true_beq, Bool.false_beq, Bool.not_not, C_loop, iter_s, iterE_nrm, iterE_ret, iterE_exit, clean_mk, forget, purge, purgeL, w64, false_and, and_false, Int.reduceMod, Int.reduceDiv, Int.reduceTDiv, Int.reduceTMod, decide_true, decide_false, ite_self, out_none, orE_some, orE_none, orE_ite, A_app, appV_im, appE_nil, appE_sl, appRow_some, appE_im, C_loopK, cleanK_mk, cleanS_mk, rowK_eq, kpurge, kpurgeL, posn, srefsL, trefs, rrefs, keepK, memN, Option.getD_some, Bool.true_or, Bool.or_true, Bool.false_or, Bool.or_false, srefs_sl, srefs_v, srefs_p, srefs_f, srefs_im, srefs_agg, srefs_bad, srefs_ifc]
theorem e16s (k : Nat) {W H : Int} {l : List Int} {S : LV} (h : Rtx W H l S) (w u v : Int) (hw : kd w) (hxy : hot u v) : evP (evF cm (k + 50)) 16 [.agg [.i W, .i H, S], .i u, .i v, .i w, .b true] =
    some (mixcol (tex W H l w ((u - 128) / 256) ((v - 128) / 256)) (tex W H l w ((u - 128) / 256 + 1) ((v - 128) / 256)) (tex W H l w ((u - 128) / 256) ((v - 128) / 256 + 1)) (tex W H l w ((u - 128) / 256 + 1) ((v - 128) / 256 + 1)) ((u - 128) % 256) ((v - 128) % 256)) := by
  rw [evP_fun (m := c16) rfl _ _ rfl]
  have hat := h.sl.atm
  simp only [atomB, Value.oneCell'] at hat
  unfold hot at hxy
  have g1 := fun k => e15 k h w ((u - 128) / 256) ((v - 128) / 256) hw (by omega) (by omega)
  have g2 := fun k => e15 k h w ((u - 128) / 256 + 1) ((v - 128) / 256) hw (by omega) (by omega)
  have g3 := fun k => e15 k h w ((u - 128) / 256) ((v - 128) / 256 + 1) hw (by omega) (by omega)
  have g4 := fun k => e15 k h w ((u - 128) / 256 + 1) ((v - 128) / 256 + 1) hw (by omega) (by omega)
  have o1 := tex_ok h w ((u - 128) / 256) ((v - 128) / 256)
  have o2 := tex_ok h w ((u - 128) / 256 + 1) ((v - 128) / 256)
  have o3 := tex_ok h w ((u - 128) / 256) ((v - 128) / 256 + 1)
  have o4 := tex_ok h w ((u - 128) / 256 + 1) ((v - 128) / 256 + 1)
  have w1 : IntKind.i64.wrap (u - 128) = u - 128 := w64 _ (by omega) (by omega)
  have w2 : IntKind.i64.wrap (v - 128) = v - 128 := w64 _ (by omega) (by omega)
  have w3 : IntKind.i64.wrap ((u - 128) / 256 + 1) = (u - 128) / 256 + 1 := w64 _ (by omega) (by omega)
  have w4 : IntKind.i64.wrap ((v - 128) / 256 + 1) = (v - 128) / 256 + 1 := w64 _ (by omega) (by omega)
  have w5 : IntKind.i64.wrap (u - 128 - IntKind.i64.wrap (256 * ((u - 128) / 256))) = (u - 128) % 256 := by rw [w64 (256 * ((u - 128) / 256)) (by omega) (by omega), w64 _ (by omega) (by omega)]; omega
  have w6 : IntKind.i64.wrap (v - 128 - IntKind.i64.wrap (256 * ((v - 128) / 256))) = (v - 128) % 256 := by rw [w64 (256 * ((v - 128) / 256)) (by omega) (by omega), w64 _ (by omega) (by omega)]; omega
  have d1 := fun k => e10 k (u - 128) 256 (by omega) (by omega) (by omega)
  have d2 := fun k => e10 k (v - 128) 256 (by omega) (by omega) (by omega)
  generalize tex W H l w ((u - 128) / 256) ((v - 128) / 256) = n1 at *
  generalize tex W H l w ((u - 128) / 256 + 1) ((v - 128) / 256) = n2 at *
  generalize tex W H l w ((u - 128) / 256) ((v - 128) / 256 + 1) = n3 at *
  generalize tex W H l w ((u - 128) / 256 + 1) ((v - 128) / 256 + 1) = n4 at *
  have hx := frx (u - 128)
  have hy := frx (v - 128)
  obtain ⟨r1, b1, c1, a1⟩ := chs o1
  obtain ⟨r2, b2, c2, a2⟩ := chs o2
  obtain ⟨r3, b3, c3, a3⟩ := chs o3
  obtain ⟨r4, b4, c4, a4⟩ := chs o4
  have m1 := fun k => e28 k _ _ _ _ _ _ r1 r2 r3 r4 hx hy
  have m2 := fun k => e28 k _ _ _ _ _ _ b1 b2 b3 b4 hx hy
  have m3 := fun k => e28 k _ _ _ _ _ _ c1 c2 c3 c4 hx hy
  have m4 := fun k => e28 k _ _ _ _ _ _ a1 a2 a3 a4 hx hy
  simp -implicitDefEqProofs (maxSteps := 8000000) only [c16, mixcol, hat, h.sl.cl, g1, g2, g3, g4, w1, w2, w3, w4, w5, w6, d1, d2, m1, m2, m3, m4, Ops_nil, Ops_cons, putS_mk, gate_t, gate_ff, gate_tf, gate_ft, gate_u, MI_none, MI_some, toNrm_mk, C_skip, C_ret, C_exit, C_reg, seqE_nrm, seqE_ret, seqE_exit, C_seq, condE_t, condE_f, C_cond, blockE_nrm, blockE_ret, blockE_exit, C_block, A_mv, A_pick, A_box, A_ld, A_st, A_fa, A_fld, A_ixa, A_ixs, A_ix, A_bin, A_eqv, A_eqn, A_un, A_conv, A_ext, A_bld, A_bsl, A_mkf, A_ifc, A_nilc, A_len, A_mm, A_call, pickE_t, pickE_f, pickE_bb, withH_mk, ldE_p, ldE_pi, stE_p, faE_p, faE_pi, fldE_agg, ixaE_p, ixaE_pi, ixsE_sl, ixsE_im, ixE_agg, bin_add, bin_sub, bin_mul, bin_quo, bin_rem, bin_and, bin_or, bin_xor, bin_andNot, bin_shl, bin_shr, bin_eql, bin_neq, bin_lss, bin_leq, bin_gtr, bin_geq, eqvE, ofB_mk, eqCells_CB, eqCB, eqAtom, nilQ, evUn, convE_i, extE_0, extE_1, extE_s, aggH_mk, imH_mk, nilc_p, nilc_pi, nilc_f, nilc_ifc, lenE_sl, lenE_im, lenE_nil, mmInt, R_nil, R_t, R_cell, cellE_p, out_ret, out_nrm, finP_mk, ev, getT, setT, putD, LV.cells, closedL, closed, frz, frzL, rowOf_0, rowOf_s, rdAt, putR, fillP, repC, tupOf, atomB, Value.oneCell', List.map_cons, List.map_nil, List.cons_append, List.nil_append, List.append_nil, List.length_cons, List.length_nil, List.set_cons_zero, List.set_cons_succ, List.getElem?_cons_zero, List.getElem?_cons_succ, List.drop_zero, List.drop_succ_cons, List.take_zero, List.take_succ_cons, List.drop_nil, List.take_nil, List.all_cons, List.all_nil, List.replicate_succ, List.replicate_zero, Option.bind_some, Option.map_some, Option.bind_none, Option.map_none, Bool.and_true, Bool.true_and, Bool.and_self, Bool.not_true, Bool.not_false, gate_bt, gate_bf, runMI_mk, condE_b, bind_ite, map_ite, out_ite, decide_eq_true_eq, Bool.false_eq_true, if_true, if_false, Nat.reduceAdd, Nat.reduceMul, Nat.reduceSub, Nat.reduceLT, Nat.reduceLeDiff, Nat.reduceEqDiff, Nat.reducePow, Int.reduceToNat, Int.reduceLT, Int.reduceLE, Int.reduceNeg, Int.reduceEq, Int.reducePow, Nat.add_zero, Nat.zero_add, Nat.mul_one, Nat.mul_zero, Nat.zero_mul, and_self, and_true, true_and, reduceIte, reduceCtorEq, Nat.le_refl, Nat.not_lt_zero, Nat.lt_irrefl, Int.toNat_natCast, Int.cast_ofNat_Int, call_P, mb64, mbu64, Int.reduceMul, Int.reduceAdd, Int.reduceSub, beq_self_eq_true, Bool.true_beq, Bool.false_beq, Bool.not_not, C_loop, iter_s, iterE_nrm, iterE_ret, iterE_exit, clean_mk, forget, purge, purgeL, w64, false_and, and_false, Int.reduceMod, Int.reduceDiv, Int.reduceTDiv, Int.reduceTMod, decide_true, decide_false, ite_self, out_none, orE_some, orE_none, orE_ite, A_app, appV_im, appE_nil, appE_sl, appRow_some, appE_im, C_loopK, cleanK_mk, cleanS_mk, rowK_eq, kpurge, kpurgeL, posn, srefsL, trefs, rrefs, keepK, memN, Option.getD_some, Bool.true_or, Bool.or_true, Bool.false_or, Bool.or_false, srefs_sl, srefs_v, srefs_p, srefs_f, srefs_im, srefs_agg, srefs_bad, srefs_ifc]
end Go.Proofs.Ytmbhpgknkemgeaa
