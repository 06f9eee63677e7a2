/- The rules of the evaluator, under one name. -/
import Derived.Test.YtjgnjpbplnmdmaaEng19
namespace Go.Proofs.Ytjgnjpbplnmdmaa
open Go
/-! ### atoms and cells, one rule for each form -/
section
variable {x : Value} {k v o n e c : Nat} {g : FuncId} {l : List LV} {b : Bool} {t : TypeId} {y : LV} {kd : IntKind} {i : Int}
theorem atomB_v : atomB (.v x) = x.oneCell' := rfl
theorem atomB_p : atomB (.p k v o) = true := rfl
theorem atomB_f : atomB (.f g l) = true := rfl
theorem atomB_sl : atomB (.sl k v o n e c) = true := rfl
theorem atomB_im : atomB (.im l n b) = true := rfl
theorem atomB_pi : atomB (.pi l) = true := rfl
theorem atomB_agg : atomB (.agg l) = false := rfl
theorem atomB_tup : atomB (.tup l) = false := rfl
theorem atomB_ifc : atomB (.ifc t y) = true := rfl
theorem atomB_bad : atomB .bad = false := rfl
theorem cells_v : LV.cells (.v x) = [.v x] := rfl
theorem cells_p : LV.cells (.p k v o) = [.p k v o] := rfl
theorem cells_f : LV.cells (.f g l) = [.f g l] := rfl
theorem cells_sl : LV.cells (.sl k v o n e c) = [.sl k v o n e c] := rfl
theorem cells_im : LV.cells (.im l n b) = [.im l n b] := rfl
theorem cells_pi : LV.cells (.pi l) = [.pi l] := rfl
theorem cells_agg : LV.cells (.agg l) = l := rfl
theorem cells_tup : LV.cells (.tup l) = [.tup l] := rfl
theorem cells_ifc : LV.cells (.ifc t y) = [.ifc t y] := rfl
theorem cells_bad : LV.cells .bad = [.bad] := rfl
theorem one_int : (Value.int kd i).oneCell' = true := rfl
theorem one_bool : (Value.bool b).oneCell' = true := rfl
theorem one_string {s : ByteArray} : (Value.string s).oneCell' = true := rfl
theorem one_pointer {a : Option Addr} : (Value.pointer a).oneCell' = true := rfl
theorem one_slice {a : Option Addr} : (Value.slice a n c).oneCell' = true := rfl
theorem one_map {a : Option Nat} : (Value.map a).oneCell' = true := rfl
theorem one_nilFunc : Value.nilFunc.oneCell' = true := rfl
theorem one_nilIface : Value.nilIface.oneCell' = true := rfl
theorem one_undef : undef.oneCell' = false := rfl
end
attribute [push_cast] atomB_v atomB_p atomB_f atomB_sl atomB_im atomB_pi atomB_agg atomB_tup atomB_ifc atomB_bad cells_v cells_p cells_f cells_sl cells_im cells_pi cells_agg cells_tup cells_ifc cells_bad
attribute [push_cast] one_int one_bool one_string one_pointer one_slice one_map one_nilFunc one_nilIface one_undef
attribute [push_cast] Ops_nil Ops_cons putS_mk gate_t gate_ff gate_tf gate_ft gate_u MI_none MI_some toNrm_mk C_skip
attribute [push_cast] C_ret C_exit C_reg seqE_nrm seqE_ret seqE_exit C_seq condE_t condE_f C_cond blockE_nrm blockE_ret
attribute [push_cast] blockE_exit C_block A_mv A_pick A_box A_ld A_st A_fa A_fld A_ixa A_ixs A_ix
attribute [push_cast] A_bin A_eqv A_eqn A_un A_conv A_ext A_bld A_bsl A_mkf A_ifc A_nilc A_len
attribute [push_cast] A_mm A_call pickE_t pickE_f pickE_bb withH_mk ldE_p ldE_pi stE_p faE_p faE_pi fldE_agg
attribute [push_cast] ixaE_p ixaE_pi ixsE_sl ixsE_im ixE_agg bin_add bin_sub bin_mul bin_quo bin_rem bin_and bin_or
attribute [push_cast] bin_xor bin_andNot bin_shl bin_shr bin_eql bin_neq bin_lss bin_leq bin_gtr bin_geq eqvE ofB_mk
attribute [push_cast] eqCells_CB eqCB eqAtom nilQ evUn convE_i extE_0 extE_1 extE_s aggH_mk imH_mk nilc_p
attribute [push_cast] nilc_pi nilc_f nilc_ifc lenE_sl lenE_im lenE_nil mmInt R_nil R_t R_cell cellE_p out_ret
attribute [push_cast] out_nrm finP_mk ev getT setT putD closedL closed frz frzL rowOf_0
attribute [push_cast] rowOf_s rdAt putR fillP repC tupOf List.map_cons List.map_nil List.cons_append List.nil_append
attribute [push_cast] List.append_nil List.length_cons List.length_nil List.set_cons_zero List.set_cons_succ List.getElem?_cons_zero List.getElem?_cons_succ List.drop_zero List.drop_succ_cons List.take_zero List.take_succ_cons List.drop_nil
attribute [push_cast] List.take_nil List.all_cons List.all_nil List.replicate_succ List.replicate_zero Option.bind_some Option.map_some Option.bind_none Option.map_none Bool.and_true Bool.true_and Bool.and_self
attribute [push_cast] Bool.not_true Bool.not_false gate_bt gate_bf runMI_mk condE_b bind_ite map_ite out_ite decide_eq_true_eq Bool.false_eq_true if_true
attribute [push_cast] if_false Nat.add_zero Nat.zero_add Nat.mul_one Nat.mul_zero Nat.zero_mul and_self and_true true_and Nat.le_refl Nat.not_lt_zero Nat.lt_irrefl
attribute [push_cast] Int.toNat_natCast Int.cast_ofNat_Int call_P mb64 mbu64 beq_self_eq_true Bool.true_beq Bool.false_beq Bool.not_not C_loop iterE_nrm iterE_ret
attribute [push_cast] iterE_exit clean_mk forget purge purgeL w64 false_and and_false decide_true decide_false ite_self out_none
attribute [push_cast] orE_some orE_none orE_ite A_app appE_nil appE_sl appRow_some appE_im C_loopK cleanK_mk cleanS_mk rowK_eq
attribute [push_cast] kpurge kpurgeL posn srefsL trefs rrefs keepK memN Option.getD_some Bool.true_or Bool.or_true Bool.false_or
attribute [push_cast] Bool.or_false srefs_sl srefs_v srefs_p srefs_f srefs_im srefs_agg srefs_bad srefs_ifc C_regS HS_nil HS_cons
attribute [push_cast] hsK_mk poisA poisC inP inPs lookP_nil lookP_cons rows_p rows_nil isSt stIn A_slc slcE_some intV_int bnd_none bnd_some part_sl
attribute [push_cast] part_nil lenN_sl lenN_im lenN_v A_sap sapE_sl sapE_im A_mks mksE_int C_stuck C_loopN cleanN_mk
attribute [push_cast] A_stk A_inv invE_ifc invK_some lookT_cons A_tas tasE_ifc tasE_nil A_clr clrE_sl clrE_nil clrE_im
attribute [push_cast] clrR_some maxE_none maxE_some maxI_int partR_n partR_s part_im_n part_im_s appK_mk news_im news_nil news_sl
attribute [push_cast] newsR_some not_succ_le Option.getD_none addR_mk addM_mk hmQ_mk hmP_mk hmR_mk hmM_mk HM_nil HM_p HM_m
attribute [push_cast] HM_r mkK_int Mk_mk hmK_mk C_regM cntM_p cntM_m cntM_r cntM_nil rdP_p rdP_pi rdP_v
attribute [push_cast] rdS_sl rdS_im rdS_v rdC_f rds_ld rds_slc rds_call rds_mv rds_pick rds_fa rds_fld rds_ixa
attribute [push_cast] rds_ixs rds_ix rds_bin rds_eqv rds_eqn rds_un rds_conv rds_ext rds_bld rds_bsl rds_mkf rds_ifc
attribute [push_cast] rds_nilc rds_len rds_lenS rds_mm rds_sap rds_tas muts_st muts_app muts_clr muts_box muts_mks muts_call
attribute [push_cast] muts_inv muts_ld muts_slc okRM_nil okRM_cons okRM1_nil okRM1_e okRM1_s okRM1_n disj C_alt altE_some
attribute [push_cast] altE_none altE_ite muI_some muI_none muI_ite muC_f muT_some muV_ifc isoC_some isoC_none isoF_some isoF_none
attribute [push_cast] impE_some impE_none orE_q shL shLs shR noim noimL noimR hmS_mk HM_q cntM_q
attribute [push_cast] sstE_mk A_sst bstR_some bstE_sl bstE_nil bytesE_nil bytesE_cons A_bst rds_sst muts_bst
attribute [push_cast high] call_X iso_X
end Go.Proofs.Ytjgnjpbplnmdmaa
