/- The rules for going through code, in one place. -/
import Derived.Test.YtajdklfckcgifaaGreatDenG2
set_option linter.unusedSectionVars false
set_option linter.unusedVariables false
set_option linter.unusedSimpArgs false
set_option linter.defProp false
set_option linter.unusedVariables false
set_option linter.unusedSimpArgs false
namespace Den
open Go

section
variable (O : Mo) (B : Ms) (F : List ABlk) (i off : Nat) (cs cells : List AV) (rest : List (Nat × Nat × Opd)) (le : List AV)
theorem bd1_int (k : IntKind) (n : Int) : bldC (.int k n) off 1 cells rest le = gA (decide (off < cells.length)) (buildA le (cells.set off (.int k n)) rest) := g_bd1 _ _ _ _ _ (one_int _ _)
theorem st1_int (k : IntKind) (n : Int) : stTop (some (.arr cs)) 1 off (.int k n) O B F i = gA (decide (off < cs.length) && AV.low (B.length + 1 + 1) (.int k n)) (some (O, B ++ [F.set i (.arr (cs.set off (.int k n)))])) := g_st1 _ _ _ _ _ _ _ (one_int _ _)
theorem bx1_int (k : IntKind) (n : Int) : boxC 1 false (.int k n) O (B ++ [F]) = gA (AV.low (B.length + 1 + 1) (.int k n)) (some (.ref (B.length + 1) F.length 0, O, B ++ [F ++ [.arr [(.int k n)]]])) := g_box1 _ _ _ _ (one_int _ _)
theorem bd1_bool (b : Bool) : bldC (.bool b) off 1 cells rest le = gA (decide (off < cells.length)) (buildA le (cells.set off (.bool b)) rest) := g_bd1 _ _ _ _ _ (one_bool _)
theorem st1_bool (b : Bool) : stTop (some (.arr cs)) 1 off (.bool b) O B F i = gA (decide (off < cs.length) && AV.low (B.length + 1 + 1) (.bool b)) (some (O, B ++ [F.set i (.arr (cs.set off (.bool b)))])) := g_st1 _ _ _ _ _ _ _ (one_bool _)
theorem bx1_bool (b : Bool) : boxC 1 false (.bool b) O (B ++ [F]) = gA (AV.low (B.length + 1 + 1) (.bool b)) (some (.ref (B.length + 1) F.length 0, O, B ++ [F ++ [.arr [(.bool b)]]])) := g_box1 _ _ _ _ (one_bool _)
theorem bd1_str (s : List UInt8) : bldC (.str s) off 1 cells rest le = gA (decide (off < cells.length)) (buildA le (cells.set off (.str s)) rest) := g_bd1 _ _ _ _ _ (one_str _)
theorem st1_str (s : List UInt8) : stTop (some (.arr cs)) 1 off (.str s) O B F i = gA (decide (off < cs.length) && AV.low (B.length + 1 + 1) (.str s)) (some (O, B ++ [F.set i (.arr (cs.set off (.str s)))])) := g_st1 _ _ _ _ _ _ _ (one_str _)
theorem bx1_str (s : List UInt8) : boxC 1 false (.str s) O (B ++ [F]) = gA (AV.low (B.length + 1 + 1) (.str s)) (some (.ref (B.length + 1) F.length 0, O, B ++ [F ++ [.arr [(.str s)]]])) := g_box1 _ _ _ _ (one_str _)
theorem bd1_nils  : bldC .nils off 1 cells rest le = gA (decide (off < cells.length)) (buildA le (cells.set off .nils) rest) := g_bd1 _ _ _ _ _ one_nils
theorem st1_nils  : stTop (some (.arr cs)) 1 off .nils O B F i = gA (decide (off < cs.length) && AV.low (B.length + 1 + 1) .nils) (some (O, B ++ [F.set i (.arr (cs.set off .nils))])) := g_st1 _ _ _ _ _ _ _ one_nils
theorem bx1_nils  : boxC 1 false .nils O (B ++ [F]) = gA (AV.low (B.length + 1 + 1) .nils) (some (.ref (B.length + 1) F.length 0, O, B ++ [F ++ [.arr [.nils]]])) := g_box1 _ _ _ _ one_nils
theorem bd1_nilp  : bldC .nilp off 1 cells rest le = gA (decide (off < cells.length)) (buildA le (cells.set off .nilp) rest) := g_bd1 _ _ _ _ _ one_nilp
theorem st1_nilp  : stTop (some (.arr cs)) 1 off .nilp O B F i = gA (decide (off < cs.length) && AV.low (B.length + 1 + 1) .nilp) (some (O, B ++ [F.set i (.arr (cs.set off .nilp))])) := g_st1 _ _ _ _ _ _ _ one_nilp
theorem bx1_nilp  : boxC 1 false .nilp O (B ++ [F]) = gA (AV.low (B.length + 1 + 1) .nilp) (some (.ref (B.length + 1) F.length 0, O, B ++ [F ++ [.arr [.nilp]]])) := g_box1 _ _ _ _ one_nilp
theorem bd1_nili  : bldC .nili off 1 cells rest le = gA (decide (off < cells.length)) (buildA le (cells.set off .nili) rest) := g_bd1 _ _ _ _ _ one_nili
theorem st1_nili  : stTop (some (.arr cs)) 1 off .nili O B F i = gA (decide (off < cs.length) && AV.low (B.length + 1 + 1) .nili) (some (O, B ++ [F.set i (.arr (cs.set off .nili))])) := g_st1 _ _ _ _ _ _ _ one_nili
theorem bx1_nili  : boxC 1 false .nili O (B ++ [F]) = gA (AV.low (B.length + 1 + 1) .nili) (some (.ref (B.length + 1) F.length 0, O, B ++ [F ++ [.arr [.nili]]])) := g_box1 _ _ _ _ one_nili
theorem bd1_ref (d k o : Nat) : bldC (.ref d k o) off 1 cells rest le = gA (decide (off < cells.length)) (buildA le (cells.set off (.ref d k o)) rest) := g_bd1 _ _ _ _ _ (one_ref _ _ _)
theorem st1_ref (d k o : Nat) : stTop (some (.arr cs)) 1 off (.ref d k o) O B F i = gA (decide (off < cs.length) && AV.low (B.length + 1 + 1) (.ref d k o)) (some (O, B ++ [F.set i (.arr (cs.set off (.ref d k o)))])) := g_st1 _ _ _ _ _ _ _ (one_ref _ _ _)
theorem bx1_ref (d k o : Nat) : boxC 1 false (.ref d k o) O (B ++ [F]) = gA (AV.low (B.length + 1 + 1) (.ref d k o)) (some (.ref (B.length + 1) F.length 0, O, B ++ [F ++ [.arr [(.ref d k o)]]])) := g_box1 _ _ _ _ (one_ref _ _ _)
theorem bd1_sref (d k o l c : Nat) : bldC (.sref d k o l c) off 1 cells rest le = gA (decide (off < cells.length)) (buildA le (cells.set off (.sref d k o l c)) rest) := g_bd1 _ _ _ _ _ (one_sref _ _ _ _ _)
theorem st1_sref (d k o l c : Nat) : stTop (some (.arr cs)) 1 off (.sref d k o l c) O B F i = gA (decide (off < cs.length) && AV.low (B.length + 1 + 1) (.sref d k o l c)) (some (O, B ++ [F.set i (.arr (cs.set off (.sref d k o l c)))])) := g_st1 _ _ _ _ _ _ _ (one_sref _ _ _ _ _)
theorem bx1_sref (d k o l c : Nat) : boxC 1 false (.sref d k o l c) O (B ++ [F]) = gA (AV.low (B.length + 1 + 1) (.sref d k o l c)) (some (.ref (B.length + 1) F.length 0, O, B ++ [F ++ [.arr [(.sref d k o l c)]]])) := g_box1 _ _ _ _ (one_sref _ _ _ _ _)
theorem bd1_bref (d k o l t : Nat) : bldC (.bref d k o l t) off 1 cells rest le = gA (decide (off < cells.length)) (buildA le (cells.set off (.bref d k o l t)) rest) := g_bd1 _ _ _ _ _ (one_bref _ _ _ _ _)
theorem st1_bref (d k o l t : Nat) : stTop (some (.arr cs)) 1 off (.bref d k o l t) O B F i = gA (decide (off < cs.length) && AV.low (B.length + 1 + 1) (.bref d k o l t)) (some (O, B ++ [F.set i (.arr (cs.set off (.bref d k o l t)))])) := g_st1 _ _ _ _ _ _ _ (one_bref _ _ _ _ _)
theorem bx1_bref (d k o l t : Nat) : boxC 1 false (.bref d k o l t) O (B ++ [F]) = gA (AV.low (B.length + 1 + 1) (.bref d k o l t)) (some (.ref (B.length + 1) F.length 0, O, B ++ [F ++ [.arr [(.bref d k o l t)]]])) := g_box1 _ _ _ _ (one_bref _ _ _ _ _)
theorem bd1_isl (c : List AV) (n : Nat) : bldC (.isl c n) off 1 cells rest le = gA (decide (off < cells.length)) (buildA le (cells.set off (.isl c n)) rest) := g_bd1 _ _ _ _ _ (one_isl _ _)
theorem st1_isl (c : List AV) (n : Nat) : stTop (some (.arr cs)) 1 off (.isl c n) O B F i = gA (decide (off < cs.length) && AV.low (B.length + 1 + 1) (.isl c n)) (some (O, B ++ [F.set i (.arr (cs.set off (.isl c n)))])) := g_st1 _ _ _ _ _ _ _ (one_isl _ _)
theorem bx1_isl (c : List AV) (n : Nat) : boxC 1 false (.isl c n) O (B ++ [F]) = gA (AV.low (B.length + 1 + 1) (.isl c n)) (some (.ref (B.length + 1) F.length 0, O, B ++ [F ++ [.arr [(.isl c n)]]])) := g_box1 _ _ _ _ (one_isl _ _)
theorem bd1_iface (t : TypeId) (v : AV) : bldC (.iface t v) off 1 cells rest le = gA (decide (off < cells.length)) (buildA le (cells.set off (.iface t v)) rest) := g_bd1 _ _ _ _ _ (one_iface _ _)
theorem st1_iface (t : TypeId) (v : AV) : stTop (some (.arr cs)) 1 off (.iface t v) O B F i = gA (decide (off < cs.length) && AV.low (B.length + 1 + 1) (.iface t v)) (some (O, B ++ [F.set i (.arr (cs.set off (.iface t v)))])) := g_st1 _ _ _ _ _ _ _ (one_iface _ _)
theorem bx1_iface (t : TypeId) (v : AV) : boxC 1 false (.iface t v) O (B ++ [F]) = gA (AV.low (B.length + 1 + 1) (.iface t v)) (some (.ref (B.length + 1) F.length 0, O, B ++ [F ++ [.arr [(.iface t v)]]])) := g_box1 _ _ _ _ (one_iface _ _)
theorem bd1_map (d k : Nat) : bldC (.map d k) off 1 cells rest le = gA (decide (off < cells.length)) (buildA le (cells.set off (.map d k)) rest) := g_bd1 _ _ _ _ _ (one_map _ _)
theorem st1_map (d k : Nat) : stTop (some (.arr cs)) 1 off (.map d k) O B F i = gA (decide (off < cs.length) && AV.low (B.length + 1 + 1) (.map d k)) (some (O, B ++ [F.set i (.arr (cs.set off (.map d k)))])) := g_st1 _ _ _ _ _ _ _ (one_map _ _)
theorem bx1_map (d k : Nat) : boxC 1 false (.map d k) O (B ++ [F]) = gA (AV.low (B.length + 1 + 1) (.map d k)) (some (.ref (B.length + 1) F.length 0, O, B ++ [F ++ [.arr [(.map d k)]]])) := g_box1 _ _ _ _ (one_map _ _)
end

theorem putAt_def (cs : List AV) (off : Nat) (new : List AV) : putAt cs off new = cs.take off ++ new ++ cs.drop (off + new.length) := rfl

/-- Rules. -/
def RAs := And.intro @r_nil <| And.intro @r_put <| And.intro @r_put0 <| And.intro @r_some <| And.intro @r_someM <| And.intro @r_someS <| And.intro @r_guard <| And.intro @r_gtrue <| And.intro @r_gfalse <| And.intro @r_wanted <| And.intro @want_TT <| And.intro @want_TF <| And.intro @want_FT <| And.intro @want_FF <| And.intro @r_wantT <| And.intro @r_mv <| And.intro @r_pick <| And.intro @pick_T <| And.intro @pick_F <| @r_ld
/-- Rules. -/
def RBs := And.intro @r_st <| And.intro @r_nilc <| And.intro @r_bin <| And.intro @r_eqb <| And.intro @r_eqn <| And.intro @r_eqs <| And.intro @r_un <| And.intro @r_cvi <| And.intro @r_cvn <| And.intro @r_cvs <| And.intro @r_fld <| And.intro @r_ixa <| And.intro @r_ixs <| And.intro @r_ext <| And.intro @r_fdv <| And.intro @r_len <| And.intro @r_alloc <| And.intro @r_box <| And.intro @r_app <| @r_build
/-- Rules. -/
def RCs := And.intro @r_bslice <| And.intro @r_slcA <| And.intro @r_slc <| And.intro @r_sls <| And.intro @r_mx <| And.intro @r_mks <| And.intro @r_mki <| And.intro @r_call <| And.intro @e_ops <| And.intro @e_opsS <| And.intro @e_seq <| And.intro @e_seqN <| And.intro @e_seqR <| And.intro @e_seqE <| And.intro @e_cond <| And.intro @e_condT <| And.intro @e_condF <| And.intro @e_block <| And.intro @e_blockN <| @e_blockR
/-- Rules. -/
def RDs := And.intro @e_blockE <| And.intro @e_blockO <| And.intro @e_exit <| And.intro @e_ret <| And.intro @e_skip <| And.intro @ev_t <| And.intro @ev_c <| And.intro @upd_eq <| And.intro @upd_ne <| And.intro @env0_app <| And.intro @b_add <| And.intro @b_sub <| And.intro @b_mul <| And.intro @quo_P <| And.intro @rem_P <| And.intro @b_eql <| And.intro @b_neq <| And.intro @b_lss <| And.intro @b_leq <| @b_gtr
/-- Rules. -/
def REs := And.intro @b_geq <| And.intro @b_not <| And.intro @v_cvi <| And.intro @v_ext <| And.intro @v_fld <| And.intro @v_nthP <| And.intro @v_ixaS <| And.intro @v_ixaAP <| And.intro @ix_isl <| And.intro @ix_sref <| And.intro @ix_bref <| And.intro @len_isl <| And.intro @len_sref <| And.intro @len_bref <| And.intro @len_nils <| And.intro @len_emp <| And.intro @len_str <| And.intro @nil_ref <| And.intro @nil_nilp <| @nil_iface
/-- Rules. -/
def RFs := And.intro @nil_nili <| And.intro @nok_ref <| And.intro @nok_fm <| And.intro @nok_iface <| And.intro @r_mkv <| And.intro @mkv_iface <| And.intro @eqn_FF <| And.intro @eqn_TT <| And.intro @v_lenC <| And.intro @wr_i64 <| And.intro @f_ret' <| And.intro @f_nor' <| And.intro @res_nil <| And.intro @res_cons <| And.intro @res_consS <| And.intro @res_t <| And.intro @res_cell <| And.intro @f_fin1 <| And.intro @f_fin2 <| And.intro @f_fin0 <| And.intro @snapC_some <| And.intro @snap_int <| And.intro @snap_bool <| @snap_str
/-- Rules. -/
def RGs := And.intro @snap_tup <| And.intro @snapT_nil <| And.intro @snapT_cons <| And.intro @snap2_int <| And.intro @snap2_bool <| And.intro @snap2_str <| And.intro @snap2_nils <| And.intro @enter1 <| And.intro @enter2 <| And.intro @enter3 <| And.intro @enter4 <| And.intro @m_newD <| And.intro @m_newK <| And.intro @m_newO <| And.intro @m_newS <| And.intro @m_newDo <| And.intro @m_newKo <| And.intro @m_newOo <| And.intro @m_newSo <| @gm_top
/-- Rules. -/
def RHs := And.intro @m_ald <| And.intro @m_st <| And.intro @m_aldB <| And.intro @r_callX <| And.intro @r_someX <| And.intro @r_go <| And.intro @chks_nil <| And.intro @chks_ld <| And.intro @chkC_some <| And.intro @get0 <| And.intro @get1 <| And.intro @get2 <| And.intro @get3 <| And.intro @gA_T <| And.intro @a_one <| And.intro @a_all1 <| And.intro @a_all <| And.intro @a_buf <| And.intro @a_bufA <| And.intro @a_ip <| @a_ipA
/-- Rules. -/
def RIs := And.intro @putAt_def <| And.intro @g_boxA <| And.intro @g_stA <| And.intro @g_bdA <| And.intro @bd_nil <| And.intro @bd_cons <| And.intro @lowL_cons <| And.intro @lowL_nil <| And.intro @low1_int <| And.intro @low1_bool <| And.intro @low1_str <| And.intro @low1_nils <| And.intro @low1_nilp <| And.intro @low1_nili <| And.intro @low1_isl <| And.intro @low1_ref <| And.intro @low1_sref <| And.intro @low1_bref <| And.intro @putAt_all <| @g_snap2A
/-- Rules. -/
def RJs := And.intro @g_snapA <| And.intro @snapL_nil <| And.intro @snapL_cons <| And.intro @snap1_int <| And.intro @snap1_bool <| And.intro @snap1_str <| And.intro @snap1_nils <| And.intro @low_int <| And.intro @low_bool <| And.intro @low_str <| And.intro @low_nils <| And.intro @low_ref <| And.intro @bd1_int <| And.intro @bd1_bool <| And.intro @bd1_str <| And.intro @bd1_nils <| And.intro @bd1_nilp <| And.intro @bd1_nili <| And.intro @bd1_ref <| @bd1_sref
/-- Rules. -/
def RKs := And.intro @bd1_bref <| And.intro @bd1_isl <| And.intro @bd1_iface <| And.intro @bd1_map <| And.intro @st1_int <| And.intro @st1_bool <| And.intro @st1_str <| And.intro @st1_nils <| And.intro @st1_nilp <| And.intro @st1_nili <| And.intro @st1_ref <| And.intro @st1_sref <| And.intro @st1_bref <| And.intro @st1_isl <| And.intro @st1_iface <| And.intro @st1_map <| And.intro @bx1_int <| And.intro @bx1_bool <| And.intro @bx1_str <| @bx1_nils
/-- Rules. -/
def RLs := And.intro @bx1_nilp <| And.intro @bx1_nili <| And.intro @bx1_ref <| And.intro @bx1_sref <| And.intro @bx1_bref <| And.intro @bx1_isl <| And.intro @bx1_iface <| And.intro @bx1_map <| And.intro @low_sref <| And.intro @low_bref <| @low_isl

end Den
