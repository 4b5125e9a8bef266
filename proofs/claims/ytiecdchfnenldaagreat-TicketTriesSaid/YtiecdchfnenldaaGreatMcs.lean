/- Contracts of the queue nodes, and of the plain queue lock's programs. -/
import Derived.Test.YtiecdchfnenldaaGreatMemD
set_option maxRecDepth 100000
set_option maxHeartbeats 2000000
set_option linter.unusedSimpArgs false
set_option linter.unusedVariables false
namespace Den
open Go Go.Proofs

/-- Methods by their types. -/
theorem methR : cfgA.meth 162 "Load" = some 176 ∧ mok Tryz.prog 162 "Load" = true ∧ cfgA.meth 162 "Store" = some 177 ∧ mok Tryz.prog 162 "Store" = true ∧ cfgA.meth 162 "CAS" = some 174 ∧ mok Tryz.prog 162 "CAS" = true ∧ cfgA.meth 162 "Swap" = some 178 ∧ mok Tryz.prog 162 "Swap" = true ∧ cfgA.meth 156 "Step" = some 162 ∧ mok Tryz.prog 156 "Step" = true ∧ cfgA.meth 156 "Done" = some 160 ∧ mok Tryz.prog 156 "Done" = true ∧ cfgA.meth 156 "Copy" = some 159 ∧ mok Tryz.prog 156 "Copy" = true ∧ cfgA.meth 159 "Step" = some 173 ∧ mok Tryz.prog 159 "Step" = true ∧ cfgA.meth 159 "Done" = some 171 ∧ mok Tryz.prog 159 "Done" = true ∧ cfgA.meth 159 "Copy" = some 170 ∧ mok Tryz.prog 159 "Copy" = true := ⟨by kernel_rfl, by kernel_rfl, by kernel_rfl, by kernel_rfl, by kernel_rfl, by kernel_rfl, by kernel_rfl, by kernel_rfl, by kernel_rfl, by kernel_rfl, by kernel_rfl, by kernel_rfl, by kernel_rfl, by kernel_rfl, by kernel_rfl, by kernel_rfl, by kernel_rfl, by kernel_rfl, by kernel_rfl, by kernel_rfl⟩

/-- mem.Once.Load -/
def onceLoadS : Sp := fun args O =>
  match args with
  | [.ref 0 k 0, .int .i64 w] => match onceDoS [.ref 0 k 0, acc 1 w 0 0] O with
    | some (.tup [.agg [.int .i64 _, .int .i64 _, .int .u64 b, .int .u64 _], .int .i64 e], O') => some (.tup [.int .u64 b, .int .i64 e], O')
    | _ => none
  | _ => none
theorem onceLoadS_ok : SpOk Tryz.prog 176 onceLoadS := by
  intro args O r O' h S
  unfold onceLoadS at h
  repeat' (split at h)
  all_goals first | (cases h; done) | skip
  all_goals
    simp only [Option.some.injEq, Prod.mk.injEq] at h
    obtain ⟨rfl, rfl⟩ := h
    refine bodyA (tabC_cons onceDoS_ok (tabC_nil _)) (n := 0) F176_code ?_
    try simp only [acc, accZ, errA] at *
    simp (disch := first | decide | omega | assumption) only [F176, RAs, RBs, RCs, RDs, REs, RFs, RGs, RHs, RIs, RJs, RKs, RLs, if_true, if_false, dec_T, dec_F, Bool.not_true, Bool.not_false, Option.map_some, ite_true, Bool.and_true, List.map_cons, List.map_nil, List.length_cons, List.length_nil, List.nil_append, List.cons_append, Nat.zero_add, Nat.add_zero, Nat.mul_one, List.set_cons_zero, List.set_cons_succ, Int.toNat_natCast, List.drop_zero, List.drop_nil, List.drop_succ_cons, List.getElem?_drop, List.append_nil, List.length_set, decide_true, Bool.and_self, Bool.true_and, List.take_succ_cons, List.take_zero, Nat.reduceLT, Nat.reduceEqDiff, Nat.reduceAdd, Nat.reduceSub, gm_0, tabC_hit, tabC_miss, spC_some, m_stO, go_int, go_bool, go_str, go_ref, go_bref, go_iface, go_nilp, go_nili, go_nils, low_int, low_bool, low_str, low_ref, low_bref, low_iface', low_nilp', low_nili', low_nils, get4, get5, get6, get7, get8, get9, get10, wr_u64, g_stOA, g_boxO, low1_iface, low1_nilf, low1_nilm, low1_emp, low1_map, snap1_ref0, snap2_ref0, snap_ref0, snap1_if0, snap2_if0, snap_if0, snap1_br0, snap2_br0, snap_br0, snap1_nilp', snap2_nilp', snap_nilp', snap1_nili', snap2_nili', snap_nili', snap_tupE, m_newDo, m_newKo, m_newOo, m_newSo, m_stOB, stOB_int, m_aldBS, m_take1, gA_T, r_invk, inv_if, inv_some, r_invkX, invX_if, invX_some, and_self, and_true, true_and, Bool.false_eq_true, mx_1, mx_max1, mx_max2, mx_min1, mx_min2, eqb_same, eqb_same2, if_pos, if_neg, getA, orN_some, orN_self, get_len, app_set, getS_self, orS_some, set_set', methR, acc, accZ, errA, *]

/-- mem.Once.Store -/
def onceStoreS : Sp := fun args O =>
  match args with
  | [.ref 0 k 0, .int .i64 w, .int .u64 v] => match onceDoS [.ref 0 k 0, acc 2 w 0 v] O with
    | some (.tup [.agg [.int .i64 _, .int .i64 _, .int .u64 _, .int .u64 _], .int .i64 e], O') => some (.int .i64 e, O')
    | _ => none
  | _ => none
theorem onceStoreS_ok : SpOk Tryz.prog 177 onceStoreS := by
  intro args O r O' h S
  unfold onceStoreS at h
  repeat' (split at h)
  all_goals first | (cases h; done) | skip
  all_goals
    simp only [Option.some.injEq, Prod.mk.injEq] at h
    obtain ⟨rfl, rfl⟩ := h
    refine bodyA (tabC_cons onceDoS_ok (tabC_nil _)) (n := 0) F177_code ?_
    try simp only [acc, accZ, errA] at *
    simp (disch := first | decide | omega | assumption) only [F177, RAs, RBs, RCs, RDs, REs, RFs, RGs, RHs, RIs, RJs, RKs, RLs, if_true, if_false, dec_T, dec_F, Bool.not_true, Bool.not_false, Option.map_some, ite_true, Bool.and_true, List.map_cons, List.map_nil, List.length_cons, List.length_nil, List.nil_append, List.cons_append, Nat.zero_add, Nat.add_zero, Nat.mul_one, List.set_cons_zero, List.set_cons_succ, Int.toNat_natCast, List.drop_zero, List.drop_nil, List.drop_succ_cons, List.getElem?_drop, List.append_nil, List.length_set, decide_true, Bool.and_self, Bool.true_and, List.take_succ_cons, List.take_zero, Nat.reduceLT, Nat.reduceEqDiff, Nat.reduceAdd, Nat.reduceSub, gm_0, tabC_hit, tabC_miss, spC_some, m_stO, go_int, go_bool, go_str, go_ref, go_bref, go_iface, go_nilp, go_nili, go_nils, low_int, low_bool, low_str, low_ref, low_bref, low_iface', low_nilp', low_nili', low_nils, get4, get5, get6, get7, get8, get9, get10, wr_u64, g_stOA, g_boxO, low1_iface, low1_nilf, low1_nilm, low1_emp, low1_map, snap1_ref0, snap2_ref0, snap_ref0, snap1_if0, snap2_if0, snap_if0, snap1_br0, snap2_br0, snap_br0, snap1_nilp', snap2_nilp', snap_nilp', snap1_nili', snap2_nili', snap_nili', snap_tupE, m_newDo, m_newKo, m_newOo, m_newSo, m_stOB, stOB_int, m_aldBS, m_take1, gA_T, r_invk, inv_if, inv_some, r_invkX, invX_if, invX_some, and_self, and_true, true_and, Bool.false_eq_true, mx_1, mx_max1, mx_max2, mx_min1, mx_min2, eqb_same, eqb_same2, if_pos, if_neg, getA, orN_some, orN_self, get_len, app_set, getS_self, orS_some, set_set', methR, acc, accZ, errA, *]

/-- mem.Once.Swap -/
def onceSwapS : Sp := fun args O =>
  match args with
  | [.ref 0 k 0, .int .i64 w, .int .u64 v] => match onceDoS [.ref 0 k 0, acc 4 w 0 v] O with
    | some (.tup [.agg [.int .i64 _, .int .i64 _, .int .u64 b, .int .u64 _], .int .i64 e], O') => some (.tup [.int .u64 b, .int .i64 e], O')
    | _ => none
  | _ => none
theorem onceSwapS_ok : SpOk Tryz.prog 178 onceSwapS := by
  intro args O r O' h S
  unfold onceSwapS at h
  repeat' (split at h)
  all_goals first | (cases h; done) | skip
  all_goals
    simp only [Option.some.injEq, Prod.mk.injEq] at h
    obtain ⟨rfl, rfl⟩ := h
    refine bodyA (tabC_cons onceDoS_ok (tabC_nil _)) (n := 0) F178_code ?_
    try simp only [acc, accZ, errA] at *
    simp (disch := first | decide | omega | assumption) only [F178, RAs, RBs, RCs, RDs, REs, RFs, RGs, RHs, RIs, RJs, RKs, RLs, if_true, if_false, dec_T, dec_F, Bool.not_true, Bool.not_false, Option.map_some, ite_true, Bool.and_true, List.map_cons, List.map_nil, List.length_cons, List.length_nil, List.nil_append, List.cons_append, Nat.zero_add, Nat.add_zero, Nat.mul_one, List.set_cons_zero, List.set_cons_succ, Int.toNat_natCast, List.drop_zero, List.drop_nil, List.drop_succ_cons, List.getElem?_drop, List.append_nil, List.length_set, decide_true, Bool.and_self, Bool.true_and, List.take_succ_cons, List.take_zero, Nat.reduceLT, Nat.reduceEqDiff, Nat.reduceAdd, Nat.reduceSub, gm_0, tabC_hit, tabC_miss, spC_some, m_stO, go_int, go_bool, go_str, go_ref, go_bref, go_iface, go_nilp, go_nili, go_nils, low_int, low_bool, low_str, low_ref, low_bref, low_iface', low_nilp', low_nili', low_nils, get4, get5, get6, get7, get8, get9, get10, wr_u64, g_stOA, g_boxO, low1_iface, low1_nilf, low1_nilm, low1_emp, low1_map, snap1_ref0, snap2_ref0, snap_ref0, snap1_if0, snap2_if0, snap_if0, snap1_br0, snap2_br0, snap_br0, snap1_nilp', snap2_nilp', snap_nilp', snap1_nili', snap2_nili', snap_nili', snap_tupE, m_newDo, m_newKo, m_newOo, m_newSo, m_stOB, stOB_int, m_aldBS, m_take1, gA_T, r_invk, inv_if, inv_some, r_invkX, invX_if, invX_some, and_self, and_true, true_and, Bool.false_eq_true, mx_1, mx_max1, mx_max2, mx_min1, mx_min2, eqb_same, eqb_same2, if_pos, if_neg, getA, orN_some, orN_self, get_len, app_set, getS_self, orS_some, set_set', methR, acc, accZ, errA, *]

/-- mem.Once.CAS -/
def onceCasS : Sp := fun args O =>
  match args with
  | [.ref 0 k 0, .int .i64 w, .int .u64 old, .int .u64 v] => match onceDoS [.ref 0 k 0, acc 3 w old v] O with
    | some (.tup [.agg [.int .i64 _, .int .i64 _, .int .u64 b, .int .u64 _], .int .i64 e], O') =>
      if e = 0 then (if b = old then some (.tup [.bool true, .int .i64 e], O') else some (.tup [.bool false, .int .i64 e], O'))
      else some (.tup [.bool false, .int .i64 e], O')
    | _ => none
  | _ => none
theorem onceCasS_ok : SpOk Tryz.prog 174 onceCasS := by
  intro args O r O' h S
  unfold onceCasS at h
  repeat' (split at h)
  all_goals first | (cases h; done) | skip
  all_goals
    simp only [Option.some.injEq, Prod.mk.injEq] at h
    obtain ⟨rfl, rfl⟩ := h
    refine bodyA (tabC_cons onceDoS_ok (tabC_nil _)) (n := 0) F174_code ?_
    try simp only [acc, accZ, errA] at *
    simp (disch := first | decide | omega | assumption) only [F174, RAs, RBs, RCs, RDs, REs, RFs, RGs, RHs, RIs, RJs, RKs, RLs, if_true, if_false, dec_T, dec_F, Bool.not_true, Bool.not_false, Option.map_some, ite_true, Bool.and_true, List.map_cons, List.map_nil, List.length_cons, List.length_nil, List.nil_append, List.cons_append, Nat.zero_add, Nat.add_zero, Nat.mul_one, List.set_cons_zero, List.set_cons_succ, Int.toNat_natCast, List.drop_zero, List.drop_nil, List.drop_succ_cons, List.getElem?_drop, List.append_nil, List.length_set, decide_true, Bool.and_self, Bool.true_and, List.take_succ_cons, List.take_zero, Nat.reduceLT, Nat.reduceEqDiff, Nat.reduceAdd, Nat.reduceSub, gm_0, tabC_hit, tabC_miss, spC_some, m_stO, go_int, go_bool, go_str, go_ref, go_bref, go_iface, go_nilp, go_nili, go_nils, low_int, low_bool, low_str, low_ref, low_bref, low_iface', low_nilp', low_nili', low_nils, get4, get5, get6, get7, get8, get9, get10, wr_u64, g_stOA, g_boxO, low1_iface, low1_nilf, low1_nilm, low1_emp, low1_map, snap1_ref0, snap2_ref0, snap_ref0, snap1_if0, snap2_if0, snap_if0, snap1_br0, snap2_br0, snap_br0, snap1_nilp', snap2_nilp', snap_nilp', snap1_nili', snap2_nili', snap_nili', snap_tupE, m_newDo, m_newKo, m_newOo, m_newSo, m_stOB, stOB_int, m_aldBS, m_take1, gA_T, r_invk, inv_if, inv_some, r_invkX, invX_if, invX_some, and_self, and_true, true_and, Bool.false_eq_true, mx_1, mx_max1, mx_max2, mx_min1, mx_min2, eqb_same, eqb_same2, if_pos, if_neg, getA, orN_some, orN_self, get_len, app_set, getS_self, orS_some, set_set', methR, acc, accZ, errA, *]

/-- qnode.Nodes.zero -/
def nzeroS : Sp := fun args O =>
  match args with
  | [.ref 0 k 0] => match O[k]? with
    | some (.arr [.int .i64 b, .int .i64 t]) => if 1 ≤ t then some (.bool false, O) else none
    | _ => none
  | _ => none
theorem nzeroS_ok : SpOk Tryz.prog 117 nzeroS := by
  intro args O r O' h S
  unfold nzeroS at h
  repeat' (split at h)
  all_goals first | (cases h; done) | skip
  all_goals
    simp only [Option.some.injEq, Prod.mk.injEq] at h
    obtain ⟨rfl, rfl⟩ := h
    refine bodyA (tabC_nil _) (n := 0) F117_code ?_
    try simp only [acc, accZ, errA] at *
    simp (disch := first | decide | omega | assumption) only [F117, RAs, RBs, RCs, RDs, REs, RFs, RGs, RHs, RIs, RJs, RKs, RLs, if_true, if_false, dec_T, dec_F, Bool.not_true, Bool.not_false, Option.map_some, ite_true, Bool.and_true, List.map_cons, List.map_nil, List.length_cons, List.length_nil, List.nil_append, List.cons_append, Nat.zero_add, Nat.add_zero, Nat.mul_one, List.set_cons_zero, List.set_cons_succ, Int.toNat_natCast, List.drop_zero, List.drop_nil, List.drop_succ_cons, List.getElem?_drop, List.append_nil, List.length_set, decide_true, Bool.and_self, Bool.true_and, List.take_succ_cons, List.take_zero, Nat.reduceLT, Nat.reduceEqDiff, Nat.reduceAdd, Nat.reduceSub, gm_0, tabC_hit, tabC_miss, spC_some, m_stO, go_int, go_bool, go_str, go_ref, go_bref, go_iface, go_nilp, go_nili, go_nils, low_int, low_bool, low_str, low_ref, low_bref, low_iface', low_nilp', low_nili', low_nils, get4, get5, get6, get7, get8, get9, get10, wr_u64, g_stOA, g_boxO, low1_iface, low1_nilf, low1_nilm, low1_emp, low1_map, snap1_ref0, snap2_ref0, snap_ref0, snap1_if0, snap2_if0, snap_if0, snap1_br0, snap2_br0, snap_br0, snap1_nilp', snap2_nilp', snap_nilp', snap1_nili', snap2_nili', snap_nili', snap_tupE, m_newDo, m_newKo, m_newOo, m_newSo, m_stOB, stOB_int, m_aldBS, m_take1, gA_T, r_invk, inv_if, inv_some, r_invkX, invX_if, invX_some, and_self, and_true, true_and, Bool.false_eq_true, mx_1, mx_max1, mx_max2, mx_min1, mx_min2, eqb_same, eqb_same2, if_pos, if_neg, getA, orN_some, orN_self, get_len, app_set, getS_self, orS_some, set_set', methR, acc, accZ, errA, *]

/-- qnode.Nodes.many -/
def nmanyS : Sp := fun args O =>
  match args with
  | [.ref 0 k 0] => match O[k]? with
    | some (.arr [.int .i64 b, .int .i64 t]) => if 1 ≤ t ∧ t ≤ 64 then some (.int .i64 (t * 2), O) else none
    | _ => none
  | _ => none
theorem nmanyS_ok : SpOk Tryz.prog 121 nmanyS := by
  intro args O r O' h S
  unfold nmanyS at h
  repeat' (split at h)
  all_goals first | (cases h; done) | skip
  all_goals
    simp only [Option.some.injEq, Prod.mk.injEq] at h
    obtain ⟨rfl, rfl⟩ := h
    refine bodyA (tabC_cons nzeroS_ok (tabC_nil _)) (n := 0) F121_code ?_
    try simp only [acc, accZ, errA] at *
    simp (disch := first | decide | omega | assumption) only [F121, RAs, RBs, RCs, RDs, REs, RFs, RGs, RHs, RIs, RJs, RKs, RLs, if_true, if_false, dec_T, dec_F, Bool.not_true, Bool.not_false, Option.map_some, ite_true, Bool.and_true, List.map_cons, List.map_nil, List.length_cons, List.length_nil, List.nil_append, List.cons_append, Nat.zero_add, Nat.add_zero, Nat.mul_one, List.set_cons_zero, List.set_cons_succ, Int.toNat_natCast, List.drop_zero, List.drop_nil, List.drop_succ_cons, List.getElem?_drop, List.append_nil, List.length_set, decide_true, Bool.and_self, Bool.true_and, List.take_succ_cons, List.take_zero, Nat.reduceLT, Nat.reduceEqDiff, Nat.reduceAdd, Nat.reduceSub, gm_0, tabC_hit, tabC_miss, spC_some, m_stO, go_int, go_bool, go_str, go_ref, go_bref, go_iface, go_nilp, go_nili, go_nils, low_int, low_bool, low_str, low_ref, low_bref, low_iface', low_nilp', low_nili', low_nils, get4, get5, get6, get7, get8, get9, get10, wr_u64, g_stOA, g_boxO, low1_iface, low1_nilf, low1_nilm, low1_emp, low1_map, snap1_ref0, snap2_ref0, snap_ref0, snap1_if0, snap2_if0, snap_if0, snap1_br0, snap2_br0, snap_br0, snap1_nilp', snap2_nilp', snap_nilp', snap1_nili', snap2_nili', snap_nili', snap_tupE, m_newDo, m_newKo, m_newOo, m_newSo, m_stOB, stOB_int, m_aldBS, m_take1, gA_T, r_invk, inv_if, inv_some, r_invkX, invX_if, invX_some, and_self, and_true, true_and, Bool.false_eq_true, mx_1, mx_max1, mx_max2, mx_min1, mx_min2, eqb_same, eqb_same2, if_pos, if_neg, getA, orN_some, orN_self, get_len, app_set, getS_self, orS_some, set_set', methR, acc, accZ, errA, nzeroS, *]

/-- qnode.Nodes.has -/
def nhasS : Sp := fun args O =>
  match args with
  | [.ref 0 k 0, .int .i64 n] => match O[k]? with
    | some (.arr [.int .i64 b, .int .i64 t]) => if 1 ≤ t ∧ t ≤ 64 then (if n < 0 then some (.bool false, O) else if n < t * 2 then some (.bool true, O) else some (.bool false, O)) else none
    | _ => none
  | _ => none
theorem nhasS_ok : SpOk Tryz.prog 118 nhasS := by
  intro args O r O' h S
  unfold nhasS at h
  repeat' (split at h)
  all_goals first | (cases h; done) | skip
  all_goals
    simp only [Option.some.injEq, Prod.mk.injEq] at h
    obtain ⟨rfl, rfl⟩ := h
    refine bodyA (tabC_cons nmanyS_ok (tabC_nil _)) (n := 0) F118_code ?_
    try simp only [acc, accZ, errA] at *
    simp (disch := first | decide | omega | assumption) only [F118, RAs, RBs, RCs, RDs, REs, RFs, RGs, RHs, RIs, RJs, RKs, RLs, if_true, if_false, dec_T, dec_F, Bool.not_true, Bool.not_false, Option.map_some, ite_true, Bool.and_true, List.map_cons, List.map_nil, List.length_cons, List.length_nil, List.nil_append, List.cons_append, Nat.zero_add, Nat.add_zero, Nat.mul_one, List.set_cons_zero, List.set_cons_succ, Int.toNat_natCast, List.drop_zero, List.drop_nil, List.drop_succ_cons, List.getElem?_drop, List.append_nil, List.length_set, decide_true, Bool.and_self, Bool.true_and, List.take_succ_cons, List.take_zero, Nat.reduceLT, Nat.reduceEqDiff, Nat.reduceAdd, Nat.reduceSub, gm_0, tabC_hit, tabC_miss, spC_some, m_stO, go_int, go_bool, go_str, go_ref, go_bref, go_iface, go_nilp, go_nili, go_nils, low_int, low_bool, low_str, low_ref, low_bref, low_iface', low_nilp', low_nili', low_nils, get4, get5, get6, get7, get8, get9, get10, wr_u64, g_stOA, g_boxO, low1_iface, low1_nilf, low1_nilm, low1_emp, low1_map, snap1_ref0, snap2_ref0, snap_ref0, snap1_if0, snap2_if0, snap_if0, snap1_br0, snap2_br0, snap_br0, snap1_nilp', snap2_nilp', snap_nilp', snap1_nili', snap2_nili', snap_nili', snap_tupE, m_newDo, m_newKo, m_newOo, m_newSo, m_stOB, stOB_int, m_aldBS, m_take1, gA_T, r_invk, inv_if, inv_some, r_invkX, invX_if, invX_some, and_self, and_true, true_and, Bool.false_eq_true, mx_1, mx_max1, mx_max2, mx_min1, mx_min2, eqb_same, eqb_same2, if_pos, if_neg, getA, orN_some, orN_self, get_len, app_set, getS_self, orS_some, set_set', methR, acc, accZ, errA, nmanyS, *]

/-- qnode.Nodes.word -/
def nwordS : Sp := fun args O =>
  match args with
  | [.ref 0 k 0, .int .i64 n, .int .i64 wh] => match O[k]? with
    | some (.arr [.int .i64 b, .int .i64 t]) => if 1 ≤ t ∧ t ≤ 64 ∧ 0 ≤ b ∧ b ≤ 65536 ∧ 0 ≤ wh ∧ wh ≤ 2 then (if n < 0 then some (.int .i64 (-1), O) else if n < t * 2 then some (.int .i64 (b + n * 3 + wh), O) else some (.int .i64 (-1), O)) else none
    | _ => none
  | _ => none
theorem nwordS_ok : SpOk Tryz.prog 116 nwordS := by
  intro args O r O' h S
  unfold nwordS at h
  repeat' (split at h)
  all_goals first | (cases h; done) | skip
  all_goals
    simp only [Option.some.injEq, Prod.mk.injEq] at h
    obtain ⟨rfl, rfl⟩ := h
    refine bodyA (tabC_cons nhasS_ok (tabC_nil _)) (n := 0) F116_code ?_
    try simp only [acc, accZ, errA] at *
    simp (disch := first | decide | omega | assumption) only [F116, RAs, RBs, RCs, RDs, REs, RFs, RGs, RHs, RIs, RJs, RKs, RLs, if_true, if_false, dec_T, dec_F, Bool.not_true, Bool.not_false, Option.map_some, ite_true, Bool.and_true, List.map_cons, List.map_nil, List.length_cons, List.length_nil, List.nil_append, List.cons_append, Nat.zero_add, Nat.add_zero, Nat.mul_one, List.set_cons_zero, List.set_cons_succ, Int.toNat_natCast, List.drop_zero, List.drop_nil, List.drop_succ_cons, List.getElem?_drop, List.append_nil, List.length_set, decide_true, Bool.and_self, Bool.true_and, List.take_succ_cons, List.take_zero, Nat.reduceLT, Nat.reduceEqDiff, Nat.reduceAdd, Nat.reduceSub, gm_0, tabC_hit, tabC_miss, spC_some, m_stO, go_int, go_bool, go_str, go_ref, go_bref, go_iface, go_nilp, go_nili, go_nils, low_int, low_bool, low_str, low_ref, low_bref, low_iface', low_nilp', low_nili', low_nils, get4, get5, get6, get7, get8, get9, get10, wr_u64, g_stOA, g_boxO, low1_iface, low1_nilf, low1_nilm, low1_emp, low1_map, snap1_ref0, snap2_ref0, snap_ref0, snap1_if0, snap2_if0, snap_if0, snap1_br0, snap2_br0, snap_br0, snap1_nilp', snap2_nilp', snap_nilp', snap1_nili', snap2_nili', snap_nili', snap_tupE, m_newDo, m_newKo, m_newOo, m_newSo, m_stOB, stOB_int, m_aldBS, m_take1, gA_T, r_invk, inv_if, inv_some, r_invkX, invX_if, invX_some, and_self, and_true, true_and, Bool.false_eq_true, mx_1, mx_max1, mx_max2, mx_min1, mx_min2, eqb_same, eqb_same2, if_pos, if_neg, getA, orN_some, orN_self, get_len, app_set, getS_self, orS_some, set_set', methR, acc, accZ, errA, nhasS, *]

/-- qnode.Nodes.Next -/
def nnextS : Sp := fun args O =>
  match args with
  | [.ref 0 k 0, .int .i64 n] => match nwordS [.ref 0 k 0, .int .i64 n, .int .i64 0] O with
    | some (.int .i64 w, O') => some (.int .i64 w, O')
    | _ => none
  | _ => none
theorem nnextS_ok : SpOk Tryz.prog 76 nnextS := by
  intro args O r O' h S
  unfold nnextS at h
  repeat' (split at h)
  all_goals first | (cases h; done) | skip
  all_goals
    simp only [Option.some.injEq, Prod.mk.injEq] at h
    obtain ⟨rfl, rfl⟩ := h
    refine bodyA (tabC_cons nwordS_ok (tabC_nil _)) (n := 0) F76_code ?_
    try simp only [acc, accZ, errA] at *
    simp (disch := first | decide | omega | assumption) only [F76, RAs, RBs, RCs, RDs, REs, RFs, RGs, RHs, RIs, RJs, RKs, RLs, if_true, if_false, dec_T, dec_F, Bool.not_true, Bool.not_false, Option.map_some, ite_true, Bool.and_true, List.map_cons, List.map_nil, List.length_cons, List.length_nil, List.nil_append, List.cons_append, Nat.zero_add, Nat.add_zero, Nat.mul_one, List.set_cons_zero, List.set_cons_succ, Int.toNat_natCast, List.drop_zero, List.drop_nil, List.drop_succ_cons, List.getElem?_drop, List.append_nil, List.length_set, decide_true, Bool.and_self, Bool.true_and, List.take_succ_cons, List.take_zero, Nat.reduceLT, Nat.reduceEqDiff, Nat.reduceAdd, Nat.reduceSub, gm_0, tabC_hit, tabC_miss, spC_some, m_stO, go_int, go_bool, go_str, go_ref, go_bref, go_iface, go_nilp, go_nili, go_nils, low_int, low_bool, low_str, low_ref, low_bref, low_iface', low_nilp', low_nili', low_nils, get4, get5, get6, get7, get8, get9, get10, wr_u64, g_stOA, g_boxO, low1_iface, low1_nilf, low1_nilm, low1_emp, low1_map, snap1_ref0, snap2_ref0, snap_ref0, snap1_if0, snap2_if0, snap_if0, snap1_br0, snap2_br0, snap_br0, snap1_nilp', snap2_nilp', snap_nilp', snap1_nili', snap2_nili', snap_nili', snap_tupE, m_newDo, m_newKo, m_newOo, m_newSo, m_stOB, stOB_int, m_aldBS, m_take1, gA_T, r_invk, inv_if, inv_some, r_invkX, invX_if, invX_some, and_self, and_true, true_and, Bool.false_eq_true, mx_1, mx_max1, mx_max2, mx_min1, mx_min2, eqb_same, eqb_same2, if_pos, if_neg, getA, orN_some, orN_self, get_len, app_set, getS_self, orS_some, set_set', methR, acc, accZ, errA, *]

/-- qnode.Nodes.Wait -/
def nwaitS : Sp := fun args O =>
  match args with
  | [.ref 0 k 0, .int .i64 n] => match nwordS [.ref 0 k 0, .int .i64 n, .int .i64 1] O with
    | some (.int .i64 w, O') => some (.int .i64 w, O')
    | _ => none
  | _ => none
theorem nwaitS_ok : SpOk Tryz.prog 75 nwaitS := by
  intro args O r O' h S
  unfold nwaitS at h
  repeat' (split at h)
  all_goals first | (cases h; done) | skip
  all_goals
    simp only [Option.some.injEq, Prod.mk.injEq] at h
    obtain ⟨rfl, rfl⟩ := h
    refine bodyA (tabC_cons nwordS_ok (tabC_nil _)) (n := 0) F75_code ?_
    try simp only [acc, accZ, errA] at *
    simp (disch := first | decide | omega | assumption) only [F75, RAs, RBs, RCs, RDs, REs, RFs, RGs, RHs, RIs, RJs, RKs, RLs, if_true, if_false, dec_T, dec_F, Bool.not_true, Bool.not_false, Option.map_some, ite_true, Bool.and_true, List.map_cons, List.map_nil, List.length_cons, List.length_nil, List.nil_append, List.cons_append, Nat.zero_add, Nat.add_zero, Nat.mul_one, List.set_cons_zero, List.set_cons_succ, Int.toNat_natCast, List.drop_zero, List.drop_nil, List.drop_succ_cons, List.getElem?_drop, List.append_nil, List.length_set, decide_true, Bool.and_self, Bool.true_and, List.take_succ_cons, List.take_zero, Nat.reduceLT, Nat.reduceEqDiff, Nat.reduceAdd, Nat.reduceSub, gm_0, tabC_hit, tabC_miss, spC_some, m_stO, go_int, go_bool, go_str, go_ref, go_bref, go_iface, go_nilp, go_nili, go_nils, low_int, low_bool, low_str, low_ref, low_bref, low_iface', low_nilp', low_nili', low_nils, get4, get5, get6, get7, get8, get9, get10, wr_u64, g_stOA, g_boxO, low1_iface, low1_nilf, low1_nilm, low1_emp, low1_map, snap1_ref0, snap2_ref0, snap_ref0, snap1_if0, snap2_if0, snap_if0, snap1_br0, snap2_br0, snap_br0, snap1_nilp', snap2_nilp', snap_nilp', snap1_nili', snap2_nili', snap_nili', snap_tupE, m_newDo, m_newKo, m_newOo, m_newSo, m_stOB, stOB_int, m_aldBS, m_take1, gA_T, r_invk, inv_if, inv_some, r_invkX, invX_if, invX_some, and_self, and_true, true_and, Bool.false_eq_true, mx_1, mx_max1, mx_max2, mx_min1, mx_min2, eqb_same, eqb_same2, if_pos, if_neg, getA, orN_some, orN_self, get_len, app_set, getS_self, orS_some, set_set', methR, acc, accZ, errA, *]

/-- qnode.Nodes.Ref -/
def nrefS : Sp := fun args O =>
  match args with
  | [.ref 0 k 0, .int .i64 n] => match O[k]? with
    | some (.arr [.int .i64 b, .int .i64 t]) => if 1 ≤ t ∧ t ≤ 64 then (if n < 0 then some (.tup [.int .u64 0, .int .i64 9], O) else if n < t * 2 then some (.tup [.int .u64 (n + 1), .int .i64 0], O) else some (.tup [.int .u64 0, .int .i64 9], O)) else none
    | _ => none
  | _ => none
theorem nrefS_ok : SpOk Tryz.prog 78 nrefS := by
  intro args O r O' h S
  unfold nrefS at h
  repeat' (split at h)
  all_goals first | (cases h; done) | skip
  all_goals
    simp only [Option.some.injEq, Prod.mk.injEq] at h
    obtain ⟨rfl, rfl⟩ := h
    refine bodyA (tabC_cons nzeroS_ok (tabC_cons nhasS_ok (tabC_nil _))) (n := 0) F78_code ?_
    try simp only [acc, accZ, errA] at *
    simp (disch := first | decide | omega | assumption) only [F78, RAs, RBs, RCs, RDs, REs, RFs, RGs, RHs, RIs, RJs, RKs, RLs, if_true, if_false, dec_T, dec_F, Bool.not_true, Bool.not_false, Option.map_some, ite_true, Bool.and_true, List.map_cons, List.map_nil, List.length_cons, List.length_nil, List.nil_append, List.cons_append, Nat.zero_add, Nat.add_zero, Nat.mul_one, List.set_cons_zero, List.set_cons_succ, Int.toNat_natCast, List.drop_zero, List.drop_nil, List.drop_succ_cons, List.getElem?_drop, List.append_nil, List.length_set, decide_true, Bool.and_self, Bool.true_and, List.take_succ_cons, List.take_zero, Nat.reduceLT, Nat.reduceEqDiff, Nat.reduceAdd, Nat.reduceSub, gm_0, tabC_hit, tabC_miss, spC_some, m_stO, go_int, go_bool, go_str, go_ref, go_bref, go_iface, go_nilp, go_nili, go_nils, low_int, low_bool, low_str, low_ref, low_bref, low_iface', low_nilp', low_nili', low_nils, get4, get5, get6, get7, get8, get9, get10, wr_u64, g_stOA, g_boxO, low1_iface, low1_nilf, low1_nilm, low1_emp, low1_map, snap1_ref0, snap2_ref0, snap_ref0, snap1_if0, snap2_if0, snap_if0, snap1_br0, snap2_br0, snap_br0, snap1_nilp', snap2_nilp', snap_nilp', snap1_nili', snap2_nili', snap_nili', snap_tupE, m_newDo, m_newKo, m_newOo, m_newSo, m_stOB, stOB_int, m_aldBS, m_take1, gA_T, r_invk, inv_if, inv_some, r_invkX, invX_if, invX_some, and_self, and_true, true_and, Bool.false_eq_true, mx_1, mx_max1, mx_max2, mx_min1, mx_min2, eqb_same, eqb_same2, if_pos, if_neg, getA, orN_some, orN_self, get_len, app_set, getS_self, orS_some, set_set', methR, acc, accZ, errA, nzeroS, nhasS, *]

/-- qnode.Nodes.Node -/
def nnodeS : Sp := fun args O =>
  match args with
  | [.ref 0 k 0, .int .u64 r] => match O[k]? with
    | some (.arr [.int .i64 b, .int .i64 t]) => if 1 ≤ t ∧ t ≤ 64 ∧ 0 ≤ r then (if t * 2 < r then some (.tup [.int .i64 0, .int .i64 12], O) else some (.tup [.int .i64 (r - 1), .int .i64 0], O)) else none
    | _ => none
  | _ => none
theorem nnodeS_ok : SpOk Tryz.prog 85 nnodeS := by
  intro args O r O' h S
  unfold nnodeS at h
  repeat' (split at h)
  all_goals first | (cases h; done) | skip
  all_goals
    simp only [Option.some.injEq, Prod.mk.injEq] at h
    obtain ⟨rfl, rfl⟩ := h
    refine bodyA (tabC_cons nzeroS_ok (tabC_cons nmanyS_ok (tabC_nil _))) (n := 0) F85_code ?_
    try simp only [acc, accZ, errA] at *
    simp (disch := first | decide | omega | assumption) only [F85, RAs, RBs, RCs, RDs, REs, RFs, RGs, RHs, RIs, RJs, RKs, RLs, if_true, if_false, dec_T, dec_F, Bool.not_true, Bool.not_false, Option.map_some, ite_true, Bool.and_true, List.map_cons, List.map_nil, List.length_cons, List.length_nil, List.nil_append, List.cons_append, Nat.zero_add, Nat.add_zero, Nat.mul_one, List.set_cons_zero, List.set_cons_succ, Int.toNat_natCast, List.drop_zero, List.drop_nil, List.drop_succ_cons, List.getElem?_drop, List.append_nil, List.length_set, decide_true, Bool.and_self, Bool.true_and, List.take_succ_cons, List.take_zero, Nat.reduceLT, Nat.reduceEqDiff, Nat.reduceAdd, Nat.reduceSub, gm_0, tabC_hit, tabC_miss, spC_some, m_stO, go_int, go_bool, go_str, go_ref, go_bref, go_iface, go_nilp, go_nili, go_nils, low_int, low_bool, low_str, low_ref, low_bref, low_iface', low_nilp', low_nili', low_nils, get4, get5, get6, get7, get8, get9, get10, wr_u64, g_stOA, g_boxO, low1_iface, low1_nilf, low1_nilm, low1_emp, low1_map, snap1_ref0, snap2_ref0, snap_ref0, snap1_if0, snap2_if0, snap_if0, snap1_br0, snap2_br0, snap_br0, snap1_nilp', snap2_nilp', snap_nilp', snap1_nili', snap2_nili', snap_nili', snap_tupE, m_newDo, m_newKo, m_newOo, m_newSo, m_stOB, stOB_int, m_aldBS, m_take1, gA_T, r_invk, inv_if, inv_some, r_invkX, invX_if, invX_some, and_self, and_true, true_and, Bool.false_eq_true, mx_1, mx_max1, mx_max2, mx_min1, mx_min2, eqb_same, eqb_same2, if_pos, if_neg, getA, orN_some, orN_self, get_len, app_set, getS_self, orS_some, set_set', methR, acc, accZ, errA, nzeroS, nmanyS, *]

/-- qnode.Nodes.Of -/
def nofS : Sp := fun args O =>
  match args with
  | [.ref 0 k 0, .int .i64 th, .int .i64 kd] => match O[k]? with
    | some (.arr [.int .i64 b, .int .i64 t]) => if 1 ≤ t ∧ t ≤ 64 ∧ 0 ≤ kd ∧ kd ≤ 1 then (if th < 0 then some (.tup [.int .i64 0, .int .i64 2], O) else if t ≤ th then some (.tup [.int .i64 0, .int .i64 2], O) else if kd = 0 then some (.tup [.int .i64 (th * 2 + kd), .int .i64 0], O) else some (.tup [.int .i64 (th * 2 + kd), .int .i64 0], O)) else none
    | _ => none
  | _ => none
theorem nofS_ok : SpOk Tryz.prog 97 nofS := by
  intro args O r O' h S
  unfold nofS at h
  repeat' (split at h)
  all_goals first | (cases h; done) | skip
  all_goals
    simp only [Option.some.injEq, Prod.mk.injEq] at h
    obtain ⟨rfl, rfl⟩ := h
    refine bodyA (tabC_cons nzeroS_ok (tabC_nil _)) (n := 0) F97_code ?_
    try simp only [acc, accZ, errA] at *
    simp (disch := first | decide | omega | assumption) only [F97, RAs, RBs, RCs, RDs, REs, RFs, RGs, RHs, RIs, RJs, RKs, RLs, if_true, if_false, dec_T, dec_F, Bool.not_true, Bool.not_false, Option.map_some, ite_true, Bool.and_true, List.map_cons, List.map_nil, List.length_cons, List.length_nil, List.nil_append, List.cons_append, Nat.zero_add, Nat.add_zero, Nat.mul_one, List.set_cons_zero, List.set_cons_succ, Int.toNat_natCast, List.drop_zero, List.drop_nil, List.drop_succ_cons, List.getElem?_drop, List.append_nil, List.length_set, decide_true, Bool.and_self, Bool.true_and, List.take_succ_cons, List.take_zero, Nat.reduceLT, Nat.reduceEqDiff, Nat.reduceAdd, Nat.reduceSub, gm_0, tabC_hit, tabC_miss, spC_some, m_stO, go_int, go_bool, go_str, go_ref, go_bref, go_iface, go_nilp, go_nili, go_nils, low_int, low_bool, low_str, low_ref, low_bref, low_iface', low_nilp', low_nili', low_nils, get4, get5, get6, get7, get8, get9, get10, wr_u64, g_stOA, g_boxO, low1_iface, low1_nilf, low1_nilm, low1_emp, low1_map, snap1_ref0, snap2_ref0, snap_ref0, snap1_if0, snap2_if0, snap_if0, snap1_br0, snap2_br0, snap_br0, snap1_nilp', snap2_nilp', snap_nilp', snap1_nili', snap2_nili', snap_nili', snap_tupE, m_newDo, m_newKo, m_newOo, m_newSo, m_stOB, stOB_int, m_aldBS, m_take1, gA_T, r_invk, inv_if, inv_some, r_invkX, invX_if, invX_some, and_self, and_true, true_and, Bool.false_eq_true, mx_1, mx_max1, mx_max2, mx_min1, mx_min2, eqb_same, eqb_same2, if_pos, if_neg, getA, orN_some, orN_self, get_len, app_set, getS_self, orS_some, set_set', methR, acc, accZ, errA, nzeroS, *]

/-- qnode.Nodes.Owner -/
def nownerS : Sp := fun args O =>
  match args with
  | [.ref 0 k 0, .int .i64 n] => match O[k]? with
    | some (.arr [.int .i64 b, .int .i64 t]) => if 1 ≤ t ∧ t ≤ 64 then (if n < 0 then some (.tup [.int .i64 0, .int .i64 9], O) else if n < t * 2 then some (.tup [.int .i64 (n / 2), .int .i64 0], O) else some (.tup [.int .i64 0, .int .i64 9], O)) else none
    | _ => none
  | _ => none
theorem nownerS_ok : SpOk Tryz.prog 86 nownerS := by
  intro args O r O' h S
  unfold nownerS at h
  repeat' (split at h)
  all_goals first | (cases h; done) | skip
  all_goals
    simp only [Option.some.injEq, Prod.mk.injEq] at h
    obtain ⟨rfl, rfl⟩ := h
    refine bodyA (tabC_cons nzeroS_ok (tabC_cons nhasS_ok (tabC_nil _))) (n := 0) F86_code ?_
    try simp only [acc, accZ, errA] at *
    simp (disch := first | decide | omega | assumption) only [F86, RAs, RBs, RCs, RDs, REs, RFs, RGs, RHs, RIs, RJs, RKs, RLs, if_true, if_false, dec_T, dec_F, Bool.not_true, Bool.not_false, Option.map_some, ite_true, Bool.and_true, List.map_cons, List.map_nil, List.length_cons, List.length_nil, List.nil_append, List.cons_append, Nat.zero_add, Nat.add_zero, Nat.mul_one, List.set_cons_zero, List.set_cons_succ, Int.toNat_natCast, List.drop_zero, List.drop_nil, List.drop_succ_cons, List.getElem?_drop, List.append_nil, List.length_set, decide_true, Bool.and_self, Bool.true_and, List.take_succ_cons, List.take_zero, Nat.reduceLT, Nat.reduceEqDiff, Nat.reduceAdd, Nat.reduceSub, gm_0, tabC_hit, tabC_miss, spC_some, m_stO, go_int, go_bool, go_str, go_ref, go_bref, go_iface, go_nilp, go_nili, go_nils, low_int, low_bool, low_str, low_ref, low_bref, low_iface', low_nilp', low_nili', low_nils, get4, get5, get6, get7, get8, get9, get10, wr_u64, g_stOA, g_boxO, low1_iface, low1_nilf, low1_nilm, low1_emp, low1_map, snap1_ref0, snap2_ref0, snap_ref0, snap1_if0, snap2_if0, snap_if0, snap1_br0, snap2_br0, snap_br0, snap1_nilp', snap2_nilp', snap_nilp', snap1_nili', snap2_nili', snap_nili', snap_tupE, m_newDo, m_newKo, m_newOo, m_newSo, m_stOB, stOB_int, m_aldBS, m_take1, gA_T, r_invk, inv_if, inv_some, r_invkX, invX_if, invX_some, and_self, and_true, true_and, Bool.false_eq_true, mx_1, mx_max1, mx_max2, mx_min1, mx_min2, eqb_same, eqb_same2, if_pos, if_neg, getA, orN_some, orN_self, get_len, app_set, getS_self, orS_some, set_set', methR, acc, accZ, errA, nzeroS, nhasS, *]

/-- mcs.run.ready -/
def mreadyS : Sp := fun args O =>
  match args with
  | [.ref 0 k 0, .iface _ _] => match O[k]? with
    | some (.arr [.ref 0 _ 0, .int .i64 _, .int .i64 _, .int .i64 _, .int .u64 _, .bool en]) => if en = true then some (.int .i64 17, O) else some (.int .i64 0, O)
    | _ => none
  | _ => none
theorem mreadyS_ok : SpOk Tryz.prog 165 mreadyS := by
  intro args O r O' h S
  unfold mreadyS at h
  repeat' (split at h)
  all_goals first | (cases h; done) | skip
  all_goals
    simp only [Option.some.injEq, Prod.mk.injEq] at h
    obtain ⟨rfl, rfl⟩ := h
    refine bodyA (tabC_nil _) (n := 0) F165_code ?_
    try simp only [acc, accZ, errA] at *
    simp (disch := first | decide | omega | assumption) only [F165, RAs, RBs, RCs, RDs, REs, RFs, RGs, RHs, RIs, RJs, RKs, RLs, if_true, if_false, dec_T, dec_F, Bool.not_true, Bool.not_false, Option.map_some, ite_true, Bool.and_true, List.map_cons, List.map_nil, List.length_cons, List.length_nil, List.nil_append, List.cons_append, Nat.zero_add, Nat.add_zero, Nat.mul_one, List.set_cons_zero, List.set_cons_succ, Int.toNat_natCast, List.drop_zero, List.drop_nil, List.drop_succ_cons, List.getElem?_drop, List.append_nil, List.length_set, decide_true, Bool.and_self, Bool.true_and, List.take_succ_cons, List.take_zero, Nat.reduceLT, Nat.reduceEqDiff, Nat.reduceAdd, Nat.reduceSub, gm_0, tabC_hit, tabC_miss, spC_some, m_stO, go_int, go_bool, go_str, go_ref, go_bref, go_iface, go_nilp, go_nili, go_nils, low_int, low_bool, low_str, low_ref, low_bref, low_iface', low_nilp', low_nili', low_nils, get4, get5, get6, get7, get8, get9, get10, wr_u64, g_stOA, g_boxO, low1_iface, low1_nilf, low1_nilm, low1_emp, low1_map, snap1_ref0, snap2_ref0, snap_ref0, snap1_if0, snap2_if0, snap_if0, snap1_br0, snap2_br0, snap_br0, snap1_nilp', snap2_nilp', snap_nilp', snap1_nili', snap2_nili', snap_nili', snap_tupE, m_newDo, m_newKo, m_newOo, m_newSo, m_stOB, stOB_int, m_aldBS, m_take1, gA_T, r_invk, inv_if, inv_some, r_invkX, invX_if, invX_some, and_self, and_true, true_and, Bool.false_eq_true, mx_1, mx_max1, mx_max2, mx_min1, mx_min2, eqb_same, eqb_same2, if_pos, if_neg, getA, orN_some, orN_self, get_len, app_set, getS_self, orS_some, set_set', methR, acc, accZ, errA, *]

/-- mcs.run.ref -/
def mrefS : Sp := fun args O =>
  match args with
  | [.ref 0 k 0] => match O[k]? with
    | some (.arr [.ref 0 kn 0, .int .i64 _, .int .i64 nd, .int .i64 _, .int .u64 _, .bool _]) => match nrefS [.ref 0 kn 0, .int .i64 nd] O with
      | some (.tup [.int .u64 r, .int .i64 _], O') => some (.int .u64 r, O')
      | _ => none
    | _ => none
  | _ => none
theorem mrefS_ok : SpOk Tryz.prog 167 mrefS := by
  intro args O r O' h S
  unfold mrefS at h
  repeat' (split at h)
  all_goals first | (cases h; done) | skip
  all_goals
    simp only [Option.some.injEq, Prod.mk.injEq] at h
    obtain ⟨rfl, rfl⟩ := h
    refine bodyA (tabC_cons nrefS_ok (tabC_nil _)) (n := 0) F167_code ?_
    try simp only [acc, accZ, errA] at *
    simp (disch := first | decide | omega | assumption) only [F167, RAs, RBs, RCs, RDs, REs, RFs, RGs, RHs, RIs, RJs, RKs, RLs, if_true, if_false, dec_T, dec_F, Bool.not_true, Bool.not_false, Option.map_some, ite_true, Bool.and_true, List.map_cons, List.map_nil, List.length_cons, List.length_nil, List.nil_append, List.cons_append, Nat.zero_add, Nat.add_zero, Nat.mul_one, List.set_cons_zero, List.set_cons_succ, Int.toNat_natCast, List.drop_zero, List.drop_nil, List.drop_succ_cons, List.getElem?_drop, List.append_nil, List.length_set, decide_true, Bool.and_self, Bool.true_and, List.take_succ_cons, List.take_zero, Nat.reduceLT, Nat.reduceEqDiff, Nat.reduceAdd, Nat.reduceSub, gm_0, tabC_hit, tabC_miss, spC_some, m_stO, go_int, go_bool, go_str, go_ref, go_bref, go_iface, go_nilp, go_nili, go_nils, low_int, low_bool, low_str, low_ref, low_bref, low_iface', low_nilp', low_nili', low_nils, get4, get5, get6, get7, get8, get9, get10, wr_u64, g_stOA, g_boxO, low1_iface, low1_nilf, low1_nilm, low1_emp, low1_map, snap1_ref0, snap2_ref0, snap_ref0, snap1_if0, snap2_if0, snap_if0, snap1_br0, snap2_br0, snap_br0, snap1_nilp', snap2_nilp', snap_nilp', snap1_nili', snap2_nili', snap_nili', snap_tupE, m_newDo, m_newKo, m_newOo, m_newSo, m_stOB, stOB_int, m_aldBS, m_take1, gA_T, r_invk, inv_if, inv_some, r_invkX, invX_if, invX_some, and_self, and_true, true_and, Bool.false_eq_true, mx_1, mx_max1, mx_max2, mx_min1, mx_min2, eqb_same, eqb_same2, if_pos, if_neg, getA, orN_some, orN_self, get_len, app_set, getS_self, orS_some, set_set', methR, acc, accZ, errA, *]

/-- mcs.run.target -/
def mtargetS : Sp := fun args O =>
  match args with
  | [.ref 0 k 0] => match O[k]? with
    | some (.arr [.ref 0 kn 0, .int .i64 _, .int .i64 _, .int .i64 _, .int .u64 ot, .bool _]) => match nnodeS [.ref 0 kn 0, .int .u64 ot] O with
      | some (.tup [.int .i64 n, .int .i64 e], O') => if e = 0 then (if n < 0 then some (.tup [.int .i64 0, .int .i64 12], O') else some (.tup [.int .i64 n, .int .i64 0], O')) else some (.tup [.int .i64 0, .int .i64 12], O')
      | _ => none
    | _ => none
  | _ => none
theorem mtargetS_ok : SpOk Tryz.prog 169 mtargetS := by
  intro args O r O' h S
  unfold mtargetS at h
  repeat' (split at h)
  all_goals first | (cases h; done) | skip
  all_goals
    simp only [Option.some.injEq, Prod.mk.injEq] at h
    obtain ⟨rfl, rfl⟩ := h
    refine bodyA (tabC_cons nnodeS_ok (tabC_nil _)) (n := 0) F169_code ?_
    try simp only [acc, accZ, errA] at *
    simp (disch := first | decide | omega | assumption) only [F169, RAs, RBs, RCs, RDs, REs, RFs, RGs, RHs, RIs, RJs, RKs, RLs, if_true, if_false, dec_T, dec_F, Bool.not_true, Bool.not_false, Option.map_some, ite_true, Bool.and_true, List.map_cons, List.map_nil, List.length_cons, List.length_nil, List.nil_append, List.cons_append, Nat.zero_add, Nat.add_zero, Nat.mul_one, List.set_cons_zero, List.set_cons_succ, Int.toNat_natCast, List.drop_zero, List.drop_nil, List.drop_succ_cons, List.getElem?_drop, List.append_nil, List.length_set, decide_true, Bool.and_self, Bool.true_and, List.take_succ_cons, List.take_zero, Nat.reduceLT, Nat.reduceEqDiff, Nat.reduceAdd, Nat.reduceSub, gm_0, tabC_hit, tabC_miss, spC_some, m_stO, go_int, go_bool, go_str, go_ref, go_bref, go_iface, go_nilp, go_nili, go_nils, low_int, low_bool, low_str, low_ref, low_bref, low_iface', low_nilp', low_nili', low_nils, get4, get5, get6, get7, get8, get9, get10, wr_u64, g_stOA, g_boxO, low1_iface, low1_nilf, low1_nilm, low1_emp, low1_map, snap1_ref0, snap2_ref0, snap_ref0, snap1_if0, snap2_if0, snap_if0, snap1_br0, snap2_br0, snap_br0, snap1_nilp', snap2_nilp', snap_nilp', snap1_nili', snap2_nili', snap_nili', snap_tupE, m_newDo, m_newKo, m_newOo, m_newSo, m_stOB, stOB_int, m_aldBS, m_take1, gA_T, r_invk, inv_if, inv_some, r_invkX, invX_if, invX_some, and_self, and_true, true_and, Bool.false_eq_true, mx_1, mx_max1, mx_max2, mx_min1, mx_min2, eqb_same, eqb_same2, if_pos, if_neg, getA, orN_some, orN_self, get_len, app_set, getS_self, orS_some, set_set', methR, acc, accZ, errA, *]

/-- mcs.run.goes -/
def mgoesS : Sp := fun args O =>
  match args with
  | [.ref 0 k 0, .int .i64 e, .int .i64 pc] => match O[k]? with
    | some (.arr [.ref 0 kn 0, .int .i64 lk, .int .i64 nd, .int .i64 pc0, .int .u64 ot, .bool en]) =>
      if e = 0 then some (.tup [.bool false, .int .i64 e], O.set k (.arr [.ref 0 kn 0, .int .i64 lk, .int .i64 nd, .int .i64 pc, .int .u64 ot, .bool en]))
      else some (.tup [.bool false, .int .i64 e], O)
    | _ => none
  | _ => none
theorem mgoesS_ok : SpOk Tryz.prog 166 mgoesS := by
  intro args O r O' h S
  unfold mgoesS at h
  repeat' (split at h)
  all_goals first | (cases h; done) | skip
  all_goals
    simp only [Option.some.injEq, Prod.mk.injEq] at h
    obtain ⟨rfl, rfl⟩ := h
    refine bodyA (tabC_nil _) (n := 0) F166_code ?_
    try simp only [acc, accZ, errA] at *
    simp (disch := first | decide | omega | assumption) only [F166, RAs, RBs, RCs, RDs, REs, RFs, RGs, RHs, RIs, RJs, RKs, RLs, if_true, if_false, dec_T, dec_F, Bool.not_true, Bool.not_false, Option.map_some, ite_true, Bool.and_true, List.map_cons, List.map_nil, List.length_cons, List.length_nil, List.nil_append, List.cons_append, Nat.zero_add, Nat.add_zero, Nat.mul_one, List.set_cons_zero, List.set_cons_succ, Int.toNat_natCast, List.drop_zero, List.drop_nil, List.drop_succ_cons, List.getElem?_drop, List.append_nil, List.length_set, decide_true, Bool.and_self, Bool.true_and, List.take_succ_cons, List.take_zero, Nat.reduceLT, Nat.reduceEqDiff, Nat.reduceAdd, Nat.reduceSub, gm_0, tabC_hit, tabC_miss, spC_some, m_stO, go_int, go_bool, go_str, go_ref, go_bref, go_iface, go_nilp, go_nili, go_nils, low_int, low_bool, low_str, low_ref, low_bref, low_iface', low_nilp', low_nili', low_nils, get4, get5, get6, get7, get8, get9, get10, wr_u64, g_stOA, g_boxO, low1_iface, low1_nilf, low1_nilm, low1_emp, low1_map, snap1_ref0, snap2_ref0, snap_ref0, snap1_if0, snap2_if0, snap_if0, snap1_br0, snap2_br0, snap_br0, snap1_nilp', snap2_nilp', snap_nilp', snap1_nili', snap2_nili', snap_nili', snap_tupE, m_newDo, m_newKo, m_newOo, m_newSo, m_stOB, stOB_int, m_aldBS, m_take1, gA_T, r_invk, inv_if, inv_some, r_invkX, invX_if, invX_some, and_self, and_true, true_and, Bool.false_eq_true, mx_1, mx_max1, mx_max2, mx_min1, mx_min2, eqb_same, eqb_same2, if_pos, if_neg, getA, orN_some, orN_self, get_len, app_set, getS_self, orS_some, set_set', methR, acc, accZ, errA, *]

/-- mcs.run.ends -/
def mendsS : Sp := fun args O =>
  match args with
  | [.ref 0 k 0, .int .i64 e] => match O[k]? with
    | some (.arr [.ref 0 kn 0, .int .i64 lk, .int .i64 nd, .int .i64 pc0, .int .u64 ot, .bool en]) =>
      if e = 0 then some (.tup [.bool false, .int .i64 e], O.set k (.arr [.ref 0 kn 0, .int .i64 lk, .int .i64 nd, .int .i64 pc0, .int .u64 ot, .bool true]))
      else some (.tup [.bool false, .int .i64 e], O.set k (.arr [.ref 0 kn 0, .int .i64 lk, .int .i64 nd, .int .i64 pc0, .int .u64 ot, .bool false]))
    | _ => none
  | _ => none
theorem mendsS_ok : SpOk Tryz.prog 168 mendsS := by
  intro args O r O' h S
  unfold mendsS at h
  repeat' (split at h)
  all_goals first | (cases h; done) | skip
  all_goals
    simp only [Option.some.injEq, Prod.mk.injEq] at h
    obtain ⟨rfl, rfl⟩ := h
    refine bodyA (tabC_nil _) (n := 0) F168_code ?_
    try simp only [acc, accZ, errA] at *
    simp (disch := first | decide | omega | assumption) only [F168, RAs, RBs, RCs, RDs, REs, RFs, RGs, RHs, RIs, RJs, RKs, RLs, if_true, if_false, dec_T, dec_F, Bool.not_true, Bool.not_false, Option.map_some, ite_true, Bool.and_true, List.map_cons, List.map_nil, List.length_cons, List.length_nil, List.nil_append, List.cons_append, Nat.zero_add, Nat.add_zero, Nat.mul_one, List.set_cons_zero, List.set_cons_succ, Int.toNat_natCast, List.drop_zero, List.drop_nil, List.drop_succ_cons, List.getElem?_drop, List.append_nil, List.length_set, decide_true, Bool.and_self, Bool.true_and, List.take_succ_cons, List.take_zero, Nat.reduceLT, Nat.reduceEqDiff, Nat.reduceAdd, Nat.reduceSub, gm_0, tabC_hit, tabC_miss, spC_some, m_stO, go_int, go_bool, go_str, go_ref, go_bref, go_iface, go_nilp, go_nili, go_nils, low_int, low_bool, low_str, low_ref, low_bref, low_iface', low_nilp', low_nili', low_nils, get4, get5, get6, get7, get8, get9, get10, wr_u64, g_stOA, g_boxO, low1_iface, low1_nilf, low1_nilm, low1_emp, low1_map, snap1_ref0, snap2_ref0, snap_ref0, snap1_if0, snap2_if0, snap_if0, snap1_br0, snap2_br0, snap_br0, snap1_nilp', snap2_nilp', snap_nilp', snap1_nili', snap2_nili', snap_nili', snap_tupE, m_newDo, m_newKo, m_newOo, m_newSo, m_stOB, stOB_int, m_aldBS, m_take1, gA_T, r_invk, inv_if, inv_some, r_invkX, invX_if, invX_some, and_self, and_true, true_and, Bool.false_eq_true, mx_1, mx_max1, mx_max2, mx_min1, mx_min2, eqb_same, eqb_same2, if_pos, if_neg, getA, orN_some, orN_self, get_len, app_set, getS_self, orS_some, set_set', methR, acc, accZ, errA, *]

/-- mcs.run.over -/
def moverS : Sp := fun args O =>
  match args with
  | [.ref 0 k 0] => match O[k]? with
    | some (.arr [.ref 0 _ 0, .int .i64 _, .int .i64 _, .int .i64 _, .int .u64 _, .bool en]) => some (.bool en, O)
    | _ => none
  | _ => none
theorem moverS_ok : SpOk Tryz.prog 163 moverS := by
  intro args O r O' h S
  unfold moverS at h
  repeat' (split at h)
  all_goals first | (cases h; done) | skip
  all_goals
    simp only [Option.some.injEq, Prod.mk.injEq] at h
    obtain ⟨rfl, rfl⟩ := h
    refine bodyA (tabC_nil _) (n := 0) F163_code ?_
    try simp only [acc, accZ, errA] at *
    simp (disch := first | decide | omega | assumption) only [F163, RAs, RBs, RCs, RDs, REs, RFs, RGs, RHs, RIs, RJs, RKs, RLs, if_true, if_false, dec_T, dec_F, Bool.not_true, Bool.not_false, Option.map_some, ite_true, Bool.and_true, List.map_cons, List.map_nil, List.length_cons, List.length_nil, List.nil_append, List.cons_append, Nat.zero_add, Nat.add_zero, Nat.mul_one, List.set_cons_zero, List.set_cons_succ, Int.toNat_natCast, List.drop_zero, List.drop_nil, List.drop_succ_cons, List.getElem?_drop, List.append_nil, List.length_set, decide_true, Bool.and_self, Bool.true_and, List.take_succ_cons, List.take_zero, Nat.reduceLT, Nat.reduceEqDiff, Nat.reduceAdd, Nat.reduceSub, gm_0, tabC_hit, tabC_miss, spC_some, m_stO, go_int, go_bool, go_str, go_ref, go_bref, go_iface, go_nilp, go_nili, go_nils, low_int, low_bool, low_str, low_ref, low_bref, low_iface', low_nilp', low_nili', low_nils, get4, get5, get6, get7, get8, get9, get10, wr_u64, g_stOA, g_boxO, low1_iface, low1_nilf, low1_nilm, low1_emp, low1_map, snap1_ref0, snap2_ref0, snap_ref0, snap1_if0, snap2_if0, snap_if0, snap1_br0, snap2_br0, snap_br0, snap1_nilp', snap2_nilp', snap_nilp', snap1_nili', snap2_nili', snap_nili', snap_tupE, m_newDo, m_newKo, m_newOo, m_newSo, m_stOB, stOB_int, m_aldBS, m_take1, gA_T, r_invk, inv_if, inv_some, r_invkX, invX_if, invX_some, and_self, and_true, true_and, Bool.false_eq_true, mx_1, mx_max1, mx_max2, mx_min1, mx_min2, eqb_same, eqb_same2, if_pos, if_neg, getA, orN_some, orN_self, get_len, app_set, getS_self, orS_some, set_set', methR, acc, accZ, errA, *]

/-- mcs.Acquire.Done -/
def acqDoneS : Sp := fun args O =>
  match args with
  | [.ref 0 k 0] => match moverS [.ref 0 k 0] O with
    | some (.bool b, O') => some (.bool b, O')
    | _ => none
  | _ => none
theorem acqDoneS_ok : SpOk Tryz.prog 160 acqDoneS := by
  intro args O r O' h S
  unfold acqDoneS at h
  repeat' (split at h)
  all_goals first | (cases h; done) | skip
  all_goals
    simp only [Option.some.injEq, Prod.mk.injEq] at h
    obtain ⟨rfl, rfl⟩ := h
    refine bodyA (tabC_cons moverS_ok (tabC_nil _)) (n := 0) F160_code ?_
    try simp only [acc, accZ, errA] at *
    simp (disch := first | decide | omega | assumption) only [F160, RAs, RBs, RCs, RDs, REs, RFs, RGs, RHs, RIs, RJs, RKs, RLs, if_true, if_false, dec_T, dec_F, Bool.not_true, Bool.not_false, Option.map_some, ite_true, Bool.and_true, List.map_cons, List.map_nil, List.length_cons, List.length_nil, List.nil_append, List.cons_append, Nat.zero_add, Nat.add_zero, Nat.mul_one, List.set_cons_zero, List.set_cons_succ, Int.toNat_natCast, List.drop_zero, List.drop_nil, List.drop_succ_cons, List.getElem?_drop, List.append_nil, List.length_set, decide_true, Bool.and_self, Bool.true_and, List.take_succ_cons, List.take_zero, Nat.reduceLT, Nat.reduceEqDiff, Nat.reduceAdd, Nat.reduceSub, gm_0, tabC_hit, tabC_miss, spC_some, m_stO, go_int, go_bool, go_str, go_ref, go_bref, go_iface, go_nilp, go_nili, go_nils, low_int, low_bool, low_str, low_ref, low_bref, low_iface', low_nilp', low_nili', low_nils, get4, get5, get6, get7, get8, get9, get10, wr_u64, g_stOA, g_boxO, low1_iface, low1_nilf, low1_nilm, low1_emp, low1_map, snap1_ref0, snap2_ref0, snap_ref0, snap1_if0, snap2_if0, snap_if0, snap1_br0, snap2_br0, snap_br0, snap1_nilp', snap2_nilp', snap_nilp', snap1_nili', snap2_nili', snap_nili', snap_tupE, m_newDo, m_newKo, m_newOo, m_newSo, m_stOB, stOB_int, m_aldBS, m_take1, gA_T, r_invk, inv_if, inv_some, r_invkX, invX_if, invX_some, and_self, and_true, true_and, Bool.false_eq_true, mx_1, mx_max1, mx_max2, mx_min1, mx_min2, eqb_same, eqb_same2, if_pos, if_neg, getA, orN_some, orN_self, get_len, app_set, getS_self, orS_some, set_set', methR, acc, accZ, errA, *]

/-- mcs.Release.Done -/
def relDoneS : Sp := fun args O =>
  match args with
  | [.ref 0 k 0] => match moverS [.ref 0 k 0] O with
    | some (.bool b, O') => some (.bool b, O')
    | _ => none
  | _ => none
theorem relDoneS_ok : SpOk Tryz.prog 171 relDoneS := by
  intro args O r O' h S
  unfold relDoneS at h
  repeat' (split at h)
  all_goals first | (cases h; done) | skip
  all_goals
    simp only [Option.some.injEq, Prod.mk.injEq] at h
    obtain ⟨rfl, rfl⟩ := h
    refine bodyA (tabC_cons moverS_ok (tabC_nil _)) (n := 0) F171_code ?_
    try simp only [acc, accZ, errA] at *
    simp (disch := first | decide | omega | assumption) only [F171, RAs, RBs, RCs, RDs, REs, RFs, RGs, RHs, RIs, RJs, RKs, RLs, if_true, if_false, dec_T, dec_F, Bool.not_true, Bool.not_false, Option.map_some, ite_true, Bool.and_true, List.map_cons, List.map_nil, List.length_cons, List.length_nil, List.nil_append, List.cons_append, Nat.zero_add, Nat.add_zero, Nat.mul_one, List.set_cons_zero, List.set_cons_succ, Int.toNat_natCast, List.drop_zero, List.drop_nil, List.drop_succ_cons, List.getElem?_drop, List.append_nil, List.length_set, decide_true, Bool.and_self, Bool.true_and, List.take_succ_cons, List.take_zero, Nat.reduceLT, Nat.reduceEqDiff, Nat.reduceAdd, Nat.reduceSub, gm_0, tabC_hit, tabC_miss, spC_some, m_stO, go_int, go_bool, go_str, go_ref, go_bref, go_iface, go_nilp, go_nili, go_nils, low_int, low_bool, low_str, low_ref, low_bref, low_iface', low_nilp', low_nili', low_nils, get4, get5, get6, get7, get8, get9, get10, wr_u64, g_stOA, g_boxO, low1_iface, low1_nilf, low1_nilm, low1_emp, low1_map, snap1_ref0, snap2_ref0, snap_ref0, snap1_if0, snap2_if0, snap_if0, snap1_br0, snap2_br0, snap_br0, snap1_nilp', snap2_nilp', snap_nilp', snap1_nili', snap2_nili', snap_nili', snap_tupE, m_newDo, m_newKo, m_newOo, m_newSo, m_stOB, stOB_int, m_aldBS, m_take1, gA_T, r_invk, inv_if, inv_some, r_invkX, invX_if, invX_some, and_self, and_true, true_and, Bool.false_eq_true, mx_1, mx_max1, mx_max2, mx_min1, mx_min2, eqb_same, eqb_same2, if_pos, if_neg, getA, orN_some, orN_self, get_len, app_set, getS_self, orS_some, set_set', methR, acc, accZ, errA, *]

end Den
