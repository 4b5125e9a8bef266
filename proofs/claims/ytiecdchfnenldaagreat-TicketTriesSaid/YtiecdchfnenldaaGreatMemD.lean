/- Contracts of a memory's accesses, and of an arena of one access. -/
import Derived.Test.YtiecdchfnenldaaGreatMemC

import Derived.Test.YtiecdchfnenldaaGreatDenG6
set_option maxRecDepth 100000
set_option maxHeartbeats 1000000
set_option linter.unusedSimpArgs false
set_option linter.unusedVariables false
namespace Den
open Go Go.Proofs

/-- mem.Mem.Load -/
def loadS : Sp := fun args O =>
  match args with
  | [.ref 0 k off, .int .i64 w] => match doS [.ref 0 k off, acc 1 w 0 0] O with
    | some (.tup [.agg [.int .i64 _, .int .i64 _, .int .u64 b, .int .u64 _], .int .i64 e], O') => some (.tup [.int .u64 b, .int .i64 e], O')
    | _ => none
  | _ => none
theorem loadS_ok : SpOk Tryz.prog 52 loadS := by
  intro args O r O' h S
  unfold loadS at h
  repeat' (split at h)
  all_goals first | (cases h; done) | skip
  all_goals
    simp only [Option.some.injEq, Prod.mk.injEq] at h
    obtain ⟨rfl, rfl⟩ := h
    refine bodyA (tabC_cons doS_ok (tabC_nil _)) (n := 0) F52_code ?_
    try simp only [acc, accZ, errA] at *
    simp (disch := first | decide | omega | assumption) only [F52, RAs, RBs, RCs, RDs, REs, RFs, RGs, RHs, RIs, RJs, RKs, RLs, if_true, if_false, dec_T, dec_F, Bool.not_true, Bool.not_false, Option.map_some, ite_true, Bool.and_true, List.map_cons, List.map_nil, List.length_cons, List.length_nil, List.nil_append, List.cons_append, Nat.zero_add, Nat.add_zero, Nat.mul_one, List.set_cons_zero, List.set_cons_succ, Int.toNat_natCast, List.drop_zero, List.drop_nil, List.drop_succ_cons, List.getElem?_drop, List.append_nil, List.length_set, decide_true, Bool.and_self, Bool.true_and, List.take_succ_cons, List.take_zero, Nat.reduceLT, Nat.reduceEqDiff, Nat.reduceAdd, Nat.reduceSub, gm_0, tabC_hit, tabC_miss, spC_some, m_stO, go_int, go_bool, go_str, go_ref, go_bref, go_iface, go_nilp, go_nili, go_nils, low_int, low_bool, low_str, low_ref, low_bref, low_iface', low_nilp', low_nili', low_nils, get4, get5, get6, get7, get8, get9, get10, wr_u64, g_stOA, g_boxO, low1_iface, low1_nilf, low1_nilm, low1_emp, low1_map, snap1_ref0, snap2_ref0, snap_ref0, snap1_if0, snap2_if0, snap_if0, snap1_br0, snap2_br0, snap_br0, snap1_nilp', snap2_nilp', snap_nilp', snap1_nili', snap2_nili', snap_nili', snap_tupE, m_newDo, m_newKo, m_newOo, m_newSo, m_stOB, stOB_int, m_aldBS, m_take1, gA_T, r_invk, inv_if, inv_some, r_invkX, invX_if, invX_some, and_self, and_true, true_and, Bool.false_eq_true, mx_1, mx_max1, mx_max2, mx_min1, mx_min2, eqb_same, eqb_same2, if_pos, if_neg, getA, orN_some, orN_self, get_len, app_set, getS_self, orS_some, set_set', acc, accZ, errA, *]

/-- mem.Mem.Store -/
def storeS : Sp := fun args O =>
  match args with
  | [.ref 0 k off, .int .i64 w, .int .u64 v] => match doS [.ref 0 k off, acc 2 w 0 v] O with
    | some (.tup [.agg [.int .i64 _, .int .i64 _, .int .u64 _, .int .u64 _], .int .i64 e], O') => some (.int .i64 e, O')
    | _ => none
  | _ => none
theorem storeS_ok : SpOk Tryz.prog 48 storeS := by
  intro args O r O' h S
  unfold storeS at h
  repeat' (split at h)
  all_goals first | (cases h; done) | skip
  all_goals
    simp only [Option.some.injEq, Prod.mk.injEq] at h
    obtain ⟨rfl, rfl⟩ := h
    refine bodyA (tabC_cons doS_ok (tabC_nil _)) (n := 0) F48_code ?_
    try simp only [acc, accZ, errA] at *
    simp (disch := first | decide | omega | assumption) only [F48, RAs, RBs, RCs, RDs, REs, RFs, RGs, RHs, RIs, RJs, RKs, RLs, if_true, if_false, dec_T, dec_F, Bool.not_true, Bool.not_false, Option.map_some, ite_true, Bool.and_true, List.map_cons, List.map_nil, List.length_cons, List.length_nil, List.nil_append, List.cons_append, Nat.zero_add, Nat.add_zero, Nat.mul_one, List.set_cons_zero, List.set_cons_succ, Int.toNat_natCast, List.drop_zero, List.drop_nil, List.drop_succ_cons, List.getElem?_drop, List.append_nil, List.length_set, decide_true, Bool.and_self, Bool.true_and, List.take_succ_cons, List.take_zero, Nat.reduceLT, Nat.reduceEqDiff, Nat.reduceAdd, Nat.reduceSub, gm_0, tabC_hit, tabC_miss, spC_some, m_stO, go_int, go_bool, go_str, go_ref, go_bref, go_iface, go_nilp, go_nili, go_nils, low_int, low_bool, low_str, low_ref, low_bref, low_iface', low_nilp', low_nili', low_nils, get4, get5, get6, get7, get8, get9, get10, wr_u64, g_stOA, g_boxO, low1_iface, low1_nilf, low1_nilm, low1_emp, low1_map, snap1_ref0, snap2_ref0, snap_ref0, snap1_if0, snap2_if0, snap_if0, snap1_br0, snap2_br0, snap_br0, snap1_nilp', snap2_nilp', snap_nilp', snap1_nili', snap2_nili', snap_nili', snap_tupE, m_newDo, m_newKo, m_newOo, m_newSo, m_stOB, stOB_int, m_aldBS, m_take1, gA_T, r_invk, inv_if, inv_some, r_invkX, invX_if, invX_some, and_self, and_true, true_and, Bool.false_eq_true, mx_1, mx_max1, mx_max2, mx_min1, mx_min2, eqb_same, eqb_same2, if_pos, if_neg, getA, orN_some, orN_self, get_len, app_set, getS_self, orS_some, set_set', acc, accZ, errA, *]

/-- mem.NewOnce -/
def newOnceS : Sp := fun args O =>
  match args with
  | [.ref 0 k off] => match zeroS [.ref 0 k off] O with
    | some (.bool true, O') => some (.tup [.nilp, .int .i64 1], O')
    | some (.bool false, O') => some (.tup [.ref 0 O'.length 0, .int .i64 0], O' ++ [.arr [.ref 0 k off, .int .i64 0, .int .i64 0, .int .u64 0, .int .u64 0]])
    | _ => none
  | _ => none
theorem newOnceS_ok : SpOk Tryz.prog 101 newOnceS := by
  intro args O r O' h S
  unfold newOnceS at h
  repeat' (split at h)
  all_goals first | (cases h; done) | skip
  all_goals
    simp only [Option.some.injEq, Prod.mk.injEq] at h
    obtain ⟨rfl, rfl⟩ := h
    refine bodyA (tabC_cons zeroS_ok (tabC_nil _)) (n := 0) F101_code ?_
    try simp only [acc, accZ, errA] at *
    simp (disch := first | decide | omega | assumption) only [F101, RAs, RBs, RCs, RDs, REs, RFs, RGs, RHs, RIs, RJs, RKs, RLs, if_true, if_false, dec_T, dec_F, Bool.not_true, Bool.not_false, Option.map_some, ite_true, Bool.and_true, List.map_cons, List.map_nil, List.length_cons, List.length_nil, List.nil_append, List.cons_append, Nat.zero_add, Nat.add_zero, Nat.mul_one, List.set_cons_zero, List.set_cons_succ, Int.toNat_natCast, List.drop_zero, List.drop_nil, List.drop_succ_cons, List.getElem?_drop, List.append_nil, List.length_set, decide_true, Bool.and_self, Bool.true_and, List.take_succ_cons, List.take_zero, Nat.reduceLT, Nat.reduceEqDiff, Nat.reduceAdd, Nat.reduceSub, gm_0, tabC_hit, tabC_miss, spC_some, m_stO, go_int, go_bool, go_str, go_ref, go_bref, go_iface, go_nilp, go_nili, go_nils, low_int, low_bool, low_str, low_ref, low_bref, low_iface', low_nilp', low_nili', low_nils, get4, get5, get6, get7, get8, get9, get10, wr_u64, g_stOA, g_boxO, low1_iface, low1_nilf, low1_nilm, low1_emp, low1_map, snap1_ref0, snap2_ref0, snap_ref0, snap1_if0, snap2_if0, snap_if0, snap1_br0, snap2_br0, snap_br0, snap1_nilp', snap2_nilp', snap_nilp', snap1_nili', snap2_nili', snap_nili', snap_tupE, m_newDo, m_newKo, m_newOo, m_newSo, m_stOB, stOB_int, m_aldBS, m_take1, gA_T, r_invk, inv_if, inv_some, r_invkX, invX_if, invX_some, and_self, and_true, true_and, Bool.false_eq_true, mx_1, mx_max1, mx_max2, mx_min1, mx_min2, eqb_same, eqb_same2, if_pos, if_neg, getA, orN_some, orN_self, get_len, app_set, getS_self, orS_some, set_set', acc, accZ, errA, *]

/-- mem.Once.zero -/
def onceZeroS : Sp := fun args O =>
  match args with
  | [.ref 0 k 0] => match O[k]? with
    | some (.arr [.ref 0 _ _, .int .i64 _, .int .i64 _, .int .u64 _, .int .u64 _]) => some (.bool false, O)
    | _ => none
  | _ => none
theorem onceZeroS_ok : SpOk Tryz.prog 180 onceZeroS := by
  intro args O r O' h S
  unfold onceZeroS at h
  repeat' (split at h)
  all_goals first | (cases h; done) | skip
  all_goals
    simp only [Option.some.injEq, Prod.mk.injEq] at h
    obtain ⟨rfl, rfl⟩ := h
    refine bodyA (tabC_nil _) (n := 0) F180_code ?_
    try simp only [acc, accZ, errA] at *
    simp (disch := first | decide | omega | assumption) only [F180, RAs, RBs, RCs, RDs, REs, RFs, RGs, RHs, RIs, RJs, RKs, RLs, if_true, if_false, dec_T, dec_F, Bool.not_true, Bool.not_false, Option.map_some, ite_true, Bool.and_true, List.map_cons, List.map_nil, List.length_cons, List.length_nil, List.nil_append, List.cons_append, Nat.zero_add, Nat.add_zero, Nat.mul_one, List.set_cons_zero, List.set_cons_succ, Int.toNat_natCast, List.drop_zero, List.drop_nil, List.drop_succ_cons, List.getElem?_drop, List.append_nil, List.length_set, decide_true, Bool.and_self, Bool.true_and, List.take_succ_cons, List.take_zero, Nat.reduceLT, Nat.reduceEqDiff, Nat.reduceAdd, Nat.reduceSub, gm_0, tabC_hit, tabC_miss, spC_some, m_stO, go_int, go_bool, go_str, go_ref, go_bref, go_iface, go_nilp, go_nili, go_nils, low_int, low_bool, low_str, low_ref, low_bref, low_iface', low_nilp', low_nili', low_nils, get4, get5, get6, get7, get8, get9, get10, wr_u64, g_stOA, g_boxO, low1_iface, low1_nilf, low1_nilm, low1_emp, low1_map, snap1_ref0, snap2_ref0, snap_ref0, snap1_if0, snap2_if0, snap_if0, snap1_br0, snap2_br0, snap_br0, snap1_nilp', snap2_nilp', snap_nilp', snap1_nili', snap2_nili', snap_nili', snap_tupE, m_newDo, m_newKo, m_newOo, m_newSo, m_stOB, stOB_int, m_aldBS, m_take1, gA_T, r_invk, inv_if, inv_some, r_invkX, invX_if, invX_some, and_self, and_true, true_and, Bool.false_eq_true, mx_1, mx_max1, mx_max2, mx_min1, mx_min2, eqb_same, eqb_same2, if_pos, if_neg, getA, orN_some, orN_self, get_len, app_set, getS_self, orS_some, set_set', acc, accZ, errA, *]

/-- mem.Once.do -/
def onceDoS : Sp := fun args O =>
  match args with
  | [.ref 0 k 0, .agg [.int .i64 kd, .int .i64 w, .int .u64 b, .int .u64 a]] => match O[k]? with
    | some (.arr [.ref 0 km off, .int .i64 kd0, .int .i64 w0, .int .u64 b0, .int .u64 a0]) =>
      if kd0 = 0 then match doS [.ref 0 km off, acc kd w b a] O with
        | some (.tup [.agg [.int .i64 x0, .int .i64 x1, .int .u64 x2, .int .u64 x3], .int .i64 e], O') => match O'[k]? with
          | some (.arr [c0, c1, c2, c3, c4]) =>
            if e = 0 then some (.tup [acc x0 x1 x2 x3, .int .i64 e], O'.set k (.arr [c0, .int .i64 x0, .int .i64 x1, .int .u64 x2, .int .u64 x3]))
            else some (.tup [acc x0 x1 x2 x3, .int .i64 e], O')
          | _ => none
        | _ => none
      else some (errA 11, O)
    | _ => none
  | _ => none
theorem onceDoS_ok : SpOk Tryz.prog 179 onceDoS := by
  intro args O r O' h S
  unfold onceDoS at h
  repeat' (split at h)
  all_goals first | (cases h; done) | skip
  all_goals
    simp only [Option.some.injEq, Prod.mk.injEq] at h
    obtain ⟨rfl, rfl⟩ := h
    refine bodyA (tabC_cons onceZeroS_ok (tabC_cons doS_ok (tabC_nil _))) (n := 0) F179_code ?_
    try simp only [acc, accZ, errA] at *
    simp (disch := first | decide | omega | assumption) only [F179, RAs, RBs, RCs, RDs, REs, RFs, RGs, RHs, RIs, RJs, RKs, RLs, if_true, if_false, dec_T, dec_F, Bool.not_true, Bool.not_false, Option.map_some, ite_true, Bool.and_true, List.map_cons, List.map_nil, List.length_cons, List.length_nil, List.nil_append, List.cons_append, Nat.zero_add, Nat.add_zero, Nat.mul_one, List.set_cons_zero, List.set_cons_succ, Int.toNat_natCast, List.drop_zero, List.drop_nil, List.drop_succ_cons, List.getElem?_drop, List.append_nil, List.length_set, decide_true, Bool.and_self, Bool.true_and, List.take_succ_cons, List.take_zero, Nat.reduceLT, Nat.reduceEqDiff, Nat.reduceAdd, Nat.reduceSub, gm_0, tabC_hit, tabC_miss, spC_some, m_stO, go_int, go_bool, go_str, go_ref, go_bref, go_iface, go_nilp, go_nili, go_nils, low_int, low_bool, low_str, low_ref, low_bref, low_iface', low_nilp', low_nili', low_nils, get4, get5, get6, get7, get8, get9, get10, wr_u64, g_stOA, g_boxO, low1_iface, low1_nilf, low1_nilm, low1_emp, low1_map, snap1_ref0, snap2_ref0, snap_ref0, snap1_if0, snap2_if0, snap_if0, snap1_br0, snap2_br0, snap_br0, snap1_nilp', snap2_nilp', snap_nilp', snap1_nili', snap2_nili', snap_nili', snap_tupE, m_newDo, m_newKo, m_newOo, m_newSo, m_stOB, stOB_int, m_aldBS, m_take1, gA_T, r_invk, inv_if, inv_some, r_invkX, invX_if, invX_some, and_self, and_true, true_and, Bool.false_eq_true, mx_1, mx_max1, mx_max2, mx_min1, mx_min2, eqb_same, eqb_same2, if_pos, if_neg, getA, orN_some, orN_self, get_len, app_set, getS_self, orS_some, set_set', acc, accZ, errA, onceZeroS, *]

end Den
