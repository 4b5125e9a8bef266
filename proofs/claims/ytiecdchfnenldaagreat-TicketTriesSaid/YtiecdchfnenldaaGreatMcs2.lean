/- Contracts of the plain queue lock's steps. -/
import Derived.Test.YtiecdchfnenldaaGreatMcs
set_option maxRecDepth 100000
set_option maxHeartbeats 4000000
set_option linter.unusedSimpArgs false
set_option linter.unusedVariables false
namespace Den
open Go Go.Proofs

/-- mcs.Acquire.Step -/
def acqStepS : Sp := fun args O =>
  match args with
  | [.ref 0 k 0, .iface 162 (.ref 0 ko 0)] =>
    (match O[k]? with
    | some (.arr [.ref 0 kn 0, .int .i64 lk, .int .i64 nd, .int .i64 pc, .int .u64 ot, .bool en]) => (
    if en = true then
      some (.tup [.bool false, .int .i64 17], O)
    else if pc = 1 then
      (match nnextS [.ref 0 kn 0, .int .i64 nd] O with
      | some (.int .i64 w, O1) => (
      (match onceStoreS [.ref 0 ko 0, .int .i64 w, .int .u64 0] O1 with
      | some (.int .i64 e, O2) => (
      (match mgoesS [.ref 0 k 0, .int .i64 e, .int .i64 2] O2 with
      | some (.tup [.bool b, .int .i64 e1], O3) => (
      some (.tup [.bool b, .int .i64 e1], O3))
      | _ => none))
      | _ => none))
      | _ => none)
    else if pc = 2 then
      (match nwaitS [.ref 0 kn 0, .int .i64 nd] O with
      | some (.int .i64 w, O4) => (
      (match onceStoreS [.ref 0 ko 0, .int .i64 w, .int .u64 1] O4 with
      | some (.int .i64 e, O5) => (
      (match mgoesS [.ref 0 k 0, .int .i64 e, .int .i64 3] O5 with
      | some (.tup [.bool b, .int .i64 e1], O6) => (
      some (.tup [.bool b, .int .i64 e1], O6))
      | _ => none))
      | _ => none))
      | _ => none)
    else if pc = 3 then
      (match mrefS [.ref 0 k 0] O with
      | some (.int .u64 r, O7) => (
      (match O7[k]? with
      | some (.arr [.ref 0 kn' 0, .int .i64 lk', .int .i64 nd', .int .i64 pc', .int .u64 ot', .bool en']) => (
      if lk' = lk then
        (match onceSwapS [.ref 0 ko 0, .int .i64 lk, .int .u64 r] O7 with
        | some (.tup [.int .u64 x, .int .i64 e], O8) => (
        if x = 0 then
          (match mendsS [.ref 0 k 0, .int .i64 e] O8 with
          | some (.tup [.bool b, .int .i64 e1], O9) => (
          some (.tup [.bool b, .int .i64 e1], O9))
          | _ => none)
        else
          (match O8[k]? with
          | some (.arr [c0, c1, c2, c3, c4, c5]) => (
          match mgoesS [.ref 0 k 0, .int .i64 e, .int .i64 4] (O8.set k (.arr [c0, c1, c2, c3, .int .u64 x, c5])) with
          | some (.tup [.bool b, .int .i64 e1], Oz) => some (.tup [.bool b, .int .i64 e1], Oz)
          | _ => none)
          | _ => none))
        | _ => none)
      else none)
      | _ => none))
      | _ => none)
    else if pc = 4 then
      (match mtargetS [.ref 0 k 0] O with
      | some (.tup [.int .i64 kk, .int .i64 e], O10) => (
      if e = 0 then
        (match O10[k]? with
        | some (.arr [.ref 0 kn' 0, .int .i64 lk', .int .i64 nd', .int .i64 pc', .int .u64 ot', .bool en']) => (
        if kn' = kn then
          (match nnextS [.ref 0 kn 0, .int .i64 kk] O10 with
          | some (.int .i64 w, O11) => (
          (match mrefS [.ref 0 k 0] O11 with
          | some (.int .u64 r, O12) => (
          (match onceStoreS [.ref 0 ko 0, .int .i64 w, .int .u64 r] O12 with
          | some (.int .i64 e, O13) => (
          (match mgoesS [.ref 0 k 0, .int .i64 e, .int .i64 5] O13 with
          | some (.tup [.bool b, .int .i64 e1], O14) => (
          some (.tup [.bool b, .int .i64 e1], O14))
          | _ => none))
          | _ => none))
          | _ => none))
          | _ => none)
        else none)
        | _ => none)
      else
        some (.tup [.bool false, .int .i64 e], O10))
      | _ => none)
    else
      (match nwaitS [.ref 0 kn 0, .int .i64 nd] O with
      | some (.int .i64 w, O15) => (
      (match onceLoadS [.ref 0 ko 0, .int .i64 w] O15 with
      | some (.tup [.int .u64 x, .int .i64 e], O16) => (
      if e = 0 then
        if x = 0 then
          (match mendsS [.ref 0 k 0, .int .i64 0] O16 with
          | some (.tup [.bool b, .int .i64 e1], O17) => (
          some (.tup [.bool b, .int .i64 e1], O17))
          | _ => none)
        else
          some (.tup [.bool true, .int .i64 0], O16)
      else
        some (.tup [.bool false, .int .i64 e], O16))
      | _ => none))
      | _ => none))
    | _ => none)
  | _ => none
theorem acqStepS_ok : SpOk Tryz.prog 162 acqStepS := by
  intro args O r O' h S
  unfold acqStepS at h
  repeat' (split at h)
  all_goals first | (cases h; done) | skip
  all_goals
    simp only [Option.some.injEq, Prod.mk.injEq] at h
    obtain ⟨rfl, rfl⟩ := h
    refine bodyA (tabC_cons mreadyS_ok (tabC_cons nnextS_ok (tabC_cons nwaitS_ok (tabC_cons onceStoreS_ok (tabC_cons onceSwapS_ok (tabC_cons onceLoadS_ok (tabC_cons mgoesS_ok (tabC_cons mendsS_ok (tabC_cons mrefS_ok (tabC_cons mtargetS_ok (tabC_nil _))))))))))) (n := 0) F162_code ?_
    try simp only [acc, accZ, errA] at *
    simp (disch := first | decide | omega | assumption) only [F162, RAs, RBs, RCs, RDs, REs, RFs, RGs, RHs, RIs, RJs, RKs, RLs, if_true, if_false, dec_T, dec_F, Bool.not_true, Bool.not_false, Option.map_some, ite_true, Bool.and_true, List.map_cons, List.map_nil, List.length_cons, List.length_nil, List.nil_append, List.cons_append, Nat.zero_add, Nat.add_zero, Nat.mul_one, List.set_cons_zero, List.set_cons_succ, Int.toNat_natCast, List.drop_zero, List.drop_nil, List.drop_succ_cons, List.getElem?_drop, List.append_nil, List.length_set, decide_true, Bool.and_self, Bool.true_and, List.take_succ_cons, List.take_zero, Nat.reduceLT, Nat.reduceEqDiff, Nat.reduceAdd, Nat.reduceSub, gm_0, tabC_hit, tabC_miss, spC_some, m_stO, go_int, go_bool, go_str, go_ref, go_bref, go_iface, go_nilp, go_nili, go_nils, low_int, low_bool, low_str, low_ref, low_bref, low_iface', low_nilp', low_nili', low_nils, get4, get5, get6, get7, get8, get9, get10, wr_u64, g_stOA, g_boxO, low1_iface, low1_nilf, low1_nilm, low1_emp, low1_map, snap1_ref0, snap2_ref0, snap_ref0, snap1_if0, snap2_if0, snap_if0, snap1_br0, snap2_br0, snap_br0, snap1_nilp', snap2_nilp', snap_nilp', snap1_nili', snap2_nili', snap_nili', snap_tupE, m_newDo, m_newKo, m_newOo, m_newSo, m_stOB, stOB_int, m_aldBS, m_take1, gA_T, r_invk, inv_if, inv_some, r_invkX, invX_if, invX_some, and_self, and_true, true_and, Bool.false_eq_true, mx_1, mx_max1, mx_max2, mx_min1, mx_min2, eqb_same, eqb_same2, if_pos, if_neg, getA, orN_some, orN_self, get_len, app_set, getS_self, orS_some, set_set', methR, acc, accZ, errA, mreadyS, *]

/-- mcs.Release.Step -/
def relStepS : Sp := fun args O =>
  match args with
  | [.ref 0 k 0, .iface 162 (.ref 0 ko 0)] =>
    (match O[k]? with
    | some (.arr [.ref 0 kn 0, .int .i64 lk, .int .i64 nd, .int .i64 pc, .int .u64 ot, .bool en]) => (
    if en = true then
      some (.tup [.bool false, .int .i64 17], O)
    else if pc = 1 then
      (match nnextS [.ref 0 kn 0, .int .i64 nd] O with
      | some (.int .i64 w, O1) => (
      (match onceLoadS [.ref 0 ko 0, .int .i64 w] O1 with
      | some (.tup [.int .u64 x, .int .i64 e], O2) => (
      if e = 0 then
        (match O2[k]? with
        | some (.arr [c0, c1, c2, .int .i64 pc', c4, c5]) => (
        if x = 0 then
          if pc' = 1 then
            some (.tup [.bool false, .int .i64 0], O2.set k (.arr [c0, c1, c2, .int .i64 2, c4, c5]))
          else none
        else
          match mgoesS [.ref 0 k 0, .int .i64 0, .int .i64 4] (O2.set k (.arr [c0, c1, c2, .int .i64 pc', .int .u64 x, c5])) with
          | some (.tup [.bool b, .int .i64 e1], Oz) => some (.tup [.bool b, .int .i64 e1], Oz)
          | _ => none)
        | _ => none)
      else
        some (.tup [.bool false, .int .i64 e], O2))
      | _ => none))
      | _ => none)
    else if pc = 3 then
      (match nnextS [.ref 0 kn 0, .int .i64 nd] O with
      | some (.int .i64 w, O3) => (
      (match onceLoadS [.ref 0 ko 0, .int .i64 w] O3 with
      | some (.tup [.int .u64 x, .int .i64 e], O4) => (
      if e = 0 then
        (match O4[k]? with
        | some (.arr [c0, c1, c2, .int .i64 pc', c4, c5]) => (
        if x = 0 then
          if pc' = 3 then
            some (.tup [.bool true, .int .i64 0], O4.set k (.arr [c0, c1, c2, .int .i64 3, c4, c5]))
          else none
        else
          match mgoesS [.ref 0 k 0, .int .i64 0, .int .i64 4] (O4.set k (.arr [c0, c1, c2, .int .i64 pc', .int .u64 x, c5])) with
          | some (.tup [.bool b, .int .i64 e1], Oz) => some (.tup [.bool b, .int .i64 e1], Oz)
          | _ => none)
        | _ => none)
      else
        some (.tup [.bool false, .int .i64 e], O4))
      | _ => none))
      | _ => none)
    else if pc = 2 then
      (match mrefS [.ref 0 k 0] O with
      | some (.int .u64 r, O5) => (
      (match O5[k]? with
      | some (.arr [.ref 0 kn' 0, .int .i64 lk', .int .i64 nd', .int .i64 pc', .int .u64 ot', .bool en']) => (
      if lk' = lk then
        (match onceCasS [.ref 0 ko 0, .int .i64 lk, .int .u64 r, .int .u64 0] O5 with
        | some (.tup [.bool is, .int .i64 e], O6) => (
        if is = true then
          (match mendsS [.ref 0 k 0, .int .i64 e] O6 with
          | some (.tup [.bool b, .int .i64 e1], O7) => (
          some (.tup [.bool b, .int .i64 e1], O7))
          | _ => none)
        else
          (match mgoesS [.ref 0 k 0, .int .i64 e, .int .i64 3] O6 with
          | some (.tup [.bool b, .int .i64 e1], O8) => (
          some (.tup [.bool b, .int .i64 e1], O8))
          | _ => none))
        | _ => none)
      else none)
      | _ => none))
      | _ => none)
    else
      (match mtargetS [.ref 0 k 0] O with
      | some (.tup [.int .i64 kk, .int .i64 e], O9) => (
      if e = 0 then
        (match O9[k]? with
        | some (.arr [.ref 0 kn' 0, .int .i64 lk', .int .i64 nd', .int .i64 pc', .int .u64 ot', .bool en']) => (
        if kn' = kn then
          (match nwaitS [.ref 0 kn 0, .int .i64 kk] O9 with
          | some (.int .i64 w, O10) => (
          (match onceStoreS [.ref 0 ko 0, .int .i64 w, .int .u64 0] O10 with
          | some (.int .i64 e2, O11) => (
          (match mendsS [.ref 0 k 0, .int .i64 e2] O11 with
          | some (.tup [.bool b, .int .i64 e1], O12) => (
          some (.tup [.bool b, .int .i64 e1], O12))
          | _ => none))
          | _ => none))
          | _ => none)
        else none)
        | _ => none)
      else
        some (.tup [.bool false, .int .i64 e], O9))
      | _ => none))
    | _ => none)
  | _ => none
theorem relStepS_ok : SpOk Tryz.prog 173 relStepS := by
  intro args O r O' h S
  unfold relStepS at h
  repeat' (split at h)
  all_goals first | (cases h; done) | skip
  all_goals
    simp only [Option.some.injEq, Prod.mk.injEq] at h
    obtain ⟨rfl, rfl⟩ := h
    refine bodyA (tabC_cons mreadyS_ok (tabC_cons nnextS_ok (tabC_cons nwaitS_ok (tabC_cons onceStoreS_ok (tabC_cons onceCasS_ok (tabC_cons onceLoadS_ok (tabC_cons mgoesS_ok (tabC_cons mendsS_ok (tabC_cons mrefS_ok (tabC_cons mtargetS_ok (tabC_nil _))))))))))) (n := 0) F173_code ?_
    try simp only [acc, accZ, errA] at *
    simp (disch := first | decide | omega | assumption) only [F173, RAs, RBs, RCs, RDs, REs, RFs, RGs, RHs, RIs, RJs, RKs, RLs, if_true, if_false, dec_T, dec_F, Bool.not_true, Bool.not_false, Option.map_some, ite_true, Bool.and_true, List.map_cons, List.map_nil, List.length_cons, List.length_nil, List.nil_append, List.cons_append, Nat.zero_add, Nat.add_zero, Nat.mul_one, List.set_cons_zero, List.set_cons_succ, Int.toNat_natCast, List.drop_zero, List.drop_nil, List.drop_succ_cons, List.getElem?_drop, List.append_nil, List.length_set, decide_true, Bool.and_self, Bool.true_and, List.take_succ_cons, List.take_zero, Nat.reduceLT, Nat.reduceEqDiff, Nat.reduceAdd, Nat.reduceSub, gm_0, tabC_hit, tabC_miss, spC_some, m_stO, go_int, go_bool, go_str, go_ref, go_bref, go_iface, go_nilp, go_nili, go_nils, low_int, low_bool, low_str, low_ref, low_bref, low_iface', low_nilp', low_nili', low_nils, get4, get5, get6, get7, get8, get9, get10, wr_u64, g_stOA, g_boxO, low1_iface, low1_nilf, low1_nilm, low1_emp, low1_map, snap1_ref0, snap2_ref0, snap_ref0, snap1_if0, snap2_if0, snap_if0, snap1_br0, snap2_br0, snap_br0, snap1_nilp', snap2_nilp', snap_nilp', snap1_nili', snap2_nili', snap_nili', snap_tupE, m_newDo, m_newKo, m_newOo, m_newSo, m_stOB, stOB_int, m_aldBS, m_take1, gA_T, r_invk, inv_if, inv_some, r_invkX, invX_if, invX_some, and_self, and_true, true_and, Bool.false_eq_true, mx_1, mx_max1, mx_max2, mx_min1, mx_min2, eqb_same, eqb_same2, if_pos, if_neg, getA, orN_some, orN_self, get_len, app_set, getS_self, orS_some, set_set', methR, acc, accZ, errA, mreadyS, *]

end Den
