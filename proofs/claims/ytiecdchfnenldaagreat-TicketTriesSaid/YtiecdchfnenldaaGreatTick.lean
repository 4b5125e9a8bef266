/- Contracts of the tickets: the program that takes one, and the counter. -/
import Derived.Test.YtiecdchfnenldaaGreatDesc
set_option maxRecDepth 100000
set_option maxHeartbeats 4000000
set_option linter.unusedSimpArgs false
set_option linter.unusedVariables false
namespace Den
open Go Go.Proofs

/-- ticket.NewDraw -/
def newDrawS : Sp := fun args O =>
  match args with
  | [.agg [.int .i64 p, .int .i64 t], .int .i64 th] =>
    match dNodesS [.agg [.int .i64 p, .int .i64 t]] O with
    | some (.tup [.nilp, .int .i64 e], Oa) => if e = 0 then none else some (.tup [.nilp, .int .i64 2], Oa)
    | some (.tup [.ref 0 kn 0, .int .i64 e], Oa) =>
      if e = 0 then
        if th < 0 then some (.tup [.nilp, .int .i64 2], Oa)
        else if t ≤ th then some (.tup [.nilp, .int .i64 2], Oa)
        else
          match nofS [.ref 0 kn 0, .int .i64 th, .int .i64 0] Oa with
          | some (.tup [.int .i64 nd, .int .i64 _], Ob) =>
            match newAcqS [.ref 0 kn 0, .int .i64 5, .int .i64 nd] Ob with
            | some (.tup [.ref 0 ka 0, .int .i64 e1], Oc) =>
              if e1 = 0 then
                match newRelS [.ref 0 kn 0, .int .i64 5, .int .i64 nd] Oc with
                | some (.tup [.ref 0 kr 0, .int .i64 e2], Od) =>
                  if e2 = 0 then some (.tup [.ref 0 Od.length 0, .int .i64 0], Od ++ [.arr [.int .i64 1, .iface 156 (.ref 0 ka 0), .iface 159 (.ref 0 kr 0), .int .u64 0]])
                  else none
                | _ => none
              else none
            | _ => none
          | _ => none
      else none
    | _ => none
  | _ => none
theorem newDrawS_ok : SpOk Tryz.prog 49 newDrawS := by
  intro args O r O' h S
  unfold newDrawS at h
  repeat' (split at h)
  all_goals first | (cases h; done) | skip
  all_goals
    simp only [Option.some.injEq, Prod.mk.injEq] at h
    obtain ⟨rfl, rfl⟩ := h
    refine bodyA (tabC_cons dNodesS_ok (tabC_cons nofS_ok (tabC_cons newAcqS_ok (tabC_cons newRelS_ok (tabC_nil _))))) (n := 0) F49_code ?_
    try simp only [acc, accZ, errA] at *
    simp (disch := first | decide | omega | assumption) only [F49, RAs, RBs, RCs, RDs, REs, RFs, RGs, RHs, RIs, RJs, RKs, RLs, if_true, if_false, dec_T, dec_F, Bool.not_true, Bool.not_false, Option.map_some, ite_true, Bool.and_true, List.map_cons, List.map_nil, List.length_cons, List.length_nil, List.nil_append, List.cons_append, Nat.zero_add, Nat.add_zero, Nat.mul_one, List.set_cons_zero, List.set_cons_succ, Int.toNat_natCast, List.drop_zero, List.drop_nil, List.drop_succ_cons, List.getElem?_drop, List.append_nil, List.length_set, decide_true, Bool.and_self, Bool.true_and, List.take_succ_cons, List.take_zero, Nat.reduceLT, Nat.reduceEqDiff, Nat.reduceAdd, Nat.reduceSub, gm_0, tabC_hit, tabC_miss, spC_some, m_stO, go_int, go_bool, go_str, go_ref, go_bref, go_iface, go_nilp, go_nili, go_nils, low_int, low_bool, low_str, low_ref, low_bref, low_iface', low_nilp', low_nili', low_nils, get4, get5, get6, get7, get8, get9, get10, wr_u64, g_stOA, g_boxO, low1_iface, low1_nilf, low1_nilm, low1_emp, low1_map, snap1_ref0, snap2_ref0, snap_ref0, snap1_if0, snap2_if0, snap_if0, snap1_br0, snap2_br0, snap_br0, snap1_nilp', snap2_nilp', snap_nilp', snap1_nili', snap2_nili', snap_nili', snap_tupE, m_newDo, m_newKo, m_newOo, m_newSo, m_stOB, stOB_int, m_aldBS, m_take1, gA_T, r_invk, inv_if, inv_some, r_invkX, invX_if, invX_some, and_self, and_true, true_and, Bool.false_eq_true, mx_1, mx_max1, mx_max2, mx_min1, mx_min2, eqb_same, eqb_same2, if_pos, if_neg, getA, orN_some, orN_self, get_len, app_set, getS_self, orS_some, set_set', methR, acc, accZ, errA, *]

/-- ticket.Draw.zero -/
def drawZeroS : Sp := fun args O =>
  match args with
  | [.ref 0 k 0] => match O[k]? with
    | some (.arr [.int .i64 st, .iface t1 (.ref 0 a 0), .iface t2 (.ref 0 b 0), .int .u64 n]) => if st = 0 then some (.bool true, O) else some (.bool false, O)
    | _ => none
  | _ => none
theorem drawZeroS_ok : SpOk Tryz.prog 102 drawZeroS := by
  intro args O r O' h S
  unfold drawZeroS at h
  repeat' (split at h)
  all_goals first | (cases h; done) | skip
  all_goals
    simp only [Option.some.injEq, Prod.mk.injEq] at h
    obtain ⟨rfl, rfl⟩ := h
    refine bodyA (tabC_nil _) (n := 0) F102_code ?_
    try simp only [acc, accZ, errA] at *
    simp (disch := first | decide | omega | assumption) only [F102, RAs, RBs, RCs, RDs, REs, RFs, RGs, RHs, RIs, RJs, RKs, RLs, if_true, if_false, dec_T, dec_F, Bool.not_true, Bool.not_false, Option.map_some, ite_true, Bool.and_true, List.map_cons, List.map_nil, List.length_cons, List.length_nil, List.nil_append, List.cons_append, Nat.zero_add, Nat.add_zero, Nat.mul_one, List.set_cons_zero, List.set_cons_succ, Int.toNat_natCast, List.drop_zero, List.drop_nil, List.drop_succ_cons, List.getElem?_drop, List.append_nil, List.length_set, decide_true, Bool.and_self, Bool.true_and, List.take_succ_cons, List.take_zero, Nat.reduceLT, Nat.reduceEqDiff, Nat.reduceAdd, Nat.reduceSub, gm_0, tabC_hit, tabC_miss, spC_some, m_stO, go_int, go_bool, go_str, go_ref, go_bref, go_iface, go_nilp, go_nili, go_nils, low_int, low_bool, low_str, low_ref, low_bref, low_iface', low_nilp', low_nili', low_nils, get4, get5, get6, get7, get8, get9, get10, wr_u64, g_stOA, g_boxO, low1_iface, low1_nilf, low1_nilm, low1_emp, low1_map, snap1_ref0, snap2_ref0, snap_ref0, snap1_if0, snap2_if0, snap_if0, snap1_br0, snap2_br0, snap_br0, snap1_nilp', snap2_nilp', snap_nilp', snap1_nili', snap2_nili', snap_nili', snap_tupE, m_newDo, m_newKo, m_newOo, m_newSo, m_stOB, stOB_int, m_aldBS, m_take1, gA_T, r_invk, inv_if, inv_some, r_invkX, invX_if, invX_some, and_self, and_true, true_and, Bool.false_eq_true, mx_1, mx_max1, mx_max2, mx_min1, mx_min2, eqb_same, eqb_same2, if_pos, if_neg, getA, orN_some, orN_self, get_len, app_set, getS_self, orS_some, set_set', methR, acc, accZ, errA, *]

/-- ticket.Draw.over -/
def drawOverS : Sp := fun args O =>
  match args with
  | [.ref 0 k 0] => match O[k]? with
    | some (.arr [.int .i64 st, .iface t1 (.ref 0 a 0), .iface t2 (.ref 0 b 0), .int .u64 n]) => if st = 0 then none else if st = 5 then some (.bool true, O) else some (.bool false, O)
    | _ => none
  | _ => none
theorem drawOverS_ok : SpOk Tryz.prog 103 drawOverS := by
  intro args O r O' h S
  unfold drawOverS at h
  repeat' (split at h)
  all_goals first | (cases h; done) | skip
  all_goals
    simp only [Option.some.injEq, Prod.mk.injEq] at h
    obtain ⟨rfl, rfl⟩ := h
    refine bodyA (tabC_cons drawZeroS_ok (tabC_nil _)) (n := 0) F103_code ?_
    try simp only [acc, accZ, errA] at *
    simp (disch := first | decide | omega | assumption) only [F103, RAs, RBs, RCs, RDs, REs, RFs, RGs, RHs, RIs, RJs, RKs, RLs, if_true, if_false, dec_T, dec_F, Bool.not_true, Bool.not_false, Option.map_some, ite_true, Bool.and_true, List.map_cons, List.map_nil, List.length_cons, List.length_nil, List.nil_append, List.cons_append, Nat.zero_add, Nat.add_zero, Nat.mul_one, List.set_cons_zero, List.set_cons_succ, Int.toNat_natCast, List.drop_zero, List.drop_nil, List.drop_succ_cons, List.getElem?_drop, List.append_nil, List.length_set, decide_true, Bool.and_self, Bool.true_and, List.take_succ_cons, List.take_zero, Nat.reduceLT, Nat.reduceEqDiff, Nat.reduceAdd, Nat.reduceSub, gm_0, tabC_hit, tabC_miss, spC_some, m_stO, go_int, go_bool, go_str, go_ref, go_bref, go_iface, go_nilp, go_nili, go_nils, low_int, low_bool, low_str, low_ref, low_bref, low_iface', low_nilp', low_nili', low_nils, get4, get5, get6, get7, get8, get9, get10, wr_u64, g_stOA, g_boxO, low1_iface, low1_nilf, low1_nilm, low1_emp, low1_map, snap1_ref0, snap2_ref0, snap_ref0, snap1_if0, snap2_if0, snap_if0, snap1_br0, snap2_br0, snap_br0, snap1_nilp', snap2_nilp', snap_nilp', snap1_nili', snap2_nili', snap_nili', snap_tupE, m_newDo, m_newKo, m_newOo, m_newSo, m_stOB, stOB_int, m_aldBS, m_take1, gA_T, r_invk, inv_if, inv_some, r_invkX, invX_if, invX_some, and_self, and_true, true_and, Bool.false_eq_true, mx_1, mx_max1, mx_max2, mx_min1, mx_min2, eqb_same, eqb_same2, if_pos, if_neg, getA, orN_some, orN_self, get_len, app_set, getS_self, orS_some, set_set', methR, acc, accZ, errA, drawZeroS, *]

/-- ticket.Draw.Done -/
def drawDoneS : Sp := fun args O =>
  match args with
  | [.ref 0 k 0] => match O[k]? with
    | some (.arr [.int .i64 st, .iface t1 (.ref 0 a 0), .iface t2 (.ref 0 b 0), .int .u64 n]) => if st = 0 then none else if st = 5 then some (.bool true, O) else some (.bool false, O)
    | _ => none
  | _ => none
theorem drawDoneS_ok : SpOk Tryz.prog 55 drawDoneS := by
  intro args O r O' h S
  unfold drawDoneS at h
  repeat' (split at h)
  all_goals first | (cases h; done) | skip
  all_goals
    simp only [Option.some.injEq, Prod.mk.injEq] at h
    obtain ⟨rfl, rfl⟩ := h
    refine bodyA (tabC_cons drawZeroS_ok (tabC_nil _)) (n := 0) F55_code ?_
    try simp only [acc, accZ, errA] at *
    simp (disch := first | decide | omega | assumption) only [F55, RAs, RBs, RCs, RDs, REs, RFs, RGs, RHs, RIs, RJs, RKs, RLs, if_true, if_false, dec_T, dec_F, Bool.not_true, Bool.not_false, Option.map_some, ite_true, Bool.and_true, List.map_cons, List.map_nil, List.length_cons, List.length_nil, List.nil_append, List.cons_append, Nat.zero_add, Nat.add_zero, Nat.mul_one, List.set_cons_zero, List.set_cons_succ, Int.toNat_natCast, List.drop_zero, List.drop_nil, List.drop_succ_cons, List.getElem?_drop, List.append_nil, List.length_set, decide_true, Bool.and_self, Bool.true_and, List.take_succ_cons, List.take_zero, Nat.reduceLT, Nat.reduceEqDiff, Nat.reduceAdd, Nat.reduceSub, gm_0, tabC_hit, tabC_miss, spC_some, m_stO, go_int, go_bool, go_str, go_ref, go_bref, go_iface, go_nilp, go_nili, go_nils, low_int, low_bool, low_str, low_ref, low_bref, low_iface', low_nilp', low_nili', low_nils, get4, get5, get6, get7, get8, get9, get10, wr_u64, g_stOA, g_boxO, low1_iface, low1_nilf, low1_nilm, low1_emp, low1_map, snap1_ref0, snap2_ref0, snap_ref0, snap1_if0, snap2_if0, snap_if0, snap1_br0, snap2_br0, snap_br0, snap1_nilp', snap2_nilp', snap_nilp', snap1_nili', snap2_nili', snap_nili', snap_tupE, m_newDo, m_newKo, m_newOo, m_newSo, m_stOB, stOB_int, m_aldBS, m_take1, gA_T, r_invk, inv_if, inv_some, r_invkX, invX_if, invX_some, and_self, and_true, true_and, Bool.false_eq_true, mx_1, mx_max1, mx_max2, mx_min1, mx_min2, eqb_same, eqb_same2, if_pos, if_neg, getA, orN_some, orN_self, get_len, app_set, getS_self, orS_some, set_set', methR, acc, accZ, errA, drawZeroS, *]

/-- ticket.Draw.Result -/
def drawResS : Sp := fun args O =>
  match args with
  | [.ref 0 k 0] => match O[k]? with
    | some (.arr [.int .i64 st, .iface t1 (.ref 0 a 0), .iface t2 (.ref 0 b 0), .int .u64 n]) => if st = 0 then none else if st = 5 then some (.int .u64 n, O) else some (.int .u64 0, O)
    | _ => none
  | _ => none
theorem drawResS_ok : SpOk Tryz.prog 56 drawResS := by
  intro args O r O' h S
  unfold drawResS at h
  repeat' (split at h)
  all_goals first | (cases h; done) | skip
  all_goals
    simp only [Option.some.injEq, Prod.mk.injEq] at h
    obtain ⟨rfl, rfl⟩ := h
    refine bodyA (tabC_cons drawOverS_ok (tabC_nil _)) (n := 0) F56_code ?_
    try simp only [acc, accZ, errA] at *
    simp (disch := first | decide | omega | assumption) only [F56, RAs, RBs, RCs, RDs, REs, RFs, RGs, RHs, RIs, RJs, RKs, RLs, if_true, if_false, dec_T, dec_F, Bool.not_true, Bool.not_false, Option.map_some, ite_true, Bool.and_true, List.map_cons, List.map_nil, List.length_cons, List.length_nil, List.nil_append, List.cons_append, Nat.zero_add, Nat.add_zero, Nat.mul_one, List.set_cons_zero, List.set_cons_succ, Int.toNat_natCast, List.drop_zero, List.drop_nil, List.drop_succ_cons, List.getElem?_drop, List.append_nil, List.length_set, decide_true, Bool.and_self, Bool.true_and, List.take_succ_cons, List.take_zero, Nat.reduceLT, Nat.reduceEqDiff, Nat.reduceAdd, Nat.reduceSub, gm_0, tabC_hit, tabC_miss, spC_some, m_stO, go_int, go_bool, go_str, go_ref, go_bref, go_iface, go_nilp, go_nili, go_nils, low_int, low_bool, low_str, low_ref, low_bref, low_iface', low_nilp', low_nili', low_nils, get4, get5, get6, get7, get8, get9, get10, wr_u64, g_stOA, g_boxO, low1_iface, low1_nilf, low1_nilm, low1_emp, low1_map, snap1_ref0, snap2_ref0, snap_ref0, snap1_if0, snap2_if0, snap_if0, snap1_br0, snap2_br0, snap_br0, snap1_nilp', snap2_nilp', snap_nilp', snap1_nili', snap2_nili', snap_nili', snap_tupE, m_newDo, m_newKo, m_newOo, m_newSo, m_stOB, stOB_int, m_aldBS, m_take1, gA_T, r_invk, inv_if, inv_some, r_invkX, invX_if, invX_some, and_self, and_true, true_and, Bool.false_eq_true, mx_1, mx_max1, mx_max2, mx_min1, mx_min2, eqb_same, eqb_same2, if_pos, if_neg, getA, orN_some, orN_self, get_len, app_set, getS_self, orS_some, set_set', methR, acc, accZ, errA, drawOverS, *]

/-- ticket.Draw.Step -/
def drawStepS : Sp := fun args O =>
  match args with
  | [.ref 0 k 0, .iface 162 (.ref 0 ko 0)] =>
    (match O[k]? with
    | some (.arr [.int .i64 st, .iface t1 (.ref 0 ka 0), .iface t2 (.ref 0 kb 0), .int .u64 nu]) => (
    if st = 0 then none
    else if st = 2 then
      (match onceLoadS [.ref 0 ko 0, .int .i64 7] O with
      | some (.tup [.int .u64 v, .int .i64 e], O1) => (
      if e = 0 then
        if 0 ≤ v ∧ v ≤ 4611686018427387904 then
          (match O1[k]? with
          | some (.arr [c0, c1, c2, c3]) => (
          some (.tup [.bool false, .int .i64 0], O1.set k (.arr [.int .i64 3, c1, c2, .int .u64 (v + 1)])))
          | _ => none)
        else none
      else
        some (.tup [.bool false, .int .i64 e], O1))
      | _ => none)
    else if st = 3 then
      (match onceStoreS [.ref 0 ko 0, .int .i64 7, .int .u64 nu] O with
      | some (.int .i64 e, O2) => (
      if e = 0 then
        (match O2[k]? with
        | some (.arr [c0, c1, .iface t3 (.ref 0 kc 0), c3]) => (
        some (.tup [.bool false, .int .i64 0], O2.set k (.arr [.int .i64 4, .iface t3 (.ref 0 kc 0), .iface t3 (.ref 0 kc 0), c3])))
        | _ => none)
      else
        some (.tup [.bool false, .int .i64 e], O2))
      | _ => none)
    else if st = 5 then
      some (.tup [.bool false, .int .i64 17], O)
    else if t1 = 156 then
      (match acqStepS [.ref 0 ka 0, .iface 162 (.ref 0 ko 0)] O with
      | some (.tup [.bool w, .int .i64 e], O3) => (
      if e = 0 then
        (match O3[k]? with
        | some (.arr [.int .i64 st', .iface t1' (.ref 0 ka' 0), c2, c3]) => (
        if t1' = 156 then
          match acqDoneS [.ref 0 ka' 0] O3 with
          | some (.bool true, Oz) =>
            match Oz[k]? with
            | some (.arr [.int .i64 st2, d1, d2, d3]) =>
              if st2 = 1 then some (.tup [.bool w, .int .i64 0], Oz.set k (.arr [.int .i64 2, d1, d2, d3]))
              else some (.tup [.bool w, .int .i64 0], Oz.set k (.arr [.int .i64 5, d1, d2, d3]))
            | _ => none
          | some (.bool false, Oz) => some (.tup [.bool w, .int .i64 0], Oz)
          | _ => none
        else none)
        | _ => none)
      else
        some (.tup [.bool w, .int .i64 e], O3))
      | _ => none)
    else if t1 = 159 then
      (match relStepS [.ref 0 ka 0, .iface 162 (.ref 0 ko 0)] O with
      | some (.tup [.bool w, .int .i64 e], O4) => (
      if e = 0 then
        (match O4[k]? with
        | some (.arr [.int .i64 st', .iface t1' (.ref 0 ka' 0), c2, c3]) => (
        if t1' = 159 then
          match relDoneS [.ref 0 ka' 0] O4 with
          | some (.bool true, Oz) =>
            match Oz[k]? with
            | some (.arr [.int .i64 st2, d1, d2, d3]) =>
              if st2 = 1 then some (.tup [.bool w, .int .i64 0], Oz.set k (.arr [.int .i64 2, d1, d2, d3]))
              else some (.tup [.bool w, .int .i64 0], Oz.set k (.arr [.int .i64 5, d1, d2, d3]))
            | _ => none
          | some (.bool false, Oz) => some (.tup [.bool w, .int .i64 0], Oz)
          | _ => none
        else none)
        | _ => none)
      else
        some (.tup [.bool w, .int .i64 e], O4))
      | _ => none)
    else none)
    | _ => none)
  | _ => none
theorem drawStepS_ok : SpOk Tryz.prog 57 drawStepS := by
  intro args O r O' h S
  unfold drawStepS at h
  repeat' (split at h)
  all_goals first | (cases h; done) | skip
  all_goals
    simp only [Option.some.injEq, Prod.mk.injEq] at h
    obtain ⟨rfl, rfl⟩ := h
    refine bodyA (tabC_cons drawZeroS_ok (tabC_cons onceLoadS_ok (tabC_cons onceStoreS_ok (tabC_cons acqStepS_ok (tabC_cons relStepS_ok (tabC_cons acqDoneS_ok (tabC_cons relDoneS_ok (tabC_nil _)))))))) (n := 0) F57_code ?_
    try simp only [acc, accZ, errA] at *
    simp (disch := first | decide | omega | assumption) only [F57, RAs, RBs, RCs, RDs, REs, RFs, RGs, RHs, RIs, RJs, RKs, RLs, if_true, if_false, dec_T, dec_F, Bool.not_true, Bool.not_false, Option.map_some, ite_true, Bool.and_true, List.map_cons, List.map_nil, List.length_cons, List.length_nil, List.nil_append, List.cons_append, Nat.zero_add, Nat.add_zero, Nat.mul_one, List.set_cons_zero, List.set_cons_succ, Int.toNat_natCast, List.drop_zero, List.drop_nil, List.drop_succ_cons, List.getElem?_drop, List.append_nil, List.length_set, decide_true, Bool.and_self, Bool.true_and, List.take_succ_cons, List.take_zero, Nat.reduceLT, Nat.reduceEqDiff, Nat.reduceAdd, Nat.reduceSub, gm_0, tabC_hit, tabC_miss, spC_some, m_stO, go_int, go_bool, go_str, go_ref, go_bref, go_iface, go_nilp, go_nili, go_nils, low_int, low_bool, low_str, low_ref, low_bref, low_iface', low_nilp', low_nili', low_nils, get4, get5, get6, get7, get8, get9, get10, wr_u64, g_stOA, g_boxO, low1_iface, low1_nilf, low1_nilm, low1_emp, low1_map, snap1_ref0, snap2_ref0, snap_ref0, snap1_if0, snap2_if0, snap_if0, snap1_br0, snap2_br0, snap_br0, snap1_nilp', snap2_nilp', snap_nilp', snap1_nili', snap2_nili', snap_nili', snap_tupE, m_newDo, m_newKo, m_newOo, m_newSo, m_stOB, stOB_int, m_aldBS, m_take1, gA_T, r_invk, inv_if, inv_some, r_invkX, invX_if, invX_some, and_self, and_true, true_and, Bool.false_eq_true, mx_1, mx_max1, mx_max2, mx_min1, mx_min2, eqb_same, eqb_same2, if_pos, if_neg, getA, orN_some, orN_self, get_len, app_set, getS_self, orS_some, set_set', methR, acc, accZ, errA, drawZeroS, *]

/-- ticket.New -/
def newTriesS : Sp := fun args O =>
  match args with
  | [.int .i64 m] => if m < 0 then some (.tup [.nilp, .int .i64 2], O) else if 64 < m then some (.tup [.nilp, .int .i64 2], O) else some (.tup [.ref 0 O.length 0, .int .i64 0], O ++ [.arr [.int .i64 m, .int .i64 0]])
  | _ => none
theorem newTriesS_ok : SpOk Tryz.prog 40 newTriesS := by
  intro args O r O' h S
  unfold newTriesS at h
  repeat' (split at h)
  all_goals first | (cases h; done) | skip
  all_goals
    simp only [Option.some.injEq, Prod.mk.injEq] at h
    obtain ⟨rfl, rfl⟩ := h
    refine bodyA (tabC_nil _) (n := 0) F40_code ?_
    try simp only [acc, accZ, errA] at *
    simp (disch := first | decide | omega | assumption) only [F40, RAs, RBs, RCs, RDs, REs, RFs, RGs, RHs, RIs, RJs, RKs, RLs, if_true, if_false, dec_T, dec_F, Bool.not_true, Bool.not_false, Option.map_some, ite_true, Bool.and_true, List.map_cons, List.map_nil, List.length_cons, List.length_nil, List.nil_append, List.cons_append, Nat.zero_add, Nat.add_zero, Nat.mul_one, List.set_cons_zero, List.set_cons_succ, Int.toNat_natCast, List.drop_zero, List.drop_nil, List.drop_succ_cons, List.getElem?_drop, List.append_nil, List.length_set, decide_true, Bool.and_self, Bool.true_and, List.take_succ_cons, List.take_zero, Nat.reduceLT, Nat.reduceEqDiff, Nat.reduceAdd, Nat.reduceSub, gm_0, tabC_hit, tabC_miss, spC_some, m_stO, go_int, go_bool, go_str, go_ref, go_bref, go_iface, go_nilp, go_nili, go_nils, low_int, low_bool, low_str, low_ref, low_bref, low_iface', low_nilp', low_nili', low_nils, get4, get5, get6, get7, get8, get9, get10, wr_u64, g_stOA, g_boxO, low1_iface, low1_nilf, low1_nilm, low1_emp, low1_map, snap1_ref0, snap2_ref0, snap_ref0, snap1_if0, snap2_if0, snap_if0, snap1_br0, snap2_br0, snap_br0, snap1_nilp', snap2_nilp', snap_nilp', snap1_nili', snap2_nili', snap_nili', snap_tupE, m_newDo, m_newKo, m_newOo, m_newSo, m_stOB, stOB_int, m_aldBS, m_take1, gA_T, r_invk, inv_if, inv_some, r_invkX, invX_if, invX_some, and_self, and_true, true_and, Bool.false_eq_true, mx_1, mx_max1, mx_max2, mx_min1, mx_min2, eqb_same, eqb_same2, if_pos, if_neg, getA, orN_some, orN_self, get_len, app_set, getS_self, orS_some, set_set', methR, acc, accZ, errA, *]

/-- ticket.counts.Count -/
def cCountS : Sp := fun args O =>
  match args with
  | [.ref 0 k 0] => match O[k]? with
    | some (.arr [.int .i64 m, .int .i64 c]) => some (.int .i64 c, O)
    | _ => none
  | _ => none
theorem cCountS_ok : SpOk Tryz.prog 93 cCountS := by
  intro args O r O' h S
  unfold cCountS at h
  repeat' (split at h)
  all_goals first | (cases h; done) | skip
  all_goals
    simp only [Option.some.injEq, Prod.mk.injEq] at h
    obtain ⟨rfl, rfl⟩ := h
    refine bodyA (tabC_nil _) (n := 0) F93_code ?_
    try simp only [acc, accZ, errA] at *
    simp (disch := first | decide | omega | assumption) only [F93, RAs, RBs, RCs, RDs, REs, RFs, RGs, RHs, RIs, RJs, RKs, RLs, if_true, if_false, dec_T, dec_F, Bool.not_true, Bool.not_false, Option.map_some, ite_true, Bool.and_true, List.map_cons, List.map_nil, List.length_cons, List.length_nil, List.nil_append, List.cons_append, Nat.zero_add, Nat.add_zero, Nat.mul_one, List.set_cons_zero, List.set_cons_succ, Int.toNat_natCast, List.drop_zero, List.drop_nil, List.drop_succ_cons, List.getElem?_drop, List.append_nil, List.length_set, decide_true, Bool.and_self, Bool.true_and, List.take_succ_cons, List.take_zero, Nat.reduceLT, Nat.reduceEqDiff, Nat.reduceAdd, Nat.reduceSub, gm_0, tabC_hit, tabC_miss, spC_some, m_stO, go_int, go_bool, go_str, go_ref, go_bref, go_iface, go_nilp, go_nili, go_nils, low_int, low_bool, low_str, low_ref, low_bref, low_iface', low_nilp', low_nili', low_nils, get4, get5, get6, get7, get8, get9, get10, wr_u64, g_stOA, g_boxO, low1_iface, low1_nilf, low1_nilm, low1_emp, low1_map, snap1_ref0, snap2_ref0, snap_ref0, snap1_if0, snap2_if0, snap_if0, snap1_br0, snap2_br0, snap_br0, snap1_nilp', snap2_nilp', snap_nilp', snap1_nili', snap2_nili', snap_nili', snap_tupE, m_newDo, m_newKo, m_newOo, m_newSo, m_stOB, stOB_int, m_aldBS, m_take1, gA_T, r_invk, inv_if, inv_some, r_invkX, invX_if, invX_some, and_self, and_true, true_and, Bool.false_eq_true, mx_1, mx_max1, mx_max2, mx_min1, mx_min2, eqb_same, eqb_same2, if_pos, if_neg, getA, orN_some, orN_self, get_len, app_set, getS_self, orS_some, set_set', methR, acc, accZ, errA, *]

/-- ticket.counts.Left -/
def cLeftS : Sp := fun args O =>
  match args with
  | [.ref 0 k 0] => match O[k]? with
    | some (.arr [.int .i64 m, .int .i64 c]) => if 0 ≤ c ∧ c ≤ m ∧ m ≤ 64 then some (.int .i64 (m - c), O) else none
    | _ => none
  | _ => none
theorem cLeftS_ok : SpOk Tryz.prog 94 cLeftS := by
  intro args O r O' h S
  unfold cLeftS at h
  repeat' (split at h)
  all_goals first | (cases h; done) | skip
  all_goals
    simp only [Option.some.injEq, Prod.mk.injEq] at h
    obtain ⟨rfl, rfl⟩ := h
    refine bodyA (tabC_nil _) (n := 0) F94_code ?_
    try simp only [acc, accZ, errA] at *
    simp (disch := first | decide | omega | assumption) only [F94, RAs, RBs, RCs, RDs, REs, RFs, RGs, RHs, RIs, RJs, RKs, RLs, if_true, if_false, dec_T, dec_F, Bool.not_true, Bool.not_false, Option.map_some, ite_true, Bool.and_true, List.map_cons, List.map_nil, List.length_cons, List.length_nil, List.nil_append, List.cons_append, Nat.zero_add, Nat.add_zero, Nat.mul_one, List.set_cons_zero, List.set_cons_succ, Int.toNat_natCast, List.drop_zero, List.drop_nil, List.drop_succ_cons, List.getElem?_drop, List.append_nil, List.length_set, decide_true, Bool.and_self, Bool.true_and, List.take_succ_cons, List.take_zero, Nat.reduceLT, Nat.reduceEqDiff, Nat.reduceAdd, Nat.reduceSub, gm_0, tabC_hit, tabC_miss, spC_some, m_stO, go_int, go_bool, go_str, go_ref, go_bref, go_iface, go_nilp, go_nili, go_nils, low_int, low_bool, low_str, low_ref, low_bref, low_iface', low_nilp', low_nili', low_nils, get4, get5, get6, get7, get8, get9, get10, wr_u64, g_stOA, g_boxO, low1_iface, low1_nilf, low1_nilm, low1_emp, low1_map, snap1_ref0, snap2_ref0, snap_ref0, snap1_if0, snap2_if0, snap_if0, snap1_br0, snap2_br0, snap_br0, snap1_nilp', snap2_nilp', snap_nilp', snap1_nili', snap2_nili', snap_nili', snap_tupE, m_newDo, m_newKo, m_newOo, m_newSo, m_stOB, stOB_int, m_aldBS, m_take1, gA_T, r_invk, inv_if, inv_some, r_invkX, invX_if, invX_some, and_self, and_true, true_and, Bool.false_eq_true, mx_1, mx_max1, mx_max2, mx_min1, mx_min2, eqb_same, eqb_same2, if_pos, if_neg, getA, orN_some, orN_self, get_len, app_set, getS_self, orS_some, set_set', methR, acc, accZ, errA, *]

/-- ticket.counts.Spent -/
def cSpentS : Sp := fun args O =>
  match args with
  | [.ref 0 k 0] => match O[k]? with
    | some (.arr [.int .i64 m, .int .i64 c]) => if 0 ≤ c ∧ c ≤ m ∧ m ≤ 64 then (if m - c = 0 then some (.bool true, O) else some (.bool false, O)) else none
    | _ => none
  | _ => none
theorem cSpentS_ok : SpOk Tryz.prog 95 cSpentS := by
  intro args O r O' h S
  unfold cSpentS at h
  repeat' (split at h)
  all_goals first | (cases h; done) | skip
  all_goals
    simp only [Option.some.injEq, Prod.mk.injEq] at h
    obtain ⟨rfl, rfl⟩ := h
    refine bodyA (tabC_cons cLeftS_ok (tabC_nil _)) (n := 0) F95_code ?_
    try simp only [acc, accZ, errA] at *
    simp (disch := first | decide | omega | assumption) only [F95, RAs, RBs, RCs, RDs, REs, RFs, RGs, RHs, RIs, RJs, RKs, RLs, if_true, if_false, dec_T, dec_F, Bool.not_true, Bool.not_false, Option.map_some, ite_true, Bool.and_true, List.map_cons, List.map_nil, List.length_cons, List.length_nil, List.nil_append, List.cons_append, Nat.zero_add, Nat.add_zero, Nat.mul_one, List.set_cons_zero, List.set_cons_succ, Int.toNat_natCast, List.drop_zero, List.drop_nil, List.drop_succ_cons, List.getElem?_drop, List.append_nil, List.length_set, decide_true, Bool.and_self, Bool.true_and, List.take_succ_cons, List.take_zero, Nat.reduceLT, Nat.reduceEqDiff, Nat.reduceAdd, Nat.reduceSub, gm_0, tabC_hit, tabC_miss, spC_some, m_stO, go_int, go_bool, go_str, go_ref, go_bref, go_iface, go_nilp, go_nili, go_nils, low_int, low_bool, low_str, low_ref, low_bref, low_iface', low_nilp', low_nili', low_nils, get4, get5, get6, get7, get8, get9, get10, wr_u64, g_stOA, g_boxO, low1_iface, low1_nilf, low1_nilm, low1_emp, low1_map, snap1_ref0, snap2_ref0, snap_ref0, snap1_if0, snap2_if0, snap_if0, snap1_br0, snap2_br0, snap_br0, snap1_nilp', snap2_nilp', snap_nilp', snap1_nili', snap2_nili', snap_nili', snap_tupE, m_newDo, m_newKo, m_newOo, m_newSo, m_stOB, stOB_int, m_aldBS, m_take1, gA_T, r_invk, inv_if, inv_some, r_invkX, invX_if, invX_some, and_self, and_true, true_and, Bool.false_eq_true, mx_1, mx_max1, mx_max2, mx_min1, mx_min2, eqb_same, eqb_same2, if_pos, if_neg, getA, orN_some, orN_self, get_len, app_set, getS_self, orS_some, set_set', methR, acc, accZ, errA, cLeftS, *]

/-- ticket.Tries.Count -/
def tCountS : Sp := fun args O =>
  match args with
  | [.ref 0 k 0] => match O[k]? with
    | some (.arr [.int .i64 m, .int .i64 c]) => some (.int .i64 c, O)
    | _ => none
  | _ => none
theorem tCountS_ok : SpOk Tryz.prog 45 tCountS := by
  intro args O r O' h S
  unfold tCountS at h
  repeat' (split at h)
  all_goals first | (cases h; done) | skip
  all_goals
    simp only [Option.some.injEq, Prod.mk.injEq] at h
    obtain ⟨rfl, rfl⟩ := h
    refine bodyA (tabC_cons cCountS_ok (tabC_nil _)) (n := 0) F45_code ?_
    try simp only [acc, accZ, errA] at *
    simp (disch := first | decide | omega | assumption) only [F45, RAs, RBs, RCs, RDs, REs, RFs, RGs, RHs, RIs, RJs, RKs, RLs, if_true, if_false, dec_T, dec_F, Bool.not_true, Bool.not_false, Option.map_some, ite_true, Bool.and_true, List.map_cons, List.map_nil, List.length_cons, List.length_nil, List.nil_append, List.cons_append, Nat.zero_add, Nat.add_zero, Nat.mul_one, List.set_cons_zero, List.set_cons_succ, Int.toNat_natCast, List.drop_zero, List.drop_nil, List.drop_succ_cons, List.getElem?_drop, List.append_nil, List.length_set, decide_true, Bool.and_self, Bool.true_and, List.take_succ_cons, List.take_zero, Nat.reduceLT, Nat.reduceEqDiff, Nat.reduceAdd, Nat.reduceSub, gm_0, tabC_hit, tabC_miss, spC_some, m_stO, go_int, go_bool, go_str, go_ref, go_bref, go_iface, go_nilp, go_nili, go_nils, low_int, low_bool, low_str, low_ref, low_bref, low_iface', low_nilp', low_nili', low_nils, get4, get5, get6, get7, get8, get9, get10, wr_u64, g_stOA, g_boxO, low1_iface, low1_nilf, low1_nilm, low1_emp, low1_map, snap1_ref0, snap2_ref0, snap_ref0, snap1_if0, snap2_if0, snap_if0, snap1_br0, snap2_br0, snap_br0, snap1_nilp', snap2_nilp', snap_nilp', snap1_nili', snap2_nili', snap_nili', snap_tupE, m_newDo, m_newKo, m_newOo, m_newSo, m_stOB, stOB_int, m_aldBS, m_take1, gA_T, r_invk, inv_if, inv_some, r_invkX, invX_if, invX_some, and_self, and_true, true_and, Bool.false_eq_true, mx_1, mx_max1, mx_max2, mx_min1, mx_min2, eqb_same, eqb_same2, if_pos, if_neg, getA, orN_some, orN_self, get_len, app_set, getS_self, orS_some, set_set', methR, acc, accZ, errA, cCountS, *]

/-- ticket.Tries.Left -/
def tLeftS : Sp := fun args O =>
  match args with
  | [.ref 0 k 0] => match O[k]? with
    | some (.arr [.int .i64 m, .int .i64 c]) => if 0 ≤ c ∧ c ≤ m ∧ m ≤ 64 then some (.int .i64 (m - c), O) else none
    | _ => none
  | _ => none
theorem tLeftS_ok : SpOk Tryz.prog 46 tLeftS := by
  intro args O r O' h S
  unfold tLeftS at h
  repeat' (split at h)
  all_goals first | (cases h; done) | skip
  all_goals
    simp only [Option.some.injEq, Prod.mk.injEq] at h
    obtain ⟨rfl, rfl⟩ := h
    refine bodyA (tabC_cons cLeftS_ok (tabC_nil _)) (n := 0) F46_code ?_
    try simp only [acc, accZ, errA] at *
    simp (disch := first | decide | omega | assumption) only [F46, RAs, RBs, RCs, RDs, REs, RFs, RGs, RHs, RIs, RJs, RKs, RLs, if_true, if_false, dec_T, dec_F, Bool.not_true, Bool.not_false, Option.map_some, ite_true, Bool.and_true, List.map_cons, List.map_nil, List.length_cons, List.length_nil, List.nil_append, List.cons_append, Nat.zero_add, Nat.add_zero, Nat.mul_one, List.set_cons_zero, List.set_cons_succ, Int.toNat_natCast, List.drop_zero, List.drop_nil, List.drop_succ_cons, List.getElem?_drop, List.append_nil, List.length_set, decide_true, Bool.and_self, Bool.true_and, List.take_succ_cons, List.take_zero, Nat.reduceLT, Nat.reduceEqDiff, Nat.reduceAdd, Nat.reduceSub, gm_0, tabC_hit, tabC_miss, spC_some, m_stO, go_int, go_bool, go_str, go_ref, go_bref, go_iface, go_nilp, go_nili, go_nils, low_int, low_bool, low_str, low_ref, low_bref, low_iface', low_nilp', low_nili', low_nils, get4, get5, get6, get7, get8, get9, get10, wr_u64, g_stOA, g_boxO, low1_iface, low1_nilf, low1_nilm, low1_emp, low1_map, snap1_ref0, snap2_ref0, snap_ref0, snap1_if0, snap2_if0, snap_if0, snap1_br0, snap2_br0, snap_br0, snap1_nilp', snap2_nilp', snap_nilp', snap1_nili', snap2_nili', snap_nili', snap_tupE, m_newDo, m_newKo, m_newOo, m_newSo, m_stOB, stOB_int, m_aldBS, m_take1, gA_T, r_invk, inv_if, inv_some, r_invkX, invX_if, invX_some, and_self, and_true, true_and, Bool.false_eq_true, mx_1, mx_max1, mx_max2, mx_min1, mx_min2, eqb_same, eqb_same2, if_pos, if_neg, getA, orN_some, orN_self, get_len, app_set, getS_self, orS_some, set_set', methR, acc, accZ, errA, cLeftS, *]

/-- ticket.Tries.Spent -/
def tSpentS : Sp := fun args O =>
  match args with
  | [.ref 0 k 0] => match O[k]? with
    | some (.arr [.int .i64 m, .int .i64 c]) => if 0 ≤ c ∧ c ≤ m ∧ m ≤ 64 then (if m - c = 0 then some (.bool true, O) else some (.bool false, O)) else none
    | _ => none
  | _ => none
theorem tSpentS_ok : SpOk Tryz.prog 47 tSpentS := by
  intro args O r O' h S
  unfold tSpentS at h
  repeat' (split at h)
  all_goals first | (cases h; done) | skip
  all_goals
    simp only [Option.some.injEq, Prod.mk.injEq] at h
    obtain ⟨rfl, rfl⟩ := h
    refine bodyA (tabC_cons cSpentS_ok (tabC_nil _)) (n := 0) F47_code ?_
    try simp only [acc, accZ, errA] at *
    simp (disch := first | decide | omega | assumption) only [F47, RAs, RBs, RCs, RDs, REs, RFs, RGs, RHs, RIs, RJs, RKs, RLs, if_true, if_false, dec_T, dec_F, Bool.not_true, Bool.not_false, Option.map_some, ite_true, Bool.and_true, List.map_cons, List.map_nil, List.length_cons, List.length_nil, List.nil_append, List.cons_append, Nat.zero_add, Nat.add_zero, Nat.mul_one, List.set_cons_zero, List.set_cons_succ, Int.toNat_natCast, List.drop_zero, List.drop_nil, List.drop_succ_cons, List.getElem?_drop, List.append_nil, List.length_set, decide_true, Bool.and_self, Bool.true_and, List.take_succ_cons, List.take_zero, Nat.reduceLT, Nat.reduceEqDiff, Nat.reduceAdd, Nat.reduceSub, gm_0, tabC_hit, tabC_miss, spC_some, m_stO, go_int, go_bool, go_str, go_ref, go_bref, go_iface, go_nilp, go_nili, go_nils, low_int, low_bool, low_str, low_ref, low_bref, low_iface', low_nilp', low_nili', low_nils, get4, get5, get6, get7, get8, get9, get10, wr_u64, g_stOA, g_boxO, low1_iface, low1_nilf, low1_nilm, low1_emp, low1_map, snap1_ref0, snap2_ref0, snap_ref0, snap1_if0, snap2_if0, snap_if0, snap1_br0, snap2_br0, snap_br0, snap1_nilp', snap2_nilp', snap_nilp', snap1_nili', snap2_nili', snap_nili', snap_tupE, m_newDo, m_newKo, m_newOo, m_newSo, m_stOB, stOB_int, m_aldBS, m_take1, gA_T, r_invk, inv_if, inv_some, r_invkX, invX_if, invX_some, and_self, and_true, true_and, Bool.false_eq_true, mx_1, mx_max1, mx_max2, mx_min1, mx_min2, eqb_same, eqb_same2, if_pos, if_neg, getA, orN_some, orN_self, get_len, app_set, getS_self, orS_some, set_set', methR, acc, accZ, errA, cSpentS, *]

/-- ticket.Tries.Again -/
def tAgainS : Sp := fun args O =>
  match args with
  | [.ref 0 k 0] => match O[k]? with
    | some (.arr [.int .i64 m, .int .i64 c]) => if 0 ≤ c ∧ c ≤ m ∧ m ≤ 64 then (if m - c = 0 then some (.bool false, O) else some (.bool true, O.set k (.arr [.int .i64 m, .int .i64 (c + 1)]))) else none
    | _ => none
  | _ => none
theorem tAgainS_ok : SpOk Tryz.prog 43 tAgainS := by
  intro args O r O' h S
  unfold tAgainS at h
  repeat' (split at h)
  all_goals first | (cases h; done) | skip
  all_goals
    simp only [Option.some.injEq, Prod.mk.injEq] at h
    obtain ⟨rfl, rfl⟩ := h
    refine bodyA (tabC_cons tSpentS_ok (tabC_nil _)) (n := 0) F43_code ?_
    try simp only [acc, accZ, errA] at *
    simp (disch := first | decide | omega | assumption) only [F43, RAs, RBs, RCs, RDs, REs, RFs, RGs, RHs, RIs, RJs, RKs, RLs, if_true, if_false, dec_T, dec_F, Bool.not_true, Bool.not_false, Option.map_some, ite_true, Bool.and_true, List.map_cons, List.map_nil, List.length_cons, List.length_nil, List.nil_append, List.cons_append, Nat.zero_add, Nat.add_zero, Nat.mul_one, List.set_cons_zero, List.set_cons_succ, Int.toNat_natCast, List.drop_zero, List.drop_nil, List.drop_succ_cons, List.getElem?_drop, List.append_nil, List.length_set, decide_true, Bool.and_self, Bool.true_and, List.take_succ_cons, List.take_zero, Nat.reduceLT, Nat.reduceEqDiff, Nat.reduceAdd, Nat.reduceSub, gm_0, tabC_hit, tabC_miss, spC_some, m_stO, go_int, go_bool, go_str, go_ref, go_bref, go_iface, go_nilp, go_nili, go_nils, low_int, low_bool, low_str, low_ref, low_bref, low_iface', low_nilp', low_nili', low_nils, get4, get5, get6, get7, get8, get9, get10, wr_u64, g_stOA, g_boxO, low1_iface, low1_nilf, low1_nilm, low1_emp, low1_map, snap1_ref0, snap2_ref0, snap_ref0, snap1_if0, snap2_if0, snap_if0, snap1_br0, snap2_br0, snap_br0, snap1_nilp', snap2_nilp', snap_nilp', snap1_nili', snap2_nili', snap_nili', snap_tupE, m_newDo, m_newKo, m_newOo, m_newSo, m_stOB, stOB_int, m_aldBS, m_take1, gA_T, r_invk, inv_if, inv_some, r_invkX, invX_if, invX_some, and_self, and_true, true_and, Bool.false_eq_true, mx_1, mx_max1, mx_max2, mx_min1, mx_min2, eqb_same, eqb_same2, if_pos, if_neg, getA, orN_some, orN_self, get_len, app_set, getS_self, orS_some, set_set', methR, acc, accZ, errA, tSpentS, *]

/-- ticket.Tries.Copy -/
def tCopyS : Sp := fun args O =>
  match args with
  | [.ref 0 k 0] => match O[k]? with
    | some (.arr [.int .i64 m, .int .i64 c]) => some (.ref 0 O.length 0, O ++ [.arr [.int .i64 m, .int .i64 c]])
    | _ => none
  | _ => none
theorem tCopyS_ok : SpOk Tryz.prog 42 tCopyS := by
  intro args O r O' h S
  unfold tCopyS at h
  repeat' (split at h)
  all_goals first | (cases h; done) | skip
  all_goals
    simp only [Option.some.injEq, Prod.mk.injEq] at h
    obtain ⟨rfl, rfl⟩ := h
    refine bodyA (tabC_nil _) (n := 0) F42_code ?_
    try simp only [acc, accZ, errA] at *
    simp (disch := first | decide | omega | assumption) only [F42, RAs, RBs, RCs, RDs, REs, RFs, RGs, RHs, RIs, RJs, RKs, RLs, if_true, if_false, dec_T, dec_F, Bool.not_true, Bool.not_false, Option.map_some, ite_true, Bool.and_true, List.map_cons, List.map_nil, List.length_cons, List.length_nil, List.nil_append, List.cons_append, Nat.zero_add, Nat.add_zero, Nat.mul_one, List.set_cons_zero, List.set_cons_succ, Int.toNat_natCast, List.drop_zero, List.drop_nil, List.drop_succ_cons, List.getElem?_drop, List.append_nil, List.length_set, decide_true, Bool.and_self, Bool.true_and, List.take_succ_cons, List.take_zero, Nat.reduceLT, Nat.reduceEqDiff, Nat.reduceAdd, Nat.reduceSub, gm_0, tabC_hit, tabC_miss, spC_some, m_stO, go_int, go_bool, go_str, go_ref, go_bref, go_iface, go_nilp, go_nili, go_nils, low_int, low_bool, low_str, low_ref, low_bref, low_iface', low_nilp', low_nili', low_nils, get4, get5, get6, get7, get8, get9, get10, wr_u64, g_stOA, g_boxO, low1_iface, low1_nilf, low1_nilm, low1_emp, low1_map, snap1_ref0, snap2_ref0, snap_ref0, snap1_if0, snap2_if0, snap_if0, snap1_br0, snap2_br0, snap_br0, snap1_nilp', snap2_nilp', snap_nilp', snap1_nili', snap2_nili', snap_nili', snap_tupE, m_newDo, m_newKo, m_newOo, m_newSo, m_stOB, stOB_int, m_aldBS, m_take1, gA_T, r_invk, inv_if, inv_some, r_invkX, invX_if, invX_some, and_self, and_true, true_and, Bool.false_eq_true, mx_1, mx_max1, mx_max2, mx_min1, mx_min2, eqb_same, eqb_same2, if_pos, if_neg, getA, orN_some, orN_self, get_len, app_set, getS_self, orS_some, set_set', methR, acc, accZ, errA, *]

/-- ticketlineref32.Again -/
def rAgainS : Sp := fun args O =>
  match args with
  | [.int .i64 m, .int .i64 c] => if m < c then some (.tup [.int .i64 m, .bool false], O) else if 0 < c then some (.tup [.int .i64 c, .bool true], O) else some (.tup [.int .i64 c, .bool false], O)
  | _ => none
theorem rAgainS_ok : SpOk Tryz.prog 44 rAgainS := by
  intro args O r O' h S
  unfold rAgainS at h
  repeat' (split at h)
  all_goals first | (cases h; done) | skip
  all_goals
    simp only [Option.some.injEq, Prod.mk.injEq] at h
    obtain ⟨rfl, rfl⟩ := h
    refine bodyA (tabC_nil _) (n := 0) F44_code ?_
    try simp only [acc, accZ, errA] at *
    simp (disch := first | decide | omega | assumption) only [F44, RAs, RBs, RCs, RDs, REs, RFs, RGs, RHs, RIs, RJs, RKs, RLs, if_true, if_false, dec_T, dec_F, Bool.not_true, Bool.not_false, Option.map_some, ite_true, Bool.and_true, List.map_cons, List.map_nil, List.length_cons, List.length_nil, List.nil_append, List.cons_append, Nat.zero_add, Nat.add_zero, Nat.mul_one, List.set_cons_zero, List.set_cons_succ, Int.toNat_natCast, List.drop_zero, List.drop_nil, List.drop_succ_cons, List.getElem?_drop, List.append_nil, List.length_set, decide_true, Bool.and_self, Bool.true_and, List.take_succ_cons, List.take_zero, Nat.reduceLT, Nat.reduceEqDiff, Nat.reduceAdd, Nat.reduceSub, gm_0, tabC_hit, tabC_miss, spC_some, m_stO, go_int, go_bool, go_str, go_ref, go_bref, go_iface, go_nilp, go_nili, go_nils, low_int, low_bool, low_str, low_ref, low_bref, low_iface', low_nilp', low_nili', low_nils, get4, get5, get6, get7, get8, get9, get10, wr_u64, g_stOA, g_boxO, low1_iface, low1_nilf, low1_nilm, low1_emp, low1_map, snap1_ref0, snap2_ref0, snap_ref0, snap1_if0, snap2_if0, snap_if0, snap1_br0, snap2_br0, snap_br0, snap1_nilp', snap2_nilp', snap_nilp', snap1_nili', snap2_nili', snap_nili', snap_tupE, m_newDo, m_newKo, m_newOo, m_newSo, m_stOB, stOB_int, m_aldBS, m_take1, gA_T, r_invk, inv_if, inv_some, r_invkX, invX_if, invX_some, and_self, and_true, true_and, Bool.false_eq_true, mx_1, mx_max1, mx_max2, mx_min1, mx_min2, eqb_same, eqb_same2, if_pos, if_neg, getA, orN_some, orN_self, get_len, app_set, getS_self, orS_some, set_set', methR, acc, accZ, errA, *]

end Den
