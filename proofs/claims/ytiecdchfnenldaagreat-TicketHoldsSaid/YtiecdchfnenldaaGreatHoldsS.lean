/- TicketHolds: what it computes. -/
import Derived.Test.YtiecdchfnenldaaGreatKnown
import Derived.Test.YtiecdchfnenldaaGreatSpecs
import Derived.Test.YtiecdchfnenldaaGreatCodeW
set_option maxRecDepth 100000
set_option maxHeartbeats 4000000
set_option linter.unusedSimpArgs false
set_option linter.unusedVariables false
namespace Den
open Go Go.Proofs

/-- ticket.Draw.Copy -/
def drawCopyS : Sp := fun args O =>
  match args with
  | [.ref 0 k 0] => match O[k]? with
    | some (.arr [.int .i64 st, .iface t1 (.ref 0 a 0), .iface t2 (.ref 0 b 0), .int .u64 n]) =>
      if st = 0 then none
      else if t2 = 159 then
        match (O ++ [ABlk.arr [.int .i64 st, .iface t1 (.ref 0 a 0), .iface 159 (.ref 0 b 0), .int .u64 n]])[k]? with
        | some (.arr [.int .i64 st1, .iface t3 (.ref 0 a3 0), .iface t4 (.ref 0 b3 0), .int .u64 n3]) =>
          if t3 = 156 then
            match acqCopyS [.ref 0 a3 0] (O ++ [ABlk.arr [.int .i64 st, .iface t1 (.ref 0 a 0), .iface 159 (.ref 0 b 0), .int .u64 n]]) with
            | some (.iface t5 (.ref 0 a5 0), O2) =>
              match O2[k]? with
              | some (.arr [.int .i64 st6, .iface t6 (.ref 0 a6 0), .iface t7 (.ref 0 b7 0), .int .u64 n6]) =>
                if t7 = 159 ∧ t4 = 159 ∧ b3 = b7 then
                  match relCopyS [.ref 0 b7 0] O2 with
                  | some (.iface t8 (.ref 0 a8 0), O3) =>
                    match O3[O.length]? with
                    | some (.arr [e0, e1, e2, e3]) => some (.iface 96 (.ref 0 O.length 0), O3.set O.length (.arr [e0, .iface t5 (.ref 0 a5 0), .iface t8 (.ref 0 a8 0), e3]))
                    | _ => none
                  | _ => none
                else none
              | _ => none
            | _ => none
          else if t3 = 159 then
            match relCopyS [.ref 0 a3 0] (O ++ [ABlk.arr [.int .i64 st, .iface t1 (.ref 0 a 0), .iface 159 (.ref 0 b 0), .int .u64 n]]) with
            | some (.iface t5 (.ref 0 a5 0), O2) =>
              match O2[k]? with
              | some (.arr [.int .i64 st6, .iface t6 (.ref 0 a6 0), .iface t7 (.ref 0 b7 0), .int .u64 n6]) =>
                if t7 = 159 ∧ t4 = 159 ∧ b3 = b7 then
                  match relCopyS [.ref 0 b7 0] O2 with
                  | some (.iface t8 (.ref 0 a8 0), O3) =>
                    match O3[O.length]? with
                    | some (.arr [e0, e1, e2, e3]) => some (.iface 96 (.ref 0 O.length 0), O3.set O.length (.arr [e0, .iface t5 (.ref 0 a5 0), .iface t8 (.ref 0 a8 0), e3]))
                    | _ => none
                  | _ => none
                else none
              | _ => none
            | _ => none
          else none
        | _ => none
      else none
    | _ => none
  | _ => none
theorem drawCopyS_ok : SpOk Tryz.prog 58 drawCopyS := by
  intro args O r O' h S
  unfold drawCopyS at h
  repeat' (split at h)
  all_goals first | (cases h; done) | skip
  all_goals
    simp only [Option.some.injEq, Prod.mk.injEq] at h
    obtain ⟨rfl, rfl⟩ := h
    refine bodyA (tabC_cons drawZeroS_ok (tabC_cons acqCopyS_ok (tabC_cons relCopyS_ok (tabC_nil _)))) (n := 0) F58_code ?_
    try simp only [acc, accZ, errA] at *
    simp (disch := first | decide | omega | assumption) only [F58, RAs, RBs, RCs, RDs, REs, RFs, RGs, RHs, RIs, RJs, RKs, RLs, if_true, if_false, dec_T, dec_F, Bool.not_true, Bool.not_false, Option.map_some, ite_true, Bool.and_true, List.map_cons, List.map_nil, List.length_cons, List.length_nil, List.nil_append, List.cons_append, Nat.zero_add, Nat.add_zero, Nat.mul_one, List.set_cons_zero, List.set_cons_succ, Int.toNat_natCast, List.drop_zero, List.drop_nil, List.drop_succ_cons, List.getElem?_drop, List.append_nil, List.length_set, decide_true, Bool.and_self, Bool.true_and, List.take_succ_cons, List.take_zero, Nat.reduceLT, Nat.reduceEqDiff, Nat.reduceAdd, Nat.reduceSub, gm_0, tabC_hit, tabC_miss, spC_some, m_stO, go_int, go_bool, go_str, go_ref, go_bref, go_iface, go_nilp, go_nili, go_nils, low_int, low_bool, low_str, low_ref, low_bref, low_iface', low_nilp', low_nili', low_nils, get4, get5, get6, get7, get8, get9, get10, wr_u64, g_stOA, g_boxO, low1_iface, low1_nilf, low1_nilm, low1_emp, low1_map, snap1_ref0, snap2_ref0, snap_ref0, snap1_if0, snap2_if0, snap_if0, snap1_br0, snap2_br0, snap_br0, snap1_nilp', snap2_nilp', snap_nilp', snap1_nili', snap2_nili', snap_nili', snap_tupE, m_newDo, m_newKo, m_newOo, m_newSo, m_stOB, stOB_int, m_aldBS, m_take1, gA_T, r_invk, inv_if, inv_some, r_invkX, invX_if, invX_some, and_self, and_true, true_and, Bool.false_eq_true, mx_1, mx_max1, mx_max2, mx_min1, mx_min2, eqb_same, eqb_same2, if_pos, if_neg, getA, orN_some, orN_self, get_len, app_set, getS_self, orS_some, set_set', methR, methT, acc, accZ, errA, drawZeroS, *]

/-- ticketlinelaw32.made -/
def made32S : Sp := fun args O =>
  match args with
  | [.int .i64 m] => match newTriesS [.int .i64 m] O with
    | some (.tup [.ref 0 k 0, .int .i64 e], Oa) => if e = 0 then some (.ref 0 k 0, Oa) else none
    | _ => none
  | _ => none
theorem made32S_ok : SpOk Tryz.prog 60 made32S := by
  intro args O r O' h S
  unfold made32S at h
  repeat' (split at h)
  all_goals first | (cases h; done) | skip
  all_goals
    simp only [Option.some.injEq, Prod.mk.injEq] at h
    obtain ⟨rfl, rfl⟩ := h
    refine bodyA (tabC_cons newTriesS_ok (tabC_nil _)) (n := 0) F60_code ?_
    try simp only [acc, accZ, errA] at *
    simp (disch := first | decide | omega | assumption) only [F60, RAs, RBs, RCs, RDs, REs, RFs, RGs, RHs, RIs, RJs, RKs, RLs, if_true, if_false, dec_T, dec_F, Bool.not_true, Bool.not_false, Option.map_some, ite_true, Bool.and_true, List.map_cons, List.map_nil, List.length_cons, List.length_nil, List.nil_append, List.cons_append, Nat.zero_add, Nat.add_zero, Nat.mul_one, List.set_cons_zero, List.set_cons_succ, Int.toNat_natCast, List.drop_zero, List.drop_nil, List.drop_succ_cons, List.getElem?_drop, List.append_nil, List.length_set, decide_true, Bool.and_self, Bool.true_and, List.take_succ_cons, List.take_zero, Nat.reduceLT, Nat.reduceEqDiff, Nat.reduceAdd, Nat.reduceSub, gm_0, tabC_hit, tabC_miss, spC_some, m_stO, go_int, go_bool, go_str, go_ref, go_bref, go_iface, go_nilp, go_nili, go_nils, low_int, low_bool, low_str, low_ref, low_bref, low_iface', low_nilp', low_nili', low_nils, get4, get5, get6, get7, get8, get9, get10, wr_u64, g_stOA, g_boxO, low1_iface, low1_nilf, low1_nilm, low1_emp, low1_map, snap1_ref0, snap2_ref0, snap_ref0, snap1_if0, snap2_if0, snap_if0, snap1_br0, snap2_br0, snap_br0, snap1_nilp', snap2_nilp', snap_nilp', snap1_nili', snap2_nili', snap_nili', snap_tupE, m_newDo, m_newKo, m_newOo, m_newSo, m_stOB, stOB_int, m_aldBS, m_take1, gA_T, r_invk, inv_if, inv_some, r_invkX, invX_if, invX_some, and_self, and_true, true_and, Bool.false_eq_true, mx_1, mx_max1, mx_max2, mx_min1, mx_min2, eqb_same, eqb_same2, if_pos, if_neg, getA, orN_some, orN_self, get_len, app_set, getS_self, orS_some, set_set', methR, methT, acc, accZ, errA, *]

/-- ticketlinelaw32.TicketHolds: the loop 0 -/
def holdsE (kt : Nat) (w : Int) (c : Int) (O : Mo) : Option (AV × Mo) :=
  if c = w % 65 then
    match tSpentS [.ref 0 kt 0] O with
    | some (.bool true, Oa) => match known32S [] Oa with
      | some (.bool b, Ob) => some (.bool b, Ob)
      | _ => none
    | _ => none
  else none
def holdsG (kt : Nat) (w : Int) : Nat → Int → Int → Mo → Option (AV × Mo)
  | 0, i, c, O => if i < 100 then none else holdsE kt w c O
  | n + 1, i, c, O =>
    if i < 100 then
      if 0 ≤ i ∧ 0 ≤ c ∧ c ≤ 1000 then
        match tAgainS [.ref 0 kt 0] O with
        | some (.bool true, Oa) => holdsG kt w n (i + 1) (c + 1) Oa
        | some (.bool false, Oa) => holdsE kt w c Oa
        | _ => none
      else none
    else holdsE kt w c O
theorem holdsG_loop {S : Ms} (kt : Nat) (w : Int) (h0 : 0 ≤ w) (h1 : w ≤ 255) : ∀ (n : Nat) (i : Int) (c : Int) (O : Mo) (env : Env) (M : Nat) (r : AV) (O' : Mo) (h : holdsG kt w n i c O = some (r, O')) (hM : n < M) (e0 : env 3 = .int .u8 w) (e1 : env 21 = .ref 0 kt 0) (e2 : env 22 = .int .i64 c) (e3 : env 23 = .int .i64 i),
    W12x0 cfgA (tabC [(14, formatS), (49, newDrawS), (59, run32S), (58, drawCopyS), (56, drawResS), (60, made32S), (43, tAgainS), (47, tSpentS), (41, known32S)]) 100000 (loopN (exec cfgA (tabC [(14, formatS), (49, newDrawS), (59, run32S), (58, drawCopyS), (56, drawResS), (60, made32S), (43, tAgainS), (47, tSpentS), (41, known32S)]) 100000 B12x0) [] M ⟨leOf 131 env, O, S ++ [[ABlk.arr [.int .i64 1, .int .i64 4]]]⟩) = some (r, O', S) := by
  intro n
  induction n with
  | zero =>
    intro i c O env M r O' h hM e0 e1 e2 e3
    obtain ⟨M, rfl⟩ : ∃ M', M = M' + 1 := ⟨M - 1, by omega⟩
    unfold holdsG at h
    try unfold holdsE at h
    repeat' (split at h)
    all_goals first | (cases h; done) | skip
    all_goals
      try dsimp only at h
      try simp only [acc, accZ, errA] at *
      first
        | (simp (disch := first | decide | omega | assumption) only [loop_unf, loopK_N, loopK_E, loopK_R, RAs, RBs, RCs, RDs, REs, RFs, RGs, RHs, RIs, RJs, RKs, RLs, if_true, if_false, dec_T, dec_F, Bool.not_true, Bool.not_false, Option.map_some, ite_true, Bool.and_true, List.map_cons, List.map_nil, List.length_cons, List.length_nil, List.nil_append, List.cons_append, Nat.zero_add, Nat.add_zero, Nat.mul_one, List.set_cons_zero, List.set_cons_succ, Int.toNat_natCast, List.drop_zero, List.drop_nil, List.drop_succ_cons, List.getElem?_drop, List.append_nil, List.length_set, decide_true, Bool.and_self, Bool.true_and, List.take_succ_cons, List.take_zero, Nat.reduceLT, Nat.reduceEqDiff, Nat.reduceAdd, Nat.reduceSub, gm_0, tabC_hit, tabC_miss, spC_some, m_stO, go_int, go_bool, go_str, go_ref, go_bref, go_iface, go_nilp, go_nili, go_nils, low_int, low_bool, low_str, low_ref, low_bref, low_iface', low_nilp', low_nili', low_nils, get4, get5, get6, get7, get8, get9, get10, wr_u64, g_stOA, g_boxO, low1_iface, low1_nilf, low1_nilm, low1_emp, low1_map, snap1_ref0, snap2_ref0, snap_ref0, snap1_if0, snap2_if0, snap_if0, snap1_br0, snap2_br0, snap_br0, snap1_nilp', snap2_nilp', snap_nilp', snap1_nili', snap2_nili', snap_nili', snap_tupE, m_newDo, m_newKo, m_newOo, m_newSo, m_stOB, stOB_int, m_aldBS, m_take1, gA_T, r_invk, inv_if, inv_some, r_invkX, invX_if, invX_some, and_self, and_true, true_and, Bool.false_eq_true, mx_1, mx_max1, mx_max2, mx_min1, mx_min2, eqb_same, eqb_same2, if_pos, if_neg, getA, orN_some, orN_self, get_len, app_set, getS_self, orS_some, set_set', methR, methT, *]
           refine noIh _ _ _ _ _ _ _ h (by omega) ?_ ?_ ?_ ?_
           all_goals simp (disch := first | decide | omega | assumption) only [RAs, RBs, RCs, RDs, REs, RFs, RGs, RHs, RIs, RJs, RKs, RLs, if_true, if_false, dec_T, dec_F, Bool.not_true, Bool.not_false, Option.map_some, ite_true, Bool.and_true, List.map_cons, List.map_nil, List.length_cons, List.length_nil, List.nil_append, List.cons_append, Nat.zero_add, Nat.add_zero, Nat.mul_one, List.set_cons_zero, List.set_cons_succ, Int.toNat_natCast, List.drop_zero, List.drop_nil, List.drop_succ_cons, List.getElem?_drop, List.append_nil, List.length_set, decide_true, Bool.and_self, Bool.true_and, List.take_succ_cons, List.take_zero, Nat.reduceLT, Nat.reduceEqDiff, Nat.reduceAdd, Nat.reduceSub, gm_0, tabC_hit, tabC_miss, spC_some, m_stO, go_int, go_bool, go_str, go_ref, go_bref, go_iface, go_nilp, go_nili, go_nils, low_int, low_bool, low_str, low_ref, low_bref, low_iface', low_nilp', low_nili', low_nils, get4, get5, get6, get7, get8, get9, get10, wr_u64, g_stOA, g_boxO, low1_iface, low1_nilf, low1_nilm, low1_emp, low1_map, snap1_ref0, snap2_ref0, snap_ref0, snap1_if0, snap2_if0, snap_if0, snap1_br0, snap2_br0, snap_br0, snap1_nilp', snap2_nilp', snap_nilp', snap1_nili', snap2_nili', snap_nili', snap_tupE, m_newDo, m_newKo, m_newOo, m_newSo, m_stOB, stOB_int, m_aldBS, m_take1, gA_T, r_invk, inv_if, inv_some, r_invkX, invX_if, invX_some, and_self, and_true, true_and, Bool.false_eq_true, mx_1, mx_max1, mx_max2, mx_min1, mx_min2, eqb_same, eqb_same2, if_pos, if_neg, getA, orN_some, orN_self, get_len, app_set, getS_self, orS_some, set_set', methR, methT, *])
        | (simp only [Option.some.injEq, Prod.mk.injEq] at h
           obtain ⟨rfl, rfl⟩ := h
           simp (disch := first | decide | omega | assumption) only [W12x0, loop_unf, loopK_N, loopK_E, loopK_R, RAs, RBs, RCs, RDs, REs, RFs, RGs, RHs, RIs, RJs, RKs, RLs, if_true, if_false, dec_T, dec_F, Bool.not_true, Bool.not_false, Option.map_some, ite_true, Bool.and_true, List.map_cons, List.map_nil, List.length_cons, List.length_nil, List.nil_append, List.cons_append, Nat.zero_add, Nat.add_zero, Nat.mul_one, List.set_cons_zero, List.set_cons_succ, Int.toNat_natCast, List.drop_zero, List.drop_nil, List.drop_succ_cons, List.getElem?_drop, List.append_nil, List.length_set, decide_true, Bool.and_self, Bool.true_and, List.take_succ_cons, List.take_zero, Nat.reduceLT, Nat.reduceEqDiff, Nat.reduceAdd, Nat.reduceSub, gm_0, tabC_hit, tabC_miss, spC_some, m_stO, go_int, go_bool, go_str, go_ref, go_bref, go_iface, go_nilp, go_nili, go_nils, low_int, low_bool, low_str, low_ref, low_bref, low_iface', low_nilp', low_nili', low_nils, get4, get5, get6, get7, get8, get9, get10, wr_u64, g_stOA, g_boxO, low1_iface, low1_nilf, low1_nilm, low1_emp, low1_map, snap1_ref0, snap2_ref0, snap_ref0, snap1_if0, snap2_if0, snap_if0, snap1_br0, snap2_br0, snap_br0, snap1_nilp', snap2_nilp', snap_nilp', snap1_nili', snap2_nili', snap_nili', snap_tupE, m_newDo, m_newKo, m_newOo, m_newSo, m_stOB, stOB_int, m_aldBS, m_take1, gA_T, r_invk, inv_if, inv_some, r_invkX, invX_if, invX_some, and_self, and_true, true_and, Bool.false_eq_true, mx_1, mx_max1, mx_max2, mx_min1, mx_min2, eqb_same, eqb_same2, if_pos, if_neg, getA, orN_some, orN_self, get_len, app_set, getS_self, orS_some, set_set', methR, methT, *])
  | succ n ih =>
    intro i c O env M r O' h hM e0 e1 e2 e3
    obtain ⟨M, rfl⟩ : ∃ M', M = M' + 1 := ⟨M - 1, by omega⟩
    unfold holdsG at h
    try unfold holdsE at h
    repeat' (split at h)
    all_goals first | (cases h; done) | skip
    all_goals
      try dsimp only at h
      try simp only [acc, accZ, errA] at *
      first
        | (simp (disch := first | decide | omega | assumption) only [loop_unf, loopK_N, loopK_E, loopK_R, RAs, RBs, RCs, RDs, REs, RFs, RGs, RHs, RIs, RJs, RKs, RLs, if_true, if_false, dec_T, dec_F, Bool.not_true, Bool.not_false, Option.map_some, ite_true, Bool.and_true, List.map_cons, List.map_nil, List.length_cons, List.length_nil, List.nil_append, List.cons_append, Nat.zero_add, Nat.add_zero, Nat.mul_one, List.set_cons_zero, List.set_cons_succ, Int.toNat_natCast, List.drop_zero, List.drop_nil, List.drop_succ_cons, List.getElem?_drop, List.append_nil, List.length_set, decide_true, Bool.and_self, Bool.true_and, List.take_succ_cons, List.take_zero, Nat.reduceLT, Nat.reduceEqDiff, Nat.reduceAdd, Nat.reduceSub, gm_0, tabC_hit, tabC_miss, spC_some, m_stO, go_int, go_bool, go_str, go_ref, go_bref, go_iface, go_nilp, go_nili, go_nils, low_int, low_bool, low_str, low_ref, low_bref, low_iface', low_nilp', low_nili', low_nils, get4, get5, get6, get7, get8, get9, get10, wr_u64, g_stOA, g_boxO, low1_iface, low1_nilf, low1_nilm, low1_emp, low1_map, snap1_ref0, snap2_ref0, snap_ref0, snap1_if0, snap2_if0, snap_if0, snap1_br0, snap2_br0, snap_br0, snap1_nilp', snap2_nilp', snap_nilp', snap1_nili', snap2_nili', snap_nili', snap_tupE, m_newDo, m_newKo, m_newOo, m_newSo, m_stOB, stOB_int, m_aldBS, m_take1, gA_T, r_invk, inv_if, inv_some, r_invkX, invX_if, invX_some, and_self, and_true, true_and, Bool.false_eq_true, mx_1, mx_max1, mx_max2, mx_min1, mx_min2, eqb_same, eqb_same2, if_pos, if_neg, getA, orN_some, orN_self, get_len, app_set, getS_self, orS_some, set_set', methR, methT, *]
           refine ih _ _ _ _ _ _ _ h (by omega) ?_ ?_ ?_ ?_
           all_goals simp (disch := first | decide | omega | assumption) only [RAs, RBs, RCs, RDs, REs, RFs, RGs, RHs, RIs, RJs, RKs, RLs, if_true, if_false, dec_T, dec_F, Bool.not_true, Bool.not_false, Option.map_some, ite_true, Bool.and_true, List.map_cons, List.map_nil, List.length_cons, List.length_nil, List.nil_append, List.cons_append, Nat.zero_add, Nat.add_zero, Nat.mul_one, List.set_cons_zero, List.set_cons_succ, Int.toNat_natCast, List.drop_zero, List.drop_nil, List.drop_succ_cons, List.getElem?_drop, List.append_nil, List.length_set, decide_true, Bool.and_self, Bool.true_and, List.take_succ_cons, List.take_zero, Nat.reduceLT, Nat.reduceEqDiff, Nat.reduceAdd, Nat.reduceSub, gm_0, tabC_hit, tabC_miss, spC_some, m_stO, go_int, go_bool, go_str, go_ref, go_bref, go_iface, go_nilp, go_nili, go_nils, low_int, low_bool, low_str, low_ref, low_bref, low_iface', low_nilp', low_nili', low_nils, get4, get5, get6, get7, get8, get9, get10, wr_u64, g_stOA, g_boxO, low1_iface, low1_nilf, low1_nilm, low1_emp, low1_map, snap1_ref0, snap2_ref0, snap_ref0, snap1_if0, snap2_if0, snap_if0, snap1_br0, snap2_br0, snap_br0, snap1_nilp', snap2_nilp', snap_nilp', snap1_nili', snap2_nili', snap_nili', snap_tupE, m_newDo, m_newKo, m_newOo, m_newSo, m_stOB, stOB_int, m_aldBS, m_take1, gA_T, r_invk, inv_if, inv_some, r_invkX, invX_if, invX_some, and_self, and_true, true_and, Bool.false_eq_true, mx_1, mx_max1, mx_max2, mx_min1, mx_min2, eqb_same, eqb_same2, if_pos, if_neg, getA, orN_some, orN_self, get_len, app_set, getS_self, orS_some, set_set', methR, methT, *])
        | (simp only [Option.some.injEq, Prod.mk.injEq] at h
           obtain ⟨rfl, rfl⟩ := h
           simp (disch := first | decide | omega | assumption) only [W12x0, loop_unf, loopK_N, loopK_E, loopK_R, RAs, RBs, RCs, RDs, REs, RFs, RGs, RHs, RIs, RJs, RKs, RLs, if_true, if_false, dec_T, dec_F, Bool.not_true, Bool.not_false, Option.map_some, ite_true, Bool.and_true, List.map_cons, List.map_nil, List.length_cons, List.length_nil, List.nil_append, List.cons_append, Nat.zero_add, Nat.add_zero, Nat.mul_one, List.set_cons_zero, List.set_cons_succ, Int.toNat_natCast, List.drop_zero, List.drop_nil, List.drop_succ_cons, List.getElem?_drop, List.append_nil, List.length_set, decide_true, Bool.and_self, Bool.true_and, List.take_succ_cons, List.take_zero, Nat.reduceLT, Nat.reduceEqDiff, Nat.reduceAdd, Nat.reduceSub, gm_0, tabC_hit, tabC_miss, spC_some, m_stO, go_int, go_bool, go_str, go_ref, go_bref, go_iface, go_nilp, go_nili, go_nils, low_int, low_bool, low_str, low_ref, low_bref, low_iface', low_nilp', low_nili', low_nils, get4, get5, get6, get7, get8, get9, get10, wr_u64, g_stOA, g_boxO, low1_iface, low1_nilf, low1_nilm, low1_emp, low1_map, snap1_ref0, snap2_ref0, snap_ref0, snap1_if0, snap2_if0, snap_if0, snap1_br0, snap2_br0, snap_br0, snap1_nilp', snap2_nilp', snap_nilp', snap1_nili', snap2_nili', snap_nili', snap_tupE, m_newDo, m_newKo, m_newOo, m_newSo, m_stOB, stOB_int, m_aldBS, m_take1, gA_T, r_invk, inv_if, inv_some, r_invkX, invX_if, invX_some, and_self, and_true, true_and, Bool.false_eq_true, mx_1, mx_max1, mx_max2, mx_min1, mx_min2, eqb_same, eqb_same2, if_pos, if_neg, getA, orN_some, orN_self, get_len, app_set, getS_self, orS_some, set_set', methR, methT, *])

attribute [local irreducible] holdsG
/-- ticketlinelaw32.TicketHolds -/
def tholdsS : Sp := fun args O =>
  match args with
  | [.int .u8 x, .int .u8 y, .int .u8 z, .int .u8 w] =>
    if 0 ≤ x ∧ x ≤ 255 ∧ 0 ≤ y ∧ y ≤ 255 ∧ 0 ≤ z ∧ z ≤ 255 ∧ 0 ≤ w ∧ w ≤ 255 then
      match formatS [.agg [.int .i64 1, .int .i64 4]] O with
      | some (.tup [.ref 0 km 0, .int .i64 e1], Oa) =>
        if e1 = 0 then
          match newDrawS [.agg [.int .i64 1, .int .i64 4], .int .i64 (x % 4)] Oa with
          | some (.tup [.ref 0 kp 0, .int .i64 e2], Ob) =>
            if e2 = 0 then
              match newDrawS [.agg [.int .i64 1, .int .i64 4], .int .i64 (y % 4)] Ob with
              | some (.tup [.ref 0 kq 0, .int .i64 e3], Oc) =>
                if e3 = 0 then
                  match run32S [.iface 96 (.ref 0 kp 0), .ref 0 km 0, .int .i64 (z % 12)] Oc with
                  | some (.tup [.bool _, .bool _], Od) =>
                    match drawCopyS [.ref 0 kp 0] Od with
                    | some (.iface t (.ref 0 kc 0), Oe) =>
                      if t = 96 then
                        match run32S [.iface 96 (.ref 0 kc 0), .ref 0 km 0, .int .i64 60] Oe with
                        | some (.tup [.bool true, .bool _], Of) =>
                          match run32S [.iface 96 (.ref 0 kq 0), .ref 0 km 0, .int .i64 60] Of with
                          | some (.tup [.bool true, .bool _], Og) =>
                            match drawResS [.ref 0 kq 0] Og with
                            | some (.int .u64 r1, Oh) =>
                              match drawResS [.ref 0 kc 0] Oh with
                              | some (.int .u64 r2, Oi) =>
                                if r2 < r1 then
                                  match made32S [.int .i64 (w % 65)] Oi with
                                  | some (.ref 0 kt 0, Oj) => holdsG kt w 100 0 0 Oj
                                  | _ => none
                                else none
                              | _ => none
                            | _ => none
                          | _ => none
                        | _ => none
                      else none
                    | _ => none
                  | _ => none
                else none
              | _ => none
            else none
          | _ => none
        else none
      | _ => none
    else none
  | _ => none
theorem tholdsS_ok : SpOk Tryz.prog 12 tholdsS := by
  intro args O r O' h S
  unfold tholdsS at h
  repeat' (split at h)
  all_goals first | (cases h; done) | skip
  all_goals
    try simp only [acc, accZ, errA] at *
    first
      | (simp only [Option.some.injEq, Prod.mk.injEq] at h
         obtain ⟨rfl, rfl⟩ := h
         refine bodyA (tabC_cons formatS_ok (tabC_cons newDrawS_ok (tabC_cons run32S_ok (tabC_cons drawCopyS_ok (tabC_cons drawResS_ok (tabC_cons made32S_ok (tabC_cons tAgainS_ok (tabC_cons tSpentS_ok (tabC_cons known32S_ok (tabC_nil _)))))))))) (n := 100000) F12_code ?_
         simp (disch := first | decide | omega | assumption) only [F12, RAs, RBs, RCs, RDs, REs, RFs, RGs, RHs, RIs, RJs, RKs, RLs, if_true, if_false, dec_T, dec_F, Bool.not_true, Bool.not_false, Option.map_some, ite_true, Bool.and_true, List.map_cons, List.map_nil, List.length_cons, List.length_nil, List.nil_append, List.cons_append, Nat.zero_add, Nat.add_zero, Nat.mul_one, List.set_cons_zero, List.set_cons_succ, Int.toNat_natCast, List.drop_zero, List.drop_nil, List.drop_succ_cons, List.getElem?_drop, List.append_nil, List.length_set, decide_true, Bool.and_self, Bool.true_and, List.take_succ_cons, List.take_zero, Nat.reduceLT, Nat.reduceEqDiff, Nat.reduceAdd, Nat.reduceSub, gm_0, tabC_hit, tabC_miss, spC_some, m_stO, go_int, go_bool, go_str, go_ref, go_bref, go_iface, go_nilp, go_nili, go_nils, low_int, low_bool, low_str, low_ref, low_bref, low_iface', low_nilp', low_nili', low_nils, get4, get5, get6, get7, get8, get9, get10, wr_u64, g_stOA, g_boxO, low1_iface, low1_nilf, low1_nilm, low1_emp, low1_map, snap1_ref0, snap2_ref0, snap_ref0, snap1_if0, snap2_if0, snap_if0, snap1_br0, snap2_br0, snap_br0, snap1_nilp', snap2_nilp', snap_nilp', snap1_nili', snap2_nili', snap_nili', snap_tupE, m_newDo, m_newKo, m_newOo, m_newSo, m_stOB, stOB_int, m_aldBS, m_take1, gA_T, r_invk, inv_if, inv_some, r_invkX, invX_if, invX_some, and_self, and_true, true_and, Bool.false_eq_true, mx_1, mx_max1, mx_max2, mx_min1, mx_min2, eqb_same, eqb_same2, if_pos, if_neg, getA, orN_some, orN_self, get_len, app_set, getS_self, orS_some, set_set', methR, methT, acc, accZ, errA, *])
      | (refine bodyA (tabC_cons formatS_ok (tabC_cons newDrawS_ok (tabC_cons run32S_ok (tabC_cons drawCopyS_ok (tabC_cons drawResS_ok (tabC_cons made32S_ok (tabC_cons tAgainS_ok (tabC_cons tSpentS_ok (tabC_cons known32S_ok (tabC_nil _)))))))))) (n := 100000) F12_code ?_
         simp (disch := first | decide | omega | assumption) only [F12, RAs, RBs, RCs, RDs, REs, RFs, RGs, RHs, RIs, RJs, RKs, RLs, if_true, if_false, dec_T, dec_F, Bool.not_true, Bool.not_false, Option.map_some, ite_true, Bool.and_true, List.map_cons, List.map_nil, List.length_cons, List.length_nil, List.nil_append, List.cons_append, Nat.zero_add, Nat.add_zero, Nat.mul_one, List.set_cons_zero, List.set_cons_succ, Int.toNat_natCast, List.drop_zero, List.drop_nil, List.drop_succ_cons, List.getElem?_drop, List.append_nil, List.length_set, decide_true, Bool.and_self, Bool.true_and, List.take_succ_cons, List.take_zero, Nat.reduceLT, Nat.reduceEqDiff, Nat.reduceAdd, Nat.reduceSub, gm_0, tabC_hit, tabC_miss, spC_some, m_stO, go_int, go_bool, go_str, go_ref, go_bref, go_iface, go_nilp, go_nili, go_nils, low_int, low_bool, low_str, low_ref, low_bref, low_iface', low_nilp', low_nili', low_nils, get4, get5, get6, get7, get8, get9, get10, wr_u64, g_stOA, g_boxO, low1_iface, low1_nilf, low1_nilm, low1_emp, low1_map, snap1_ref0, snap2_ref0, snap_ref0, snap1_if0, snap2_if0, snap_if0, snap1_br0, snap2_br0, snap_br0, snap1_nilp', snap2_nilp', snap_nilp', snap1_nili', snap2_nili', snap_nili', snap_tupE, m_newDo, m_newKo, m_newOo, m_newSo, m_stOB, stOB_int, m_aldBS, m_take1, gA_T, r_invk, inv_if, inv_some, r_invkX, invX_if, invX_some, and_self, and_true, true_and, Bool.false_eq_true, mx_1, mx_max1, mx_max2, mx_min1, mx_min2, eqb_same, eqb_same2, if_pos, if_neg, getA, orN_some, orN_self, get_len, app_set, getS_self, orS_some, set_set', methR, methT, e_loop, acc, accZ, errA, *]
         refine (fin_skip _ _ _ _ _).trans ?_
         refine holdsG_loop _ _ (by omega) (by omega) _ _ _ _ _ _ _ _ h (by omega) ?_ ?_ ?_ ?_
         all_goals simp (disch := first | decide | omega | assumption) only [RAs, RBs, RCs, RDs, REs, RFs, RGs, RHs, RIs, RJs, RKs, RLs, if_true, if_false, dec_T, dec_F, Bool.not_true, Bool.not_false, Option.map_some, ite_true, Bool.and_true, List.map_cons, List.map_nil, List.length_cons, List.length_nil, List.nil_append, List.cons_append, Nat.zero_add, Nat.add_zero, Nat.mul_one, List.set_cons_zero, List.set_cons_succ, Int.toNat_natCast, List.drop_zero, List.drop_nil, List.drop_succ_cons, List.getElem?_drop, List.append_nil, List.length_set, decide_true, Bool.and_self, Bool.true_and, List.take_succ_cons, List.take_zero, Nat.reduceLT, Nat.reduceEqDiff, Nat.reduceAdd, Nat.reduceSub, gm_0, tabC_hit, tabC_miss, spC_some, m_stO, go_int, go_bool, go_str, go_ref, go_bref, go_iface, go_nilp, go_nili, go_nils, low_int, low_bool, low_str, low_ref, low_bref, low_iface', low_nilp', low_nili', low_nils, get4, get5, get6, get7, get8, get9, get10, wr_u64, g_stOA, g_boxO, low1_iface, low1_nilf, low1_nilm, low1_emp, low1_map, snap1_ref0, snap2_ref0, snap_ref0, snap1_if0, snap2_if0, snap_if0, snap1_br0, snap2_br0, snap_br0, snap1_nilp', snap2_nilp', snap_nilp', snap1_nili', snap2_nili', snap_nili', snap_tupE, m_newDo, m_newKo, m_newOo, m_newSo, m_stOB, stOB_int, m_aldBS, m_take1, gA_T, r_invk, inv_if, inv_some, r_invkX, invX_if, invX_some, and_self, and_true, true_and, Bool.false_eq_true, mx_1, mx_max1, mx_max2, mx_min1, mx_min2, eqb_same, eqb_same2, if_pos, if_neg, getA, orN_some, orN_self, get_len, app_set, getS_self, orS_some, set_set', methR, methT, *])

end Den

/- TicketHolds: the answer is yes: the finite part. -/
set_option maxRecDepth 1000000
set_option linter.unusedSimpArgs false
set_option linter.unusedVariables false
namespace Den
open Go Go.Proofs

def hPre (km : Nat) (x y z : Int) (Oa : Mo) : Option Mo :=
  match newDrawS [.agg [.int .i64 1, .int .i64 4], .int .i64 x] Oa with
  | some (.tup [.ref 0 kp 0, .int .i64 e2], Ob) =>
    if e2 = 0 then
      match newDrawS [.agg [.int .i64 1, .int .i64 4], .int .i64 y] Ob with
      | some (.tup [.ref 0 kq 0, .int .i64 e3], Oc) =>
        if e3 = 0 then
          match run32S [.iface 96 (.ref 0 kp 0), .ref 0 km 0, .int .i64 z] Oc with
          | some (.tup [.bool _, .bool _], Od) =>
            match drawCopyS [.ref 0 kp 0] Od with
            | some (.iface t (.ref 0 kc 0), Oe) =>
              if t = 96 then
                match run32S [.iface 96 (.ref 0 kc 0), .ref 0 km 0, .int .i64 60] Oe with
                | some (.tup [.bool true, .bool _], Of) =>
                  match run32S [.iface 96 (.ref 0 kq 0), .ref 0 km 0, .int .i64 60] Of with
                  | some (.tup [.bool true, .bool _], Og) =>
                    match drawResS [.ref 0 kq 0] Og with
                    | some (.int .u64 r1, Oh) =>
                      match drawResS [.ref 0 kc 0] Oh with
                      | some (.int .u64 r2, Oi) => if r2 < r1 then some Oi else none
                      | _ => none
                    | _ => none
                  | _ => none
                | _ => none
              else none
            | _ => none
          | _ => none
        else none
      | _ => none
    else none
  | _ => none
def uw (l : List Int) : List AV := l.map (AV.int .u64)
def FW : List AV := uw ([1, 0, 0, 1, 1] ++ List.replicate 19 0 ++ [1, 0, 0, 128] ++ List.replicate 140 0)
/-- The objects behind Format, of a layout of one page and four threads. -/
def FO : Mo := [.buf 1 (uw (List.replicate 168 0)), .arr [.bref 0 0 0 168 168], .buf 1 FW, .arr [.bref 0 2 0 168 168], .arr [.ref 0 3 0], .buf 1 FW, .arr [.bref 0 5 0 168 168]]
theorem fO_eq : formatS [.agg [.int .i64 1, .int .i64 4]] [] = some (.tup [.ref 0 6 0, .int .i64 0], FO) := by kernel_rfl
def chkA (a b c : Nat) : Bool := (hPre 6 a b c FO).isSome
def chkN (b c : Nat) : Nat → Bool
  | 0 => true
  | n + 1 => chkA n b c && chkN b c n
def chkM (c : Nat) : Nat → Bool
  | 0 => true
  | n + 1 => chkN n c 4 && chkM c n
theorem chkN_all {b c : Nat} : ∀ {n : Nat}, chkN b c n = true → ∀ a, a < n → chkA a b c = true
  | 0, _, a, h => by omega
  | n + 1, h, a, ha => by
    simp only [chkN, Bool.and_eq_true] at h
    rcases Nat.lt_or_eq_of_le (Nat.le_of_lt_succ ha) with h' | h'
    · exact chkN_all h.2 a h'
    · subst h'; exact h.1
theorem chkM_all {c : Nat} : ∀ {n : Nat}, chkM c n = true → ∀ b, b < n → chkN b c 4 = true
  | 0, _, b, h => by omega
  | n + 1, h, b, hb => by
    simp only [chkM, Bool.and_eq_true] at h
    rcases Nat.lt_or_eq_of_le (Nat.le_of_lt_succ hb) with h' | h'
    · exact chkM_all h.2 b h'
    · subst h'; exact h.1
theorem hm0 : chkM 0 4 = true := by kernel_rfl
theorem hm1 : chkM 1 4 = true := by kernel_rfl
theorem hm2 : chkM 2 4 = true := by kernel_rfl
theorem hm3 : chkM 3 4 = true := by kernel_rfl
theorem hm4 : chkM 4 4 = true := by kernel_rfl
theorem hm5 : chkM 5 4 = true := by kernel_rfl
theorem hm6 : chkM 6 4 = true := by kernel_rfl
theorem hm7 : chkM 7 4 = true := by kernel_rfl
theorem hm8 : chkM 8 4 = true := by kernel_rfl
theorem hm9 : chkM 9 4 = true := by kernel_rfl
theorem hm10 : chkM 10 4 = true := by kernel_rfl
theorem hm11 : chkM 11 4 = true := by kernel_rfl
theorem chk_all (a b c : Nat) (ha : a < 4) (hb : b < 4) (hc : c < 12) : chkA a b c = true := by
  refine chkN_all (chkM_all ?_ b hb) a ha
  match c, hc with
  | 0, _ => exact hm0
  | 1, _ => exact hm1
  | 2, _ => exact hm2
  | 3, _ => exact hm3
  | 4, _ => exact hm4
  | 5, _ => exact hm5
  | 6, _ => exact hm6
  | 7, _ => exact hm7
  | 8, _ => exact hm8
  | 9, _ => exact hm9
  | 10, _ => exact hm10
  | 11, _ => exact hm11
  | c + 12, h => omega
end Den

/- TicketTries: what it computes. -/
set_option maxRecDepth 100000
set_option maxHeartbeats 1000000
set_option linter.unusedSimpArgs false
set_option linter.unusedVariables false
namespace Den
open Go Go.Proofs

/-- ticketlinelaw32.TicketTries: the loop 0 -/
def triesE (most : Int) (k : Nat) (O : Mo) : Option (AV × Mo) :=
  (match tCountS [.ref 0 k 0] O with
  | some (.int .i64 c, O1) => (
  (match tLeftS [.ref 0 k 0] O1 with
  | some (.int .i64 lf, O2) => (
  if 0 ≤ c ∧ c ≤ 64 ∧ 0 ≤ lf ∧ lf ≤ 64 then
    if c + lf = most then
      (match known32S [] O2 with
      | some (.bool b, O3) => (
      some (.bool b, O3))
      | _ => none)
    else none
  else none)
  | _ => none))
  | _ => none)
def triesB (most : Int) (i : Int) (k : Nat) (K : Mo → Option (AV × Mo)) (O : Mo) : Option (AV × Mo) :=
  match rAgainS [.int .i64 most, .int .i64 (i + 1)] O with
  | some (.tup [.int .i64 nn, .bool is], Oa) =>
    match tAgainS [.ref 0 k 0] Oa with
    | some (.bool a, Ob) =>
      match tCountS [.ref 0 k 0] Ob with
      | some (.int .i64 c, Oc) =>
        match tLeftS [.ref 0 k 0] Oc with
        | some (.int .i64 lf, Od) =>
          match tSpentS [.ref 0 k 0] Od with
          | some (.bool sp, Oe) => if 0 ≤ nn ∧ nn ≤ most ∧ a = is ∧ c = nn ∧ lf = most - nn ∧ sp = decide (nn = most) then K Oe else none
          | _ => none
        | _ => none
      | _ => none
    | _ => none
  | _ => none
def triesG (most calls w : Int) : Nat → Int → Nat → Mo → Option (AV × Mo)
  | 0, i, k, O => if i < calls then none else triesE most k O
  | n + 1, i, k, O =>
    if i < calls then
      if 0 ≤ i then
        if w = i then
          match tCopyS [.ref 0 k 0] O with
          | some (.ref 0 kc 0, Oa) =>
            match tAgainS [.ref 0 k 0] Oa with
            | some (.bool _, Ob) =>
              triesB most i kc (fun Oc => triesG most calls w n (i + 1) kc Oc) Ob
            | _ => none
          | _ => none
        else
          triesB most i k (fun Oc => triesG most calls w n (i + 1) k Oc) O
      else none
    else triesE most k O
theorem triesG_loop {S : Ms} (most calls w : Int) (h0 : most ≤ 64) (h1 : 0 ≤ calls) (h2 : calls ≤ 255) (h3 : 0 ≤ w) (h4 : w ≤ 255) : ∀ (n : Nat) (i : Int) (k : Nat) (O : Mo) (env : Env) (M : Nat) (r : AV) (O' : Mo) (h : triesG most calls w n i k O = some (r, O')) (hM : n < M) (e0 : env 0 = .int .i64 most) (e1 : env 1 = .int .u8 calls) (e2 : env 2 = .int .u8 w) (e3 : env 7 = .ref 0 k 0) (e4 : env 9 = .int .i64 i),
    W8x0 cfgA (tabC [(40, newTriesS), (44, rAgainS), (43, tAgainS), (42, tCopyS), (45, tCountS), (46, tLeftS), (47, tSpentS), (41, known32S)]) 100000 (loopN (exec cfgA (tabC [(40, newTriesS), (44, rAgainS), (43, tAgainS), (42, tCopyS), (45, tCountS), (46, tLeftS), (47, tSpentS), (41, known32S)]) 100000 B8x0) [] M ⟨leOf 112 env, O, S ++ [[]]⟩) = some (r, O', S) := by
  intro n
  induction n with
  | zero =>
    intro i k O env M r O' h hM e0 e1 e2 e3 e4
    obtain ⟨M, rfl⟩ : ∃ M', M = M' + 1 := ⟨M - 1, by omega⟩
    unfold triesG at h
    try unfold triesB at h
    try unfold triesE at h
    repeat' (split at h)
    all_goals first | (cases h; done) | skip
    all_goals
      try dsimp only at h
      try simp only [acc, accZ, errA] at *
      first
        | (simp (disch := first | decide | omega | assumption) only [loop_unf, loopK_N, loopK_E, loopK_R, RAs, RBs, RCs, RDs, REs, RFs, RGs, RHs, RIs, RJs, RKs, RLs, if_true, if_false, dec_T, dec_F, Bool.not_true, Bool.not_false, Option.map_some, ite_true, Bool.and_true, List.map_cons, List.map_nil, List.length_cons, List.length_nil, List.nil_append, List.cons_append, Nat.zero_add, Nat.add_zero, Nat.mul_one, List.set_cons_zero, List.set_cons_succ, Int.toNat_natCast, List.drop_zero, List.drop_nil, List.drop_succ_cons, List.getElem?_drop, List.append_nil, List.length_set, decide_true, Bool.and_self, Bool.true_and, List.take_succ_cons, List.take_zero, Nat.reduceLT, Nat.reduceEqDiff, Nat.reduceAdd, Nat.reduceSub, gm_0, tabC_hit, tabC_miss, spC_some, m_stO, go_int, go_bool, go_str, go_ref, go_bref, go_iface, go_nilp, go_nili, go_nils, low_int, low_bool, low_str, low_ref, low_bref, low_iface', low_nilp', low_nili', low_nils, get4, get5, get6, get7, get8, get9, get10, wr_u64, g_stOA, g_boxO, low1_iface, low1_nilf, low1_nilm, low1_emp, low1_map, snap1_ref0, snap2_ref0, snap_ref0, snap1_if0, snap2_if0, snap_if0, snap1_br0, snap2_br0, snap_br0, snap1_nilp', snap2_nilp', snap_nilp', snap1_nili', snap2_nili', snap_nili', snap_tupE, m_newDo, m_newKo, m_newOo, m_newSo, m_stOB, stOB_int, m_aldBS, m_take1, gA_T, r_invk, inv_if, inv_some, r_invkX, invX_if, invX_some, and_self, and_true, true_and, Bool.false_eq_true, mx_1, mx_max1, mx_max2, mx_min1, mx_min2, eqb_same, eqb_same2, if_pos, if_neg, getA, orN_some, orN_self, get_len, app_set, getS_self, orS_some, set_set', methR, *]
           refine noIh _ _ _ _ _ _ _ h (by omega) ?_ ?_ ?_ ?_ ?_
           all_goals simp (disch := first | decide | omega | assumption) only [RAs, RBs, RCs, RDs, REs, RFs, RGs, RHs, RIs, RJs, RKs, RLs, if_true, if_false, dec_T, dec_F, Bool.not_true, Bool.not_false, Option.map_some, ite_true, Bool.and_true, List.map_cons, List.map_nil, List.length_cons, List.length_nil, List.nil_append, List.cons_append, Nat.zero_add, Nat.add_zero, Nat.mul_one, List.set_cons_zero, List.set_cons_succ, Int.toNat_natCast, List.drop_zero, List.drop_nil, List.drop_succ_cons, List.getElem?_drop, List.append_nil, List.length_set, decide_true, Bool.and_self, Bool.true_and, List.take_succ_cons, List.take_zero, Nat.reduceLT, Nat.reduceEqDiff, Nat.reduceAdd, Nat.reduceSub, gm_0, tabC_hit, tabC_miss, spC_some, m_stO, go_int, go_bool, go_str, go_ref, go_bref, go_iface, go_nilp, go_nili, go_nils, low_int, low_bool, low_str, low_ref, low_bref, low_iface', low_nilp', low_nili', low_nils, get4, get5, get6, get7, get8, get9, get10, wr_u64, g_stOA, g_boxO, low1_iface, low1_nilf, low1_nilm, low1_emp, low1_map, snap1_ref0, snap2_ref0, snap_ref0, snap1_if0, snap2_if0, snap_if0, snap1_br0, snap2_br0, snap_br0, snap1_nilp', snap2_nilp', snap_nilp', snap1_nili', snap2_nili', snap_nili', snap_tupE, m_newDo, m_newKo, m_newOo, m_newSo, m_stOB, stOB_int, m_aldBS, m_take1, gA_T, r_invk, inv_if, inv_some, r_invkX, invX_if, invX_some, and_self, and_true, true_and, Bool.false_eq_true, mx_1, mx_max1, mx_max2, mx_min1, mx_min2, eqb_same, eqb_same2, if_pos, if_neg, getA, orN_some, orN_self, get_len, app_set, getS_self, orS_some, set_set', methR, *])
        | (simp only [Option.some.injEq, Prod.mk.injEq] at h
           obtain ⟨rfl, rfl⟩ := h
           simp (disch := first | decide | omega | assumption) only [W8x0, loop_unf, loopK_N, loopK_E, loopK_R, RAs, RBs, RCs, RDs, REs, RFs, RGs, RHs, RIs, RJs, RKs, RLs, if_true, if_false, dec_T, dec_F, Bool.not_true, Bool.not_false, Option.map_some, ite_true, Bool.and_true, List.map_cons, List.map_nil, List.length_cons, List.length_nil, List.nil_append, List.cons_append, Nat.zero_add, Nat.add_zero, Nat.mul_one, List.set_cons_zero, List.set_cons_succ, Int.toNat_natCast, List.drop_zero, List.drop_nil, List.drop_succ_cons, List.getElem?_drop, List.append_nil, List.length_set, decide_true, Bool.and_self, Bool.true_and, List.take_succ_cons, List.take_zero, Nat.reduceLT, Nat.reduceEqDiff, Nat.reduceAdd, Nat.reduceSub, gm_0, tabC_hit, tabC_miss, spC_some, m_stO, go_int, go_bool, go_str, go_ref, go_bref, go_iface, go_nilp, go_nili, go_nils, low_int, low_bool, low_str, low_ref, low_bref, low_iface', low_nilp', low_nili', low_nils, get4, get5, get6, get7, get8, get9, get10, wr_u64, g_stOA, g_boxO, low1_iface, low1_nilf, low1_nilm, low1_emp, low1_map, snap1_ref0, snap2_ref0, snap_ref0, snap1_if0, snap2_if0, snap_if0, snap1_br0, snap2_br0, snap_br0, snap1_nilp', snap2_nilp', snap_nilp', snap1_nili', snap2_nili', snap_nili', snap_tupE, m_newDo, m_newKo, m_newOo, m_newSo, m_stOB, stOB_int, m_aldBS, m_take1, gA_T, r_invk, inv_if, inv_some, r_invkX, invX_if, invX_some, and_self, and_true, true_and, Bool.false_eq_true, mx_1, mx_max1, mx_max2, mx_min1, mx_min2, eqb_same, eqb_same2, if_pos, if_neg, getA, orN_some, orN_self, get_len, app_set, getS_self, orS_some, set_set', methR, *])
  | succ n ih =>
    intro i k O env M r O' h hM e0 e1 e2 e3 e4
    obtain ⟨M, rfl⟩ : ∃ M', M = M' + 1 := ⟨M - 1, by omega⟩
    unfold triesG at h
    try unfold triesB at h
    try unfold triesE at h
    repeat' (split at h)
    all_goals first | (cases h; done) | skip
    all_goals
      try dsimp only at h
      try simp only [acc, accZ, errA] at *
      first
        | (simp (disch := first | decide | omega | assumption) only [loop_unf, loopK_N, loopK_E, loopK_R, RAs, RBs, RCs, RDs, REs, RFs, RGs, RHs, RIs, RJs, RKs, RLs, if_true, if_false, dec_T, dec_F, Bool.not_true, Bool.not_false, Option.map_some, ite_true, Bool.and_true, List.map_cons, List.map_nil, List.length_cons, List.length_nil, List.nil_append, List.cons_append, Nat.zero_add, Nat.add_zero, Nat.mul_one, List.set_cons_zero, List.set_cons_succ, Int.toNat_natCast, List.drop_zero, List.drop_nil, List.drop_succ_cons, List.getElem?_drop, List.append_nil, List.length_set, decide_true, Bool.and_self, Bool.true_and, List.take_succ_cons, List.take_zero, Nat.reduceLT, Nat.reduceEqDiff, Nat.reduceAdd, Nat.reduceSub, gm_0, tabC_hit, tabC_miss, spC_some, m_stO, go_int, go_bool, go_str, go_ref, go_bref, go_iface, go_nilp, go_nili, go_nils, low_int, low_bool, low_str, low_ref, low_bref, low_iface', low_nilp', low_nili', low_nils, get4, get5, get6, get7, get8, get9, get10, wr_u64, g_stOA, g_boxO, low1_iface, low1_nilf, low1_nilm, low1_emp, low1_map, snap1_ref0, snap2_ref0, snap_ref0, snap1_if0, snap2_if0, snap_if0, snap1_br0, snap2_br0, snap_br0, snap1_nilp', snap2_nilp', snap_nilp', snap1_nili', snap2_nili', snap_nili', snap_tupE, m_newDo, m_newKo, m_newOo, m_newSo, m_stOB, stOB_int, m_aldBS, m_take1, gA_T, r_invk, inv_if, inv_some, r_invkX, invX_if, invX_some, and_self, and_true, true_and, Bool.false_eq_true, mx_1, mx_max1, mx_max2, mx_min1, mx_min2, eqb_same, eqb_same2, if_pos, if_neg, getA, orN_some, orN_self, get_len, app_set, getS_self, orS_some, set_set', methR, *]
           refine ih _ _ _ _ _ _ _ h (by omega) ?_ ?_ ?_ ?_ ?_
           all_goals simp (disch := first | decide | omega | assumption) only [RAs, RBs, RCs, RDs, REs, RFs, RGs, RHs, RIs, RJs, RKs, RLs, if_true, if_false, dec_T, dec_F, Bool.not_true, Bool.not_false, Option.map_some, ite_true, Bool.and_true, List.map_cons, List.map_nil, List.length_cons, List.length_nil, List.nil_append, List.cons_append, Nat.zero_add, Nat.add_zero, Nat.mul_one, List.set_cons_zero, List.set_cons_succ, Int.toNat_natCast, List.drop_zero, List.drop_nil, List.drop_succ_cons, List.getElem?_drop, List.append_nil, List.length_set, decide_true, Bool.and_self, Bool.true_and, List.take_succ_cons, List.take_zero, Nat.reduceLT, Nat.reduceEqDiff, Nat.reduceAdd, Nat.reduceSub, gm_0, tabC_hit, tabC_miss, spC_some, m_stO, go_int, go_bool, go_str, go_ref, go_bref, go_iface, go_nilp, go_nili, go_nils, low_int, low_bool, low_str, low_ref, low_bref, low_iface', low_nilp', low_nili', low_nils, get4, get5, get6, get7, get8, get9, get10, wr_u64, g_stOA, g_boxO, low1_iface, low1_nilf, low1_nilm, low1_emp, low1_map, snap1_ref0, snap2_ref0, snap_ref0, snap1_if0, snap2_if0, snap_if0, snap1_br0, snap2_br0, snap_br0, snap1_nilp', snap2_nilp', snap_nilp', snap1_nili', snap2_nili', snap_nili', snap_tupE, m_newDo, m_newKo, m_newOo, m_newSo, m_stOB, stOB_int, m_aldBS, m_take1, gA_T, r_invk, inv_if, inv_some, r_invkX, invX_if, invX_some, and_self, and_true, true_and, Bool.false_eq_true, mx_1, mx_max1, mx_max2, mx_min1, mx_min2, eqb_same, eqb_same2, if_pos, if_neg, getA, orN_some, orN_self, get_len, app_set, getS_self, orS_some, set_set', methR, *])
        | (simp only [Option.some.injEq, Prod.mk.injEq] at h
           obtain ⟨rfl, rfl⟩ := h
           simp (disch := first | decide | omega | assumption) only [W8x0, loop_unf, loopK_N, loopK_E, loopK_R, RAs, RBs, RCs, RDs, REs, RFs, RGs, RHs, RIs, RJs, RKs, RLs, if_true, if_false, dec_T, dec_F, Bool.not_true, Bool.not_false, Option.map_some, ite_true, Bool.and_true, List.map_cons, List.map_nil, List.length_cons, List.length_nil, List.nil_append, List.cons_append, Nat.zero_add, Nat.add_zero, Nat.mul_one, List.set_cons_zero, List.set_cons_succ, Int.toNat_natCast, List.drop_zero, List.drop_nil, List.drop_succ_cons, List.getElem?_drop, List.append_nil, List.length_set, decide_true, Bool.and_self, Bool.true_and, List.take_succ_cons, List.take_zero, Nat.reduceLT, Nat.reduceEqDiff, Nat.reduceAdd, Nat.reduceSub, gm_0, tabC_hit, tabC_miss, spC_some, m_stO, go_int, go_bool, go_str, go_ref, go_bref, go_iface, go_nilp, go_nili, go_nils, low_int, low_bool, low_str, low_ref, low_bref, low_iface', low_nilp', low_nili', low_nils, get4, get5, get6, get7, get8, get9, get10, wr_u64, g_stOA, g_boxO, low1_iface, low1_nilf, low1_nilm, low1_emp, low1_map, snap1_ref0, snap2_ref0, snap_ref0, snap1_if0, snap2_if0, snap_if0, snap1_br0, snap2_br0, snap_br0, snap1_nilp', snap2_nilp', snap_nilp', snap1_nili', snap2_nili', snap_nili', snap_tupE, m_newDo, m_newKo, m_newOo, m_newSo, m_stOB, stOB_int, m_aldBS, m_take1, gA_T, r_invk, inv_if, inv_some, r_invkX, invX_if, invX_some, and_self, and_true, true_and, Bool.false_eq_true, mx_1, mx_max1, mx_max2, mx_min1, mx_min2, eqb_same, eqb_same2, if_pos, if_neg, getA, orN_some, orN_self, get_len, app_set, getS_self, orS_some, set_set', methR, *])

/-- ticketlinelaw32.TicketTries -/
def triesS : Sp := fun args O =>
  match args with
  | [.int .i64 most, .int .u8 calls, .int .u8 w] =>
    match newTriesS [.int .i64 most] O with
    | some (.tup [.nilp, .int .i64 e], Oa) =>
      if e = 2 then
        if most < 0 then
          match known32S [] Oa with
          | some (.bool b, Ob) => some (.bool b, Ob)
          | _ => none
        else if 64 < most then
          match known32S [] Oa with
          | some (.bool b, Ob) => some (.bool b, Ob)
          | _ => none
        else none
      else none
    | some (.tup [.ref 0 k 0, .int .i64 e], Oa) =>
      if e = 0 then
        if most < 0 then none
        else if 64 < most then none
        else if 80 < calls then
          match known32S [] Oa with
          | some (.bool b, Ob) => some (.bool b, Ob)
          | _ => none
        else if 0 ≤ calls ∧ 0 ≤ w ∧ w ≤ 255 then triesG most calls w calls.toNat 0 k Oa
        else none
      else none
    | _ => none
  | _ => none
theorem triesS_ok : SpOk Tryz.prog 8 triesS := by
  intro args O r O' h S
  unfold triesS at h
  repeat' (split at h)
  all_goals first | (cases h; done) | skip
  all_goals
    try simp only [acc, accZ, errA] at *
    first
      | (simp only [Option.some.injEq, Prod.mk.injEq] at h
         obtain ⟨rfl, rfl⟩ := h
         refine bodyA (tabC_cons newTriesS_ok (tabC_cons rAgainS_ok (tabC_cons tAgainS_ok (tabC_cons tCopyS_ok (tabC_cons tCountS_ok (tabC_cons tLeftS_ok (tabC_cons tSpentS_ok (tabC_cons known32S_ok (tabC_nil _))))))))) (n := 100000) F8_code ?_
         simp (disch := first | decide | omega | assumption) only [F8, RAs, RBs, RCs, RDs, REs, RFs, RGs, RHs, RIs, RJs, RKs, RLs, if_true, if_false, dec_T, dec_F, Bool.not_true, Bool.not_false, Option.map_some, ite_true, Bool.and_true, List.map_cons, List.map_nil, List.length_cons, List.length_nil, List.nil_append, List.cons_append, Nat.zero_add, Nat.add_zero, Nat.mul_one, List.set_cons_zero, List.set_cons_succ, Int.toNat_natCast, List.drop_zero, List.drop_nil, List.drop_succ_cons, List.getElem?_drop, List.append_nil, List.length_set, decide_true, Bool.and_self, Bool.true_and, List.take_succ_cons, List.take_zero, Nat.reduceLT, Nat.reduceEqDiff, Nat.reduceAdd, Nat.reduceSub, gm_0, tabC_hit, tabC_miss, spC_some, m_stO, go_int, go_bool, go_str, go_ref, go_bref, go_iface, go_nilp, go_nili, go_nils, low_int, low_bool, low_str, low_ref, low_bref, low_iface', low_nilp', low_nili', low_nils, get4, get5, get6, get7, get8, get9, get10, wr_u64, g_stOA, g_boxO, low1_iface, low1_nilf, low1_nilm, low1_emp, low1_map, snap1_ref0, snap2_ref0, snap_ref0, snap1_if0, snap2_if0, snap_if0, snap1_br0, snap2_br0, snap_br0, snap1_nilp', snap2_nilp', snap_nilp', snap1_nili', snap2_nili', snap_nili', snap_tupE, m_newDo, m_newKo, m_newOo, m_newSo, m_stOB, stOB_int, m_aldBS, m_take1, gA_T, r_invk, inv_if, inv_some, r_invkX, invX_if, invX_some, and_self, and_true, true_and, Bool.false_eq_true, mx_1, mx_max1, mx_max2, mx_min1, mx_min2, eqb_same, eqb_same2, if_pos, if_neg, getA, orN_some, orN_self, get_len, app_set, getS_self, orS_some, set_set', methR, acc, accZ, errA, *])
      | (refine bodyA (tabC_cons newTriesS_ok (tabC_cons rAgainS_ok (tabC_cons tAgainS_ok (tabC_cons tCopyS_ok (tabC_cons tCountS_ok (tabC_cons tLeftS_ok (tabC_cons tSpentS_ok (tabC_cons known32S_ok (tabC_nil _))))))))) (n := 100000) F8_code ?_
         simp (disch := first | decide | omega | assumption) only [F8, RAs, RBs, RCs, RDs, REs, RFs, RGs, RHs, RIs, RJs, RKs, RLs, if_true, if_false, dec_T, dec_F, Bool.not_true, Bool.not_false, Option.map_some, ite_true, Bool.and_true, List.map_cons, List.map_nil, List.length_cons, List.length_nil, List.nil_append, List.cons_append, Nat.zero_add, Nat.add_zero, Nat.mul_one, List.set_cons_zero, List.set_cons_succ, Int.toNat_natCast, List.drop_zero, List.drop_nil, List.drop_succ_cons, List.getElem?_drop, List.append_nil, List.length_set, decide_true, Bool.and_self, Bool.true_and, List.take_succ_cons, List.take_zero, Nat.reduceLT, Nat.reduceEqDiff, Nat.reduceAdd, Nat.reduceSub, gm_0, tabC_hit, tabC_miss, spC_some, m_stO, go_int, go_bool, go_str, go_ref, go_bref, go_iface, go_nilp, go_nili, go_nils, low_int, low_bool, low_str, low_ref, low_bref, low_iface', low_nilp', low_nili', low_nils, get4, get5, get6, get7, get8, get9, get10, wr_u64, g_stOA, g_boxO, low1_iface, low1_nilf, low1_nilm, low1_emp, low1_map, snap1_ref0, snap2_ref0, snap_ref0, snap1_if0, snap2_if0, snap_if0, snap1_br0, snap2_br0, snap_br0, snap1_nilp', snap2_nilp', snap_nilp', snap1_nili', snap2_nili', snap_nili', snap_tupE, m_newDo, m_newKo, m_newOo, m_newSo, m_stOB, stOB_int, m_aldBS, m_take1, gA_T, r_invk, inv_if, inv_some, r_invkX, invX_if, invX_some, and_self, and_true, true_and, Bool.false_eq_true, mx_1, mx_max1, mx_max2, mx_min1, mx_min2, eqb_same, eqb_same2, if_pos, if_neg, getA, orN_some, orN_self, get_len, app_set, getS_self, orS_some, set_set', methR, e_loop, acc, accZ, errA, *]
         refine (fin_skip _ _ _ _ _).trans ?_
         refine triesG_loop _ _ _ (by omega) (by omega) (by omega) (by omega) (by omega) _ _ _ _ _ _ _ _ h (by omega) ?_ ?_ ?_ ?_ ?_
         all_goals simp (disch := first | decide | omega | assumption) only [RAs, RBs, RCs, RDs, REs, RFs, RGs, RHs, RIs, RJs, RKs, RLs, if_true, if_false, dec_T, dec_F, Bool.not_true, Bool.not_false, Option.map_some, ite_true, Bool.and_true, List.map_cons, List.map_nil, List.length_cons, List.length_nil, List.nil_append, List.cons_append, Nat.zero_add, Nat.add_zero, Nat.mul_one, List.set_cons_zero, List.set_cons_succ, Int.toNat_natCast, List.drop_zero, List.drop_nil, List.drop_succ_cons, List.getElem?_drop, List.append_nil, List.length_set, decide_true, Bool.and_self, Bool.true_and, List.take_succ_cons, List.take_zero, Nat.reduceLT, Nat.reduceEqDiff, Nat.reduceAdd, Nat.reduceSub, gm_0, tabC_hit, tabC_miss, spC_some, m_stO, go_int, go_bool, go_str, go_ref, go_bref, go_iface, go_nilp, go_nili, go_nils, low_int, low_bool, low_str, low_ref, low_bref, low_iface', low_nilp', low_nili', low_nils, get4, get5, get6, get7, get8, get9, get10, wr_u64, g_stOA, g_boxO, low1_iface, low1_nilf, low1_nilm, low1_emp, low1_map, snap1_ref0, snap2_ref0, snap_ref0, snap1_if0, snap2_if0, snap_if0, snap1_br0, snap2_br0, snap_br0, snap1_nilp', snap2_nilp', snap_nilp', snap1_nili', snap2_nili', snap_nili', snap_tupE, m_newDo, m_newKo, m_newOo, m_newSo, m_stOB, stOB_int, m_aldBS, m_take1, gA_T, r_invk, inv_if, inv_some, r_invkX, invX_if, invX_some, and_self, and_true, true_and, Bool.false_eq_true, mx_1, mx_max1, mx_max2, mx_min1, mx_min2, eqb_same, eqb_same2, if_pos, if_neg, getA, orN_some, orN_self, get_len, app_set, getS_self, orS_some, set_set', methR, *])

end Den

/- TicketTries: the answer is yes. -/
set_option maxRecDepth 100000
set_option linter.unusedSimpArgs false
set_option linter.unusedVariables false
namespace Den
open Go Go.Proofs

def Cnt (O : Mo) (k : Nat) (most i : Int) : Prop := O[k]? = some (.arr [.int .i64 most, .int .i64 (min i most)])
theorem get_setS {O : Mo} {k : Nat} {b c : ABlk} (h : O[k]? = some b) : (O.set k c)[k]? = some c := by
  obtain ⟨hk, _⟩ := List.getElem?_eq_some_iff.1 h
  rw [List.getElem?_set_self hk]
theorem triesE_ok {most : Int} {O : Mo} {k : Nat} {i : Int} (hm : most ≤ 64) (h0 : 0 ≤ most) (hi : 0 ≤ i) (h : Cnt O k most i) : triesE most k O = some (.bool true, O) := by
  have a1 : 0 ≤ min i most ∧ min i most ≤ most ∧ most ≤ 64 := by omega
  have a2 : 0 ≤ min i most ∧ min i most ≤ 64 ∧ 0 ≤ most - min i most ∧ most - min i most ≤ 64 := by omega
  have a3 : min i most + (most - min i most) = most := by omega
  unfold Cnt at h
  simp only [triesE, tCountS, tLeftS, known32S, h, if_pos a1, if_pos a2, if_pos a3]
theorem triesB_ok {most : Int} {O : Mo} {k : Nat} {i : Int} (hm : most ≤ 64) (h0 : 0 ≤ most) (hi : 0 ≤ i) (h : Cnt O k most i) :
    ∃ O2, Cnt O2 k most (i + 1) ∧ ∀ K, triesB most i k K O = K O2 := by
  unfold Cnt at h
  have a1 : 0 ≤ min i most ∧ min i most ≤ most ∧ most ≤ 64 := by omega
  by_cases hc : most < i + 1
  · have b1 : min i most = most := by omega
    have b2 : min (i + 1) most = most := by omega
    rw [b1] at h a1
    refine ⟨O, by unfold Cnt; rw [b2]; exact h, fun K => ?_⟩
    simp only [triesB, rAgainS, tAgainS, tCountS, tLeftS, tSpentS, h, if_pos hc, if_pos a1, Int.sub_self, if_true]
    rw [if_pos]
    simp
    omega
  · have b1 : min i most = i := by omega
    have b2 : min (i + 1) most = i + 1 := by omega
    rw [b1] at h a1
    have h2 := get_setS (c := .arr [.int .i64 most, .int .i64 (i + 1)]) h
    refine ⟨O.set k (.arr [.int .i64 most, .int .i64 (i + 1)]), by unfold Cnt; rw [b2]; exact h2, fun K => ?_⟩
    have a2 : 0 ≤ i + 1 ∧ i + 1 ≤ most ∧ most ≤ 64 := by omega
    have a3 : ¬ most - i = 0 := by omega
    have a4 : 0 < i + 1 := by omega
    by_cases a5 : most - (i + 1) = 0
    · have a6 : i + 1 = most := by omega
      have a7 : 0 ≤ i + 1 ∧ i + 1 ≤ most := by omega
      simp only [triesB, rAgainS, tAgainS, tCountS, tLeftS, tSpentS, h, h2, if_neg hc, if_pos a1, if_neg a3, if_pos a4, if_pos a2, if_pos a5]
      rw [if_pos]
      simp [a6, h0]
    · have a6 : ¬ i + 1 = most := by omega
      have a7 : 0 ≤ i + 1 ∧ i + 1 ≤ most := by omega
      simp only [triesB, rAgainS, tAgainS, tCountS, tLeftS, tSpentS, h, h2, if_neg hc, if_pos a1, if_neg a3, if_pos a4, if_pos a2, if_neg a5]
      rw [if_pos]
      simp [a6, a7]
theorem triesG_true {most calls w : Int} (hm : most ≤ 64) (h0 : 0 ≤ most) : ∀ (n : Nat) (i : Int) (k : Nat) (O : Mo), 0 ≤ i → calls ≤ i + n → Cnt O k most i → ∃ O', triesG most calls w n i k O = some (.bool true, O') := by
  intro n
  induction n with
  | zero =>
    intro i k O hi hn h
    have : ¬ i < calls := by omega
    exact ⟨_, by rw [triesG, if_neg this]; exact triesE_ok hm h0 hi h⟩
  | succ n ih =>
    intro i k O hi hn h
    rw [triesG]
    by_cases h1 : i < calls
    · rw [if_pos h1, if_pos hi]
      by_cases h2 : w = i
      · rw [if_pos h2]
        have h' := h
        unfold Cnt at h'
        have a1 : 0 ≤ min i most ∧ min i most ≤ most ∧ most ≤ 64 := by omega
        obtain ⟨hk, _⟩ := List.getElem?_eq_some_iff.1 h'
        have g1 : (O ++ [ABlk.arr [.int .i64 most, .int .i64 (min i most)]])[k]? = some (.arr [.int .i64 most, .int .i64 (min i most)]) := by
          rw [List.getElem?_append_left hk]; exact h'
        have g2 : (O ++ [ABlk.arr [.int .i64 most, .int .i64 (min i most)]])[O.length]? = some (.arr [.int .i64 most, .int .i64 (min i most)]) := by simp
        simp only [tCopyS, h', tAgainS, g1, if_pos a1]
        by_cases h3 : most - min i most = 0
        · simp only [if_pos h3]
          obtain ⟨O2, c2, e2⟩ := triesB_ok (k := O.length) hm h0 hi g2
          rw [e2]
          exact ih (i + 1) O.length O2 (by omega) (by omega) c2
        · simp only [if_neg h3]
          have hne : k ≠ O.length := by omega
          obtain ⟨O2, c2, e2⟩ := triesB_ok (k := O.length) (O := (O ++ [ABlk.arr [.int .i64 most, .int .i64 (min i most)]]).set k (.arr [.int .i64 most, .int .i64 (min i most + 1)])) hm h0 hi (by
            unfold Cnt; rw [List.getElem?_set_ne hne]; exact g2)
          rw [e2]
          exact ih (i + 1) O.length O2 (by omega) (by omega) c2
      · rw [if_neg h2]
        obtain ⟨O2, c2, e2⟩ := triesB_ok hm h0 hi h
        rw [e2]
        exact ih (i + 1) k O2 (by omega) (by omega) c2
    · rw [if_neg h1]; exact ⟨_, triesE_ok hm h0 hi h⟩
theorem triesS_true (most calls w : Int) (h1 : 0 ≤ calls) (h3 : 0 ≤ w) (h4 : w ≤ 255) : ∃ O', triesS [.int .i64 most, .int .u8 calls, .int .u8 w] [] = some (.bool true, O') := by
  by_cases a : most < 0
  · exact ⟨[], by simp [triesS, newTriesS, a, known32S]⟩
  by_cases b : 64 < most
  · exact ⟨[], by simp [triesS, newTriesS, a, b, known32S]⟩
  by_cases c : 80 < calls
  · exact ⟨[.arr [.int .i64 most, .int .i64 0]], by simp [triesS, newTriesS, a, b, c, known32S]⟩
  obtain ⟨O', h⟩ := triesG_true (calls := calls) (w := w) (most := most) (by omega) (by omega) calls.toNat 0 0 [.arr [.int .i64 most, .int .i64 0]] (by omega) (by omega) (by
    unfold Cnt; have : min 0 most = 0 := by omega
    rw [this]; rfl)
  have d : 0 ≤ calls ∧ 0 ≤ w ∧ w ≤ 255 := ⟨h1, h3, h4⟩
  refine ⟨O', ?_⟩
  simp only [triesS, newTriesS, if_neg a, if_neg b, if_neg c, if_pos d, if_true, List.length_nil, List.nil_append]
  exact h
end Den

/- TicketHolds: the answer is yes. -/
set_option maxRecDepth 100000
set_option linter.unusedSimpArgs false
set_option linter.unusedVariables false
namespace Den
open Go Go.Proofs

theorem again_ok {most : Int} {O : Mo} {k : Nat} {c : Int} (hm : most ≤ 64) (h0 : 0 ≤ c) (hc : c ≤ most) (h : O[k]? = some (.arr [.int .i64 most, .int .i64 c])) :
    (c < most ∧ ∃ O2, tAgainS [.ref 0 k 0] O = some (.bool true, O2) ∧ O2[k]? = some (.arr [.int .i64 most, .int .i64 (c + 1)])) ∨ (c = most ∧ tAgainS [.ref 0 k 0] O = some (.bool false, O) ∧ tSpentS [.ref 0 k 0] O = some (.bool true, O)) := by
  have a1 : 0 ≤ c ∧ c ≤ most ∧ most ≤ 64 := ⟨h0, hc, hm⟩
  by_cases hq : c = most
  · right
    have a2 : most - c = 0 := by omega
    exact ⟨hq, by simp only [tAgainS, h, if_pos a1, if_pos a2], by simp only [tSpentS, h, if_pos a1, if_pos a2]⟩
  · left
    have a2 : ¬ most - c = 0 := by omega
    exact ⟨by omega, _, by simp only [tAgainS, h, if_pos a1, if_neg a2], get_setS h⟩
theorem holdsE_true {kt : Nat} {w : Int} {O : Mo} (hs : tSpentS [.ref 0 kt 0] O = some (.bool true, O)) : holdsE kt w (w % 65) O = some (.bool true, O) := by
  simp only [holdsE, if_true, hs, known32S]
theorem holdsG_true {kt : Nat} {w : Int} (hw : 0 ≤ w) : ∀ (n : Nat) (i c : Int) (O : Mo), i = c → 0 ≤ c → c ≤ w % 65 → w % 65 < i + n → O[kt]? = some (.arr [.int .i64 (w % 65), .int .i64 c]) → ∃ O', holdsG kt w n i c O = some (.bool true, O') := by
  intro n
  induction n with
  | zero =>
    intro i c O hi h0 hc hn h
    omega
  | succ n ih =>
    intro i c O hi h0 hc hn h
    have b1 : w % 65 ≤ 64 := by omega
    have b2 : i < 100 := by omega
    have b3 : 0 ≤ i ∧ 0 ≤ c ∧ c ≤ 1000 := by omega
    rw [holdsG, if_pos b2, if_pos b3]
    rcases again_ok b1 h0 hc h with ⟨h1, O2, e2, g2⟩ | ⟨h1, e2, e3⟩
    · rw [e2]
      exact ih (i + 1) (c + 1) O2 (by omega) (by omega) (by omega) (by omega) g2
    · rw [e2]
      subst h1
      exact ⟨_, holdsE_true e3⟩
theorem tholdsS_true (x y z w : Int) (hx : 0 ≤ x ∧ x ≤ 255) (hy : 0 ≤ y ∧ y ≤ 255) (hz : 0 ≤ z ∧ z ≤ 255) (hw : 0 ≤ w ∧ w ≤ 255) :
    ∃ O', tholdsS [.int .u8 x, .int .u8 y, .int .u8 z, .int .u8 w] [] = some (.bool true, O') := by
  have hc := chk_all (x % 4).toNat (y % 4).toNat (z % 12).toNat (by omega) (by omega) (by omega)
  have e1 : ((x % 4).toNat : Int) = x % 4 := by omega
  have e2 : ((y % 4).toNat : Int) = y % 4 := by omega
  have e3 : ((z % 12).toNat : Int) = z % 12 := by omega
  unfold chkA at hc
  rw [e1, e2, e3] at hc
  obtain ⟨Oi, h⟩ := Option.isSome_iff_exists.1 hc
  have hr : 0 ≤ x ∧ x ≤ 255 ∧ 0 ≤ y ∧ y ≤ 255 ∧ 0 ≤ z ∧ z ≤ 255 ∧ 0 ≤ w ∧ w ≤ 255 := by omega
  have hnew : made32S [.int .i64 (w % 65)] Oi = some (.ref 0 Oi.length 0, Oi ++ [.arr [.int .i64 (w % 65), .int .i64 0]]) := by
    have c1 : ¬ w % 65 < 0 := by omega
    have c2 : ¬ 64 < w % 65 := by omega
    simp only [made32S, newTriesS, if_neg c1, if_neg c2, if_true]
  obtain ⟨O', hg⟩ := holdsG_true (kt := Oi.length) (w := w) hw.1 100 0 0 (Oi ++ [.arr [.int .i64 (w % 65), .int .i64 0]]) rfl (by omega) (by omega) (by omega) (by simp)
  refine ⟨O', ?_⟩
  unfold hPre at h
  repeat' (split at h)
  all_goals first | (cases h; done) | skip
  simp only [Option.some.injEq] at h
  subst h
  simp only [tholdsS, fO_eq, if_true, and_self, *]
end Den
