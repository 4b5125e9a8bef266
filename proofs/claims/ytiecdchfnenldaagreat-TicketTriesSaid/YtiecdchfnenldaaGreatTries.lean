/- TicketTries: what it computes. -/
import Derived.Test.YtiecdchfnenldaaGreatKnown
import Derived.Test.YtiecdchfnenldaaGreatCodeW
set_option maxRecDepth 100000
set_option maxHeartbeats 1000000
set_option linter.unusedSimpArgs false
set_option linter.unusedVariables false
namespace Den
open Go Go.Proofs

/-- ticketlinelaw32.TicketTries: the loop 0 -/
def triesE (most : Int) (k : Nat) (O : Mo) : Option (AV × Mo) :=
  (match tCountS [.ref 0 k 0] O with
  | some (.int .i64 c, O1) => (
  (match tLeftS [.ref 0 k 0] O1 with
  | some (.int .i64 lf, O2) => (
  if 0 ≤ c ∧ c ≤ 64 ∧ 0 ≤ lf ∧ lf ≤ 64 then
    if c + lf = most then
      (match known32S [] O2 with
      | some (.bool b, O3) => (
      some (.bool b, O3))
      | _ => none)
    else none
  else none)
  | _ => none))
  | _ => none)
def triesB (most : Int) (i : Int) (k : Nat) (K : Mo → Option (AV × Mo)) (O : Mo) : Option (AV × Mo) :=
  match rAgainS [.int .i64 most, .int .i64 (i + 1)] O with
  | some (.tup [.int .i64 nn, .bool is], Oa) =>
    match tAgainS [.ref 0 k 0] Oa with
    | some (.bool a, Ob) =>
      match tCountS [.ref 0 k 0] Ob with
      | some (.int .i64 c, Oc) =>
        match tLeftS [.ref 0 k 0] Oc with
        | some (.int .i64 lf, Od) =>
          match tSpentS [.ref 0 k 0] Od with
          | some (.bool sp, Oe) => if 0 ≤ nn ∧ nn ≤ most ∧ a = is ∧ c = nn ∧ lf = most - nn ∧ sp = decide (nn = most) then K Oe else none
          | _ => none
        | _ => none
      | _ => none
    | _ => none
  | _ => none
def triesG (most calls w : Int) : Nat → Int → Nat → Mo → Option (AV × Mo)
  | 0, i, k, O => if i < calls then none else triesE most k O
  | n + 1, i, k, O =>
    if i < calls then
      if 0 ≤ i then
        if w = i then
          match tCopyS [.ref 0 k 0] O with
          | some (.ref 0 kc 0, Oa) =>
            match tAgainS [.ref 0 k 0] Oa with
            | some (.bool _, Ob) =>
              triesB most i kc (fun Oc => triesG most calls w n (i + 1) kc Oc) Ob
            | _ => none
          | _ => none
        else
          triesB most i k (fun Oc => triesG most calls w n (i + 1) k Oc) O
      else none
    else triesE most k O
theorem triesG_loop {S : Ms} (most calls w : Int) (h0 : most ≤ 64) (h1 : 0 ≤ calls) (h2 : calls ≤ 255) (h3 : 0 ≤ w) (h4 : w ≤ 255) : ∀ (n : Nat) (i : Int) (k : Nat) (O : Mo) (env : Env) (M : Nat) (r : AV) (O' : Mo) (h : triesG most calls w n i k O = some (r, O')) (hM : n < M) (e0 : env 0 = .int .i64 most) (e1 : env 1 = .int .u8 calls) (e2 : env 2 = .int .u8 w) (e3 : env 7 = .ref 0 k 0) (e4 : env 9 = .int .i64 i),
    W8x0 cfgA (tabC [(40, newTriesS), (44, rAgainS), (43, tAgainS), (42, tCopyS), (45, tCountS), (46, tLeftS), (47, tSpentS), (41, known32S)]) 100000 (loopN (exec cfgA (tabC [(40, newTriesS), (44, rAgainS), (43, tAgainS), (42, tCopyS), (45, tCountS), (46, tLeftS), (47, tSpentS), (41, known32S)]) 100000 B8x0) [] M ⟨leOf 112 env, O, S ++ [[]]⟩) = some (r, O', S) := by
  intro n
  induction n with
  | zero =>
    intro i k O env M r O' h hM e0 e1 e2 e3 e4
    obtain ⟨M, rfl⟩ : ∃ M', M = M' + 1 := ⟨M - 1, by omega⟩
    unfold triesG at h
    try unfold triesB at h
    try unfold triesE at h
    repeat' (split at h)
    all_goals first | (cases h; done) | skip
    all_goals
      try dsimp only at h
      try simp only [acc, accZ, errA] at *
      first
        | (simp (disch := first | decide | omega | assumption) only [loop_unf, loopK_N, loopK_E, loopK_R, RAs, RBs, RCs, RDs, REs, RFs, RGs, RHs, RIs, RJs, RKs, RLs, if_true, if_false, dec_T, dec_F, Bool.not_true, Bool.not_false, Option.map_some, ite_true, Bool.and_true, List.map_cons, List.map_nil, List.length_cons, List.length_nil, List.nil_append, List.cons_append, Nat.zero_add, Nat.add_zero, Nat.mul_one, List.set_cons_zero, List.set_cons_succ, Int.toNat_natCast, List.drop_zero, List.drop_nil, List.drop_succ_cons, List.getElem?_drop, List.append_nil, List.length_set, decide_true, Bool.and_self, Bool.true_and, List.take_succ_cons, List.take_zero, Nat.reduceLT, Nat.reduceEqDiff, Nat.reduceAdd, Nat.reduceSub, gm_0, tabC_hit, tabC_miss, spC_some, m_stO, go_int, go_bool, go_str, go_ref, go_bref, go_iface, go_nilp, go_nili, go_nils, low_int, low_bool, low_str, low_ref, low_bref, low_iface', low_nilp', low_nili', low_nils, get4, get5, get6, get7, get8, get9, get10, wr_u64, g_stOA, g_boxO, low1_iface, low1_nilf, low1_nilm, low1_emp, low1_map, snap1_ref0, snap2_ref0, snap_ref0, snap1_if0, snap2_if0, snap_if0, snap1_br0, snap2_br0, snap_br0, snap1_nilp', snap2_nilp', snap_nilp', snap1_nili', snap2_nili', snap_nili', snap_tupE, m_newDo, m_newKo, m_newOo, m_newSo, m_stOB, stOB_int, m_aldBS, m_take1, gA_T, r_invk, inv_if, inv_some, r_invkX, invX_if, invX_some, and_self, and_true, true_and, Bool.false_eq_true, mx_1, mx_max1, mx_max2, mx_min1, mx_min2, eqb_same, eqb_same2, if_pos, if_neg, getA, orN_some, orN_self, get_len, app_set, getS_self, orS_some, set_set', methR, *]
           refine noIh _ _ _ _ _ _ _ h (by omega) ?_ ?_ ?_ ?_ ?_
           all_goals simp (disch := first | decide | omega | assumption) only [RAs, RBs, RCs, RDs, REs, RFs, RGs, RHs, RIs, RJs, RKs, RLs, if_true, if_false, dec_T, dec_F, Bool.not_true, Bool.not_false, Option.map_some, ite_true, Bool.and_true, List.map_cons, List.map_nil, List.length_cons, List.length_nil, List.nil_append, List.cons_append, Nat.zero_add, Nat.add_zero, Nat.mul_one, List.set_cons_zero, List.set_cons_succ, Int.toNat_natCast, List.drop_zero, List.drop_nil, List.drop_succ_cons, List.getElem?_drop, List.append_nil, List.length_set, decide_true, Bool.and_self, Bool.true_and, List.take_succ_cons, List.take_zero, Nat.reduceLT, Nat.reduceEqDiff, Nat.reduceAdd, Nat.reduceSub, gm_0, tabC_hit, tabC_miss, spC_some, m_stO, go_int, go_bool, go_str, go_ref, go_bref, go_iface, go_nilp, go_nili, go_nils, low_int, low_bool, low_str, low_ref, low_bref, low_iface', low_nilp', low_nili', low_nils, get4, get5, get6, get7, get8, get9, get10, wr_u64, g_stOA, g_boxO, low1_iface, low1_nilf, low1_nilm, low1_emp, low1_map, snap1_ref0, snap2_ref0, snap_ref0, snap1_if0, snap2_if0, snap_if0, snap1_br0, snap2_br0, snap_br0, snap1_nilp', snap2_nilp', snap_nilp', snap1_nili', snap2_nili', snap_nili', snap_tupE, m_newDo, m_newKo, m_newOo, m_newSo, m_stOB, stOB_int, m_aldBS, m_take1, gA_T, r_invk, inv_if, inv_some, r_invkX, invX_if, invX_some, and_self, and_true, true_and, Bool.false_eq_true, mx_1, mx_max1, mx_max2, mx_min1, mx_min2, eqb_same, eqb_same2, if_pos, if_neg, getA, orN_some, orN_self, get_len, app_set, getS_self, orS_some, set_set', methR, *])
        | (simp only [Option.some.injEq, Prod.mk.injEq] at h
           obtain ⟨rfl, rfl⟩ := h
           simp (disch := first | decide | omega | assumption) only [W8x0, loop_unf, loopK_N, loopK_E, loopK_R, RAs, RBs, RCs, RDs, REs, RFs, RGs, RHs, RIs, RJs, RKs, RLs, if_true, if_false, dec_T, dec_F, Bool.not_true, Bool.not_false, Option.map_some, ite_true, Bool.and_true, List.map_cons, List.map_nil, List.length_cons, List.length_nil, List.nil_append, List.cons_append, Nat.zero_add, Nat.add_zero, Nat.mul_one, List.set_cons_zero, List.set_cons_succ, Int.toNat_natCast, List.drop_zero, List.drop_nil, List.drop_succ_cons, List.getElem?_drop, List.append_nil, List.length_set, decide_true, Bool.and_self, Bool.true_and, List.take_succ_cons, List.take_zero, Nat.reduceLT, Nat.reduceEqDiff, Nat.reduceAdd, Nat.reduceSub, gm_0, tabC_hit, tabC_miss, spC_some, m_stO, go_int, go_bool, go_str, go_ref, go_bref, go_iface, go_nilp, go_nili, go_nils, low_int, low_bool, low_str, low_ref, low_bref, low_iface', low_nilp', low_nili', low_nils, get4, get5, get6, get7, get8, get9, get10, wr_u64, g_stOA, g_boxO, low1_iface, low1_nilf, low1_nilm, low1_emp, low1_map, snap1_ref0, snap2_ref0, snap_ref0, snap1_if0, snap2_if0, snap_if0, snap1_br0, snap2_br0, snap_br0, snap1_nilp', snap2_nilp', snap_nilp', snap1_nili', snap2_nili', snap_nili', snap_tupE, m_newDo, m_newKo, m_newOo, m_newSo, m_stOB, stOB_int, m_aldBS, m_take1, gA_T, r_invk, inv_if, inv_some, r_invkX, invX_if, invX_some, and_self, and_true, true_and, Bool.false_eq_true, mx_1, mx_max1, mx_max2, mx_min1, mx_min2, eqb_same, eqb_same2, if_pos, if_neg, getA, orN_some, orN_self, get_len, app_set, getS_self, orS_some, set_set', methR, *])
  | succ n ih =>
    intro i k O env M r O' h hM e0 e1 e2 e3 e4
    obtain ⟨M, rfl⟩ : ∃ M', M = M' + 1 := ⟨M - 1, by omega⟩
    unfold triesG at h
    try unfold triesB at h
    try unfold triesE at h
    repeat' (split at h)
    all_goals first | (cases h; done) | skip
    all_goals
      try dsimp only at h
      try simp only [acc, accZ, errA] at *
      first
        | (simp (disch := first | decide | omega | assumption) only [loop_unf, loopK_N, loopK_E, loopK_R, RAs, RBs, RCs, RDs, REs, RFs, RGs, RHs, RIs, RJs, RKs, RLs, if_true, if_false, dec_T, dec_F, Bool.not_true, Bool.not_false, Option.map_some, ite_true, Bool.and_true, List.map_cons, List.map_nil, List.length_cons, List.length_nil, List.nil_append, List.cons_append, Nat.zero_add, Nat.add_zero, Nat.mul_one, List.set_cons_zero, List.set_cons_succ, Int.toNat_natCast, List.drop_zero, List.drop_nil, List.drop_succ_cons, List.getElem?_drop, List.append_nil, List.length_set, decide_true, Bool.and_self, Bool.true_and, List.take_succ_cons, List.take_zero, Nat.reduceLT, Nat.reduceEqDiff, Nat.reduceAdd, Nat.reduceSub, gm_0, tabC_hit, tabC_miss, spC_some, m_stO, go_int, go_bool, go_str, go_ref, go_bref, go_iface, go_nilp, go_nili, go_nils, low_int, low_bool, low_str, low_ref, low_bref, low_iface', low_nilp', low_nili', low_nils, get4, get5, get6, get7, get8, get9, get10, wr_u64, g_stOA, g_boxO, low1_iface, low1_nilf, low1_nilm, low1_emp, low1_map, snap1_ref0, snap2_ref0, snap_ref0, snap1_if0, snap2_if0, snap_if0, snap1_br0, snap2_br0, snap_br0, snap1_nilp', snap2_nilp', snap_nilp', snap1_nili', snap2_nili', snap_nili', snap_tupE, m_newDo, m_newKo, m_newOo, m_newSo, m_stOB, stOB_int, m_aldBS, m_take1, gA_T, r_invk, inv_if, inv_some, r_invkX, invX_if, invX_some, and_self, and_true, true_and, Bool.false_eq_true, mx_1, mx_max1, mx_max2, mx_min1, mx_min2, eqb_same, eqb_same2, if_pos, if_neg, getA, orN_some, orN_self, get_len, app_set, getS_self, orS_some, set_set', methR, *]
           refine ih _ _ _ _ _ _ _ h (by omega) ?_ ?_ ?_ ?_ ?_
           all_goals simp (disch := first | decide | omega | assumption) only [RAs, RBs, RCs, RDs, REs, RFs, RGs, RHs, RIs, RJs, RKs, RLs, if_true, if_false, dec_T, dec_F, Bool.not_true, Bool.not_false, Option.map_some, ite_true, Bool.and_true, List.map_cons, List.map_nil, List.length_cons, List.length_nil, List.nil_append, List.cons_append, Nat.zero_add, Nat.add_zero, Nat.mul_one, List.set_cons_zero, List.set_cons_succ, Int.toNat_natCast, List.drop_zero, List.drop_nil, List.drop_succ_cons, List.getElem?_drop, List.append_nil, List.length_set, decide_true, Bool.and_self, Bool.true_and, List.take_succ_cons, List.take_zero, Nat.reduceLT, Nat.reduceEqDiff, Nat.reduceAdd, Nat.reduceSub, gm_0, tabC_hit, tabC_miss, spC_some, m_stO, go_int, go_bool, go_str, go_ref, go_bref, go_iface, go_nilp, go_nili, go_nils, low_int, low_bool, low_str, low_ref, low_bref, low_iface', low_nilp', low_nili', low_nils, get4, get5, get6, get7, get8, get9, get10, wr_u64, g_stOA, g_boxO, low1_iface, low1_nilf, low1_nilm, low1_emp, low1_map, snap1_ref0, snap2_ref0, snap_ref0, snap1_if0, snap2_if0, snap_if0, snap1_br0, snap2_br0, snap_br0, snap1_nilp', snap2_nilp', snap_nilp', snap1_nili', snap2_nili', snap_nili', snap_tupE, m_newDo, m_newKo, m_newOo, m_newSo, m_stOB, stOB_int, m_aldBS, m_take1, gA_T, r_invk, inv_if, inv_some, r_invkX, invX_if, invX_some, and_self, and_true, true_and, Bool.false_eq_true, mx_1, mx_max1, mx_max2, mx_min1, mx_min2, eqb_same, eqb_same2, if_pos, if_neg, getA, orN_some, orN_self, get_len, app_set, getS_self, orS_some, set_set', methR, *])
        | (simp only [Option.some.injEq, Prod.mk.injEq] at h
           obtain ⟨rfl, rfl⟩ := h
           simp (disch := first | decide | omega | assumption) only [W8x0, loop_unf, loopK_N, loopK_E, loopK_R, RAs, RBs, RCs, RDs, REs, RFs, RGs, RHs, RIs, RJs, RKs, RLs, if_true, if_false, dec_T, dec_F, Bool.not_true, Bool.not_false, Option.map_some, ite_true, Bool.and_true, List.map_cons, List.map_nil, List.length_cons, List.length_nil, List.nil_append, List.cons_append, Nat.zero_add, Nat.add_zero, Nat.mul_one, List.set_cons_zero, List.set_cons_succ, Int.toNat_natCast, List.drop_zero, List.drop_nil, List.drop_succ_cons, List.getElem?_drop, List.append_nil, List.length_set, decide_true, Bool.and_self, Bool.true_and, List.take_succ_cons, List.take_zero, Nat.reduceLT, Nat.reduceEqDiff, Nat.reduceAdd, Nat.reduceSub, gm_0, tabC_hit, tabC_miss, spC_some, m_stO, go_int, go_bool, go_str, go_ref, go_bref, go_iface, go_nilp, go_nili, go_nils, low_int, low_bool, low_str, low_ref, low_bref, low_iface', low_nilp', low_nili', low_nils, get4, get5, get6, get7, get8, get9, get10, wr_u64, g_stOA, g_boxO, low1_iface, low1_nilf, low1_nilm, low1_emp, low1_map, snap1_ref0, snap2_ref0, snap_ref0, snap1_if0, snap2_if0, snap_if0, snap1_br0, snap2_br0, snap_br0, snap1_nilp', snap2_nilp', snap_nilp', snap1_nili', snap2_nili', snap_nili', snap_tupE, m_newDo, m_newKo, m_newOo, m_newSo, m_stOB, stOB_int, m_aldBS, m_take1, gA_T, r_invk, inv_if, inv_some, r_invkX, invX_if, invX_some, and_self, and_true, true_and, Bool.false_eq_true, mx_1, mx_max1, mx_max2, mx_min1, mx_min2, eqb_same, eqb_same2, if_pos, if_neg, getA, orN_some, orN_self, get_len, app_set, getS_self, orS_some, set_set', methR, *])

/-- ticketlinelaw32.TicketTries -/
def triesS : Sp := fun args O =>
  match args with
  | [.int .i64 most, .int .u8 calls, .int .u8 w] =>
    match newTriesS [.int .i64 most] O with
    | some (.tup [.nilp, .int .i64 e], Oa) =>
      if e = 2 then
        if most < 0 then
          match known32S [] Oa with
          | some (.bool b, Ob) => some (.bool b, Ob)
          | _ => none
        else if 64 < most then
          match known32S [] Oa with
          | some (.bool b, Ob) => some (.bool b, Ob)
          | _ => none
        else none
      else none
    | some (.tup [.ref 0 k 0, .int .i64 e], Oa) =>
      if e = 0 then
        if most < 0 then none
        else if 64 < most then none
        else if 80 < calls then
          match known32S [] Oa with
          | some (.bool b, Ob) => some (.bool b, Ob)
          | _ => none
        else if 0 ≤ calls ∧ 0 ≤ w ∧ w ≤ 255 then triesG most calls w calls.toNat 0 k Oa
        else none
      else none
    | _ => none
  | _ => none
theorem triesS_ok : SpOk Tryz.prog 8 triesS := by
  intro args O r O' h S
  unfold triesS at h
  repeat' (split at h)
  all_goals first | (cases h; done) | skip
  all_goals
    try simp only [acc, accZ, errA] at *
    first
      | (simp only [Option.some.injEq, Prod.mk.injEq] at h
         obtain ⟨rfl, rfl⟩ := h
         refine bodyA (tabC_cons newTriesS_ok (tabC_cons rAgainS_ok (tabC_cons tAgainS_ok (tabC_cons tCopyS_ok (tabC_cons tCountS_ok (tabC_cons tLeftS_ok (tabC_cons tSpentS_ok (tabC_cons known32S_ok (tabC_nil _))))))))) (n := 100000) F8_code ?_
         simp (disch := first | decide | omega | assumption) only [F8, RAs, RBs, RCs, RDs, REs, RFs, RGs, RHs, RIs, RJs, RKs, RLs, if_true, if_false, dec_T, dec_F, Bool.not_true, Bool.not_false, Option.map_some, ite_true, Bool.and_true, List.map_cons, List.map_nil, List.length_cons, List.length_nil, List.nil_append, List.cons_append, Nat.zero_add, Nat.add_zero, Nat.mul_one, List.set_cons_zero, List.set_cons_succ, Int.toNat_natCast, List.drop_zero, List.drop_nil, List.drop_succ_cons, List.getElem?_drop, List.append_nil, List.length_set, decide_true, Bool.and_self, Bool.true_and, List.take_succ_cons, List.take_zero, Nat.reduceLT, Nat.reduceEqDiff, Nat.reduceAdd, Nat.reduceSub, gm_0, tabC_hit, tabC_miss, spC_some, m_stO, go_int, go_bool, go_str, go_ref, go_bref, go_iface, go_nilp, go_nili, go_nils, low_int, low_bool, low_str, low_ref, low_bref, low_iface', low_nilp', low_nili', low_nils, get4, get5, get6, get7, get8, get9, get10, wr_u64, g_stOA, g_boxO, low1_iface, low1_nilf, low1_nilm, low1_emp, low1_map, snap1_ref0, snap2_ref0, snap_ref0, snap1_if0, snap2_if0, snap_if0, snap1_br0, snap2_br0, snap_br0, snap1_nilp', snap2_nilp', snap_nilp', snap1_nili', snap2_nili', snap_nili', snap_tupE, m_newDo, m_newKo, m_newOo, m_newSo, m_stOB, stOB_int, m_aldBS, m_take1, gA_T, r_invk, inv_if, inv_some, r_invkX, invX_if, invX_some, and_self, and_true, true_and, Bool.false_eq_true, mx_1, mx_max1, mx_max2, mx_min1, mx_min2, eqb_same, eqb_same2, if_pos, if_neg, getA, orN_some, orN_self, get_len, app_set, getS_self, orS_some, set_set', methR, acc, accZ, errA, *])
      | (refine bodyA (tabC_cons newTriesS_ok (tabC_cons rAgainS_ok (tabC_cons tAgainS_ok (tabC_cons tCopyS_ok (tabC_cons tCountS_ok (tabC_cons tLeftS_ok (tabC_cons tSpentS_ok (tabC_cons known32S_ok (tabC_nil _))))))))) (n := 100000) F8_code ?_
         simp (disch := first | decide | omega | assumption) only [F8, RAs, RBs, RCs, RDs, REs, RFs, RGs, RHs, RIs, RJs, RKs, RLs, if_true, if_false, dec_T, dec_F, Bool.not_true, Bool.not_false, Option.map_some, ite_true, Bool.and_true, List.map_cons, List.map_nil, List.length_cons, List.length_nil, List.nil_append, List.cons_append, Nat.zero_add, Nat.add_zero, Nat.mul_one, List.set_cons_zero, List.set_cons_succ, Int.toNat_natCast, List.drop_zero, List.drop_nil, List.drop_succ_cons, List.getElem?_drop, List.append_nil, List.length_set, decide_true, Bool.and_self, Bool.true_and, List.take_succ_cons, List.take_zero, Nat.reduceLT, Nat.reduceEqDiff, Nat.reduceAdd, Nat.reduceSub, gm_0, tabC_hit, tabC_miss, spC_some, m_stO, go_int, go_bool, go_str, go_ref, go_bref, go_iface, go_nilp, go_nili, go_nils, low_int, low_bool, low_str, low_ref, low_bref, low_iface', low_nilp', low_nili', low_nils, get4, get5, get6, get7, get8, get9, get10, wr_u64, g_stOA, g_boxO, low1_iface, low1_nilf, low1_nilm, low1_emp, low1_map, snap1_ref0, snap2_ref0, snap_ref0, snap1_if0, snap2_if0, snap_if0, snap1_br0, snap2_br0, snap_br0, snap1_nilp', snap2_nilp', snap_nilp', snap1_nili', snap2_nili', snap_nili', snap_tupE, m_newDo, m_newKo, m_newOo, m_newSo, m_stOB, stOB_int, m_aldBS, m_take1, gA_T, r_invk, inv_if, inv_some, r_invkX, invX_if, invX_some, and_self, and_true, true_and, Bool.false_eq_true, mx_1, mx_max1, mx_max2, mx_min1, mx_min2, eqb_same, eqb_same2, if_pos, if_neg, getA, orN_some, orN_self, get_len, app_set, getS_self, orS_some, set_set', methR, e_loop, acc, accZ, errA, *]
         refine triesG_loop _ _ _ (by omega) (by omega) (by omega) (by omega) (by omega) _ _ _ _ _ _ _ _ h (by omega) ?_ ?_ ?_ ?_ ?_
         all_goals simp (disch := first | decide | omega | assumption) only [RAs, RBs, RCs, RDs, REs, RFs, RGs, RHs, RIs, RJs, RKs, RLs, if_true, if_false, dec_T, dec_F, Bool.not_true, Bool.not_false, Option.map_some, ite_true, Bool.and_true, List.map_cons, List.map_nil, List.length_cons, List.length_nil, List.nil_append, List.cons_append, Nat.zero_add, Nat.add_zero, Nat.mul_one, List.set_cons_zero, List.set_cons_succ, Int.toNat_natCast, List.drop_zero, List.drop_nil, List.drop_succ_cons, List.getElem?_drop, List.append_nil, List.length_set, decide_true, Bool.and_self, Bool.true_and, List.take_succ_cons, List.take_zero, Nat.reduceLT, Nat.reduceEqDiff, Nat.reduceAdd, Nat.reduceSub, gm_0, tabC_hit, tabC_miss, spC_some, m_stO, go_int, go_bool, go_str, go_ref, go_bref, go_iface, go_nilp, go_nili, go_nils, low_int, low_bool, low_str, low_ref, low_bref, low_iface', low_nilp', low_nili', low_nils, get4, get5, get6, get7, get8, get9, get10, wr_u64, g_stOA, g_boxO, low1_iface, low1_nilf, low1_nilm, low1_emp, low1_map, snap1_ref0, snap2_ref0, snap_ref0, snap1_if0, snap2_if0, snap_if0, snap1_br0, snap2_br0, snap_br0, snap1_nilp', snap2_nilp', snap_nilp', snap1_nili', snap2_nili', snap_nili', snap_tupE, m_newDo, m_newKo, m_newOo, m_newSo, m_stOB, stOB_int, m_aldBS, m_take1, gA_T, r_invk, inv_if, inv_some, r_invkX, invX_if, invX_some, and_self, and_true, true_and, Bool.false_eq_true, mx_1, mx_max1, mx_max2, mx_min1, mx_min2, eqb_same, eqb_same2, if_pos, if_neg, getA, orN_some, orN_self, get_len, app_set, getS_self, orS_some, set_set', methR, *])

end Den
