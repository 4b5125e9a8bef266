/- GateHolds: what it computes. -/
import Derived.Test.YtiecdchfnenldaaGreatErrS
import Derived.Test.YtiecdchfnenldaaGreatDenG8
import Derived.Test.YtiecdchfnenldaaGreatDenArgs
set_option maxRecDepth 100000
set_option maxHeartbeats 4000000
set_option linter.unusedSimpArgs false
set_option linter.unusedVariables false
namespace Den
open Go Go.Proofs

/-- ticketlinelaw31.GateHolds: the loop 2 -/
def hIn (kl km : Nat) (qv av : AV) (i last : Int) (K : Int → Int → Mo → Option (AV × Mo)) : Nat → Int → Mo → Option (AV × Mo)
  | 0, k, O => none
  | m + 1, k, O =>
    if i ≤ k then
      match rdR O av with
      | some l =>
        if 0 ≤ k ∧ k < (l.length : Int) ∧ k ≤ 1000 then
          match l[k.toNat]? with
          | some kp =>
            match run31S [.iface 42 (.ref 0 kp 0), .ref 0 km 0, .int .i64 20] O with
            | some (.tup [.bool true, .bool _], Oa) => if k - i = 0 then hIn kl km qv av i last K m (k - 1) Oa else none
            | some (.tup [.bool false, .bool _], Oa) => if k - i = 0 then none else hIn kl km qv av i last K m (k - 1) Oa
            | _ => none
          | _ => none
        else none
      | _ => none
    else
      match rdI O qv with
      | some l =>
        if i < (l.length : Int) then
          match l[i.toNat]? with
          | some q => K (i + 1) q O
          | _ => none
        else none
      | _ => none
theorem hIn_loop {S : Ms} (kl km : Nat) (qv av : AV) (i last : Int) (K :  Int →  Int → Mo → Option (AV × Mo)) (h0 : 0 ≤ i) (h1 : i ≤ 1000) (Mx : Nat) (hK : ∀ (i last : Int) (O : Mo) (env : Env) (r : AV) (O' : Mo), K i last O = some (r, O') → env 5 = .ref 0 kl 0 → env 6 = .ref 0 km 0 → env 12 = qv → env 14 = av → env 20 = .int .i64 last → env 21 = .int .i64 i → W6x3 cfgA (tabC [(13, known31S), (14, formatS), (17, run31S), (23, looksS), (20, enter31S), (16, leave31S)]) 100000 (loopN (exec cfgA (tabC [(13, known31S), (14, formatS), (17, run31S), (23, looksS), (20, enter31S), (16, leave31S)]) 100000 B6x3) [] Mx ⟨leOf 203 env, O, S ++ [[]]⟩) = some (r, O', S)) : ∀ (n : Nat) (k : Int) (O : Mo) (env : Env) (M : Nat) (r : AV) (O' : Mo) (h : hIn kl km qv av i last K n k O = some (r, O')) (hM : n < M) (e0 : env 5 = .ref 0 kl 0) (e1 : env 6 = .ref 0 km 0) (e2 : env 12 = qv) (e3 : env 14 = av) (e4 : env 20 = .int .i64 last) (e5 : env 21 = .int .i64 i) (e6 : env 25 = .int .i64 k),
    W6x3 cfgA (tabC [(13, known31S), (14, formatS), (17, run31S), (23, looksS), (20, enter31S), (16, leave31S)]) 100000 (loopK (exec cfgA (tabC [(13, known31S), (14, formatS), (17, run31S), (23, looksS), (20, enter31S), (16, leave31S)]) 100000 B6x3) Mx (seqC (cfg := cfgA) (call := tabC [(13, known31S), (14, formatS), (17, run31S), (23, looksS), (20, enter31S), (16, leave31S)]) 100000 (blockC 5 (seqC (cfg := cfgA) (call := tabC [(13, known31S), (14, formatS), (17, run31S), (23, looksS), (20, enter31S), (16, leave31S)]) 100000 (blockC 6 (loopN (exec cfgA (tabC [(13, known31S), (14, formatS), (17, run31S), (23, looksS), (20, enter31S), (16, leave31S)]) 100000 B6x2) [] M ⟨leOf 203 env, O, S ++ [[]]⟩)) (.ops 47 [⟨some 178, none, .mv (.t 12), []⟩,
 ⟨some 179, none, .mv (.t 21), []⟩,
 ⟨some 180, none, .ixa none 1 (.t 178) (.t 179), []⟩,
 ⟨some 181, none, .ld 1 false (.t 180), []⟩,
 ⟨some 20, none, .mv (.t 181), []⟩]))) (.ops 34 [⟨some 130, none, .mv (.t 21), []⟩,
 ⟨some 131, none, .bin .add (.t 130) (.c (.int .i64 1)), []⟩,
 ⟨some 21, none, .mv (.t 131), []⟩]))) = some (r, O', S) := by
  intro n
  induction n with
  | zero =>
    intro k O env M r O' h hM e0 e1 e2 e3 e4 e5 e6
    unfold hIn at h
    first | (cases h; done) | (dsimp only at h; cases h; done) | (split at h <;> first | (cases h; done) | (exfalso; omega))
  | succ n ih =>
    intro k O env M r O' h hM e0 e1 e2 e3 e4 e5 e6
    obtain ⟨M, rfl⟩ : ∃ M', M = M' + 1 := ⟨M - 1, by omega⟩
    unfold hIn at h
    repeat' (split at h)
    all_goals first | (cases h; done) | (dsimp only at h; cases h; done) | (exfalso; omega) | skip
    all_goals
      try dsimp only at h
      try simp only [acc, accZ, errA] at *
      first
        | (simp (disch := first | decide | omega | assumption | exact isS_of (by assumption) | exact ixok_of (by assumption) (by omega) | exact slOk_of (by assumption) | exact bufOk_of (by assumption) (by omega) | exact ixok_ofR (by assumption) (by omega) | exact slOk_ofR (by assumption) | exact lenOk_of (by assumption) (by omega) | fail) only [loop_unf, loopK_N, loopK_E, loopK_R, RAs, RBs, RCs, RDs, REs, RFs, RGs, RHs, RIs, RJs, RKs, RLs, RRt, Nat.reduceLT, Nat.reduceEqDiff, Nat.reduceAdd, Nat.reduceSub, RXa, RXb, RXc, methR, methE, methM, List.drop_zero, Nat.sub_zero, RSl, RSr, *]
           refine ih _ _ _ _ _ _ h (by omega) ?_ ?_ ?_ ?_ ?_ ?_ ?_
           all_goals simp (disch := first | decide | omega | assumption | exact isS_of (by assumption) | exact ixok_of (by assumption) (by omega) | exact slOk_of (by assumption) | exact bufOk_of (by assumption) (by omega) | exact ixok_ofR (by assumption) (by omega) | exact slOk_ofR (by assumption) | exact lenOk_of (by assumption) (by omega) | fail) only [RAs, RBs, RCs, RDs, REs, RFs, RGs, RHs, RIs, RJs, RKs, RLs, RRt, Nat.reduceLT, Nat.reduceEqDiff, Nat.reduceAdd, Nat.reduceSub, RXa, RXb, RXc, methR, methE, methM, List.drop_zero, Nat.sub_zero, RSl, RSr, *])
        | (simp (disch := first | decide | omega | assumption | exact isS_of (by assumption) | exact ixok_of (by assumption) (by omega) | exact slOk_of (by assumption) | exact bufOk_of (by assumption) (by omega) | exact ixok_ofR (by assumption) (by omega) | exact slOk_ofR (by assumption) | exact lenOk_of (by assumption) (by omega) | fail) only [loop_unf, loopK_N, loopK_E, loopK_R, RAs, RBs, RCs, RDs, REs, RFs, RGs, RHs, RIs, RJs, RKs, RLs, RRt, Nat.reduceLT, Nat.reduceEqDiff, Nat.reduceAdd, Nat.reduceSub, RXa, RXb, RXc, methR, methE, methM, List.drop_zero, Nat.sub_zero, RSl, RSr, *]
           refine hK _ _ _ _ _ _ h ?_ ?_ ?_ ?_ ?_ ?_
           all_goals simp (disch := first | decide | omega | assumption | exact isS_of (by assumption) | exact ixok_of (by assumption) (by omega) | exact slOk_of (by assumption) | exact bufOk_of (by assumption) (by omega) | exact ixok_ofR (by assumption) (by omega) | exact slOk_ofR (by assumption) | exact lenOk_of (by assumption) (by omega) | fail) only [RAs, RBs, RCs, RDs, REs, RFs, RGs, RHs, RIs, RJs, RKs, RLs, RRt, Nat.reduceLT, Nat.reduceEqDiff, Nat.reduceAdd, Nat.reduceSub, RXa, RXb, RXc, methR, methE, methM, List.drop_zero, Nat.sub_zero, RSl, RSr, *])
        | (simp only [Option.some.injEq, Prod.mk.injEq] at h
           obtain ⟨rfl, rfl⟩ := h
           simp (disch := first | decide | omega | assumption | exact isS_of (by assumption) | exact ixok_of (by assumption) (by omega) | exact slOk_of (by assumption) | exact bufOk_of (by assumption) (by omega) | exact ixok_ofR (by assumption) (by omega) | exact slOk_ofR (by assumption) | exact lenOk_of (by assumption) (by omega) | fail) only [W6x3, loop_unf, loopK_N, loopK_E, loopK_R, RAs, RBs, RCs, RDs, REs, RFs, RGs, RHs, RIs, RJs, RKs, RLs, RRt, Nat.reduceLT, Nat.reduceEqDiff, Nat.reduceAdd, Nat.reduceSub, RXa, RXb, RXc, methR, methE, methM, List.drop_zero, Nat.sub_zero, RSl, RSr, *])

attribute [local irreducible] hIn
/-- ticketlinelaw31.GateHolds: the loop 3 -/
def hOut (kl km : Nat) (qv av : AV) : Nat → Int → Int → Mo → Option (AV × Mo)
  | 0, i, last, O => none
  | m + 1, i, last, O =>
    match rdI O qv with
    | some l =>
      match lnS qv with
      | some ln =>
        if l.length = ln then
          if ln ≤ 1000 then
            if i < (l.length : Int) then
              if 0 ≤ i then
                match O[kl]? with
                | some (.arr [.int .i64 p, .int .i64 t]) =>
                  match leave31S [.agg [.int .i64 p, .int .i64 t], .int .i64 last] O with
                  | some (.ref 0 kp 0, Oa) =>
                    match Oa[kl]? with
                    | some (.arr [.int .i64 p2, .int .i64 t2]) =>
                      if slLn qv = true then
                        match looksS [.agg [.int .i64 p2, .int .i64 t2], .ref 0 km 0, .int .i64 1, slI qv i.toNat ln] Oa with
                        | some (.bool true, Ob) =>
                          match run31S [.iface 35 (.ref 0 kp 0), .ref 0 km 0, .int .i64 60] Ob with
                          | some (.tup [.bool true, .bool _], Oc) =>
                            match rdR Oc av with
                            | some la => if la.length ≤ 1000 then hIn kl km qv av i last (fun i last O => hOut kl km qv av m i last O) 1002 ((la.length : Int) - 1) Oc else none
                            | _ => none
                          | _ => none
                        | _ => none
                      else none
                    | _ => none
                  | _ => none
                | _ => none
              else none
            else
              match O[kl]? with
              | some (.arr [.int .i64 p, .int .i64 t]) =>
                match leave31S [.agg [.int .i64 p, .int .i64 t], .int .i64 last] O with
                | some (.ref 0 kp 0, Oa) =>
                  match run31S [.iface 35 (.ref 0 kp 0), .ref 0 km 0, .int .i64 60] Oa with
                  | some (.tup [.bool true, .bool _], Ob) =>
                    match Ob[kl]? with
                    | some (.arr [.int .i64 p2, .int .i64 t2]) =>
                      match looksS [.agg [.int .i64 p2, .int .i64 t2], .ref 0 km 0, .int .i64 0, .nils] Ob with
                      | some (.bool true, Oc) =>
                        match known31S [] Oc with
                        | some (.bool b, Od) => some (.bool b, Od)
                        | _ => none
                      | _ => none
                    | _ => none
                  | _ => none
                | _ => none
              | _ => none
          else none
        else none
      | _ => none
    | _ => none
theorem hOut_loop {S : Ms} (kl km : Nat) (qv av : AV)  : ∀ (n : Nat) (i last : Int) (O : Mo) (env : Env) (M : Nat) (r : AV) (O' : Mo) (h : hOut kl km qv av n i last O = some (r, O')) (hM : n < M) (e0 : env 5 = .ref 0 kl 0) (e1 : env 6 = .ref 0 km 0) (e2 : env 12 = qv) (e3 : env 14 = av) (e4 : env 20 = .int .i64 last) (e5 : env 21 = .int .i64 i),
    W6x3 cfgA (tabC [(13, known31S), (14, formatS), (17, run31S), (23, looksS), (20, enter31S), (16, leave31S)]) 100000 (loopN (exec cfgA (tabC [(13, known31S), (14, formatS), (17, run31S), (23, looksS), (20, enter31S), (16, leave31S)]) 100000 B6x3) [] M ⟨leOf 203 env, O, S ++ [[]]⟩) = some (r, O', S) := by
  intro n
  induction n with
  | zero =>
    intro i last O env M r O' h hM e0 e1 e2 e3 e4 e5
    unfold hOut at h
    first | (cases h; done) | (dsimp only at h; cases h; done) | (split at h <;> first | (cases h; done) | (exfalso; omega))
  | succ n ih =>
    intro i last O env M r O' h hM e0 e1 e2 e3 e4 e5
    obtain ⟨M, rfl⟩ : ∃ M', M = M' + 1 := ⟨M - 1, by omega⟩
    unfold hOut at h
    repeat' (split at h)
    all_goals first | (cases h; done) | (dsimp only at h; cases h; done) | (exfalso; omega) | skip
    all_goals
      try dsimp only at h
      try simp only [acc, accZ, errA] at *
      first
        | (simp (disch := first | decide | omega | assumption | exact isS_of (by assumption) | exact ixok_of (by assumption) (by omega) | exact slOk_of (by assumption) | exact bufOk_of (by assumption) (by omega) | exact ixok_ofR (by assumption) (by omega) | exact slOk_ofR (by assumption) | exact lenOk_of (by assumption) (by omega) | fail) only [loop_unf, loopK_N, loopK_E, loopK_R, RAs, RBs, RCs, RDs, REs, RFs, RGs, RHs, RIs, RJs, RKs, RLs, RRt, Nat.reduceLT, Nat.reduceEqDiff, Nat.reduceAdd, Nat.reduceSub, RXa, RXb, RXc, methR, methE, methM, List.drop_zero, Nat.sub_zero, RSl, RSr, *]
           refine ih _ _ _ _ _ _ _ h (by omega) ?_ ?_ ?_ ?_ ?_ ?_
           all_goals simp (disch := first | decide | omega | assumption | exact isS_of (by assumption) | exact ixok_of (by assumption) (by omega) | exact slOk_of (by assumption) | exact bufOk_of (by assumption) (by omega) | exact ixok_ofR (by assumption) (by omega) | exact slOk_ofR (by assumption) | exact lenOk_of (by assumption) (by omega) | fail) only [RAs, RBs, RCs, RDs, REs, RFs, RGs, RHs, RIs, RJs, RKs, RLs, RRt, Nat.reduceLT, Nat.reduceEqDiff, Nat.reduceAdd, Nat.reduceSub, RXa, RXb, RXc, methR, methE, methM, List.drop_zero, Nat.sub_zero, RSl, RSr, *])
        | (simp (disch := first | decide | omega | assumption | exact isS_of (by assumption) | exact ixok_of (by assumption) (by omega) | exact slOk_of (by assumption) | exact bufOk_of (by assumption) (by omega) | exact ixok_ofR (by assumption) (by omega) | exact slOk_ofR (by assumption) | exact lenOk_of (by assumption) (by omega) | fail) only [loop_unf, loopK_N, loopK_E, loopK_R, RAs, RBs, RCs, RDs, REs, RFs, RGs, RHs, RIs, RJs, RKs, RLs, RRt, Nat.reduceLT, Nat.reduceEqDiff, Nat.reduceAdd, Nat.reduceSub, RXa, RXb, RXc, methR, methE, methM, List.drop_zero, Nat.sub_zero, RSl, RSr, *]
           refine hIn_loop _ _ _ _ _ _ _ (by omega) (by omega) _ (fun x0 x1 O env r O' h y0 y1 y2 y3 y4 y5 => ih x0 x1 O env _ r O' h (by omega) y0 y1 y2 y3 y4 y5) _ _ _ _ _ _ _ h (by omega) ?_ ?_ ?_ ?_ ?_ ?_ ?_
           all_goals simp (disch := first | decide | omega | assumption | exact isS_of (by assumption) | exact ixok_of (by assumption) (by omega) | exact slOk_of (by assumption) | exact bufOk_of (by assumption) (by omega) | exact ixok_ofR (by assumption) (by omega) | exact slOk_ofR (by assumption) | exact lenOk_of (by assumption) (by omega) | fail) only [RAs, RBs, RCs, RDs, REs, RFs, RGs, RHs, RIs, RJs, RKs, RLs, RRt, Nat.reduceLT, Nat.reduceEqDiff, Nat.reduceAdd, Nat.reduceSub, RXa, RXb, RXc, methR, methE, methM, List.drop_zero, Nat.sub_zero, RSl, RSr, *])
        | (simp only [Option.some.injEq, Prod.mk.injEq] at h
           obtain ⟨rfl, rfl⟩ := h
           simp (disch := first | decide | omega | assumption | exact isS_of (by assumption) | exact ixok_of (by assumption) (by omega) | exact slOk_of (by assumption) | exact bufOk_of (by assumption) (by omega) | exact ixok_ofR (by assumption) (by omega) | exact slOk_ofR (by assumption) | exact lenOk_of (by assumption) (by omega) | fail) only [W6x3, loop_unf, loopK_N, loopK_E, loopK_R, RAs, RBs, RCs, RDs, REs, RFs, RGs, RHs, RIs, RJs, RKs, RLs, RRt, Nat.reduceLT, Nat.reduceEqDiff, Nat.reduceAdd, Nat.reduceSub, RXa, RXb, RXc, methR, methE, methM, List.drop_zero, Nat.sub_zero, RSl, RSr, *])

attribute [local irreducible] hOut
/-- ticketlinelaw31.GateHolds: the loop 1 -/
def hStep (km kp : Nat) (i : Int) (ln : Nat) (lv qv av : AV) (R : AV → AV → AV → Mo → Option (AV × Mo)) (O : Mo) : Option (AV × Mo) :=
  match rdI O lv with
  | some l2 =>
    if i < (l2.length : Int) then
      match l2[i.toNat]? with
      | some th2 =>
        match growI O qv [th2] with
        | some (qv2, Oc) =>
          match growR (Oc ++ [.buf 1 [.ref 0 kp 0]]) av kp with
          | some (av2, Od) =>
            if slLn lv = true then
              match rdI Od lv with
              | some l3 =>
                if l3.length = ln then
                  match growI Od .nils (l3.take i.toNat) with
                  | some (w1, Oe) =>
                    match rdI Oe lv with
                    | some l4 =>
                      if l4.length = ln then
                        match growI Oe w1 ((l4.drop (i + 1).toNat).take (ln - (i + 1).toNat)) with
                        | some (w2, Of) => R w2 qv2 av2 Of
                        | _ => none
                      else none
                    | _ => none
                  | _ => none
                else none
              | _ => none
            else none
          | _ => none
        | _ => none
      | _ => none
    else none
  | _ => none
def hMid (kl km : Nat) : Nat → Int → AV → AV → AV → Mo → Option (AV × Mo)
  | 0, nn, lv, qv, av, O => none
  | m + 1, nn, lv, qv, av, O =>
    match rdI O lv with
    | some l =>
      match lnS lv with
      | some ln =>
        if l.length = ln then
          if ln ≤ 1000 then
            if 0 < (ln : Int) then
              if 0 ≤ nn ∧ nn ≤ 100000 then
                if 0 ≤ nn % (ln : Int) ∧ nn % (ln : Int) < (ln : Int) then
                  match O[kl]? with
                  | some (.arr [.int .i64 p, .int .i64 t]) =>
                    match l[(nn % (ln : Int)).toNat]? with
                    | some th =>
                      match enter31S [.agg [.int .i64 p, .int .i64 t], .int .i64 th, .int .i64 1] O with
                      | some (.ref 0 kp 0, Oa) =>
                        match run31S [.iface 42 (.ref 0 kp 0), .ref 0 km 0, .int .i64 60] Oa with
                        | some (.tup [.bool false, .bool true], Ob) => hStep km kp (nn % (ln : Int)) ln lv qv av (fun w2 qv2 av2 Of => hMid kl km m (nn / 6) w2 qv2 av2 Of) Ob
                        | _ => none
                      | _ => none
                    | _ => none
                  | _ => none
                else none
              else none
            else hOut kl km qv av 50 0 0 O
          else none
        else none
      | _ => none
    | _ => none
theorem hMid_loop {S : Ms} (kl km : Nat)  : ∀ (n : Nat) (nn : Int) (lv qv av : AV) (O : Mo) (env : Env) (M : Nat) (r : AV) (O' : Mo) (h : hMid kl km n nn lv qv av O = some (r, O')) (hM : n < M) (e0 : env 5 = .ref 0 kl 0) (e1 : env 6 = .ref 0 km 0) (e2 : env 11 = lv) (e3 : env 12 = qv) (e4 : env 14 = av) (e5 : env 15 = .int .i64 nn),
    W6x1 cfgA (tabC [(13, known31S), (14, formatS), (17, run31S), (23, looksS), (20, enter31S), (16, leave31S)]) 100000 (loopN (exec cfgA (tabC [(13, known31S), (14, formatS), (17, run31S), (23, looksS), (20, enter31S), (16, leave31S)]) 100000 B6x1) [] M ⟨leOf 203 env, O, S ++ [[]]⟩) = some (r, O', S) := by
  intro n
  induction n with
  | zero =>
    intro nn lv qv av O env M r O' h hM e0 e1 e2 e3 e4 e5
    unfold hMid at h
    first | (cases h; done) | (dsimp only at h; cases h; done) | (split at h <;> first | (cases h; done) | (exfalso; omega))
  | succ n ih =>
    intro nn lv qv av O env M r O' h hM e0 e1 e2 e3 e4 e5
    obtain ⟨M, rfl⟩ : ∃ M', M = M' + 1 := ⟨M - 1, by omega⟩
    unfold hMid at h
    try unfold hStep at h
    repeat' (split at h)
    all_goals first | (cases h; done) | (dsimp only at h; cases h; done) | (exfalso; omega) | skip
    all_goals
      try dsimp only at h
      try simp only [acc, accZ, errA] at *
      first
        | (simp (disch := first | decide | omega | assumption | exact isS_of (by assumption) | exact ixok_of (by assumption) (by omega) | exact slOk_of (by assumption) | exact bufOk_of (by assumption) (by omega) | exact ixok_ofR (by assumption) (by omega) | exact slOk_ofR (by assumption) | exact lenOk_of (by assumption) (by omega) | fail) only [loop_unf, loopK_N, loopK_E, loopK_R, RAs, RBs, RCs, RDs, REs, RFs, RGs, RHs, RIs, RJs, RKs, RLs, RRt, Nat.reduceLT, Nat.reduceEqDiff, Nat.reduceAdd, Nat.reduceSub, RXa, RXb, RXc, methR, methE, methM, List.drop_zero, Nat.sub_zero, RSl, RSr, *]
           refine ih _ _ _ _ _ _ _ _ _ h (by omega) ?_ ?_ ?_ ?_ ?_ ?_
           all_goals simp (disch := first | decide | omega | assumption | exact isS_of (by assumption) | exact ixok_of (by assumption) (by omega) | exact slOk_of (by assumption) | exact bufOk_of (by assumption) (by omega) | exact ixok_ofR (by assumption) (by omega) | exact slOk_ofR (by assumption) | exact lenOk_of (by assumption) (by omega) | fail) only [RAs, RBs, RCs, RDs, REs, RFs, RGs, RHs, RIs, RJs, RKs, RLs, RRt, Nat.reduceLT, Nat.reduceEqDiff, Nat.reduceAdd, Nat.reduceSub, RXa, RXb, RXc, methR, methE, methM, List.drop_zero, Nat.sub_zero, RSl, RSr, *])
        | (simp (disch := first | decide | omega | assumption | exact isS_of (by assumption) | exact ixok_of (by assumption) (by omega) | exact slOk_of (by assumption) | exact bufOk_of (by assumption) (by omega) | exact ixok_ofR (by assumption) (by omega) | exact slOk_ofR (by assumption) | exact lenOk_of (by assumption) (by omega) | fail) only [loop_unf, loopK_N, loopK_E, loopK_R, RAs, RBs, RCs, RDs, REs, RFs, RGs, RHs, RIs, RJs, RKs, RLs, RRt, Nat.reduceLT, Nat.reduceEqDiff, Nat.reduceAdd, Nat.reduceSub, RXa, RXb, RXc, methR, methE, methM, List.drop_zero, Nat.sub_zero, RSl, RSr, *]
           simp (disch := first | decide | omega | assumption | exact isS_of (by assumption) | exact ixok_of (by assumption) (by omega) | exact slOk_of (by assumption) | exact bufOk_of (by assumption) (by omega) | exact ixok_ofR (by assumption) (by omega) | exact slOk_ofR (by assumption) | exact lenOk_of (by assumption) (by omega) | fail) only [W6x1, e_loop, RAs, RBs, RCs, RDs, REs, RFs, RGs, RHs, RIs, RJs, RKs, RLs, RRt, Nat.reduceLT, Nat.reduceEqDiff, Nat.reduceAdd, Nat.reduceSub, RXa, RXb, RXc, methR, methE, methM, List.drop_zero, Nat.sub_zero, RSl, RSr, *]
           refine hOut_loop _ _ _ _ _ _ _ _ _ _ _ _ h (by omega) ?_ ?_ ?_ ?_ ?_ ?_
           all_goals simp (disch := first | decide | omega | assumption | exact isS_of (by assumption) | exact ixok_of (by assumption) (by omega) | exact slOk_of (by assumption) | exact bufOk_of (by assumption) (by omega) | exact ixok_ofR (by assumption) (by omega) | exact slOk_ofR (by assumption) | exact lenOk_of (by assumption) (by omega) | fail) only [RAs, RBs, RCs, RDs, REs, RFs, RGs, RHs, RIs, RJs, RKs, RLs, RRt, Nat.reduceLT, Nat.reduceEqDiff, Nat.reduceAdd, Nat.reduceSub, RXa, RXb, RXc, methR, methE, methM, List.drop_zero, Nat.sub_zero, RSl, RSr, *])
        | (simp only [Option.some.injEq, Prod.mk.injEq] at h
           obtain ⟨rfl, rfl⟩ := h
           simp (disch := first | decide | omega | assumption | exact isS_of (by assumption) | exact ixok_of (by assumption) (by omega) | exact slOk_of (by assumption) | exact bufOk_of (by assumption) (by omega) | exact ixok_ofR (by assumption) (by omega) | exact slOk_ofR (by assumption) | exact lenOk_of (by assumption) (by omega) | fail) only [W6x1, loop_unf, loopK_N, loopK_E, loopK_R, RAs, RBs, RCs, RDs, REs, RFs, RGs, RHs, RIs, RJs, RKs, RLs, RRt, Nat.reduceLT, Nat.reduceEqDiff, Nat.reduceAdd, Nat.reduceSub, RXa, RXb, RXc, methR, methE, methM, List.drop_zero, Nat.sub_zero, RSl, RSr, *])

attribute [local irreducible] hMid
/-- ticketlinelaw31.GateHolds: the loop 0 -/
def hFst (kl km : Nat) (T nn : Int) : Nat → Int → AV → Mo → Option (AV × Mo)
  | 0, i, lv, O => none
  | m + 1, i, lv, O =>
    if i < T then
      if 0 ≤ i then
        match growI O lv [i] with
        | some (lv2, Oa) => hFst kl km T nn m (i + 1) lv2 Oa
        | _ => none
      else none
    else hMid kl km 50 nn lv .nils .nils O
theorem hFst_loop {S : Ms} (kl km : Nat) (T nn : Int) (h0 : 0 ≤ T) (h1 : T ≤ 255) (h2 : 0 ≤ nn) (h3 : nn ≤ 65535) : ∀ (n : Nat) (i : Int) (lv : AV) (O : Mo) (env : Env) (M : Nat) (r : AV) (O' : Mo) (h : hFst kl km T nn n i lv O = some (r, O')) (hM : n < M) (e0 : env 0 = .int .u8 T) (e1 : env 1 = .int .u16 nn) (e2 : env 5 = .ref 0 kl 0) (e3 : env 6 = .ref 0 km 0) (e4 : env 11 = lv) (e5 : env 12 = .nils) (e6 : env 13 = .int .i64 i),
    W6x0 cfgA (tabC [(13, known31S), (14, formatS), (17, run31S), (23, looksS), (20, enter31S), (16, leave31S)]) 100000 (loopN (exec cfgA (tabC [(13, known31S), (14, formatS), (17, run31S), (23, looksS), (20, enter31S), (16, leave31S)]) 100000 B6x0) [] M ⟨leOf 203 env, O, S ++ [[]]⟩) = some (r, O', S) := by
  intro n
  induction n with
  | zero =>
    intro i lv O env M r O' h hM e0 e1 e2 e3 e4 e5 e6
    unfold hFst at h
    first | (cases h; done) | (dsimp only at h; cases h; done) | (split at h <;> first | (cases h; done) | (exfalso; omega))
  | succ n ih =>
    intro i lv O env M r O' h hM e0 e1 e2 e3 e4 e5 e6
    obtain ⟨M, rfl⟩ : ∃ M', M = M' + 1 := ⟨M - 1, by omega⟩
    unfold hFst at h
    repeat' (split at h)
    all_goals first | (cases h; done) | (dsimp only at h; cases h; done) | (exfalso; omega) | skip
    all_goals
      try dsimp only at h
      try simp only [acc, accZ, errA] at *
      first
        | (simp (disch := first | decide | omega | assumption | exact isS_of (by assumption) | exact ixok_of (by assumption) (by omega) | exact slOk_of (by assumption) | exact bufOk_of (by assumption) (by omega) | exact ixok_ofR (by assumption) (by omega) | exact slOk_ofR (by assumption) | exact lenOk_of (by assumption) (by omega) | fail) only [loop_unf, loopK_N, loopK_E, loopK_R, RAs, RBs, RCs, RDs, REs, RFs, RGs, RHs, RIs, RJs, RKs, RLs, RRt, Nat.reduceLT, Nat.reduceEqDiff, Nat.reduceAdd, Nat.reduceSub, RXa, RXb, RXc, methR, methE, methM, List.drop_zero, Nat.sub_zero, RSl, RSr, *]
           refine ih _ _ _ _ _ _ _ h (by omega) ?_ ?_ ?_ ?_ ?_ ?_ ?_
           all_goals simp (disch := first | decide | omega | assumption | exact isS_of (by assumption) | exact ixok_of (by assumption) (by omega) | exact slOk_of (by assumption) | exact bufOk_of (by assumption) (by omega) | exact ixok_ofR (by assumption) (by omega) | exact slOk_ofR (by assumption) | exact lenOk_of (by assumption) (by omega) | fail) only [RAs, RBs, RCs, RDs, REs, RFs, RGs, RHs, RIs, RJs, RKs, RLs, RRt, Nat.reduceLT, Nat.reduceEqDiff, Nat.reduceAdd, Nat.reduceSub, RXa, RXb, RXc, methR, methE, methM, List.drop_zero, Nat.sub_zero, RSl, RSr, *])
        | (simp (disch := first | decide | omega | assumption | exact isS_of (by assumption) | exact ixok_of (by assumption) (by omega) | exact slOk_of (by assumption) | exact bufOk_of (by assumption) (by omega) | exact ixok_ofR (by assumption) (by omega) | exact slOk_ofR (by assumption) | exact lenOk_of (by assumption) (by omega) | fail) only [loop_unf, loopK_N, loopK_E, loopK_R, RAs, RBs, RCs, RDs, REs, RFs, RGs, RHs, RIs, RJs, RKs, RLs, RRt, Nat.reduceLT, Nat.reduceEqDiff, Nat.reduceAdd, Nat.reduceSub, RXa, RXb, RXc, methR, methE, methM, List.drop_zero, Nat.sub_zero, RSl, RSr, *]
           simp (disch := first | decide | omega | assumption | exact isS_of (by assumption) | exact ixok_of (by assumption) (by omega) | exact slOk_of (by assumption) | exact bufOk_of (by assumption) (by omega) | exact ixok_ofR (by assumption) (by omega) | exact slOk_ofR (by assumption) | exact lenOk_of (by assumption) (by omega) | fail) only [W6x0, e_loop, RAs, RBs, RCs, RDs, REs, RFs, RGs, RHs, RIs, RJs, RKs, RLs, RRt, Nat.reduceLT, Nat.reduceEqDiff, Nat.reduceAdd, Nat.reduceSub, RXa, RXb, RXc, methR, methE, methM, List.drop_zero, Nat.sub_zero, RSl, RSr, *]
           refine hMid_loop _ _ _ _ _ _ _ _ _ _ _ _ h (by omega) ?_ ?_ ?_ ?_ ?_ ?_
           all_goals simp (disch := first | decide | omega | assumption | exact isS_of (by assumption) | exact ixok_of (by assumption) (by omega) | exact slOk_of (by assumption) | exact bufOk_of (by assumption) (by omega) | exact ixok_ofR (by assumption) (by omega) | exact slOk_ofR (by assumption) | exact lenOk_of (by assumption) (by omega) | fail) only [RAs, RBs, RCs, RDs, REs, RFs, RGs, RHs, RIs, RJs, RKs, RLs, RRt, Nat.reduceLT, Nat.reduceEqDiff, Nat.reduceAdd, Nat.reduceSub, RXa, RXb, RXc, methR, methE, methM, List.drop_zero, Nat.sub_zero, RSl, RSr, *])
        | (simp only [Option.some.injEq, Prod.mk.injEq] at h
           obtain ⟨rfl, rfl⟩ := h
           simp (disch := first | decide | omega | assumption | exact isS_of (by assumption) | exact ixok_of (by assumption) (by omega) | exact slOk_of (by assumption) | exact bufOk_of (by assumption) (by omega) | exact ixok_ofR (by assumption) (by omega) | exact slOk_ofR (by assumption) | exact lenOk_of (by assumption) (by omega) | fail) only [W6x0, loop_unf, loopK_N, loopK_E, loopK_R, RAs, RBs, RCs, RDs, REs, RFs, RGs, RHs, RIs, RJs, RKs, RLs, RRt, Nat.reduceLT, Nat.reduceEqDiff, Nat.reduceAdd, Nat.reduceSub, RXa, RXb, RXc, methR, methE, methM, List.drop_zero, Nat.sub_zero, RSl, RSr, *])

attribute [local irreducible] hFst
/-- ticketlinelaw31.GateHolds -/
def gholdsS : Sp := fun args O =>
  match args with
  | [.int .u8 T, .int .u16 nn] =>
    if 0 ≤ T ∧ T ≤ 255 ∧ 0 ≤ nn ∧ nn ≤ 65535 then
      if T < 2 then
        match known31S [] O with
        | some (.bool b, Oa) => some (.bool b, Oa)
        | _ => none
      else if 6 < T then
        match known31S [] O with
        | some (.bool b, Oa) => some (.bool b, Oa)
        | _ => none
      else
        match formatS [.agg [.int .i64 1, .int .i64 T]] (O ++ [.arr [.int .i64 1, .int .i64 T]]) with
        | some (.tup [.ref 0 km 0, .int .i64 e], Oa) =>
          if e = 0 then
            match Oa[O.length]? with
            | some (.arr [.int .i64 p, .int .i64 t]) =>
              match enter31S [.agg [.int .i64 p, .int .i64 t], .int .i64 0, .int .i64 1] Oa with
              | some (.ref 0 kf 0, Ob) =>
                match run31S [.iface 42 (.ref 0 kf 0), .ref 0 km 0, .int .i64 60] Ob with
                | some (.tup [.bool true, .bool _], Oc) => hFst O.length km T nn 50 1 .nils Oc
                | _ => none
              | _ => none
            | _ => none
          else none
        | _ => none
    else none
  | _ => none
theorem gholdsS_ok : SpOk Tryz.prog 6 gholdsS := by
  intro args O r O' h S
  unfold gholdsS at h
  repeat' (split at h)
  all_goals first | (cases h; done) | skip
  all_goals
    try simp only [acc, accZ, errA] at *
    first
      | (simp only [Option.some.injEq, Prod.mk.injEq] at h
         obtain ⟨rfl, rfl⟩ := h
         refine bodyA (tabC_cons known31S_ok (tabC_cons formatS_ok (tabC_cons run31S_ok (tabC_cons looksS_ok (tabC_cons enter31S_ok (tabC_cons leave31S_ok (tabC_nil _))))))) (n := 100000) F6_code ?_
         simp (disch := first | decide | omega | assumption | exact isS_of (by assumption) | exact ixok_of (by assumption) (by omega) | exact slOk_of (by assumption) | exact bufOk_of (by assumption) (by omega) | exact ixok_ofR (by assumption) (by omega) | exact slOk_ofR (by assumption) | exact lenOk_of (by assumption) (by omega) | fail) only [F6, RAs, RBs, RCs, RDs, REs, RFs, RGs, RHs, RIs, RJs, RKs, RLs, RRt, Nat.reduceLT, Nat.reduceEqDiff, Nat.reduceAdd, Nat.reduceSub, RXa, RXb, RXc, methR, methE, methM, List.drop_zero, Nat.sub_zero, RSl, RSr, acc, accZ, errA, *])
      | (refine bodyA (tabC_cons known31S_ok (tabC_cons formatS_ok (tabC_cons run31S_ok (tabC_cons looksS_ok (tabC_cons enter31S_ok (tabC_cons leave31S_ok (tabC_nil _))))))) (n := 100000) F6_code ?_
         simp (disch := first | decide | omega | assumption | exact isS_of (by assumption) | exact ixok_of (by assumption) (by omega) | exact slOk_of (by assumption) | exact bufOk_of (by assumption) (by omega) | exact ixok_ofR (by assumption) (by omega) | exact slOk_ofR (by assumption) | exact lenOk_of (by assumption) (by omega) | fail) only [F6, RAs, RBs, RCs, RDs, REs, RFs, RGs, RHs, RIs, RJs, RKs, RLs, RRt, Nat.reduceLT, Nat.reduceEqDiff, Nat.reduceAdd, Nat.reduceSub, RXa, RXb, RXc, methR, methE, methM, List.drop_zero, Nat.sub_zero, RSl, RSr, e_loop, acc, accZ, errA, *]
         refine (fin_skip _ _ _ _ _).trans ?_
         refine hFst_loop _ _ _ _ (by omega) (by omega) (by omega) (by omega) _ _ _ _ _ _ _ _ h (by omega) ?_ ?_ ?_ ?_ ?_ ?_ ?_
         all_goals simp (disch := first | decide | omega | assumption | exact isS_of (by assumption) | exact ixok_of (by assumption) (by omega) | exact slOk_of (by assumption) | exact bufOk_of (by assumption) (by omega) | exact ixok_ofR (by assumption) (by omega) | exact slOk_ofR (by assumption) | exact lenOk_of (by assumption) (by omega) | fail) only [RAs, RBs, RCs, RDs, REs, RFs, RGs, RHs, RIs, RJs, RKs, RLs, RRt, Nat.reduceLT, Nat.reduceEqDiff, Nat.reduceAdd, Nat.reduceSub, RXa, RXb, RXc, methR, methE, methM, List.drop_zero, Nat.sub_zero, RSl, RSr, *])

end Den

/- GateHolds: the answer is yes. -/
set_option maxRecDepth 100000
set_option maxHeartbeats 1000000
set_option linter.unusedSimpArgs false
set_option linter.unusedVariables false
namespace Den
open Go Go.Proofs

/-- A program that waits. -/
def wst (l mo : Int) : GP := ⟨15, relT, l, true, mo, 2, 0, true⟩
def Pw (O : Mo) (k : Nat) (b t th mo : Int) : Prop := ∃ ka kn l, Gn O k ka kn b t th (wst l mo)
/-- The objects that are no cells of structs. -/
def noArr (O : Mo) (l : List Nat) : Prop := ∀ x ∈ l, ∀ cs, O[x]? ≠ some (.arr cs)
theorem Gn.keep {O O' : Mo} {k ka kn : Nat} {b t th : Int} {p : GP} {l : List Nat} (h : Gn O k ka kn b t th p) (g : Ag O O' l) (hn : noArr O l) : Gn O' k ka kn b t th p :=
  h.ag g (fun hx => hn _ hx _ h.K) (fun hx => hn _ hx _ h.A) (fun hx => hn _ hx _ h.N.o)
theorem Pw.keep {O O' : Mo} {k : Nat} {b t th mo : Int} {l : List Nat} (h : Pw O k b t th mo) (g : Ag O O' l) (hn : noArr O l) : Pw O' k b t th mo := by
  obtain ⟨ka, kn, l', h⟩ := h; exact ⟨ka, kn, l', h.keep g hn⟩
theorem noArr_nil (O : Mo) : noArr O [] := fun x hx => by simp at hx
theorem noArr_kb {O : Mo} {km kb : Nat} {W : List Int} (m : MemW O km kb W) : noArr O [kb] := fun x hx cs e => by
  simp at hx; subst hx; rw [m.b] at e; cases e
/-- Another thread's program. -/
theorem Gn.other {O O' : Mo} {km kb k ka kn k2 ka2 kn2 : Nat} {W : List Int} {b t th th2 : Int} {p p2 : GP} (h : Gn O k ka kn b t th p) (h2 : Gn O k2 ka2 kn2 b t th2 p2) (m : MemW O km kb W) (hne : th ≠ th2) (g : Ag O O' [kb, ka2, k2]) : Gn O' k ka kn b t th p := by
  refine h.ag g ?_ ?_ ?_
  · have n1 : k ≠ kb := ne_get h.K m.b (by simp [gtB])
    have n2 : k ≠ ka2 := ne_get h.K h2.A (by simp [gtB, subB])
    have n3 : k ≠ k2 := ne_get h.K h2.K (by unfold gtB; intro e; simp at e; omega)
    simp [n1, n2, n3]
  · have n1 : ka ≠ kb := ne_get h.A m.b (by simp [subB])
    have n2 : ka ≠ ka2 := ne_get h.A h2.A (by unfold subB; intro e; simp at e; omega)
    have n3 : ka ≠ k2 := ne_get h.A h2.K (by simp [gtB, subB])
    simp [n1, n2, n3]
  · have n1 : kn ≠ kb := ne_get h.N.o m.b (by simp)
    have n2 : kn ≠ ka2 := ne_get h.N.o h2.A (by simp [subB])
    have n3 : kn ≠ k2 := ne_get h.N.o h2.K (by simp [gtB])
    simp [n1, n2, n3]
theorem own_get {O : Mo} {v : AV} {l : List Int} (h : GrI O v l) : ∀ x ∈ own v, O[x]? = some (.buf 1 (ints l)) := by
  rcases h with ⟨rfl, rfl⟩ | ⟨k, rfl, hk⟩
  · intro x hx; simp [own] at hx
  · intro x hx; simp only [own, List.mem_singleton] at hx; subst hx; exact hk
theorem own_getR {O : Mo} {v : AV} {l : List Nat} (h : GrR O v l) : ∀ x ∈ own v, O[x]? = some (.buf 1 (refs l)) := by
  rcases h with ⟨rfl, rfl⟩ | ⟨k, rfl, hk⟩
  · intro x hx; simp [own] at hx
  · intro x hx; simp only [own, List.mem_singleton] at hx; subst hx; exact hk
theorem GrI.ag {O O' : Mo} {v : AV} {l : List Int} {L : List Nat} (h : GrI O v l) (g : Ag O O' L) (hn : ∀ x ∈ own v, x ∉ L) : GrI O' v l := by
  rcases h with ⟨rfl, rfl⟩ | ⟨k, rfl, hk⟩
  · exact Or.inl ⟨rfl, rfl⟩
  · exact Or.inr ⟨k, rfl, g.get hk (hn k (by simp [own]))⟩
theorem GrR.ag {O O' : Mo} {v : AV} {l : List Nat} {L : List Nat} (h : GrR O v l) (g : Ag O O' L) (hn : ∀ x ∈ own v, x ∉ L) : GrR O' v l := by
  rcases h with ⟨rfl, rfl⟩ | ⟨k, rfl, hk⟩
  · exact Or.inl ⟨rfl, rfl⟩
  · exact Or.inr ⟨k, rfl, g.get hk (hn k (by simp [own]))⟩
theorem ints_wds {l W : List Int} (h : 1 ≤ W.length) : ints l ≠ wds W := by
  intro e
  cases W with
  | nil => simp at h
  | cons x W =>
    cases l with
    | nil => simp [ints, wds] at e
    | cons y l => simp [ints, wds] at e
theorem refs_wds {l : List Nat} {W : List Int} (h : 1 ≤ W.length) : refs l ≠ wds W := by
  intro e
  cases W with
  | nil => simp at h
  | cons x W =>
    cases l with
    | nil => simp [refs, wds] at e
    | cons y l => simp [refs, wds] at e
/-- The slices lie apart from a memory and a program. -/
theorem own_run {O : Mo} {km kb k ka kn : Nat} {W : List Int} {b t th : Int} {p : GP} (m : MemW O km kb W) (h : Gn O k ka kn b t th p) {v : AV} {l : List Int} (g : GrI O v l) : ∀ x ∈ own v, x ∉ [kb, ka, k] := by
  intro x hx
  have e := own_get g x hx
  have n1 : x ≠ kb := ne_get e m.b (by simp; exact ints_wds m.n)
  have n2 : x ≠ ka := ne_get e h.A (by simp [subB])
  have n3 : x ≠ k := ne_get e h.K (by simp [gtB])
  simp [n1, n2, n3]
theorem own_runR {O : Mo} {km kb k ka kn : Nat} {W : List Int} {b t th : Int} {p : GP} (m : MemW O km kb W) (h : Gn O k ka kn b t th p) {v : AV} {l : List Nat} (g : GrR O v l) : ∀ x ∈ own v, x ∉ [kb, ka, k] := by
  intro x hx
  have e := own_getR g x hx
  have n1 : x ≠ kb := ne_get e m.b (by simp; exact refs_wds m.n)
  have n2 : x ≠ ka := ne_get e h.A (by simp [subB])
  have n3 : x ≠ k := ne_get e h.K (by simp [gtB])
  simp [n1, n2, n3]
theorem own_kb {O : Mo} {km kb : Nat} {W : List Int} (m : MemW O km kb W) {v : AV} {l : List Int} (g : GrI O v l) : ∀ x ∈ own v, x ∉ [kb] := by
  intro x hx
  have n1 : x ≠ kb := ne_get (own_get g x hx) m.b (by simp; exact ints_wds m.n)
  simp [n1]
theorem own_kbR {O : Mo} {km kb : Nat} {W : List Int} (m : MemW O km kb W) {v : AV} {l : List Nat} (g : GrR O v l) : ∀ x ∈ own v, x ∉ [kb] := by
  intro x hx
  have n1 : x ≠ kb := ne_get (own_getR g x hx) m.b (by simp; exact refs_wds m.n)
  simp [n1]

/-! Whole programs -/
section
variable {km kb : Nat} {p t v mo : Int} {W : List Int} {Q : List Int} {O : Mo}
/-- A thread comes and waits. -/
theorem comes_waits (hp : 1 ≤ p ∧ p ≤ 511) (ht : 1 ≤ t ∧ t ≤ 17) (m : MemW O km kb W) (g : GI (16 + 128 * p) t W v Q) {th : Int} (h1 : 0 ≤ th) (h2 : th < t) (hn : th ∉ Q) (hc : ¬ (Q = [] ∧ v < mo)) (m1 : 1 ≤ mo) (m2 : mo ≤ 64) :
    ∃ kp O1 O2 W', enter31S [.agg [.int .i64 p, .int .i64 t], .int .i64 th, .int .i64 mo] O = some (.ref 0 kp 0, O1) ∧
      run31S [.iface 42 (.ref 0 kp 0), .ref 0 km 0, .int .i64 60] O1 = some (.tup [.bool false, .bool true], O2) ∧
      Ag O O2 [kb] ∧ MemW O2 km kb W' ∧ GI (16 + 128 * p) t W' v (Q ++ [th]) ∧ Pw O2 kp (16 + 128 * p) t th mo ∧ O.length ≤ kp ∧ W'.length = W.length := by
  obtain ⟨O1, e1, g1, n1⟩ := newEnter_ok O p t th mo hp ht h1 h2 m1 m2
  have M1 := m.ag g1 (by simp) (by simp)
  obtain ⟨l0, l1, l2, l3⟩ := lsA_rng g (by omega)
  have hlk : lkA (16 + 128 * p) Q ≠ 16 + 128 * p + th * 2 * 3 ∧ lkA (16 + 128 * p) Q ≠ 16 + 128 * p + (th * 2 + 1) * 3 + 1 := by
    unfold lkA
    by_cases hq : Q = []
    · rw [if_neg (by rw [l3 hq]; omega)]; omega
    · obtain ⟨q, _, e, r1, r2⟩ := l2 hq
      unfold rfA at e
      rw [if_pos (by omega)]; omega
  have R := enter_queue (mo := mo) g.wd h1 h2 g.ins g.fst g.lst (by
    rintro ⟨e1, e2⟩
    cases Q with
    | nil => exact hc ⟨rfl, e2⟩
    | cons q l => have := (g.rng q (by simp)).1; simp only [hdA, rfA] at e1; omega) (by omega) (by omega) l0 l1 (lkA (16 + 128 * p) Q) rfl hlk 47 false
  obtain ⟨O2, ka2, e2, v2, g2⟩ := runE_ok (most := 60) 60 0 false O1 (O.length + 1) W _ (gp0 mo) _ _ (by omega) (by omega) (n1.ge M1) R
  have a1 := g1.1
  refine ⟨O.length + 2, O1, O2, _, by simp only [enter31S, e1, if_true], run31_enter (by omega) (by simpa using e2), ⟨by have := v2.ag.1; omega, fun j hj hl => ?_⟩, g2.M, gi_queue g h1 h2 hn, ⟨ka2, O.length, lsA Q, g2.gn⟩, by omega, ?_⟩
  · rw [v2.ag.2 j (by omega) (by simp at hl ⊢; omega), g1.2 j hj (by simp)]
  · simp [queueW, lockW_len]
/-- A thread comes and goes in. -/
theorem comes_in (hp : 1 ≤ p ∧ p ≤ 511) (ht : 1 ≤ t ∧ t ≤ 17) (m : MemW O km kb W) (g : GI (16 + 128 * p) t W v []) {th : Int} (h1 : 0 ≤ th) (h2 : th < t) (v0 : 0 ≤ v) (hc : v < mo) (m1 : 1 ≤ mo) (m2 : mo ≤ 64) :
    ∃ kp O1 O2 W', enter31S [.agg [.int .i64 p, .int .i64 t], .int .i64 th, .int .i64 mo] O = some (.ref 0 kp 0, O1) ∧
      run31S [.iface 42 (.ref 0 kp 0), .ref 0 km 0, .int .i64 60] O1 = some (.tup [.bool true, .bool false], O2) ∧
      Ag O O2 [kb] ∧ MemW O2 km kb W' ∧ GI (16 + 128 * p) t W' (v + 1) [] ∧ (∃ ka kn l, Gn O2 kp ka kn (16 + 128 * p) t th ⟨16, relT, l, false, mo, 2, 0, true⟩) ∧ O.length ≤ kp ∧ W'.length = W.length := by
  obtain ⟨O1, e1, g1, n1⟩ := newEnter_ok O p t th mo hp ht h1 h2 m1 m2
  have M1 := m.ag g1 (by simp) (by simp)
  have R := enter_room (mo := mo) g.wd h1 h2 g.ins g.fst v0 hc (by omega) 52 false
  obtain ⟨O2, ka2, e2, v2, g2⟩ := runE_ok (most := 60) 60 0 false O1 (O.length + 1) W _ (gp0 mo) _ _ (by omega) (by omega) (n1.ge M1) R
  have a1 := g1.1
  refine ⟨O.length + 2, O1, O2, _, by simp only [enter31S, e1, if_true], run31_enter (by omega) (by simpa using e2), ⟨by have := v2.ag.1; omega, fun j hj hl => ?_⟩, g2.M, gi_room g h1 h2, ⟨ka2, O.length, v, g2.gn⟩, by omega, ?_⟩
  · rw [v2.ag.2 j (by omega) (by simp at hl ⊢; omega), g1.2 j hj (by simp)]
  · simp [lockW_len]
/-- A thread leaves, and nobody waits. -/
theorem leaves_out (hp : 1 ≤ p ∧ p ≤ 511) (ht : 1 ≤ t ∧ t ≤ 17) (m : MemW O km kb W) (g : GI (16 + 128 * p) t W v []) {th : Int} (h1 : 0 ≤ th) (h2 : th < t) (v0 : 1 ≤ v ∧ v ≤ 1000) :
    ∃ kp O1, leave31S [.agg [.int .i64 p, .int .i64 t], .int .i64 th] O = some (.ref 0 kp 0, O1) ∧ Ag O O1 [] ∧ ∀ O1' , Ag O1 O1' [] →
      ∃ O2 W', run31S [.iface 35 (.ref 0 kp 0), .ref 0 km 0, .int .i64 60] O1' = some (.tup [.bool true, .bool false], O2) ∧
      Ag O O2 [kb] ∧ MemW O2 km kb W' ∧ GI (16 + 128 * p) t W' (v - 1) [] ∧ W'.length = W.length ∧ leaveResS [.ref 0 kp 0] O2 = some (.int .u64 1, O2) := by
  obtain ⟨O1, e1, g1, n1⟩ := newLeave_ok O p t th hp ht h1 h2
  refine ⟨O.length + 2, O1, by simp only [leave31S, e1, if_true], g1, fun O1' g1' => ?_⟩
  have M1 := (m.ag g1 (by simp) (by simp)).ag g1' (by simp) (by simp)
  have n1' := n1.ag g1' (by simp) (by simp) (by simp)
  have R := leave_out g.wd h1 h2 g.ins g.fst v0.1 v0.2 52 false
  obtain ⟨O2, ka2, e2, v2, g2⟩ := runL_ok (most := 60) 60 0 false O1' (O.length + 1) W _ (gp0 0) _ _ (by omega) (by omega) (n1'.ge M1) R
  have a1 := g1.1
  have a2 := g1'.1
  refine ⟨O2, _, run31_leave (by omega) (by simpa using e2), ⟨by have := v2.ag.1; omega, fun j hj hl => ?_⟩, g2.M, gi_out g h1 h2, by simp [lockW_len], ?_⟩
  · rw [v2.ag.2 j (by omega) (by simp at hl ⊢; omega), g1'.2 j (by omega) (by simp), g1.2 j hj (by simp)]
  · have hK := g2.K
    unfold gtB at hK
    simp [leaveResS, loverS, hK]
/-- A thread leaves, and the first one may go in. -/
theorem leaves_next (hp : 1 ≤ p ∧ p ≤ 511) (ht : 1 ≤ t ∧ t ≤ 17) {q : Int} (m : MemW O km kb W) (g : GI (16 + 128 * p) t W v (q :: Q)) {th : Int} (h1 : 0 ≤ th) (h2 : th < t) :
    ∃ kp O1, leave31S [.agg [.int .i64 p, .int .i64 t], .int .i64 th] O = some (.ref 0 kp 0, O1) ∧ Ag O O1 [] ∧ ∀ O1' , Ag O1 O1' [] →
      ∃ O2 W', run31S [.iface 35 (.ref 0 kp 0), .ref 0 km 0, .int .i64 60] O1' = some (.tup [.bool true, .bool false], O2) ∧
      Ag O O2 [kb] ∧ MemW O2 km kb W' ∧ GI (16 + 128 * p) t W' v Q ∧ W'[wtA (16 + 128 * p) q]? = some 0 ∧ W'.length = W.length ∧ leaveResS [.ref 0 kp 0] O2 = some (.int .u64 1, O2) := by
  obtain ⟨O1, e1, g1, n1⟩ := newLeave_ok O p t th hp ht h1 h2
  refine ⟨O.length + 2, O1, by simp only [leave31S, e1, if_true], g1, fun O1' g1' => ?_⟩
  have M1 := (m.ag g1 (by simp) (by simp)).ag g1' (by simp) (by simp)
  have n1' := n1.ag g1' (by simp) (by simp) (by simp)
  have rq := g.rng q (by simp)
  have hg : W[(16 + 128 * p + (rfA q - 1) * 3).toNat]? = some (hdA Q) := by
    have := hd_link g
    unfold nxA at this
    unfold rfA
    rw [show 16 + 128 * p + (q * 2 + 1 + 1 - 1) * 3 = 16 + 128 * p + (q * 2 + 1) * 3 by omega]
    exact this
  have R := leave_next g.wd h1 h2 g.fst (by simp only [hdA, rfA]; omega) (by simp only [hdA, rfA]; omega) (by simp only [hdA, rfA]; omega) hg 50 false
  obtain ⟨O2, ka2, e2, v2, g2⟩ := runL_ok (most := 60) 60 0 false O1' (O.length + 1) W _ (gp0 0) _ _ (by omega) (by omega) (n1'.ge M1) R
  have a1 := g1.1
  have a2 := g1'.1
  obtain ⟨gi, hw⟩ := gi_next g h1 h2
  refine ⟨O2, _, run31_leave (by omega) (by simpa using e2), ⟨by have := v2.ag.1; omega, fun j hj hl => ?_⟩, g2.M, gi, hw, ?_, ?_⟩
  · rw [v2.ag.2 j (by omega) (by simp at hl ⊢; omega), g1'.2 j (by omega) (by simp), g1.2 j hj (by simp)]
  · unfold nextW; split <;> simp [lockW_len]
  · have hK := g2.K
    unfold gtB at hK
    simp [leaveResS, loverS, hK]
/-- Who waits goes on waiting. -/
theorem stays {b th most : Int} {k : Nat} (m : MemW O km kb W) (h : Pw O k b t th mo) (hw : W[wtA b th]? = some 1) (hm : 1 ≤ most ∧ most ≤ 1000) :
    ∃ O' ka kn l, run31S [.iface 42 (.ref 0 k 0), .ref 0 km 0, .int .i64 most] O = some (.tup [.bool false, .bool true], O') ∧ Gn O k ka kn b t th (wst l mo) ∧ Ag O O' [kb, ka, k] ∧ MemW O' km kb W ∧ Pw O' k b t th mo := by
  obtain ⟨ka, kn, l, h⟩ := h
  have R := wait_stay (b := b) (t := t) (th := th) (mo := mo) (v := l) (pc := 2) (ot := 0) hw (most.toNat - 1) false
  rw [show most.toNat - 1 + 1 = most.toNat by omega] at R
  obtain ⟨O2, ka2, e2, v2, g2⟩ := runE_ok (most := most) most.toNat 0 false O ka W _ (wst l mo) _ _ (by omega) (by omega) (h.ge m) R
  exact ⟨O2, ka, kn, l, run31_enter (by omega) (by simpa using e2), h, v2.ag, g2.M, ⟨ka2, kn, l, g2.gn⟩⟩
/-- Who may go on goes in. -/
theorem goes {b th most : Int} {k : Nat} (m : MemW O km kb W) (h : Pw O k b t th mo) (hw : W[wtA b th]? = some 0) (hm : 1 ≤ most ∧ most ≤ 1000) :
    ∃ O' ka kn l, run31S [.iface 42 (.ref 0 k 0), .ref 0 km 0, .int .i64 most] O = some (.tup [.bool true, .bool false], O') ∧ Gn O k ka kn b t th (wst l mo) ∧ Ag O O' [kb, ka, k] ∧ MemW O' km kb W ∧
      ∃ ka2, Gn O' k ka2 kn b t th ⟨16, relT, l, true, mo, 2, 0, true⟩ := by
  obtain ⟨ka, kn, l, h⟩ := h
  have R := enter_go (b := b) (t := t) (th := th) (mo := mo) (v := l) (pc := 2) (ot := 0) hw (most.toNat - 1) false
  rw [show most.toNat - 1 + 1 = most.toNat by omega] at R
  obtain ⟨O2, ka2, e2, v2, g2⟩ := runE_ok (most := most) most.toNat 0 false O ka W _ (wst l mo) _ _ (by omega) (by omega) (h.ge m) R
  exact ⟨O2, ka, kn, l, run31_enter (by omega) (by simpa using e2), h, v2.ag, g2.M, ka2, g2.gn⟩
end
end Den

/- GateHolds: the loops. -/
set_option maxRecDepth 100000
set_option maxHeartbeats 1000000
set_option linter.unusedSimpArgs false
set_option linter.unusedVariables false
namespace Den
open Go Go.Proofs

/-- What stands where. -/
structure H3 (O : Mo) (kl km kb : Nat) (W : List Int) (t : Int) (qv av : AV) (Q : List Int) (A : List Nat) : Prop where
  M : MemW O km kb W
  L : O[kl]? = some (.arr [.int .i64 1, .int .i64 t])
  gq : GrI O qv Q
  ga : GrR O av A
theorem H3.run {O O' : Mo} {kl km kb k ka kn : Nat} {W W' : List Int} {b t t2 th : Int} {p : GP} {qv av : AV} {Q : List Int} {A : List Nat} (h : H3 O kl km kb W t qv av Q A) (n : Gn O k ka kn b t2 th p) (g : Ag O O' [kb, ka, k]) (m : MemW O' km kb W') : H3 O' kl km kb W' t qv av Q A where
  M := m
  L := by
    have n1 : kl ≠ kb := ne_get h.L h.M.b (by simp)
    have n2 : kl ≠ ka := ne_get h.L n.A (by simp [subB])
    have n3 : kl ≠ k := ne_get h.L n.K (by simp [gtB])
    exact g.get h.L (by simp [n1, n2, n3])
  gq := h.gq.ag g (own_run h.M n h.gq)
  ga := h.ga.ag g (own_runR h.M n h.ga)
theorem H3.kb {O O' : Mo} {kl km kb : Nat} {W W' : List Int} {t : Int} {qv av : AV} {Q : List Int} {A : List Nat} (h : H3 O kl km kb W t qv av Q A) (g : Ag O O' [kb]) (m : MemW O' km kb W') : H3 O' kl km kb W' t qv av Q A where
  M := m
  L := by
    have n1 : kl ≠ kb := ne_get h.L h.M.b (by simp)
    exact g.get h.L (by simp [n1])
  gq := h.gq.ag g (own_kb h.M h.gq)
  ga := h.ga.ag g (own_kbR h.M h.ga)
theorem H3.nil {O O' : Mo} {kl km kb : Nat} {W : List Int} {t : Int} {qv av : AV} {Q : List Int} {A : List Nat} (h : H3 O kl km kb W t qv av Q A) (g : Ag O O' []) : H3 O' kl km kb W t qv av Q A :=
  ⟨h.M.ag g (by simp) (by simp), g.get h.L (by simp), h.gq.ag g (by simp), h.ga.ag g (by simp)⟩
theorem nod_ne {Q : List Int} (h : Q.Nodup) {i j : Nat} {a c : Int} (hi : Q[i]? = some a) (hj : Q[j]? = some c) (hne : i ≠ j) : a ≠ c := by
  obtain ⟨h1, e1⟩ := List.getElem?_eq_some_iff.1 hi
  obtain ⟨h2, e2⟩ := List.getElem?_eq_some_iff.1 hj
  intro e
  subst e1 e2
  exact hne ((List.getElem_inj h).1 e)
section
variable {kl km kb : Nat} {t : Int} {qv av : AV} {Q : List Int} {A : List Nat} {W : List Int}
/-- The programs of those who wait, from one on. -/
def Pgs (O : Mo) (t : Int) (Q : List Int) (A : List Nat) (i : Nat) : Prop := ∀ j q, i ≤ j → Q[j]? = some q → ∃ k, A[j]? = some k ∧ Pw O k (16 + 128 * 1) t q 1
theorem hIn_ok {last : Int} {K : Int → Int → Mo → Option (AV × Mo)} (hnd : Q.Nodup) (hlen : A.length = Q.length) (hl : Q.length ≤ 1000) {i : Nat} {q0 : Int} (hi : Q[i]? = some q0) (hw1 : ∀ j q, i < j → Q[j]? = some q → W[wtA (16 + 128 * 1) q]? = some 1) (hw0 : W[wtA (16 + 128 * 1) q0]? = some 0) :
    ∀ (m : Nat) (k : Int) (O : Mo), (i : Int) - 1 ≤ k → k < Q.length → k - i + 1 < m → H3 O kl km kb W t qv av Q A → Pgs O t Q A (i + 1) → ((i : Int) ≤ k → ∃ kk, A[i]? = some kk ∧ Pw O kk (16 + 128 * 1) t q0 1) →
    ∃ O', hIn kl km qv av i last K m k O = K ((i : Int) + 1) q0 O' ∧ H3 O' kl km kb W t qv av Q A ∧ Pgs O' t Q A (i + 1) := by
  have hiL := (List.getElem?_eq_some_iff.1 hi).1
  intro m
  induction m with
  | zero => intro k O h0 h1 h2; omega
  | succ m ih =>
    intro k O h0 h1 h2 H hP hI
    by_cases hk : (i : Int) ≤ k
    · have c1 : 0 ≤ k ∧ k < (A.length : Int) ∧ k ≤ 1000 := by omega
      by_cases he : k - i = 0
      · have hki : k.toNat = i := by omega
        obtain ⟨kk, hA, hp⟩ := hI hk
        obtain ⟨O1, ka, kn, l, e1, n1, g1, m1, ka2, n2⟩ := goes (most := 20) H.M hp hw0 (by omega)
        have H1 := H.run n1 g1 m1
        have P1 : Pgs O1 t Q A (i + 1) := by
          intro j q hj hq
          obtain ⟨k', hA', ka', kn', l', hp'⟩ := hP j q hj hq
          exact ⟨k', hA', ka', kn', l', hp'.other n1 H.M (nod_ne hnd hq hi (by omega)) g1⟩
        obtain ⟨O', e2, H2, P2⟩ := ih (k - 1) O1 (by omega) (by omega) (by omega) H1 P1 (fun h => by omega)
        refine ⟨O', ?_, H2, P2⟩
        simp only [hIn, if_pos hk, H.ga.rd, if_pos c1, hki, hA, e1, if_pos he, e2]
      · have hq : ∃ q, Q[k.toNat]? = some q := get_of_lt (by omega)
        obtain ⟨q, hq⟩ := hq
        obtain ⟨kk, hA, hp⟩ := hP k.toNat q (by omega) hq
        obtain ⟨O1, ka, kn, l, e1, n1, g1, m1, hp1⟩ := stays (most := 20) H.M hp (hw1 k.toNat q (by omega) hq) (by omega)
        have H1 := H.run n1 g1 m1
        have P1 : Pgs O1 t Q A (i + 1) := by
          intro j q' hj hq'
          obtain ⟨k', hA', ka', kn', l', hp'⟩ := hP j q' hj hq'
          by_cases hjk : j = k.toNat
          · subst hjk
            rw [hq] at hq'; cases hq'
            rw [hA] at hA'; cases hA'
            exact ⟨_, hA, hp1⟩
          · exact ⟨k', hA', ka', kn', l', hp'.other n1 H.M (nod_ne hnd hq' hq hjk) g1⟩
        obtain ⟨kk0, hA0, ka0, kn0, l0, hp0⟩ := hI hk
        obtain ⟨O', e2, H2, P2⟩ := ih (k - 1) O1 (by omega) (by omega) (by omega) H1 P1 (fun h => ⟨kk0, hA0, ka0, kn0, l0, hp0.other n1 H.M (nod_ne hnd hi hq (by omega)) g1⟩)
        refine ⟨O', ?_, H2, P2⟩
        simp only [hIn, if_pos hk, H.ga.rd, if_pos c1, hA, e1, if_neg he, e2]
    · have c1 : (i : Int) < (Q.length : Int) := by omega
      refine ⟨O, ?_, H, hP⟩
      simp only [hIn, if_neg hk, H.gq.rd, if_pos c1, show ((i : Int)).toNat = i by omega, hi]
theorem GrI.slLn {O : Mo} {v : AV} {l : List Int} (h : GrI O v l) : slLn v = true ∧ v ≠ .emp := by
  rcases h with ⟨rfl, rfl⟩ | ⟨k, rfl, hk⟩
  · exact ⟨rfl, by simp⟩
  · exact ⟨rfl, by simp⟩
theorem hOut_ok (ht : 1 ≤ t ∧ t ≤ 17) (hnd : Q.Nodup) (hlen : A.length = Q.length) (hl : (Q.length : Int) ≤ t) :
    ∀ (m : Nat) (i : Nat) (last : Int) (O : Mo) (W : List Int), i ≤ Q.length → Q.length < i + m → H3 O kl km kb W t qv av Q A → GI (16 + 128 * 1) t W 1 (Q.drop i) → Pgs O t Q A i → 0 ≤ last ∧ last < t →
    ∃ O', hOut kl km qv av m i last O = some (.bool true, O') := by
  intro m
  induction m with
  | zero => intro i last O W h0 h1; omega
  | succ m ih =>
    intro i last O W h0 h1 H g hP hlast
    have c1 : Q.length ≤ 1000 := by omega
    have hsl := H.gq.slLn
    by_cases hi : (i : Int) < (Q.length : Int)
    · obtain ⟨q, hq⟩ := get_of_lt (W := Q) (i := i) (by omega)
      have hd : Q.drop i = q :: Q.drop (i + 1) := by
        obtain ⟨h1, h2⟩ := List.getElem?_eq_some_iff.1 hq
        rw [List.drop_eq_getElem_cons h1, h2]
      have g' := g
      rw [hd] at g'
      obtain ⟨kp, O1, e1, G1, hrun⟩ := leaves_next (p := 1) (by omega) ht H.M g' hlast.1 hlast.2
      have H1 := H.nil G1
      obtain ⟨O1', e2, G1'⟩ := looks_ok (p := 1) (v := 1) (qv := slI qv i Q.length) H1.M g (by omega) ht (by omega) (by simp; omega) (fun O' hO' => by
        rw [rdI_slI (H1.gq.ag hO' (by simp)).rd (by omega) (Nat.le_refl _) hsl.2]
        rw [List.take_of_length_le (by simp)])
      obtain ⟨O2, W', e3, G2, M2, gi, hw, hlW, _⟩ := hrun O1' G1'
      have H2 := H.kb G2 M2
      have P2 : Pgs O2 t Q A i := fun j x hj hx => by
        obtain ⟨k, hA, hp⟩ := hP j x hj hx
        exact ⟨k, hA, hp.keep G2 (noArr_kb H.M)⟩
      obtain ⟨O3, e4, H3', P3⟩ := hIn_ok (last := last) (K := fun i last O => hOut kl km qv av m i last O) hnd hlen (by omega) hq (fun j x hj hx => by
        refine gi.wt x ?_
        rw [List.mem_iff_getElem?]
        exact ⟨j - (i + 1), by rw [List.getElem?_drop, show i + 1 + (j - (i + 1)) = j by omega]; exact hx⟩) hw 1002 ((A.length : Int) - 1) O2 (by omega) (by omega) (by omega) H2 (fun j x hj hx => P2 j x (by omega) hx) (fun _ => P2 i q (Nat.le_refl _) hq)
      obtain ⟨O', e5⟩ := ih (i + 1) q O3 W' (by omega) (by omega) H3' gi P3 (g'.rng q (by simp))
      have c2 : 0 ≤ (i : Int) := by omega
      have c3 : A.length ≤ 1000 := by omega
      refine ⟨O', ?_⟩
      rw [show ((i + 1 : Nat) : Int) = (i : Int) + 1 by omega] at e5
      simp only [hOut, H.gq.rd, H.gq.ln, if_true, if_pos c1, if_pos hi, if_pos c2, H.L, e1, H1.L, if_pos hsl.1, show ((i : Int)).toNat = i by omega, e2, e3, H2.ga.rd, if_pos c3, e4, e5]
    · have hd : Q.drop i = [] := List.drop_eq_nil_of_le (by omega)
      rw [hd] at g
      obtain ⟨kp, O1, e1, G1, hrun⟩ := leaves_out (p := 1) (by omega) ht H.M g hlast.1 hlast.2 (by omega)
      obtain ⟨O2, W', e3, G2, M2, gi, hlW, _⟩ := hrun O1 (Ag.refl _ _)
      have H2 := H.kb G2 M2
      obtain ⟨O3, e4, G3⟩ := looks_ok (p := 1) (v := 1 - 1) (qv := .nils) M2 gi (by omega) ht (by omega) (by simp; omega) (fun O' _ => rfl)
      refine ⟨O3, ?_⟩
      rw [show (1 : Int) - 1 = 0 from rfl] at e4
      simp only [hOut, H.gq.rd, H.gq.ln, if_true, if_pos c1, if_neg hi, H.L, e1, e3, H2.L, e4, known31S]
/-- What is grown lies apart from what is not. -/
def Dj (a c : AV) : Prop := ∀ x ∈ own a, x ∉ own c
theorem hMid_ok (ht : 1 ≤ t ∧ t ≤ 17) :
    ∀ (m : Nat) (nn : Int) (lv qv av : AV) (O : Mo) (W : List Int) (left Q : List Int) (A : List Nat), left.length < m → 0 ≤ nn ∧ nn ≤ 65535 → H3 O kl km kb W t qv av Q A → GrI O lv left → Dj lv qv → Dj lv av → Dj qv av → A.length = Q.length →
    GI (16 + 128 * 1) t W 1 Q → Pgs O t Q A 0 → (left ++ Q).Nodup → (∀ x ∈ left ++ Q, 1 ≤ x ∧ x < t) → ((left ++ Q).length : Int) ≤ t →
    ∃ O', hMid kl km m nn lv qv av O = some (.bool true, O') := by
  intro m
  induction m with
  | zero => intro nn lv qv av O W left Q A h; omega
  | succ m ih =>
    intro nn lv qv av O W left Q A hm hn H hg d1 d2 d3 hA g hP hnd hr hlen
    have hl2 : (left.length : Int) ≤ t ∧ (Q.length : Int) ≤ t := by simp at hlen; omega
    have c1 : left.length ≤ 1000 := by omega
    by_cases hl : 0 < (left.length : Int)
    · have c2 : 0 ≤ nn ∧ nn ≤ 100000 := by omega
      have hi0 := Int.emod_nonneg nn (show (left.length : Int) ≠ 0 by omega)
      have hi1 := Int.emod_lt_of_pos nn hl
      generalize hin : nn % (left.length : Int) = i at hi0 hi1
      obtain ⟨i', rfl⟩ : ∃ i' : Nat, i = i' := ⟨i.toNat, by omega⟩
      obtain ⟨th, hth⟩ := get_of_lt (W := left) (i := i') (by omega)
      have hmem : th ∈ left := List.mem_of_getElem? hth
      have hthr := hr th (by simp [hmem])
      have hnq : th ∉ Q := fun hq => by
        rw [List.nodup_append] at hnd
        exact hnd.2.2 th hmem th hq rfl
      obtain ⟨kp, O1, O2, W', e1, e2, G2, M2, gi, hp2, hkp, hlW⟩ := comes_waits (p := 1) (mo := 1) (by omega) ht H.M g (by omega) hthr.2 hnq (by rintro ⟨_, h⟩; omega) (by omega) (by omega)
      have H2 := H.kb G2 M2
      have g2 := hg.ag G2 (own_kb H.M hg)
      have P2 : Pgs O2 t Q A 0 := fun j x hj hx => by
        obtain ⟨k, hA, hp⟩ := hP j x hj hx
        exact ⟨k, hA, hp.keep G2 (noArr_kb H.M)⟩
      -- the queue grows
      obtain ⟨qv2, O3, e3, q3, l3, a3, w3⟩ := grow_ok (m := [th]) H2.gq (by omega) (by simp)
      have A3 : Ag O2 O3 (own qv) := ⟨l3, a3⟩
      have nA3 : noArr O2 (own qv) := fun x hx cs e => by rw [own_get H2.gq x hx] at e; cases e
      have M3 : MemW O3 km kb W' := M2.ag A3 (fun hx => nA3 _ hx _ M2.m) (fun hx => by have := own_get H2.gq _ hx; rw [M2.b] at this; simp at this; exact ints_wds M2.n this.symm)
      have L3 := A3.get H2.L (fun hx => nA3 _ hx _ H2.L)
      have g3 := g2.ag A3 d1
      have v3 := H2.ga.ag A3 (fun x hx hq => d3 x hq hx)
      have dq1 : Dj lv qv2 := fun x hx => by
        rcases w3 with e | e
        · rw [e]; exact d1 x hx
        · rw [e]; have := lt_of_get (own_get g2 x hx); simp; omega
      have dq2 : Dj qv2 av := fun x hx hv => by
        rcases w3 with e | e
        · rw [e] at hx; exact d3 x hx hv
        · rw [e] at hx; have := lt_of_get (own_getR H2.ga x hv); simp at hx; omega
      -- the literal
      have A4 := Ag.app O3 [.buf 1 [.ref 0 kp 0]] []
      have M4 := M3.ag A4 (by simp) (by simp)
      have g4 := g3.ag A4 (by simp)
      have v4 := v3.ag A4 (by simp)
      have q4 := q3.ag A4 (by simp)
      -- the programs grow
      obtain ⟨av2, O5, e5, v5, l5, a5, w5⟩ := growR_ok (x := kp) v4 (by omega)
      have A5 : Ag (O3 ++ [.buf 1 [.ref 0 kp 0]]) O5 (own av) := ⟨l5, a5⟩
      have nA5 : noArr (O3 ++ [.buf 1 [.ref 0 kp 0]]) (own av) := fun x hx cs e => by rw [own_getR v4 x hx] at e; cases e
      have M5 : MemW O5 km kb W' := M4.ag A5 (fun hx => nA5 _ hx _ M4.m) (fun hx => by have := own_getR v4 _ hx; rw [M4.b] at this; simp at this; exact refs_wds M4.n this.symm)
      have L4 := A4.get L3 (by simp)
      have L5 := A5.get L4 (fun hx => nA5 _ hx _ L4)
      have g5 := g4.ag A5 d2
      have q5 := q4.ag A5 dq2
      have da1 : Dj lv av2 := fun x hx => by
        rcases w5 with e | e
        · rw [e]; exact d2 x hx
        · rw [e]; have := lt_of_get (own_get g4 x hx); intro h; rw [List.mem_singleton] at h; omega
      have da2 : Dj qv2 av2 := fun x hx => by
        rcases w5 with e | e
        · rw [e]; exact dq2 x hx
        · rw [e]; have := lt_of_get (own_get q4 x hx); intro h; rw [List.mem_singleton] at h; omega
      -- what is left
      obtain ⟨w1, O6, e6, g6, l6, a6, x6⟩ := grow_ok (O := O5) (v := .nils) (l := []) (m := left.take i') (Or.inl ⟨rfl, rfl⟩) (by simp) (by simp; omega)
      have A6 : Ag O5 O6 [] := ⟨l6, fun j hj _ => a6 j hj (by simp [own])⟩
      have lv6 := g5.ag A6 (by simp)
      obtain ⟨w2, O7, e7, g7, l7, a7, x7⟩ := grow_ok (m := (left.drop (i' + 1)).take (left.length - (i' + 1))) g6 (by simp; omega) (by simp; omega)
      have ow1 : ∀ x ∈ own w1, O5.length ≤ x := by
        intro x hx
        rcases x6 with e | e
        · rw [e] at hx; simp [own] at hx
        · rw [e] at hx; simp at hx; omega
      have ow2 : ∀ x ∈ own w2, O5.length ≤ x := by
        intro x hx
        rcases x7 with e | e
        · rw [e] at hx; exact ow1 x hx
        · rw [e] at hx; simp at hx; omega
      have A7 : Ag O5 O7 [] := by
        refine ⟨by omega, fun j hj _ => ?_⟩
        rw [a7 j (by omega) (fun hx => by have := ow1 j hx; omega), a6 j hj (by simp [own])]
      have M7 := M5.ag A7 (by simp) (by simp)
      have L7 := A7.get L5 (by simp)
      have q7 := q5.ag A7 (by simp)
      have v7 := v5.ag A7 (by simp)
      have P7 : Pgs O7 t (Q ++ [th]) (A ++ [kp]) 0 := by
        intro j x hj hx
        have kpw : ∀ {k : Nat} {y : Int}, Pw O2 k (16 + 128 * 1) t y 1 → Pw O7 k (16 + 128 * 1) t y 1 := fun hh =>
          (((hh.keep A3 nA3).keep A4 (noArr_nil _)).keep A5 nA5).keep A7 (noArr_nil _)
        by_cases hj' : j < Q.length
        · rw [List.getElem?_append_left hj'] at hx
          obtain ⟨k, hk, hp⟩ := P2 j x hj hx
          exact ⟨k, by rw [List.getElem?_append_left (by omega)]; exact hk, kpw hp⟩
        · rw [List.getElem?_append_right (by omega)] at hx
          have hj2 : j - Q.length = 0 := by
            have := (List.getElem?_eq_some_iff.1 hx).1; simp at this; omega
          rw [hj2] at hx
          simp at hx
          subst hx
          exact ⟨kp, by rw [List.getElem?_append_right (by omega), hA, hj2]; rfl, kpw hp2⟩
      have hdr : (left.drop (i' + 1)).take (left.length - (i' + 1)) = left.drop (i' + 1) := List.take_of_length_le (by simp)
      rw [hdr] at g7 e7
      have hsplit : left = left.take i' ++ th :: left.drop (i' + 1) := by
        obtain ⟨h1, h2⟩ := List.getElem?_eq_some_iff.1 hth
        conv => lhs; rw [← List.take_append_drop i' left, List.drop_eq_getElem_cons h1, h2]
      have hperm : (left.take i' ++ left.drop (i' + 1) ++ (Q ++ [th])).Perm (left ++ Q) := by
        conv => rhs; rw [hsplit]
        rw [← List.append_assoc]
        refine (List.perm_append_singleton th _).trans ?_
        exact (List.Perm.append_right Q List.perm_middle.symm)
      have hplen := hperm.length_eq
      obtain ⟨O', e8⟩ := ih (nn / 6) w2 qv2 av2 O7 W' ([] ++ left.take i' ++ left.drop (i' + 1)) (Q ++ [th]) (A ++ [kp]) (by simp; omega) (by omega) ⟨M7, L7, q7, v7⟩ g7
        (fun x hx hq => by have := ow2 x hx; have := lt_of_get (own_get q5 x hq); omega) (fun x hx hq => by have := ow2 x hx; have := lt_of_get (own_getR v5 x hq); omega) da2 (by simp [hA]) gi P7
        (by rw [List.nil_append]; exact hperm.nodup_iff.2 hnd) (fun x hx => hr x (hperm.mem_iff.1 (by simpa using hx))) (by rw [List.nil_append, hplen]; exact hlen)
      have c3 : 0 ≤ (i' : Int) ∧ (i' : Int) < (left.length : Int) := ⟨hi0, hi1⟩
      refine ⟨O', ?_⟩
      have hstep : hStep km kp i' left.length lv qv av (fun w2 qv2 av2 Of => hMid kl km m (nn / 6) w2 qv2 av2 Of) O2 = some (.bool true, O') := by
        have t1 : ((i' : Int)).toNat = i' := by omega
        have t2 : ((i' : Int) + 1).toNat = i' + 1 := by omega
        simp only [hStep, g2.rd, if_pos hi1, t1, hth, e3, e5, if_pos g2.slLn.1, g5.rd, if_true, e6, lv6.rd, t2, hdr, e7, e8]
      simp only [hMid, hg.rd, hg.ln, if_true, if_pos c1, if_pos hl, if_pos c2, hin, if_pos c3, H.L, show ((i' : Int)).toNat = i' by omega, hth, e1, e2, hstep]
    · have he : left = [] := List.eq_nil_of_length_eq_zero (by omega)
      subst he
      obtain ⟨O', e⟩ := hOut_ok (qv := qv) (av := av) ht g.nod hA hl2.2 50 0 0 O W (by omega) (by omega) H (by simpa using g) hP (by omega)
      refine ⟨O', ?_⟩
      simp only [hMid, hg.rd, hg.ln, if_true, if_pos c1, if_neg hl]
      exact e
theorem hFst_ok {T nn : Int} (hT : 1 ≤ T ∧ T ≤ 17) (hn : 0 ≤ nn ∧ nn ≤ 65535) :
    ∀ (m : Nat) (i : Int) (lv : AV) (O : Mo) (left : List Int), 1 ≤ i → i ≤ T → T < i + m → MemW O km kb W → O[kl]? = some (.arr [.int .i64 1, .int .i64 T]) → GI (16 + 128 * 1) T W 1 [] → GrI O lv left → left.Nodup → (∀ x ∈ left, 1 ≤ x ∧ x < i) → (left.length : Int) = i - 1 →
    ∃ O', hFst kl km T nn m i lv O = some (.bool true, O') := by
  intro m
  induction m with
  | zero => intro i lv O left h0 h1 h2; omega
  | succ m ih =>
    intro i lv O left h0 h1 h2 M L g hg hnd hr hlen
    by_cases hi : i < T
    · obtain ⟨lv2, O1, e1, g1, l1, a1, x1⟩ := grow_ok (m := [i]) hg (by omega) (by simp)
      have A1 : Ag O O1 (own lv) := ⟨l1, a1⟩
      have nA : noArr O (own lv) := fun x hx cs e => by rw [own_get hg x hx] at e; cases e
      have M1 : MemW O1 km kb W := M.ag A1 (fun hx => nA _ hx _ M.m) (fun hx => by have := own_get hg _ hx; rw [M.b] at this; simp at this; exact ints_wds M.n this.symm)
      obtain ⟨O', e2⟩ := ih (i + 1) lv2 O1 (left ++ [i]) (by omega) (by omega) (by omega) M1 (A1.get L (fun hx => nA _ hx _ L)) g g1 (by
        rw [List.nodup_append]
        exact ⟨hnd, by simp, fun a ha c hc => by simp at hc; have := hr a ha; omega⟩) (fun x hx => by
        simp at hx
        rcases hx with hx | rfl
        · have := hr x hx; omega
        · omega) (by simp; omega)
      have c1 : 0 ≤ i := by omega
      exact ⟨O', by simp only [hFst, if_pos hi, if_pos c1, e1, e2]⟩
    · obtain ⟨O', e⟩ := hMid_ok (kl := kl) (km := km) (kb := kb) (t := T) hT 50 nn lv .nils .nils O W left [] [] (by omega) hn ⟨M, L, Or.inl ⟨rfl, rfl⟩, Or.inl ⟨rfl, rfl⟩⟩ hg
        (fun x hx => by simp [own]) (fun x hx => by simp [own]) (fun x hx => by simp [own] at hx) rfl g (fun j q hj hq => by simp at hq) (by simpa using hnd) (fun x hx => by
        simp at hx; have := hr x hx; omega) (by simp; omega)
      exact ⟨O', by simp only [hFst, if_neg hi, e]⟩
end
theorem gholdsS_true (T nn : Int) (hT : 0 ≤ T ∧ T ≤ 255) (hn : 0 ≤ nn ∧ nn ≤ 65535) : ∃ O', gholdsS [.int .u8 T, .int .u16 nn] [] = some (.bool true, O') := by
  have c0 : 0 ≤ T ∧ T ≤ 255 ∧ 0 ≤ nn ∧ nn ≤ 65535 := by omega
  by_cases c1 : T < 2
  · exact ⟨[], by simp only [gholdsS, if_pos c0, if_pos c1, known31S]⟩
  by_cases c2 : 6 < T
  · exact ⟨[], by simp only [gholdsS, if_pos c0, if_neg c1, if_pos c2, known31S]⟩
  obtain ⟨km, kb, O1, W, e1, M1, w1, G1, L1, L2⟩ := format_ok ([] ++ [.arr [.int .i64 1, .int .i64 T]]) 1 T (by omega) (by omega)
  have hL : O1[0]? = some (.arr [.int .i64 1, .int .i64 T]) := G1.get (by rfl) (by simp)
  have g : GI (16 + 128 * 1) T W 0 [] := by
    have D := fmt_wd (p := 1) (by omega) (by omega) w1
    refine ⟨D, ?_, ?_, ?_, trivial, fun q hq => by simp at hq, List.nodup_nil, fun q hq => by simp at hq⟩
    · rw [w1.get 13 (by omega), fmtG_mid (by omega) (by omega)]
    · rw [w1.get 14 (by omega), fmtG_mid (by omega) (by omega)]; rfl
    · rw [w1.get 15 (by omega), fmtG_mid (by omega) (by omega)]; rfl
  obtain ⟨kp, O2, O3, W', e2, e3, G3, M3, gi, _, hkp, hlW⟩ := comes_in (p := 1) (th := 0) (mo := 1) (by omega) (by omega) M1 g (by omega) (by omega) (by omega) (by omega) (by omega) (by omega)
  have n1 : (0 : Nat) ≠ kb := ne_get hL M1.b (by simp)
  obtain ⟨O', e4⟩ := hFst_ok (kl := 0) (km := km) (kb := kb) (W := W') (T := T) (nn := nn) (by omega) hn 50 1 .nils O3 [] (by omega) (by omega) (by omega) M3 (G3.get hL (by simpa using n1)) gi (Or.inl ⟨rfl, rfl⟩) List.nodup_nil (fun x hx => by simp at hx) (by simp)
  refine ⟨O', ?_⟩
  simp only [gholdsS, if_pos c0, if_neg c1, if_neg c2, e1, if_true, List.length_nil, hL, e2, e3]
  exact e4
/-- The law. -/
theorem gateHolds_law (a0 a1 : List AV) (s0 : Shp (.int .u8) a0) (s1 : Shp (.int .u16) a1) :
    ∃ O' S', CallOk Tryz.prog 6 [parV (.int .u8) a0, parV (.int .u16) a1] [] [] (.bool true) O' S' := by
  obtain ⟨x, rfl, w0⟩ := s0
  obtain ⟨y, rfl, w1⟩ := s1
  have b0 : 0 ≤ x ∧ x ≤ 255 := by simp [Lit.wf, IntKind.min, IntKind.max, IntKind.signed, IntKind.bits] at w0; omega
  have b1 : 0 ≤ y ∧ y ≤ 65535 := by simp [Lit.wf, IntKind.min, IntKind.max, IntKind.signed, IntKind.bits] at w1; omega
  obtain ⟨O', h⟩ := gholdsS_true x y b0 b1
  exact ⟨O', [], gholdsS_ok _ [] _ _ h []⟩
end Den
