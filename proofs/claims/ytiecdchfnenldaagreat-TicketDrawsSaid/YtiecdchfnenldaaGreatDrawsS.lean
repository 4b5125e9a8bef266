/- TicketDraws: what it computes. -/
import Derived.Test.YtiecdchfnenldaaGreatKnownS
import Derived.Test.YtiecdchfnenldaaGreatSpecs
import Derived.Test.YtiecdchfnenldaaGreatDenG7
import Derived.Test.YtiecdchfnenldaaGreatAbsS
import Derived.Test.YtiecdchfnenldaaGreatDenArgs
set_option maxRecDepth 100000
set_option maxHeartbeats 4000000
set_option linter.unusedSimpArgs false
set_option linter.unusedVariables false
namespace Den
open Go Go.Proofs

/-- ticketlinelaw32.draws -/
def drawsS : Sp := fun args O =>
  match args with
  | [.agg [.int .i64 p, .int .i64 t], .ref 0 km 0, .int .i64 th, .int .u64 want] =>
    match newDrawS [.agg [.int .i64 p, .int .i64 t], .int .i64 th] O with
    | some (.tup [.ref 0 kd 0, .int .i64 e], Oa) =>
      if e = 0 then
        match run32S [.iface 96 (.ref 0 kd 0), .ref 0 km 0, .int .i64 60] Oa with
        | some (.tup [.bool true, .bool false], Ob) =>
          match drawResS [.ref 0 kd 0] Ob with
          | some (.int .u64 v, Oc) => if v = want then some (.bool true, Oc) else none
          | _ => none
        | _ => none
      else none
    | _ => none
  | _ => none
theorem drawsS_ok : SpOk Tryz.prog 50 drawsS := by
  intro args O r O' h S
  unfold drawsS at h
  repeat' (split at h)
  all_goals first | (cases h; done) | skip
  all_goals
    simp only [Option.some.injEq, Prod.mk.injEq] at h
    obtain ⟨rfl, rfl⟩ := h
    refine bodyA (tabC_cons newDrawS_ok (tabC_cons run32S_ok (tabC_cons drawResS_ok (tabC_nil _)))) (n := 0) F50_code ?_
    try simp only [acc, accZ, errA] at *
    simp (disch := first | decide | omega | assumption | exact isS_of (by assumption) | exact ixok_of (by assumption) (by omega) | exact slOk_of (by assumption) | exact bufOk_of (by assumption) (by omega) | fail) only [F50, RAs, RBs, RCs, RDs, REs, RFs, RGs, RHs, RIs, RJs, RKs, RLs, RRt, Nat.reduceLT, Nat.reduceEqDiff, Nat.reduceAdd, Nat.reduceSub, RXa, RXb, RXc, methR, methT, RSl, acc, accZ, errA, *]

/-- ticketlinelaw32.descendNodes -/
def dnS : Sp := fun args O =>
  match args with
  | [.agg [.int .i64 p, .int .i64 t]] =>
    match dNodesS [.agg [.int .i64 p, .int .i64 t]] O with
    | some (.tup [.ref 0 kn 0, .int .i64 e], Oa) =>
      if e = 0 then
        match nbaseS [.ref 0 kn 0] Oa with
        | some (.int .i64 b, Ob) => some (.int .i64 b, Ob)
        | _ => none
      else none
    | _ => none
  | _ => none
theorem dnS_ok : SpOk Tryz.prog 51 dnS := by
  intro args O r O' h S
  unfold dnS at h
  repeat' (split at h)
  all_goals first | (cases h; done) | skip
  all_goals
    simp only [Option.some.injEq, Prod.mk.injEq] at h
    obtain ⟨rfl, rfl⟩ := h
    refine bodyA (tabC_cons dNodesS_ok (tabC_cons nbaseS_ok (tabC_nil _))) (n := 0) F51_code ?_
    try simp only [acc, accZ, errA] at *
    simp (disch := first | decide | omega | assumption | exact isS_of (by assumption) | exact ixok_of (by assumption) (by omega) | exact slOk_of (by assumption) | exact bufOk_of (by assumption) (by omega) | fail) only [F51, RAs, RBs, RCs, RDs, REs, RFs, RGs, RHs, RIs, RJs, RKs, RLs, RRt, Nat.reduceLT, Nat.reduceEqDiff, Nat.reduceAdd, Nat.reduceSub, RXa, RXb, RXc, methR, methT, RSl, acc, accZ, errA, *]

/-- ticketlinelaw32.TicketDraws: the loop 0 -/
def drawsIn (km kc : Nat) (p t nn i next : Int) (tv : AV) (K : Int → Int → Mo → Option (AV × Mo)) : Nat → Int → Mo → Option (AV × Mo)
  | 0, w, O => none
  | m + 1, w, O =>
    if w < nn then
      if 0 ≤ w then
        match loadS [.ref 0 kc 0, .int .i64 w] O with
        | some (.tup [.int .u64 a, .int .i64 e], Oa) =>
          match loadS [.ref 0 km 0, .int .i64 w] Oa with
          | some (.tup [.int .u64 b, .int .i64 f], Ob) =>
            if e = 0 then
              if f = 0 then
                if w - 7 = 0 then
                  if b = next then drawsIn km kc p t nn i next tv K m (w + 1) Ob else none
                else if a = b then drawsIn km kc p t nn i next tv K m (w + 1) Ob else none
              else none
            else none
          | _ => none
        | _ => none
      else none
    else K (i + 1) next O
theorem drawsIn_loop {S : Ms} (km kc : Nat) (p t nn i next : Int) (tv : AV) (K :  Int →  Int → Mo → Option (AV × Mo)) (h0 : nn ≤ 70000) (h1 : 0 ≤ i) (h2 : i ≤ 1000) (Mx : Nat) (hK : ∀ (i next : Int) (O : Mo) (env : Env) (r : AV) (O' : Mo), K i next O = some (r, O') → env 2 = tv → env 3 = .ref (S.length + 1) 0 0 → env 7 = .ref 0 km 0 → env 8 = .int .i64 0 → env 9 = .int .u64 next → env 10 = .int .i64 i → W9x1 cfgA (tabC [(41, known32S), (14, formatS), (48, storeS), (49, newDrawS), (38, memCopyS), (50, drawsS), (51, dnS), (52, loadS)]) 100000 (loopN (exec cfgA (tabC [(41, known32S), (14, formatS), (48, storeS), (49, newDrawS), (38, memCopyS), (50, drawsS), (51, dnS), (52, loadS)]) 100000 B9x1) [] Mx ⟨leOf 150 env, O, S ++ [[ABlk.arr [.int .i64 p, .int .i64 t]]]⟩) = some (r, O', S)) : ∀ (n : Nat) (w : Int) (O : Mo) (env : Env) (M : Nat) (r : AV) (O' : Mo) (h : drawsIn km kc p t nn i next tv K n w O = some (r, O')) (hM : n < M) (e0 : env 2 = tv) (e1 : env 3 = .ref (S.length + 1) 0 0) (e2 : env 7 = .ref 0 km 0) (e3 : env 8 = .int .i64 0) (e4 : env 9 = .int .u64 next) (e5 : env 10 = .int .i64 i) (e6 : env 13 = .ref 0 kc 0) (e7 : env 14 = .int .i64 nn) (e8 : env 15 = .int .i64 w),
    W9x1 cfgA (tabC [(41, known32S), (14, formatS), (48, storeS), (49, newDrawS), (38, memCopyS), (50, drawsS), (51, dnS), (52, loadS)]) 100000 (loopK (exec cfgA (tabC [(41, known32S), (14, formatS), (48, storeS), (49, newDrawS), (38, memCopyS), (50, drawsS), (51, dnS), (52, loadS)]) 100000 B9x1) Mx (seqC (cfg := cfgA) (call := tabC [(41, known32S), (14, formatS), (48, storeS), (49, newDrawS), (38, memCopyS), (50, drawsS), (51, dnS), (52, loadS)]) 100000 (blockC 1 (blockC 2 (loopN (exec cfgA (tabC [(41, known32S), (14, formatS), (48, storeS), (49, newDrawS), (38, memCopyS), (50, drawsS), (51, dnS), (52, loadS)]) 100000 B9x0) [] M ⟨leOf 150 env, O, S ++ [[ABlk.arr [.int .i64 p, .int .i64 t]]]⟩))) (.ops 11 [⟨some 58, none, .mv (.t 10), []⟩,
 ⟨some 59, none, .bin .add (.t 58) (.c (.int .i64 1)), []⟩,
 ⟨some 10, none, .mv (.t 59), []⟩]))) = some (r, O', S) := by
  intro n
  induction n with
  | zero =>
    intro w O env M r O' h hM e0 e1 e2 e3 e4 e5 e6 e7 e8
    obtain ⟨M, rfl⟩ : ∃ M', M = M' + 1 := ⟨M - 1, by omega⟩
    unfold drawsIn at h
    repeat' (split at h)
    all_goals first | (cases h; done) | (dsimp only at h; cases h; done) | (exfalso; omega) | skip
    all_goals
      try dsimp only at h
      try simp only [acc, accZ, errA] at *
      first
        | (simp (disch := first | decide | omega | assumption | exact isS_of (by assumption) | exact ixok_of (by assumption) (by omega) | exact slOk_of (by assumption) | exact bufOk_of (by assumption) (by omega) | fail) only [loop_unf, loopK_N, loopK_E, loopK_R, RAs, RBs, RCs, RDs, REs, RFs, RGs, RHs, RIs, RJs, RKs, RLs, RRt, Nat.reduceLT, Nat.reduceEqDiff, Nat.reduceAdd, Nat.reduceSub, RXa, RXb, RXc, methR, methT, RSl, *]
           refine noIh _ _ _ _ _ _ h (by omega) ?_ ?_ ?_ ?_ ?_ ?_ ?_ ?_ ?_
           all_goals simp (disch := first | decide | omega | assumption | exact isS_of (by assumption) | exact ixok_of (by assumption) (by omega) | exact slOk_of (by assumption) | exact bufOk_of (by assumption) (by omega) | fail) only [RAs, RBs, RCs, RDs, REs, RFs, RGs, RHs, RIs, RJs, RKs, RLs, RRt, Nat.reduceLT, Nat.reduceEqDiff, Nat.reduceAdd, Nat.reduceSub, RXa, RXb, RXc, methR, methT, RSl, *])
        | (simp (disch := first | decide | omega | assumption | exact isS_of (by assumption) | exact ixok_of (by assumption) (by omega) | exact slOk_of (by assumption) | exact bufOk_of (by assumption) (by omega) | fail) only [loop_unf, loopK_N, loopK_E, loopK_R, RAs, RBs, RCs, RDs, REs, RFs, RGs, RHs, RIs, RJs, RKs, RLs, RRt, Nat.reduceLT, Nat.reduceEqDiff, Nat.reduceAdd, Nat.reduceSub, RXa, RXb, RXc, methR, methT, RSl, *]
           refine hK _ _ _ _ _ _ h ?_ ?_ ?_ ?_ ?_ ?_
           all_goals simp (disch := first | decide | omega | assumption | exact isS_of (by assumption) | exact ixok_of (by assumption) (by omega) | exact slOk_of (by assumption) | exact bufOk_of (by assumption) (by omega) | fail) only [RAs, RBs, RCs, RDs, REs, RFs, RGs, RHs, RIs, RJs, RKs, RLs, RRt, Nat.reduceLT, Nat.reduceEqDiff, Nat.reduceAdd, Nat.reduceSub, RXa, RXb, RXc, methR, methT, RSl, *])
        | (simp only [Option.some.injEq, Prod.mk.injEq] at h
           obtain ⟨rfl, rfl⟩ := h
           simp (disch := first | decide | omega | assumption | exact isS_of (by assumption) | exact ixok_of (by assumption) (by omega) | exact slOk_of (by assumption) | exact bufOk_of (by assumption) (by omega) | fail) only [W9x1, loop_unf, loopK_N, loopK_E, loopK_R, RAs, RBs, RCs, RDs, REs, RFs, RGs, RHs, RIs, RJs, RKs, RLs, RRt, Nat.reduceLT, Nat.reduceEqDiff, Nat.reduceAdd, Nat.reduceSub, RXa, RXb, RXc, methR, methT, RSl, *])
  | succ n ih =>
    intro w O env M r O' h hM e0 e1 e2 e3 e4 e5 e6 e7 e8
    obtain ⟨M, rfl⟩ : ∃ M', M = M' + 1 := ⟨M - 1, by omega⟩
    unfold drawsIn at h
    repeat' (split at h)
    all_goals first | (cases h; done) | (dsimp only at h; cases h; done) | (exfalso; omega) | skip
    all_goals
      try dsimp only at h
      try simp only [acc, accZ, errA] at *
      first
        | (simp (disch := first | decide | omega | assumption | exact isS_of (by assumption) | exact ixok_of (by assumption) (by omega) | exact slOk_of (by assumption) | exact bufOk_of (by assumption) (by omega) | fail) only [loop_unf, loopK_N, loopK_E, loopK_R, RAs, RBs, RCs, RDs, REs, RFs, RGs, RHs, RIs, RJs, RKs, RLs, RRt, Nat.reduceLT, Nat.reduceEqDiff, Nat.reduceAdd, Nat.reduceSub, RXa, RXb, RXc, methR, methT, RSl, *]
           refine ih _ _ _ _ _ _ h (by omega) ?_ ?_ ?_ ?_ ?_ ?_ ?_ ?_ ?_
           all_goals simp (disch := first | decide | omega | assumption | exact isS_of (by assumption) | exact ixok_of (by assumption) (by omega) | exact slOk_of (by assumption) | exact bufOk_of (by assumption) (by omega) | fail) only [RAs, RBs, RCs, RDs, REs, RFs, RGs, RHs, RIs, RJs, RKs, RLs, RRt, Nat.reduceLT, Nat.reduceEqDiff, Nat.reduceAdd, Nat.reduceSub, RXa, RXb, RXc, methR, methT, RSl, *])
        | (simp (disch := first | decide | omega | assumption | exact isS_of (by assumption) | exact ixok_of (by assumption) (by omega) | exact slOk_of (by assumption) | exact bufOk_of (by assumption) (by omega) | fail) only [loop_unf, loopK_N, loopK_E, loopK_R, RAs, RBs, RCs, RDs, REs, RFs, RGs, RHs, RIs, RJs, RKs, RLs, RRt, Nat.reduceLT, Nat.reduceEqDiff, Nat.reduceAdd, Nat.reduceSub, RXa, RXb, RXc, methR, methT, RSl, *]
           refine hK _ _ _ _ _ _ h ?_ ?_ ?_ ?_ ?_ ?_
           all_goals simp (disch := first | decide | omega | assumption | exact isS_of (by assumption) | exact ixok_of (by assumption) (by omega) | exact slOk_of (by assumption) | exact bufOk_of (by assumption) (by omega) | fail) only [RAs, RBs, RCs, RDs, REs, RFs, RGs, RHs, RIs, RJs, RKs, RLs, RRt, Nat.reduceLT, Nat.reduceEqDiff, Nat.reduceAdd, Nat.reduceSub, RXa, RXb, RXc, methR, methT, RSl, *])
        | (simp only [Option.some.injEq, Prod.mk.injEq] at h
           obtain ⟨rfl, rfl⟩ := h
           simp (disch := first | decide | omega | assumption | exact isS_of (by assumption) | exact ixok_of (by assumption) (by omega) | exact slOk_of (by assumption) | exact bufOk_of (by assumption) (by omega) | fail) only [W9x1, loop_unf, loopK_N, loopK_E, loopK_R, RAs, RBs, RCs, RDs, REs, RFs, RGs, RHs, RIs, RJs, RKs, RLs, RRt, Nat.reduceLT, Nat.reduceEqDiff, Nat.reduceAdd, Nat.reduceSub, RXa, RXb, RXc, methR, methT, RSl, *])

attribute [local irreducible] drawsIn
/-- ticketlinelaw32.TicketDraws: the loop 1 -/
def drawsG (km : Nat) (p t : Int) (tv : AV) : Nat → Int → Int → Mo → Option (AV × Mo)
  | 0, i, next, O => none
  | m + 1, i, next, O =>
    match rdI O tv with
    | some l =>
      if l.length ≤ 20 then
        if i < (l.length : Int) then
          if 0 ≤ i then
            match l[i.toNat]? with
            | some th =>
              if th < 0 then
                match newDrawS [.agg [.int .i64 p, .int .i64 t], .int .i64 th] O with
                | some (.tup [.nilp, .int .i64 e], Oa) => if e = 2 then drawsG km p t tv m (i + 1) next Oa else none
                | _ => none
              else if t ≤ th then
                match newDrawS [.agg [.int .i64 p, .int .i64 t], .int .i64 th] O with
                | some (.tup [.nilp, .int .i64 e], Oa) => if e = 2 then drawsG km p t tv m (i + 1) next Oa else none
                | _ => none
              else
                match memCopyS [.ref 0 km 0] O with
                | some (.ref 0 kc 0, Oa) =>
                  if 0 ≤ next ∧ next ≤ 2305843009213693952 then
                    match rdI Oa tv with
                    | some l2 =>
                      if i < (l2.length : Int) then
                        match l2[i.toNat]? with
                        | some th2 =>
                          match drawsS [.agg [.int .i64 p, .int .i64 t], .ref 0 km 0, .int .i64 th2, .int .u64 (next + 1)] Oa with
                          | some (.bool true, Ob) =>
                            match dnS [.agg [.int .i64 p, .int .i64 t]] Ob with
                            | some (.int .i64 nn, Oc) => if nn ≤ 70000 then drawsIn km kc p t nn i (next + 1) tv (fun i next O => drawsG km p t tv m i next O) 70001 0 Oc else none
                            | _ => none
                          | _ => none
                        | _ => none
                      else none
                    | _ => none
                  else none
                | _ => none
            | _ => none
          else none
        else
          match known32S [] O with
          | some (.bool b, Oa) => some (.bool b, Oa)
          | _ => none
      else none
    | _ => none
theorem drawsG_loop {S : Ms} (km : Nat) (p t : Int) (tv : AV)  : ∀ (n : Nat) (i next : Int) (O : Mo) (env : Env) (M : Nat) (r : AV) (O' : Mo) (h : drawsG km p t tv n i next O = some (r, O')) (hM : n < M) (e0 : env 2 = tv) (e1 : env 3 = .ref (S.length + 1) 0 0) (e2 : env 7 = .ref 0 km 0) (e3 : env 8 = .int .i64 0) (e4 : env 9 = .int .u64 next) (e5 : env 10 = .int .i64 i),
    W9x1 cfgA (tabC [(41, known32S), (14, formatS), (48, storeS), (49, newDrawS), (38, memCopyS), (50, drawsS), (51, dnS), (52, loadS)]) 100000 (loopN (exec cfgA (tabC [(41, known32S), (14, formatS), (48, storeS), (49, newDrawS), (38, memCopyS), (50, drawsS), (51, dnS), (52, loadS)]) 100000 B9x1) [] M ⟨leOf 150 env, O, S ++ [[ABlk.arr [.int .i64 p, .int .i64 t]]]⟩) = some (r, O', S) := by
  intro n
  induction n with
  | zero =>
    intro i next O env M r O' h hM e0 e1 e2 e3 e4 e5
    obtain ⟨M, rfl⟩ : ∃ M', M = M' + 1 := ⟨M - 1, by omega⟩
    unfold drawsG at h
    repeat' (split at h)
    all_goals first | (cases h; done) | (dsimp only at h; cases h; done) | (exfalso; omega) | skip
    all_goals
      try dsimp only at h
      try simp only [acc, accZ, errA] at *
      first
        | (simp (disch := first | decide | omega | assumption | exact isS_of (by assumption) | exact ixok_of (by assumption) (by omega) | exact slOk_of (by assumption) | exact bufOk_of (by assumption) (by omega) | fail) only [loop_unf, loopK_N, loopK_E, loopK_R, RAs, RBs, RCs, RDs, REs, RFs, RGs, RHs, RIs, RJs, RKs, RLs, RRt, Nat.reduceLT, Nat.reduceEqDiff, Nat.reduceAdd, Nat.reduceSub, RXa, RXb, RXc, methR, methT, RSl, *]
           refine noIh _ _ _ _ _ _ _ h (by omega) ?_ ?_ ?_ ?_ ?_ ?_
           all_goals simp (disch := first | decide | omega | assumption | exact isS_of (by assumption) | exact ixok_of (by assumption) (by omega) | exact slOk_of (by assumption) | exact bufOk_of (by assumption) (by omega) | fail) only [RAs, RBs, RCs, RDs, REs, RFs, RGs, RHs, RIs, RJs, RKs, RLs, RRt, Nat.reduceLT, Nat.reduceEqDiff, Nat.reduceAdd, Nat.reduceSub, RXa, RXb, RXc, methR, methT, RSl, *])
        | (simp (disch := first | decide | omega | assumption | exact isS_of (by assumption) | exact ixok_of (by assumption) (by omega) | exact slOk_of (by assumption) | exact bufOk_of (by assumption) (by omega) | fail) only [loop_unf, loopK_N, loopK_E, loopK_R, RAs, RBs, RCs, RDs, REs, RFs, RGs, RHs, RIs, RJs, RKs, RLs, RRt, Nat.reduceLT, Nat.reduceEqDiff, Nat.reduceAdd, Nat.reduceSub, RXa, RXb, RXc, methR, methT, RSl, *]
           refine drawsIn_loop _ _ _ _ _ _ _ _ _ (by omega) (by omega) (by omega) _ (fun x0 x1 O env r O' h y0 y1 y2 y3 y4 y5 => ih x0 x1 O env _ r O' h (by omega) y0 y1 y2 y3 y4 y5) _ _ _ _ _ _ _ h (by omega) ?_ ?_ ?_ ?_ ?_ ?_ ?_ ?_ ?_
           all_goals simp (disch := first | decide | omega | assumption | exact isS_of (by assumption) | exact ixok_of (by assumption) (by omega) | exact slOk_of (by assumption) | exact bufOk_of (by assumption) (by omega) | fail) only [RAs, RBs, RCs, RDs, REs, RFs, RGs, RHs, RIs, RJs, RKs, RLs, RRt, Nat.reduceLT, Nat.reduceEqDiff, Nat.reduceAdd, Nat.reduceSub, RXa, RXb, RXc, methR, methT, RSl, *])
        | (simp only [Option.some.injEq, Prod.mk.injEq] at h
           obtain ⟨rfl, rfl⟩ := h
           simp (disch := first | decide | omega | assumption | exact isS_of (by assumption) | exact ixok_of (by assumption) (by omega) | exact slOk_of (by assumption) | exact bufOk_of (by assumption) (by omega) | fail) only [W9x1, loop_unf, loopK_N, loopK_E, loopK_R, RAs, RBs, RCs, RDs, REs, RFs, RGs, RHs, RIs, RJs, RKs, RLs, RRt, Nat.reduceLT, Nat.reduceEqDiff, Nat.reduceAdd, Nat.reduceSub, RXa, RXb, RXc, methR, methT, RSl, *])
  | succ n ih =>
    intro i next O env M r O' h hM e0 e1 e2 e3 e4 e5
    obtain ⟨M, rfl⟩ : ∃ M', M = M' + 1 := ⟨M - 1, by omega⟩
    unfold drawsG at h
    repeat' (split at h)
    all_goals first | (cases h; done) | (dsimp only at h; cases h; done) | (exfalso; omega) | skip
    all_goals
      try dsimp only at h
      try simp only [acc, accZ, errA] at *
      first
        | (simp (disch := first | decide | omega | assumption | exact isS_of (by assumption) | exact ixok_of (by assumption) (by omega) | exact slOk_of (by assumption) | exact bufOk_of (by assumption) (by omega) | fail) only [loop_unf, loopK_N, loopK_E, loopK_R, RAs, RBs, RCs, RDs, REs, RFs, RGs, RHs, RIs, RJs, RKs, RLs, RRt, Nat.reduceLT, Nat.reduceEqDiff, Nat.reduceAdd, Nat.reduceSub, RXa, RXb, RXc, methR, methT, RSl, *]
           refine ih _ _ _ _ _ _ _ h (by omega) ?_ ?_ ?_ ?_ ?_ ?_
           all_goals simp (disch := first | decide | omega | assumption | exact isS_of (by assumption) | exact ixok_of (by assumption) (by omega) | exact slOk_of (by assumption) | exact bufOk_of (by assumption) (by omega) | fail) only [RAs, RBs, RCs, RDs, REs, RFs, RGs, RHs, RIs, RJs, RKs, RLs, RRt, Nat.reduceLT, Nat.reduceEqDiff, Nat.reduceAdd, Nat.reduceSub, RXa, RXb, RXc, methR, methT, RSl, *])
        | (simp (disch := first | decide | omega | assumption | exact isS_of (by assumption) | exact ixok_of (by assumption) (by omega) | exact slOk_of (by assumption) | exact bufOk_of (by assumption) (by omega) | fail) only [loop_unf, loopK_N, loopK_E, loopK_R, RAs, RBs, RCs, RDs, REs, RFs, RGs, RHs, RIs, RJs, RKs, RLs, RRt, Nat.reduceLT, Nat.reduceEqDiff, Nat.reduceAdd, Nat.reduceSub, RXa, RXb, RXc, methR, methT, RSl, *]
           refine drawsIn_loop _ _ _ _ _ _ _ _ _ (by omega) (by omega) (by omega) _ (fun x0 x1 O env r O' h y0 y1 y2 y3 y4 y5 => ih x0 x1 O env _ r O' h (by omega) y0 y1 y2 y3 y4 y5) _ _ _ _ _ _ _ h (by omega) ?_ ?_ ?_ ?_ ?_ ?_ ?_ ?_ ?_
           all_goals simp (disch := first | decide | omega | assumption | exact isS_of (by assumption) | exact ixok_of (by assumption) (by omega) | exact slOk_of (by assumption) | exact bufOk_of (by assumption) (by omega) | fail) only [RAs, RBs, RCs, RDs, REs, RFs, RGs, RHs, RIs, RJs, RKs, RLs, RRt, Nat.reduceLT, Nat.reduceEqDiff, Nat.reduceAdd, Nat.reduceSub, RXa, RXb, RXc, methR, methT, RSl, *])
        | (simp only [Option.some.injEq, Prod.mk.injEq] at h
           obtain ⟨rfl, rfl⟩ := h
           simp (disch := first | decide | omega | assumption | exact isS_of (by assumption) | exact ixok_of (by assumption) (by omega) | exact slOk_of (by assumption) | exact bufOk_of (by assumption) (by omega) | fail) only [W9x1, loop_unf, loopK_N, loopK_E, loopK_R, RAs, RBs, RCs, RDs, REs, RFs, RGs, RHs, RIs, RJs, RKs, RLs, RRt, Nat.reduceLT, Nat.reduceEqDiff, Nat.reduceAdd, Nat.reduceSub, RXa, RXb, RXc, methR, methT, RSl, *])

/-- ticketlinelaw32.TicketDraws: the loop 1 -/
def drawsB (ee p t : Int) (tv : AV) : Nat → Int → Mo → Option (AV × Mo)
  | 0, i, O => none
  | m + 1, i, O =>
    match rdI O tv with
    | some l =>
      if l.length ≤ 20 then
        if i < (l.length : Int) then
          if 0 ≤ i then
            match l[i.toNat]? with
            | some th =>
              match newDrawS [.agg [.int .i64 p, .int .i64 t], .int .i64 th] O with
              | some (.tup [.nilp, .int .i64 e], Oa) => if e = 2 then drawsB ee p t tv m (i + 1) Oa else none
              | _ => none
            | _ => none
          else none
        else
          match known32S [] O with
          | some (.bool b, Oa) => some (.bool b, Oa)
          | _ => none
      else none
    | _ => none
theorem drawsB_loop {S : Ms} (ee p t : Int) (tv : AV) (h0 : ee ≠ 0) : ∀ (n : Nat) (i : Int) (O : Mo) (env : Env) (M : Nat) (r : AV) (O' : Mo) (h : drawsB ee p t tv n i O = some (r, O')) (hM : n < M) (e0 : env 2 = tv) (e1 : env 3 = .ref (S.length + 1) 0 0) (e2 : env 8 = .int .i64 ee) (e3 : env 10 = .int .i64 i),
    W9x1 cfgA (tabC [(41, known32S), (14, formatS), (48, storeS), (49, newDrawS), (38, memCopyS), (50, drawsS), (51, dnS), (52, loadS)]) 100000 (loopN (exec cfgA (tabC [(41, known32S), (14, formatS), (48, storeS), (49, newDrawS), (38, memCopyS), (50, drawsS), (51, dnS), (52, loadS)]) 100000 B9x1) [] M ⟨leOf 150 env, O, S ++ [[ABlk.arr [.int .i64 p, .int .i64 t]]]⟩) = some (r, O', S) := by
  intro n
  induction n with
  | zero =>
    intro i O env M r O' h hM e0 e1 e2 e3
    obtain ⟨M, rfl⟩ : ∃ M', M = M' + 1 := ⟨M - 1, by omega⟩
    unfold drawsB at h
    repeat' (split at h)
    all_goals first | (cases h; done) | (dsimp only at h; cases h; done) | (exfalso; omega) | skip
    all_goals
      try dsimp only at h
      try simp only [acc, accZ, errA] at *
      first
        | (simp (disch := first | decide | omega | assumption | exact isS_of (by assumption) | exact ixok_of (by assumption) (by omega) | exact slOk_of (by assumption) | exact bufOk_of (by assumption) (by omega) | fail) only [loop_unf, loopK_N, loopK_E, loopK_R, RAs, RBs, RCs, RDs, REs, RFs, RGs, RHs, RIs, RJs, RKs, RLs, RRt, Nat.reduceLT, Nat.reduceEqDiff, Nat.reduceAdd, Nat.reduceSub, RXa, RXb, RXc, methR, methT, RSl, *]
           refine noIh _ _ _ _ _ _ h (by omega) ?_ ?_ ?_ ?_
           all_goals simp (disch := first | decide | omega | assumption | exact isS_of (by assumption) | exact ixok_of (by assumption) (by omega) | exact slOk_of (by assumption) | exact bufOk_of (by assumption) (by omega) | fail) only [RAs, RBs, RCs, RDs, REs, RFs, RGs, RHs, RIs, RJs, RKs, RLs, RRt, Nat.reduceLT, Nat.reduceEqDiff, Nat.reduceAdd, Nat.reduceSub, RXa, RXb, RXc, methR, methT, RSl, *])
        | (simp only [Option.some.injEq, Prod.mk.injEq] at h
           obtain ⟨rfl, rfl⟩ := h
           simp (disch := first | decide | omega | assumption | exact isS_of (by assumption) | exact ixok_of (by assumption) (by omega) | exact slOk_of (by assumption) | exact bufOk_of (by assumption) (by omega) | fail) only [W9x1, loop_unf, loopK_N, loopK_E, loopK_R, RAs, RBs, RCs, RDs, REs, RFs, RGs, RHs, RIs, RJs, RKs, RLs, RRt, Nat.reduceLT, Nat.reduceEqDiff, Nat.reduceAdd, Nat.reduceSub, RXa, RXb, RXc, methR, methT, RSl, *])
  | succ n ih =>
    intro i O env M r O' h hM e0 e1 e2 e3
    obtain ⟨M, rfl⟩ : ∃ M', M = M' + 1 := ⟨M - 1, by omega⟩
    unfold drawsB at h
    repeat' (split at h)
    all_goals first | (cases h; done) | (dsimp only at h; cases h; done) | (exfalso; omega) | skip
    all_goals
      try dsimp only at h
      try simp only [acc, accZ, errA] at *
      first
        | (simp (disch := first | decide | omega | assumption | exact isS_of (by assumption) | exact ixok_of (by assumption) (by omega) | exact slOk_of (by assumption) | exact bufOk_of (by assumption) (by omega) | fail) only [loop_unf, loopK_N, loopK_E, loopK_R, RAs, RBs, RCs, RDs, REs, RFs, RGs, RHs, RIs, RJs, RKs, RLs, RRt, Nat.reduceLT, Nat.reduceEqDiff, Nat.reduceAdd, Nat.reduceSub, RXa, RXb, RXc, methR, methT, RSl, *]
           refine ih _ _ _ _ _ _ h (by omega) ?_ ?_ ?_ ?_
           all_goals simp (disch := first | decide | omega | assumption | exact isS_of (by assumption) | exact ixok_of (by assumption) (by omega) | exact slOk_of (by assumption) | exact bufOk_of (by assumption) (by omega) | fail) only [RAs, RBs, RCs, RDs, REs, RFs, RGs, RHs, RIs, RJs, RKs, RLs, RRt, Nat.reduceLT, Nat.reduceEqDiff, Nat.reduceAdd, Nat.reduceSub, RXa, RXb, RXc, methR, methT, RSl, *])
        | (simp only [Option.some.injEq, Prod.mk.injEq] at h
           obtain ⟨rfl, rfl⟩ := h
           simp (disch := first | decide | omega | assumption | exact isS_of (by assumption) | exact ixok_of (by assumption) (by omega) | exact slOk_of (by assumption) | exact bufOk_of (by assumption) (by omega) | fail) only [W9x1, loop_unf, loopK_N, loopK_E, loopK_R, RAs, RBs, RCs, RDs, REs, RFs, RGs, RHs, RIs, RJs, RKs, RLs, RRt, Nat.reduceLT, Nat.reduceEqDiff, Nat.reduceAdd, Nat.reduceSub, RXa, RXb, RXc, methR, methT, RSl, *])

attribute [local irreducible] drawsG drawsB
/-- ticketlinelaw32.TicketDraws -/
def tdrawsS : Sp := fun args O =>
  match args with
  | [.agg [.int .i64 p, .int .i64 t], .int .u64 fr, tv] =>
    match rdI O tv with
    | some l =>
      if 20 < (l.length : Int) then
        match known32S [] O with
        | some (.bool b, Oa) => some (.bool b, Oa)
        | _ => none
      else if 1152921504606846976 < fr then
        match known32S [] O with
        | some (.bool b, Oa) => some (.bool b, Oa)
        | _ => none
      else
        match formatS [.agg [.int .i64 p, .int .i64 t]] O with
        | some (.tup [.nilp, .int .i64 e], Oa) => if e = 0 then none else drawsB e p t tv 50 0 Oa
        | some (.tup [.ref 0 km 0, .int .i64 e], Oa) =>
          if e = 0 then
            if 20 < p then
              match known32S [] Oa with
              | some (.bool b, Ob) => some (.bool b, Ob)
              | _ => none
            else
              match storeS [.ref 0 km 0, .int .i64 7, .int .u64 fr] Oa with
              | some (.int .i64 f, Ob) => if f = 0 then drawsG km p t tv 50 0 fr Ob else none
              | _ => none
          else none
        | _ => none
    | _ => none
  | _ => none
theorem tdrawsS_ok : SpOk Tryz.prog 9 tdrawsS := by
  intro args O r O' h S
  unfold tdrawsS at h
  repeat' (split at h)
  all_goals first | (cases h; done) | skip
  all_goals
    try simp only [acc, accZ, errA] at *
    first
      | (simp only [Option.some.injEq, Prod.mk.injEq] at h
         obtain ⟨rfl, rfl⟩ := h
         refine bodyA (tabC_cons known32S_ok (tabC_cons formatS_ok (tabC_cons storeS_ok (tabC_cons newDrawS_ok (tabC_cons memCopyS_ok (tabC_cons drawsS_ok (tabC_cons dnS_ok (tabC_cons loadS_ok (tabC_nil _))))))))) (n := 100000) F9_code ?_
         simp (disch := first | decide | omega | assumption | exact isS_of (by assumption) | exact ixok_of (by assumption) (by omega) | exact slOk_of (by assumption) | exact bufOk_of (by assumption) (by omega) | fail) only [F9, RAs, RBs, RCs, RDs, REs, RFs, RGs, RHs, RIs, RJs, RKs, RLs, RRt, Nat.reduceLT, Nat.reduceEqDiff, Nat.reduceAdd, Nat.reduceSub, RXa, RXb, RXc, methR, methT, RSl, acc, accZ, errA, *])
      | (refine bodyA (tabC_cons known32S_ok (tabC_cons formatS_ok (tabC_cons storeS_ok (tabC_cons newDrawS_ok (tabC_cons memCopyS_ok (tabC_cons drawsS_ok (tabC_cons dnS_ok (tabC_cons loadS_ok (tabC_nil _))))))))) (n := 100000) F9_code ?_
         simp (disch := first | decide | omega | assumption | exact isS_of (by assumption) | exact ixok_of (by assumption) (by omega) | exact slOk_of (by assumption) | exact bufOk_of (by assumption) (by omega) | fail) only [F9, RAs, RBs, RCs, RDs, REs, RFs, RGs, RHs, RIs, RJs, RKs, RLs, RRt, Nat.reduceLT, Nat.reduceEqDiff, Nat.reduceAdd, Nat.reduceSub, RXa, RXb, RXc, methR, methT, RSl, e_loop, acc, accZ, errA, *]
         refine (fin_skip _ _ _ _ _).trans ?_
         refine drawsG_loop _ _ _ _ _ _ _ _ _ _ _ _ h (by omega) ?_ ?_ ?_ ?_ ?_ ?_
         all_goals simp (disch := first | decide | omega | assumption | exact isS_of (by assumption) | exact ixok_of (by assumption) (by omega) | exact slOk_of (by assumption) | exact bufOk_of (by assumption) (by omega) | fail) only [RAs, RBs, RCs, RDs, REs, RFs, RGs, RHs, RIs, RJs, RKs, RLs, RRt, Nat.reduceLT, Nat.reduceEqDiff, Nat.reduceAdd, Nat.reduceSub, RXa, RXb, RXc, methR, methT, RSl, *])
      | (refine bodyA (tabC_cons known32S_ok (tabC_cons formatS_ok (tabC_cons storeS_ok (tabC_cons newDrawS_ok (tabC_cons memCopyS_ok (tabC_cons drawsS_ok (tabC_cons dnS_ok (tabC_cons loadS_ok (tabC_nil _))))))))) (n := 100000) F9_code ?_
         simp (disch := first | decide | omega | assumption | exact isS_of (by assumption) | exact ixok_of (by assumption) (by omega) | exact slOk_of (by assumption) | exact bufOk_of (by assumption) (by omega) | fail) only [F9, RAs, RBs, RCs, RDs, REs, RFs, RGs, RHs, RIs, RJs, RKs, RLs, RRt, Nat.reduceLT, Nat.reduceEqDiff, Nat.reduceAdd, Nat.reduceSub, RXa, RXb, RXc, methR, methT, RSl, e_loop, acc, accZ, errA, *]
         refine (fin_skip _ _ _ _ _).trans ?_
         refine drawsB_loop _ _ _ _ (by omega) _ _ _ _ _ _ _ h (by omega) ?_ ?_ ?_ ?_
         all_goals simp (disch := first | decide | omega | assumption | exact isS_of (by assumption) | exact ixok_of (by assumption) (by omega) | exact slOk_of (by assumption) | exact bufOk_of (by assumption) (by omega) | fail) only [RAs, RBs, RCs, RDs, REs, RFs, RGs, RHs, RIs, RJs, RKs, RLs, RRt, Nat.reduceLT, Nat.reduceEqDiff, Nat.reduceAdd, Nat.reduceSub, RXa, RXb, RXc, methR, methT, RSl, *])

end Den

/- TicketDraws: the answer is yes. -/
set_option maxRecDepth 100000
set_option maxHeartbeats 1000000
set_option linter.unusedSimpArgs false
set_option linter.unusedVariables false
namespace Den
open Go Go.Proofs

/-- A program runs alone. -/
def runD (f : DP → List Int → Option (DP × List Int × Bool)) : Nat → DP → List Int → Bool → Option (DP × List Int × Bool)
  | 0, p, W, last => if p.st = 0 then none else some (p, W, last)
  | n + 1, p, W, last => if p.st = 0 then none else if p.st = 5 then some (p, W, last) else
    match f p W with
    | some (p', W', w) => runD f n p' W' w
    | none => none
theorem done_draw {O : Mo} {k ka kr kn : Nat} {b t th : Int} {p : DP} (h : Dn O k ka kr kn b t th p) (h0 : ¬ p.st = 0) : drawDoneS [.ref 0 k 0] O = some (.bool (decide (p.st = 5)), O) := by
  have hK := h.K
  unfold dwB dnow at hK
  split at hK
  · by_cases e : p.st = 5
    · simp [drawDoneS, hK, e]
    · simp [drawDoneS, hK, e, h0]
  · by_cases e : p.st = 5
    · simp [drawDoneS, hK, e]
    · simp [drawDoneS, hK, e, h0]
theorem runD_ok {km kb k ka kr kn : Nat} {b t th most : Int} : ∀ (n : Nat) (i : Int) (last : Bool) (O : Mo) (W W' : List Int) (p p' : DP) (last' : Bool), 0 ≤ i → i + n = most → MemW O km kb W → Dn O k ka kr kn b t th p →
    runD (drawP b t th) n p W last = some (p', W', last') →
    ∃ O', run32G k km most n i last O = some (.tup [.bool (decide (p'.st = 5)), .bool last'], O') ∧ Ag O O' [kb, ka, kr, k] ∧ MemW O' km kb W' ∧ Dn O' k ka kr kn b t th p' := by
  intro n
  induction n with
  | zero =>
    intro i last O W W' p p' last' h0 hn m h hr
    unfold runD at hr
    split at hr
    · cases hr
    · rename_i hz
      cases hr
      have : ¬ i < most := by omega
      exact ⟨O, by simp only [run32G, if_neg this, done_draw h hz], Ag.refl .., m, h⟩
  | succ n ih =>
    intro i last O W W' p p' last' h0 hn m h hr
    unfold runD at hr
    split at hr
    · cases hr
    rename_i hz
    have a1 : i < most := by omega
    have a2 : ¬ i < 0 := by omega
    split at hr
    · rename_i h5
      cases hr
      exact ⟨O, by simp only [run32G, if_pos a1, if_neg a2, done_draw h hz, h5, decide_true], Ag.refl .., m, h⟩
    · rename_i h5
      split at hr
      · rename_i q p1 W1 w1 hq
        obtain ⟨O1, e1, v1, m1, g1⟩ := step_draw m h hq
        obtain ⟨O2, e2, v2, m2, g2⟩ := ih (i + 1) w1 O1 W1 W' p1 p' last' (by omega) (by omega) m1 g1 hr
        refine ⟨O2, ?_, v1.trans v2, m2, g2⟩
        simp only [run32G, if_pos a1, if_neg a2, done_draw h hz, h5, decide_false, e1, e2]
      · cases hr
theorem runD_step {f : DP → List Int → Option (DP × List Int × Bool)} {n : Nat} {p p' : DP} {W W' : List Int} {last w : Bool} (h0 : p.st ≠ 0) (h1 : p.st ≠ 5) (h : f p W = some (p', W', w)) :
    runD f (n + 1) p W last = runD f n p' W' w := by
  simp only [runD, if_neg h0, if_neg h1, h]
theorem runD_end {f : DP → List Int → Option (DP × List Int × Bool)} {n : Nat} {p : DP} {W : List Int} {last : Bool} (h1 : p.st = 5) :
    runD f n p W last = some (p, W, last) := by
  cases n <;> simp [runD, h1]
/-- The words when a program has the small lock. -/
def lockD (b th : Int) (W : List Int) : List Int := ((W.set (b + th * 2 * 3).toNat 0).set (b + th * 2 * 3 + 1).toNat 1).set 5 (th * 2 + 1)
theorem lockD_len (b th : Int) (W : List Int) : (lockD b th W).length = W.length := by simp [lockD]
def tkW (b th v : Int) (W : List Int) : List Int := ((lockD b th W).set 7 (v + 1)).set 5 0
theorem tkW_len (b th v : Int) (W : List Int) : (tkW b th v W).length = W.length := by simp [tkW, lockD_len]
theorem tkW_ne {b th v : Int} {W : List Int} {i : Nat} (h1 : i ≠ (b + th * 2 * 3).toNat) (h2 : i ≠ (b + th * 2 * 3 + 1).toNat) (h3 : i ≠ 5) (h4 : i ≠ 7) : (tkW b th v W)[i]? = W[i]? := by
  unfold tkW lockD
  rw [List.getElem?_set_ne h3.symm, List.getElem?_set_ne h4.symm, List.getElem?_set_ne h3.symm, List.getElem?_set_ne h2.symm, List.getElem?_set_ne h1.symm]
theorem draw_alone {b t th v : Int} {W : List Int} (b3 : 16 ≤ b) (len : b + t * 6 ≤ W.length) (h5 : W[5]? = some 0) (h7 : W[7]? = some v) (h1 : 0 ≤ th) (h2 : th < t) (v0 : 0 ≤ v ∧ v ≤ 4611686018427387904) (n : Nat) (last : Bool) :
    runD (drawP b t th) (n + 7) dp0 W last = some (⟨5, v + 1, 3, 0, true, 2, 0, true⟩, tkW b th v W, false) := by
  obtain ⟨x, hx⟩ := get_of_lt (W := W) (i := (b + th * 2 * 3).toNat) (by omega)
  obtain ⟨y, hy⟩ := get_of_lt (W := W.set (b + th * 2 * 3).toNat 0) (i := (b + th * 2 * 3 + 1).toNat) (by simp; omega)
  have hz : ((W.set (b + th * 2 * 3).toNat 0).set (b + th * 2 * 3 + 1).toNat 1)[5]? = some 0 := by
    rw [List.getElem?_set_ne (by omega), List.getElem?_set_ne (by omega)]; exact h5
  have e1 : acqP b t 5 (th * 2) 1 0 W = some (2, 0, false, W.set (b + th * 2 * 3).toNat 0, false) := by simp only [acqP, hx, Option.map_some, if_true]
  have e2 : acqP b t 5 (th * 2) 2 0 (W.set (b + th * 2 * 3).toNat 0) = some (3, 0, false, (W.set (b + th * 2 * 3).toNat 0).set (b + th * 2 * 3 + 1).toNat 1, false) := by
    simp only [acqP, hy, Option.map_some, if_true, show ¬ (2 : Int) = 1 by omega, if_false]
  have e3 : acqP b t 5 (th * 2) 3 0 ((W.set (b + th * 2 * 3).toNat 0).set (b + th * 2 * 3 + 1).toNat 1) = some (3, 0, true, lockD b th W, false) := by
    simp only [acqP, show ¬ (3 : Int) = 1 by omega, show ¬ (3 : Int) = 2 by omega, if_false, if_true]
    rw [show (5 : Int).toNat = 5 from rfl, hz]
    simp [lockD]
  have g7 : (lockD b th W)[7]? = some v := by
    unfold lockD
    rw [List.getElem?_set_ne (by omega), List.getElem?_set_ne (by omega), List.getElem?_set_ne (by omega)]; exact h7
  have gn : ((lockD b th W).set 7 (v + 1))[(b + th * 2 * 3).toNat]? = some 0 := by
    unfold lockD
    rw [List.getElem?_set_ne (by omega), List.getElem?_set_ne (by omega), List.getElem?_set_ne (by omega), List.getElem?_set_self (by omega)]
  have g5 : ((lockD b th W).set 7 (v + 1))[5]? = some (th * 2 + 1) := by
    unfold lockD
    rw [List.getElem?_set_ne (by omega), List.getElem?_set_self (by simp; omega)]
  have f1 : relP b t 5 (th * 2) 1 0 ((lockD b th W).set 7 (v + 1)) = some (2, 0, false, (lockD b th W).set 7 (v + 1), false) := by simp [relP, gn]
  have f2 : relP b t 5 (th * 2) 2 0 ((lockD b th W).set 7 (v + 1)) = some (2, 0, true, tkW b th v W, false) := by
    simp only [relP, show ¬ (2 : Int) = 1 by omega, show ¬ (2 : Int) = 3 by omega, if_false, if_true]
    rw [show (5 : Int).toNat = 5 from rfl, g5]
    simp [tkW]
  rw [runD_step (p' := ⟨1, 0, 2, 0, false, 1, 0, false⟩) (W' := W.set (b + th * 2 * 3).toNat 0) (w := false) (by simp [dp0]) (by simp [dp0]) (by simp [drawP, dp0, e1]),
    runD_step (p' := ⟨1, 0, 3, 0, false, 1, 0, false⟩) (W' := (W.set (b + th * 2 * 3).toNat 0).set (b + th * 2 * 3 + 1).toNat 1) (w := false) (by simp) (by simp) (by simp [drawP, e2]),
    runD_step (p' := ⟨2, 0, 3, 0, true, 1, 0, false⟩) (W' := lockD b th W) (w := false) (by simp) (by simp) (by simp [drawP, e3]),
    runD_step (p' := ⟨3, v + 1, 3, 0, true, 1, 0, false⟩) (W' := lockD b th W) (w := false) (by simp) (by simp) (by simp [drawP, g7, v0]),
    runD_step (p' := ⟨4, v + 1, 3, 0, true, 1, 0, false⟩) (W' := (lockD b th W).set 7 (v + 1)) (w := false) (by simp) (by simp) (by simp [drawP, g7]),
    runD_step (p' := ⟨4, v + 1, 3, 0, true, 2, 0, false⟩) (W' := (lockD b th W).set 7 (v + 1)) (w := false) (by simp) (by simp) (by simp [drawP, f1]),
    runD_step (p' := ⟨5, v + 1, 3, 0, true, 2, 0, true⟩) (W' := tkW b th v W) (w := false) (by simp) (by simp) (by simp [drawP, f2])]
  exact runD_end rfl
/-- A new program. -/
theorem newDraw_ok (O : Mo) (p t th : Int) (hp : 1 ≤ p ∧ p ≤ 511) (ht : 1 ≤ t ∧ t ≤ 17) (h1 : 0 ≤ th) (h2 : th < t) :
    ∃ O', newDrawS [.agg [.int .i64 p, .int .i64 t], .int .i64 th] O = some (.tup [.ref 0 (O.length + 3) 0, .int .i64 0], O') ∧ Ag O O' [] ∧ Dn O' (O.length + 3) (O.length + 1) (O.length + 2) O.length (16 + 128 * p) t th dp0 := by
  have N : NodesO (O ++ [.arr [.int .i64 (16 + 128 * p), .int .i64 t]]) O.length (16 + 128 * p) t := ⟨app_last _ _, by omega, by omega, by omega, by omega, by omega⟩
  have e2 := of_ok N h1 h2
  have e3 := acq_ok (lk := 5) (nd := th * 2) N (by omega) (by omega) (by omega) (by omega)
  have N2 := N.ag (Ag.app _ [subB O.length 5 (th * 2) 1 0 false] []) (by simp)
  have e4 := rel_ok (lk := 5) (nd := th * 2) N2 (by omega) (by omega) (by omega) (by omega)
  have N3 := N2.ag (Ag.app _ [subB O.length 5 (th * 2) 1 0 false] []) (by simp)
  have c1 : ¬ th < 0 := by omega
  have c2 : ¬ t ≤ th := by omega
  refine ⟨O ++ [ABlk.arr [.int .i64 (16 + 128 * p), .int .i64 t]] ++ [subB O.length 5 (th * 2) 1 0 false] ++ [subB O.length 5 (th * 2) 1 0 false] ++ [dwB 1 (O.length + 1) (O.length + 2) 0], ?_, (((Ag.app _ _ _).trans (Ag.app _ _ _)).trans (Ag.app _ _ _)).trans (Ag.app _ _ _), ?_⟩
  · simp only [newDrawS, dnodes_ok O p t hp ht, if_true, if_neg c1, if_neg c2, e2, e3, e4]
    simp [dwB, dnow, acqT, relT]
  · exact ⟨N3.ag (Ag.app _ _ []) (by simp), by simp [SubO, dp0], by simp [SubO, dp0], by simp [dp0], by omega, h1, h2⟩
theorem newDraw_bad (O : Mo) (p t th : Int) (h : ¬ (1 ≤ p ∧ p ≤ 511 ∧ 1 ≤ t ∧ t ≤ 17 ∧ 0 ≤ th ∧ th < t)) :
    ∃ O', newDrawS [.agg [.int .i64 p, .int .i64 t], .int .i64 th] O = some (.tup [.nilp, .int .i64 2], O') ∧ Ag O O' [] := by
  by_cases d : 1 ≤ p ∧ p ≤ 511 ∧ 1 ≤ t ∧ t ≤ 17
  · have e := dnodes_ok O p t ⟨d.1, d.2.1⟩ d.2.2
    refine ⟨O ++ [.arr [.int .i64 (16 + 128 * p), .int .i64 t]], ?_, Ag.app _ _ _⟩
    by_cases c1 : th < 0
    · simp only [newDrawS, e, if_true, if_pos c1]
    · have c2 : t ≤ th := by omega
      simp only [newDrawS, e, if_true, if_neg c1, if_pos c2]
  · exact ⟨O, by simp only [newDrawS, dnodes_bad O p t d]; simp, Ag.refl _ _⟩
/-- A thread takes a ticket. -/
theorem draws_ok {O : Mo} {km kb : Nat} {W : List Int} {p t th v : Int} (hp : 1 ≤ p ∧ p ≤ 511) (ht : 1 ≤ t ∧ t ≤ 17) (h1 : 0 ≤ th) (h2 : th < t) (m : MemW O km kb W) (len : 16 + 128 * p + t * 6 ≤ W.length) (h5 : W[5]? = some 0) (h7 : W[7]? = some v) (v0 : 0 ≤ v ∧ v ≤ 4611686018427387904) :
    ∃ O', drawsS [.agg [.int .i64 p, .int .i64 t], .ref 0 km 0, .int .i64 th, .int .u64 (v + 1)] O = some (.bool true, O') ∧ Ag O O' [kb] ∧ MemW O' km kb (tkW (16 + 128 * p) th v W) := by
  obtain ⟨O1, e1, g1, d1⟩ := newDraw_ok O p t th hp ht h1 h2
  obtain ⟨O2, e2, g2, m2, d2⟩ := runD_ok (most := 60) 60 0 false O1 W _ dp0 _ _ (by omega) (by omega) (m.ag g1 (by simp) (by simp)) d1 (draw_alone (by omega) len h5 h7 h1 h2 v0 53 false)
  have hr : run32S [.iface 96 (.ref 0 (O.length + 3) 0), .ref 0 km 0, .int .i64 60] O1 = some (.tup [.bool true, .bool false], O2) := by
    simp only [decide_true] at e2
    have : (60 : Int) ≤ 1000 := by omega
    simp only [run32S, if_pos this, show (60 : Int).toNat = 60 from rfl, e2]
  have hK := d2.K
  unfold dwB dnow at hK
  have e3 : drawResS [.ref 0 (O.length + 3) 0] O2 = some (.int .u64 (v + 1), O2) := by simp [drawResS, hK, relT]
  have := g1.1
  refine ⟨O2, by simp only [drawsS, e1, if_true, hr, e3], ⟨by have := g2.1; omega, fun j hj hl => ?_⟩, m2⟩
  rw [g2.2 j (by omega) (by simp at hl ⊢; omega), g1.2 j hj (by simp)]
/-- Nothing else is changed. -/
theorem drawsIn_ok {O : Mo} {km kb kc kcb : Nat} {W1 W2 : List Int} {p t nn i next : Int} {tv : AV} {K : Int → Int → Mo → Option (AV × Mo)} (m1 : MemW O kc kcb W1) (m2 : MemW O km kb W2) (hn : nn ≤ W1.length) (hl : W2.length = W1.length) (h7 : W2[7]? = some next)
    (he : ∀ j : Nat, (j : Int) < nn → j ≠ 7 → W2[j]? = W1[j]?) : ∀ (m : Nat) (w : Int), 0 ≤ w → nn < w + m → w ≤ nn → drawsIn km kc p t nn i next tv K m w O = K (i + 1) next O
  | 0, w, h0, h1, h2 => by omega
  | m + 1, w, h0, h1, h2 => by
    by_cases hw : w < nn
    · obtain ⟨x, hx⟩ := get_of_lt (W := W1) (i := w.toNat) (by omega)
      obtain ⟨y, hy⟩ := get_of_lt (W := W2) (i := w.toNat) (by omega)
      have e1 := do_load m1 h0 hx
      have e2 := do_load m2 h0 hy
      unfold acc at e1 e2
      by_cases h77 : w - 7 = 0
      · have : y = next := by
          have hw7 : w.toNat = 7 := by omega
          rw [hw7, h7] at hy; cases hy; rfl
        simp only [drawsIn, if_pos hw, if_pos h0, loadS, acc, e1, e2, if_true, if_pos h77, this]
        exact drawsIn_ok m1 m2 hn hl h7 he m (w + 1) (by omega) (by omega) (by omega)
      · have : x = y := by
          have := he w.toNat (by omega) (by omega)
          rw [hx, hy] at this; cases this; rfl
        simp only [drawsIn, if_pos hw, if_pos h0, loadS, acc, e1, e2, if_true, if_neg h77, this]
        exact drawsIn_ok m1 m2 hn hl h7 he m (w + 1) (by omega) (by omega) (by omega)
    · simp only [drawsIn, if_neg hw]
theorem drawsG_ok {km kb : Nat} {p t : Int} {tv : AV} {l : List Int} {L : Nat} (hp : 1 ≤ p ∧ p ≤ 20) (ht : 1 ≤ t ∧ t ≤ 17) (htv : ∀ O, rdI O tv = some l) (hl : l.length ≤ 20) (hL : 16 + 128 * p + t * 6 = L) :
    ∀ (m : Nat) (i next : Int) (O : Mo) (W : List Int), 0 ≤ i → i ≤ l.length → (l.length : Int) < i + m → 0 ≤ next → next ≤ 1152921504606846976 + i → MemW O km kb W → W.length = L → W[5]? = some 0 → W[7]? = some next →
    ∃ O', drawsG km p t tv m i next O = some (.bool true, O') := by
  intro m
  induction m with
  | zero => intro i next O W h0 h1 h2; omega
  | succ m ih =>
    intro i next O W h0 h1 h2 n0 n1 hM hW h5 h7
    by_cases hi : i < (l.length : Int)
    · obtain ⟨th, hth⟩ := get_of_lt (W := l) (i := i.toNat) (by omega)
      have hrec : ∀ O1, Ag O O1 [] → ∃ O', drawsG km p t tv m (i + 1) next O1 = some (.bool true, O') := fun O1 g1 =>
        ih (i + 1) next O1 W (by omega) (by omega) (by omega) n0 (by omega) (hM.ag g1 (by simp) (by simp)) hW h5 h7
      by_cases c1 : th < 0
      · obtain ⟨O1, e1, g1⟩ := newDraw_bad O p t th (by omega)
        obtain ⟨O', e⟩ := hrec O1 g1
        exact ⟨O', by simp only [drawsG, htv, if_pos hl, if_pos hi, if_pos h0, hth, if_pos c1, e1, if_true, e]⟩
      by_cases c2 : t ≤ th
      · obtain ⟨O1, e1, g1⟩ := newDraw_bad O p t th (by omega)
        obtain ⟨O', e⟩ := hrec O1 g1
        exact ⟨O', by simp only [drawsG, htv, if_pos hl, if_pos hi, if_pos h0, hth, if_neg c1, if_pos c2, e1, if_true, e]⟩
      · obtain ⟨O1, e1, m1, g1, l1⟩ := memcopy_ok hM (by omega)
        have M1 := hM.ag g1 (by simp) (by simp)
        obtain ⟨O2, e2, g2, M2⟩ := draws_ok (p := p) (t := t) (th := th) (v := next) ⟨hp.1, by omega⟩ ht (by omega) (by omega) M1 (by omega) h5 h7 (by omega)
        have hkb := lt_of_get hM.b
        have m2 := m1.ag g2 (by simp; omega) (by simp; omega)
        have e3 : dnS [.agg [.int .i64 p, .int .i64 t]] O2 = some (.int .i64 (16 + 128 * p), O2 ++ [.arr [.int .i64 (16 + 128 * p), .int .i64 t]]) := by
          simp only [dnS, dnodes_ok O2 p t ⟨hp.1, by omega⟩ ht, if_true, nbaseS, app_last, if_pos ht.1]
        have g3 := Ag.app O2 [.arr [.int .i64 (16 + 128 * p), .int .i64 t]] []
        have M3 := M2.ag g3 (by simp) (by simp)
        have m3 := m2.ag g3 (by simp) (by simp)
        have hlen := tkW_len (16 + 128 * p) th next W
        have k7 : (tkW (16 + 128 * p) th next W)[7]? = some (next + 1) := by
          unfold tkW; rw [List.getElem?_set_ne (by omega), List.getElem?_set_self (by rw [lockD_len]; omega)]
        have k5 : (tkW (16 + 128 * p) th next W)[5]? = some 0 := by
          unfold tkW; rw [List.getElem?_set_self (by rw [List.length_set, lockD_len]; omega)]
        have e4 := drawsIn_ok (p := p) (t := t) (nn := 16 + 128 * p) (i := i) (next := next + 1) (tv := tv) (K := fun i next O => drawsG km p t tv m i next O) m3 M3 (by omega) hlen k7 (fun j hj h7' => by
          by_cases h5' : j = 5
          · rw [h5', k5, h5]
          · exact tkW_ne (by omega) (by omega) h5' h7') 70001 0 (by omega) (by omega) (by omega)
        obtain ⟨O', e5⟩ := ih (i + 1) (next + 1) _ _ (by omega) (by omega) (by omega) (by omega) (by omega) M3 (by rw [hlen]; exact hW) k5 k7
        have a1 : 0 ≤ next ∧ next ≤ 2305843009213693952 := by omega
        have a2 : (16 + 128 * p) ≤ 70000 := by omega
        refine ⟨O', ?_⟩
        simp only [drawsG, htv, if_pos hl, if_pos hi, if_pos h0, hth, if_neg c1, if_neg c2, e1, if_pos a1, e2, e3, if_pos a2, e4, e5]
    · exact ⟨O, by simp only [drawsG, htv, if_pos hl, if_neg hi, known32S]⟩
theorem drawsB_ok {ee p t : Int} {tv : AV} {l : List Int} (hb : ¬ (1 ≤ p ∧ p ≤ 511 ∧ 1 ≤ t ∧ t ≤ 17)) (htv : ∀ O, rdI O tv = some l) (hl : l.length ≤ 20) :
    ∀ (m : Nat) (i : Int) (O : Mo), 0 ≤ i → i ≤ l.length → (l.length : Int) < i + m → ∃ O', drawsB ee p t tv m i O = some (.bool true, O') := by
  intro m
  induction m with
  | zero => intro i O h0 h1 h2; omega
  | succ m ih =>
    intro i O h0 h1 h2
    by_cases hi : i < (l.length : Int)
    · obtain ⟨th, hth⟩ := get_of_lt (W := l) (i := i.toNat) (by omega)
      obtain ⟨O1, e1, g1⟩ := newDraw_bad O p t th (by omega)
      obtain ⟨O', e⟩ := ih (i + 1) O1 (by omega) (by omega) (by omega)
      exact ⟨O', by simp only [drawsB, htv, if_pos hl, if_pos hi, if_pos h0, hth, e1, if_true, e]⟩
    · exact ⟨O, by simp only [drawsB, htv, if_pos hl, if_neg hi, known32S]⟩
theorem tdrawsS_true (p t fr : Int) (tv : AV) (l : List Int) (htv : ∀ O, rdI O tv = some l) (f0 : 0 ≤ fr) : ∃ O', tdrawsS [.agg [.int .i64 p, .int .i64 t], .int .u64 fr, tv] [] = some (.bool true, O') := by
  by_cases c1 : 20 < (l.length : Int)
  · exact ⟨[], by simp only [tdrawsS, htv, if_pos c1, known32S]⟩
  by_cases c2 : 1152921504606846976 < fr
  · exact ⟨[], by simp only [tdrawsS, htv, if_neg c1, if_pos c2, known32S]⟩
  by_cases d : 1 ≤ p ∧ p ≤ 511 ∧ 1 ≤ t ∧ t ≤ 17
  · obtain ⟨km, kb, O1, W, e1, M1, w1, G1, L1, L2⟩ := format_ok [] p t ⟨d.1, d.2.1⟩ d.2.2
    by_cases c3 : 20 < p
    · exact ⟨O1, by simp only [tdrawsS, htv, if_neg c1, if_neg c2, e1, if_true, if_pos c3, known32S]⟩
    have h7 : W[(7 : Int).toNat]? = some 0 := by rw [show (7 : Int).toNat = 7 from rfl, w1.get 7 (by omega), fmtG_mid (by omega) (by omega)]
    have e2 := do_store (v := fr) M1 (w := 7) (by omega) h7
    unfold acc at e2
    have M2 := M1.set 7 fr
    obtain ⟨O', e3⟩ := drawsG_ok (L := W.length) ⟨d.1, by omega⟩ d.2.2 htv (by omega) (by rw [w1.len]; omega) 50 0 fr _ _ (by omega) (by omega) (by omega) f0 (by omega) M2 (by simp) (by
      rw [List.getElem?_set_ne (by omega), w1.get 5 (by omega), fmtG_mid (by omega) (by omega)]) (by
      rw [List.getElem?_set_self (by rw [w1.len]; omega)])
    exact ⟨O', by simp only [tdrawsS, htv, if_neg c1, if_neg c2, e1, if_true, if_neg c3, storeS, acc, e2]; exact e3⟩
  · obtain ⟨O', e3⟩ := drawsB_ok (ee := 2) d htv (by omega) 50 0 [] (by omega) (by omega) (by omega)
    have c0 : ¬ (2 : Int) = 0 := by omega
    exact ⟨O', by simp only [tdrawsS, htv, if_neg c1, if_neg c2, format_bad [] p t d, if_neg c0, e3]⟩
/-- A slice of integers, as an argument. -/
theorem shp_ints {cs : List AV} (h : Shp (.slice (.int .i64)) cs) : ∃ (v : AV) (l : List Int), cs = [v] ∧ ∀ O, rdI O v = some l := by
  rcases h with rfl | ⟨L, rfl, _, hL⟩
  · exact ⟨.nils, [], rfl, fun O => rfl⟩
  · have : ∀ L : List (List AV), (∀ x ∈ L, Shp (.int .i64) x) → ∃ l : List Int, L.flatten = ints l ∧ l.length = L.length := by
      intro L
      induction L with
      | nil => intro _; exact ⟨[], rfl, rfl⟩
      | cons x L ih =>
        intro hx
        obtain ⟨l, e, hl⟩ := ih (fun y hy => hx y (by simp [hy]))
        obtain ⟨n, rfl, _⟩ := hx x (by simp)
        exact ⟨n :: l, by rw [List.flatten_cons, e]; rfl, by simp [hl]⟩
    obtain ⟨l, e, hl⟩ := this L hL
    exact ⟨_, l, rfl, fun O => by rw [e, ← hl]; exact rdI_isl O l⟩
/-- The law. -/
theorem ticketDraws_law (a0 a1 a2 : List AV) (s0 : Shp (.cat (.int .i64) (.cat (.int .i64) .unit)) a0) (s1 : Shp (.int .u64) a1) (s2 : Shp (.slice (.int .i64)) a2) :
    ∃ O' S', CallOk Tryz.prog 9 [parV (.cat (.int .i64) (.cat (.int .i64) .unit)) a0, parV (.int .u64) a1, parV (.slice (.int .i64)) a2] [] [] (.bool true) O' S' := by
  obtain ⟨c1, c2, rfl, ⟨p, rfl, _⟩, ⟨c3, c4, rfl, ⟨t, rfl, _⟩, rfl⟩⟩ := s0
  obtain ⟨fr, rfl, w1⟩ := s1
  obtain ⟨v, l, rfl, hv⟩ := shp_ints s2
  have b3 : 0 ≤ fr := by simp [Lit.wf, IntKind.min, IntKind.max, IntKind.signed, IntKind.bits] at w1; omega
  obtain ⟨O', h⟩ := tdrawsS_true p t fr v l hv b3
  exact ⟨O', [], tdrawsS_ok _ [] _ _ h []⟩
end Den
